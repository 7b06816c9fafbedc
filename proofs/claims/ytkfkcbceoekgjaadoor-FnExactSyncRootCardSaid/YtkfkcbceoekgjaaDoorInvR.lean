/- The facts that a region's slots hold beside a reader; one operation's step. -/
import Derived.Test.YtkfkcbceoekgjaaDoorInv
import Derived.Test.YtkfkcbceoekgjaaDoorDrawT
namespace Go.Proofs.YtkfkcbceoekgjaaDoor
open Go.RowKit

section
variable {P : Program} {o : Oper} {a : Act} {w w' : World} {K : Act → World → Prop} {Q : Exit → Act → World → Prop} {v : Value}
theorem ev_get {a : Act} {t : Tmp} {v : Value} (h : a.eval (.tmp t) = v) : a.tmps[t]?.getD undef = v := by
  rw [← h]; simp [Act.eval]
theorem iv_val (hr : (execOp a.eval o).run P w = .ok (.value v) w') (h : K (a.put o.dst v) w') : o.wp P a w K Q := by
  unfold Oper.wp; rw [hr]; exact h
theorem iv_enter {f : FuncId} {args : Array Value} (hr : (execOp a.eval o).run P w = .ok (.enter f args) w) (h : Calls P f args w fun e w' => ∃ r, e = .returned r ∧ K (a.put o.dst r) w') : o.wp P a w K Q := by
  unfold Oper.wp; rw [hr]
  refine h.mono ?_
  rintro e w2 ⟨r, rfl, hk⟩
  exact hk
end



def Stable (g : Nat) (f : Value → World → Prop) : Prop := ∀ v w w', w.grownBy w' (some g) → f v w → f v w'
def isV (u : Value) : Value → World → Prop := fun v _ => v = u
def isT (B : Nat) : Value → World → Prop := fun v _ => ∃ s : ByteArray, v = .string s ∧ s.size ≤ B
def isI (lo hi : Int) : Value → World → Prop := fun v _ => ∃ x : Int, v = .int .i64 x ∧ lo ≤ x ∧ x ≤ hi
def isRow (g : Nat) (cs : Array Value) (t : TypeId) (n : Nat) : Value → World → Prop := fun v w => ∃ b, v = .slice (some ⟨b, 0, none⟩) n n ∧ b ≠ g ∧ w.heap[b]? = some (.cells cs t (0, 0))
def isAt (g : Nat) (R : Value → World → Prop) : Value → World → Prop := fun v w => ∃ b i u, v = .pointer (some ⟨b, i, none⟩) ∧ b ≠ g ∧ w.cell? ⟨b, i, none⟩ = some u ∧ R u w
theorem isV_st (g : Nat) (u : Value) : Stable g (isV u) := fun _ _ _ _ h => h
theorem isT_st (g B : Nat) : Stable g (isT B) := fun _ _ _ _ h => h
theorem isI_st (g : Nat) (lo hi : Int) : Stable g (isI lo hi) := fun _ _ _ _ h => h
theorem isRow_st (g : Nat) (cs : Array Value) (t : TypeId) (n : Nat) : Stable g (isRow g cs t n) := by
  rintro v w w' hg ⟨b, hv, hb, hh⟩
  exact ⟨b, hv, hb, (hg.block b (Array.getElem?_eq_some_iff.1 hh).1 (some_ne hb)).trans hh⟩
theorem cell_far {w w' : World} {g b i : Nat} {u : Value} (hg : w.grownBy w' (some g)) (hb : b ≠ g) (h : w.cell? ⟨b, i, none⟩ = some u) : w'.cell? ⟨b, i, none⟩ = some u := by
  unfold World.cell? at h ⊢
  cases hh : w.heap[b]? with
  | none => simp [hh] at h
  | some o =>
    have hlt := (Array.getElem?_eq_some_iff.1 hh).1
    have := (hg.block b hlt (some_ne hb)).trans hh
    simp only [hh] at h
    simp only [this]
    exact h
theorem isAt_st (g : Nat) (R : Value → World → Prop) (hR : Stable g R) : Stable g (isAt g R) := by
  rintro v w w' hg ⟨b, i, u, hv, hb, hc, hr⟩
  exact ⟨b, i, u, hv, hb, cell_far hg hb hc, hR u w w' hg hr⟩
/-- The i-th of a list of facts. -/
def fact (l : List (Value → World → Prop)) (i : Nat) : Value → World → Prop := l.getD i (fun _ _ => True)
theorem fact_st {g : Nat} {l : List (Value → World → Prop)} (h : ∀ f ∈ l, Stable g f) (i : Nat) (v : Value) (w w' : World) (hg : w.grownBy w' (some g)) (hf : fact l i v w) : fact l i v w' := by
  unfold fact at *
  rw [List.getD_eq_getElem?_getD] at *
  cases hi : l[i]? with
  | none => trivial
  | some f =>
    rw [hi] at hf
    exact h f (List.mem_of_getElem? hi) v w w' hg hf

end Go.Proofs.YtkfkcbceoekgjaaDoor
