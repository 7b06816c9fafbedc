/- A region that draws its order, whose operations each give one value that is known, while the world keeps a law. No program in sight. -/
import Derived.Test.YtkfkcbceoekgjaaDoorInv2
import Derived.Test.YtkfkcbceoekgjaaDoorInvR
namespace Go.Proofs.YtkfkcbceoekgjaaDoor
open Go.RowKit

section
variable {P : Program} {ops : Array Oper}
theorem wp_region_vals {id : Nat} {Q : Exit → Act → World → Prop} {a0 : Act} {w0 : World} (hm : P.follows .mixedOrders = true) (hp : plainB ops = true) (hback : backB ops = true) (hptr : ptrB ops = true)
    (hdst : (ops.all fun o => match o.dst with | some t => decide (t < a0.tmps.size) | none => true) = true) (hs : (ops.all fun o => o.dst.isSome) = true)
    (J : World → Prop) (L : List Value) (hJ : J w0.drew)
    (hop : ∀ (i : Nat) (o : Oper), ops[i]? = some o → ∀ (a : Act) (w : World), J w →
      (∀ t, freshB ops i t = true → a.tmps.getD t undef = a0.tmps.getD t undef) →
      (∀ e ∈ o.after, Region.binds .any e = true → slotOf2 ops e.on a = L.getD e.on undef) →
      o.wp P a w (fun a' w' => a' = a.put o.dst (L.getD i undef) ∧ J w') Q)
    (hend : ∀ (tm : Array Value) (w : World), J w → (∀ (i : Nat) (o : Oper), ops[i]? = some o → slotOf2 ops i ⟨tm, a0.defers⟩ = L.getD i undef) → Q .normal ⟨refillL ops.toList a0.tmps tm, a0.defers⟩ w) :
    (Code.region id ops true).wp P Q a0 w0 := by
  refine wp_region_inv3 hm hp hback hptr hdst (fun _ w => J w) (fun _ _ => True) (fun i v _ => v = L.getD i undef) hJ (fun i v w w' _ h => h) ?_ ?_
  · intro i o hi n a w _ hj hb hd
    refine Oper.wp_mono ?_ (hop i o hi a w hj hb hd)
    rintro a' w' ⟨h1, h2⟩
    refine ⟨_, h1, h2, trivial, ?_⟩
    have hso : o.dst.isSome = true := by
      have := Array.all_eq_true.1 hs
      obtain ⟨hlt, rfl⟩ := Array.getElem?_eq_some_iff.1 hi
      exact this i hlt
    simp [hso]
  · intro tm w hj hF
    exact hend tm w hj hF
end
end Go.Proofs.YtkfkcbceoekgjaaDoor
