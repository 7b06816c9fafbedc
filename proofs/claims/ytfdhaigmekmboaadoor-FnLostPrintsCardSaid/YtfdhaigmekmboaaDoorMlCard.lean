/- What the row's condition gives the walks: one cell of the library's table. -/
import Derived.Test.YtfdhaigmekmboaaDoorMg2
import Derived.Test.YtfdhaigmekmboaaDoorRows
import Derived.ProofKit
import Derived.LaidMore
import Derived.OpenShut
import Derived.MakeChecks
namespace Go.Proofs.YtfdhaigmekmboaaDoor
open Go.RowKit

set_option maxRecDepth 100000 in
theorem of_laid {W : World} (h : laidMetH Tryd.prog [("math/bits.deBruijn32tab", Rows.laid_math_bits_deBruijn32tab), ("math/bits.deBruijn64tab", Rows.laid_math_bits_deBruijn64tab), ("internal/strconv.uint64pow10", Rows.laid_internal_strconv_uint64pow10)] W) : Glob W := by
  rw [MakeChecks.laidMetH_plain _ _ _ (by kernel_rfl)] at h
  obtain ⟨ps, ⟨g0, t0, cs0, f0, p0, q0, hg0, ht0, hv0, hd0, ⟨g1, t1, cs1, f1, p1, q1, hg1, ht1, hv1, hd1, _, _⟩, _⟩, _, _⟩ := h
  obtain rfl := Option.some.inj ((show Tryd.prog.globalNamed "math/bits.deBruijn64tab" = some 3 by kernel_rfl).symm.trans hg1)
  obtain rfl := Option.some.inj ((show (Tryd.prog.globals[3]?).map (·.type) = some 111 by kernel_rfl).symm.trans ht1)
  obtain ⟨xs, m1, rfl, hx1, hlen, hn3, hel⟩ := DataW.trod_array Tryd.underlying111 hd1
  have h15 := hel 15 (by decide)
  rw [show Tryd.prog.cellsOf 5 = 1 by kernel_rfl] at h15
  obtain ⟨x15, hx15⟩ : ∃ x, xs[15]? = some x := ⟨xs[15]'(by omega), List.getElem?_eq_getElem _⟩
  rw [hx15] at h15
  obtain ⟨k, e1, e2, _⟩ := DataW.trod_int Tryd.underlying5 h15
  simp only [Prod.mk.injEq] at hx1
  have hk : (xs.map (·.1))[15]? = some (.lit (.int .u8 4)) := by
    have h2 : (match (Rows.laid_math_bits_deBruijn64tab (H := Unit)) with | .agg l => l[15]? | _ => Option.none) = some (.lit (.int .u8 4)) := by rfl
    rw [hx1.1] at h2
    exact h2
  rw [List.getElem?_map, hx15, e2] at hk
  have hk4 : k = 4 := by simpa using hk
  clear hd1 hel hlen hx1 hd0
  subst hk4
  have hc := World.var?_cell hg1 hv1 15
  unfold Glob
  rw [hc]
  have := congrArg (·[0]?) e1
  simpa [List.getElem?_take, List.getElem?_drop] using this

set_option maxRecDepth 100000 in
theorem door_met (os : Os) (args : Array Value) : laidMetH Tryd.prog [("math/bits.deBruijn32tab", Rows.laid_math_bits_deBruijn32tab), ("math/bits.deBruijn64tab", Rows.laid_math_bits_deBruijn64tab), ("internal/strconv.uint64pow10", Rows.laid_internal_strconv_uint64pow10)] ((World.doorLaid Tryd.prog 24 os).forCall (fun _ _ => 0) ⟨#[], args, []⟩).memory :=
  laidMetH_of_parts3 (fuel := 8) (laidMet_of_run' 8 (by kernel_rfl) (by kernel_rfl)) (by kernel_rfl) (by kernel_rfl)

end Go.Proofs.YtfdhaigmekmboaaDoor
