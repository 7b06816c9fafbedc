/- What the great rows' condition gives the walks: one cell of the library's table, a number in the library's variable; and a world that bears the tables. -/
import Derived.Test.YtachfmlfmpaddaaGreatDoorMg8
import Derived.Test.YtachfmlfmpaddaaGreatDoorMg22
import Derived.Test.YtachfmlfmpaddaaGreatDoorRows
import Derived.ProofKit
import Derived.LaidMore
import Derived.OpenShut
import Derived.MakeChecks
import Derived.LaidLaws
import Derived.Lay
import Derived.LaidOnce
import Derived.Handed
import Derived.Shelf.Vars
import Derived.JoinedOf
namespace Go.Proofs.YtachfmlfmpaddaaGreatDoor
open Go.RowKit

/-- The tables that the rows list. -/
def great : List (String × DataW Unit) := [("math/bits.deBruijn32tab", Rows.laid_math_bits_deBruijn32tab), ("math/bits.deBruijn64tab", Rows.laid_math_bits_deBruijn64tab), ("internal/strconv.uint64pow10", Rows.laid_internal_strconv_uint64pow10), ("unicode/utf8.acceptRanges", Rows.laid_unicode_utf8_acceptRanges), ("unicode/utf8.first", Rows.laid_unicode_utf8_first)]

set_option maxRecDepth 100000 in
theorem of_laid {W : World} (h : laidMetH Tryz.prog great W) : Glob W := by
  rw [MakeChecks.laidMetH_plain _ _ _ (by kernel_rfl)] at h
  obtain ⟨ps, ⟨g0, t0, cs0, f0, p0, q0, hg0, ht0, hv0, hd0, ⟨g1, t1, cs1, f1, p1, q1, hg1, ht1, hv1, hd1, _, _⟩, _⟩, _, _⟩ := h
  obtain rfl := Option.some.inj ((show Tryz.prog.globalNamed "math/bits.deBruijn64tab" = some 5 by kernel_rfl).symm.trans hg1)
  obtain rfl := Option.some.inj ((show (Tryz.prog.globals[5]?).map (·.type) = some 176 by kernel_rfl).symm.trans ht1)
  obtain ⟨xs, m1, rfl, hx1, hlen, hn3, hel⟩ := DataW.trod_array Tryz.underlying176 hd1
  have h15 := hel 15 (by decide)
  rw [show Tryz.prog.cellsOf 5 = 1 by kernel_rfl] at h15
  obtain ⟨x15, hx15⟩ : ∃ x, xs[15]? = some x := ⟨xs[15]'(by omega), List.getElem?_eq_getElem _⟩
  rw [hx15] at h15
  obtain ⟨k, e1, e2, _⟩ := DataW.trod_int Tryz.underlying5 h15
  simp only [Prod.mk.injEq] at hx1
  have hk : (xs.map (·.1))[15]? = some (.lit (.int .u8 4)) := by
    have h2 : (match (Rows.laid_math_bits_deBruijn64tab (H := Unit)) with | .agg l => l[15]? | _ => Option.none) = some (.lit (.int .u8 4)) := by rfl
    rw [hx1.1] at h2
    exact h2
  rw [List.getElem?_map, hx15, e2] at hk
  have hk4 : k = 4 := by simpa using hk
  clear hd1 hel hlen hx1 hd0
  subst hk4
  have hc := World.var?_cell hg1 hv1 15
  unfold Glob
  rw [hc]
  have := congrArg (·[0]?) e1
  simpa [List.getElem?_take, List.getElem?_drop] using this

theorem of_shape {W : World} (h : W.ShapedOpen Tryz.prog) : Mx W :=
  cell_of_shapedOpen_int (t := 3) (zero := #[.int .i64 0]) (k := .i64) h (of_decide_eq_true (by kernel_rfl)) (by kernel_rfl) (by rfl) (by kernel_rfl) (by kernel_rfl) Tryz.underlying3

set_option maxRecDepth 100000 in
theorem great_met (os : Os) (args : Array Value) : laidMetH Tryz.prog great ((World.laidAll Tryz.prog os great).forCall (fun _ _ => 0) ⟨#[], args, []⟩).memory := by
  rw [MakeChecks.laidMetH_plain _ _ _ (by kernel_rfl)]
  exact laidMet_laidAll _ (by kernel_rfl) (by kernel_rfl)

set_option maxRecDepth 100000 in
theorem great_shaped (os : Os) (args : Array Value) : ((World.laidAll Tryz.prog os great).forCall (fun _ _ => 0) ⟨#[], args, []⟩).Shaped Tryz.prog :=
  World.shaped_of_ZipB (by kernel_rfl) (by kernel_rfl)

section
variable {H : Type} {enc : TypeId × Value → H}
/-- The wrap with a condition on the tables, the world's shape kept. -/
theorem handed_and_shaped {a : Assume} {C : Checked} {os : Os} {f : FuncId} {fn : Func} {s : ChangeSpec} {conds : List PathCond} {apart fresh handsOn again : Bool} {X : World → Array Value → Prop}
    (hX : ∀ (w w' : World) (args : Array Value), w.heap = w'.heap → X w args → X w' args)
    (own : ownKnob C.prog.godebug = none) (started : os.Started) (noInit : C.prog.inits.idxOf? f = none) (hfn : C.prog.funcs[f]? = some fn)
    (witness : ∃ (w : World) (tape : Tape) (i : Input), w.os = os ∧ (w.forCall tape i).Shaped C.prog ∧ i.vars = [] ∧ Input.okWide C.prog (w.forCall tape i) .any w.heap.size f i ∧
      ((s.pre enc C.prog fn conds apart (w.forCall tape i).memory i.args ∧ X (w.forCall tape i).memory i.args) ∧ sizedMet enc C.prog fn (OpenSpec.ofChange s) apart (w.forCall tape i).memory i.args) ∧ a.holds C.prog (lone (Frame.enter C.prog f i.args .normal) [] (w.forCall tape i)))
    (contract : ∀ (W : World) (base : Nat) (args : Array Value) (ds gs : List (DataW H)) (before : List MemPlace),
      (∀ (j : Nat) t v, fn.params[j]? = some t → args[j]? = some v → Value.okWide C.prog W .any base t v) →
      DataW.Whole enc C.prog fn.params.toList s.vars apart W args.toList ds gs before →
      X W args → W.ShapedOpen C.prog →
      Calls C.prog f args W fun e W' => ∃ v, e = .returned v ∧ s.post enc C.prog fn apart fresh handsOn again W args v W') :
    ReturnsInHanded a C os f .any (fun w args => (s.pre enc C.prog fn conds apart w args ∧ X w args) ∧ sizedMet enc C.prog fn (OpenSpec.ofChange s) apart w args) (s.post enc C.prog fn apart fresh handsOn again) := by
  refine returnsInHanded_of_calls own started noInit witness ?_
  intro w tape i _ hsh _ hok hpre _
  obtain ⟨_, _, _, fn', hfn', _, _, _, _, hval⟩ := hok
  have e : fn' = fn := Option.some.inj (hfn'.symm.trans hfn)
  subst e
  obtain ⟨⟨⟨ds, gs, before, hw, _⟩, hx⟩, _⟩ := hpre
  have hw' := DataW.Whole.of_heap (w' := w.forCall tape i) (by rfl) hw
  refine (contract (w.forCall tape i) w.heap.size i.args ds gs before hval hw' (hX _ _ _ (by rfl) hx) hsh).mono fun e W' ⟨v, he, hp⟩ => ?_
  subst he
  exact ChangeSpec.post_blind hp
end

/-! ### Closed facts of the program, each by itself: together they outgrow the kernel's lid -/
theorem andB {a b : Bool} (ha : a = true) (hb : b = true) : (a && b) = true := by rw [ha, hb]; rfl
theorem g_own : ownKnob Tryz.prog.godebug = none := by kernel_rfl
theorem g_laidOut : laidOutB Tryz.prog = true := by kernel_rfl
theorem g_mapsRowed : mapsRowed Tryz.prog = true := by kernel_rfl
theorem g_stops : (Tryz.prog.stops == []) = true := by kernel_rfl
theorem g_stopKnobs : (Tryz.prog.stopKnobs == []) = true := by kernel_rfl
theorem g_heard : Tryz.prog.stopsHeard = true := by kernel_rfl
theorem g_enter : Tryz.prog.mayEnter = true := by kernel_rfl
theorem g_lifts : (Rows.fnSyncRootRow.lifted == Tryz.prog.liftsFinal) = true := by kernel_rfl
theorem g_keys : (Rows.fnSyncRootRow.plainKeys == Tryz.prog.plainKeys) = true := by kernel_rfl
theorem g_make : (Tryz.prog.make == some Rows.fnSyncRootRow.make) = true := by kernel_rfl

end Go.Proofs.YtachfmlfmpaddaaGreatDoor
