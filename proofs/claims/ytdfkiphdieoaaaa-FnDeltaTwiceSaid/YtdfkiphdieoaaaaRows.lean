/-
  No cell of these rows narrows 'for every input' (looked for: loops, veiled, ifaces, maps, wideKeys, modest, calm, conditions, laid).
  DERIVED. THE GIVEN ROWS OF THIS SEAT. 9 by the template 'for every input the law returns true; each argument reads behind the call as it read before'; 0 by the template 'total and deterministic' (their statements: YtdfkiphdieoaaaaTotals.lean).
  GIVEN WITH THE SEED: the statements are not yours to turn. If you find one false, say at which input.
  Laid BY PROGRAM, IN A SANDBOX (cutbox-rows.mjs): the forced cells as the released guide's own fill.sh prints them over the translation fa034da3d83a1382… (all of the seat's roots in one cut). By AI agents, Wed Nov 11 2026. No macro, syntax, notation, axiom, sorry.
-/
import Derived.Test.YtdfkiphdieoaaaaChecked
import GoSem.Claim
import GoSem.ClaimJoined
import GoSem.ClaimMapViews
import Derived.JoinedTies
import Derived.KernelRfl
namespace Go.Proofs.Ytdfkiphdieoaaaa
/- THE CELL 'sum', in the pinned program and in every row, IS THE sha256 OF THE DUMP (.gsa) THAT YtdfkiphdieoaaaaProg.lean LOADS. Nothing in Lean hashes anything: it is a label: what it is worth is what the hold of that sum in a sandbox is worth. -/
noncomputable def Try.pinned : Pinned := { name := "ytdfkiphdieoaaaa", sum := "fa034da3d83a138271c1a0994e88d3c8b554a312f48f1a0bcbbcb8a097d8bae8", checked := Try.checked }
namespace Rows
def none {H : Type} : Left H := { results := [], args := [] }

/-- 'laws.FnExactApplyDelta': WHATEVER THE INPUT: true; the input reads as it did. -/
def fnExactApplyDeltaSpec : ChangeSpec := { name := "fnExactApplyDelta", fn := fun _ => fun
  | [d1, d2] => { results := [.lit (.bool true)], args := [d1, d2] }
  | _ => none }
def fnExactApplyDeltaRow : OpenClaim := { program := "ytdfkiphdieoaaaa", sum := "fa034da3d83a138271c1a0994e88d3c8b554a312f48f1a0bcbbcb8a097d8bae8", func := "loop.example/proofarchive/laws.FnExactApplyDelta", spec := "fnExactApplyDelta", apart := false }
def FnExactApplyDeltaSaid : Prop := fnExactApplyDeltaRow.holds Try.pinned (OpenSpec.ofChange fnExactApplyDeltaSpec)

/-- ITS FALSE NEIGHBOUR: 'it returns false'. Refute it at one input. -/
def fnExactApplyDeltaWrong : ChangeSpec := { name := "fnExactApplyDelta", fn := fun _ => fun
  | [d1, d2] => { results := [.lit (.bool false)], args := [d1, d2] }
  | _ => none }
def FnExactApplyDeltaWrongFalsely : Prop := fnExactApplyDeltaRow.holds Try.pinned (OpenSpec.ofChange fnExactApplyDeltaWrong)

/-- 'laws.FnExactDeltaOf': WHATEVER THE INPUT: true; the input reads as it did. -/
def fnExactDeltaOfSpec : ChangeSpec := { name := "fnExactDeltaOf", fn := fun _ => fun
  | [d1, d2] => { results := [.lit (.bool true)], args := [d1, d2] }
  | _ => none }
def fnExactDeltaOfRow : OpenClaim := { program := "ytdfkiphdieoaaaa", sum := "fa034da3d83a138271c1a0994e88d3c8b554a312f48f1a0bcbbcb8a097d8bae8", func := "loop.example/proofarchive/laws.FnExactDeltaOf", spec := "fnExactDeltaOf", apart := false }
def FnExactDeltaOfSaid : Prop := fnExactDeltaOfRow.holds Try.pinned (OpenSpec.ofChange fnExactDeltaOfSpec)

/-- ITS FALSE NEIGHBOUR: 'it returns false'. Refute it at one input. -/
def fnExactDeltaOfWrong : ChangeSpec := { name := "fnExactDeltaOf", fn := fun _ => fun
  | [d1, d2] => { results := [.lit (.bool false)], args := [d1, d2] }
  | _ => none }
def FnExactDeltaOfWrongFalsely : Prop := fnExactDeltaOfRow.holds Try.pinned (OpenSpec.ofChange fnExactDeltaOfWrong)

/-- 'laws.FnExactDeltaCost': WHATEVER THE INPUT: true; the input reads as it did. -/
def fnExactDeltaCostSpec : ChangeSpec := { name := "fnExactDeltaCost", fn := fun _ => fun
  | [d1, d2] => { results := [.lit (.bool true)], args := [d1, d2] }
  | _ => none }
def fnExactDeltaCostRow : OpenClaim := { program := "ytdfkiphdieoaaaa", sum := "fa034da3d83a138271c1a0994e88d3c8b554a312f48f1a0bcbbcb8a097d8bae8", func := "loop.example/proofarchive/laws.FnExactDeltaCost", spec := "fnExactDeltaCost", apart := false }
def FnExactDeltaCostSaid : Prop := fnExactDeltaCostRow.holds Try.pinned (OpenSpec.ofChange fnExactDeltaCostSpec)

/-- ITS FALSE NEIGHBOUR: 'it returns false'. Refute it at one input. -/
def fnExactDeltaCostWrong : ChangeSpec := { name := "fnExactDeltaCost", fn := fun _ => fun
  | [d1, d2] => { results := [.lit (.bool false)], args := [d1, d2] }
  | _ => none }
def FnExactDeltaCostWrongFalsely : Prop := fnExactDeltaCostRow.holds Try.pinned (OpenSpec.ofChange fnExactDeltaCostWrong)

/-- 'laws.FnExactTurnDelta': WHATEVER THE INPUT: true; the input reads as it did. -/
def fnExactTurnDeltaSpec : ChangeSpec := { name := "fnExactTurnDelta", fn := fun _ => fun
  | [d1, d2] => { results := [.lit (.bool true)], args := [d1, d2] }
  | _ => none }
def fnExactTurnDeltaRow : OpenClaim := { program := "ytdfkiphdieoaaaa", sum := "fa034da3d83a138271c1a0994e88d3c8b554a312f48f1a0bcbbcb8a097d8bae8", func := "loop.example/proofarchive/laws.FnExactTurnDelta", spec := "fnExactTurnDelta", apart := false }
def FnExactTurnDeltaSaid : Prop := fnExactTurnDeltaRow.holds Try.pinned (OpenSpec.ofChange fnExactTurnDeltaSpec)

/-- ITS FALSE NEIGHBOUR: 'it returns false'. Refute it at one input. -/
def fnExactTurnDeltaWrong : ChangeSpec := { name := "fnExactTurnDelta", fn := fun _ => fun
  | [d1, d2] => { results := [.lit (.bool false)], args := [d1, d2] }
  | _ => none }
def FnExactTurnDeltaWrongFalsely : Prop := fnExactTurnDeltaRow.holds Try.pinned (OpenSpec.ofChange fnExactTurnDeltaWrong)

/-- 'laws.FnDeltaOf': WHATEVER THE INPUT: true; the input reads as it did. -/
def fnDeltaOfSpec : ChangeSpec := { name := "fnDeltaOf", fn := fun _ => fun
  | [d] => { results := [.lit (.bool true)], args := [d] }
  | _ => none }
def fnDeltaOfRow : OpenClaim := { program := "ytdfkiphdieoaaaa", sum := "fa034da3d83a138271c1a0994e88d3c8b554a312f48f1a0bcbbcb8a097d8bae8", func := "loop.example/proofarchive/laws.FnDeltaOf", spec := "fnDeltaOf", apart := false }
def FnDeltaOfSaid : Prop := fnDeltaOfRow.holds Try.pinned (OpenSpec.ofChange fnDeltaOfSpec)

/-- ITS FALSE NEIGHBOUR: 'it returns false'. Refute it at one input. -/
def fnDeltaOfWrong : ChangeSpec := { name := "fnDeltaOf", fn := fun _ => fun
  | [d] => { results := [.lit (.bool false)], args := [d] }
  | _ => none }
def FnDeltaOfWrongFalsely : Prop := fnDeltaOfRow.holds Try.pinned (OpenSpec.ofChange fnDeltaOfWrong)

/-- 'laws.FnDeltaTwice': WHATEVER THE INPUT: true; the input reads as it did. -/
def fnDeltaTwiceSpec : ChangeSpec := { name := "fnDeltaTwice", fn := fun _ => fun
  | [d] => { results := [.lit (.bool true)], args := [d] }
  | _ => none }
def fnDeltaTwiceRow : OpenClaim := { program := "ytdfkiphdieoaaaa", sum := "fa034da3d83a138271c1a0994e88d3c8b554a312f48f1a0bcbbcb8a097d8bae8", func := "loop.example/proofarchive/laws.FnDeltaTwice", spec := "fnDeltaTwice", apart := false }
def FnDeltaTwiceSaid : Prop := fnDeltaTwiceRow.holds Try.pinned (OpenSpec.ofChange fnDeltaTwiceSpec)

/-- ITS FALSE NEIGHBOUR: 'it returns false'. Refute it at one input. -/
def fnDeltaTwiceWrong : ChangeSpec := { name := "fnDeltaTwice", fn := fun _ => fun
  | [d] => { results := [.lit (.bool false)], args := [d] }
  | _ => none }
def FnDeltaTwiceWrongFalsely : Prop := fnDeltaTwiceRow.holds Try.pinned (OpenSpec.ofChange fnDeltaTwiceWrong)

/-- 'laws.FnDeltaCost': WHATEVER THE INPUT: true; the input reads as it did. -/
def fnDeltaCostSpec : ChangeSpec := { name := "fnDeltaCost", fn := fun _ => fun
  | [d] => { results := [.lit (.bool true)], args := [d] }
  | _ => none }
def fnDeltaCostRow : OpenClaim := { program := "ytdfkiphdieoaaaa", sum := "fa034da3d83a138271c1a0994e88d3c8b554a312f48f1a0bcbbcb8a097d8bae8", func := "loop.example/proofarchive/laws.FnDeltaCost", spec := "fnDeltaCost", apart := false }
def FnDeltaCostSaid : Prop := fnDeltaCostRow.holds Try.pinned (OpenSpec.ofChange fnDeltaCostSpec)

/-- ITS FALSE NEIGHBOUR: 'it returns false'. Refute it at one input. -/
def fnDeltaCostWrong : ChangeSpec := { name := "fnDeltaCost", fn := fun _ => fun
  | [d] => { results := [.lit (.bool false)], args := [d] }
  | _ => none }
def FnDeltaCostWrongFalsely : Prop := fnDeltaCostRow.holds Try.pinned (OpenSpec.ofChange fnDeltaCostWrong)

/-- 'laws.FnApplyDelta': WHATEVER THE INPUT: true; the input reads as it did. -/
def fnApplyDeltaSpec : ChangeSpec := { name := "fnApplyDelta", fn := fun _ => fun
  | [d] => { results := [.lit (.bool true)], args := [d] }
  | _ => none }
def fnApplyDeltaRow : OpenClaim := { program := "ytdfkiphdieoaaaa", sum := "fa034da3d83a138271c1a0994e88d3c8b554a312f48f1a0bcbbcb8a097d8bae8", func := "loop.example/proofarchive/laws.FnApplyDelta", spec := "fnApplyDelta", apart := false }
def FnApplyDeltaSaid : Prop := fnApplyDeltaRow.holds Try.pinned (OpenSpec.ofChange fnApplyDeltaSpec)

/-- ITS FALSE NEIGHBOUR: 'it returns false'. Refute it at one input. -/
def fnApplyDeltaWrong : ChangeSpec := { name := "fnApplyDelta", fn := fun _ => fun
  | [d] => { results := [.lit (.bool false)], args := [d] }
  | _ => none }
def FnApplyDeltaWrongFalsely : Prop := fnApplyDeltaRow.holds Try.pinned (OpenSpec.ofChange fnApplyDeltaWrong)

/-- 'laws.FnTurnDelta': WHATEVER THE INPUT: true; the input reads as it did. -/
def fnTurnDeltaSpec : ChangeSpec := { name := "fnTurnDelta", fn := fun _ => fun
  | [d] => { results := [.lit (.bool true)], args := [d] }
  | _ => none }
def fnTurnDeltaRow : OpenClaim := { program := "ytdfkiphdieoaaaa", sum := "fa034da3d83a138271c1a0994e88d3c8b554a312f48f1a0bcbbcb8a097d8bae8", func := "loop.example/proofarchive/laws.FnTurnDelta", spec := "fnTurnDelta", apart := false }
def FnTurnDeltaSaid : Prop := fnTurnDeltaRow.holds Try.pinned (OpenSpec.ofChange fnTurnDeltaSpec)

/-- ITS FALSE NEIGHBOUR: 'it returns false'. Refute it at one input. -/
def fnTurnDeltaWrong : ChangeSpec := { name := "fnTurnDelta", fn := fun _ => fun
  | [d] => { results := [.lit (.bool false)], args := [d] }
  | _ => none }
def FnTurnDeltaWrongFalsely : Prop := fnTurnDeltaRow.holds Try.pinned (OpenSpec.ofChange fnTurnDeltaWrong)

/- THE SECOND FORM. 'bulk': how many values and letters a reading holds, each counted each time it is reached (what is shared counts as often as it is met; a slice's spare places count too). A statement '..UptoSaid' is the law's where the arguments, and the package variables that the reading takes, are together of bulk at most 1048576: NARROWER than '..Said'. Prove '..Said' where nothing that the law and all that it calls make is longer than what came in: it says more and counts as full. Else prove '..UptoSaid'. A law counts once. -/
mutual
def uptoBulk {H : Type} : DataW H → Nat
  | .lit (.string bytes) => bytes.length + 1
  | .lit _ => 1
  | .nil => 1
  | .ptr d => uptoBulk d + 1
  | .slice elems spare => uptoBulkAll elems + uptoBulkAll spare + 1
  | .agg parts => uptoBulkAll parts + 1
  | .iface _ d => uptoBulk d + 1
  | .map entries => uptoBulkEntries entries + 1
  | .held _ => 1
def uptoBulkAll {H : Type} : List (DataW H) → Nat
  | [] => 0
  | d :: r => uptoBulk d + uptoBulkAll r
def uptoBulkEntries {H : Type} : List (Lit × DataW H) → Nat
  | [] => 0
  | x :: r => uptoBulkEntry x + uptoBulkEntries r
def uptoBulkEntry {H : Type} : Lit × DataW H → Nat
  | (.string bytes, d) => bytes.length + uptoBulk d + 1
  | (_, d) => uptoBulk d + 1
 end
def uptoSmall : (H : Type) → List (DataW H) → Bool := fun _ ds => decide (uptoBulkAll ds ≤ 1048576)
def OpenSpec.upto (s : _root_.Go.ChangeSpec) : _root_.Go.OpenSpec := { _root_.Go.OpenSpec.ofChange s with cond := some uptoSmall }

/-- 'laws.FnExactApplyDelta', WHERE WHAT IT READS IS OF BULK AT MOST 1048576: true; the input reads as it did. -/
def fnExactApplyDeltaUptoRow : OpenClaim := { program := "ytdfkiphdieoaaaa", sum := "fa034da3d83a138271c1a0994e88d3c8b554a312f48f1a0bcbbcb8a097d8bae8", func := "loop.example/proofarchive/laws.FnExactApplyDelta", spec := "fnExactApplyDelta", apart := false, narrowed := true }
def FnExactApplyDeltaUptoSaid : Prop := fnExactApplyDeltaUptoRow.holds Try.pinned (OpenSpec.upto fnExactApplyDeltaSpec)

/-- 'laws.FnExactDeltaOf', WHERE WHAT IT READS IS OF BULK AT MOST 1048576: true; the input reads as it did. -/
def fnExactDeltaOfUptoRow : OpenClaim := { program := "ytdfkiphdieoaaaa", sum := "fa034da3d83a138271c1a0994e88d3c8b554a312f48f1a0bcbbcb8a097d8bae8", func := "loop.example/proofarchive/laws.FnExactDeltaOf", spec := "fnExactDeltaOf", apart := false, narrowed := true }
def FnExactDeltaOfUptoSaid : Prop := fnExactDeltaOfUptoRow.holds Try.pinned (OpenSpec.upto fnExactDeltaOfSpec)

/-- 'laws.FnExactDeltaCost', WHERE WHAT IT READS IS OF BULK AT MOST 1048576: true; the input reads as it did. -/
def fnExactDeltaCostUptoRow : OpenClaim := { program := "ytdfkiphdieoaaaa", sum := "fa034da3d83a138271c1a0994e88d3c8b554a312f48f1a0bcbbcb8a097d8bae8", func := "loop.example/proofarchive/laws.FnExactDeltaCost", spec := "fnExactDeltaCost", apart := false, narrowed := true }
def FnExactDeltaCostUptoSaid : Prop := fnExactDeltaCostUptoRow.holds Try.pinned (OpenSpec.upto fnExactDeltaCostSpec)

/-- 'laws.FnExactTurnDelta', WHERE WHAT IT READS IS OF BULK AT MOST 1048576: true; the input reads as it did. -/
def fnExactTurnDeltaUptoRow : OpenClaim := { program := "ytdfkiphdieoaaaa", sum := "fa034da3d83a138271c1a0994e88d3c8b554a312f48f1a0bcbbcb8a097d8bae8", func := "loop.example/proofarchive/laws.FnExactTurnDelta", spec := "fnExactTurnDelta", apart := false, narrowed := true }
def FnExactTurnDeltaUptoSaid : Prop := fnExactTurnDeltaUptoRow.holds Try.pinned (OpenSpec.upto fnExactTurnDeltaSpec)

/-- 'laws.FnDeltaOf', WHERE WHAT IT READS IS OF BULK AT MOST 1048576: true; the input reads as it did. -/
def fnDeltaOfUptoRow : OpenClaim := { program := "ytdfkiphdieoaaaa", sum := "fa034da3d83a138271c1a0994e88d3c8b554a312f48f1a0bcbbcb8a097d8bae8", func := "loop.example/proofarchive/laws.FnDeltaOf", spec := "fnDeltaOf", apart := false, narrowed := true }
def FnDeltaOfUptoSaid : Prop := fnDeltaOfUptoRow.holds Try.pinned (OpenSpec.upto fnDeltaOfSpec)

/-- 'laws.FnDeltaTwice', WHERE WHAT IT READS IS OF BULK AT MOST 1048576: true; the input reads as it did. -/
def fnDeltaTwiceUptoRow : OpenClaim := { program := "ytdfkiphdieoaaaa", sum := "fa034da3d83a138271c1a0994e88d3c8b554a312f48f1a0bcbbcb8a097d8bae8", func := "loop.example/proofarchive/laws.FnDeltaTwice", spec := "fnDeltaTwice", apart := false, narrowed := true }
def FnDeltaTwiceUptoSaid : Prop := fnDeltaTwiceUptoRow.holds Try.pinned (OpenSpec.upto fnDeltaTwiceSpec)

/-- 'laws.FnDeltaCost', WHERE WHAT IT READS IS OF BULK AT MOST 1048576: true; the input reads as it did. -/
def fnDeltaCostUptoRow : OpenClaim := { program := "ytdfkiphdieoaaaa", sum := "fa034da3d83a138271c1a0994e88d3c8b554a312f48f1a0bcbbcb8a097d8bae8", func := "loop.example/proofarchive/laws.FnDeltaCost", spec := "fnDeltaCost", apart := false, narrowed := true }
def FnDeltaCostUptoSaid : Prop := fnDeltaCostUptoRow.holds Try.pinned (OpenSpec.upto fnDeltaCostSpec)

/-- 'laws.FnApplyDelta', WHERE WHAT IT READS IS OF BULK AT MOST 1048576: true; the input reads as it did. -/
def fnApplyDeltaUptoRow : OpenClaim := { program := "ytdfkiphdieoaaaa", sum := "fa034da3d83a138271c1a0994e88d3c8b554a312f48f1a0bcbbcb8a097d8bae8", func := "loop.example/proofarchive/laws.FnApplyDelta", spec := "fnApplyDelta", apart := false, narrowed := true }
def FnApplyDeltaUptoSaid : Prop := fnApplyDeltaUptoRow.holds Try.pinned (OpenSpec.upto fnApplyDeltaSpec)

/-- 'laws.FnTurnDelta', WHERE WHAT IT READS IS OF BULK AT MOST 1048576: true; the input reads as it did. -/
def fnTurnDeltaUptoRow : OpenClaim := { program := "ytdfkiphdieoaaaa", sum := "fa034da3d83a138271c1a0994e88d3c8b554a312f48f1a0bcbbcb8a097d8bae8", func := "loop.example/proofarchive/laws.FnTurnDelta", spec := "fnTurnDelta", apart := false, narrowed := true }
def FnTurnDeltaUptoSaid : Prop := fnTurnDeltaUptoRow.holds Try.pinned (OpenSpec.upto fnTurnDeltaSpec)

end Rows
end Go.Proofs.Ytdfkiphdieoaaaa
