/-
  No cell of these rows narrows 'for every input' (looked for: loops, veiled, ifaces, maps, wideKeys, modest, calm, conditions, laid).
  DERIVED. THE GIVEN ROWS OF THIS SEAT. 10 by the template 'for every input the law returns true; each argument reads behind the call as it read before'; 0 by the template 'total and deterministic' (their statements: YtlkcbfolpfckgaaTotals.lean).
  GIVEN WITH THE SEED: the statements are not yours to turn. If you find one false, say at which input.
  Laid BY PROGRAM, IN A SANDBOX (cutbox-rows.mjs): the forced cells as the released guide's own fill.sh prints them over the translation 47aa40404e4b6ea4… (all of the seat's roots in one cut). By AI agents, Wed Nov 11 2026. No macro, syntax, notation, axiom, sorry.
-/
import Derived.Test.YtlkcbfolpfckgaaChecked
import GoSem.Claim
import GoSem.ClaimJoined
import GoSem.ClaimMapViews
import Derived.JoinedTies
import Derived.KernelRfl
namespace Go.Proofs.Ytlkcbfolpfckgaa
/- THE CELL 'sum', in the pinned program and in every row, IS THE sha256 OF THE DUMP (.gsa) THAT YtlkcbfolpfckgaaProg.lean LOADS. Nothing in Lean hashes anything: it is a label: what it is worth is what the hold of that sum in a sandbox is worth. -/
noncomputable def Try.pinned : Pinned := { name := "ytlkcbfolpfckgaa", sum := "47aa40404e4b6ea4aaa2f8487fc0c89a5e233b0c119448f475a6d3ec0c3d9c8b", checked := Try.checked }
namespace Rows
def none {H : Type} : Left H := { results := [], args := [] }

/-- 'laws.FnExactFilterJoin': WHATEVER THE INPUT: true; the input reads as it did. -/
def fnExactFilterJoinSpec : ChangeSpec := { name := "fnExactFilterJoin", fn := fun _ => fun
  | [d1, d2] => { results := [.lit (.bool true)], args := [d1, d2] }
  | _ => none }
def fnExactFilterJoinRow : OpenClaim := { program := "ytlkcbfolpfckgaa", sum := "47aa40404e4b6ea4aaa2f8487fc0c89a5e233b0c119448f475a6d3ec0c3d9c8b", func := "loop.example/proofarchive/laws.FnExactFilterJoin", spec := "fnExactFilterJoin", apart := false }
def FnExactFilterJoinSaid : Prop := fnExactFilterJoinRow.holds Try.pinned (OpenSpec.ofChange fnExactFilterJoinSpec)

/-- ITS FALSE NEIGHBOUR: 'it returns false'. Refute it at one input. -/
def fnExactFilterJoinWrong : ChangeSpec := { name := "fnExactFilterJoin", fn := fun _ => fun
  | [d1, d2] => { results := [.lit (.bool false)], args := [d1, d2] }
  | _ => none }
def FnExactFilterJoinWrongFalsely : Prop := fnExactFilterJoinRow.holds Try.pinned (OpenSpec.ofChange fnExactFilterJoinWrong)

/-- 'laws.FnExactAgeBox': WHATEVER THE INPUT: true; the input reads as it did. -/
def fnExactAgeBoxSpec : ChangeSpec := { name := "fnExactAgeBox", fn := fun _ => fun
  | [d] => { results := [.lit (.bool true)], args := [d] }
  | _ => none }
def fnExactAgeBoxRow : OpenClaim := { program := "ytlkcbfolpfckgaa", sum := "47aa40404e4b6ea4aaa2f8487fc0c89a5e233b0c119448f475a6d3ec0c3d9c8b", func := "loop.example/proofarchive/laws.FnExactAgeBox", spec := "fnExactAgeBox", apart := false }
def FnExactAgeBoxSaid : Prop := fnExactAgeBoxRow.holds Try.pinned (OpenSpec.ofChange fnExactAgeBoxSpec)

/-- ITS FALSE NEIGHBOUR: 'it returns false'. Refute it at one input. -/
def fnExactAgeBoxWrong : ChangeSpec := { name := "fnExactAgeBox", fn := fun _ => fun
  | [d] => { results := [.lit (.bool false)], args := [d] }
  | _ => none }
def FnExactAgeBoxWrongFalsely : Prop := fnExactAgeBoxRow.holds Try.pinned (OpenSpec.ofChange fnExactAgeBoxWrong)

/-- 'laws.FnExactFilterHas': WHATEVER THE INPUT: true; the input reads as it did. -/
def fnExactFilterHasSpec : ChangeSpec := { name := "fnExactFilterHas", fn := fun _ => fun
  | [d1, d2] => { results := [.lit (.bool true)], args := [d1, d2] }
  | _ => none }
def fnExactFilterHasRow : OpenClaim := { program := "ytlkcbfolpfckgaa", sum := "47aa40404e4b6ea4aaa2f8487fc0c89a5e233b0c119448f475a6d3ec0c3d9c8b", func := "loop.example/proofarchive/laws.FnExactFilterHas", spec := "fnExactFilterHas", apart := false }
def FnExactFilterHasSaid : Prop := fnExactFilterHasRow.holds Try.pinned (OpenSpec.ofChange fnExactFilterHasSpec)

/-- ITS FALSE NEIGHBOUR: 'it returns false'. Refute it at one input. -/
def fnExactFilterHasWrong : ChangeSpec := { name := "fnExactFilterHas", fn := fun _ => fun
  | [d1, d2] => { results := [.lit (.bool false)], args := [d1, d2] }
  | _ => none }
def FnExactFilterHasWrongFalsely : Prop := fnExactFilterHasRow.holds Try.pinned (OpenSpec.ofChange fnExactFilterHasWrong)

/-- 'laws.FnExactFilterOf': WHATEVER THE INPUT: true; the input reads as it did. -/
def fnExactFilterOfSpec : ChangeSpec := { name := "fnExactFilterOf", fn := fun _ => fun
  | [d] => { results := [.lit (.bool true)], args := [d] }
  | _ => none }
def fnExactFilterOfRow : OpenClaim := { program := "ytlkcbfolpfckgaa", sum := "47aa40404e4b6ea4aaa2f8487fc0c89a5e233b0c119448f475a6d3ec0c3d9c8b", func := "loop.example/proofarchive/laws.FnExactFilterOf", spec := "fnExactFilterOf", apart := false }
def FnExactFilterOfSaid : Prop := fnExactFilterOfRow.holds Try.pinned (OpenSpec.ofChange fnExactFilterOfSpec)

/-- ITS FALSE NEIGHBOUR: 'it returns false'. Refute it at one input. -/
def fnExactFilterOfWrong : ChangeSpec := { name := "fnExactFilterOf", fn := fun _ => fun
  | [d] => { results := [.lit (.bool false)], args := [d] }
  | _ => none }
def FnExactFilterOfWrongFalsely : Prop := fnExactFilterOfRow.holds Try.pinned (OpenSpec.ofChange fnExactFilterOfWrong)

/-- 'laws.FnAgeBox': WHATEVER THE INPUT: true; the input reads as it did. -/
def fnAgeBoxSpec : ChangeSpec := { name := "fnAgeBox", fn := fun _ => fun
  | [d] => { results := [.lit (.bool true)], args := [d] }
  | _ => none }
def fnAgeBoxRow : OpenClaim := { program := "ytlkcbfolpfckgaa", sum := "47aa40404e4b6ea4aaa2f8487fc0c89a5e233b0c119448f475a6d3ec0c3d9c8b", func := "loop.example/proofarchive/laws.FnAgeBox", spec := "fnAgeBox", apart := false }
def FnAgeBoxSaid : Prop := fnAgeBoxRow.holds Try.pinned (OpenSpec.ofChange fnAgeBoxSpec)

/-- ITS FALSE NEIGHBOUR: 'it returns false'. Refute it at one input. -/
def fnAgeBoxWrong : ChangeSpec := { name := "fnAgeBox", fn := fun _ => fun
  | [d] => { results := [.lit (.bool false)], args := [d] }
  | _ => none }
def FnAgeBoxWrongFalsely : Prop := fnAgeBoxRow.holds Try.pinned (OpenSpec.ofChange fnAgeBoxWrong)

/-- 'laws.FnExactFilterWanted': WHATEVER THE INPUT: true; the input reads as it did. -/
def fnExactFilterWantedSpec : ChangeSpec := { name := "fnExactFilterWanted", fn := fun _ => fun
  | [d1, d2] => { results := [.lit (.bool true)], args := [d1, d2] }
  | _ => none }
def fnExactFilterWantedRow : OpenClaim := { program := "ytlkcbfolpfckgaa", sum := "47aa40404e4b6ea4aaa2f8487fc0c89a5e233b0c119448f475a6d3ec0c3d9c8b", func := "loop.example/proofarchive/laws.FnExactFilterWanted", spec := "fnExactFilterWanted", apart := false }
def FnExactFilterWantedSaid : Prop := fnExactFilterWantedRow.holds Try.pinned (OpenSpec.ofChange fnExactFilterWantedSpec)

/-- ITS FALSE NEIGHBOUR: 'it returns false'. Refute it at one input. -/
def fnExactFilterWantedWrong : ChangeSpec := { name := "fnExactFilterWanted", fn := fun _ => fun
  | [d1, d2] => { results := [.lit (.bool false)], args := [d1, d2] }
  | _ => none }
def FnExactFilterWantedWrongFalsely : Prop := fnExactFilterWantedRow.holds Try.pinned (OpenSpec.ofChange fnExactFilterWantedWrong)

/-- 'laws.FnExactKeepMarks': WHATEVER THE INPUT: true; the input reads as it did. -/
def fnExactKeepMarksSpec : ChangeSpec := { name := "fnExactKeepMarks", fn := fun _ => fun
  | [d1, d2] => { results := [.lit (.bool true)], args := [d1, d2] }
  | _ => none }
def fnExactKeepMarksRow : OpenClaim := { program := "ytlkcbfolpfckgaa", sum := "47aa40404e4b6ea4aaa2f8487fc0c89a5e233b0c119448f475a6d3ec0c3d9c8b", func := "loop.example/proofarchive/laws.FnExactKeepMarks", spec := "fnExactKeepMarks", apart := false }
def FnExactKeepMarksSaid : Prop := fnExactKeepMarksRow.holds Try.pinned (OpenSpec.ofChange fnExactKeepMarksSpec)

/-- ITS FALSE NEIGHBOUR: 'it returns false'. Refute it at one input. -/
def fnExactKeepMarksWrong : ChangeSpec := { name := "fnExactKeepMarks", fn := fun _ => fun
  | [d1, d2] => { results := [.lit (.bool false)], args := [d1, d2] }
  | _ => none }
def FnExactKeepMarksWrongFalsely : Prop := fnExactKeepMarksRow.holds Try.pinned (OpenSpec.ofChange fnExactKeepMarksWrong)

/-- 'laws.FnExactKeptDays': WHATEVER THE INPUT: true; the input reads as it did. -/
def fnExactKeptDaysSpec : ChangeSpec := { name := "fnExactKeptDays", fn := fun _ => fun
  | [d1, d2] => { results := [.lit (.bool true)], args := [d1, d2] }
  | _ => none }
def fnExactKeptDaysRow : OpenClaim := { program := "ytlkcbfolpfckgaa", sum := "47aa40404e4b6ea4aaa2f8487fc0c89a5e233b0c119448f475a6d3ec0c3d9c8b", func := "loop.example/proofarchive/laws.FnExactKeptDays", spec := "fnExactKeptDays", apart := false }
def FnExactKeptDaysSaid : Prop := fnExactKeptDaysRow.holds Try.pinned (OpenSpec.ofChange fnExactKeptDaysSpec)

/-- ITS FALSE NEIGHBOUR: 'it returns false'. Refute it at one input. -/
def fnExactKeptDaysWrong : ChangeSpec := { name := "fnExactKeptDays", fn := fun _ => fun
  | [d1, d2] => { results := [.lit (.bool false)], args := [d1, d2] }
  | _ => none }
def FnExactKeptDaysWrongFalsely : Prop := fnExactKeptDaysRow.holds Try.pinned (OpenSpec.ofChange fnExactKeptDaysWrong)

/-- 'laws.FnKeepMarks': WHATEVER THE INPUT: true; the input reads as it did. -/
def fnKeepMarksSpec : ChangeSpec := { name := "fnKeepMarks", fn := fun _ => fun
  | [d] => { results := [.lit (.bool true)], args := [d] }
  | _ => none }
def fnKeepMarksRow : OpenClaim := { program := "ytlkcbfolpfckgaa", sum := "47aa40404e4b6ea4aaa2f8487fc0c89a5e233b0c119448f475a6d3ec0c3d9c8b", func := "loop.example/proofarchive/laws.FnKeepMarks", spec := "fnKeepMarks", apart := false }
def FnKeepMarksSaid : Prop := fnKeepMarksRow.holds Try.pinned (OpenSpec.ofChange fnKeepMarksSpec)

/-- ITS FALSE NEIGHBOUR: 'it returns false'. Refute it at one input. -/
def fnKeepMarksWrong : ChangeSpec := { name := "fnKeepMarks", fn := fun _ => fun
  | [d] => { results := [.lit (.bool false)], args := [d] }
  | _ => none }
def FnKeepMarksWrongFalsely : Prop := fnKeepMarksRow.holds Try.pinned (OpenSpec.ofChange fnKeepMarksWrong)

/-- 'laws.FnKeptDays': WHATEVER THE INPUT: true; the input reads as it did. -/
def fnKeptDaysSpec : ChangeSpec := { name := "fnKeptDays", fn := fun _ => fun
  | [d] => { results := [.lit (.bool true)], args := [d] }
  | _ => none }
def fnKeptDaysRow : OpenClaim := { program := "ytlkcbfolpfckgaa", sum := "47aa40404e4b6ea4aaa2f8487fc0c89a5e233b0c119448f475a6d3ec0c3d9c8b", func := "loop.example/proofarchive/laws.FnKeptDays", spec := "fnKeptDays", apart := false }
def FnKeptDaysSaid : Prop := fnKeptDaysRow.holds Try.pinned (OpenSpec.ofChange fnKeptDaysSpec)

/-- ITS FALSE NEIGHBOUR: 'it returns false'. Refute it at one input. -/
def fnKeptDaysWrong : ChangeSpec := { name := "fnKeptDays", fn := fun _ => fun
  | [d] => { results := [.lit (.bool false)], args := [d] }
  | _ => none }
def FnKeptDaysWrongFalsely : Prop := fnKeptDaysRow.holds Try.pinned (OpenSpec.ofChange fnKeptDaysWrong)

/- THE SECOND FORM. 'bulk': how many values and letters a reading holds, each counted each time it is reached (what is shared counts as often as it is met; a slice's spare places count too). A statement '..UptoSaid' is the law's where the arguments, and the package variables that the reading takes, are together of bulk at most 1048576: NARROWER than '..Said'. Prove '..Said' where nothing that the law and all that it calls make is longer than what came in: it says more and counts as full. Else prove '..UptoSaid'. A law counts once. -/
mutual
def uptoBulk {H : Type} : DataW H → Nat
  | .lit (.string bytes) => bytes.length + 1
  | .lit _ => 1
  | .nil => 1
  | .ptr d => uptoBulk d + 1
  | .slice elems spare => uptoBulkAll elems + uptoBulkAll spare + 1
  | .agg parts => uptoBulkAll parts + 1
  | .iface _ d => uptoBulk d + 1
  | .map entries => uptoBulkEntries entries + 1
  | .held _ => 1
def uptoBulkAll {H : Type} : List (DataW H) → Nat
  | [] => 0
  | d :: r => uptoBulk d + uptoBulkAll r
def uptoBulkEntries {H : Type} : List (Lit × DataW H) → Nat
  | [] => 0
  | x :: r => uptoBulkEntry x + uptoBulkEntries r
def uptoBulkEntry {H : Type} : Lit × DataW H → Nat
  | (.string bytes, d) => bytes.length + uptoBulk d + 1
  | (_, d) => uptoBulk d + 1
 end
def uptoSmall : (H : Type) → List (DataW H) → Bool := fun _ ds => decide (uptoBulkAll ds ≤ 1048576)
def OpenSpec.upto (s : _root_.Go.ChangeSpec) : _root_.Go.OpenSpec := { _root_.Go.OpenSpec.ofChange s with cond := some uptoSmall }

/-- 'laws.FnExactFilterJoin', WHERE WHAT IT READS IS OF BULK AT MOST 1048576: true; the input reads as it did. -/
def fnExactFilterJoinUptoRow : OpenClaim := { program := "ytlkcbfolpfckgaa", sum := "47aa40404e4b6ea4aaa2f8487fc0c89a5e233b0c119448f475a6d3ec0c3d9c8b", func := "loop.example/proofarchive/laws.FnExactFilterJoin", spec := "fnExactFilterJoin", apart := false, narrowed := true }
def FnExactFilterJoinUptoSaid : Prop := fnExactFilterJoinUptoRow.holds Try.pinned (OpenSpec.upto fnExactFilterJoinSpec)

/-- 'laws.FnExactAgeBox', WHERE WHAT IT READS IS OF BULK AT MOST 1048576: true; the input reads as it did. -/
def fnExactAgeBoxUptoRow : OpenClaim := { program := "ytlkcbfolpfckgaa", sum := "47aa40404e4b6ea4aaa2f8487fc0c89a5e233b0c119448f475a6d3ec0c3d9c8b", func := "loop.example/proofarchive/laws.FnExactAgeBox", spec := "fnExactAgeBox", apart := false, narrowed := true }
def FnExactAgeBoxUptoSaid : Prop := fnExactAgeBoxUptoRow.holds Try.pinned (OpenSpec.upto fnExactAgeBoxSpec)

/-- 'laws.FnExactFilterHas', WHERE WHAT IT READS IS OF BULK AT MOST 1048576: true; the input reads as it did. -/
def fnExactFilterHasUptoRow : OpenClaim := { program := "ytlkcbfolpfckgaa", sum := "47aa40404e4b6ea4aaa2f8487fc0c89a5e233b0c119448f475a6d3ec0c3d9c8b", func := "loop.example/proofarchive/laws.FnExactFilterHas", spec := "fnExactFilterHas", apart := false, narrowed := true }
def FnExactFilterHasUptoSaid : Prop := fnExactFilterHasUptoRow.holds Try.pinned (OpenSpec.upto fnExactFilterHasSpec)

/-- 'laws.FnExactFilterOf', WHERE WHAT IT READS IS OF BULK AT MOST 1048576: true; the input reads as it did. -/
def fnExactFilterOfUptoRow : OpenClaim := { program := "ytlkcbfolpfckgaa", sum := "47aa40404e4b6ea4aaa2f8487fc0c89a5e233b0c119448f475a6d3ec0c3d9c8b", func := "loop.example/proofarchive/laws.FnExactFilterOf", spec := "fnExactFilterOf", apart := false, narrowed := true }
def FnExactFilterOfUptoSaid : Prop := fnExactFilterOfUptoRow.holds Try.pinned (OpenSpec.upto fnExactFilterOfSpec)

/-- 'laws.FnAgeBox', WHERE WHAT IT READS IS OF BULK AT MOST 1048576: true; the input reads as it did. -/
def fnAgeBoxUptoRow : OpenClaim := { program := "ytlkcbfolpfckgaa", sum := "47aa40404e4b6ea4aaa2f8487fc0c89a5e233b0c119448f475a6d3ec0c3d9c8b", func := "loop.example/proofarchive/laws.FnAgeBox", spec := "fnAgeBox", apart := false, narrowed := true }
def FnAgeBoxUptoSaid : Prop := fnAgeBoxUptoRow.holds Try.pinned (OpenSpec.upto fnAgeBoxSpec)

/-- 'laws.FnExactFilterWanted', WHERE WHAT IT READS IS OF BULK AT MOST 1048576: true; the input reads as it did. -/
def fnExactFilterWantedUptoRow : OpenClaim := { program := "ytlkcbfolpfckgaa", sum := "47aa40404e4b6ea4aaa2f8487fc0c89a5e233b0c119448f475a6d3ec0c3d9c8b", func := "loop.example/proofarchive/laws.FnExactFilterWanted", spec := "fnExactFilterWanted", apart := false, narrowed := true }
def FnExactFilterWantedUptoSaid : Prop := fnExactFilterWantedUptoRow.holds Try.pinned (OpenSpec.upto fnExactFilterWantedSpec)

/-- 'laws.FnExactKeepMarks', WHERE WHAT IT READS IS OF BULK AT MOST 1048576: true; the input reads as it did. -/
def fnExactKeepMarksUptoRow : OpenClaim := { program := "ytlkcbfolpfckgaa", sum := "47aa40404e4b6ea4aaa2f8487fc0c89a5e233b0c119448f475a6d3ec0c3d9c8b", func := "loop.example/proofarchive/laws.FnExactKeepMarks", spec := "fnExactKeepMarks", apart := false, narrowed := true }
def FnExactKeepMarksUptoSaid : Prop := fnExactKeepMarksUptoRow.holds Try.pinned (OpenSpec.upto fnExactKeepMarksSpec)

/-- 'laws.FnExactKeptDays', WHERE WHAT IT READS IS OF BULK AT MOST 1048576: true; the input reads as it did. -/
def fnExactKeptDaysUptoRow : OpenClaim := { program := "ytlkcbfolpfckgaa", sum := "47aa40404e4b6ea4aaa2f8487fc0c89a5e233b0c119448f475a6d3ec0c3d9c8b", func := "loop.example/proofarchive/laws.FnExactKeptDays", spec := "fnExactKeptDays", apart := false, narrowed := true }
def FnExactKeptDaysUptoSaid : Prop := fnExactKeptDaysUptoRow.holds Try.pinned (OpenSpec.upto fnExactKeptDaysSpec)

/-- 'laws.FnKeepMarks', WHERE WHAT IT READS IS OF BULK AT MOST 1048576: true; the input reads as it did. -/
def fnKeepMarksUptoRow : OpenClaim := { program := "ytlkcbfolpfckgaa", sum := "47aa40404e4b6ea4aaa2f8487fc0c89a5e233b0c119448f475a6d3ec0c3d9c8b", func := "loop.example/proofarchive/laws.FnKeepMarks", spec := "fnKeepMarks", apart := false, narrowed := true }
def FnKeepMarksUptoSaid : Prop := fnKeepMarksUptoRow.holds Try.pinned (OpenSpec.upto fnKeepMarksSpec)

/-- 'laws.FnKeptDays', WHERE WHAT IT READS IS OF BULK AT MOST 1048576: true; the input reads as it did. -/
def fnKeptDaysUptoRow : OpenClaim := { program := "ytlkcbfolpfckgaa", sum := "47aa40404e4b6ea4aaa2f8487fc0c89a5e233b0c119448f475a6d3ec0c3d9c8b", func := "loop.example/proofarchive/laws.FnKeptDays", spec := "fnKeptDays", apart := false, narrowed := true }
def FnKeptDaysUptoSaid : Prop := fnKeptDaysUptoRow.holds Try.pinned (OpenSpec.upto fnKeptDaysSpec)

end Rows
end Go.Proofs.Ytlkcbfolpfckgaa
