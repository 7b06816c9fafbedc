/-
  No cell of these rows narrows 'for every input' (looked for: loops, veiled, ifaces, maps, wideKeys, modest, calm, conditions, laid).
  DERIVED. THE GIVEN ROWS OF THIS SEAT. 3 by the template 'for every input the law returns true; each argument reads behind the call as it read before'; 0 by the template 'total and deterministic' (their statements: YtkfkcbceoekgjaaTotals.lean).
  GIVEN WITH THE SEED: the statements are not yours to turn. If you find one false, say at which input.
  Laid BY PROGRAM, IN A SANDBOX (cutbox-rows.mjs): the forced cells as the released guide's own fill.sh prints them over the translation 360fd8051fd6d644… (all of the seat's roots in one cut). By AI agents, Wed Nov 11 2026. No macro, syntax, notation, axiom, sorry.
-/
import Derived.Test.YtkfkcbceoekgjaaChecked
import GoSem.Claim
import GoSem.ClaimJoined
import GoSem.ClaimMapViews
import Derived.JoinedTies
import Derived.KernelRfl
namespace Go.Proofs.Ytkfkcbceoekgjaa
/- THE CELL 'sum', in the pinned program and in every row, IS THE sha256 OF THE DUMP (.gsa) THAT YtkfkcbceoekgjaaProg.lean LOADS. Nothing in Lean hashes anything: it is a label: what it is worth is what the hold of that sum in a sandbox is worth. -/
noncomputable def Try.pinned : Pinned := { name := "ytkfkcbceoekgjaa", sum := "360fd8051fd6d6442e6f4163e0d63054fc476c38572aa640553cfd6c002b6096", checked := Try.checked }
namespace Rows
def none {H : Type} : Left H := { results := [], args := [] }

/-- 'laws.FnExactWantedOf': WHATEVER THE INPUT: true; the input reads as it did. -/
def fnExactWantedOfSpec : ChangeSpec := { name := "fnExactWantedOf", fn := fun _ => fun
  | [d1, d2] => { results := [.lit (.bool true)], args := [d1, d2] }
  | _ => none }
def fnExactWantedOfRow : OpenClaim := { program := "ytkfkcbceoekgjaa", sum := "360fd8051fd6d6442e6f4163e0d63054fc476c38572aa640553cfd6c002b6096", func := "loop.example/proofarchive/laws.FnExactWantedOf", spec := "fnExactWantedOf", unfollowed := true, recurses := true, apart := false }
def FnExactWantedOfSaid : Prop := fnExactWantedOfRow.holds Try.pinned (OpenSpec.ofChange fnExactWantedOfSpec)

/-- ITS FALSE NEIGHBOUR: 'it returns false'. Refute it at one input. -/
def fnExactWantedOfWrong : ChangeSpec := { name := "fnExactWantedOf", fn := fun _ => fun
  | [d1, d2] => { results := [.lit (.bool false)], args := [d1, d2] }
  | _ => none }
def FnExactWantedOfWrongFalsely : Prop := fnExactWantedOfRow.holds Try.pinned (OpenSpec.ofChange fnExactWantedOfWrong)

/-- 'laws.FnExactSendTexts': WHATEVER THE INPUT: true; the input reads as it did. -/
def fnExactSendTextsSpec : ChangeSpec := { name := "fnExactSendTexts", fn := fun _ => fun
  | [d1, d2] => { results := [.lit (.bool true)], args := [d1, d2] }
  | _ => none }
def fnExactSendTextsRow : OpenClaim := { program := "ytkfkcbceoekgjaa", sum := "360fd8051fd6d6442e6f4163e0d63054fc476c38572aa640553cfd6c002b6096", func := "loop.example/proofarchive/laws.FnExactSendTexts", spec := "fnExactSendTexts", unfollowed := true, recurses := true, apart := false }
def FnExactSendTextsSaid : Prop := fnExactSendTextsRow.holds Try.pinned (OpenSpec.ofChange fnExactSendTextsSpec)

/-- ITS FALSE NEIGHBOUR: 'it returns false'. Refute it at one input. -/
def fnExactSendTextsWrong : ChangeSpec := { name := "fnExactSendTexts", fn := fun _ => fun
  | [d1, d2] => { results := [.lit (.bool false)], args := [d1, d2] }
  | _ => none }
def FnExactSendTextsWrongFalsely : Prop := fnExactSendTextsRow.holds Try.pinned (OpenSpec.ofChange fnExactSendTextsWrong)

/-- 'laws.FnExactTakeTexts': WHATEVER THE INPUT: true; the input reads as it did. -/
def fnExactTakeTextsSpec : ChangeSpec := { name := "fnExactTakeTexts", fn := fun _ => fun
  | [d1, d2, d3] => { results := [.lit (.bool true)], args := [d1, d2, d3] }
  | _ => none }
def fnExactTakeTextsRow : OpenClaim := { program := "ytkfkcbceoekgjaa", sum := "360fd8051fd6d6442e6f4163e0d63054fc476c38572aa640553cfd6c002b6096", func := "loop.example/proofarchive/laws.FnExactTakeTexts", spec := "fnExactTakeTexts", inPlace := ["slices.overlaps[loop.example/proofarchive/impl.Piece]"], unfollowed := true, recurses := true, apart := false }
def FnExactTakeTextsSaid : Prop := fnExactTakeTextsRow.holds Try.pinned (OpenSpec.ofChange fnExactTakeTextsSpec)

/-- ITS FALSE NEIGHBOUR: 'it returns false'. Refute it at one input. -/
def fnExactTakeTextsWrong : ChangeSpec := { name := "fnExactTakeTexts", fn := fun _ => fun
  | [d1, d2, d3] => { results := [.lit (.bool false)], args := [d1, d2, d3] }
  | _ => none }
def FnExactTakeTextsWrongFalsely : Prop := fnExactTakeTextsRow.holds Try.pinned (OpenSpec.ofChange fnExactTakeTextsWrong)

/- THE SECOND FORM. 'bulk': how many values and letters a reading holds, each counted each time it is reached (what is shared counts as often as it is met; a slice's spare places count too). A statement '..UptoSaid' is the law's where the arguments, and the package variables that the reading takes, are together of bulk at most 1048576: NARROWER than '..Said'. Prove '..Said' where nothing that the law and all that it calls make is longer than what came in: it says more and counts as full. Else prove '..UptoSaid'. A law counts once. -/
mutual
def uptoBulk {H : Type} : DataW H → Nat
  | .lit (.string bytes) => bytes.length + 1
  | .lit _ => 1
  | .nil => 1
  | .ptr d => uptoBulk d + 1
  | .slice elems spare => uptoBulkAll elems + uptoBulkAll spare + 1
  | .agg parts => uptoBulkAll parts + 1
  | .iface _ d => uptoBulk d + 1
  | .map entries => uptoBulkEntries entries + 1
  | .held _ => 1
def uptoBulkAll {H : Type} : List (DataW H) → Nat
  | [] => 0
  | d :: r => uptoBulk d + uptoBulkAll r
def uptoBulkEntries {H : Type} : List (Lit × DataW H) → Nat
  | [] => 0
  | x :: r => uptoBulkEntry x + uptoBulkEntries r
def uptoBulkEntry {H : Type} : Lit × DataW H → Nat
  | (.string bytes, d) => bytes.length + uptoBulk d + 1
  | (_, d) => uptoBulk d + 1
 end
def uptoSmall : (H : Type) → List (DataW H) → Bool := fun _ ds => decide (uptoBulkAll ds ≤ 1048576)
def OpenSpec.upto (s : _root_.Go.ChangeSpec) : _root_.Go.OpenSpec := { _root_.Go.OpenSpec.ofChange s with cond := some uptoSmall }

/-- 'laws.FnExactWantedOf', WHERE WHAT IT READS IS OF BULK AT MOST 1048576: true; the input reads as it did. -/
def fnExactWantedOfUptoRow : OpenClaim := { program := "ytkfkcbceoekgjaa", sum := "360fd8051fd6d6442e6f4163e0d63054fc476c38572aa640553cfd6c002b6096", func := "loop.example/proofarchive/laws.FnExactWantedOf", spec := "fnExactWantedOf", unfollowed := true, recurses := true, apart := false, narrowed := true }
def FnExactWantedOfUptoSaid : Prop := fnExactWantedOfUptoRow.holds Try.pinned (OpenSpec.upto fnExactWantedOfSpec)

/-- 'laws.FnExactSendTexts', WHERE WHAT IT READS IS OF BULK AT MOST 1048576: true; the input reads as it did. -/
def fnExactSendTextsUptoRow : OpenClaim := { program := "ytkfkcbceoekgjaa", sum := "360fd8051fd6d6442e6f4163e0d63054fc476c38572aa640553cfd6c002b6096", func := "loop.example/proofarchive/laws.FnExactSendTexts", spec := "fnExactSendTexts", unfollowed := true, recurses := true, apart := false, narrowed := true }
def FnExactSendTextsUptoSaid : Prop := fnExactSendTextsUptoRow.holds Try.pinned (OpenSpec.upto fnExactSendTextsSpec)

/-- 'laws.FnExactTakeTexts', WHERE WHAT IT READS IS OF BULK AT MOST 1048576: true; the input reads as it did. -/
def fnExactTakeTextsUptoRow : OpenClaim := { program := "ytkfkcbceoekgjaa", sum := "360fd8051fd6d6442e6f4163e0d63054fc476c38572aa640553cfd6c002b6096", func := "loop.example/proofarchive/laws.FnExactTakeTexts", spec := "fnExactTakeTexts", inPlace := ["slices.overlaps[loop.example/proofarchive/impl.Piece]"], unfollowed := true, recurses := true, apart := false, narrowed := true }
def FnExactTakeTextsUptoSaid : Prop := fnExactTakeTextsUptoRow.holds Try.pinned (OpenSpec.upto fnExactTakeTextsSpec)

end Rows
end Go.Proofs.Ytkfkcbceoekgjaa
