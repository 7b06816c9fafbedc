/-
  No cell of these rows narrows 'for every input' (looked for: loops, veiled, ifaces, maps, wideKeys, modest, calm, conditions, laid).
  DERIVED. THE GIVEN ROWS OF THIS SEAT. 12 by the template 'for every input the law returns true; each argument reads behind the call as it read before'; 0 by the template 'total and deterministic' (their statements: YtnedkfmbeeodfaaTotals.lean).
  GIVEN WITH THE SEED: the statements are not yours to turn. If you find one false, say at which input.
  Laid BY PROGRAM, IN A SANDBOX (cutbox-rows.mjs): the forced cells as the released guide's own fill.sh prints them over the translation d5ecfeafca1215a7… (all of the seat's roots in one cut). By AI agents, Wed Nov 11 2026. No macro, syntax, notation, axiom, sorry.
-/
import Derived.Test.YtnedkfmbeeodfaaChecked
import GoSem.Claim
import GoSem.ClaimJoined
import GoSem.ClaimMapViews
import Derived.JoinedTies
import Derived.KernelRfl
namespace Go.Proofs.Ytnedkfmbeeodfaa
/- THE CELL 'sum', in the pinned program and in every row, IS THE sha256 OF THE DUMP (.gsa) THAT YtnedkfmbeeodfaaProg.lean LOADS. Nothing in Lean hashes anything: it is a label: what it is worth is what the hold of that sum in a sandbox is worth. -/
noncomputable def Try.pinned : Pinned := { name := "ytnedkfmbeeodfaa", sum := "d5ecfeafca1215a714876aa28b74e82d2832e892631b0bf2422ad61d538a17f8", checked := Try.checked }
namespace Rows
def none {H : Type} : Left H := { results := [], args := [] }

/-- 'laws.FnExactCacheValid': WHATEVER THE INPUT: true; the input reads as it did. -/
def fnExactCacheValidSpec : ChangeSpec := { name := "fnExactCacheValid", fn := fun _ => fun
  | [d] => { results := [.lit (.bool true)], args := [d] }
  | _ => none }
def fnExactCacheValidRow : OpenClaim := { program := "ytnedkfmbeeodfaa", sum := "d5ecfeafca1215a714876aa28b74e82d2832e892631b0bf2422ad61d538a17f8", func := "loop.example/proofarchive/laws.FnExactCacheValid", spec := "fnExactCacheValid", apart := false }
def FnExactCacheValidSaid : Prop := fnExactCacheValidRow.holds Try.pinned (OpenSpec.ofChange fnExactCacheValidSpec)

/-- ITS FALSE NEIGHBOUR: 'it returns false'. Refute it at one input. -/
def fnExactCacheValidWrong : ChangeSpec := { name := "fnExactCacheValid", fn := fun _ => fun
  | [d] => { results := [.lit (.bool false)], args := [d] }
  | _ => none }
def FnExactCacheValidWrongFalsely : Prop := fnExactCacheValidRow.holds Try.pinned (OpenSpec.ofChange fnExactCacheValidWrong)

/-- 'laws.FnCacheValid': WHATEVER THE INPUT: true; the input reads as it did. -/
def fnCacheValidSpec : ChangeSpec := { name := "fnCacheValid", fn := fun _ => fun
  | [d] => { results := [.lit (.bool true)], args := [d] }
  | _ => none }
def fnCacheValidRow : OpenClaim := { program := "ytnedkfmbeeodfaa", sum := "d5ecfeafca1215a714876aa28b74e82d2832e892631b0bf2422ad61d538a17f8", func := "loop.example/proofarchive/laws.FnCacheValid", spec := "fnCacheValid", apart := false }
def FnCacheValidSaid : Prop := fnCacheValidRow.holds Try.pinned (OpenSpec.ofChange fnCacheValidSpec)

/-- ITS FALSE NEIGHBOUR: 'it returns false'. Refute it at one input. -/
def fnCacheValidWrong : ChangeSpec := { name := "fnCacheValid", fn := fun _ => fun
  | [d] => { results := [.lit (.bool false)], args := [d] }
  | _ => none }
def FnCacheValidWrongFalsely : Prop := fnCacheValidRow.holds Try.pinned (OpenSpec.ofChange fnCacheValidWrong)

/-- 'laws.FnExactRunCache': WHATEVER THE INPUT: true; the input reads as it did. -/
def fnExactRunCacheSpec : ChangeSpec := { name := "fnExactRunCache", fn := fun _ => fun
  | [d1, d2] => { results := [.lit (.bool true)], args := [d1, d2] }
  | _ => none }
def fnExactRunCacheRow : OpenClaim := { program := "ytnedkfmbeeodfaa", sum := "d5ecfeafca1215a714876aa28b74e82d2832e892631b0bf2422ad61d538a17f8", func := "loop.example/proofarchive/laws.FnExactRunCache", spec := "fnExactRunCache", apart := false }
def FnExactRunCacheSaid : Prop := fnExactRunCacheRow.holds Try.pinned (OpenSpec.ofChange fnExactRunCacheSpec)

/-- ITS FALSE NEIGHBOUR: 'it returns false'. Refute it at one input. -/
def fnExactRunCacheWrong : ChangeSpec := { name := "fnExactRunCache", fn := fun _ => fun
  | [d1, d2] => { results := [.lit (.bool false)], args := [d1, d2] }
  | _ => none }
def FnExactRunCacheWrongFalsely : Prop := fnExactRunCacheRow.holds Try.pinned (OpenSpec.ofChange fnExactRunCacheWrong)

/-- 'laws.FnExactUseCache': WHATEVER THE INPUT: true; the input reads as it did. -/
def fnExactUseCacheSpec : ChangeSpec := { name := "fnExactUseCache", fn := fun _ => fun
  | [d1, d2] => { results := [.lit (.bool true)], args := [d1, d2] }
  | _ => none }
def fnExactUseCacheRow : OpenClaim := { program := "ytnedkfmbeeodfaa", sum := "d5ecfeafca1215a714876aa28b74e82d2832e892631b0bf2422ad61d538a17f8", func := "loop.example/proofarchive/laws.FnExactUseCache", spec := "fnExactUseCache", apart := false }
def FnExactUseCacheSaid : Prop := fnExactUseCacheRow.holds Try.pinned (OpenSpec.ofChange fnExactUseCacheSpec)

/-- ITS FALSE NEIGHBOUR: 'it returns false'. Refute it at one input. -/
def fnExactUseCacheWrong : ChangeSpec := { name := "fnExactUseCache", fn := fun _ => fun
  | [d1, d2] => { results := [.lit (.bool false)], args := [d1, d2] }
  | _ => none }
def FnExactUseCacheWrongFalsely : Prop := fnExactUseCacheRow.holds Try.pinned (OpenSpec.ofChange fnExactUseCacheWrong)

/-- 'laws.FnUseCache': WHATEVER THE INPUT: true; the input reads as it did. -/
def fnUseCacheSpec : ChangeSpec := { name := "fnUseCache", fn := fun _ => fun
  | [d] => { results := [.lit (.bool true)], args := [d] }
  | _ => none }
def fnUseCacheRow : OpenClaim := { program := "ytnedkfmbeeodfaa", sum := "d5ecfeafca1215a714876aa28b74e82d2832e892631b0bf2422ad61d538a17f8", func := "loop.example/proofarchive/laws.FnUseCache", spec := "fnUseCache", apart := false }
def FnUseCacheSaid : Prop := fnUseCacheRow.holds Try.pinned (OpenSpec.ofChange fnUseCacheSpec)

/-- ITS FALSE NEIGHBOUR: 'it returns false'. Refute it at one input. -/
def fnUseCacheWrong : ChangeSpec := { name := "fnUseCache", fn := fun _ => fun
  | [d] => { results := [.lit (.bool false)], args := [d] }
  | _ => none }
def FnUseCacheWrongFalsely : Prop := fnUseCacheRow.holds Try.pinned (OpenSpec.ofChange fnUseCacheWrong)

/-- 'laws.FnRunCache': WHATEVER THE INPUT: true; the input reads as it did. -/
def fnRunCacheSpec : ChangeSpec := { name := "fnRunCache", fn := fun _ => fun
  | [d] => { results := [.lit (.bool true)], args := [d] }
  | _ => none }
def fnRunCacheRow : OpenClaim := { program := "ytnedkfmbeeodfaa", sum := "d5ecfeafca1215a714876aa28b74e82d2832e892631b0bf2422ad61d538a17f8", func := "loop.example/proofarchive/laws.FnRunCache", spec := "fnRunCache", apart := false }
def FnRunCacheSaid : Prop := fnRunCacheRow.holds Try.pinned (OpenSpec.ofChange fnRunCacheSpec)

/-- ITS FALSE NEIGHBOUR: 'it returns false'. Refute it at one input. -/
def fnRunCacheWrong : ChangeSpec := { name := "fnRunCache", fn := fun _ => fun
  | [d] => { results := [.lit (.bool false)], args := [d] }
  | _ => none }
def FnRunCacheWrongFalsely : Prop := fnRunCacheRow.holds Try.pinned (OpenSpec.ofChange fnRunCacheWrong)

/-- 'laws.FnExactSealNext': WHATEVER THE INPUT: true; the input reads as it did. -/
def fnExactSealNextSpec : ChangeSpec := { name := "fnExactSealNext", fn := fun _ => fun
  | [d1, d2] => { results := [.lit (.bool true)], args := [d1, d2] }
  | _ => none }
def fnExactSealNextRow : OpenClaim := { program := "ytnedkfmbeeodfaa", sum := "d5ecfeafca1215a714876aa28b74e82d2832e892631b0bf2422ad61d538a17f8", func := "loop.example/proofarchive/laws.FnExactSealNext", spec := "fnExactSealNext", apart := false }
def FnExactSealNextSaid : Prop := fnExactSealNextRow.holds Try.pinned (OpenSpec.ofChange fnExactSealNextSpec)

/-- ITS FALSE NEIGHBOUR: 'it returns false'. Refute it at one input. -/
def fnExactSealNextWrong : ChangeSpec := { name := "fnExactSealNext", fn := fun _ => fun
  | [d1, d2] => { results := [.lit (.bool false)], args := [d1, d2] }
  | _ => none }
def FnExactSealNextWrongFalsely : Prop := fnExactSealNextRow.holds Try.pinned (OpenSpec.ofChange fnExactSealNextWrong)

/-- 'laws.FnSealNext': WHATEVER THE INPUT: true; the input reads as it did. -/
def fnSealNextSpec : ChangeSpec := { name := "fnSealNext", fn := fun _ => fun
  | [d] => { results := [.lit (.bool true)], args := [d] }
  | _ => none }
def fnSealNextRow : OpenClaim := { program := "ytnedkfmbeeodfaa", sum := "d5ecfeafca1215a714876aa28b74e82d2832e892631b0bf2422ad61d538a17f8", func := "loop.example/proofarchive/laws.FnSealNext", spec := "fnSealNext", apart := false }
def FnSealNextSaid : Prop := fnSealNextRow.holds Try.pinned (OpenSpec.ofChange fnSealNextSpec)

/-- ITS FALSE NEIGHBOUR: 'it returns false'. Refute it at one input. -/
def fnSealNextWrong : ChangeSpec := { name := "fnSealNext", fn := fun _ => fun
  | [d] => { results := [.lit (.bool false)], args := [d] }
  | _ => none }
def FnSealNextWrongFalsely : Prop := fnSealNextRow.holds Try.pinned (OpenSpec.ofChange fnSealNextWrong)

/-- 'laws.FnSealsOf': WHATEVER THE INPUT: true; the input reads as it did. -/
def fnSealsOfSpec : ChangeSpec := { name := "fnSealsOf", fn := fun _ => fun
  | [d] => { results := [.lit (.bool true)], args := [d] }
  | _ => none }
def fnSealsOfRow : OpenClaim := { program := "ytnedkfmbeeodfaa", sum := "d5ecfeafca1215a714876aa28b74e82d2832e892631b0bf2422ad61d538a17f8", func := "loop.example/proofarchive/laws.FnSealsOf", spec := "fnSealsOf", apart := false }
def FnSealsOfSaid : Prop := fnSealsOfRow.holds Try.pinned (OpenSpec.ofChange fnSealsOfSpec)

/-- ITS FALSE NEIGHBOUR: 'it returns false'. Refute it at one input. -/
def fnSealsOfWrong : ChangeSpec := { name := "fnSealsOf", fn := fun _ => fun
  | [d] => { results := [.lit (.bool false)], args := [d] }
  | _ => none }
def FnSealsOfWrongFalsely : Prop := fnSealsOfRow.holds Try.pinned (OpenSpec.ofChange fnSealsOfWrong)

/-- 'laws.FnExactSealsRight': WHATEVER THE INPUT: true; the input reads as it did. -/
def fnExactSealsRightSpec : ChangeSpec := { name := "fnExactSealsRight", fn := fun _ => fun
  | [d1, d2] => { results := [.lit (.bool true)], args := [d1, d2] }
  | _ => none }
def fnExactSealsRightRow : OpenClaim := { program := "ytnedkfmbeeodfaa", sum := "d5ecfeafca1215a714876aa28b74e82d2832e892631b0bf2422ad61d538a17f8", func := "loop.example/proofarchive/laws.FnExactSealsRight", spec := "fnExactSealsRight", apart := false }
def FnExactSealsRightSaid : Prop := fnExactSealsRightRow.holds Try.pinned (OpenSpec.ofChange fnExactSealsRightSpec)

/-- ITS FALSE NEIGHBOUR: 'it returns false'. Refute it at one input. -/
def fnExactSealsRightWrong : ChangeSpec := { name := "fnExactSealsRight", fn := fun _ => fun
  | [d1, d2] => { results := [.lit (.bool false)], args := [d1, d2] }
  | _ => none }
def FnExactSealsRightWrongFalsely : Prop := fnExactSealsRightRow.holds Try.pinned (OpenSpec.ofChange fnExactSealsRightWrong)

/-- 'laws.FnExactSealsOf': WHATEVER THE INPUT: true; the input reads as it did. -/
def fnExactSealsOfSpec : ChangeSpec := { name := "fnExactSealsOf", fn := fun _ => fun
  | [d] => { results := [.lit (.bool true)], args := [d] }
  | _ => none }
def fnExactSealsOfRow : OpenClaim := { program := "ytnedkfmbeeodfaa", sum := "d5ecfeafca1215a714876aa28b74e82d2832e892631b0bf2422ad61d538a17f8", func := "loop.example/proofarchive/laws.FnExactSealsOf", spec := "fnExactSealsOf", apart := false }
def FnExactSealsOfSaid : Prop := fnExactSealsOfRow.holds Try.pinned (OpenSpec.ofChange fnExactSealsOfSpec)

/-- ITS FALSE NEIGHBOUR: 'it returns false'. Refute it at one input. -/
def fnExactSealsOfWrong : ChangeSpec := { name := "fnExactSealsOf", fn := fun _ => fun
  | [d] => { results := [.lit (.bool false)], args := [d] }
  | _ => none }
def FnExactSealsOfWrongFalsely : Prop := fnExactSealsOfRow.holds Try.pinned (OpenSpec.ofChange fnExactSealsOfWrong)

/-- 'laws.FnSealsRight': WHATEVER THE INPUT: true; the input reads as it did. -/
def fnSealsRightSpec : ChangeSpec := { name := "fnSealsRight", fn := fun _ => fun
  | [d] => { results := [.lit (.bool true)], args := [d] }
  | _ => none }
def fnSealsRightRow : OpenClaim := { program := "ytnedkfmbeeodfaa", sum := "d5ecfeafca1215a714876aa28b74e82d2832e892631b0bf2422ad61d538a17f8", func := "loop.example/proofarchive/laws.FnSealsRight", spec := "fnSealsRight", apart := false }
def FnSealsRightSaid : Prop := fnSealsRightRow.holds Try.pinned (OpenSpec.ofChange fnSealsRightSpec)

/-- ITS FALSE NEIGHBOUR: 'it returns false'. Refute it at one input. -/
def fnSealsRightWrong : ChangeSpec := { name := "fnSealsRight", fn := fun _ => fun
  | [d] => { results := [.lit (.bool false)], args := [d] }
  | _ => none }
def FnSealsRightWrongFalsely : Prop := fnSealsRightRow.holds Try.pinned (OpenSpec.ofChange fnSealsRightWrong)

/- THE SECOND FORM. 'bulk': how many values and letters a reading holds, each counted each time it is reached (what is shared counts as often as it is met; a slice's spare places count too). A statement '..UptoSaid' is the law's where the arguments, and the package variables that the reading takes, are together of bulk at most 1048576: NARROWER than '..Said'. Prove '..Said' where nothing that the law and all that it calls make is longer than what came in: it says more and counts as full. Else prove '..UptoSaid'. A law counts once. -/
mutual
def uptoBulk {H : Type} : DataW H → Nat
  | .lit (.string bytes) => bytes.length + 1
  | .lit _ => 1
  | .nil => 1
  | .ptr d => uptoBulk d + 1
  | .slice elems spare => uptoBulkAll elems + uptoBulkAll spare + 1
  | .agg parts => uptoBulkAll parts + 1
  | .iface _ d => uptoBulk d + 1
  | .map entries => uptoBulkEntries entries + 1
  | .held _ => 1
def uptoBulkAll {H : Type} : List (DataW H) → Nat
  | [] => 0
  | d :: r => uptoBulk d + uptoBulkAll r
def uptoBulkEntries {H : Type} : List (Lit × DataW H) → Nat
  | [] => 0
  | x :: r => uptoBulkEntry x + uptoBulkEntries r
def uptoBulkEntry {H : Type} : Lit × DataW H → Nat
  | (.string bytes, d) => bytes.length + uptoBulk d + 1
  | (_, d) => uptoBulk d + 1
 end
def uptoSmall : (H : Type) → List (DataW H) → Bool := fun _ ds => decide (uptoBulkAll ds ≤ 1048576)
def OpenSpec.upto (s : _root_.Go.ChangeSpec) : _root_.Go.OpenSpec := { _root_.Go.OpenSpec.ofChange s with cond := some uptoSmall }

/-- 'laws.FnExactCacheValid', WHERE WHAT IT READS IS OF BULK AT MOST 1048576: true; the input reads as it did. -/
def fnExactCacheValidUptoRow : OpenClaim := { program := "ytnedkfmbeeodfaa", sum := "d5ecfeafca1215a714876aa28b74e82d2832e892631b0bf2422ad61d538a17f8", func := "loop.example/proofarchive/laws.FnExactCacheValid", spec := "fnExactCacheValid", apart := false, narrowed := true }
def FnExactCacheValidUptoSaid : Prop := fnExactCacheValidUptoRow.holds Try.pinned (OpenSpec.upto fnExactCacheValidSpec)

/-- 'laws.FnCacheValid', WHERE WHAT IT READS IS OF BULK AT MOST 1048576: true; the input reads as it did. -/
def fnCacheValidUptoRow : OpenClaim := { program := "ytnedkfmbeeodfaa", sum := "d5ecfeafca1215a714876aa28b74e82d2832e892631b0bf2422ad61d538a17f8", func := "loop.example/proofarchive/laws.FnCacheValid", spec := "fnCacheValid", apart := false, narrowed := true }
def FnCacheValidUptoSaid : Prop := fnCacheValidUptoRow.holds Try.pinned (OpenSpec.upto fnCacheValidSpec)

/-- 'laws.FnExactRunCache', WHERE WHAT IT READS IS OF BULK AT MOST 1048576: true; the input reads as it did. -/
def fnExactRunCacheUptoRow : OpenClaim := { program := "ytnedkfmbeeodfaa", sum := "d5ecfeafca1215a714876aa28b74e82d2832e892631b0bf2422ad61d538a17f8", func := "loop.example/proofarchive/laws.FnExactRunCache", spec := "fnExactRunCache", apart := false, narrowed := true }
def FnExactRunCacheUptoSaid : Prop := fnExactRunCacheUptoRow.holds Try.pinned (OpenSpec.upto fnExactRunCacheSpec)

/-- 'laws.FnExactUseCache', WHERE WHAT IT READS IS OF BULK AT MOST 1048576: true; the input reads as it did. -/
def fnExactUseCacheUptoRow : OpenClaim := { program := "ytnedkfmbeeodfaa", sum := "d5ecfeafca1215a714876aa28b74e82d2832e892631b0bf2422ad61d538a17f8", func := "loop.example/proofarchive/laws.FnExactUseCache", spec := "fnExactUseCache", apart := false, narrowed := true }
def FnExactUseCacheUptoSaid : Prop := fnExactUseCacheUptoRow.holds Try.pinned (OpenSpec.upto fnExactUseCacheSpec)

/-- 'laws.FnUseCache', WHERE WHAT IT READS IS OF BULK AT MOST 1048576: true; the input reads as it did. -/
def fnUseCacheUptoRow : OpenClaim := { program := "ytnedkfmbeeodfaa", sum := "d5ecfeafca1215a714876aa28b74e82d2832e892631b0bf2422ad61d538a17f8", func := "loop.example/proofarchive/laws.FnUseCache", spec := "fnUseCache", apart := false, narrowed := true }
def FnUseCacheUptoSaid : Prop := fnUseCacheUptoRow.holds Try.pinned (OpenSpec.upto fnUseCacheSpec)

/-- 'laws.FnRunCache', WHERE WHAT IT READS IS OF BULK AT MOST 1048576: true; the input reads as it did. -/
def fnRunCacheUptoRow : OpenClaim := { program := "ytnedkfmbeeodfaa", sum := "d5ecfeafca1215a714876aa28b74e82d2832e892631b0bf2422ad61d538a17f8", func := "loop.example/proofarchive/laws.FnRunCache", spec := "fnRunCache", apart := false, narrowed := true }
def FnRunCacheUptoSaid : Prop := fnRunCacheUptoRow.holds Try.pinned (OpenSpec.upto fnRunCacheSpec)

/-- 'laws.FnExactSealNext', WHERE WHAT IT READS IS OF BULK AT MOST 1048576: true; the input reads as it did. -/
def fnExactSealNextUptoRow : OpenClaim := { program := "ytnedkfmbeeodfaa", sum := "d5ecfeafca1215a714876aa28b74e82d2832e892631b0bf2422ad61d538a17f8", func := "loop.example/proofarchive/laws.FnExactSealNext", spec := "fnExactSealNext", apart := false, narrowed := true }
def FnExactSealNextUptoSaid : Prop := fnExactSealNextUptoRow.holds Try.pinned (OpenSpec.upto fnExactSealNextSpec)

/-- 'laws.FnSealNext', WHERE WHAT IT READS IS OF BULK AT MOST 1048576: true; the input reads as it did. -/
def fnSealNextUptoRow : OpenClaim := { program := "ytnedkfmbeeodfaa", sum := "d5ecfeafca1215a714876aa28b74e82d2832e892631b0bf2422ad61d538a17f8", func := "loop.example/proofarchive/laws.FnSealNext", spec := "fnSealNext", apart := false, narrowed := true }
def FnSealNextUptoSaid : Prop := fnSealNextUptoRow.holds Try.pinned (OpenSpec.upto fnSealNextSpec)

/-- 'laws.FnSealsOf', WHERE WHAT IT READS IS OF BULK AT MOST 1048576: true; the input reads as it did. -/
def fnSealsOfUptoRow : OpenClaim := { program := "ytnedkfmbeeodfaa", sum := "d5ecfeafca1215a714876aa28b74e82d2832e892631b0bf2422ad61d538a17f8", func := "loop.example/proofarchive/laws.FnSealsOf", spec := "fnSealsOf", apart := false, narrowed := true }
def FnSealsOfUptoSaid : Prop := fnSealsOfUptoRow.holds Try.pinned (OpenSpec.upto fnSealsOfSpec)

/-- 'laws.FnExactSealsRight', WHERE WHAT IT READS IS OF BULK AT MOST 1048576: true; the input reads as it did. -/
def fnExactSealsRightUptoRow : OpenClaim := { program := "ytnedkfmbeeodfaa", sum := "d5ecfeafca1215a714876aa28b74e82d2832e892631b0bf2422ad61d538a17f8", func := "loop.example/proofarchive/laws.FnExactSealsRight", spec := "fnExactSealsRight", apart := false, narrowed := true }
def FnExactSealsRightUptoSaid : Prop := fnExactSealsRightUptoRow.holds Try.pinned (OpenSpec.upto fnExactSealsRightSpec)

/-- 'laws.FnExactSealsOf', WHERE WHAT IT READS IS OF BULK AT MOST 1048576: true; the input reads as it did. -/
def fnExactSealsOfUptoRow : OpenClaim := { program := "ytnedkfmbeeodfaa", sum := "d5ecfeafca1215a714876aa28b74e82d2832e892631b0bf2422ad61d538a17f8", func := "loop.example/proofarchive/laws.FnExactSealsOf", spec := "fnExactSealsOf", apart := false, narrowed := true }
def FnExactSealsOfUptoSaid : Prop := fnExactSealsOfUptoRow.holds Try.pinned (OpenSpec.upto fnExactSealsOfSpec)

/-- 'laws.FnSealsRight', WHERE WHAT IT READS IS OF BULK AT MOST 1048576: true; the input reads as it did. -/
def fnSealsRightUptoRow : OpenClaim := { program := "ytnedkfmbeeodfaa", sum := "d5ecfeafca1215a714876aa28b74e82d2832e892631b0bf2422ad61d538a17f8", func := "loop.example/proofarchive/laws.FnSealsRight", spec := "fnSealsRight", apart := false, narrowed := true }
def FnSealsRightUptoSaid : Prop := fnSealsRightUptoRow.holds Try.pinned (OpenSpec.upto fnSealsRightSpec)

end Rows
end Go.Proofs.Ytnedkfmbeeodfaa
