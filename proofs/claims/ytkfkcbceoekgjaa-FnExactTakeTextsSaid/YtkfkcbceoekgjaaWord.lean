/- Walks: words, and the fixed answer. -/
import Derived.Test.YtkfkcbceoekgjaaA
namespace Go.Proofs.Ytkfkcbceoekgjaa
open Go.RowKit

/-- The bytes of a string. -/
abbrev bs (s : ByteArray) : List UInt8 := s.data.toList
def isDig (c : Int) : Bool := inB c 48 57
def isSm (c : Int) : Bool := inB c 97 122
def wordCh (c : UInt8) : Bool := isSm c.toNat || isDig c.toNat
def wordOk (l : List UInt8) : Bool := decide (1 ≤ l.length) && decide (l.length ≤ 8) && !(l.head?.any fun c => isDig c.toNat) && l.all wordCh





end Go.Proofs.Ytkfkcbceoekgjaa
