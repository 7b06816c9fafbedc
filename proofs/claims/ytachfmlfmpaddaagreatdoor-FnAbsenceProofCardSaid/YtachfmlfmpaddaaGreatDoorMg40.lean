/- Walks and plain facts, joined: LawE. -/
import Derived.Test.YtachfmlfmpaddaaGreatDoorMg16
import Derived.Test.YtachfmlfmpaddaaGreatDoorMg30
import Derived.Test.YtachfmlfmpaddaaGreatDoorMg36
import Derived.Test.YtachfmlfmpaddaaGreatDoorMg38
set_option linter.unusedVariables false
set_option linter.unusedSimpArgs false

/- Walks: the laws on walks, on reads and on proofs. -/
namespace Go.Proofs.YtachfmlfmpaddaaGreatDoor
open Go.RowKit

theorem impl_ReadAt_e (v : Value) (xs : List Pc) (root : Int) (path : ByteArray) (w : World) (C : List UInt8) (ok : Bool) (hR : readAt xs root (bs path) = (C, ok)) (h : Pcs w w.heap.size v xs) (hp0 : path.size ≤ 1000) (hg : Glob w) (hm : Mx w) :
    Calls Tryz.prog 20 #[v, .int .i64 root, .string path] w fun e w' => e = .returned (.tuple #[.string (strL C), .bool ok]) ∧ Below w.heap.size w w' := by
  have := impl_ReadAt_c v xs root path w h hp0 hg hm
  rw [hR] at this
  exact this

end Go.Proofs.YtachfmlfmpaddaaGreatDoor
