/- My own text of the evaluator and its soundness (abstract machine), laid for this claim. -/
import Derived.Test.YtepbebfnmfjcgaaGreatDoorWalTab
namespace Go.Proofs.YtepbebfnmfjcgaaGreatDoor.walNone
open Go.AM
open wal
set_option maxRecDepth 100000
theorem run : isTrue (ap Tryz.prog E0 100 (.func 4 [] []) [.junk, .junk] h0) = true := by kernel_rfl
end Go.Proofs.YtepbebfnmfjcgaaGreatDoor.walNone
