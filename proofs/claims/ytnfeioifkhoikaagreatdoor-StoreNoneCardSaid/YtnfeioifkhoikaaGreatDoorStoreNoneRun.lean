/- The run of StoreNone by the evaluator, in the kernel. -/
import Derived.Test.YtnfeioifkhoikaaGreatDoorStoreNoneTab
namespace Go.Proofs.YtnfeioifkhoikaaGreatDoor.storeNone
open Go.AM
set_option maxRecDepth 100000
def dims : List V := [.agg [.junk, .junk], .junk, .junk]
theorem dims_ok : dimArgs Tryz.prog Tryz.f3.params.toList = some dims := by kernel_rfl
theorem run : isTrue (ap Tryz.prog E0 100 (.func 3 [] []) dims h0) = true := by kernel_rfl
end Go.Proofs.YtnfeioifkhoikaaGreatDoor.storeNone
