/- My own text of the evaluator and its soundness (abstract machine), laid for this claim. -/
import Derived.Test.YtepbebfnmfjcgaaGreatDoorWalTab
namespace Go.Proofs.YtepbebfnmfjcgaaGreatDoor.wal
open Go.ChangeShapes Go.WideShapes Go.ChangeAt Go.RowKit
set_option maxRecDepth 100000
/-- A WORLD FOR THE WITNESS: the settled one, the listed variables holding what the list says. -/
abbrev textR : ByteArray := { data := #[118, 97, 108, 117, 101, 32, 111, 117, 116, 32, 111, 102, 32, 114, 97, 110, 103, 101] }
abbrev textS : ByteArray := { data := #[105, 110, 118, 97, 108, 105, 100, 32, 115, 121, 110, 116, 97, 120] }
noncomputable def low : Nat := (World.holding Tryz.prog default ⟨#[], #[], []⟩).heap.size
noncomputable def laidWorld (os : Os) : World :=
  let w0 := World.holding Tryz.prog os ⟨#[.cells #[.string textR] 219, .cells #[.string textS] 219], #[], []⟩
  let put (h : Array Obj) (g : Nat) (cs : Array Value) : Array Obj := h.modify g fun
    | .cells _ t frozen => .cells cs t frozen
    | o => o
  let h1 := put w0.heap 0 (powTab.map fun z => Value.int .u64 z).toArray
  let h2 := put h1 1 #[.iface 217 (.pointer (some ⟨low + 1, 0, none⟩))]
  let h3 := put h2 2 #[.iface 217 (.pointer (some ⟨low, 0, none⟩))]
  let h4 := put h3 4 (b32Tab.map fun z => Value.int .u8 z).toArray
  let h5 := put h4 5 (b64Tab.map fun z => Value.int .u8 z).toArray
  { w0 with heap := h5 }
theorem laid_met (os : Os) (args : Array Value) : laidMet Tryz.prog Rows.walNoneRow.laid ((laidWorld os).forCall (fun _ _ => 0) ⟨#[], args, []⟩).memory :=
  laidMet_of_run' 8 (by kernel_rfl) (by kernel_rfl)
end Go.Proofs.YtepbebfnmfjcgaaGreatDoor.wal
