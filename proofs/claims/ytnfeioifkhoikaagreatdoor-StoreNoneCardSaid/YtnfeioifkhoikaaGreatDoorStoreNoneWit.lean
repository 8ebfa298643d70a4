/- A world for the witness of StoreNone: the settled one, the listed variables holding what the list says. -/
import Derived.Test.YtnfeioifkhoikaaGreatDoorStoreNoneTab
namespace Go.Proofs.YtnfeioifkhoikaaGreatDoor.storeNone
open Go.ChangeShapes Go.WideShapes Go.ChangeAt Go.RowKit
set_option maxRecDepth 100000
abbrev text0 : ByteArray := { data := #[118, 97, 108, 117, 101, 32, 111, 117, 116, 32, 111, 102, 32, 114, 97, 110, 103, 101] }
abbrev text1 : ByteArray := { data := #[105, 110, 118, 97, 108, 105, 100, 32, 115, 121, 110, 116, 97, 120] }
noncomputable def low : Nat := (World.holding Tryz.prog default ⟨#[], #[], []⟩).heap.size
noncomputable def laidWorld (os : Os) : World :=
  let w0 := World.holding Tryz.prog os ⟨#[.cells #[.string text0] 329, .cells #[.string text1] 329], #[], []⟩
  let put (h : Array Obj) (g : Nat) (cs : Array Value) : Array Obj := h.modify g fun
    | .cells _ t frozen => .cells cs t frozen
    | o => o
  let a0 := w0.heap
  let a1 := put a0 4 (b32Tab.map fun z => Value.int .u8 z).toArray
  let a2 := put a1 5 (b64Tab.map fun z => Value.int .u8 z).toArray
  let a3 := put a2 2 (powTab.map fun z => Value.int .u64 z).toArray
  let a4 := put a3 1 #[.iface 327 (.pointer (some ⟨low + 0, 0, none⟩))]
  let a5 := put a4 0 #[.iface 327 (.pointer (some ⟨low + 1, 0, none⟩))]
  { w0 with heap := a5 }
theorem laid_met (os : Os) (args : Array Value) : laidMet Tryz.prog Rows.storeNoneRow.laid ((laidWorld os).forCall (fun _ _ => 0) ⟨#[], args, []⟩).memory :=
  laidMet_of_run' 8 (by kernel_rfl) (by kernel_rfl)
theorem reads (os : Os) {H : Type} (enc : TypeId × Value → H) : ∃ places, DataW.whole enc Tryz.prog ((laidWorld os).forCall (fun _ _ => 0) ⟨#[], #[.agg #[.int .i64 0, .int .i64 0], .int .i64 0, .slice none 0 0], []⟩).memory Tryz.f3.params.toList Rows.storeNoneSpec.vars false (#[.agg #[.int .i64 0, .int .i64 0], .int .i64 0, .slice none 0 0] : Array Value).toList 8 = some ([.agg [.lit (.int .i64 0), .lit (.int .i64 0)], .lit (.int .i64 0), .nil], [], places) :=
  ⟨[], by kernel_rfl⟩
end Go.Proofs.YtnfeioifkhoikaaGreatDoor.storeNone
