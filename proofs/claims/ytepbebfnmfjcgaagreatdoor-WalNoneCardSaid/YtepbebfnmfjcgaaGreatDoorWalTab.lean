/- My own text of the evaluator and its soundness (abstract machine), laid for this claim. -/
import Derived.Test.YtepbebfnmfjcgaaGreatDoorCards
import Derived.Test.YtepbebfnmfjcgaaGreatDoorTie
import Derived.Deep.DeepWitnessRowRef
import Derived.Stop.LaidErr
import Derived.Test.YtepbebfnmfjcgaaGreatDoorAmV
namespace Go.Proofs.YtepbebfnmfjcgaaGreatDoor.wal
open Go.ChangeShapes Go.WideShapes Go.ChangeAt Go.RowKit Go.AM
set_option maxRecDepth 100000

theorem own : ownKnob Tryz.prog.godebug = none := by kernel_rfl
theorem mixed : Tryz.prog.follows .mixedOrders = true := by kernel_rfl
theorem laidOut : laidOutB Tryz.prog = true := by kernel_rfl

/-! ### the tables -/
def powTab : List Int := [1, 10, 100, 1000, 10000, 100000, 1000000, 10000000, 100000000, 1000000000, 10000000000, 100000000000, 1000000000000, 10000000000000, 100000000000000, 1000000000000000, 10000000000000000, 100000000000000000, 1000000000000000000, 10000000000000000000]
def b32Tab : List Int := [0, 1, 28, 2, 29, 14, 24, 3, 30, 22, 20, 15, 25, 17, 4, 8, 31, 27, 13, 23, 21, 19, 16, 7, 26, 12, 18, 6, 11, 5, 10, 9]
def b64Tab : List Int := [0, 1, 56, 2, 57, 49, 28, 3, 61, 58, 42, 50, 38, 29, 17, 4, 62, 47, 59, 36, 45, 43, 51, 22, 53, 39, 33, 30, 24, 18, 12, 5, 63, 55, 48, 27, 60, 41, 37, 16, 46, 35, 44, 21, 52, 32, 23, 11, 54, 26, 40, 15, 34, 20, 31, 10, 25, 14, 19, 9, 13, 8, 7, 6]

def h0 : H := { size := 6, t := (((Tr.nil.set depth 0 (.cells (ints .u64 powTab) 196 false true none)).set depth 4 (.cells (ints .u8 b32Tab) 223 false true none)).set depth 5 (.cells (ints .u8 b64Tab) 224 false true none)) }
noncomputable def E0 : Env := envOf Tryz.prog (fun _ => none)

theorem h0_get (i : Nat) (o : AM.Obj) (h : h0.get i = some o) : (i = 0 ∧ o = .cells (ints .u64 powTab) 196 false true none) ∨ (i = 4 ∧ o = .cells (ints .u8 b32Tab) 223 false true none) ∨ (i = 5 ∧ o = .cells (ints .u8 b64Tab) 224 false true none) := by
  have hlt := H.get_lt h
  have hlt' : i < 6 := hlt
  have g : ∀ j, h0.get j = (if j < 6 then h0.t.get depth j else none) := fun j => rfl
  match i, hlt' with
  | 0, _ => exact .inl ⟨rfl, (Option.some.inj (h.symm.trans (show h0.get 0 = some (.cells (ints .u64 powTab) 196 false true none) from rfl)))⟩
  | 1, _ => exact absurd (h.symm.trans (show h0.get 1 = none from rfl)) (by simp)
  | 2, _ => exact absurd (h.symm.trans (show h0.get 2 = none from rfl)) (by simp)
  | 3, _ => exact absurd (h.symm.trans (show h0.get 3 = none from rfl)) (by simp)
  | 4, _ => exact .inr (.inl ⟨rfl, (Option.some.inj (h.symm.trans (show h0.get 4 = some (.cells (ints .u8 b32Tab) 223 false true none) from rfl)))⟩)
  | 5, _ => exact .inr (.inr ⟨rfl, (Option.some.inj (h.symm.trans (show h0.get 5 = some (.cells (ints .u8 b64Tab) 224 false true none) from rfl)))⟩)

theorem gPow : Tryz.prog.globalNamed "internal/strconv.uint64pow10" = some 0 := by kernel_rfl
theorem gB32 : Tryz.prog.globalNamed "math/bits.deBruijn32tab" = some 4 := by kernel_rfl
theorem gB64 : Tryz.prog.globalNamed "math/bits.deBruijn64tab" = some 5 := by kernel_rfl
theorem globals : Tryz.prog.globals.size = 6 := by kernel_rfl

theorem laidL {W : World} (h : laidMetH Tryz.prog Rows.walNoneRow.laid W) : laidMet Tryz.prog [("math/bits.deBruijn32tab", Lib.tabData .u8 b32Tab), ("math/bits.deBruijn64tab", Lib.tabData .u8 b64Tab), ("internal/strconv.uint64pow10", Lib.tabData .u64 powTab), ("strconv.ErrRange", Rows.laid_strconv_ErrRange), ("strconv.ErrSyntax", Rows.laid_strconv_ErrSyntax)] W := h
theorem tab32 {W : World} (h : laidMetH Tryz.prog Rows.walNoneRow.laid W) : Lib.TabIs Tryz.prog W "math/bits.deBruijn32tab" .u8 b32Tab :=
  Lib.tabIs_of_head (t := 223) (e := 5) (n := 32) gB32 (by kernel_rfl) (by kernel_rfl) (by kernel_rfl) (by kernel_rfl) (by kernel_rfl) (laidL h)
theorem tab64 {W : World} (h : laidMetH Tryz.prog Rows.walNoneRow.laid W) : Lib.TabIs Tryz.prog W "math/bits.deBruijn64tab" .u8 b64Tab :=
  Lib.tabIs_of_head (t := 224) (e := 5) (n := 64) gB64 (by kernel_rfl) (by kernel_rfl) (by kernel_rfl) (by kernel_rfl) (by kernel_rfl) (laidMet.tail (laidL h))
theorem tabPow {W : World} (h : laidMetH Tryz.prog Rows.walNoneRow.laid W) : Lib.TabIs Tryz.prog W "internal/strconv.uint64pow10" .u64 powTab :=
  Lib.tabIs_of_head (t := 196) (e := 164) (n := 20) gPow (by kernel_rfl) (by kernel_rfl) (by kernel_rfl) (by kernel_rfl) (by kernel_rfl) (laidMet.tail (laidMet.tail (laidL h)))

/-- A table's block. -/
theorem block_of_tab {W : World} {name : String} {k : IntKind} {zs : List Int} {g : Nat} {ty : TypeId} {zero : Array Value} (ht : Lib.TabIs Tryz.prog W name k zs) (hg : Tryz.prog.globalNamed name = some g) (hs : W.ShapedOpen Tryz.prog) (hlt : g < Tryz.prog.globals.size)
    (hrow : ((begin Tryz.prog (fun _ _ => 0) default).world.heap[g]?).bind Obj.row? = some (zero, ty)) : W.heap[g]? = some (.cells (zs.map fun z => Value.int k z).toArray ty) := by
  obtain ⟨cs, h1, _⟩ := hs.1 g zero ty hlt hrow
  unfold Lib.TabIs World.var? at ht
  rw [hg] at ht
  simp only [Option.bind_some, h1, Option.some.injEq] at ht
  rw [h1, ht]
theorem row0 : (((begin Tryz.prog (fun _ _ => 0) default).world.heap[0]?).bind Obj.row?).map (·.2) = some 196 := by kernel_rfl
theorem row4 : (((begin Tryz.prog (fun _ _ => 0) default).world.heap[4]?).bind Obj.row?).map (·.2) = some 223 := by kernel_rfl
theorem row5 : (((begin Tryz.prog (fun _ _ => 0) default).world.heap[5]?).bind Obj.row?).map (·.2) = some 224 := by kernel_rfl

theorem startHR {W : World} (h : laidMetH Tryz.prog Rows.walNoneRow.laid W) (hs : W.ShapedOpen Tryz.prog) : HR Tryz.prog (map0 Tryz.prog) h0 W := by
  obtain ⟨⟨z0, t0⟩, r0, e0⟩ := Option.map_eq_some_iff.1 row0
  obtain ⟨⟨z4, t4⟩, r4, e4⟩ := Option.map_eq_some_iff.1 row4
  obtain ⟨⟨z5, t5⟩, r5, e5⟩ := Option.map_eq_some_iff.1 row5
  simp only at e0 e4 e5
  subst e0 e4 e5
  have b0 := block_of_tab (tabPow h) gPow hs (by rw [globals]; decide) r0
  have b4 := block_of_tab (tab32 h) gB32 hs (by rw [globals]; decide) r4
  have b5 := block_of_tab (tab64 h) gB64 hs (by rw [globals]; decide) r5
  have hsz : 5 < W.heap.size := by
    rcases Nat.lt_or_ge 5 W.heap.size with h' | h'
    · exact h'
    · rw [Array.getElem?_eq_none h'] at b5; cases b5
  refine HR.init (by unfold H.ok; decide) globals.symm (by rw [globals]; omega) fun i o hg => .inr ?_
  rcases h0_get i o hg with ⟨rfl, rfl⟩ | ⟨rfl, rfl⟩ | ⟨rfl, rfl⟩
  · exact ⟨_, _, _, rfl, b0⟩
  · exact ⟨_, _, _, rfl, b4⟩
  · exact ⟨_, _, _, rfl, b5⟩

theorem h0_ro (i : Nat) (o : AM.Obj) (h : h0.get i = some o) : o.mut = false := by
  rcases h0_get i o h with ⟨_, rfl⟩ | ⟨_, rfl⟩ | ⟨_, rfl⟩ <;> rfl

def isTrue : Option (V × H) → Bool
  | some (.bool b, _) => b
  | _ => false
theorem isTrue_spec {r : Option (V × H)} (h : isTrue r = true) : ∃ h', r = some (.bool true, h') := by
  unfold isTrue at h
  split at h
  · subst h; exact ⟨_, rfl⟩
  · cases h
end Go.Proofs.YtepbebfnmfjcgaaGreatDoor.wal
