/- The tables that StoreNone's row lists, the evaluator's first heap, and the world that it stands for. -/
import Derived.Test.YtnfeioifkhoikaaGreatDoorCards
import Derived.Test.YtnfeioifkhoikaaGreatDoorTie
import Derived.Deep.DeepWitnessRowRef
import Derived.Stop.LaidErr
import Derived.Test.YtnfeioifkhoikaaGreatDoorAmW
namespace Go.Proofs.YtnfeioifkhoikaaGreatDoor.storeNone
open Go.ChangeShapes Go.WideShapes Go.ChangeAt Go.RowKit Go.AM
set_option maxRecDepth 100000

theorem own : ownKnob Tryz.prog.godebug = none := by kernel_rfl
theorem mixed : Tryz.prog.follows .mixedOrders = true := by kernel_rfl
theorem laidOut : laidOutB Tryz.prog = true := by kernel_rfl

def b32Tab : List Int := [0, 1, 28, 2, 29, 14, 24, 3, 30, 22, 20, 15, 25, 17, 4, 8, 31, 27, 13, 23, 21, 19, 16, 7, 26, 12, 18, 6, 11, 5, 10, 9]
def b64Tab : List Int := [0, 1, 56, 2, 57, 49, 28, 3, 61, 58, 42, 50, 38, 29, 17, 4, 62, 47, 59, 36, 45, 43, 51, 22, 53, 39, 33, 30, 24, 18, 12, 5, 63, 55, 48, 27, 60, 41, 37, 16, 46, 35, 44, 21, 52, 32, 23, 11, 54, 26, 40, 15, 34, 20, 31, 10, 25, 14, 19, 9, 13, 8, 7, 6]
def powTab : List Int := [1, 10, 100, 1000, 10000, 100000, 1000000, 10000000, 100000000, 1000000000, 10000000000, 100000000000, 1000000000000, 10000000000000, 100000000000000, 1000000000000000, 10000000000000000, 100000000000000000, 1000000000000000000, 10000000000000000000]

def h0 : H := H.lay 6 [(4, .cells (ints .u8 b32Tab) 335 false true none), (5, .cells (ints .u8 b64Tab) 336 false true none), (2, .cells (ints .u64 powTab) 315 false true none)]
noncomputable def E0 : Env := envOf Tryz.prog (fun _ => none)

theorem h0_get (i : Nat) (o : AM.Obj) (h : h0.get i = some o) : (i = 4 ∧ o = .cells (ints .u8 b32Tab) 335 false true none) ∨ (i = 5 ∧ o = .cells (ints .u8 b64Tab) 336 false true none) ∨ (i = 2 ∧ o = .cells (ints .u64 powTab) 315 false true none) := by
  have hlt' : i < 6 := H.get_lt h
  match i, hlt' with
  | 0, _ => exact absurd (h.symm.trans (show h0.get 0 = none from rfl)) (by simp)
  | 1, _ => exact absurd (h.symm.trans (show h0.get 1 = none from rfl)) (by simp)
  | 2, _ => exact (.inr (.inr ⟨rfl, (Option.some.inj (h.symm.trans (show h0.get 2 = some (.cells (ints .u64 powTab) 315 false true none) from rfl)))⟩))
  | 3, _ => exact absurd (h.symm.trans (show h0.get 3 = none from rfl)) (by simp)
  | 4, _ => exact (.inl ⟨rfl, (Option.some.inj (h.symm.trans (show h0.get 4 = some (.cells (ints .u8 b32Tab) 335 false true none) from rfl)))⟩)
  | 5, _ => exact (.inr (.inl ⟨rfl, (Option.some.inj (h.symm.trans (show h0.get 5 = some (.cells (ints .u8 b64Tab) 336 false true none) from rfl)))⟩))

theorem globals : Tryz.prog.globals.size = 6 := by kernel_rfl
theorem laidL {W : World} (h : laidMetH Tryz.prog Rows.storeNoneRow.laid W) : laidMet Tryz.prog [("math/bits.deBruijn32tab", Lib.tabData .u8 b32Tab), ("math/bits.deBruijn64tab", Lib.tabData .u8 b64Tab), ("internal/strconv.uint64pow10", Lib.tabData .u64 powTab), ("strconv.ErrRange", Rows.laid_strconv_ErrRange), ("strconv.ErrSyntax", Rows.laid_strconv_ErrSyntax)] W := h
theorem g_b32Tab : Tryz.prog.globalNamed "math/bits.deBruijn32tab" = some 4 := by kernel_rfl
theorem is_b32Tab {W : World} (h : laidMetH Tryz.prog Rows.storeNoneRow.laid W) : Lib.TabIs Tryz.prog W "math/bits.deBruijn32tab" .u8 b32Tab :=
  Lib.tabIs_of_head (t := 335) (e := 5) (n := 32) g_b32Tab (by kernel_rfl) (by kernel_rfl) (by kernel_rfl) (by kernel_rfl) (by kernel_rfl) (laidL h)
theorem row_b32Tab : (((begin Tryz.prog (fun _ _ => 0) default).world.heap[4]?).bind Obj.row?).map (·.2) = some 335 := by kernel_rfl
theorem g_b64Tab : Tryz.prog.globalNamed "math/bits.deBruijn64tab" = some 5 := by kernel_rfl
theorem is_b64Tab {W : World} (h : laidMetH Tryz.prog Rows.storeNoneRow.laid W) : Lib.TabIs Tryz.prog W "math/bits.deBruijn64tab" .u8 b64Tab :=
  Lib.tabIs_of_head (t := 336) (e := 5) (n := 64) g_b64Tab (by kernel_rfl) (by kernel_rfl) (by kernel_rfl) (by kernel_rfl) (by kernel_rfl) (laidMet.tail (laidL h))
theorem row_b64Tab : (((begin Tryz.prog (fun _ _ => 0) default).world.heap[5]?).bind Obj.row?).map (·.2) = some 336 := by kernel_rfl
theorem g_powTab : Tryz.prog.globalNamed "internal/strconv.uint64pow10" = some 2 := by kernel_rfl
theorem is_powTab {W : World} (h : laidMetH Tryz.prog Rows.storeNoneRow.laid W) : Lib.TabIs Tryz.prog W "internal/strconv.uint64pow10" .u64 powTab :=
  Lib.tabIs_of_head (t := 315) (e := 218) (n := 20) g_powTab (by kernel_rfl) (by kernel_rfl) (by kernel_rfl) (by kernel_rfl) (by kernel_rfl) (laidMet.tail (laidMet.tail (laidL h)))
theorem row_powTab : (((begin Tryz.prog (fun _ _ => 0) default).world.heap[2]?).bind Obj.row?).map (·.2) = some 315 := by kernel_rfl

/-- A table's block. -/
theorem block_of_tab {W : World} {name : String} {k : IntKind} {zs : List Int} {g : Nat} {ty : TypeId} {zero : Array Value} (ht : Lib.TabIs Tryz.prog W name k zs) (hg : Tryz.prog.globalNamed name = some g) (hs : W.ShapedOpen Tryz.prog) (hlt : g < Tryz.prog.globals.size)
    (hrow : ((begin Tryz.prog (fun _ _ => 0) default).world.heap[g]?).bind Obj.row? = some (zero, ty)) : W.heap[g]? = some (.cells (zs.map fun z => Value.int k z).toArray ty) := by
  obtain ⟨cs, h1, _⟩ := hs.1 g zero ty hlt hrow
  unfold Lib.TabIs World.var? at ht
  rw [hg] at ht
  simp only [Option.bind_some, h1, Option.some.injEq] at ht
  rw [h1, ht]

theorem startHR {W : World} (h : laidMetH Tryz.prog Rows.storeNoneRow.laid W) (hs : W.ShapedOpen Tryz.prog) : HR Tryz.prog (map0 Tryz.prog) h0 W := by
  obtain ⟨⟨z4, t4⟩, r4, e4⟩ := Option.map_eq_some_iff.1 row_b32Tab
  obtain ⟨⟨z5, t5⟩, r5, e5⟩ := Option.map_eq_some_iff.1 row_b64Tab
  obtain ⟨⟨z2, t2⟩, r2, e2⟩ := Option.map_eq_some_iff.1 row_powTab
  simp only at e4 e5 e2
  subst e4 e5 e2
  have b4 := block_of_tab (is_b32Tab h) g_b32Tab hs (by rw [globals]; decide) r4
  have b5 := block_of_tab (is_b64Tab h) g_b64Tab hs (by rw [globals]; decide) r5
  have b2 := block_of_tab (is_powTab h) g_powTab hs (by rw [globals]; decide) r2
  have hsz : 6 ≤ W.heap.size := by
    have hb : (begin Tryz.prog (fun _ _ => 0) default).world.heap.size = 6 + ((begin Tryz.prog (fun _ _ => 0) default).world.heap.size - 6) := by kernel_rfl
    rcases Nat.lt_or_ge 5 W.heap.size with h' | h'
    · omega
    · rw [Array.getElem?_eq_none h'] at b5; cases b5
  refine HR.init trivial globals.symm (by rw [globals]; exact hsz) fun i o hg => .inr ?_
  rcases h0_get i o hg with ⟨rfl, rfl⟩ | ⟨rfl, rfl⟩ | ⟨rfl, rfl⟩
  · exact ⟨_, _, _, rfl, b4⟩
  · exact ⟨_, _, _, rfl, b5⟩
  · exact ⟨_, _, _, rfl, b2⟩

theorem h0_ro (i : Nat) (o : AM.Obj) (h : h0.get i = some o) : o.mut = false := by
  rcases h0_get i o h with ⟨_, rfl⟩ | ⟨_, rfl⟩ | ⟨_, rfl⟩ <;> rfl
end Go.Proofs.YtnfeioifkhoikaaGreatDoor.storeNone
