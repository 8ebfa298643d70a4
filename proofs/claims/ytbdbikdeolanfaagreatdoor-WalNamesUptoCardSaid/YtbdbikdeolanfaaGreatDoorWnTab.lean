/- The table that the law's row lists, the evaluator's first heap, the program's functions as the evaluator holds them. -/
import Derived.Test.YtbdbikdeolanfaaGreatDoorCards
import Derived.Test.YtbdbikdeolanfaaGreatDoorTie
import Derived.Deep.DeepWitnessRowRef
import Derived.Stop.LaidErr
import Derived.Test.YtbdbikdeolanfaaGreatDoorWnCodeB
import Derived.Test.YtbdbikdeolanfaaGreatDoorWn3Wn4
import Derived.Test.YtbdbikdeolanfaaGreatDoorXApToScErr
import Derived.Test.YtbdbikdeolanfaaGreatDoorXPrim3XPrim4
import Derived.Test.YtbdbikdeolanfaaGreatDoorWnShelf
set_option linter.unusedSimpArgs false
set_option linter.unusedVariables false
namespace Go.Proofs.YtbdbikdeolanfaaGreatDoor.wal
open Go.ChangeShapes Go.WideShapes Go.ChangeAt Go.RowKit Go.AM Go.AM.Wn
set_option maxRecDepth 100000

theorem own : ownKnob Tryz.prog.godebug = none := by kernel_rfl
theorem mixed : Tryz.prog.follows .mixedOrders = true := by kernel_rfl
theorem laidOut : laidOutB Tryz.prog = true := by kernel_rfl
def powTab : List Int := [1, 10, 100, 1000, 10000, 100000, 1000000, 10000000, 100000000, 1000000000, 10000000000, 100000000000, 1000000000000, 10000000000000, 100000000000000, 1000000000000000, 10000000000000000, 100000000000000000, 1000000000000000000, 10000000000000000000]
theorem pow_eq : powTab = Lib.pow10Tab := by decide
def h0 : H := H.lay 6 [(0, .cells (ints .u64 powTab) 173 false true none)]
theorem h0_get (i : Nat) (o : AM.Obj) (h : h0.get i = some o) : i = 0 ∧ o = .cells (ints .u64 powTab) 173 false true none := by
  have hlt' : i < 6 := H.get_lt h
  match i, hlt' with
  | 0, _ => exact ⟨rfl, Option.some.inj (h.symm.trans (show h0.get 0 = some (.cells (ints .u64 powTab) 173 false true none) from rfl))⟩
  | 1, _ => exact absurd (h.symm.trans (show h0.get 1 = none from rfl)) (by simp)
  | 2, _ => exact absurd (h.symm.trans (show h0.get 2 = none from rfl)) (by simp)
  | 3, _ => exact absurd (h.symm.trans (show h0.get 3 = none from rfl)) (by simp)
  | 4, _ => exact absurd (h.symm.trans (show h0.get 4 = none from rfl)) (by simp)
  | 5, _ => exact absurd (h.symm.trans (show h0.get 5 = none from rfl)) (by simp)
abbrev T1 (h : H) : Prop := Tb 0 173 h
theorem h0_t : T1 h0 := by
  show h0.get 0 = _
  rw [← pow_eq]; rfl
theorem globals : Tryz.prog.globals.size = 6 := by kernel_rfl
theorem g_pow : Tryz.prog.globalNamed "internal/strconv.uint64pow10" = some 0 := by kernel_rfl
theorem row_pow : (((begin Tryz.prog (fun _ _ => 0) default).world.heap[0]?).bind Obj.row?).map (·.2) = some 173 := by kernel_rfl

theorem block_of_tab {W : World} {name : String} {k : IntKind} {zs : List Int} {g : Nat} {ty : TypeId} {zero : Array Value} (ht : Lib.TabIs Tryz.prog W name k zs) (hg : Tryz.prog.globalNamed name = some g) (hs : W.ShapedOpen Tryz.prog) (hlt : g < Tryz.prog.globals.size)
    (hrow : ((begin Tryz.prog (fun _ _ => 0) default).world.heap[g]?).bind Obj.row? = some (zero, ty)) : W.heap[g]? = some (.cells (zs.map fun z => Value.int k z).toArray ty) := by
  obtain ⟨cs, h1, _⟩ := hs.1 g zero ty hlt hrow
  unfold Lib.TabIs World.var? at ht
  rw [hg] at ht
  simp only [Option.bind_some, h1, Option.some.injEq] at ht
  rw [h1, ht]
theorem startHR_of {W : World} (ht : Lib.TabIs Tryz.prog W "internal/strconv.uint64pow10" .u64 powTab) (hs : W.ShapedOpen Tryz.prog) (hsz : 6 ≤ W.heap.size) : HR Tryz.prog (map0 Tryz.prog) h0 W := by
  obtain ⟨⟨z0, t0⟩, r0, e0⟩ := Option.map_eq_some_iff.1 row_pow
  simp only at e0
  subst e0
  have b0 := block_of_tab ht g_pow hs (by rw [globals]; decide) r0
  refine HR.init trivial globals.symm (by rw [globals]; exact hsz) fun i o hg => .inr ?_
  obtain ⟨rfl, rfl⟩ := h0_get i o hg
  exact ⟨_, _, _, rfl, b0⟩
theorem h0_ro (i : Nat) (o : AM.Obj) (h : h0.get i = some o) : o.mut = false := by
  obtain ⟨_, rfl⟩ := h0_get i o h; rfl

theorem repeat_zero (c : Nat) : Lib.repeatL [48] c = List.replicate c 48 := by
  induction c with
  | zero => rfl
  | succ n ih => simp [Lib.repeatL, List.replicate_succ] at ih ⊢; exact ih
theorem repeat35 (c : Nat) (w : World) (hc : c ≤ 12) : Calls Tryz.prog 35 #[.string ⟨#[48]⟩, .int .i64 c] w fun e w' => e = .returned (.string ⟨(List.replicate c (48 : UInt8)).toArray⟩) ∧ Below w.heap.size w w' := by
  have := Tryz.strings_Repeat ⟨#[48]⟩ c w (by omega) (by show 1 * c ≤ _; omega)
  rw [show Lib.repeatL (ByteArray.mk #[48]).data.toList c = List.replicate c 48 from repeat_zero c] at this
  exact this
def prim1 : Nat → Option (List V → H → Option (V × H))
  | 34 => some (fmt10C 0 173)
  | 35 => some repP
  | _ => none
theorem prim1OK : PrimOK Tryz.prog prim1 := by
  intro g f hf
  unfold prim1 at hf
  split at hf
  · cases hf
    exact ⟨⟨_, Tryz.func34, by kernel_rfl, by decide⟩, fun args h v h' m w xs he hr hx n => fmt10_ok g_pow (by rw [globals]; decide) (fun n h1 h2 w ht => Tryz.strconv_FormatInt_10 n h1 h2 w ht) (fmt10C_P he) hr hx n⟩
  · cases hf
    exact ⟨⟨_, Tryz.func35, by kernel_rfl, by decide⟩, fun args h v h' m w xs he hr hx n => rep_ok (fun c w hc => repeat35 c w hc) he hr hx n⟩
  · cases hf
noncomputable def E1 : Env := envOf Tryz.prog prim1
def isTrue : Option (V × H) → Bool
  | some (.bool b, _) => b
  | _ => false
theorem isTrue_spec {r : Option (V × H)} (h : isTrue r = true) : ∃ h', r = some (.bool true, h') := by
  unfold isTrue at h
  split at h
  · subst h; exact ⟨_, rfl⟩
  · cases h
end Go.Proofs.YtbdbikdeolanfaaGreatDoor.wal
