/- My own texts of the evaluator, its soundness and its symbolic runs, laid for this claim. -/
import Derived.Test.YtelbgimbkfjabaaRows
import Derived.Deep.DeepWitnessRowRef
import Derived.Test.YtelbgimbkfjabaaXPrim5
set_option linter.unusedSimpArgs false
set_option linter.unusedVariables false
namespace Go.Proofs.Ytelbgimbkfjabaa.audit
open Go.ChangeShapes Go.WideShapes Go.ChangeAt Go.RowKit Go.AM
set_option maxRecDepth 100000
theorem own : ownKnob Try.prog.godebug = none := by kernel_rfl
theorem mixed : Try.prog.follows .mixedOrders = true := by kernel_rfl
theorem laidOut : laidOutB Try.prog = true := by kernel_rfl
theorem globals : Try.prog.globals.size = 0 := by kernel_rfl
abbrev nodeV : List V := [.int .i64 5, .int .i64 5, .str [97], .slice none 0 0 false]
def hN : H := H.lay 1 [(0, .cells nodeV 67 false true none)]
noncomputable def E1 : Env := envOf Try.prog fun _ => none
def isErr (n : Int) : V → Bool
  | .tup [.ptr none, .int .i64 k] => k == n
  | _ => false
theorem isErr_eq {n : Int} {v : V} (h : isErr n v = true) : v = .tup [.ptr none, .int .i64 n] := by
  unfold isErr at h
  split at h
  · rw [beq_iff_eq.1 h]
  · cases h
noncomputable abbrev f67c : AM.Fn := (cFn Try.prog Try.f67).getD ⟨0, [], .skip⟩
theorem c67 : cFn Try.prog Try.f67 = some f67c := by kernel_rfl
theorem from_runs : ncFnB Try.prog (ap Try.prog E1 40) 40 f67c [.slice (some (0, 0)) 1 1 false] hN (isErr 121) = true := by kernel_rfl
theorem hN_get (i : Nat) (o : AM.Obj) (h : hN.get i = some o) : i = 0 ∧ o = .cells nodeV 67 false true none := by
  have hlt : i < 1 := H.get_lt h
  match i, hlt with
  | 0, _ => exact ⟨rfl, Option.some.inj (h.symm.trans (show hN.get 0 = some (.cells nodeV 67 false true none) from rfl))⟩
theorem hN_ro (i : Nat) (o : AM.Obj) (h : hN.get i = some o) : o.mut = false := by
  obtain ⟨_, rfl⟩ := hN_get i o h; rfl
theorem flatN (m m' : Mp) (ys : List Value) (h : VRL m nodeV ys) : VRL m' nodeV ys := by
  obtain ⟨y1, ys1, e1, ⟨y2, ys2, e2, ⟨y3, ys3, e3, ⟨y4, ys4, e4, e5, rfl⟩, rfl⟩, rfl⟩, rfl⟩ := h
  exact ⟨_, _, e1, ⟨_, _, e2, ⟨_, _, e3, ⟨_, _, e4, e5, rfl⟩, rfl⟩, rfl⟩, rfl⟩
def fromP : List V → H → Option (V × H) := fun args h => match args with
  | [.slice (some (b, 0)) 1 1 false] => match h.get b with
    | some (.cells [.int .i64 5, .int .i64 5, .str [97], .slice none 0 0 false] 67 false _ _) => some (.tup [.ptr none, .int .i64 121], h)
    | _ => none
  | _ => none
def prim1 : Nat → Option (List V → H → Option (V × H))
  | 67 => some fromP
  | _ => none
theorem prim1OK : PrimOK Try.prog prim1 := by
  intro g f hf
  unfold prim1 at hf
  split at hf
  · cases hf
    refine ⟨⟨_, Try.func67, by kernel_rfl, by decide⟩, fun args h v h' m w xs he hr hx n => ?_⟩
    unfold fromP at he
    split at he
    · rename_i b
      split at he
      · rename_i ro fz hb
        cases he
        obtain ⟨y, ys, e1, e2, rfl⟩ := hx
        cases e2
        have hr0 : HR Try.prog (mapA Try.prog (m b)) hN w := hr.arg trivial (by rw [globals]; rfl) hb (fun i o hg => by rw [globals]; exact hN_get i o hg) flatN
        obtain ⟨r, sh, e, ad, q1, q2, q3⟩ := e1
        have hx0 : VRL (mapA Try.prog (m b)) [.slice (some (0, 0)) 1 1 false] [y] := VRL.one ⟨r, sh, e, ad, by simp [mapA, globals, q1], q2, q3⟩
        refine CallsIn.mono (nc_run mixed noPrim Try.func67 c67 from_runs hN_ro hr0 hx0 n) fun e w' ⟨m', v, x, h1, h2, h3, h4⟩ => ?_
        rw [isErr_eq h1] at h3
        obtain ⟨ys, k1, rfl⟩ := h3
        obtain ⟨y1, ys1, z1, ⟨y2, ys2, z2, z3, rfl⟩, rfl⟩ := k1
        cases z1; cases z2; cases z3
        obtain ⟨a, b⟩ := hr.below h4
        exact ⟨m, _, h2, ⟨_, ⟨_, _, rfl, ⟨_, _, rfl, rfl, rfl⟩, rfl⟩, rfl⟩, a, b⟩
      · cases he
    · cases he
  · cases hf
noncomputable def E2 : Env := envOf Try.prog prim1
def h0 : H := H.lay 0 []
def isTrue : Option (V × H) → Bool
  | some (.bool b, _) => b
  | _ => false
theorem isTrue_spec {r : Option (V × H)} (h : isTrue r = true) : ∃ h', r = some (.bool true, h') := by
  unfold isTrue at h
  split at h
  · subst h; exact ⟨_, rfl⟩
  · cases h
theorem begun_runs : isTrue (ap Try.prog E2 60 (.func 6 [] []) [] h0) = true := by kernel_rfl
end Go.Proofs.Ytelbgimbkfjabaa.audit
