/- My own texts of the evaluator, its soundness and its symbolic runs, laid for this claim. -/
import Derived.Test.YtelbgimbkfjabaaNC
set_option linter.unusedSimpArgs false
set_option linter.unusedVariables false
/-! A call whose one argument block is known, run over every order, once, as a primitive at any heap that holds the block. -/
namespace Go.AM
open Go.RowKit
variable {P : Program}
theorem nc_run (hmix : P.follows .mixedOrders = true) {prim : Nat → Option (List V → H → Option (V × H))} (hp : PrimOK P prim) {n k g : Nat} {fn : Func} {f : Fn} (hg : P.funcs[g]? = some fn) (hc : cFn P fn = some f) {args0 : List V} {h0 : H} {q : V → Bool}
    (run : ncFnB P (ap P (envOf P prim) n) k f args0 h0 q = true) (hno : ∀ i o, h0.get i = some o → o.mut = false) {m0 : Mp} {w : World} {xs : List Value} (hr : HR P m0 h0 w) (hx : VRL m0 args0 xs) (j : Nat) :
    CallsIn (FF none) j P g xs.toArray w fun e w' => ∃ m' v x, q v = true ∧ e = .returned x ∧ VR m' v x ∧ Below w.heap.size w w' := by
  refine CallsIn.mono (ncFn_sound hmix (ap_sound hmix hp n) hg hc (ncFnB_ok run) hr hx j) fun e w' ⟨v, h', hq, m', x, h1, h2, h3, h4⟩ => ⟨m', v, x, hq, h1, h2, h4.os, h4.tape, h4.output, h4.wsize, fun k hk => h4.frame k hk ?_⟩
  rintro ⟨i, o, sh, e, hg, hm, _⟩
  rw [hno i o hg] at hm; cases hm
def mapA (P : Program) (x : Option (Nat × Nat × Nat)) : Mp := fun i => if i < P.globals.size then some (i, 0, 0) else if i = P.globals.size then x else none
theorem HR.arg {m : Mp} {h h0 : H} {w : World} (hr : HR P m h w) (hk : h0.ok) (hs : h0.size = P.globals.size + 1) {b : Nat} {vs : List V} {ty : Nat} {opn ro : Bool} {fz : Option Nat} (hb : h.get b = some (.cells vs ty opn ro fz))
    (hh : ∀ i o, h0.get i = some o → i = P.globals.size ∧ o = .cells vs ty opn true none) (hflat : ∀ m m' ys, VRL m vs ys → VRL m' vs ys) : HR P (mapA P (m b)) h0 w where
  ok := hk
  dom := fun i x hx => by
    unfold mapA at hx
    split at hx
    · omega
    · split at hx
      · omega
      · cases hx
  glob := fun g hg => by simp [mapA, hg]
  blk := fun i r sh e hm => by
    unfold mapA at hm
    split at hm
    · rename_i hi
      cases hm
      exact hr.blk _ _ _ _ (hr.glob i hi)
    · split at hm
      · exact hr.blk _ _ _ _ hm
      · cases hm
  obj := fun i o hg hl => by
    obtain ⟨rfl, rfl⟩ := hh i o hg
    obtain ⟨r, sh, e, ob, q1, q2, c, fzr, rfl, q4, q5, _⟩ := hr.obj b _ hb rfl
    refine ⟨r, sh, e, _, ?_, q2, c, fzr, rfl, hflat _ _ _ q4, q5, fun h => (by cases h)⟩
    simp [mapA, q1]
  inj := fun i j o o' r sh e sh' e' h1 h2 _ _ _ _ => by
    rw [(hh i o h1).1, (hh j o' h2).1]
end Go.AM
