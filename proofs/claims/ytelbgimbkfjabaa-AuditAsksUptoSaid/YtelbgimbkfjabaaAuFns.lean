/- My own texts of the evaluator, its soundness and its symbolic runs, laid for this claim. -/
import Derived.Test.YtelbgimbkfjabaaAuTab
import Derived.Test.YtelbgimbkfjabaaAu17Au18
set_option linter.unusedSimpArgs false
set_option linter.unusedVariables false
namespace Go.Proofs.Ytelbgimbkfjabaa.audit
open Go.AM Go.AM.Sc
set_option maxRecDepth 100000
def prim : Nat → Option (List V → H → Option (V × H))
  | 6 => some (yesP fun _ => true)
  | _ => none
theorem h0_get (i : Nat) (o : AM.Obj) (h : h0.get i = some o) : False := Nat.not_lt_zero _ (show i < 0 from H.get_lt h)
theorem primOK : PrimOK Try.prog prim := by
  intro g f hf
  unfold prim at hf
  split at hf
  · cases hf
    obtain ⟨h1, hrun⟩ := isTrue_spec begun_runs
    refine ⟨⟨_, Try.func6, by kernel_rfl, by decide⟩, fun args h v h' m w xs he hr hx n => ?_⟩
    exact yes_ok mixed prim1OK hrun trivial globals.symm (fun i o hg => (h0_get i o hg).elim) (fun h hc i o hg => (h0_get i o hg).elim) he hr hx n
  · cases hf
noncomputable def E0 : Env := envOf Try.prog prim
theorem begun (h : H) : Sp Try.prog E0 (.func 6 [] []) [] h fun v h' => v = .bool true ∧ h' = h := by
  refine ⟨.bool true, h, ?_, rfl, rfl⟩
  rw [AP_prim (show E0.prim 6 = some (yesP fun _ => true) from rfl)]
  rfl
theorem fns : Fa E0 where
  f5 := by kernel_rfl
  p5 := rfl
  f9 := by kernel_rfl
  p9 := rfl
  f10 := by kernel_rfl
  p10 := rfl
  f11 := by kernel_rfl
  p11 := rfl
  f12 := by kernel_rfl
  p12 := rfl
  f13 := by kernel_rfl
  p13 := rfl
  f14 := by kernel_rfl
  p14 := rfl
  f15 := by kernel_rfl
  p15 := rfl
  f16 := by kernel_rfl
  p16 := rfl
  f17 := by kernel_rfl
  p17 := rfl
  f18 := by kernel_rfl
  p18 := rfl
  f21 := by kernel_rfl
  p21 := rfl
  f22 := by kernel_rfl
  p22 := rfl
  f27 := by kernel_rfl
  p27 := rfl
  f28 := by kernel_rfl
  p28 := rfl
  f29 := by kernel_rfl
  p29 := rfl
  f30 := by kernel_rfl
  p30 := rfl
  f31 := by kernel_rfl
  p31 := rfl
  f32 := by kernel_rfl
  p32 := rfl
  f33 := by kernel_rfl
  p33 := rfl
  f34 := by kernel_rfl
  p34 := rfl
  f35 := by kernel_rfl
  p35 := rfl
  f36 := by kernel_rfl
  p36 := rfl
  f37 := by kernel_rfl
  p37 := rfl
  f38 := by kernel_rfl
  p38 := rfl
  f39 := by kernel_rfl
  p39 := rfl
  f40 := by kernel_rfl
  p40 := rfl
  f41 := by kernel_rfl
  p41 := rfl
  f42 := by kernel_rfl
  p42 := rfl
  f43 := by kernel_rfl
  p43 := rfl
  f56 := by kernel_rfl
  p56 := rfl
  f57 := by kernel_rfl
  p57 := rfl
  f58 := by kernel_rfl
  p58 := rfl
  f59 := by kernel_rfl
  p59 := rfl
  f60 := by kernel_rfl
  p60 := rfl
  f61 := by kernel_rfl
  p61 := rfl
  f62 := by kernel_rfl
  p62 := rfl
  f63 := by kernel_rfl
  p63 := rfl
  f68 := by kernel_rfl
  p68 := rfl
  f69 := by kernel_rfl
  p69 := rfl
  f70 := by kernel_rfl
  p70 := rfl
end Go.Proofs.Ytelbgimbkfjabaa.audit
