/- My own texts of the evaluator, its soundness and its symbolic runs, laid for this claim. -/
import Derived.Test.YtbdbikdeolanfaaGreatDoorWnTab
set_option linter.unusedSimpArgs false
set_option linter.unusedVariables false
namespace Go.Proofs.YtbdbikdeolanfaaGreatDoor.wal
open Go.AM
set_option maxRecDepth 100000
theorem live_runs : isTrue (ap Tryz.prog E1 100 (.func 6 [] []) [] h0) = true := by kernel_rfl
end Go.Proofs.YtbdbikdeolanfaaGreatDoor.wal
namespace Go.Proofs.YtbdbikdeolanfaaGreatDoor.wal
open Go.AM Go.AM.Wn
set_option maxRecDepth 100000
def prim : Nat → Option (List V → H → Option (V × H))
  | 6 => some (yesP fun h => tabB h 0 173)
  | 34 => some (fmt10C 0 173)
  | 35 => some repP
  | _ => none
theorem primOK : PrimOK Tryz.prog prim := by
  intro g f hf
  unfold prim at hf
  split at hf
  · cases hf
    obtain ⟨h1, hrun⟩ := isTrue_spec live_runs
    refine ⟨⟨_, Tryz.func6, by kernel_rfl, by decide⟩, fun args h v h' m w xs he hr hx n => ?_⟩
    refine yes_ok mixed prim1OK hrun trivial globals.symm h0_ro (fun h hc i o hg => ?_) he hr hx n
    obtain ⟨rfl, rfl⟩ := h0_get i o hg
    refine ⟨?_, Flat.ints _ _ _⟩
    rw [pow_eq]
    exact tabB_ok hc
  · exact prim1OK 34 f (by rw [← hf]; rfl)
  · exact prim1OK 35 f (by rw [← hf]; rfl)
  · cases hf
noncomputable def E0 : Env := envOf Tryz.prog prim
theorem live_ok {h : H} (ht : T1 h) : Sp Tryz.prog E0 (.func 6 [] []) [] h fun v h' => v = .bool true ∧ h' = h := by
  refine ⟨.bool true, h, ?_, rfl, rfl⟩
  rw [AP_prim (show E0.prim 6 = some (yesP fun h => tabB h 0 173) from rfl)]
  exact if_pos (tabB_of ht)
theorem fns : Fno Tryz.prog E0 T1 where
  tkeep h h' t hk := Tb.keep h h' t hk
  num34 n h h1 h2 ht := by
    refine ⟨.str (Lib.itoa n), h, ?_, rfl, rfl⟩
    rw [AP_prim (show E0.prim 34 = some (fmt10C 0 173) from rfl)]
    refine if_pos ?_
    simp only [tabB_of ht, Bool.true_and, Bool.and_eq_true, decide_eq_true_eq]
    exact ⟨h1, h2⟩
  rep35 k h hk := by
    refine ⟨.str (List.replicate k 48), h, ?_, rfl, Keeps.refl _ _⟩
    rw [AP_prim (show E0.prim 35 = some repP from rfl)]
    exact if_pos (by simp; omega)
  f7 := by kernel_rfl
  p7 := rfl
  f8 := by kernel_rfl
  p8 := rfl
  f9 := by kernel_rfl
  p9 := rfl
  f10 := by kernel_rfl
  p10 := rfl
  f15 := by kernel_rfl
  p15 := rfl
  f25 := by kernel_rfl
  p25 := rfl
theorem f3 : E0.fns 3 = some fn3 := by kernel_rfl
theorem f4 : E0.fns 4 = some fn4 := by kernel_rfl
theorem f5 : E0.fns 5 = some fn5 := by kernel_rfl
theorem f26 : E0.fns 26 = some fn26 := by kernel_rfl
theorem f27 : E0.fns 27 = some fn27 := by kernel_rfl
end Go.Proofs.YtbdbikdeolanfaaGreatDoor.wal
