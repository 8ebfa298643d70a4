/- My own texts of the evaluator, its soundness and its symbolic runs, laid for this claim. -/
import Derived.Test.YtbdbikdeolanfaaGreatDoorXApToScErr
set_option linter.unusedSimpArgs false
set_option linter.unusedVariables false
/-! strings.Repeat of one digit as a primitive. -/
namespace Go.AM
open Go.RowKit
variable {P : Program}
def repP : List V → H → Option (V × H) := fun args h => match args with
  | [.str [48], .int .i64 c] => if decide (0 ≤ c) && decide (c ≤ 12) then some (.str (List.replicate c.toNat 48), h) else none
  | _ => none
theorem rep_ok {f : FuncId}
    (hc : ∀ (c : Nat) (w : World), c ≤ 12 → Calls P f #[.string ⟨#[48]⟩, .int .i64 c] w fun e w' => e = .returned (.string ⟨(List.replicate c (48 : UInt8)).toArray⟩) ∧ Below w.heap.size w w')
    {args : List V} {h : H} {v : V} {h' : H} {m : Mp} {w : World} {xs : List Value} (he : repP args h = some (v, h')) (hr : HR P m h w) (hx : VRL m args xs) (n : Nat) : CallsIn (FF none) n P f xs.toArray w (Post P m h w v h') := by
  unfold repP at he
  split at he
  · rename_i c
    split at he
    · rename_i hc2
      simp only [Bool.and_eq_true, decide_eq_true_eq] at hc2
      cases he
      obtain ⟨y1, ys1, e1, ⟨y2, ys2, e2, e3, rfl⟩, rfl⟩ := hx
      cases e1; cases e2; cases e3
      have := hc c.toNat w (by omega)
      rw [Int.toNat_of_nonneg hc2.1] at this
      refine callsIn_wide.2 (this.mono fun e w' ⟨q1, q2⟩ => ?_)
      obtain ⟨a, b⟩ := hr.below q2
      exact ⟨m, _, q1, rfl, a, b⟩
    · cases he
  · cases he
end Go.AM
/-! A closed call, run once over the tables alone, as a primitive at any heap that holds them. -/
namespace Go.AM
open Go.RowKit
variable {P : Program}
def Flat (P : Program) (o : Obj) : Prop := ∀ m m' ob sh e, OR P m ob sh e o → OR P m' ob sh e o
theorem Flat.ints (k : IntKind) (zs : List Int) (ty : Nat) : Flat P (.cells (ints k zs) ty false true none) := by
  intro m m' ob sh e ⟨c, fzr, h1, h2, h3⟩
  refine ⟨c, fzr, h1, ?_, h3⟩
  rw [VRL_ints_eq h2]
  exact VRL_ints _ _ _
theorem HR.tables {m : Mp} {h h0 : H} {w : World} (hr : HR P m h w) (hk : h0.ok) (hs : h0.size = P.globals.size) (hsub : ∀ i o, h0.get i = some o → h.get i = some o ∧ Flat P o) : HR P (map0 P) h0 w where
  ok := hk
  dom := fun i x hx => by unfold map0 at hx; split at hx <;> first | (rw [hs]; assumption) | cases hx
  glob := fun g hg => by simp [map0, hg]
  blk := fun i r sh e hm => by
    unfold map0 at hm
    split at hm <;> cases hm
    rename_i hi
    exact hr.blk _ _ _ _ (hr.glob i hi)
  obj := fun i o hg hl => by
    have hi := H.get_lt hg
    rw [hs] at hi
    obtain ⟨h1, h2⟩ := hsub i o hg
    obtain ⟨r, sh, e, ob, q1, q2, q3⟩ := hr.obj i o h1 hl
    have := hr.glob i hi
    rw [q1] at this
    cases this
    exact ⟨i, 0, 0, ob, by simp [map0, hi], q2, h2 _ _ _ _ _ q3⟩
  inj := fun i j o o' r sh e sh' e' _ _ _ _ h1 h2 => by
    unfold map0 at h1 h2
    split at h1 <;> split at h2 <;> cases h1 <;> cases h2 <;> rfl
def yesP (c : H → Bool) : List V → H → Option (V × H) := fun args h => match args with
  | [] => if c h then some (.bool true, h) else none
  | _ => none
theorem yes_ok (hmix : P.follows .mixedOrders = true) {prim : Nat → Option (List V → H → Option (V × H))} (hp : PrimOK P prim) {k g : Nat} {h0 h1 : H} {c : H → Bool}
    (run : ap P (envOf P prim) k (.func g [] []) [] h0 = some (.bool true, h1)) (hk : h0.ok) (hs : h0.size = P.globals.size) (hno : ∀ i o, h0.get i = some o → o.mut = false)
    (hc : ∀ h, c h = true → ∀ i o, h0.get i = some o → h.get i = some o ∧ Flat P o)
    {args : List V} {h : H} {v : V} {h' : H} {m : Mp} {w : World} {xs : List Value} (he : yesP c args h = some (v, h')) (hr : HR P m h w) (hx : VRL m args xs) (n : Nat) : CallsIn (FF none) n P g xs.toArray w (Post P m h w v h') := by
  unfold yesP at he
  split at he
  · split at he
    · rename_i hc2
      cases he
      cases hx
      have h2 := calls_of_ap hmix hp run (hr.tables hk hs (hc h hc2)) hno (xs := []) rfl
      refine callsIn_wide.2 (h2.mono fun e w' ⟨m', x, q1, q2, q3⟩ => ?_)
      cases q2
      obtain ⟨a, b⟩ := hr.below q3
      exact ⟨m, _, q1, rfl, a, b⟩
    · cases he
  · cases he
end Go.AM
