/- Proved: the tied card of WalNone: for every input, in every world that holds the listed tables as the text lays them, the law returns true and its arguments read as before. -/
import Derived.Test.YtepbebfnmfjcgaaGreatDoorWalNoneRun
import Derived.Test.YtepbebfnmfjcgaaGreatDoorWalWit
namespace Go.Proofs.YtepbebfnmfjcgaaGreatDoor.walNone
open Go.ChangeShapes Go.WideShapes Go.ChangeAt Go.RowKit Go.AM
open wal
set_option maxRecDepth 100000

theorem walk {W : World} (hL : laidMetH Tryz.prog Rows.walNoneRow.laid W) (hs : W.ShapedOpen Tryz.prog) {x y : Value} (hx : ∀ m, VR m .junk x) (hy : ∀ m, VR m .junk y) :
    Calls Tryz.prog 4 #[x, y] W fun e w' => e = .returned (.bool true) ∧ Below W.heap.size W w' := by
  obtain ⟨h', hr⟩ := isTrue_spec run
  refine (calls_of_ap (xs := [x, y]) mixed noPrim hr (startHR hL hs) h0_ro (VRL.cons (hx _) (VRL.one (hy _)))).mono fun e w' ⟨m', v, h1, h2, h3⟩ => ?_
  cases h2
  exact ⟨h1, h3⟩

theorem contract (H : Type) (enc : TypeId × Value → H) (W : World) (base : Nat) (args : Array Value) (ds gs : List (DataW H)) (before : List MemPlace)
    (hval : ∀ (j : Nat) t v, Tryz.f4.params[j]? = some t → args[j]? = some v → Value.okWide Tryz.prog W .any base t v)
    (hW : DataW.Whole enc Tryz.prog Tryz.f4.params.toList Rows.walNoneSpec.vars false W args.toList ds gs before) (hL : laidMetH Tryz.prog Rows.walNoneRow.laid W) (hs : W.ShapedOpen Tryz.prog) :
    Calls Tryz.prog 4 args W fun e W' => ∃ v, e = .returned v ∧ Rows.walNoneSpec.post enc Tryz.prog Tryz.f4 false true false false W args v W' := by
  have hargs : ∃ x y, args = #[x, y] ∧ (∀ m, VR m .junk x) ∧ (∀ m, VR m .junk y) := by
    obtain ⟨p, q, hA, _, _, _, _⟩ := hW
    rw [Tryz.params4] at hA hval
    obtain ⟨v0, vs0, d0, ds0, p0, q0, hargs, rfl, rfl, k0, r0⟩ := trodAll_cons hA
    obtain ⟨v1, vs1, d1, ds1, p1, q1, rfl, rfl, rfl, k1, r1⟩ := trodAll_cons r0
    obtain ⟨rfl, rfl, rfl⟩ := trodAll_nil r1
    obtain rfl : args = #[v0, v1] := by cases args; simp_all
    obtain ⟨a, l, c, rfl⟩ := okWide_slice Tryz.underlying38 (hval 0 38 v0 rfl rfl)
    obtain ⟨n, rfl⟩ := okWide_int Tryz.underlying2 (hval 1 2 v1 rfl rfl)
    exact ⟨_, _, rfl, fun m => VR.dim_slice m a l c, fun m => VR.dim_int m _ n⟩
  obtain ⟨x, y, rfl, hx, hy⟩ := hargs
  refine (walk hL hs hx hy).mono fun e W' ⟨he, hb⟩ => ⟨_, he, ?_⟩
  have hlen : ∃ d1 d2, ds = [d1, d2] := by
    obtain ⟨p, q, hA, _, _, _, _⟩ := hW
    rw [Tryz.params4] at hA
    obtain ⟨v0, vs0, d0, ds0, p0, q0, hargs, rfl, rfl, k0, r0⟩ := trodAll_cons hA
    obtain ⟨v1, vs1, d1, ds1, p1, q1, rfl, rfl, rfl, k1, r1⟩ := trodAll_cons r0
    obtain ⟨rfl, rfl, rfl⟩ := trodAll_nil r1
    exact ⟨_, _, rfl⟩
  obtain ⟨d1, d2, rfl⟩ := hlen
  have hgs : gs = [] := by
    obtain ⟨p, q, _, hV, _, _, _⟩ := hW
    cases gs with
    | nil => rfl
    | cons a b => cases hV
  subst hgs
  refine post_true (t := 4) hW rfl rfl (by kernel_rfl) Tryz.underlying4 laidOut ?_ hb
  rw [Tryz.params4]
  intro t ht
  have ht' : t = 38 ∨ t = 2 := by simpa using ht
  rcases ht' with rfl | rfl <;> exact ⟨of_decide_eq_true (by kernel_rfl), by kernel_rfl⟩

theorem reads (os : Os) {H : Type} (enc : TypeId × Value → H) : ∃ places, DataW.whole enc Tryz.prog ((laidWorld os).forCall (fun _ _ => 0) ⟨#[], #[.slice none 0 0, .int .i64 0], []⟩).memory Tryz.f4.params.toList Rows.walNoneSpec.vars false #[Value.slice none 0 0, .int .i64 0].toList 8 = some ([.nil, .lit (.int .i64 0)], [], places) :=
  ⟨[], by kernel_rfl⟩

theorem lifted (os : Os) (started : os.Started) (H : Type) (enc : TypeId × Value → H) (F : Stop.Interp) :
    ReturnsInHanded {} Tryz.checked os 4 .any ((OpenSpec.ofChange Rows.walNoneSpec).preRow enc Tryz.prog Tryz.f4 Rows.walNoneRow.domain false Rows.walNoneRow.laid) (((OpenSpec.ofChange Rows.walNoneSpec).at F).post enc Tryz.prog Tryz.f4 false true false false) := by
  obtain ⟨places, hx⟩ := reads os enc
  refine returnsInHanded_of_row (C := Tryz.checked) (s := OpenSpec.ofChange Rows.walNoneSpec) own started (by kernel_rfl) Tryz.func4
    (witness_row_atRef (enc := enc) (C := Tryz.checked) false (laidWorld os) #[.slice none 0 0, .int .i64 0] rfl (by kernel_rfl) (by kernel_rfl) (by kernel_rfl)
      (OpenSpec.preRow_of_cond 8 hx (by kernel_rfl) (fun k hk => by cases hk) (by kernel_rfl) (laid_met os _))) ?_
  intro W base args ds gs before hval hW _ _ _ hL hs _
  exact contract H enc W base args ds gs before hval hW hL hs

theorem said : Rows.WalNoneSaid :=
  OpenClaim.holds_of_cond 4 Tryz.f4 rfl rfl rfl rfl rfl rfl rfl ⟨rfl, rfl, rfl, rfl, rfl⟩ rfl rfl rfl rfl rfl (by kernel_rfl) Tryz.func4 (by kernel_rfl)
    (of_decide_eq_true (by kernel_rfl)) (by unfold Func.isWrapper; first | (rw [if_pos (by decide +kernel)]; kernel_rfl) | (rw [if_neg (by decide +kernel)]; exact ⟨rfl, rfl⟩))
    (fun os started H enc _ F => by rw [OpenClaim.pre_eq_preRow]; exact lifted os started H enc F)

theorem plain (f : FuncId) (fn : Func) (hf : Tryz.pinned.checked.prog.funcNamed "orchard/orchardlaw05.WalNone" = some f) (hfn : Tryz.pinned.checked.prog.funcs[f]? = some fn) :
    true = Tryz.pinned.checked.prog.looks [] ∧ ∀ (j : Nat) t, fn.params[j]? = some t → Tryz.pinned.checked.prog.wantsStandIn t = false := by
  obtain rfl : f = 4 := Option.some.inj ((show Tryz.prog.funcNamed "orchard/orchardlaw05.WalNone" = some 4 by kernel_rfl).symm.trans hf) |>.symm
  obtain rfl : fn = Tryz.f4 := (Option.some.inj (Tryz.func4.symm.trans hfn)).symm
  refine ⟨by kernel_rfl, fun j t ht => ?_⟩
  rw [Tryz.params4] at ht
  have ht' : t = 38 ∨ t = 2 := by simpa using Array.mem_of_getElem? ht
  rcases ht' with rfl | rfl
  · exact (show Tryz.prog.wantsStandIn 38 = false by kernel_rfl)
  · exact (show Tryz.prog.wantsStandIn 2 = false by kernel_rfl)

theorem card : Rows.WalNoneCardSaid :=
  Claim7.holds_tied_plain_at .later [] _ _ _ _ said (fun _ h => by cases h) (by kernel_rfl) (fun _ h => by cases h) walNone_row_tie rfl ⟨rfl, rfl⟩ (by kernel_rfl) rfl plain (by kernel_rfl)
end Go.Proofs.YtepbebfnmfjcgaaGreatDoor.walNone
#print axioms Go.Proofs.YtepbebfnmfjcgaaGreatDoor.walNone.card
