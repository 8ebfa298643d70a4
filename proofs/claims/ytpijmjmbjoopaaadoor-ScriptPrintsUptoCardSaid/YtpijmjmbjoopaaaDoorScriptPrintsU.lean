/- Proved: the tied card of ScriptPrints, its second form: for every world and list of steps of bulk at most 1048576, in every world that holds the listed tables as the text lays them, the law returns true and its arguments read as before. -/
import Derived.Test.YtpijmjmbjoopaaaDoorScTabScRep
set_option linter.unusedSimpArgs false
set_option linter.unusedVariables false
namespace Go.Proofs.YtpijmjmbjoopaaaDoor.scriptPrints
open Go.ChangeShapes Go.WideShapes Go.ChangeAt Go.RowKit Go.AM Go.AM.Sc script
set_option maxRecDepth 100000
def b32Tab : List Int := [0, 1, 28, 2, 29, 14, 24, 3, 30, 22, 20, 15, 25, 17, 4, 8, 31, 27, 13, 23, 21, 19, 16, 7, 26, 12, 18, 6, 11, 5, 10, 9]
def b64Tab : List Int := [0, 1, 56, 2, 57, 49, 28, 3, 61, 58, 42, 50, 38, 29, 17, 4, 62, 47, 59, 36, 45, 43, 51, 22, 53, 39, 33, 30, 24, 18, 12, 5, 63, 55, 48, 27, 60, 41, 37, 16, 46, 35, 44, 21, 52, 32, 23, 11, 54, 26, 40, 15, 34, 20, 31, 10, 25, 14, 19, 9, 13, 8, 7, 6]
theorem powIs {W : World} (h : laidMetH Tryd.prog Rows.scriptPrintsUptoRow.laid W) : Lib.TabIs Tryd.prog W "internal/strconv.uint64pow10" .u64 powTab :=
  Lib.tabIs_of_head (t := 118) (e := 97) (n := 20) g_pow (by kernel_rfl) (by kernel_rfl) (by kernel_rfl) (by kernel_rfl) (by kernel_rfl) (laidMet.tail (laidMet.tail (show laidMet Tryd.prog [("math/bits.deBruijn32tab", Lib.tabData .u8 b32Tab), ("math/bits.deBruijn64tab", Lib.tabData .u8 b64Tab), ("internal/strconv.uint64pow10", Lib.tabData .u64 powTab)] W from h)))
theorem heap6 : 6 ≤ (begin Tryd.prog (fun _ _ => 0) default).world.heap.size := by
  have hb : (begin Tryd.prog (fun _ _ => 0) default).world.heap.size = 6 + ((begin Tryd.prog (fun _ _ => 0) default).world.heap.size - 6) := by kernel_rfl
  omega
theorem spec_fn {H : Type} (ds : List (DataW H)) (h : ds.length = Tryd.f3.params.size) : Rows.scriptPrintsSpec.fn H ds = { results := [.lit (.bool true)], args := ds } := by
  have h' : ds.length = 2 := h.trans (by kernel_rfl)
  match ds, h' with
  | [a, b], _ => rfl

theorem params : Tryd.f3.params.toList = [24, 25] := by kernel_rfl
theorem agg24 : aggT Tryd.prog 24 = true := by kernel_rfl
theorem agg25 : aggT Tryd.prog 25 = false := by kernel_rfl
theorem run {H : Type} {ds : List (DataW H)} {h : AM.H} {vss : List (List V)} (hkp : Kp h0 h) (hin : ArgsIn Tryd.prog Tryd.f3.params.toList ds h vss) (hb : ∀ d ∈ ds, Rows.uptoBulk d ≤ 1048576) :
    Sp Tryd.prog (envOf Tryd.prog prim) (.func 3 [] []) (argsV Tryd.prog Tryd.f3.params.toList vss) h fun v _ => v = .bool true := by
  rw [params] at hin ⊢
  obtain ⟨l1, l2, hr⟩ := hin
  match vss, ds, l1, l2 with
  | [a, b], [d, e], _, _ =>
    obtain ⟨f1, r1, _⟩ := hr 0 24 d a rfl rfl rfl
    obtain ⟨f2, r2, _⟩ := hr 1 25 e b rfl rfl rfl
    obtain ⟨c, rfl, ms, ⟨c1, c2, c3⟩, c4, c5, c6⟩ := rep_WConfig (hb d (by simp)) r1
    obtain ⟨v, ys, rfl, s1, s2, s3⟩ := rep_elems (g := WStep.cells) (p := WOk h 1048576) Tryd.underlying25 (hb e (by simp)) (fun r hb => rep_WStep hb r) r2
    rw [cells52] at s1
    have hargs : argsV Tryd.prog [24, 25] [c.cells, [v]] = [.agg c.cells, v] := by simp only [argsV, argV, agg24, agg25, if_true, Bool.false_eq_true, if_false, List.headD_cons]
    rw [hargs]
    exact law3 fns (Kp.of hkp h0_tb) ⟨c1, c2, c3, c5, c6, c4⟩ ⟨s1, fun x hx => (s2 x hx).sin, fun x hx => (s2 x hx).short, s3⟩

theorem contract (H : Type) (enc : TypeId × Value → H) (W : World) (base : Nat) (args : Array Value) (ds gs : List (DataW H)) (before : List MemPlace)
    (hval : ∀ (j : Nat) t v, Tryd.f3.params[j]? = some t → args[j]? = some v → Value.okWide Tryd.prog W .any base t v)
    (hW : DataW.Whole enc Tryd.prog Tryd.f3.params.toList Rows.scriptPrintsSpec.vars false W args.toList ds gs before) (hL : laidMetH Tryd.prog Rows.scriptPrintsUptoRow.laid W) (hs : W.ShapedOpen Tryd.prog) (hk : Rows.uptoSmall H (ds ++ gs) = true) :
    Calls Tryd.prog 3 args W fun e W' => ∃ v, e = .returned v ∧ Rows.scriptPrintsSpec.post enc Tryd.prog Tryd.f3 false true false false W args v W' := by
  have hsz : 6 ≤ W.heap.size := by
    have h5 : W.heap[5]?.isSome = true := by
      obtain ⟨⟨z5, t5⟩, r5, e5⟩ := Option.map_eq_some_iff.1 (show (((begin Tryd.prog (fun _ _ => 0) default).world.heap[5]?).bind Obj.row?).map (·.2) = some 131 by kernel_rfl)
      obtain ⟨cs, h1, _⟩ := hs.1 5 z5 t5 (by rw [globals]; decide) r5
      rw [h1]; rfl
    rcases Nat.lt_or_ge 5 W.heap.size with h' | h'
    · exact h'
    · rw [Array.getElem?_eq_none h'] at h5; cases h5
  have hb : Rows.uptoBulkAll (ds ++ gs) ≤ 1048576 := of_decide_eq_true hk
  refine contract_args mixed primOK (k := 12) (startHR_of (powIs hL) hs hsz) h0_ro (by omega) (by kernel_rfl) hval hW rfl (fun ds h => spec_fn ds h) (t := 4) (by kernel_rfl) (by kernel_rfl) laidOut (by kernel_rfl) ?_
  intro h vss hkp _ hin
  exact run hkp hin (fun d hd => Nat.le_trans (bulk_part (List.mem_append_left _ hd)) hb)

noncomputable def laidWorld (os : Os) : World :=
  let w0 := World.holding Tryd.prog os ⟨#[], #[], []⟩
  let put (h : Array Go.Obj) (g : Nat) (cs : Array Value) : Array Go.Obj := h.modify g fun
    | .cells _ t frozen => .cells cs t frozen
    | o => o
  let a0 := w0.heap
  let a1 := put a0 4 (b32Tab.map fun z => Value.int .u8 z).toArray
  let a2 := put a1 5 (b64Tab.map fun z => Value.int .u8 z).toArray
  let a3 := put a2 0 (powTab.map fun z => Value.int .u64 z).toArray
  { w0 with heap := a3 }
theorem laid_met (os : Os) (args : Array Value) : laidMet Tryd.prog Rows.scriptPrintsUptoRow.laid ((laidWorld os).forCall (fun _ _ => 0) ⟨#[], args, []⟩).memory :=
  laidMet_of_run' 8 (by kernel_rfl) (by kernel_rfl)
theorem reads (os : Os) {H : Type} (enc : TypeId × Value → H) : ∃ places, DataW.whole enc Tryd.prog ((laidWorld os).forCall (fun _ _ => 0) ⟨#[], #[.agg #[.int .i64 0, .int .i64 0, .int .i64 0, .slice none 0 0], .slice none 0 0], []⟩).memory Tryd.f3.params.toList Rows.scriptPrintsSpec.vars false (#[.agg #[.int .i64 0, .int .i64 0, .int .i64 0, .slice none 0 0], .slice none 0 0] : Array Value).toList 8 = some ([.agg [.lit (.int .i64 0), .lit (.int .i64 0), .lit (.int .i64 0), .nil], .nil], [], places) :=
  ⟨[],by kernel_rfl⟩

theorem lifted (os : Os) (started : os.Started) (H : Type) (enc : TypeId × Value → H) (F : Stop.Interp) :
    ReturnsInHanded {} Tryd.checked os 3 .any ((Rows.OpenSpec.upto Rows.scriptPrintsSpec).preRow enc Tryd.prog Tryd.f3 Rows.scriptPrintsUptoRow.domain false Rows.scriptPrintsUptoRow.laid) (((Rows.OpenSpec.upto Rows.scriptPrintsSpec).at F).post enc Tryd.prog Tryd.f3 false true false false) := by
  obtain ⟨places, hx⟩ := reads os enc
  refine returnsInHanded_of_row (C := Tryd.checked) (s := Rows.OpenSpec.upto Rows.scriptPrintsSpec) own started (by kernel_rfl) Tryd.func3
    (witness_row_atRef (enc := enc) (C := Tryd.checked) false (laidWorld os) #[.agg #[.int .i64 0, .int .i64 0, .int .i64 0, .slice none 0 0], .slice none 0 0] rfl (by kernel_rfl) (by kernel_rfl) (by kernel_rfl)
      (OpenSpec.preRow_of_cond 8 hx (by kernel_rfl) (fun k hk => by cases hk; kernel_rfl) (by kernel_rfl) (laid_met os _))) ?_
  intro W base args ds gs before hval hW _ hcond _ hL hs _
  exact contract H enc W base args ds gs before hval hW hL hs (hcond _ rfl)

theorem said : Rows.ScriptPrintsUptoSaid :=
  OpenClaim.holds_of_cond 3 Tryd.f3 rfl rfl rfl rfl rfl rfl rfl ⟨rfl, rfl, rfl, rfl, rfl⟩ rfl rfl rfl rfl rfl (by kernel_rfl) Tryd.func3 (by kernel_rfl)
    (of_decide_eq_true (by kernel_rfl)) (by unfold Func.isWrapper; first | (rw [if_pos (by decide +kernel)]; kernel_rfl) | (rw [if_neg (by decide +kernel)]; exact ⟨rfl, rfl⟩))
    (fun os started H enc _ F => by rw [OpenClaim.pre_eq_preRow]; exact lifted os started H enc F)

theorem plain (f : FuncId) (fn : Func) (hf : Tryd.pinned.checked.prog.funcNamed "orchard/orchardlaw27.ScriptPrints" = some f) (hfn : Tryd.pinned.checked.prog.funcs[f]? = some fn) :
    true = Tryd.pinned.checked.prog.looks [] ∧ ∀ (j : Nat) t, fn.params[j]? = some t → Tryd.pinned.checked.prog.wantsStandIn t = false := by
  obtain rfl : f = 3 := Option.some.inj ((show Tryd.prog.funcNamed "orchard/orchardlaw27.ScriptPrints" = some 3 by kernel_rfl).symm.trans hf) |>.symm
  obtain rfl : fn = Tryd.f3 := (Option.some.inj (Tryd.func3.symm.trans hfn)).symm
  refine ⟨by kernel_rfl, fun j t ht => ?_⟩
  have hall : (Tryd.f3.params.all fun t => !Tryd.prog.wantsStandIn t) = true := by kernel_rfl
  have := Array.all_eq_true_iff_forall_mem.1 hall t (Array.mem_of_getElem? ht)
  have h2 : Tryd.prog.wantsStandIn t = false := by simpa using this
  exact h2

theorem card : Rows.ScriptPrintsUptoCardSaid :=
  Claim7.holds_tied_plain_at .later [] _ _ _ _ said (fun _ h => by cases h) (by kernel_rfl) (fun _ h => by cases h) scriptPrintsUpto_row_tie rfl ⟨rfl, rfl⟩ (by kernel_rfl) rfl plain (by kernel_rfl)
end Go.Proofs.YtpijmjmbjoopaaaDoor.scriptPrints
#print axioms Go.Proofs.YtpijmjmbjoopaaaDoor.scriptPrints.card
