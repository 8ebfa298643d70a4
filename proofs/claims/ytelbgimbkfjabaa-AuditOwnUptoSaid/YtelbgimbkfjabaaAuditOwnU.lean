/- Proved: AuditOwn, its second form: for all views and groups of bulk at most 1048576 together, the law returns true and its arguments read as before. -/
import Derived.Test.YtelbgimbkfjabaaAuTabToAfRep
import Derived.Test.YtelbgimbkfjabaaAu14ToAo2
set_option linter.unusedSimpArgs false
set_option linter.unusedVariables false
namespace Go.Proofs.Ytelbgimbkfjabaa.auditOwn
open Go.ChangeShapes Go.WideShapes Go.ChangeAt Go.RowKit Go.AM Go.AM.Sc audit
set_option maxRecDepth 100000
theorem spec_fn {H : Type} (ds : List (DataW H)) (h : ds.length = Try.f4.params.size) : Rows.auditOwnSpec.fn H ds = { results := [.lit (.bool true)],args := ds } := by
 have h' : ds.length = 2 := h.trans (by kernel_rfl)
 match ds,h' with
 | [a,b],_ => rfl
theorem params : Try.f4.params.toList = [22,3] := by kernel_rfl
theorem agg22 : aggT Try.prog 22 = false := by kernel_rfl
theorem agg3 : aggT Try.prog 3 = false := by kernel_rfl
theorem run {H : Type} {ds : List (DataW H)} {h : AM.H} {vss : List (List V)} (hin : ArgsIn Try.prog Try.f4.params.toList ds h vss) (hb : ∀ d ∈ ds,Rows.uptoBulk d ≤ 1048576) :
  Sp Try.prog (envOf Try.prog prim) (.func 4 [] []) (argsV Try.prog Try.f4.params.toList vss) h fun v _ => v = .bool true := by
 rw [params] at hin ⊢
 obtain ⟨l1,l2,hr⟩ := hin
 match vss,ds,l1,l2 with
 | [a,b],[d,e],_,_ =>
  obtain ⟨f1,r1,_⟩ := hr 0 22 d a rfl rfl rfl
  obtain ⟨f2,r2,_⟩ := hr 1 3 e b rfl rfl rfl
  obtain ⟨v,ws,rfl,hv,ht⟩ := rep_views (hb d (by simp)) r1
  obtain ⟨g,rfl,_⟩ := rep_int Try.underlying3 r2
  have hargs : argsV Try.prog [22,3] [[v],[.int .i64 g]] = [v,.int .i64 g] := by simp only [argsV,argV,agg22,agg3,Bool.false_eq_true,if_false,List.headD_cons]
  rw [hargs]
  exact law4 fnsF (by kernel_rfl) rfl fns fnsR fromE audit.begun hv (by rw [four_sum] at ht; unfold totG; omega) (allF_bound ht)
theorem bulk_all {H : Type} {d : DataW H} {l : List (DataW H)} (h : d ∈ l) : Rows.uptoBulk d ≤ Rows.uptoBulkAll l := bulk_part h
theorem contract (H : Type) (enc : TypeId × Value → H) (W : World) (base : Nat) (args : Array Value) (ds gs : List (DataW H)) (before : List MemPlace)
  (hval : ∀ (j : Nat) t v,Try.f4.params[j]? = some t → args[j]? = some v → Value.okWide Try.prog W .any base t v)
  (hW : DataW.Whole enc Try.prog Try.f4.params.toList Rows.auditOwnSpec.vars false W args.toList ds gs before) (hs : W.ShapedOpen Try.prog) (hk : Rows.uptoSmall H (ds ++ gs) = true) :
  Calls Try.prog 4 args W fun e W' => ∃ v,e = .returned v ∧ Rows.auditOwnSpec.post enc Try.prog Try.f4 false true false false W args v W' := by
 have hsz : 0 < W.heap.size := by
  have hb : (begin Try.prog (fun _ _ => 0) default).world.heap.size = 1 + ((begin Try.prog (fun _ _ => 0) default).world.heap.size - 1) := by kernel_rfl
  obtain ⟨o,_,h1,_⟩ := hs.2 0 (by rw [globals]; exact Nat.le_refl _) (by omega)
  rcases Nat.lt_or_ge 0 W.heap.size with h' | h'
  ·exact h'
  ·rw [Array.getElem?_eq_none h'] at h1; cases h1
 have hb : Rows.uptoBulkAll (ds ++ gs) ≤ 1048576 := of_decide_eq_true hk
 have hr : HR Try.prog (map0 Try.prog) h0 W := HR.init trivial globals.symm (by rw [globals]; exact Nat.zero_le _) fun i o hg => (h0_get i o hg).elim
 refine contract_args mixed primOK (k := 12) hr (fun i o hg => (h0_get i o hg).elim) hsz (by kernel_rfl) hval hW rfl (fun ds h => spec_fn ds h) (t := 4) (by kernel_rfl) (by kernel_rfl) laidOut (by kernel_rfl) ?_
 intro h vss hkp _ hin
 exact run hin (fun d hd => Nat.le_trans (bulk_all (List.mem_append_left _ hd)) hb)
noncomputable def wit : Array Value := #[.slice none 0 0,.int .i64 0]
theorem reads (os : Os) {H : Type} (enc : TypeId × Value → H) : ∃ places,DataW.whole enc Try.prog ((World.holding Try.prog os ⟨#[], #[],[]⟩).forCall (fun _ _ => 0) ⟨#[],wit,[]⟩).memory Try.f4.params.toList Rows.auditOwnSpec.vars false wit.toList 8 = some ([.nil,.lit (.int .i64 0)],[],places) :=
 ⟨[],by kernel_rfl⟩
theorem laid_met (os : Os) (args : Array Value) : laidMet Try.prog Rows.auditOwnUptoRow.laid ((World.holding Try.prog os ⟨#[], #[],[]⟩).forCall (fun _ _ => 0) ⟨#[],args,[]⟩).memory :=
 laidMet_of_run' 8 (by kernel_rfl) (by kernel_rfl)
theorem lifted (os : Os) (started : os.Started) (H : Type) (enc : TypeId × Value → H) (F : Stop.Interp) :
  ReturnsInHanded {} Try.checked os 4 .any ((Rows.OpenSpec.upto Rows.auditOwnSpec).preRow enc Try.prog Try.f4 Rows.auditOwnUptoRow.domain false Rows.auditOwnUptoRow.laid) (((Rows.OpenSpec.upto Rows.auditOwnSpec).at F).post enc Try.prog Try.f4 false true false false) := by
 obtain ⟨places,hx⟩ := reads os enc
 refine returnsInHanded_of_row (C := Try.checked) (s := Rows.OpenSpec.upto Rows.auditOwnSpec) own started (by kernel_rfl) Try.func4
  (witness_row_atRef (enc := enc) (C := Try.checked) false (World.holding Try.prog os ⟨#[], #[],[]⟩) wit rfl (by kernel_rfl) (by kernel_rfl) (by kernel_rfl)
   (OpenSpec.preRow_of_cond 8 hx (by kernel_rfl) (fun k hk => by cases hk; kernel_rfl) (by kernel_rfl) (laid_met os _))) ?_
 intro W base args ds gs before hval hW _ hcond _ _ hs _
 exact contract H enc W base args ds gs before hval hW hs (hcond _ rfl)
theorem said : Rows.AuditOwnUptoSaid :=
 OpenClaim.holds_of_cond 4 Try.f4 rfl rfl rfl rfl rfl rfl rfl ⟨rfl,rfl,rfl,rfl,rfl⟩ rfl rfl rfl rfl rfl (by kernel_rfl) Try.func4 (by kernel_rfl)
  (of_decide_eq_true (by kernel_rfl)) (by unfold Func.isWrapper; first | (rw [if_pos (by decide +kernel)]; kernel_rfl) | (rw [if_neg (by decide +kernel)]; exact ⟨rfl,rfl⟩))
  (fun os started H enc _ F => by rw [OpenClaim.pre_eq_preRow]; exact lifted os started H enc F)
end Go.Proofs.Ytelbgimbkfjabaa.auditOwn
#print axioms Go.Proofs.Ytelbgimbkfjabaa.auditOwn.said
