/- Proved: the tied card of WalAgain, its second form: for every script of bulk at most 1048576 and every number of bytes kept, in every world that holds the listed tables and sentinels as the text lays them, the law returns true and its arguments read as before. -/
import Derived.Test.YtpfoofcallfjjaaGreatDoorWcShelfToWfFns
set_option linter.unusedSimpArgs false
set_option linter.unusedVariables false
namespace Go.Proofs.YtpfoofcallfjjaaGreatDoor.walAgain
open Go.ChangeShapes Go.WideShapes Go.ChangeAt Go.RowKit Go.AM Go.AM.Wc wal walA
set_option maxRecDepth 100000
def b32Tab : List Int := [0,1,28,2,29,14,24,3,30,22,20,15,25,17,4,8,31,27,13,23,21,19,16,7,26,12,18,6,11,5,10,9]
def b64Tab : List Int := [0,1,56,2,57,49,28,3,61,58,42,50,38,29,17,4,62,47,59,36,45,43,51,22,53,39,33,30,24,18,12,5,63,55,48,27,60,41,37,16,46,35,44,21,52,32,23,11,54,26,40,15,34,20,31,10,25,14,19,9,13,8,7,6]
abbrev rangeS : ByteArray := { data := #[118,97,108,117,101,32,111,117,116,32,111,102,32,114,97,110,103,101] }
abbrev syntaxS : ByteArray := { data := #[105,110,118,97,108,105,100,32,115,121,110,116,97,120] }
noncomputable def low : Nat := (World.holding Tryz.prog default ⟨#[], #[],[]⟩).heap.size
abbrev rangeD : DataW Unit := .iface "*errors.errorString" (.ptr (.agg [.lit (.string [118, 97, 108, 117, 101, 32, 111, 117, 116, 32, 111, 102, 32, 114, 97, 110, 103, 101])]))
abbrev syntaxD : DataW Unit := .iface "*errors.errorString" (.ptr (.agg [.lit (.string [105, 110, 118, 97, 108, 105, 100, 32, 115, 121, 110, 116, 97, 120])]))
abbrev laid5 : List (String × DataW Unit) := [("math/bits.deBruijn32tab", Lib.tabData .u8 b32Tab), ("math/bits.deBruijn64tab", Lib.tabData .u8 b64Tab), ("internal/strconv.uint64pow10", Lib.tabData .u64 powTab), ("strconv.ErrRange", rangeD), ("strconv.ErrSyntax", syntaxD)]
theorem powIs {W : World} (h : laidMetH Tryz.prog Rows.walAgainUptoRow.laid W) : Lib.TabIs Tryz.prog W "internal/strconv.uint64pow10" .u64 powTab :=
 Lib.tabIs_of_head (t := 193) (e := 162) (n := 20) g_pow (by kernel_rfl) (by kernel_rfl) (by kernel_rfl) (by kernel_rfl) (by kernel_rfl) (laidMet.tail (laidMet.tail (show laidMet Tryz.prog laid5 W from h)))
theorem spec_fn {H : Type} (ds : List (DataW H)) (h : ds.length = Tryz.f5.params.size) : Rows.walAgainSpec.fn H ds = { results := [.lit (.bool true)],args := ds } := by
 have h' : ds.length = 2 := h.trans (by kernel_rfl)
 match ds,h' with
 | [a,b],_ => rfl
theorem params : Tryz.f5.params.toList = [22,5] := by kernel_rfl
theorem agg22 : aggT Tryz.prog 22 = false := by kernel_rfl
theorem agg5 : aggT Tryz.prog 5 = false := by kernel_rfl
theorem run {H : Type} {ds : List (DataW H)} {h : AM.H} {vss : List (List V)} (ht : T1 h) (hin : ArgsIn Tryz.prog Tryz.f5.params.toList ds h vss) (hb : ∀ d ∈ ds,Rows.uptoBulk d ≤ 1048576) :
  Sp Tryz.prog (envOf Tryz.prog walA.prim) (.func 5 [] []) (argsV Tryz.prog Tryz.f5.params.toList vss) h fun v _ => v = .bool true := by
 rw [params] at hin ⊢
 obtain ⟨l1,l2,hr⟩ := hin
 match vss,ds,l1,l2 with
 | [a,b],[d,e],_,_ =>
  obtain ⟨f1,r1,_⟩ := hr 0 22 d a rfl rfl rfl
  obtain ⟨f2,r2,_⟩ := hr 1 5 e b rfl rfl rfl
  obtain ⟨v,ops,rfl,hv,hl⟩ := rep_opsX (hb d (by simp)) r1
  obtain ⟨g,rfl,hg0,hg1⟩ := rep_u8 r2
  have hargs : argsV Tryz.prog [22,5] [[v],[.int .u8 g]] = [v,.int .u8 g] := by simp only [argsV,argV,agg22,agg5,Bool.false_eq_true,if_false,List.headD_cons]
  rw [hargs]
  exact law5 walA.fns walA.fds walA.fes walA.f5 walA.p5 walA.used_e walA.sort_e walA.clone_e walA.falls_e (fun _ t => walA.live_ok t) hv (by omega) hg0 hg1 ht
theorem contract (H : Type) (enc : TypeId × Value → H) (W : World) (base : Nat) (args : Array Value) (ds gs : List (DataW H)) (before : List MemPlace)
  (hval : ∀ (j : Nat) t v,Tryz.f5.params[j]? = some t → args[j]? = some v → Value.okWide Tryz.prog W .any base t v)
  (hW : DataW.Whole enc Tryz.prog Tryz.f5.params.toList Rows.walAgainSpec.vars false W args.toList ds gs before) (hL : laidMetH Tryz.prog Rows.walAgainUptoRow.laid W) (hs : W.ShapedOpen Tryz.prog) (hk : Rows.uptoSmall H (ds ++ gs) = true) :
  Calls Tryz.prog 5 args W fun e W' => ∃ v,e = .returned v ∧ Rows.walAgainSpec.post enc Tryz.prog Tryz.f5 false true false false W args v W' := by
 have hsz : 6 ≤ W.heap.size := by
  have h5 : W.heap[5]?.isSome = true := by
   obtain ⟨⟨z5,t5⟩,r5,e5⟩ := Option.map_eq_some_iff.1 (show (((begin Tryz.prog (fun _ _ => 0) default).world.heap[5]?).bind Obj.row?).map (fun _ => ()) = some () by kernel_rfl)
   obtain ⟨cs,h1,_⟩ := hs.1 5 z5 t5 (by rw [globals]; decide) r5
   rw [h1]; rfl
  rcases Nat.lt_or_ge 5 W.heap.size with h' | h'
  ·exact h'
  ·rw [Array.getElem?_eq_none h'] at h5; cases h5
 have hb : Rows.uptoBulkAll (ds ++ gs) ≤ 1048576 := of_decide_eq_true hk
 refine contract_args mixed walA.primOK (k := 12) (startHR_of (powIs hL) hs hsz) h0_ro (by omega) (by kernel_rfl) hval hW rfl (fun ds h => spec_fn ds h) (t := 4) (by kernel_rfl) (by kernel_rfl) laidOut (by kernel_rfl) ?_
 intro h vss hkp _ hin
 exact run (Tb.keep _ _ h0_t hkp) hin (fun d hd => Nat.le_trans (bulk_part (List.mem_append_left _ hd)) hb)
noncomputable def wit : Array Value := #[.slice none 0 0,.int .u8 0]
noncomputable def laidWorld (os : Os) : World :=
 let w0 := World.holding Tryz.prog os ⟨#[.cells #[.string rangeS] 216,.cells #[.string syntaxS] 216], #[],[]⟩
 let put (h : Array Go.Obj) (g : Nat) (cs : Array Value) : Array Go.Obj := h.modify g fun
  | .cells _ t frozen => .cells cs t frozen
  | o => o
 let a0 := w0.heap
 let a1 := put a0 4 (b32Tab.map fun z => Value.int .u8 z).toArray
 let a2 := put a1 5 (b64Tab.map fun z => Value.int .u8 z).toArray
 let a3 := put a2 0 (powTab.map fun z => Value.int .u64 z).toArray
 let a4 := put a3 2 #[.iface 214 (.pointer (some ⟨low,0,none⟩))]
 let a5 := put a4 1 #[.iface 214 (.pointer (some ⟨low + 1,0,none⟩))]
 { w0 with heap := a5 }
theorem laid_met (os : Os) (args : Array Value) : laidMet Tryz.prog Rows.walAgainUptoRow.laid ((laidWorld os).forCall (fun _ _ => 0) ⟨#[],args,[]⟩).memory :=
 laidMet_of_run' 8 (by kernel_rfl) (by kernel_rfl)
theorem reads (os : Os) {H : Type} (enc : TypeId × Value → H) : ∃ places,DataW.whole enc Tryz.prog ((laidWorld os).forCall (fun _ _ => 0) ⟨#[],wit,[]⟩).memory Tryz.f5.params.toList Rows.walAgainSpec.vars false wit.toList 8 = some ([.nil,.lit (.int .u8 0)],[],places) :=
 ⟨[],by kernel_rfl⟩
theorem lifted (os : Os) (started : os.Started) (H : Type) (enc : TypeId × Value → H) (F : Stop.Interp) :
  ReturnsInHanded {} Tryz.checked os 5 .any ((Rows.OpenSpec.upto Rows.walAgainSpec).preRow enc Tryz.prog Tryz.f5 Rows.walAgainUptoRow.domain false Rows.walAgainUptoRow.laid) (((Rows.OpenSpec.upto Rows.walAgainSpec).at F).post enc Tryz.prog Tryz.f5 false true false false) := by
 obtain ⟨places,hx⟩ := reads os enc
 refine returnsInHanded_of_row (C := Tryz.checked) (s := Rows.OpenSpec.upto Rows.walAgainSpec) own started (by kernel_rfl) Tryz.func5
  (witness_row_atRef (enc := enc) (C := Tryz.checked) false (laidWorld os) wit rfl (by kernel_rfl) (by kernel_rfl) (by kernel_rfl)
   (OpenSpec.preRow_of_cond 8 hx (by kernel_rfl) (fun k hk => by cases hk; kernel_rfl) (by kernel_rfl) (laid_met os _))) ?_
 intro W base args ds gs before hval hW _ hcond _ hL hs _
 exact contract H enc W base args ds gs before hval hW hL hs (hcond _ rfl)
theorem said : Rows.WalAgainUptoSaid :=
 OpenClaim.holds_of_cond 5 Tryz.f5 rfl rfl rfl rfl rfl rfl rfl ⟨rfl,rfl,rfl,rfl,rfl⟩ rfl rfl rfl rfl rfl (by kernel_rfl) Tryz.func5 (by kernel_rfl)
  (of_decide_eq_true (by kernel_rfl)) (by unfold Func.isWrapper; first | (rw [if_pos (by decide +kernel)]; kernel_rfl) | (rw [if_neg (by decide +kernel)]; exact ⟨rfl,rfl⟩))
  (fun os started H enc _ F => by rw [OpenClaim.pre_eq_preRow]; exact lifted os started H enc F)
theorem plain (f : FuncId) (fn : Func) (hf : Tryz.pinned.checked.prog.funcNamed "orchard/orchardlaw05.WalAgain" = some f) (hfn : Tryz.pinned.checked.prog.funcs[f]? = some fn) :
  true = Tryz.pinned.checked.prog.looks [] ∧ ∀ (j : Nat) t,fn.params[j]? = some t → Tryz.pinned.checked.prog.wantsStandIn t = false := by
 obtain rfl : f = 5 := Option.some.inj ((show Tryz.prog.funcNamed "orchard/orchardlaw05.WalAgain" = some 5 by kernel_rfl).symm.trans hf) |>.symm
 obtain rfl : fn = Tryz.f5 := (Option.some.inj (Tryz.func5.symm.trans hfn)).symm
 refine ⟨by kernel_rfl,fun j t ht => ?_⟩
 have hall : (Tryz.f5.params.all fun t => !Tryz.prog.wantsStandIn t) = true := by kernel_rfl
 have := Array.all_eq_true_iff_forall_mem.1 hall t (Array.mem_of_getElem? ht)
 have h2 : Tryz.prog.wantsStandIn t = false := by simpa using this
 exact h2
theorem card : Rows.WalAgainUptoCardSaid :=
 Claim7.holds_tied_plain_at .later [] _ _ _ _ said (fun _ h => by cases h) (by kernel_rfl) (fun _ h => by cases h) walAgainUpto_row_tie rfl ⟨rfl,rfl⟩ (by kernel_rfl) rfl plain (by kernel_rfl)
end Go.Proofs.YtpfoofcallfjjaaGreatDoor.walAgain
#print axioms Go.Proofs.YtpfoofcallfjjaaGreatDoor.walAgain.card
