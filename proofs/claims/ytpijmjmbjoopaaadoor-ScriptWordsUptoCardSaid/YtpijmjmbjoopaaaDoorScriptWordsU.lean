/- Proved: the tied card of ScriptWords, its second form: for every step, text and vector of bulk at most 1048576 together, in every world that holds the listed tables and sentinels as the text lays them, the law returns true and its arguments read as before. -/
import Derived.Test.YtpijmjmbjoopaaaDoorScTabScRep
set_option linter.unusedSimpArgs false
set_option linter.unusedVariables false
namespace Go.Proofs.YtpijmjmbjoopaaaDoor.scriptWords
open Go.ChangeShapes Go.WideShapes Go.ChangeAt Go.RowKit Go.AM Go.AM.Sc script
set_option maxRecDepth 100000
def b32Tab : List Int := [0,1,28,2,29,14,24,3,30,22,20,15,25,17,4,8,31,27,13,23,21,19,16,7,26,12,18,6,11,5,10,9]
def b64Tab : List Int := [0,1,56,2,57,49,28,3,61,58,42,50,38,29,17,4,62,47,59,36,45,43,51,22,53,39,33,30,24,18,12,5,63,55,48,27,60,41,37,16,46,35,44,21,52,32,23,11,54,26,40,15,34,20,31,10,25,14,19,9,13,8,7,6]
abbrev rangeS : ByteArray := { data := #[118,97,108,117,101,32,111,117,116,32,111,102,32,114,97,110,103,101] }
abbrev syntaxS : ByteArray := { data := #[105,110,118,97,108,105,100,32,115,121,110,116,97,120] }
noncomputable def low : Nat := (World.holding Tryd.prog default ⟨#[], #[],[]⟩).heap.size
abbrev rangeD : DataW Unit := .iface "*errors.errorString" (.ptr (.agg [.lit (.string [118, 97, 108, 117, 101, 32, 111, 117, 116, 32, 111, 102, 32, 114, 97, 110, 103, 101])]))
abbrev syntaxD : DataW Unit := .iface "*errors.errorString" (.ptr (.agg [.lit (.string [105, 110, 118, 97, 108, 105, 100, 32, 115, 121, 110, 116, 97, 120])]))
abbrev laid5 : List (String × DataW Unit) := [("math/bits.deBruijn32tab", Lib.tabData .u8 b32Tab), ("math/bits.deBruijn64tab", Lib.tabData .u8 b64Tab), ("internal/strconv.uint64pow10", Lib.tabData .u64 powTab), ("strconv.ErrRange", rangeD), ("strconv.ErrSyntax", syntaxD)]
theorem star : "*" ++ "errors.errorString" = "*errors.errorString" := by decide
theorem row127 (u : TypeId) (h : Tryd.prog.typeName? 3 u = some "*errors.errorString") : u = 127 :=
  typeName_ptr_named (nm := "errors.errorString") (by rw [star]; kernel_rfl) (by kernel_rfl) (by decide) u (by rw [star]; exact h)
theorem powIs {W : World} (h : laidMetH Tryd.prog Rows.scriptWordsUptoRow.laid W) : Lib.TabIs Tryd.prog W "internal/strconv.uint64pow10" .u64 powTab :=
  Lib.tabIs_of_head (t := 118) (e := 97) (n := 20) g_pow (by kernel_rfl) (by kernel_rfl) (by kernel_rfl) (by kernel_rfl) (by kernel_rfl) (laidMet.tail (laidMet.tail (show laidMet Tryd.prog laid5 W from h)))
theorem esIs {W : World} (h : laidMetH Tryd.prog Rows.scriptWordsUptoRow.laid W) : ∃ a, W.var? Tryd.prog "strconv.ErrSyntax" = some #[.iface 127 (.pointer (some a))] := by
  obtain ⟨a,_,h1,_⟩ := laid_sentinel (laidMet.tail (laidMet.tail (laidMet.tail (laidMet.tail (show laidMet Tryd.prog laid5 W from h))))) g_es (show (Tryd.prog.globals[1]?).map (·.type) = some 66 by kernel_rfl) Tryd.underlying66 row127 Tryd.underlying127 Tryd.underlying129 rfl rfl Tryd.underlying9 (by kernel_rfl) (by kernel_rfl)
  exact ⟨a,h1⟩
theorem spec_fn {H : Type} (ds : List (DataW H)) (h : ds.length = Tryd.f5.params.size) : Rows.scriptWordsSpec.fn H ds = { results := [.lit (.bool true)],args := ds } := by
  have h' : ds.length = 3 := h.trans (by kernel_rfl)
  match ds,h' with
  | [a,b,c],_ => rfl
theorem params : Tryd.f5.params.toList = [52,9,43] := by kernel_rfl
theorem agg52 : aggT Tryd.prog 52 = true := by kernel_rfl
theorem agg9 : aggT Tryd.prog 9 = false := by kernel_rfl
theorem agg43 : aggT Tryd.prog 43 = true := by kernel_rfl
theorem run {H : Type} {ds : List (DataW H)} {h : AM.H} {vss : List (List V)} (hkp : Kp h0 h) (hin : ArgsIn Tryd.prog Tryd.f5.params.toList ds h vss) (hb : ∀ d ∈ ds,Rows.uptoBulk d ≤ 1048576) :
    Sp Tryd.prog (envOf Tryd.prog prim) (.func 5 [] []) (argsV Tryd.prog Tryd.f5.params.toList vss) h fun v _ => v = .bool true := by
  rw [params] at hin ⊢
  obtain ⟨l1,l2,hr⟩ := hin
  match vss,ds,l1,l2 with
  | [a,b,c],[d,e,f],_,_ =>
    obtain ⟨f1,r1,_⟩ := hr 0 52 d a rfl rfl rfl
    obtain ⟨f2,r2,_⟩ := hr 1 9 e b rfl rfl rfl
    obtain ⟨f3,r3,_⟩ := hr 2 43 f c rfl rfl rfl
    obtain ⟨x,rfl,hx⟩ := rep_WStep (hb d (by simp)) r1
    obtain ⟨s,rfl,hs⟩ := rep_str Tryd.underlying9 r2 (hb e (by simp))
    obtain ⟨v,rfl,i0,i1,i2,i3,i4,i5,i6,i7⟩ := rep_Vec43 r3
    obtain ⟨s0,hs0⟩ := hx.sin
    have hargs : argsV Tryd.prog [52,9,43] [x.cells,[.str s],v.cells] = [.agg x.cells,.str s,.agg ([v.v0,v.v1,v.v2,v.v3,v.v4,v.v5,v.v6,v.v7].map fun n => .int .i64 n)] := by simp only [argsV,argV,agg52,agg9,agg43,if_true,Bool.false_eq_true,if_false,List.headD_cons]; rfl
    rw [hargs]
    refine law5 fns (fns.tkeep _ _ h0_t hkp) hs0 (by omega) rfl ?_
    intro n hn
    simp only [List.mem_cons,List.not_mem_nil,or_false] at hn
    rcases hn with rfl | rfl | rfl | rfl | rfl | rfl | rfl | rfl <;> assumption
theorem contract (H : Type) (enc : TypeId × Value → H) (W : World) (base : Nat) (args : Array Value) (ds gs : List (DataW H)) (before : List MemPlace)
    (hval : ∀ (j : Nat) t v,Tryd.f5.params[j]? = some t → args[j]? = some v → Value.okWide Tryd.prog W .any base t v)
    (hW : DataW.Whole enc Tryd.prog Tryd.f5.params.toList Rows.scriptWordsSpec.vars false W args.toList ds gs before) (hL : laidMetH Tryd.prog Rows.scriptWordsUptoRow.laid W) (hs : W.ShapedOpen Tryd.prog) (hk : Rows.uptoSmall H (ds ++ gs) = true) :
    Calls Tryd.prog 5 args W fun e W' => ∃ v,e = .returned v ∧ Rows.scriptWordsSpec.post enc Tryd.prog Tryd.f5 false true false false W args v W' := by
  have hsz : 6 ≤ W.heap.size := by
    have h5 : W.heap[5]?.isSome = true := by
      obtain ⟨⟨z5,t5⟩,r5,e5⟩ := Option.map_eq_some_iff.1 (show (((begin Tryd.prog (fun _ _ => 0) default).world.heap[5]?).bind Obj.row?).map (·.2) = some 131 by kernel_rfl)
      obtain ⟨cs,h1,_⟩ := hs.1 5 z5 t5 (by rw [globals]; decide) r5
      rw [h1]; rfl
    rcases Nat.lt_or_ge 5 W.heap.size with h' | h'
    · exact h'
    · rw [Array.getElem?_eq_none h'] at h5; cases h5
  have hb : Rows.uptoBulkAll (ds ++ gs) ≤ 1048576 := of_decide_eq_true hk
  refine contract_args mixed primOK (k := 12) (startHR_of (powIs hL) (esIs hL) hs hsz) h0_ro (by omega) (by kernel_rfl) hval hW rfl (fun ds h => spec_fn ds h) (t := 4) (by kernel_rfl) (by kernel_rfl) laidOut (by kernel_rfl) ?_
  intro h vss hkp _ hin
  exact run hkp hin (fun d hd => Nat.le_trans (bulk_part (List.mem_append_left _ hd)) hb)
noncomputable def wit : Array Value := #[.agg #[.int .i64 0,.int .i64 0,.int .i64 0,.int .i64 0,.int .i64 0,.int .i64 0,.int .i64 0,.int .i64 0,.int .i64 0,.string .empty,.string .empty,.string .empty,.int .i64 0,.string .empty,.int .i64 0,.int .i64 0,.int .i64 0,.int .i64 0,.int .i64 0,.int .i64 0,.int .i64 0,.int .i64 0,.int .i64 0,.string .empty,.string .empty,.string .empty,.int .i64 0,.int .i64 0,.slice none 0 0,.int .i64 0,.int .i64 0,.int .i64 0,.int .i64 0,.int .i64 0,.int .i64 0,.int .i64 0,.int .i64 0,.int .i64 0,.int .i64 0,.int .i64 0,.int .i64 0,.int .i64 0,.int .i64 0,.int .i64 0,.int .i64 0,.int .i64 0,.int .i64 0,.int .i64 0,.int .i64 0,.int .i64 0,.int .i64 0,.int .i64 0,.int .i64 0,.int .i64 0,.int .i64 0,.int .i64 0,.int .i64 0,.int .i64 0,.int .i64 0,.int .i64 0,.int .i64 0,.int .i64 0,.int .i64 0,.int .i64 0,.int .i64 0,.int .i64 0,.int .i64 0,.slice none 0 0,.int .i64 0,.int .i64 0,.int .i64 0,.int .i64 0,.int .i64 0,.int .u8 0,.int .i64 0,.int .i64 0],.string .empty,.agg #[.int .i64 0,.int .i64 0,.int .i64 0,.int .i64 0,.int .i64 0,.int .i64 0,.int .i64 0,.int .i64 0]]
noncomputable def laidWorld (os : Os) : World :=
  let w0 := World.holding Tryd.prog os ⟨#[.cells #[.string rangeS] 129,.cells #[.string syntaxS] 129], #[],[]⟩
  let put (h : Array Go.Obj) (g : Nat) (cs : Array Value) : Array Go.Obj := h.modify g fun
    | .cells _ t frozen => .cells cs t frozen
    | o => o
  let a0 := w0.heap
  let a1 := put a0 4 (b32Tab.map fun z => Value.int .u8 z).toArray
  let a2 := put a1 5 (b64Tab.map fun z => Value.int .u8 z).toArray
  let a3 := put a2 0 (powTab.map fun z => Value.int .u64 z).toArray
  let a4 := put a3 2 #[.iface 127 (.pointer (some ⟨low,0,none⟩))]
  let a5 := put a4 1 #[.iface 127 (.pointer (some ⟨low + 1,0,none⟩))]
  { w0 with heap := a5 }
theorem laid_met (os : Os) (args : Array Value) : laidMet Tryd.prog Rows.scriptWordsUptoRow.laid ((laidWorld os).forCall (fun _ _ => 0) ⟨#[],args,[]⟩).memory :=
  laidMet_of_run' 8 (by kernel_rfl) (by kernel_rfl)
theorem reads (os : Os) {H : Type} (enc : TypeId × Value → H) : ∃ places,DataW.whole enc Tryd.prog ((laidWorld os).forCall (fun _ _ => 0) ⟨#[],wit,[]⟩).memory Tryd.f5.params.toList Rows.scriptWordsSpec.vars false wit.toList 8 = some ([.agg [.lit (.int .i64 0),.agg [.lit (.int .i64 0),.lit (.int .i64 0)],.lit (.int .i64 0),.agg [.agg [.lit (.int .i64 0),.lit (.int .i64 0)],.lit (.int .i64 0),.lit (.int .i64 0),.lit (.int .i64 0),.lit (.string []),.lit (.string []),.lit (.string [])],.agg [.lit (.int .i64 0),.lit (.string []),.lit (.int .i64 0)],.agg [.lit (.int .i64 0),.lit (.int .i64 0),.lit (.int .i64 0),.agg [.agg [.lit (.int .i64 0),.lit (.int .i64 0)],.lit (.int .i64 0),.lit (.int .i64 0),.lit (.int .i64 0),.lit (.string []),.lit (.string []),.lit (.string [])],.lit (.int .i64 0),.lit (.int .i64 0),.nil,.agg [.lit (.int .i64 0),.agg [.lit (.int .i64 0),.lit (.int .i64 0),.lit (.int .i64 0),.lit (.int .i64 0),.lit (.int .i64 0),.lit (.int .i64 0),.lit (.int .i64 0),.lit (.int .i64 0)],.agg [.lit (.int .i64 0),.lit (.int .i64 0),.lit (.int .i64 0),.lit (.int .i64 0),.lit (.int .i64 0),.lit (.int .i64 0),.lit (.int .i64 0),.lit (.int .i64 0)],.agg [.lit (.int .i64 0),.lit (.int .i64 0),.lit (.int .i64 0),.lit (.int .i64 0),.lit (.int .i64 0),.lit (.int .i64 0),.lit (.int .i64 0),.lit (.int .i64 0)]],.lit (.int .i64 0),.agg [.lit (.int .i64 0),.lit (.int .i64 0),.lit (.int .i64 0),.lit (.int .i64 0),.lit (.int .i64 0),.lit (.int .i64 0),.lit (.int .i64 0),.lit (.int .i64 0)],.lit (.int .i64 0),.agg [.lit (.int .i64 0),.lit (.int .i64 0),.lit (.int .i64 0),.nil],.lit (.int .i64 0),.lit (.int .i64 0),.lit (.int .i64 0)],.lit (.int .i64 0),.lit (.int .i64 0),.lit (.int .u8 0),.lit (.int .i64 0),.lit (.int .i64 0)],.lit (.string []),.agg [.lit (.int .i64 0),.lit (.int .i64 0),.lit (.int .i64 0),.lit (.int .i64 0),.lit (.int .i64 0),.lit (.int .i64 0),.lit (.int .i64 0),.lit (.int .i64 0)]],[],places) :=
  ⟨[],by kernel_rfl⟩
theorem lifted (os : Os) (started : os.Started) (H : Type) (enc : TypeId × Value → H) (F : Stop.Interp) :
    ReturnsInHanded {} Tryd.checked os 5 .any ((Rows.OpenSpec.upto Rows.scriptWordsSpec).preRow enc Tryd.prog Tryd.f5 Rows.scriptWordsUptoRow.domain false Rows.scriptWordsUptoRow.laid) (((Rows.OpenSpec.upto Rows.scriptWordsSpec).at F).post enc Tryd.prog Tryd.f5 false true false false) := by
  obtain ⟨places,hx⟩ := reads os enc
  refine returnsInHanded_of_row (C := Tryd.checked) (s := Rows.OpenSpec.upto Rows.scriptWordsSpec) own started (by kernel_rfl) Tryd.func5
    (witness_row_atRef (enc := enc) (C := Tryd.checked) false (laidWorld os) wit rfl (by kernel_rfl) (by kernel_rfl) (by kernel_rfl)
      (OpenSpec.preRow_of_cond 8 hx (by kernel_rfl) (fun k hk => by cases hk; kernel_rfl) (by kernel_rfl) (laid_met os _))) ?_
  intro W base args ds gs before hval hW _ hcond _ hL hs _
  exact contract H enc W base args ds gs before hval hW hL hs (hcond _ rfl)
theorem said : Rows.ScriptWordsUptoSaid :=
  OpenClaim.holds_of_cond 5 Tryd.f5 rfl rfl rfl rfl rfl rfl rfl ⟨rfl,rfl,rfl,rfl,rfl⟩ rfl rfl rfl rfl rfl (by kernel_rfl) Tryd.func5 (by kernel_rfl)
    (of_decide_eq_true (by kernel_rfl)) (by unfold Func.isWrapper; first | (rw [if_pos (by decide +kernel)]; kernel_rfl) | (rw [if_neg (by decide +kernel)]; exact ⟨rfl,rfl⟩))
    (fun os started H enc _ F => by rw [OpenClaim.pre_eq_preRow]; exact lifted os started H enc F)
theorem plain (f : FuncId) (fn : Func) (hf : Tryd.pinned.checked.prog.funcNamed "orchard/orchardlaw27.ScriptWords" = some f) (hfn : Tryd.pinned.checked.prog.funcs[f]? = some fn) :
    true = Tryd.pinned.checked.prog.looks [] ∧ ∀ (j : Nat) t,fn.params[j]? = some t → Tryd.pinned.checked.prog.wantsStandIn t = false := by
  obtain rfl : f = 5 := Option.some.inj ((show Tryd.prog.funcNamed "orchard/orchardlaw27.ScriptWords" = some 5 by kernel_rfl).symm.trans hf) |>.symm
  obtain rfl : fn = Tryd.f5 := (Option.some.inj (Tryd.func5.symm.trans hfn)).symm
  refine ⟨by kernel_rfl,fun j t ht => ?_⟩
  have hall : (Tryd.f5.params.all fun t => !Tryd.prog.wantsStandIn t) = true := by kernel_rfl
  have := Array.all_eq_true_iff_forall_mem.1 hall t (Array.mem_of_getElem? ht)
  have h2 : Tryd.prog.wantsStandIn t = false := by simpa using this
  exact h2
theorem card : Rows.ScriptWordsUptoCardSaid :=
  Claim7.holds_tied_plain_at .later [] _ _ _ _ said (fun _ h => by cases h) (by kernel_rfl) (fun _ h => by cases h) scriptWordsUpto_row_tie rfl ⟨rfl,rfl⟩ (by kernel_rfl) rfl plain (by kernel_rfl)
end Go.Proofs.YtpijmjmbjoopaaaDoor.scriptWords
#print axioms Go.Proofs.YtpijmjmbjoopaaaDoor.scriptWords.card
