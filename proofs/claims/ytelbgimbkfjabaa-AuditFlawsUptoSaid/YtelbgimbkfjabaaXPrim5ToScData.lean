/- My own texts, laid for this claim. -/
import Derived.Test.YtelbgimbkfjabaaNC
set_option linter.unusedSimpArgs false
set_option linter.unusedVariables false
namespace Go.AM
open Go.RowKit
variable {P : Program}
theorem nc_run (hmix : P.follows .mixedOrders = true) {prim : Nat → Option (List V → H → Option (V × H))} (hp : PrimOK P prim) {n k g : Nat} {fn : Func} {f : Fn} (hg : P.funcs[g]? = some fn) (hc : cFn P fn = some f) {args0 : List V} {h0 : H} {q : V → Bool}
  (run : ncFnB P (ap P (envOf P prim) n) k f args0 h0 q = true) (hno : ∀ i o,h0.get i = some o → o.mut = false) {m0 : Mp} {w : World} {xs : List Value} (hr : HR P m0 h0 w) (hx : VRL m0 args0 xs) (j : Nat) :
  CallsIn (FF none) j P g xs.toArray w fun e w' => ∃ m' v x,q v = true ∧ e = .returned x ∧ VR m' v x ∧ Below w.heap.size w w' := by
 refine CallsIn.mono (ncFn_sound hmix (ap_sound hmix hp n) hg hc (ncFnB_ok run) hr hx j) fun e w' ⟨v,h',hq,m',x,h1,h2,h3,h4⟩ => ⟨m',v,x,hq,h1,h2,h4.os,h4.tape,h4.output,h4.wsize,fun k hk => h4.frame k hk ?_⟩
 rintro ⟨i,o,sh,e,hg,hm,_⟩
 rw [hno i o hg] at hm; cases hm
def mapA (P : Program) (x : Option (Nat × Nat × Nat)) : Mp := fun i => if i < P.globals.size then some (i,0,0) else if i = P.globals.size then x else none
theorem HR.arg {m : Mp} {h h0 : H} {w : World} (hr : HR P m h w) (hk : h0.ok) (hs : h0.size = P.globals.size + 1) {b : Nat} {vs : List V} {ty : Nat} {opn ro : Bool} {fz : Option Nat} (hb : h.get b = some (.cells vs ty opn ro fz))
  (hh : ∀ i o,h0.get i = some o → i = P.globals.size ∧ o = .cells vs ty opn true none) (hflat : ∀ m m' ys,VRL m vs ys → VRL m' vs ys) : HR P (mapA P (m b)) h0 w where
 ok := hk
 dom := fun i x hx => by
  unfold mapA at hx
  split at hx
  ·omega
  ·split at hx
   ·omega
   ·cases hx
 glob := fun g hg => by simp [mapA,hg]
 blk := fun i r sh e hm => by
  unfold mapA at hm
  split at hm
  ·rename_i hi
   cases hm
   exact hr.blk _ _ _ _ (hr.glob i hi)
  ·split at hm
   ·exact hr.blk _ _ _ _ hm
   ·cases hm
 obj := fun i o hg hl => by
  obtain ⟨rfl,rfl⟩ := hh i o hg
  obtain ⟨r,sh,e,ob,q1,q2,c,fzr,rfl,q4,q5,_⟩ := hr.obj b _ hb rfl
  refine ⟨r,sh,e,_,?_,q2,c,fzr,rfl,hflat _ _ _ q4,q5,fun h => (by cases h)⟩
  simp [mapA,q1]
 inj := fun i j o o' r sh e sh' e' h1 h2 _ _ _ _ => by
  rw [(hh i o h1).1,(hh j o' h2).1]
end Go.AM
namespace Go.AM
abbrev StmtOf {p : Prop} (_ : p) : Prop := p
theorem GO : StmtOf ((And.intro @XDP_nil (And.intro @XDP_cons (And.intro @XSP_pur (And.intro @XSP_rd (And.intro @XAP_eff (And.intro @XAP_call (And.intro @XDJ_nil (And.intro @XDJ_cons (And.intro @XSJ_pur (And.intro @XSJ_rd (And.intro @XAJ_eff (And.intro @XAJ_call (And.intro @ptrLt_mk (And.intro @rdLo_load1 (And.intro @rdLo_loadN (And.intro @XDK_nil (And.intro @XDK_cons (And.intro @XSK_pur (And.intro @XSK_rd (And.intro @XAK_eff (And.intro @XAK_call (And.intro @XDQ_nil (And.intro @XDQ_cons (And.intro @XSQ_pur (And.intro @XSQ_rd (And.intro @XAQ_eff (And.intro @XAQ_call (And.intro @XDO_nil (And.intro @XDO_cons (And.intro @XRD_pur (And.intro @XRD_rd (And.intro @XRD_eff (And.intro @XRD_call (And.intro @still_mv (And.intro @still_pick (And.intro @still_alloc (And.intro @still_box (And.intro @still_build (And.intro @still_bslice (And.intro @still_load1 (And.intro @still_loadN (And.intro @still_store (And.intro @still_nilck (And.intro @still_bin (And.intro @still_un (And.intro @still_cvt (And.intro @still_s2b (And.intro @still_b2s (And.intro @still_mkI (And.intro @still_mkF (And.intro @still_mkMap (And.intro @still_mkSlice (And.intro @still_slS (And.intro @still_slL (And.intro @still_fadr (And.intro @still_iadrL (And.intro @still_iadrA (And.intro @still_fld (And.intro @still_idxA (And.intro @still_idxS (And.intro @still_lookup (And.intro @still_mapUpd (And.intro @still_mapDel (And.intro @still_rng (And.intro @still_next (And.intro @still_entry (And.intro @still_extract (And.intro @still_lenS (And.intro @still_lenL (And.intro @still_lenM (And.intro @still_app (And.intro @still_copy (And.intro @still_minmax (And.intro @still_call (And.intro @still_bad (And.intro @still_slA (And.intro @still_capL (And.intro @still_appZ (And.intro @still_i2s (And.intro @still_sid (And.intro @still_same (And.intro @still_p2u (And.intro @still_u2p (And.intro @still_usd (And.intro @still_ustr (And.intro @still_mkNZ (And.intro @still_tass (And.intro @still_inv (And.intro @X_nil (And.intro @X_skip (And.intro @X_region (And.intro @X_seq (And.intro @X_block (And.intro @X_loop (And.intro @X_l (And.intro @X_b (And.intro @X_exit (And.intro @X_ret (And.intro @XQ_nil (And.intro @XQ_c (And.intro @XQ_l (And.intro @XQ_b (And.intro @X_cond (And.intro @XT_bool (And.intro @XO_nil (And.intro @XO_cons (And.intro @XR_pur (And.intro @XR_rd (And.intro @XR_eff (And.intro @XR_call (And.intro @upo_some (And.intro @upo_none (And.intro @wantV_none (And.intro @wantV_some (And.intro @isB_bool (And.intro @ev_t (And.intro @ev_k (And.intro @evs_cons (And.intro @evs_nil (And.intro @evo_none (And.intro @evo_some (And.intro @up_app (And.intro @argF_zero (And.intro @argF_succ (And.intro @push_eq (And.intro @Fin_nrm (And.intro @Fin_ret (And.intro @resVs_nil (And.intro @resVs_t (And.intro @oneOr_one @oneOr_two))))))))))))))))))))))))))))))))))))))))))))))))))))))))))))))))))))))))))))))))))))))))))))))))))))))))))))))))))))))))))))))))))) := (And.intro @XDP_nil (And.intro @XDP_cons (And.intro @XSP_pur (And.intro @XSP_rd (And.intro @XAP_eff (And.intro @XAP_call (And.intro @XDJ_nil (And.intro @XDJ_cons (And.intro @XSJ_pur (And.intro @XSJ_rd (And.intro @XAJ_eff (And.intro @XAJ_call (And.intro @ptrLt_mk (And.intro @rdLo_load1 (And.intro @rdLo_loadN (And.intro @XDK_nil (And.intro @XDK_cons (And.intro @XSK_pur (And.intro @XSK_rd (And.intro @XAK_eff (And.intro @XAK_call (And.intro @XDQ_nil (And.intro @XDQ_cons (And.intro @XSQ_pur (And.intro @XSQ_rd (And.intro @XAQ_eff (And.intro @XAQ_call (And.intro @XDO_nil (And.intro @XDO_cons (And.intro @XRD_pur (And.intro @XRD_rd (And.intro @XRD_eff (And.intro @XRD_call (And.intro @still_mv (And.intro @still_pick (And.intro @still_alloc (And.intro @still_box (And.intro @still_build (And.intro @still_bslice (And.intro @still_load1 (And.intro @still_loadN (And.intro @still_store (And.intro @still_nilck (And.intro @still_bin (And.intro @still_un (And.intro @still_cvt (And.intro @still_s2b (And.intro @still_b2s (And.intro @still_mkI (And.intro @still_mkF (And.intro @still_mkMap (And.intro @still_mkSlice (And.intro @still_slS (And.intro @still_slL (And.intro @still_fadr (And.intro @still_iadrL (And.intro @still_iadrA (And.intro @still_fld (And.intro @still_idxA (And.intro @still_idxS (And.intro @still_lookup (And.intro @still_mapUpd (And.intro @still_mapDel (And.intro @still_rng (And.intro @still_next (And.intro @still_entry (And.intro @still_extract (And.intro @still_lenS (And.intro @still_lenL (And.intro @still_lenM (And.intro @still_app (And.intro @still_copy (And.intro @still_minmax (And.intro @still_call (And.intro @still_bad (And.intro @still_slA (And.intro @still_capL (And.intro @still_appZ (And.intro @still_i2s (And.intro @still_sid (And.intro @still_same (And.intro @still_p2u (And.intro @still_u2p (And.intro @still_usd (And.intro @still_ustr (And.intro @still_mkNZ (And.intro @still_tass (And.intro @still_inv (And.intro @X_nil (And.intro @X_skip (And.intro @X_region (And.intro @X_seq (And.intro @X_block (And.intro @X_loop (And.intro @X_l (And.intro @X_b (And.intro @X_exit (And.intro @X_ret (And.intro @XQ_nil (And.intro @XQ_c (And.intro @XQ_l (And.intro @XQ_b (And.intro @X_cond (And.intro @XT_bool (And.intro @XO_nil (And.intro @XO_cons (And.intro @XR_pur (And.intro @XR_rd (And.intro @XR_eff (And.intro @XR_call (And.intro @upo_some (And.intro @upo_none (And.intro @wantV_none (And.intro @wantV_some (And.intro @isB_bool (And.intro @ev_t (And.intro @ev_k (And.intro @evs_cons (And.intro @evs_nil (And.intro @evo_none (And.intro @evo_some (And.intro @up_app (And.intro @argF_zero (And.intro @argF_succ (And.intro @push_eq (And.intro @Fin_nrm (And.intro @Fin_ret (And.intro @resVs_nil (And.intro @resVs_t (And.intro @oneOr_one @oneOr_two))))))))))))))))))))))))))))))))))))))))))))))))))))))))))))))))))))))))))))))))))))))))))))))))))))))))))))))))))))))))))))))))))
theorem GO2 : StmtOf ((And.intro @Option.map_some.{0,0} (And.intro @if_true.{1} (And.intro @if_false.{1} (And.intro @ite_true.{1} (And.intro @ite_false.{1} (And.intro @Bool.false_eq_true (And.intro @beq_self_eq_true.{0} (And.intro @beq_true (And.intro @beq_false (And.intro @Bool.not_true (And.intro @Bool.not_false (And.intro @Bool.not_eq_true (And.intro @Bool.not_eq_false (And.intro @List.length_cons.{0} (And.intro @List.length_nil.{0} (And.intro @List.take_zero.{0} (And.intro @List.nil_append.{0} (And.intro @List.append_nil.{0} (And.intro @List.drop_succ_cons.{0} (And.intro @List.drop_zero.{0} (And.intro @List.drop_nil.{0} (And.intro @List.cons_append.{0} (And.intro @List.take_succ_cons.{0} (And.intro @List.take_nil.{0} (And.intro @and_self (And.intro @and_true (And.intro @true_and (And.intro @Nat.le_refl (And.intro @decide_true (And.intro @decide_false (And.intro @decide_eq_true_eq (And.intro @List.getElem?_cons_zero.{0} (And.intro @List.getElem?_cons_succ.{0} (And.intro @List.replicate_succ.{0} (And.intro @List.replicate_zero.{0} (And.intro @List.flatten_cons.{0} (And.intro @List.flatten_nil.{0} (And.intro @Nat.zero_add @Nat.add_zero))))))))))))))))))))))))))))))))))))))) := (And.intro @Option.map_some.{0,0} (And.intro @if_true.{1} (And.intro @if_false.{1} (And.intro @ite_true.{1} (And.intro @ite_false.{1} (And.intro @Bool.false_eq_true (And.intro @beq_self_eq_true.{0} (And.intro @beq_true (And.intro @beq_false (And.intro @Bool.not_true (And.intro @Bool.not_false (And.intro @Bool.not_eq_true (And.intro @Bool.not_eq_false (And.intro @List.length_cons.{0} (And.intro @List.length_nil.{0} (And.intro @List.take_zero.{0} (And.intro @List.nil_append.{0} (And.intro @List.append_nil.{0} (And.intro @List.drop_succ_cons.{0} (And.intro @List.drop_zero.{0} (And.intro @List.drop_nil.{0} (And.intro @List.cons_append.{0} (And.intro @List.take_succ_cons.{0} (And.intro @List.take_nil.{0} (And.intro @and_self (And.intro @and_true (And.intro @true_and (And.intro @Nat.le_refl (And.intro @decide_true (And.intro @decide_false (And.intro @decide_eq_true_eq (And.intro @List.getElem?_cons_zero.{0} (And.intro @List.getElem?_cons_succ.{0} (And.intro @List.replicate_succ.{0} (And.intro @List.replicate_zero.{0} (And.intro @List.flatten_cons.{0} (And.intro @List.flatten_nil.{0} (And.intro @Nat.zero_add @Nat.add_zero))))))))))))))))))))))))))))))))))))))
theorem GO3 : StmtOf ((And.intro @fillV.eq_1 (And.intro @fillV.eq_2 (And.intro @setR.eq_1 (And.intro @getR.eq_1 (And.intro @lenV.eq_1 (And.intro @lenV.eq_2 (And.intro @lenV.eq_3 (And.intro @partV.eq_1 (And.intro @V.nj.eq_1 (And.intro @V.nj.eq_2 (And.intro @V.nj.eq_3 (And.intro @V.nj.eq_4 (And.intro @V.nj.eq_5 (And.intro @V.nj.eq_6 (And.intro @V.njL.eq_1 (And.intro @V.njL.eq_2 (And.intro @V.cells.eq_1 @V.cells.eq_2)))))))))))))))))) := (And.intro @fillV.eq_1 (And.intro @fillV.eq_2 (And.intro @setR.eq_1 (And.intro @getR.eq_1 (And.intro @lenV.eq_1 (And.intro @lenV.eq_2 (And.intro @lenV.eq_3 (And.intro @partV.eq_1 (And.intro @V.nj.eq_1 (And.intro @V.nj.eq_2 (And.intro @V.nj.eq_3 (And.intro @V.nj.eq_4 (And.intro @V.nj.eq_5 (And.intro @V.nj.eq_6 (And.intro @V.njL.eq_1 (And.intro @V.njL.eq_2 (And.intro @V.cells.eq_1 @V.cells.eq_2)))))))))))))))))
theorem GR : StmtOf (And.intro @GO (And.intro @GO2 @GO3)) := And.intro @GO (And.intro @GO2 @GO3)
end Go.AM
namespace Go.AM.Sc
abbrev om (d s p : Nat) : O := ⟨some d,.mv (.t s),none,p,[d,s]⟩
abbrev og (d s g p : Nat) : O := ⟨some d,.mv (.t s),some (g,true),p,[d,g,s]⟩
abbrev oa (d n s p : Nat) : O := ⟨some d,.fadr n (.t s),none,p,[d,s]⟩
abbrev oag (d n s g p : Nat) : O := ⟨some d,.fadr n (.t s),some (g,true),p,[d,g,s]⟩
abbrev oaf (d n s g p : Nat) : O := ⟨some d,.fadr n (.t s),some (g,false),p,[d,g,s]⟩
abbrev ol (d s p : Nat) : O := ⟨some d,.load1 (.t s),none,p,[d,s]⟩
abbrev olg (d s g p : Nat) : O := ⟨some d,.load1 (.t s),some (g,true),p,[d,g,s]⟩
abbrev olf (d s g p : Nat) : O := ⟨some d,.load1 (.t s),some (g,false),p,[d,g,s]⟩
abbrev oN (d n s p : Nat) : O := ⟨some d,.loadN n (.t s),none,p,[d,s]⟩
abbrev oNg (d n s g p : Nat) : O := ⟨some d,.loadN n (.t s),some (g,true),p,[d,g,s]⟩
abbrev ox (d s i p : Nat) : O := ⟨some d,.extract (.t s) i,none,p,[d,s]⟩
abbrev oe (d s g p : Nat) : O := ⟨some d,.pick (.t g) (.t s) (.k (.bool false)),none,p,[d,g,s]⟩
abbrev oi (d n a i p : Nat) : O := ⟨some d,.iadrL n (.t a) (.t i),none,p,[d,a,i]⟩
abbrev oig (d n a i g p : Nat) : O := ⟨some d,.iadrL n (.t a) (.t i),some (g,true),p,[d,g,a,i]⟩
abbrev oL (d s p : Nat) : O := ⟨some d,.lenL (.t s),none,p,[d,s]⟩
abbrev oq (d a b g p : Nat) : O := ⟨some d,.bin .eql (some .int) false (.t a) (.t b),some (g,true),p,[d,g,a,b]⟩
abbrev op1 (d s p : Nat) : O := ⟨some d,.bin .add (some .int) true (.t s) (.k (.int .i64 1)),none,p,[d,s]⟩
abbrev olt (d a b p : Nat) : O := ⟨some d,.bin .lss (some .int) false (.t a) (.t b),none,p,[d,a,b]⟩
abbrev ono (d s p : Nat) : O := ⟨some d,.un .not (.t s),none,p,[d,s]⟩
abbrev ong (d s g p : Nat) : O := ⟨some d,.un .not (.t s),some (g,true),p,[d,g,s]⟩
abbrev ost (n a s p : Nat) : O := ⟨none,.store n (.t a) (.t s),none,p,[a,s]⟩
abbrev zVw : List V := [(.int .i64 0),(.int .i64 0),(.bool false),(.bool false),(.bool false),(.int .i64 0),(.int .i64 0),(.slice none 0 0 false),(.int .i64 0),(.int .i64 0),(.int .i64 0),(.int .i64 0),(.int .i64 0),(.int .i64 0),(.int .i64 0),(.int .i64 0),(.int .i64 0),(.int .i64 0),(.int .i64 0),(.slice none 0 0 false),(.slice none 0 0 false)]
theorem fcons_step {h : H} {o n : Nat} {a : Bool} {e r : EqT} {xs ys : List V} {x y : V} {p q : Prop} [Decidable p] [Decidable q] (h1 : partV xs o n a = some x) (h2 : partV ys o n a = some y) (h3 : eqV h e x y = some (decide p)) (h4 : eqV h r (.agg xs) (.agg ys) = some (decide q)) :
  eqV h (.fcons o n a e r) (.agg xs) (.agg ys) = some (decide (p ∧ q)) := by
 simp only [eqV,h1,h2,h3]
 by_cases hp : p
 ·simp [hp,h4]
 ·simp [hp]
theorem fnil_step (h : H) (xs ys : List V) : eqV h .fnil (.agg xs) (.agg ys) = some (decide True) := by simp [eqV]
theorem allM_nil {f : Nat → Option Bool} {i : Nat} : allM f 0 i = some (decide True) := by simp [allM]
theorem allM_step {f : Nat → Option Bool} {n i : Nat} {p q : Prop} [Decidable p] [Decidable q] (h1 : f i = some (decide p)) (h2 : allM f n (i + 1) = some (decide q)) : allM f (n + 1) i = some (decide (p ∧ q)) := by
 simp only [allM,h1]
 by_cases hp : p
 ·simp [hp,h2]
 ·simp [hp]
theorem eqV_ar_eq (h : H) (len size : Nat) (g : Bool) (e : EqT) (xs ys : List V) : eqV h (.ar len size g e) (.agg xs) (.agg ys) = allM (fun i => match partV xs (i * size) size g,partV ys (i * size) size g with
   | some x,some y => eqV h e x y
   | _,_ => none) len 0 := by simp only [eqV]; rfl
theorem int_step (h : H) (k : IntKind) (a b : Int) : eqV h .int (.int k a) (.int k b) = some (decide (a = b)) := by
 simp only [eqV,if_true]
 congr 1
theorem str_step (h : H) (a b : List UInt8) : eqV h .str (.str a) (.str b) = some (decide (a = b)) := by
 simp only [eqV]
 congr 1
 rw [Bool.eq_iff_iff]; simp
structure Stamp where
 time : Int
 site : Int
 deriving DecidableEq
def Stamp.cells (x : Stamp) : List V := [.int .i64 x.time,.int .i64 x.site]
theorem Stamp.len (x : Stamp) : x.cells.length = 2 := rfl
theorem Stamp.g0 (x : Stamp) : x.cells[0]? = some (.int .i64 x.time) := rfl
theorem Stamp.g1 (x : Stamp) : x.cells[1]? = some (.int .i64 x.site) := rfl
theorem Stamp.r0 (x : Stamp) : getR x.cells 0 2 = x.cells := rfl
theorem Stamp.eqv (h : H) (x y : Stamp) : eqV h (.fcons 0 1 false .int (.fcons 1 1 false .int .fnil)) (.agg x.cells) (.agg y.cells) = some (decide (x = y)) := (fcons_step rfl rfl (int_step _ _ _ _) (fcons_step rfl rfl (int_step _ _ _ _) (fnil_step _ _ _))).trans (congrArg some (decide_eq_decide.2 ⟨fun e => by cases x; cases y; simpa [and_assoc] using e,fun e => by subst e; simp⟩))
structure Vec where
 v0 : Int
 v1 : Int
 v2 : Int
 v3 : Int
 v4 : Int
 v5 : Int
 v6 : Int
 v7 : Int
 deriving DecidableEq
def Vec.cells (x : Vec) : List V := [.int .i64 x.v0,.int .i64 x.v1,.int .i64 x.v2,.int .i64 x.v3,.int .i64 x.v4,.int .i64 x.v5,.int .i64 x.v6,.int .i64 x.v7]
theorem Vec.len (x : Vec) : x.cells.length = 8 := rfl
theorem Vec.g0 (x : Vec) : x.cells[0]? = some (.int .i64 x.v0) := rfl
theorem Vec.g1 (x : Vec) : x.cells[1]? = some (.int .i64 x.v1) := rfl
theorem Vec.g2 (x : Vec) : x.cells[2]? = some (.int .i64 x.v2) := rfl
theorem Vec.g3 (x : Vec) : x.cells[3]? = some (.int .i64 x.v3) := rfl
theorem Vec.g4 (x : Vec) : x.cells[4]? = some (.int .i64 x.v4) := rfl
theorem Vec.g5 (x : Vec) : x.cells[5]? = some (.int .i64 x.v5) := rfl
theorem Vec.g6 (x : Vec) : x.cells[6]? = some (.int .i64 x.v6) := rfl
theorem Vec.g7 (x : Vec) : x.cells[7]? = some (.int .i64 x.v7) := rfl
theorem Vec.r0 (x : Vec) : getR x.cells 0 8 = x.cells := rfl
theorem Vec.eqv (h : H) (x y : Vec) : eqV h (.ar 8 1 false .int) (.agg x.cells) (.agg y.cells) = some (decide (x = y)) := (eqV_ar_eq _ _ _ _ _ _ _).trans ((allM_step (int_step h .i64 _ _) (allM_step (int_step h .i64 _ _) (allM_step (int_step h .i64 _ _) (allM_step (int_step h .i64 _ _) (allM_step (int_step h .i64 _ _) (allM_step (int_step h .i64 _ _) (allM_step (int_step h .i64 _ _) (allM_step (int_step h .i64 _ _) allM_nil)))))))).trans (congrArg some (decide_eq_decide.2 ⟨fun e => by cases x; cases y; simpa [and_assoc] using e,fun e => by subst e; simp⟩)))
structure Opr where
 time : Int
 site : Int
 kind : Int
 node : Int
 parent : Int
 name : List UInt8
 key : List UInt8
 value : List UInt8
 deriving DecidableEq
def Opr.cells (x : Opr) : List V := [.int .i64 x.time,.int .i64 x.site,.int .i64 x.kind,.int .i64 x.node,.int .i64 x.parent,.str x.name,.str x.key,.str x.value]
theorem Opr.len (x : Opr) : x.cells.length = 8 := rfl
theorem Opr.g0 (x : Opr) : x.cells[0]? = some (.int .i64 x.time) := rfl
theorem Opr.g1 (x : Opr) : x.cells[1]? = some (.int .i64 x.site) := rfl
theorem Opr.g2 (x : Opr) : x.cells[2]? = some (.int .i64 x.kind) := rfl
theorem Opr.g3 (x : Opr) : x.cells[3]? = some (.int .i64 x.node) := rfl
theorem Opr.g4 (x : Opr) : x.cells[4]? = some (.int .i64 x.parent) := rfl
theorem Opr.g5 (x : Opr) : x.cells[5]? = some (.str x.name) := rfl
theorem Opr.g6 (x : Opr) : x.cells[6]? = some (.str x.key) := rfl
theorem Opr.g7 (x : Opr) : x.cells[7]? = some (.str x.value) := rfl
theorem Opr.r0 (x : Opr) : getR x.cells 0 8 = x.cells := rfl
theorem Opr.eqv (h : H) (x y : Opr) : eqV h (.fcons 0 2 true (.fcons 0 1 false .int (.fcons 1 1 false .int .fnil)) (.fcons 2 1 false .int (.fcons 3 1 false .int (.fcons 4 1 false .int (.fcons 5 1 false .str (.fcons 6 1 false .str (.fcons 7 1 false .str .fnil))))))) (.agg x.cells) (.agg y.cells) = some (decide (x = y)) := (fcons_step rfl rfl (fcons_step rfl rfl (int_step _ _ _ _) (fcons_step rfl rfl (int_step _ _ _ _) (fnil_step _ _ _))) (fcons_step rfl rfl (int_step _ _ _ _) (fcons_step rfl rfl (int_step _ _ _ _) (fcons_step rfl rfl (int_step _ _ _ _) (fcons_step rfl rfl (str_step _ _ _) (fcons_step rfl rfl (str_step _ _ _) (fcons_step rfl rfl (str_step _ _ _) (fnil_step _ _ _)))))))).trans (congrArg some (decide_eq_decide.2 ⟨fun e => by cases x; cases y; simpa [and_assoc] using e,fun e => by subst e; simp⟩))
structure Epoch where
 number : Int
 states : Vec
 seals : Vec
 sponsor : Vec
 deriving DecidableEq
def Epoch.cells (x : Epoch) : List V := [.int .i64 x.number,.int .i64 x.states.v0,.int .i64 x.states.v1,.int .i64 x.states.v2,.int .i64 x.states.v3,.int .i64 x.states.v4,.int .i64 x.states.v5,.int .i64 x.states.v6,.int .i64 x.states.v7,.int .i64 x.seals.v0,.int .i64 x.seals.v1,.int .i64 x.seals.v2,.int .i64 x.seals.v3,.int .i64 x.seals.v4,.int .i64 x.seals.v5,.int .i64 x.seals.v6,.int .i64 x.seals.v7,.int .i64 x.sponsor.v0,.int .i64 x.sponsor.v1,.int .i64 x.sponsor.v2,.int .i64 x.sponsor.v3,.int .i64 x.sponsor.v4,.int .i64 x.sponsor.v5,.int .i64 x.sponsor.v6,.int .i64 x.sponsor.v7]
theorem Epoch.len (x : Epoch) : x.cells.length = 25 := rfl
theorem Epoch.g0 (x : Epoch) : x.cells[0]? = some (.int .i64 x.number) := rfl
theorem Epoch.g1 (x : Epoch) : x.cells[1]? = some (.int .i64 x.states.v0) := rfl
theorem Epoch.g2 (x : Epoch) : x.cells[2]? = some (.int .i64 x.states.v1) := rfl
theorem Epoch.g3 (x : Epoch) : x.cells[3]? = some (.int .i64 x.states.v2) := rfl
theorem Epoch.g4 (x : Epoch) : x.cells[4]? = some (.int .i64 x.states.v3) := rfl
theorem Epoch.g5 (x : Epoch) : x.cells[5]? = some (.int .i64 x.states.v4) := rfl
theorem Epoch.g6 (x : Epoch) : x.cells[6]? = some (.int .i64 x.states.v5) := rfl
theorem Epoch.g7 (x : Epoch) : x.cells[7]? = some (.int .i64 x.states.v6) := rfl
theorem Epoch.g8 (x : Epoch) : x.cells[8]? = some (.int .i64 x.states.v7) := rfl
theorem Epoch.g9 (x : Epoch) : x.cells[9]? = some (.int .i64 x.seals.v0) := rfl
theorem Epoch.g10 (x : Epoch) : x.cells[10]? = some (.int .i64 x.seals.v1) := rfl
theorem Epoch.g11 (x : Epoch) : x.cells[11]? = some (.int .i64 x.seals.v2) := rfl
theorem Epoch.g12 (x : Epoch) : x.cells[12]? = some (.int .i64 x.seals.v3) := rfl
theorem Epoch.g13 (x : Epoch) : x.cells[13]? = some (.int .i64 x.seals.v4) := rfl
theorem Epoch.g19 (x : Epoch) : x.cells[19]? = some (.int .i64 x.sponsor.v2) := rfl
theorem Epoch.g20 (x : Epoch) : x.cells[20]? = some (.int .i64 x.sponsor.v3) := rfl
theorem Epoch.g22 (x : Epoch) : x.cells[22]? = some (.int .i64 x.sponsor.v5) := rfl
theorem Epoch.r0 (x : Epoch) : getR x.cells 0 25 = x.cells := rfl
theorem Epoch.eqv (h : H) (x y : Epoch) : eqV h (.fcons 0 1 false .int (.fcons 1 8 true (.ar 8 1 false .int) (.fcons 9 8 true (.ar 8 1 false .int) (.fcons 17 8 true (.ar 8 1 false .int) .fnil)))) (.agg x.cells) (.agg y.cells) = some (decide (x = y)) := (fcons_step rfl rfl (int_step _ _ _ _) (fcons_step rfl rfl (Vec.eqv h _ _) (fcons_step rfl rfl (Vec.eqv h _ _) (fcons_step rfl rfl (Vec.eqv h _ _) (fnil_step _ _ _))))).trans (congrArg some (decide_eq_decide.2 ⟨fun e => by cases x; cases y; simpa [and_assoc] using e,fun e => by subst e; simp⟩))
structure Part where
 snap : Int
 index : Int
 many : Int
 data : V
def Part.cells (x : Part) : List V := [.int .i64 x.snap,.int .i64 x.index,.int .i64 x.many,x.data]
theorem Part.len (x : Part) : x.cells.length = 4 := rfl
theorem Part.g0 (x : Part) : x.cells[0]? = some (.int .i64 x.snap) := rfl
theorem Part.g1 (x : Part) : x.cells[1]? = some (.int .i64 x.index) := rfl
theorem Part.g2 (x : Part) : x.cells[2]? = some (.int .i64 x.many) := rfl
theorem Part.g3 (x : Part) : x.cells[3]? = some (x.data) := rfl
theorem Part.r0 (x : Part) : getR x.cells 0 4 = x.cells := rfl
structure Query where
 kind : Int
 path : List UInt8
 node : Int
 deriving DecidableEq
def Query.cells (x : Query) : List V := [.int .i64 x.kind,.str x.path,.int .i64 x.node]
theorem Query.len (x : Query) : x.cells.length = 3 := rfl
theorem Query.g0 (x : Query) : x.cells[0]? = some (.int .i64 x.kind) := rfl
theorem Query.g1 (x : Query) : x.cells[1]? = some (.str x.path) := rfl
theorem Query.g2 (x : Query) : x.cells[2]? = some (.int .i64 x.node) := rfl
theorem Query.r0 (x : Query) : getR x.cells 0 3 = x.cells := rfl
theorem Query.eqv (h : H) (x y : Query) : eqV h (.fcons 0 1 false .int (.fcons 1 1 false .str (.fcons 2 1 false .int .fnil))) (.agg x.cells) (.agg y.cells) = some (decide (x = y)) := (fcons_step rfl rfl (int_step _ _ _ _) (fcons_step rfl rfl (str_step _ _ _) (fcons_step rfl rfl (int_step _ _ _ _) (fnil_step _ _ _)))).trans (congrArg some (decide_eq_decide.2 ⟨fun e => by cases x; cases y; simpa [and_assoc] using e,fun e => by subst e; simp⟩))
structure Addr where
 group : Int
 replica : Int
 deriving DecidableEq
def Addr.cells (x : Addr) : List V := [.int .i64 x.group,.int .i64 x.replica]
theorem Addr.len (x : Addr) : x.cells.length = 2 := rfl
theorem Addr.g0 (x : Addr) : x.cells[0]? = some (.int .i64 x.group) := rfl
theorem Addr.g1 (x : Addr) : x.cells[1]? = some (.int .i64 x.replica) := rfl
theorem Addr.r0 (x : Addr) : getR x.cells 0 2 = x.cells := rfl
theorem Addr.eqv (h : H) (x y : Addr) : eqV h (.fcons 0 1 false .int (.fcons 1 1 false .int .fnil)) (.agg x.cells) (.agg y.cells) = some (decide (x = y)) := (fcons_step rfl rfl (int_step _ _ _ _) (fcons_step rfl rfl (int_step _ _ _ _) (fnil_step _ _ _))).trans (congrArg some (decide_eq_decide.2 ⟨fun e => by cases x; cases y; simpa [and_assoc] using e,fun e => by subst e; simp⟩))
structure Entry where
 kind : Int
 session : Int
 request : Int
 op : Opr
 origin : Int
 seq : Int
 ops : V
 epoch : Epoch
 frm : Int
 vector : Vec
 clock : Int
 part : Part
 site : Int
 sponsor : Int
 length : Int
def Entry.cells (x : Entry) : List V := [.int .i64 x.kind,.int .i64 x.session,.int .i64 x.request,.int .i64 x.op.time,.int .i64 x.op.site,.int .i64 x.op.kind,.int .i64 x.op.node,.int .i64 x.op.parent,.str x.op.name,.str x.op.key,.str x.op.value,.int .i64 x.origin,.int .i64 x.seq,x.ops,.int .i64 x.epoch.number,.int .i64 x.epoch.states.v0,.int .i64 x.epoch.states.v1,.int .i64 x.epoch.states.v2,.int .i64 x.epoch.states.v3,.int .i64 x.epoch.states.v4,.int .i64 x.epoch.states.v5,.int .i64 x.epoch.states.v6,.int .i64 x.epoch.states.v7,.int .i64 x.epoch.seals.v0,.int .i64 x.epoch.seals.v1,.int .i64 x.epoch.seals.v2,.int .i64 x.epoch.seals.v3,.int .i64 x.epoch.seals.v4,.int .i64 x.epoch.seals.v5,.int .i64 x.epoch.seals.v6,.int .i64 x.epoch.seals.v7,.int .i64 x.epoch.sponsor.v0,.int .i64 x.epoch.sponsor.v1,.int .i64 x.epoch.sponsor.v2,.int .i64 x.epoch.sponsor.v3,.int .i64 x.epoch.sponsor.v4,.int .i64 x.epoch.sponsor.v5,.int .i64 x.epoch.sponsor.v6,.int .i64 x.epoch.sponsor.v7,.int .i64 x.frm,.int .i64 x.vector.v0,.int .i64 x.vector.v1,.int .i64 x.vector.v2,.int .i64 x.vector.v3,.int .i64 x.vector.v4,.int .i64 x.vector.v5,.int .i64 x.vector.v6,.int .i64 x.vector.v7,.int .i64 x.clock,.int .i64 x.part.snap,.int .i64 x.part.index,.int .i64 x.part.many,x.part.data,.int .i64 x.site,.int .i64 x.sponsor,.int .i64 x.length]
theorem Entry.len (x : Entry) : x.cells.length = 56 := rfl
theorem Entry.g0 (x : Entry) : x.cells[0]? = some (.int .i64 x.kind) := rfl
theorem Entry.g1 (x : Entry) : x.cells[1]? = some (.int .i64 x.session) := rfl
theorem Entry.g2 (x : Entry) : x.cells[2]? = some (.int .i64 x.request) := rfl
theorem Entry.r3_8 (x : Entry) : getR x.cells 3 8 = x.op.cells := rfl
theorem Entry.g3 (x : Entry) : x.cells[3]? = some (.int .i64 x.op.time) := rfl
theorem Entry.g4 (x : Entry) : x.cells[4]? = some (.int .i64 x.op.site) := rfl
theorem Entry.g5 (x : Entry) : x.cells[5]? = some (.int .i64 x.op.kind) := rfl
theorem Entry.g6 (x : Entry) : x.cells[6]? = some (.int .i64 x.op.node) := rfl
theorem Entry.g7 (x : Entry) : x.cells[7]? = some (.int .i64 x.op.parent) := rfl
theorem Entry.g8 (x : Entry) : x.cells[8]? = some (.str x.op.name) := rfl
theorem Entry.g9 (x : Entry) : x.cells[9]? = some (.str x.op.key) := rfl
theorem Entry.g10 (x : Entry) : x.cells[10]? = some (.str x.op.value) := rfl
theorem Entry.g11 (x : Entry) : x.cells[11]? = some (.int .i64 x.origin) := rfl
theorem Entry.g12 (x : Entry) : x.cells[12]? = some (.int .i64 x.seq) := rfl
theorem Entry.g13 (x : Entry) : x.cells[13]? = some (x.ops) := rfl
theorem Entry.g19 (x : Entry) : x.cells[19]? = some (.int .i64 x.epoch.states.v4) := rfl
theorem Entry.g20 (x : Entry) : x.cells[20]? = some (.int .i64 x.epoch.states.v5) := rfl
theorem Entry.g22 (x : Entry) : x.cells[22]? = some (.int .i64 x.epoch.states.v7) := rfl
theorem Entry.r23_8 (x : Entry) : getR x.cells 23 8 = x.epoch.seals.cells := rfl
theorem Entry.g34 (x : Entry) : x.cells[34]? = some (.int .i64 x.epoch.sponsor.v3) := rfl
theorem Entry.g35 (x : Entry) : x.cells[35]? = some (.int .i64 x.epoch.sponsor.v4) := rfl
theorem Entry.g39 (x : Entry) : x.cells[39]? = some (.int .i64 x.frm) := rfl
theorem Entry.g48 (x : Entry) : x.cells[48]? = some (.int .i64 x.clock) := rfl
theorem Entry.r49_4 (x : Entry) : getR x.cells 49 4 = x.part.cells := rfl
theorem Entry.g53 (x : Entry) : x.cells[53]? = some (.int .i64 x.site) := rfl
theorem Entry.g54 (x : Entry) : x.cells[54]? = some (.int .i64 x.sponsor) := rfl
theorem Entry.g55 (x : Entry) : x.cells[55]? = some (.int .i64 x.length) := rfl
theorem Entry.r0 (x : Entry) : getR x.cells 0 56 = x.cells := rfl
structure WStep where
 kind : Int
 at_ : Addr
 client : Int
 op : Opr
 query : Query
 entry : Entry
 number : Int
 place : Int
 wth : Int
 count : Int
 keep : Int
def WStep.cells (x : WStep) : List V := [.int .i64 x.kind,.int .i64 x.at_.group,.int .i64 x.at_.replica,.int .i64 x.client,.int .i64 x.op.time,.int .i64 x.op.site,.int .i64 x.op.kind,.int .i64 x.op.node,.int .i64 x.op.parent,.str x.op.name,.str x.op.key,.str x.op.value,.int .i64 x.query.kind,.str x.query.path,.int .i64 x.query.node,.int .i64 x.entry.kind,.int .i64 x.entry.session,.int .i64 x.entry.request,.int .i64 x.entry.op.time,.int .i64 x.entry.op.site,.int .i64 x.entry.op.kind,.int .i64 x.entry.op.node,.int .i64 x.entry.op.parent,.str x.entry.op.name,.str x.entry.op.key,.str x.entry.op.value,.int .i64 x.entry.origin,.int .i64 x.entry.seq,x.entry.ops,.int .i64 x.entry.epoch.number,.int .i64 x.entry.epoch.states.v0,.int .i64 x.entry.epoch.states.v1,.int .i64 x.entry.epoch.states.v2,.int .i64 x.entry.epoch.states.v3,.int .i64 x.entry.epoch.states.v4,.int .i64 x.entry.epoch.states.v5,.int .i64 x.entry.epoch.states.v6,.int .i64 x.entry.epoch.states.v7,.int .i64 x.entry.epoch.seals.v0,.int .i64 x.entry.epoch.seals.v1,.int .i64 x.entry.epoch.seals.v2,.int .i64 x.entry.epoch.seals.v3,.int .i64 x.entry.epoch.seals.v4,.int .i64 x.entry.epoch.seals.v5,.int .i64 x.entry.epoch.seals.v6,.int .i64 x.entry.epoch.seals.v7,.int .i64 x.entry.epoch.sponsor.v0,.int .i64 x.entry.epoch.sponsor.v1,.int .i64 x.entry.epoch.sponsor.v2,.int .i64 x.entry.epoch.sponsor.v3,.int .i64 x.entry.epoch.sponsor.v4,.int .i64 x.entry.epoch.sponsor.v5,.int .i64 x.entry.epoch.sponsor.v6,.int .i64 x.entry.epoch.sponsor.v7,.int .i64 x.entry.frm,.int .i64 x.entry.vector.v0,.int .i64 x.entry.vector.v1,.int .i64 x.entry.vector.v2,.int .i64 x.entry.vector.v3,.int .i64 x.entry.vector.v4,.int .i64 x.entry.vector.v5,.int .i64 x.entry.vector.v6,.int .i64 x.entry.vector.v7,.int .i64 x.entry.clock,.int .i64 x.entry.part.snap,.int .i64 x.entry.part.index,.int .i64 x.entry.part.many,x.entry.part.data,.int .i64 x.entry.site,.int .i64 x.entry.sponsor,.int .i64 x.entry.length,.int .i64 x.number,.int .i64 x.place,.int .u8 x.wth,.int .i64 x.count,.int .i64 x.keep]
theorem WStep.len (x : WStep) : x.cells.length = 76 := rfl
theorem WStep.g0 (x : WStep) : x.cells[0]? = some (.int .i64 x.kind) := rfl
theorem WStep.g1 (x : WStep) : x.cells[1]? = some (.int .i64 x.at_.group) := rfl
theorem WStep.g2 (x : WStep) : x.cells[2]? = some (.int .i64 x.at_.replica) := rfl
theorem WStep.g3 (x : WStep) : x.cells[3]? = some (.int .i64 x.client) := rfl
theorem WStep.g4 (x : WStep) : x.cells[4]? = some (.int .i64 x.op.time) := rfl
theorem WStep.g5 (x : WStep) : x.cells[5]? = some (.int .i64 x.op.site) := rfl
theorem WStep.g6 (x : WStep) : x.cells[6]? = some (.int .i64 x.op.kind) := rfl
theorem WStep.g7 (x : WStep) : x.cells[7]? = some (.int .i64 x.op.node) := rfl
theorem WStep.g8 (x : WStep) : x.cells[8]? = some (.int .i64 x.op.parent) := rfl
theorem WStep.g9 (x : WStep) : x.cells[9]? = some (.str x.op.name) := rfl
theorem WStep.g10 (x : WStep) : x.cells[10]? = some (.str x.op.key) := rfl
theorem WStep.g11 (x : WStep) : x.cells[11]? = some (.str x.op.value) := rfl
theorem WStep.g12 (x : WStep) : x.cells[12]? = some (.int .i64 x.query.kind) := rfl
theorem WStep.g13 (x : WStep) : x.cells[13]? = some (.str x.query.path) := rfl
theorem WStep.g19 (x : WStep) : x.cells[19]? = some (.int .i64 x.entry.op.site) := rfl
theorem WStep.g20 (x : WStep) : x.cells[20]? = some (.int .i64 x.entry.op.kind) := rfl
theorem WStep.g22 (x : WStep) : x.cells[22]? = some (.int .i64 x.entry.op.parent) := rfl
theorem WStep.g34 (x : WStep) : x.cells[34]? = some (.int .i64 x.entry.epoch.states.v4) := rfl
theorem WStep.g35 (x : WStep) : x.cells[35]? = some (.int .i64 x.entry.epoch.states.v5) := rfl
theorem WStep.g39 (x : WStep) : x.cells[39]? = some (.int .i64 x.entry.epoch.seals.v1) := rfl
theorem WStep.g48 (x : WStep) : x.cells[48]? = some (.int .i64 x.entry.epoch.sponsor.v2) := rfl
theorem WStep.g53 (x : WStep) : x.cells[53]? = some (.int .i64 x.entry.epoch.sponsor.v7) := rfl
theorem WStep.g54 (x : WStep) : x.cells[54]? = some (.int .i64 x.entry.frm) := rfl
theorem WStep.r55_8 (x : WStep) : getR x.cells 55 8 = x.entry.vector.cells := rfl
theorem WStep.g55 (x : WStep) : x.cells[55]? = some (.int .i64 x.entry.vector.v0) := rfl
theorem WStep.r0 (x : WStep) : getR x.cells 0 76 = x.cells := rfl
structure WConfig where
 n : Int
 room : Int
 clients : Int
 members : V
def WConfig.cells (x : WConfig) : List V := [.int .i64 x.n,.int .i64 x.room,.int .i64 x.clients,x.members]
theorem WConfig.len (x : WConfig) : x.cells.length = 4 := rfl
theorem WConfig.g0 (x : WConfig) : x.cells[0]? = some (.int .i64 x.n) := rfl
theorem WConfig.g1 (x : WConfig) : x.cells[1]? = some (.int .i64 x.room) := rfl
theorem WConfig.g2 (x : WConfig) : x.cells[2]? = some (.int .i64 x.clients) := rfl
theorem WConfig.g3 (x : WConfig) : x.cells[3]? = some (x.members) := rfl
theorem WConfig.r0 (x : WConfig) : getR x.cells 0 4 = x.cells := rfl
structure Flat where
 kind : Int
 session : Int
 request : Int
 op : Opr
 origin : Int
 seq : Int
 epoch : Epoch
 frm : Int
 vector : Vec
 clock : Int
 snap : Int
 index : Int
 many : Int
 site : Int
 sponsor : Int
 length : Int
 deriving DecidableEq
def Flat.cells (x : Flat) : List V := [.int .i64 x.kind,.int .i64 x.session,.int .i64 x.request,.int .i64 x.op.time,.int .i64 x.op.site,.int .i64 x.op.kind,.int .i64 x.op.node,.int .i64 x.op.parent,.str x.op.name,.str x.op.key,.str x.op.value,.int .i64 x.origin,.int .i64 x.seq,.int .i64 x.epoch.number,.int .i64 x.epoch.states.v0,.int .i64 x.epoch.states.v1,.int .i64 x.epoch.states.v2,.int .i64 x.epoch.states.v3,.int .i64 x.epoch.states.v4,.int .i64 x.epoch.states.v5,.int .i64 x.epoch.states.v6,.int .i64 x.epoch.states.v7,.int .i64 x.epoch.seals.v0,.int .i64 x.epoch.seals.v1,.int .i64 x.epoch.seals.v2,.int .i64 x.epoch.seals.v3,.int .i64 x.epoch.seals.v4,.int .i64 x.epoch.seals.v5,.int .i64 x.epoch.seals.v6,.int .i64 x.epoch.seals.v7,.int .i64 x.epoch.sponsor.v0,.int .i64 x.epoch.sponsor.v1,.int .i64 x.epoch.sponsor.v2,.int .i64 x.epoch.sponsor.v3,.int .i64 x.epoch.sponsor.v4,.int .i64 x.epoch.sponsor.v5,.int .i64 x.epoch.sponsor.v6,.int .i64 x.epoch.sponsor.v7,.int .i64 x.frm,.int .i64 x.vector.v0,.int .i64 x.vector.v1,.int .i64 x.vector.v2,.int .i64 x.vector.v3,.int .i64 x.vector.v4,.int .i64 x.vector.v5,.int .i64 x.vector.v6,.int .i64 x.vector.v7,.int .i64 x.clock,.int .i64 x.snap,.int .i64 x.index,.int .i64 x.many,.int .i64 x.site,.int .i64 x.sponsor,.int .i64 x.length]
theorem Flat.len (x : Flat) : x.cells.length = 54 := rfl
theorem Flat.g0 (x : Flat) : x.cells[0]? = some (.int .i64 x.kind) := rfl
theorem Flat.g1 (x : Flat) : x.cells[1]? = some (.int .i64 x.session) := rfl
theorem Flat.g2 (x : Flat) : x.cells[2]? = some (.int .i64 x.request) := rfl
theorem Flat.r3_8 (x : Flat) : getR x.cells 3 8 = x.op.cells := rfl
theorem Flat.g3 (x : Flat) : x.cells[3]? = some (.int .i64 x.op.time) := rfl
theorem Flat.g4 (x : Flat) : x.cells[4]? = some (.int .i64 x.op.site) := rfl
theorem Flat.g5 (x : Flat) : x.cells[5]? = some (.int .i64 x.op.kind) := rfl
theorem Flat.g6 (x : Flat) : x.cells[6]? = some (.int .i64 x.op.node) := rfl
theorem Flat.g7 (x : Flat) : x.cells[7]? = some (.int .i64 x.op.parent) := rfl
theorem Flat.g8 (x : Flat) : x.cells[8]? = some (.str x.op.name) := rfl
theorem Flat.g9 (x : Flat) : x.cells[9]? = some (.str x.op.key) := rfl
theorem Flat.g10 (x : Flat) : x.cells[10]? = some (.str x.op.value) := rfl
theorem Flat.g11 (x : Flat) : x.cells[11]? = some (.int .i64 x.origin) := rfl
theorem Flat.g12 (x : Flat) : x.cells[12]? = some (.int .i64 x.seq) := rfl
theorem Flat.g13 (x : Flat) : x.cells[13]? = some (.int .i64 x.epoch.number) := rfl
theorem Flat.g19 (x : Flat) : x.cells[19]? = some (.int .i64 x.epoch.states.v5) := rfl
theorem Flat.g20 (x : Flat) : x.cells[20]? = some (.int .i64 x.epoch.states.v6) := rfl
theorem Flat.g22 (x : Flat) : x.cells[22]? = some (.int .i64 x.epoch.seals.v0) := rfl
theorem Flat.g34 (x : Flat) : x.cells[34]? = some (.int .i64 x.epoch.sponsor.v4) := rfl
theorem Flat.g35 (x : Flat) : x.cells[35]? = some (.int .i64 x.epoch.sponsor.v5) := rfl
theorem Flat.g39 (x : Flat) : x.cells[39]? = some (.int .i64 x.vector.v0) := rfl
theorem Flat.g48 (x : Flat) : x.cells[48]? = some (.int .i64 x.snap) := rfl
theorem Flat.g53 (x : Flat) : x.cells[53]? = some (.int .i64 x.length) := rfl
theorem Flat.r0 (x : Flat) : getR x.cells 0 54 = x.cells := rfl
theorem Flat.eqv (h : H) (x y : Flat) : eqV h (.fcons 0 1 false .int (.fcons 1 1 false .int (.fcons 2 1 false .int (.fcons 3 8 true (.fcons 0 2 true (.fcons 0 1 false .int (.fcons 1 1 false .int .fnil)) (.fcons 2 1 false .int (.fcons 3 1 false .int (.fcons 4 1 false .int (.fcons 5 1 false .str (.fcons 6 1 false .str (.fcons 7 1 false .str .fnil))))))) (.fcons 11 1 false .int (.fcons 12 1 false .int (.fcons 13 25 true (.fcons 0 1 false .int (.fcons 1 8 true (.ar 8 1 false .int) (.fcons 9 8 true (.ar 8 1 false .int) (.fcons 17 8 true (.ar 8 1 false .int) .fnil)))) (.fcons 38 1 false .int (.fcons 39 8 true (.ar 8 1 false .int) (.fcons 47 1 false .int (.fcons 48 1 false .int (.fcons 49 1 false .int (.fcons 50 1 false .int (.fcons 51 1 false .int (.fcons 52 1 false .int (.fcons 53 1 false .int .fnil)))))))))))))))) (.agg x.cells) (.agg y.cells) = some (decide (x = y)) := (fcons_step rfl rfl (int_step _ _ _ _) (fcons_step rfl rfl (int_step _ _ _ _) (fcons_step rfl rfl (int_step _ _ _ _) (fcons_step rfl rfl (Opr.eqv h _ _) (fcons_step rfl rfl (int_step _ _ _ _) (fcons_step rfl rfl (int_step _ _ _ _) (fcons_step rfl rfl (Epoch.eqv h _ _) (fcons_step rfl rfl (int_step _ _ _ _) (fcons_step rfl rfl (Vec.eqv h _ _) (fcons_step rfl rfl (int_step _ _ _ _) (fcons_step rfl rfl (int_step _ _ _ _) (fcons_step rfl rfl (int_step _ _ _ _) (fcons_step rfl rfl (int_step _ _ _ _) (fcons_step rfl rfl (int_step _ _ _ _) (fcons_step rfl rfl (int_step _ _ _ _) (fcons_step rfl rfl (int_step _ _ _ _) (fnil_step _ _ _))))))))))))))))).trans (congrArg some (decide_eq_decide.2 ⟨fun e => by cases x; cases y; simpa [and_assoc] using e,fun e => by subst e; simp⟩))
end Go.AM.Sc
