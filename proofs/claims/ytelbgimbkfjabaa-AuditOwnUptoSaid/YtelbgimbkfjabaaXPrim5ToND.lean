/- My own texts, laid for this claim. -/
import Derived.Test.YtelbgimbkfjabaaNC
set_option linter.unusedSimpArgs false
set_option linter.unusedVariables false
namespace Go.AM
open Go.RowKit
variable {P : Program}
theorem nc_run (hmix : P.follows .mixedOrders = true) {prim : Nat → Option (List V → H → Option (V × H))} (hp : PrimOK P prim) {n k g : Nat} {fn : Func} {f : Fn} (hg : P.funcs[g]? = some fn) (hc : cFn P fn = some f) {args0 : List V} {h0 : H} {q : V → Bool}
  (run : ncFnB P (ap P (envOf P prim) n) k f args0 h0 q = true) (hno : ∀ i o,h0.get i = some o → o.mut = false) {m0 : Mp} {w : World} {xs : List Value} (hr : HR P m0 h0 w) (hx : VRL m0 args0 xs) (j : Nat) :
  CallsIn (FF none) j P g xs.toArray w fun e w' => ∃ m' v x,q v = true ∧ e = .returned x ∧ VR m' v x ∧ Below w.heap.size w w' := by
 refine CallsIn.mono (ncFn_sound hmix (ap_sound hmix hp n) hg hc (ncFnB_ok run) hr hx j) fun e w' ⟨v,h',hq,m',x,h1,h2,h3,h4⟩ => ⟨m',v,x,hq,h1,h2,h4.os,h4.tape,h4.output,h4.wsize,fun k hk => h4.frame k hk ?_⟩
 rintro ⟨i,o,sh,e,hg,hm,_⟩
 rw [hno i o hg] at hm; cases hm
def mapA (P : Program) (x : Option (Nat × Nat × Nat)) : Mp := fun i => if i < P.globals.size then some (i,0,0) else if i = P.globals.size then x else none
theorem HR.arg {m : Mp} {h h0 : H} {w : World} (hr : HR P m h w) (hk : h0.ok) (hs : h0.size = P.globals.size + 1) {b : Nat} {vs : List V} {ty : Nat} {opn ro : Bool} {fz : Option Nat} (hb : h.get b = some (.cells vs ty opn ro fz))
  (hh : ∀ i o,h0.get i = some o → i = P.globals.size ∧ o = .cells vs ty opn true none) (hflat : ∀ m m' ys,VRL m vs ys → VRL m' vs ys) : HR P (mapA P (m b)) h0 w where
 ok := hk
 dom := fun i x hx => by
  unfold mapA at hx
  split at hx
  ·omega
  ·split at hx
   ·omega
   ·cases hx
 glob := fun g hg => by simp [mapA,hg]
 blk := fun i r sh e hm => by
  unfold mapA at hm
  split at hm
  ·rename_i hi
   cases hm
   exact hr.blk _ _ _ _ (hr.glob i hi)
  ·split at hm
   ·exact hr.blk _ _ _ _ hm
   ·cases hm
 obj := fun i o hg hl => by
  obtain ⟨rfl,rfl⟩ := hh i o hg
  obtain ⟨r,sh,e,ob,q1,q2,c,fzr,rfl,q4,q5,_⟩ := hr.obj b _ hb rfl
  refine ⟨r,sh,e,_,?_,q2,c,fzr,rfl,hflat _ _ _ q4,q5,fun h => (by cases h)⟩
  simp [mapA,q1]
 inj := fun i j o o' r sh e sh' e' h1 h2 _ _ _ _ => by
  rw [(hh i o h1).1,(hh j o' h2).1]
end Go.AM
namespace Go.AM
abbrev StmtOf {p : Prop} (_ : p) : Prop := p
theorem GO : StmtOf ((And.intro @XDP_nil (And.intro @XDP_cons (And.intro @XSP_pur (And.intro @XSP_rd (And.intro @XAP_eff (And.intro @XAP_call (And.intro @XDJ_nil (And.intro @XDJ_cons (And.intro @XSJ_pur (And.intro @XSJ_rd (And.intro @XAJ_eff (And.intro @XAJ_call (And.intro @ptrLt_mk (And.intro @rdLo_load1 (And.intro @rdLo_loadN (And.intro @XDK_nil (And.intro @XDK_cons (And.intro @XSK_pur (And.intro @XSK_rd (And.intro @XAK_eff (And.intro @XAK_call (And.intro @XDQ_nil (And.intro @XDQ_cons (And.intro @XSQ_pur (And.intro @XSQ_rd (And.intro @XAQ_eff (And.intro @XAQ_call (And.intro @XDO_nil (And.intro @XDO_cons (And.intro @XRD_pur (And.intro @XRD_rd (And.intro @XRD_eff (And.intro @XRD_call (And.intro @still_mv (And.intro @still_pick (And.intro @still_alloc (And.intro @still_box (And.intro @still_build (And.intro @still_bslice (And.intro @still_load1 (And.intro @still_loadN (And.intro @still_store (And.intro @still_nilck (And.intro @still_bin (And.intro @still_un (And.intro @still_cvt (And.intro @still_s2b (And.intro @still_b2s (And.intro @still_mkI (And.intro @still_mkF (And.intro @still_mkMap (And.intro @still_mkSlice (And.intro @still_slS (And.intro @still_slL (And.intro @still_fadr (And.intro @still_iadrL (And.intro @still_iadrA (And.intro @still_fld (And.intro @still_idxA (And.intro @still_idxS (And.intro @still_lookup (And.intro @still_mapUpd (And.intro @still_mapDel (And.intro @still_rng (And.intro @still_next (And.intro @still_entry (And.intro @still_extract (And.intro @still_lenS (And.intro @still_lenL (And.intro @still_lenM (And.intro @still_app (And.intro @still_copy (And.intro @still_minmax (And.intro @still_call (And.intro @still_bad (And.intro @still_slA (And.intro @still_capL (And.intro @still_appZ (And.intro @still_i2s (And.intro @still_sid (And.intro @still_same (And.intro @still_p2u (And.intro @still_u2p (And.intro @still_usd (And.intro @still_ustr (And.intro @still_mkNZ (And.intro @still_tass (And.intro @still_inv (And.intro @X_nil (And.intro @X_skip (And.intro @X_region (And.intro @X_seq (And.intro @X_block (And.intro @X_loop (And.intro @X_l (And.intro @X_b (And.intro @X_exit (And.intro @X_ret (And.intro @XQ_nil (And.intro @XQ_c (And.intro @XQ_l (And.intro @XQ_b (And.intro @X_cond (And.intro @XT_bool (And.intro @XO_nil (And.intro @XO_cons (And.intro @XR_pur (And.intro @XR_rd (And.intro @XR_eff (And.intro @XR_call (And.intro @upo_some (And.intro @upo_none (And.intro @wantV_none (And.intro @wantV_some (And.intro @isB_bool (And.intro @ev_t (And.intro @ev_k (And.intro @evs_cons (And.intro @evs_nil (And.intro @evo_none (And.intro @evo_some (And.intro @up_app (And.intro @argF_zero (And.intro @argF_succ (And.intro @push_eq (And.intro @Fin_nrm (And.intro @Fin_ret (And.intro @resVs_nil (And.intro @resVs_t (And.intro @oneOr_one @oneOr_two))))))))))))))))))))))))))))))))))))))))))))))))))))))))))))))))))))))))))))))))))))))))))))))))))))))))))))))))))))))))))))))))))) := (And.intro @XDP_nil (And.intro @XDP_cons (And.intro @XSP_pur (And.intro @XSP_rd (And.intro @XAP_eff (And.intro @XAP_call (And.intro @XDJ_nil (And.intro @XDJ_cons (And.intro @XSJ_pur (And.intro @XSJ_rd (And.intro @XAJ_eff (And.intro @XAJ_call (And.intro @ptrLt_mk (And.intro @rdLo_load1 (And.intro @rdLo_loadN (And.intro @XDK_nil (And.intro @XDK_cons (And.intro @XSK_pur (And.intro @XSK_rd (And.intro @XAK_eff (And.intro @XAK_call (And.intro @XDQ_nil (And.intro @XDQ_cons (And.intro @XSQ_pur (And.intro @XSQ_rd (And.intro @XAQ_eff (And.intro @XAQ_call (And.intro @XDO_nil (And.intro @XDO_cons (And.intro @XRD_pur (And.intro @XRD_rd (And.intro @XRD_eff (And.intro @XRD_call (And.intro @still_mv (And.intro @still_pick (And.intro @still_alloc (And.intro @still_box (And.intro @still_build (And.intro @still_bslice (And.intro @still_load1 (And.intro @still_loadN (And.intro @still_store (And.intro @still_nilck (And.intro @still_bin (And.intro @still_un (And.intro @still_cvt (And.intro @still_s2b (And.intro @still_b2s (And.intro @still_mkI (And.intro @still_mkF (And.intro @still_mkMap (And.intro @still_mkSlice (And.intro @still_slS (And.intro @still_slL (And.intro @still_fadr (And.intro @still_iadrL (And.intro @still_iadrA (And.intro @still_fld (And.intro @still_idxA (And.intro @still_idxS (And.intro @still_lookup (And.intro @still_mapUpd (And.intro @still_mapDel (And.intro @still_rng (And.intro @still_next (And.intro @still_entry (And.intro @still_extract (And.intro @still_lenS (And.intro @still_lenL (And.intro @still_lenM (And.intro @still_app (And.intro @still_copy (And.intro @still_minmax (And.intro @still_call (And.intro @still_bad (And.intro @still_slA (And.intro @still_capL (And.intro @still_appZ (And.intro @still_i2s (And.intro @still_sid (And.intro @still_same (And.intro @still_p2u (And.intro @still_u2p (And.intro @still_usd (And.intro @still_ustr (And.intro @still_mkNZ (And.intro @still_tass (And.intro @still_inv (And.intro @X_nil (And.intro @X_skip (And.intro @X_region (And.intro @X_seq (And.intro @X_block (And.intro @X_loop (And.intro @X_l (And.intro @X_b (And.intro @X_exit (And.intro @X_ret (And.intro @XQ_nil (And.intro @XQ_c (And.intro @XQ_l (And.intro @XQ_b (And.intro @X_cond (And.intro @XT_bool (And.intro @XO_nil (And.intro @XO_cons (And.intro @XR_pur (And.intro @XR_rd (And.intro @XR_eff (And.intro @XR_call (And.intro @upo_some (And.intro @upo_none (And.intro @wantV_none (And.intro @wantV_some (And.intro @isB_bool (And.intro @ev_t (And.intro @ev_k (And.intro @evs_cons (And.intro @evs_nil (And.intro @evo_none (And.intro @evo_some (And.intro @up_app (And.intro @argF_zero (And.intro @argF_succ (And.intro @push_eq (And.intro @Fin_nrm (And.intro @Fin_ret (And.intro @resVs_nil (And.intro @resVs_t (And.intro @oneOr_one @oneOr_two))))))))))))))))))))))))))))))))))))))))))))))))))))))))))))))))))))))))))))))))))))))))))))))))))))))))))))))))))))))))))))))))))
theorem GO2 : StmtOf ((And.intro @Option.map_some.{0,0} (And.intro @if_true.{1} (And.intro @if_false.{1} (And.intro @ite_true.{1} (And.intro @ite_false.{1} (And.intro @Bool.false_eq_true (And.intro @beq_self_eq_true.{0} (And.intro @beq_true (And.intro @beq_false (And.intro @Bool.not_true (And.intro @Bool.not_false (And.intro @Bool.not_eq_true (And.intro @Bool.not_eq_false (And.intro @List.length_cons.{0} (And.intro @List.length_nil.{0} (And.intro @List.take_zero.{0} (And.intro @List.nil_append.{0} (And.intro @List.append_nil.{0} (And.intro @List.drop_succ_cons.{0} (And.intro @List.drop_zero.{0} (And.intro @List.drop_nil.{0} (And.intro @List.cons_append.{0} (And.intro @List.take_succ_cons.{0} (And.intro @List.take_nil.{0} (And.intro @and_self (And.intro @and_true (And.intro @true_and (And.intro @Nat.le_refl (And.intro @decide_true (And.intro @decide_false (And.intro @decide_eq_true_eq (And.intro @List.getElem?_cons_zero.{0} (And.intro @List.getElem?_cons_succ.{0} (And.intro @List.replicate_succ.{0} (And.intro @List.replicate_zero.{0} (And.intro @List.flatten_cons.{0} (And.intro @List.flatten_nil.{0} (And.intro @Nat.zero_add @Nat.add_zero))))))))))))))))))))))))))))))))))))))) := (And.intro @Option.map_some.{0,0} (And.intro @if_true.{1} (And.intro @if_false.{1} (And.intro @ite_true.{1} (And.intro @ite_false.{1} (And.intro @Bool.false_eq_true (And.intro @beq_self_eq_true.{0} (And.intro @beq_true (And.intro @beq_false (And.intro @Bool.not_true (And.intro @Bool.not_false (And.intro @Bool.not_eq_true (And.intro @Bool.not_eq_false (And.intro @List.length_cons.{0} (And.intro @List.length_nil.{0} (And.intro @List.take_zero.{0} (And.intro @List.nil_append.{0} (And.intro @List.append_nil.{0} (And.intro @List.drop_succ_cons.{0} (And.intro @List.drop_zero.{0} (And.intro @List.drop_nil.{0} (And.intro @List.cons_append.{0} (And.intro @List.take_succ_cons.{0} (And.intro @List.take_nil.{0} (And.intro @and_self (And.intro @and_true (And.intro @true_and (And.intro @Nat.le_refl (And.intro @decide_true (And.intro @decide_false (And.intro @decide_eq_true_eq (And.intro @List.getElem?_cons_zero.{0} (And.intro @List.getElem?_cons_succ.{0} (And.intro @List.replicate_succ.{0} (And.intro @List.replicate_zero.{0} (And.intro @List.flatten_cons.{0} (And.intro @List.flatten_nil.{0} (And.intro @Nat.zero_add @Nat.add_zero))))))))))))))))))))))))))))))))))))))
theorem GO3 : StmtOf ((And.intro @fillV.eq_1 (And.intro @fillV.eq_2 (And.intro @setR.eq_1 (And.intro @getR.eq_1 (And.intro @lenV.eq_1 (And.intro @lenV.eq_2 (And.intro @lenV.eq_3 (And.intro @partV.eq_1 (And.intro @V.nj.eq_1 (And.intro @V.nj.eq_2 (And.intro @V.nj.eq_3 (And.intro @V.nj.eq_4 (And.intro @V.nj.eq_5 (And.intro @V.nj.eq_6 (And.intro @V.njL.eq_1 (And.intro @V.njL.eq_2 (And.intro @V.cells.eq_1 @V.cells.eq_2)))))))))))))))))) := (And.intro @fillV.eq_1 (And.intro @fillV.eq_2 (And.intro @setR.eq_1 (And.intro @getR.eq_1 (And.intro @lenV.eq_1 (And.intro @lenV.eq_2 (And.intro @lenV.eq_3 (And.intro @partV.eq_1 (And.intro @V.nj.eq_1 (And.intro @V.nj.eq_2 (And.intro @V.nj.eq_3 (And.intro @V.nj.eq_4 (And.intro @V.nj.eq_5 (And.intro @V.nj.eq_6 (And.intro @V.njL.eq_1 (And.intro @V.njL.eq_2 (And.intro @V.cells.eq_1 @V.cells.eq_2)))))))))))))))))
theorem GR : StmtOf (And.intro @GO (And.intro @GO2 @GO3)) := And.intro @GO (And.intro @GO2 @GO3)
end Go.AM
namespace Go.AM.Sc
abbrev om (d s p : Nat) : O := ⟨some d,.mv (.t s),none,p,[d,s]⟩
abbrev og (d s g p : Nat) : O := ⟨some d,.mv (.t s),some (g,true),p,[d,g,s]⟩
abbrev oa (d n s p : Nat) : O := ⟨some d,.fadr n (.t s),none,p,[d,s]⟩
abbrev oag (d n s g p : Nat) : O := ⟨some d,.fadr n (.t s),some (g,true),p,[d,g,s]⟩
abbrev oaf (d n s g p : Nat) : O := ⟨some d,.fadr n (.t s),some (g,false),p,[d,g,s]⟩
abbrev ol (d s p : Nat) : O := ⟨some d,.load1 (.t s),none,p,[d,s]⟩
abbrev olg (d s g p : Nat) : O := ⟨some d,.load1 (.t s),some (g,true),p,[d,g,s]⟩
abbrev olf (d s g p : Nat) : O := ⟨some d,.load1 (.t s),some (g,false),p,[d,g,s]⟩
abbrev oN (d n s p : Nat) : O := ⟨some d,.loadN n (.t s),none,p,[d,s]⟩
abbrev oNg (d n s g p : Nat) : O := ⟨some d,.loadN n (.t s),some (g,true),p,[d,g,s]⟩
abbrev ox (d s i p : Nat) : O := ⟨some d,.extract (.t s) i,none,p,[d,s]⟩
abbrev oe (d s g p : Nat) : O := ⟨some d,.pick (.t g) (.t s) (.k (.bool false)),none,p,[d,g,s]⟩
abbrev oi (d n a i p : Nat) : O := ⟨some d,.iadrL n (.t a) (.t i),none,p,[d,a,i]⟩
abbrev oig (d n a i g p : Nat) : O := ⟨some d,.iadrL n (.t a) (.t i),some (g,true),p,[d,g,a,i]⟩
abbrev oL (d s p : Nat) : O := ⟨some d,.lenL (.t s),none,p,[d,s]⟩
abbrev oq (d a b g p : Nat) : O := ⟨some d,.bin .eql (some .int) false (.t a) (.t b),some (g,true),p,[d,g,a,b]⟩
abbrev op1 (d s p : Nat) : O := ⟨some d,.bin .add (some .int) true (.t s) (.k (.int .i64 1)),none,p,[d,s]⟩
abbrev olt (d a b p : Nat) : O := ⟨some d,.bin .lss (some .int) false (.t a) (.t b),none,p,[d,a,b]⟩
abbrev ono (d s p : Nat) : O := ⟨some d,.un .not (.t s),none,p,[d,s]⟩
abbrev ong (d s g p : Nat) : O := ⟨some d,.un .not (.t s),some (g,true),p,[d,g,s]⟩
abbrev ost (n a s p : Nat) : O := ⟨none,.store n (.t a) (.t s),none,p,[a,s]⟩
abbrev iI (n : Int) : V := .int .i64 n
abbrev pP (b : Nat) : V := .ptr (some (b,0))
abbrev sN : V := .slice none 0 0 false
abbrev cC (h : H) (b : Nat) (vs : List V) (ty : Nat) : Prop := h.get b = some (.cells vs ty false false none)
abbrev zVw : List V := [(.int .i64 0),(.int .i64 0),(.bool false),(.bool false),(.bool false),(.int .i64 0),(.int .i64 0),(.slice none 0 0 false),(.int .i64 0),(.int .i64 0),(.int .i64 0),(.int .i64 0),(.int .i64 0),(.int .i64 0),(.int .i64 0),(.int .i64 0),(.int .i64 0),(.int .i64 0),(.int .i64 0),(.slice none 0 0 false),(.slice none 0 0 false)]
theorem fcons_step {h : H} {o n : Nat} {a : Bool} {e r : EqT} {xs ys : List V} {x y : V} {p q : Prop} [Decidable p] [Decidable q] (h1 : partV xs o n a = some x) (h2 : partV ys o n a = some y) (h3 : eqV h e x y = some (decide p)) (h4 : eqV h r (.agg xs) (.agg ys) = some (decide q)) :
  eqV h (.fcons o n a e r) (.agg xs) (.agg ys) = some (decide (p ∧ q)) := by
 simp only [eqV,h1,h2,h3]
 by_cases hp : p
 ·simp [hp,h4]
 ·simp [hp]
theorem fnil_step (h : H) (xs ys : List V) : eqV h .fnil (.agg xs) (.agg ys) = some (decide True) := by simp [eqV]
theorem allM_nil {f : Nat → Option Bool} {i : Nat} : allM f 0 i = some (decide True) := by simp [allM]
theorem allM_step {f : Nat → Option Bool} {n i : Nat} {p q : Prop} [Decidable p] [Decidable q] (h1 : f i = some (decide p)) (h2 : allM f n (i + 1) = some (decide q)) : allM f (n + 1) i = some (decide (p ∧ q)) := by
 simp only [allM,h1]
 by_cases hp : p
 ·simp [hp,h2]
 ·simp [hp]
theorem eqV_ar_eq (h : H) (len size : Nat) (g : Bool) (e : EqT) (xs ys : List V) : eqV h (.ar len size g e) (.agg xs) (.agg ys) = allM (fun i => match partV xs (i * size) size g,partV ys (i * size) size g with
   | some x,some y => eqV h e x y
   | _,_ => none) len 0 := by simp only [eqV]; rfl
theorem int_step (h : H) (k : IntKind) (a b : Int) : eqV h .int (.int k a) (.int k b) = some (decide (a = b)) := by
 simp only [eqV,if_true]
 congr 1
theorem str_step (h : H) (a b : List UInt8) : eqV h .str (.str a) (.str b) = some (decide (a = b)) := by
 simp only [eqV]
 congr 1
 rw [Bool.eq_iff_iff]; simp
structure Stamp where
 time : Int
 site : Int
 deriving DecidableEq
def Stamp.cells (x : Stamp) : List V := [.int .i64 x.time,.int .i64 x.site]
theorem Stamp.len (x : Stamp) : x.cells.length = 2 := rfl
theorem Stamp.g0 (x : Stamp) : x.cells[0]? = some (.int .i64 x.time) := rfl
theorem Stamp.g1 (x : Stamp) : x.cells[1]? = some (.int .i64 x.site) := rfl
theorem Stamp.r0 (x : Stamp) : getR x.cells 0 2 = x.cells := rfl
theorem Stamp.eqv (h : H) (x y : Stamp) : eqV h (.fcons 0 1 false .int (.fcons 1 1 false .int .fnil)) (.agg x.cells) (.agg y.cells) = some (decide (x = y)) := (fcons_step rfl rfl (int_step _ _ _ _) (fcons_step rfl rfl (int_step _ _ _ _) (fnil_step _ _ _))).trans (congrArg some (decide_eq_decide.2 ⟨fun e => by cases x; cases y; simpa [and_assoc] using e,fun e => by subst e; simp⟩))
structure Vec where
 v0 : Int
 v1 : Int
 v2 : Int
 v3 : Int
 v4 : Int
 v5 : Int
 v6 : Int
 v7 : Int
 deriving DecidableEq
def Vec.cells (x : Vec) : List V := [.int .i64 x.v0,.int .i64 x.v1,.int .i64 x.v2,.int .i64 x.v3,.int .i64 x.v4,.int .i64 x.v5,.int .i64 x.v6,.int .i64 x.v7]
theorem Vec.len (x : Vec) : x.cells.length = 8 := rfl
theorem Vec.g0 (x : Vec) : x.cells[0]? = some (.int .i64 x.v0) := rfl
theorem Vec.g1 (x : Vec) : x.cells[1]? = some (.int .i64 x.v1) := rfl
theorem Vec.g2 (x : Vec) : x.cells[2]? = some (.int .i64 x.v2) := rfl
theorem Vec.g3 (x : Vec) : x.cells[3]? = some (.int .i64 x.v3) := rfl
theorem Vec.g4 (x : Vec) : x.cells[4]? = some (.int .i64 x.v4) := rfl
theorem Vec.g5 (x : Vec) : x.cells[5]? = some (.int .i64 x.v5) := rfl
theorem Vec.g6 (x : Vec) : x.cells[6]? = some (.int .i64 x.v6) := rfl
theorem Vec.g7 (x : Vec) : x.cells[7]? = some (.int .i64 x.v7) := rfl
theorem Vec.r0 (x : Vec) : getR x.cells 0 8 = x.cells := rfl
theorem Vec.eqv (h : H) (x y : Vec) : eqV h (.ar 8 1 false .int) (.agg x.cells) (.agg y.cells) = some (decide (x = y)) := (eqV_ar_eq _ _ _ _ _ _ _).trans ((allM_step (int_step h .i64 _ _) (allM_step (int_step h .i64 _ _) (allM_step (int_step h .i64 _ _) (allM_step (int_step h .i64 _ _) (allM_step (int_step h .i64 _ _) (allM_step (int_step h .i64 _ _) (allM_step (int_step h .i64 _ _) (allM_step (int_step h .i64 _ _) allM_nil)))))))).trans (congrArg some (decide_eq_decide.2 ⟨fun e => by cases x; cases y; simpa [and_assoc] using e,fun e => by subst e; simp⟩)))
structure Opr where
 time : Int
 site : Int
 kind : Int
 node : Int
 parent : Int
 name : List UInt8
 key : List UInt8
 value : List UInt8
 deriving DecidableEq
def Opr.cells (x : Opr) : List V := [.int .i64 x.time,.int .i64 x.site,.int .i64 x.kind,.int .i64 x.node,.int .i64 x.parent,.str x.name,.str x.key,.str x.value]
theorem Opr.len (x : Opr) : x.cells.length = 8 := rfl
theorem Opr.g0 (x : Opr) : x.cells[0]? = some (.int .i64 x.time) := rfl
theorem Opr.g1 (x : Opr) : x.cells[1]? = some (.int .i64 x.site) := rfl
theorem Opr.g2 (x : Opr) : x.cells[2]? = some (.int .i64 x.kind) := rfl
theorem Opr.g3 (x : Opr) : x.cells[3]? = some (.int .i64 x.node) := rfl
theorem Opr.g4 (x : Opr) : x.cells[4]? = some (.int .i64 x.parent) := rfl
theorem Opr.g5 (x : Opr) : x.cells[5]? = some (.str x.name) := rfl
theorem Opr.g6 (x : Opr) : x.cells[6]? = some (.str x.key) := rfl
theorem Opr.g7 (x : Opr) : x.cells[7]? = some (.str x.value) := rfl
theorem Opr.r0 (x : Opr) : getR x.cells 0 8 = x.cells := rfl
theorem Opr.eqv (h : H) (x y : Opr) : eqV h (.fcons 0 2 true (.fcons 0 1 false .int (.fcons 1 1 false .int .fnil)) (.fcons 2 1 false .int (.fcons 3 1 false .int (.fcons 4 1 false .int (.fcons 5 1 false .str (.fcons 6 1 false .str (.fcons 7 1 false .str .fnil))))))) (.agg x.cells) (.agg y.cells) = some (decide (x = y)) := (fcons_step rfl rfl (fcons_step rfl rfl (int_step _ _ _ _) (fcons_step rfl rfl (int_step _ _ _ _) (fnil_step _ _ _))) (fcons_step rfl rfl (int_step _ _ _ _) (fcons_step rfl rfl (int_step _ _ _ _) (fcons_step rfl rfl (int_step _ _ _ _) (fcons_step rfl rfl (str_step _ _ _) (fcons_step rfl rfl (str_step _ _ _) (fcons_step rfl rfl (str_step _ _ _) (fnil_step _ _ _)))))))).trans (congrArg some (decide_eq_decide.2 ⟨fun e => by cases x; cases y; simpa [and_assoc] using e,fun e => by subst e; simp⟩))
structure Epoch where
 number : Int
 states : Vec
 seals : Vec
 sponsor : Vec
 deriving DecidableEq
def Epoch.cells (x : Epoch) : List V := [.int .i64 x.number,.int .i64 x.states.v0,.int .i64 x.states.v1,.int .i64 x.states.v2,.int .i64 x.states.v3,.int .i64 x.states.v4,.int .i64 x.states.v5,.int .i64 x.states.v6,.int .i64 x.states.v7,.int .i64 x.seals.v0,.int .i64 x.seals.v1,.int .i64 x.seals.v2,.int .i64 x.seals.v3,.int .i64 x.seals.v4,.int .i64 x.seals.v5,.int .i64 x.seals.v6,.int .i64 x.seals.v7,.int .i64 x.sponsor.v0,.int .i64 x.sponsor.v1,.int .i64 x.sponsor.v2,.int .i64 x.sponsor.v3,.int .i64 x.sponsor.v4,.int .i64 x.sponsor.v5,.int .i64 x.sponsor.v6,.int .i64 x.sponsor.v7]
theorem Epoch.len (x : Epoch) : x.cells.length = 25 := rfl
theorem Epoch.g0 (x : Epoch) : x.cells[0]? = some (.int .i64 x.number) := rfl
theorem Epoch.g1 (x : Epoch) : x.cells[1]? = some (.int .i64 x.states.v0) := rfl
theorem Epoch.g2 (x : Epoch) : x.cells[2]? = some (.int .i64 x.states.v1) := rfl
theorem Epoch.g3 (x : Epoch) : x.cells[3]? = some (.int .i64 x.states.v2) := rfl
theorem Epoch.g4 (x : Epoch) : x.cells[4]? = some (.int .i64 x.states.v3) := rfl
theorem Epoch.g5 (x : Epoch) : x.cells[5]? = some (.int .i64 x.states.v4) := rfl
theorem Epoch.g6 (x : Epoch) : x.cells[6]? = some (.int .i64 x.states.v5) := rfl
theorem Epoch.g7 (x : Epoch) : x.cells[7]? = some (.int .i64 x.states.v6) := rfl
theorem Epoch.g8 (x : Epoch) : x.cells[8]? = some (.int .i64 x.states.v7) := rfl
theorem Epoch.r9_8 (x : Epoch) : getR x.cells 9 8 = x.seals.cells := rfl
theorem Epoch.g9 (x : Epoch) : x.cells[9]? = some (.int .i64 x.seals.v0) := rfl
theorem Epoch.g10 (x : Epoch) : x.cells[10]? = some (.int .i64 x.seals.v1) := rfl
theorem Epoch.g11 (x : Epoch) : x.cells[11]? = some (.int .i64 x.seals.v2) := rfl
theorem Epoch.g12 (x : Epoch) : x.cells[12]? = some (.int .i64 x.seals.v3) := rfl
theorem Epoch.g13 (x : Epoch) : x.cells[13]? = some (.int .i64 x.seals.v4) := rfl
theorem Epoch.g14 (x : Epoch) : x.cells[14]? = some (.int .i64 x.seals.v5) := rfl
theorem Epoch.g19 (x : Epoch) : x.cells[19]? = some (.int .i64 x.sponsor.v2) := rfl
theorem Epoch.g20 (x : Epoch) : x.cells[20]? = some (.int .i64 x.sponsor.v3) := rfl
theorem Epoch.g22 (x : Epoch) : x.cells[22]? = some (.int .i64 x.sponsor.v5) := rfl
theorem Epoch.r0 (x : Epoch) : getR x.cells 0 25 = x.cells := rfl
theorem Epoch.eqv (h : H) (x y : Epoch) : eqV h (.fcons 0 1 false .int (.fcons 1 8 true (.ar 8 1 false .int) (.fcons 9 8 true (.ar 8 1 false .int) (.fcons 17 8 true (.ar 8 1 false .int) .fnil)))) (.agg x.cells) (.agg y.cells) = some (decide (x = y)) := (fcons_step rfl rfl (int_step _ _ _ _) (fcons_step rfl rfl (Vec.eqv h _ _) (fcons_step rfl rfl (Vec.eqv h _ _) (fcons_step rfl rfl (Vec.eqv h _ _) (fnil_step _ _ _))))).trans (congrArg some (decide_eq_decide.2 ⟨fun e => by cases x; cases y; simpa [and_assoc] using e,fun e => by subst e; simp⟩))
structure Part where
 snap : Int
 index : Int
 many : Int
 data : V
def Part.cells (x : Part) : List V := [.int .i64 x.snap,.int .i64 x.index,.int .i64 x.many,x.data]
theorem Part.len (x : Part) : x.cells.length = 4 := rfl
theorem Part.g0 (x : Part) : x.cells[0]? = some (.int .i64 x.snap) := rfl
theorem Part.g1 (x : Part) : x.cells[1]? = some (.int .i64 x.index) := rfl
theorem Part.g2 (x : Part) : x.cells[2]? = some (.int .i64 x.many) := rfl
theorem Part.g3 (x : Part) : x.cells[3]? = some (x.data) := rfl
theorem Part.r0 (x : Part) : getR x.cells 0 4 = x.cells := rfl
structure Query where
 kind : Int
 path : List UInt8
 node : Int
 deriving DecidableEq
def Query.cells (x : Query) : List V := [.int .i64 x.kind,.str x.path,.int .i64 x.node]
theorem Query.len (x : Query) : x.cells.length = 3 := rfl
theorem Query.g0 (x : Query) : x.cells[0]? = some (.int .i64 x.kind) := rfl
theorem Query.g1 (x : Query) : x.cells[1]? = some (.str x.path) := rfl
theorem Query.g2 (x : Query) : x.cells[2]? = some (.int .i64 x.node) := rfl
theorem Query.r0 (x : Query) : getR x.cells 0 3 = x.cells := rfl
theorem Query.eqv (h : H) (x y : Query) : eqV h (.fcons 0 1 false .int (.fcons 1 1 false .str (.fcons 2 1 false .int .fnil))) (.agg x.cells) (.agg y.cells) = some (decide (x = y)) := (fcons_step rfl rfl (int_step _ _ _ _) (fcons_step rfl rfl (str_step _ _ _) (fcons_step rfl rfl (int_step _ _ _ _) (fnil_step _ _ _)))).trans (congrArg some (decide_eq_decide.2 ⟨fun e => by cases x; cases y; simpa [and_assoc] using e,fun e => by subst e; simp⟩))
structure Addr where
 group : Int
 replica : Int
 deriving DecidableEq
def Addr.cells (x : Addr) : List V := [.int .i64 x.group,.int .i64 x.replica]
theorem Addr.len (x : Addr) : x.cells.length = 2 := rfl
theorem Addr.g0 (x : Addr) : x.cells[0]? = some (.int .i64 x.group) := rfl
theorem Addr.g1 (x : Addr) : x.cells[1]? = some (.int .i64 x.replica) := rfl
theorem Addr.r0 (x : Addr) : getR x.cells 0 2 = x.cells := rfl
theorem Addr.eqv (h : H) (x y : Addr) : eqV h (.fcons 0 1 false .int (.fcons 1 1 false .int .fnil)) (.agg x.cells) (.agg y.cells) = some (decide (x = y)) := (fcons_step rfl rfl (int_step _ _ _ _) (fcons_step rfl rfl (int_step _ _ _ _) (fnil_step _ _ _))).trans (congrArg some (decide_eq_decide.2 ⟨fun e => by cases x; cases y; simpa [and_assoc] using e,fun e => by subst e; simp⟩))
structure Entry where
 kind : Int
 session : Int
 request : Int
 op : Opr
 origin : Int
 seq : Int
 ops : V
 epoch : Epoch
 frm : Int
 vector : Vec
 clock : Int
 part : Part
 site : Int
 sponsor : Int
 length : Int
def Entry.cells (x : Entry) : List V := [.int .i64 x.kind,.int .i64 x.session,.int .i64 x.request,.int .i64 x.op.time,.int .i64 x.op.site,.int .i64 x.op.kind,.int .i64 x.op.node,.int .i64 x.op.parent,.str x.op.name,.str x.op.key,.str x.op.value,.int .i64 x.origin,.int .i64 x.seq,x.ops,.int .i64 x.epoch.number,.int .i64 x.epoch.states.v0,.int .i64 x.epoch.states.v1,.int .i64 x.epoch.states.v2,.int .i64 x.epoch.states.v3,.int .i64 x.epoch.states.v4,.int .i64 x.epoch.states.v5,.int .i64 x.epoch.states.v6,.int .i64 x.epoch.states.v7,.int .i64 x.epoch.seals.v0,.int .i64 x.epoch.seals.v1,.int .i64 x.epoch.seals.v2,.int .i64 x.epoch.seals.v3,.int .i64 x.epoch.seals.v4,.int .i64 x.epoch.seals.v5,.int .i64 x.epoch.seals.v6,.int .i64 x.epoch.seals.v7,.int .i64 x.epoch.sponsor.v0,.int .i64 x.epoch.sponsor.v1,.int .i64 x.epoch.sponsor.v2,.int .i64 x.epoch.sponsor.v3,.int .i64 x.epoch.sponsor.v4,.int .i64 x.epoch.sponsor.v5,.int .i64 x.epoch.sponsor.v6,.int .i64 x.epoch.sponsor.v7,.int .i64 x.frm,.int .i64 x.vector.v0,.int .i64 x.vector.v1,.int .i64 x.vector.v2,.int .i64 x.vector.v3,.int .i64 x.vector.v4,.int .i64 x.vector.v5,.int .i64 x.vector.v6,.int .i64 x.vector.v7,.int .i64 x.clock,.int .i64 x.part.snap,.int .i64 x.part.index,.int .i64 x.part.many,x.part.data,.int .i64 x.site,.int .i64 x.sponsor,.int .i64 x.length]
theorem Entry.len (x : Entry) : x.cells.length = 56 := rfl
theorem Entry.g0 (x : Entry) : x.cells[0]? = some (.int .i64 x.kind) := rfl
theorem Entry.g1 (x : Entry) : x.cells[1]? = some (.int .i64 x.session) := rfl
theorem Entry.g2 (x : Entry) : x.cells[2]? = some (.int .i64 x.request) := rfl
theorem Entry.r3_8 (x : Entry) : getR x.cells 3 8 = x.op.cells := rfl
theorem Entry.g3 (x : Entry) : x.cells[3]? = some (.int .i64 x.op.time) := rfl
theorem Entry.g4 (x : Entry) : x.cells[4]? = some (.int .i64 x.op.site) := rfl
theorem Entry.g5 (x : Entry) : x.cells[5]? = some (.int .i64 x.op.kind) := rfl
theorem Entry.g6 (x : Entry) : x.cells[6]? = some (.int .i64 x.op.node) := rfl
theorem Entry.g7 (x : Entry) : x.cells[7]? = some (.int .i64 x.op.parent) := rfl
theorem Entry.g8 (x : Entry) : x.cells[8]? = some (.str x.op.name) := rfl
theorem Entry.g9 (x : Entry) : x.cells[9]? = some (.str x.op.key) := rfl
theorem Entry.g10 (x : Entry) : x.cells[10]? = some (.str x.op.value) := rfl
theorem Entry.g11 (x : Entry) : x.cells[11]? = some (.int .i64 x.origin) := rfl
theorem Entry.g12 (x : Entry) : x.cells[12]? = some (.int .i64 x.seq) := rfl
theorem Entry.g13 (x : Entry) : x.cells[13]? = some (x.ops) := rfl
theorem Entry.g14 (x : Entry) : x.cells[14]? = some (.int .i64 x.epoch.number) := rfl
theorem Entry.g19 (x : Entry) : x.cells[19]? = some (.int .i64 x.epoch.states.v4) := rfl
theorem Entry.g20 (x : Entry) : x.cells[20]? = some (.int .i64 x.epoch.states.v5) := rfl
theorem Entry.g22 (x : Entry) : x.cells[22]? = some (.int .i64 x.epoch.states.v7) := rfl
theorem Entry.r23_8 (x : Entry) : getR x.cells 23 8 = x.epoch.seals.cells := rfl
theorem Entry.g34 (x : Entry) : x.cells[34]? = some (.int .i64 x.epoch.sponsor.v3) := rfl
theorem Entry.g35 (x : Entry) : x.cells[35]? = some (.int .i64 x.epoch.sponsor.v4) := rfl
theorem Entry.g39 (x : Entry) : x.cells[39]? = some (.int .i64 x.frm) := rfl
theorem Entry.g48 (x : Entry) : x.cells[48]? = some (.int .i64 x.clock) := rfl
theorem Entry.r49_4 (x : Entry) : getR x.cells 49 4 = x.part.cells := rfl
theorem Entry.g52 (x : Entry) : x.cells[52]? = some (x.part.data) := rfl
theorem Entry.g53 (x : Entry) : x.cells[53]? = some (.int .i64 x.site) := rfl
theorem Entry.g54 (x : Entry) : x.cells[54]? = some (.int .i64 x.sponsor) := rfl
theorem Entry.g55 (x : Entry) : x.cells[55]? = some (.int .i64 x.length) := rfl
theorem Entry.r0 (x : Entry) : getR x.cells 0 56 = x.cells := rfl
structure WStep where
 kind : Int
 at_ : Addr
 client : Int
 op : Opr
 query : Query
 entry : Entry
 number : Int
 place : Int
 wth : Int
 count : Int
 keep : Int
def WStep.cells (x : WStep) : List V := [.int .i64 x.kind,.int .i64 x.at_.group,.int .i64 x.at_.replica,.int .i64 x.client,.int .i64 x.op.time,.int .i64 x.op.site,.int .i64 x.op.kind,.int .i64 x.op.node,.int .i64 x.op.parent,.str x.op.name,.str x.op.key,.str x.op.value,.int .i64 x.query.kind,.str x.query.path,.int .i64 x.query.node,.int .i64 x.entry.kind,.int .i64 x.entry.session,.int .i64 x.entry.request,.int .i64 x.entry.op.time,.int .i64 x.entry.op.site,.int .i64 x.entry.op.kind,.int .i64 x.entry.op.node,.int .i64 x.entry.op.parent,.str x.entry.op.name,.str x.entry.op.key,.str x.entry.op.value,.int .i64 x.entry.origin,.int .i64 x.entry.seq,x.entry.ops,.int .i64 x.entry.epoch.number,.int .i64 x.entry.epoch.states.v0,.int .i64 x.entry.epoch.states.v1,.int .i64 x.entry.epoch.states.v2,.int .i64 x.entry.epoch.states.v3,.int .i64 x.entry.epoch.states.v4,.int .i64 x.entry.epoch.states.v5,.int .i64 x.entry.epoch.states.v6,.int .i64 x.entry.epoch.states.v7,.int .i64 x.entry.epoch.seals.v0,.int .i64 x.entry.epoch.seals.v1,.int .i64 x.entry.epoch.seals.v2,.int .i64 x.entry.epoch.seals.v3,.int .i64 x.entry.epoch.seals.v4,.int .i64 x.entry.epoch.seals.v5,.int .i64 x.entry.epoch.seals.v6,.int .i64 x.entry.epoch.seals.v7,.int .i64 x.entry.epoch.sponsor.v0,.int .i64 x.entry.epoch.sponsor.v1,.int .i64 x.entry.epoch.sponsor.v2,.int .i64 x.entry.epoch.sponsor.v3,.int .i64 x.entry.epoch.sponsor.v4,.int .i64 x.entry.epoch.sponsor.v5,.int .i64 x.entry.epoch.sponsor.v6,.int .i64 x.entry.epoch.sponsor.v7,.int .i64 x.entry.frm,.int .i64 x.entry.vector.v0,.int .i64 x.entry.vector.v1,.int .i64 x.entry.vector.v2,.int .i64 x.entry.vector.v3,.int .i64 x.entry.vector.v4,.int .i64 x.entry.vector.v5,.int .i64 x.entry.vector.v6,.int .i64 x.entry.vector.v7,.int .i64 x.entry.clock,.int .i64 x.entry.part.snap,.int .i64 x.entry.part.index,.int .i64 x.entry.part.many,x.entry.part.data,.int .i64 x.entry.site,.int .i64 x.entry.sponsor,.int .i64 x.entry.length,.int .i64 x.number,.int .i64 x.place,.int .u8 x.wth,.int .i64 x.count,.int .i64 x.keep]
theorem WStep.len (x : WStep) : x.cells.length = 76 := rfl
theorem WStep.g0 (x : WStep) : x.cells[0]? = some (.int .i64 x.kind) := rfl
theorem WStep.g1 (x : WStep) : x.cells[1]? = some (.int .i64 x.at_.group) := rfl
theorem WStep.g2 (x : WStep) : x.cells[2]? = some (.int .i64 x.at_.replica) := rfl
theorem WStep.g3 (x : WStep) : x.cells[3]? = some (.int .i64 x.client) := rfl
theorem WStep.r4_8 (x : WStep) : getR x.cells 4 8 = x.op.cells := rfl
theorem WStep.g4 (x : WStep) : x.cells[4]? = some (.int .i64 x.op.time) := rfl
theorem WStep.g5 (x : WStep) : x.cells[5]? = some (.int .i64 x.op.site) := rfl
theorem WStep.g6 (x : WStep) : x.cells[6]? = some (.int .i64 x.op.kind) := rfl
theorem WStep.g7 (x : WStep) : x.cells[7]? = some (.int .i64 x.op.node) := rfl
theorem WStep.g8 (x : WStep) : x.cells[8]? = some (.int .i64 x.op.parent) := rfl
theorem WStep.g9 (x : WStep) : x.cells[9]? = some (.str x.op.name) := rfl
theorem WStep.g10 (x : WStep) : x.cells[10]? = some (.str x.op.key) := rfl
theorem WStep.g11 (x : WStep) : x.cells[11]? = some (.str x.op.value) := rfl
theorem WStep.r12_3 (x : WStep) : getR x.cells 12 3 = x.query.cells := rfl
theorem WStep.g12 (x : WStep) : x.cells[12]? = some (.int .i64 x.query.kind) := rfl
theorem WStep.g13 (x : WStep) : x.cells[13]? = some (.str x.query.path) := rfl
theorem WStep.g14 (x : WStep) : x.cells[14]? = some (.int .i64 x.query.node) := rfl
theorem WStep.g19 (x : WStep) : x.cells[19]? = some (.int .i64 x.entry.op.site) := rfl
theorem WStep.g20 (x : WStep) : x.cells[20]? = some (.int .i64 x.entry.op.kind) := rfl
theorem WStep.g22 (x : WStep) : x.cells[22]? = some (.int .i64 x.entry.op.parent) := rfl
theorem WStep.g34 (x : WStep) : x.cells[34]? = some (.int .i64 x.entry.epoch.states.v4) := rfl
theorem WStep.g35 (x : WStep) : x.cells[35]? = some (.int .i64 x.entry.epoch.states.v5) := rfl
theorem WStep.g39 (x : WStep) : x.cells[39]? = some (.int .i64 x.entry.epoch.seals.v1) := rfl
theorem WStep.g48 (x : WStep) : x.cells[48]? = some (.int .i64 x.entry.epoch.sponsor.v2) := rfl
theorem WStep.g52 (x : WStep) : x.cells[52]? = some (.int .i64 x.entry.epoch.sponsor.v6) := rfl
theorem WStep.g53 (x : WStep) : x.cells[53]? = some (.int .i64 x.entry.epoch.sponsor.v7) := rfl
theorem WStep.g54 (x : WStep) : x.cells[54]? = some (.int .i64 x.entry.frm) := rfl
theorem WStep.r55_8 (x : WStep) : getR x.cells 55 8 = x.entry.vector.cells := rfl
theorem WStep.g55 (x : WStep) : x.cells[55]? = some (.int .i64 x.entry.vector.v0) := rfl
theorem WStep.r0 (x : WStep) : getR x.cells 0 76 = x.cells := rfl
structure WConfig where
 n : Int
 room : Int
 clients : Int
 members : V
def WConfig.cells (x : WConfig) : List V := [.int .i64 x.n,.int .i64 x.room,.int .i64 x.clients,x.members]
theorem WConfig.len (x : WConfig) : x.cells.length = 4 := rfl
theorem WConfig.g0 (x : WConfig) : x.cells[0]? = some (.int .i64 x.n) := rfl
theorem WConfig.g1 (x : WConfig) : x.cells[1]? = some (.int .i64 x.room) := rfl
theorem WConfig.g2 (x : WConfig) : x.cells[2]? = some (.int .i64 x.clients) := rfl
theorem WConfig.g3 (x : WConfig) : x.cells[3]? = some (x.members) := rfl
theorem WConfig.r0 (x : WConfig) : getR x.cells 0 4 = x.cells := rfl
structure Flat where
 kind : Int
 session : Int
 request : Int
 op : Opr
 origin : Int
 seq : Int
 epoch : Epoch
 frm : Int
 vector : Vec
 clock : Int
 snap : Int
 index : Int
 many : Int
 site : Int
 sponsor : Int
 length : Int
 deriving DecidableEq
def Flat.cells (x : Flat) : List V := [.int .i64 x.kind,.int .i64 x.session,.int .i64 x.request,.int .i64 x.op.time,.int .i64 x.op.site,.int .i64 x.op.kind,.int .i64 x.op.node,.int .i64 x.op.parent,.str x.op.name,.str x.op.key,.str x.op.value,.int .i64 x.origin,.int .i64 x.seq,.int .i64 x.epoch.number,.int .i64 x.epoch.states.v0,.int .i64 x.epoch.states.v1,.int .i64 x.epoch.states.v2,.int .i64 x.epoch.states.v3,.int .i64 x.epoch.states.v4,.int .i64 x.epoch.states.v5,.int .i64 x.epoch.states.v6,.int .i64 x.epoch.states.v7,.int .i64 x.epoch.seals.v0,.int .i64 x.epoch.seals.v1,.int .i64 x.epoch.seals.v2,.int .i64 x.epoch.seals.v3,.int .i64 x.epoch.seals.v4,.int .i64 x.epoch.seals.v5,.int .i64 x.epoch.seals.v6,.int .i64 x.epoch.seals.v7,.int .i64 x.epoch.sponsor.v0,.int .i64 x.epoch.sponsor.v1,.int .i64 x.epoch.sponsor.v2,.int .i64 x.epoch.sponsor.v3,.int .i64 x.epoch.sponsor.v4,.int .i64 x.epoch.sponsor.v5,.int .i64 x.epoch.sponsor.v6,.int .i64 x.epoch.sponsor.v7,.int .i64 x.frm,.int .i64 x.vector.v0,.int .i64 x.vector.v1,.int .i64 x.vector.v2,.int .i64 x.vector.v3,.int .i64 x.vector.v4,.int .i64 x.vector.v5,.int .i64 x.vector.v6,.int .i64 x.vector.v7,.int .i64 x.clock,.int .i64 x.snap,.int .i64 x.index,.int .i64 x.many,.int .i64 x.site,.int .i64 x.sponsor,.int .i64 x.length]
theorem Flat.len (x : Flat) : x.cells.length = 54 := rfl
theorem Flat.g0 (x : Flat) : x.cells[0]? = some (.int .i64 x.kind) := rfl
theorem Flat.g1 (x : Flat) : x.cells[1]? = some (.int .i64 x.session) := rfl
theorem Flat.g2 (x : Flat) : x.cells[2]? = some (.int .i64 x.request) := rfl
theorem Flat.r3_8 (x : Flat) : getR x.cells 3 8 = x.op.cells := rfl
theorem Flat.g3 (x : Flat) : x.cells[3]? = some (.int .i64 x.op.time) := rfl
theorem Flat.g4 (x : Flat) : x.cells[4]? = some (.int .i64 x.op.site) := rfl
theorem Flat.g5 (x : Flat) : x.cells[5]? = some (.int .i64 x.op.kind) := rfl
theorem Flat.g6 (x : Flat) : x.cells[6]? = some (.int .i64 x.op.node) := rfl
theorem Flat.g7 (x : Flat) : x.cells[7]? = some (.int .i64 x.op.parent) := rfl
theorem Flat.g8 (x : Flat) : x.cells[8]? = some (.str x.op.name) := rfl
theorem Flat.g9 (x : Flat) : x.cells[9]? = some (.str x.op.key) := rfl
theorem Flat.g10 (x : Flat) : x.cells[10]? = some (.str x.op.value) := rfl
theorem Flat.g11 (x : Flat) : x.cells[11]? = some (.int .i64 x.origin) := rfl
theorem Flat.g12 (x : Flat) : x.cells[12]? = some (.int .i64 x.seq) := rfl
theorem Flat.g13 (x : Flat) : x.cells[13]? = some (.int .i64 x.epoch.number) := rfl
theorem Flat.g14 (x : Flat) : x.cells[14]? = some (.int .i64 x.epoch.states.v0) := rfl
theorem Flat.g19 (x : Flat) : x.cells[19]? = some (.int .i64 x.epoch.states.v5) := rfl
theorem Flat.g20 (x : Flat) : x.cells[20]? = some (.int .i64 x.epoch.states.v6) := rfl
theorem Flat.g22 (x : Flat) : x.cells[22]? = some (.int .i64 x.epoch.seals.v0) := rfl
theorem Flat.g34 (x : Flat) : x.cells[34]? = some (.int .i64 x.epoch.sponsor.v4) := rfl
theorem Flat.g35 (x : Flat) : x.cells[35]? = some (.int .i64 x.epoch.sponsor.v5) := rfl
theorem Flat.g39 (x : Flat) : x.cells[39]? = some (.int .i64 x.vector.v0) := rfl
theorem Flat.g48 (x : Flat) : x.cells[48]? = some (.int .i64 x.snap) := rfl
theorem Flat.g52 (x : Flat) : x.cells[52]? = some (.int .i64 x.sponsor) := rfl
theorem Flat.g53 (x : Flat) : x.cells[53]? = some (.int .i64 x.length) := rfl
theorem Flat.r0 (x : Flat) : getR x.cells 0 54 = x.cells := rfl
theorem Flat.eqv (h : H) (x y : Flat) : eqV h (.fcons 0 1 false .int (.fcons 1 1 false .int (.fcons 2 1 false .int (.fcons 3 8 true (.fcons 0 2 true (.fcons 0 1 false .int (.fcons 1 1 false .int .fnil)) (.fcons 2 1 false .int (.fcons 3 1 false .int (.fcons 4 1 false .int (.fcons 5 1 false .str (.fcons 6 1 false .str (.fcons 7 1 false .str .fnil))))))) (.fcons 11 1 false .int (.fcons 12 1 false .int (.fcons 13 25 true (.fcons 0 1 false .int (.fcons 1 8 true (.ar 8 1 false .int) (.fcons 9 8 true (.ar 8 1 false .int) (.fcons 17 8 true (.ar 8 1 false .int) .fnil)))) (.fcons 38 1 false .int (.fcons 39 8 true (.ar 8 1 false .int) (.fcons 47 1 false .int (.fcons 48 1 false .int (.fcons 49 1 false .int (.fcons 50 1 false .int (.fcons 51 1 false .int (.fcons 52 1 false .int (.fcons 53 1 false .int .fnil)))))))))))))))) (.agg x.cells) (.agg y.cells) = some (decide (x = y)) := (fcons_step rfl rfl (int_step _ _ _ _) (fcons_step rfl rfl (int_step _ _ _ _) (fcons_step rfl rfl (int_step _ _ _ _) (fcons_step rfl rfl (Opr.eqv h _ _) (fcons_step rfl rfl (int_step _ _ _ _) (fcons_step rfl rfl (int_step _ _ _ _) (fcons_step rfl rfl (Epoch.eqv h _ _) (fcons_step rfl rfl (int_step _ _ _ _) (fcons_step rfl rfl (Vec.eqv h _ _) (fcons_step rfl rfl (int_step _ _ _ _) (fcons_step rfl rfl (int_step _ _ _ _) (fcons_step rfl rfl (int_step _ _ _ _) (fcons_step rfl rfl (int_step _ _ _ _) (fcons_step rfl rfl (int_step _ _ _ _) (fcons_step rfl rfl (int_step _ _ _ _) (fcons_step rfl rfl (int_step _ _ _ _) (fnil_step _ _ _))))))))))))))))).trans (congrArg some (decide_eq_decide.2 ⟨fun e => by cases x; cases y; simpa [and_assoc] using e,fun e => by subst e; simp⟩))
variable {P : Program} {E : Env} {ro : Option Nat} {L : Nat} {K : List Fr} {ρ : Nat → V} {h : H} {Q : Po}
def r3_0 : List O := [⟨some 3,.box 3 (.t 1),none,0,[3,1]⟩,
 ⟨some 4,.alloc 4 [(.bool false)],none,0,[4]⟩]
def r3_1 : List O := [⟨some 10,.call (.k (.func 6 [] [])) [],none,0,[10]⟩,
 ono 11 10 1]
def r3_2 : List O := [om 12 0 0,
 ⟨some 13,.call (.k (.func 7 [] [])) [(.t 12)],none,1,[13,12]⟩,
 ⟨some 5,.alloc 24 [sN],none,0,[5]⟩,
 ost 1 5 13 7]
def r3_3 : List O := [om 14 0 0,
 ⟨some 15,.call (.k (.func 8 [] [])) [(.t 14)],none,1,[15,14]⟩,
 om 6 15 3]
def r3_4 : List O := [om 18 16 0,
 ⟨some 7,.alloc 3 [(iI 0)],none,0,[7]⟩,
 ost 1 7 18 3]
def r3_5 : List O := [⟨some 8,.alloc 3 [(iI 0)],none,0,[8]⟩,
 ⟨none,.store 1 (.t 8) (.k (iI 0)),none,1,[8]⟩]
def r3_6 : List O := [⟨some 9,.alloc 30 [(iI 0),(iI 0),(iI 0),(iI 0)],none,0,[9]⟩,
 ost 4 9 20 1]
def a3_7 : C := .region r3_6
def r3_8 : List O := [ol 21 8 0,
 ol 22 5 0,
 oL 23 22 2,
 ⟨some 24,.bin .geq (some .int) false (.t 21) (.t 23),none,7,[24,21,23]⟩,
 om 25 24 15,
 ⟨some 26,.loadN 4 (.t 9),some (25,false),31,[26,25,9]⟩,
 olf 27 5 25 31,
 olf 28 8 25 31,
 ⟨some 29,.iadrL 4 (.t 27) (.t 28),some (25,false),223,[29,25,27,28]⟩,
 ⟨some 30,.loadN 4 (.t 29),some (25,false),479,[30,25,29]⟩,
 ⟨some 31,.bin .neq (some (.fcons 0 1 false .int (.fcons 1 1 false .int (.fcons 2 1 false .int (.fcons 3 1 false .int .fnil))))) false (.t 26) (.t 30),some (25,false),1023,[31,25,26,30]⟩,
 ⟨some 32,.pick (.t 25) (.k (.bool true)) (.t 31),none,2047,[32,25,31]⟩]
def r3_9 : List O := [ol 33 8 0,
 op1 34 33 1,
 ost 1 8 34 3]
def r3_10 : List O := [ol 35 7 0,
 ⟨some 36,.bin .eql (some .int) true (.t 35) (.k (iI 0)),none,1,[36,35]⟩,
 om 37 36 3,
 olg 38 8 37 7,
 olg 39 3 37 7,
 oq 40 38 39 37 31,
 oe 41 40 37 63]
def b3_11 : C := .block 3 (.seq (.seq (.draw r3_8) (.cond (.t 32) (.seq (.region [⟨none,.store 1 (.t 4) (.k (.bool false)),none,0,[4]⟩]) (.ret)) (.skip))) (.seq (.region r3_9) (.seq (.region r3_10) (.cond (.t 41) (.exit 2) (.skip)))))
def r3_12 : List O := [ol 42 8 0,
 ol 43 5 0,
 oL 44 43 2,
 ⟨some 45,.bin .neq (some .int) false (.t 42) (.t 44),none,7,[45,42,44]⟩,
 om 46 45 15,
 olg 47 7 46 31,
 ⟨some 48,.bin .eql (some .int) true (.t 47) (.k (iI 1)),some (46,true),63,[48,46,47]⟩,
 og 49 48 46 127,
 olf 50 8 49 255,
 olf 51 3 49 255,
 ⟨some 52,.bin .neq (some .int) false (.t 50) (.t 51),some (49,false),1023,[52,49,50,51]⟩,
 ⟨some 53,.pick (.t 49) (.k (.bool true)) (.t 52),some (46,true),2047,[53,46,49,52]⟩,
 oe 54 53 46 4095]
def r3_13 : List O := [op1 55 16 0,
 om 16 55 1]
def b3_14 : C := .seq (.region [⟨some 17,.bin .lss (some .int) true (.t 16) (.k (iI 2)),none,0,[17,16]⟩]) (.seq (.cond (.t 17) (.skip) (.exit 0)) (.seq (.block 1 (.seq (.region r3_4) (.seq (.region r3_5) (.seq (.seq (.region [om 19 6 0]) (.block 2 (.range (.t 19) [20] a3_7 b3_11))) (.seq (.region r3_12) (.cond (.t 54) (.seq (.region [⟨none,.store 1 (.t 4) (.k (.bool false)),none,0,[4]⟩]) (.ret)) (.skip))))))) (.region r3_13)))
def c3 : C := .seq (.region r3_0) (.seq (.seq (.region r3_1) (.cond (.t 11) (.seq (.region [⟨none,.store 1 (.t 4) (.k (.bool false)),none,0,[4]⟩]) (.ret)) (.skip))) (.seq (.region r3_2) (.seq (.region r3_3) (.seq (.seq (.region [⟨some 16,.mv (.k (iI 0)),none,0,[16]⟩]) (.block 0 (.loop b3_14))) (.seq (.region [⟨none,.store 1 (.t 4) (.k (.bool true)),none,0,[4]⟩]) (.ret))))))
def r7_0 : List O := [om 12 4 0,
 om 13 0 0,
 oL 14 13 2,
 olt 15 12 14 7]
def r7_1 : List O := [om 18 0 0,
 om 19 4 0,
 oi 20 21 18 19 3,
 oa 21 2 20 7,
 ol 22 21 15,
 ono 23 22 31]
def r7_2 : List O := [om 24 4 0,
 op1 25 24 1,
 om 5 25 3]
def r7_3 : List O := [om 26 5 0,
 om 27 0 0,
 oL 28 27 2,
 olt 29 26 28 7]
def r7_4 : List O := [om 32 0 0,
 om 33 5 0,
 oi 34 21 32 33 3,
 oa 35 2 34 7,
 ol 36 35 15,
 ono 37 36 31]
def r7_5 : List O := [om 38 0 0,
 om 39 4 0,
 oi 40 21 38 39 3,
 oN 41 21 40 7,
 om 42 0 0,
 om 43 5 0,
 oi 44 21 42 43 48,
 oN 45 21 44 112,
 ⟨some 6,.alloc 63 zVw,none,0,[6]⟩,
 ⟨some 7,.alloc 63 zVw,none,0,[7]⟩,
 ost 21 6 41 783,
 ost 21 7 45 2047]
theorem k7_5 (lo : Nat) (hx : XDK P E ro L K Q lo h [true,true,true,true,true,true,true,true,true,false,true,true] r7_5 ρ h) : XD P E ro L r7_5 K ρ h Q := XD_keeps rfl rfl hx
def r7_6 : List O := [⟨some 46,.iadrA 6 1 (.t 3) (.k (iI 1)),none,0,[46,3]⟩,
 ol 47 46 1,
 om 48 0 0,
 om 49 4 0,
 om 50 5 0,
 ⟨some 51,.call (.k (.func 19 [] [])) [(.t 48),(.t 49),(.t 50)],none,28,[51,48,49,50]⟩,
 ⟨some 52,.app 30 4 32 (.t 47) (.t 51),none,63,[52,47,51]⟩,
 ⟨some 53,.iadrA 6 1 (.t 3) (.k (iI 1)),none,127,[53,3]⟩,
 ost 1 53 52 255]
def r7_7 : List O := [oa 54 0 6 0,
 oa 55 0 54 1,
 ol 56 55 3,
 oa 57 0 7 0,
 oa 58 0 57 8,
 ol 59 58 24,
 ⟨some 60,.bin .eql (some .int) false (.t 56) (.t 59),none,63,[60,56,59]⟩,
 om 61 60 127,
 oag 62 0 6 61 255,
 oag 63 0 62 61 511,
 olg 64 63 61 1023,
 ⟨some 65,.call (.k (.func 20 [] [])) [(.t 64)],some (61,true),2047,[65,61,64]⟩,
 oe 66 65 61 4095,
 om 67 66 8191,
 oag 68 5 6 67 16383,
 olg 69 68 67 32767,
 oag 70 5 7 67 16383,
 olg 71 70 67 81919,
 oq 72 69 71 67 262143,
 oe 73 72 67 524287,
 om 74 73 1048575,
 oNg 75 21 6 74 2097151,
 oNg 76 21 7 74 2097151,
 ⟨some 77,.call (.k (.func 21 [] [])) [(.t 75),(.t 76)],some (74,true),8388607,[77,74,75,76]⟩,
 ong 78 77 74 16777215,
 oe 79 78 74 33554431]
def r7_8 : List O := [⟨some 80,.iadrA 6 1 (.t 3) (.k (iI 2)),none,0,[80,3]⟩,
 ol 81 80 1,
 om 82 4 0,
 om 83 5 0,
 ⟨some 84,.build [(iI 0),(iI 0),(iI 0),(iI 0)] [(0,1,(.k (iI 2))),(1,1,(.t 82)),(2,1,(.t 83))],none,12,[84,82,83]⟩,
 ⟨some 85,.bslice 30 1 [(iI 0),(iI 0),(iI 0),(iI 0)] [(0,4,(.t 84))],none,28,[85,84]⟩,
 ⟨some 86,.app 30 4 32 (.t 81) (.t 85),none,63,[86,81,85]⟩,
 ⟨some 87,.iadrA 6 1 (.t 3) (.k (iI 2)),none,127,[87,3]⟩,
 ost 1 87 86 255]
def r7_9 : List O := [oa 88 4 6 0,
 ol 89 88 1,
 om 90 89 3,
 oag 91 4 7 90 7,
 olg 92 91 90 15,
 oe 93 92 90 31,
 om 94 93 63,
 oag 95 0 6 94 127,
 oag 96 0 95 94 255,
 olg 97 96 94 511,
 ⟨some 98,.call (.k (.func 20 [] [])) [(.t 97)],some (94,true),1023,[98,94,97]⟩,
 oe 99 98 94 2047,
 om 100 99 4095,
 oag 101 0 7 100 8191,
 oag 102 0 101 100 16383,
 olg 103 102 100 32767,
 ⟨some 104,.call (.k (.func 20 [] [])) [(.t 103)],some (100,true),65535,[104,100,103]⟩,
 oe 105 104 100 131071,
 om 106 105 262143,
 oag 107 11 6 106 524287,
 oNg 108 8 107 106 1048575,
 oag 109 11 7 106 524287,
 oNg 110 8 109 106 2621439,
 ⟨some 111,.bin .eql (some (.ar 8 1 false .int)) false (.t 108) (.t 110),some (106,true),8388607,[111,106,108,110]⟩,
 oe 112 111 106 16777215,
 om 113 112 33554431,
 oag 114 19 6 113 67108863,
 olg 115 114 113 134217727,
 oag 116 19 7 113 67108863,
 olg 117 116 113 335544319,
 ⟨some 118,.call (.k (.func 22 [] [])) [(.t 115),(.t 117)],some (113,true),1073741823,[118,113,115,117]⟩,
 ong 119 118 113 2147483647,
 oe 120 119 113 4294967295]
def r7_10 : List O := [⟨some 121,.iadrA 6 1 (.t 3) (.k (iI 4)),none,0,[121,3]⟩,
 ol 122 121 1,
 om 123 4 0,
 om 124 5 0,
 ⟨some 125,.build [(iI 0),(iI 0),(iI 0),(iI 0)] [(0,1,(.k (iI 4))),(1,1,(.t 123)),(2,1,(.t 124))],none,12,[125,123,124]⟩,
 ⟨some 126,.bslice 30 1 [(iI 0),(iI 0),(iI 0),(iI 0)] [(0,4,(.t 125))],none,28,[126,125]⟩,
 ⟨some 127,.app 30 4 32 (.t 122) (.t 126),none,63,[127,122,126]⟩,
 ⟨some 128,.iadrA 6 1 (.t 3) (.k (iI 4)),none,127,[128,3]⟩,
 ost 1 128 127 255]
def r7_11 : List O := [om 30 5 0,
 op1 31 30 1,
 om 5 31 3]
abbrev e7_12 : C := .seq (.seq (.region r7_3) (.cond (.t 29) (.skip) (.exit 2))) (.seq (.block 3 (.seq (.seq (.region r7_4) (.cond (.t 37) (.exit 3) (.skip))) (.seq (.draw r7_5) (.seq (.draw r7_6) (.seq (.seq (.region r7_7) (.cond (.t 79) (.region r7_8) (.skip))) (.seq (.region r7_9) (.cond (.t 120) (.region r7_10) (.skip)))))))) (.region r7_11))
def b7_12 : C := e7_12
theorem u7_12 : XL P E ro L b7_12 K ρ h Q = X P E ro L (.c e7_12 :: .l b7_12 :: K) ρ h Q := XL_unroll b7_12
def r7_13 : List O := [om 130 0 0,
 om 131 4 0,
 oi 132 21 130 131 3,
 oa 133 19 132 7,
 ol 134 133 15,
 ⟨some 135,.call (.k (.func 23 [] [])) [(.t 134)],none,31,[135,134]⟩,
 om 129 135 63,
 ox 136 129 0 127,
 ox 137 129 1 127,
 om 8 136 255,
 om 9 137 1023]
def r7_14 : List O := [om 138 9 0,
 ono 139 138 1]
def r7_15 : List O := [⟨some 140,.iadrA 6 1 (.t 3) (.k (iI 3)),none,0,[140,3]⟩,
 ol 141 140 1,
 om 142 4 0,
 ⟨some 143,.build [(iI 0),(iI 0),(iI 0),(iI 0)] [(0,1,(.k (iI 3))),(1,1,(.t 142))],none,4,[143,142]⟩,
 ⟨some 144,.bslice 30 1 [(iI 0),(iI 0),(iI 0),(iI 0)] [(0,4,(.t 143))],none,12,[144,143]⟩,
 ⟨some 145,.app 30 4 32 (.t 141) (.t 144),none,31,[145,141,144]⟩,
 ⟨some 146,.iadrA 6 1 (.t 3) (.k (iI 3)),none,63,[146,3]⟩,
 ost 1 146 145 127]
def r7_16 : List O := [om 147 0 0,
 om 148 4 0,
 oi 149 21 147 148 3,
 oa 150 4 149 7,
 ol 151 150 15]
def r7_17 : List O := [⟨some 152,.iadrA 6 1 (.t 3) (.k (iI 5)),none,0,[152,3]⟩,
 ol 153 152 1,
 om 154 0 0,
 om 155 4 0,
 ⟨some 156,.call (.k (.func 24 [] [])) [(.t 154),(.t 155)],none,12,[156,154,155]⟩,
 ⟨some 157,.app 30 4 32 (.t 153) (.t 156),none,31,[157,153,156]⟩,
 ⟨some 158,.iadrA 6 1 (.t 3) (.k (iI 5)),none,63,[158,3]⟩,
 ost 1 158 157 127]
def r7_18 : List O := [om 16 4 0,
 op1 17 16 1,
 om 4 17 3]
abbrev e7_19 : C := .seq (.seq (.region r7_0) (.cond (.t 15) (.skip) (.exit 0))) (.seq (.block 1 (.seq (.seq (.region r7_1) (.cond (.t 23) (.exit 1) (.skip))) (.seq (.seq (.region r7_2) (.block 2 (.loop b7_12))) (.seq (.seq (.region r7_13) (.seq (.region r7_14) (.cond (.t 139) (.region r7_15) (.skip)))) (.seq (.region r7_16) (.cond (.t 151) (.draw r7_17) (.skip))))))) (.region r7_18))
def b7_19 : C := e7_19
theorem u7_19 : XL P E ro L b7_19 K ρ h Q = X P E ro L (.c e7_19 :: .l b7_19 :: K) ρ h Q := XL_unroll b7_19
def r7_20 : List O := [om 159 11 0,
 ⟨some 160,.bin .lss (some .int) true (.t 159) (.k (iI 6)),none,1,[160,159]⟩]
def r7_21 : List O := [om 163 10 0,
 om 164 11 0,
 ⟨some 165,.iadrA 6 1 (.t 3) (.t 164),none,2,[165,3,164]⟩,
 ol 166 165 6,
 ⟨some 167,.app 30 4 32 (.t 163) (.t 166),none,15,[167,163,166]⟩,
 om 10 167 31]
def r7_22 : List O := [om 161 11 0,
 op1 162 161 1,
 om 11 162 3]
abbrev e7_23 : C := .seq (.seq (.region r7_20) (.cond (.t 160) (.skip) (.exit 4))) (.seq (.block 5 (.region r7_21)) (.region r7_22))
def b7_23 : C := e7_23
theorem u7_23 : XL P E ro L b7_23 K ρ h Q = X P E ro L (.c e7_23 :: .l b7_23 :: K) ρ h Q := XL_unroll b7_23
def r7_24 : List O := [om 168 10 0,
 om 2 168 1]
def c7 : C := .seq (.region [⟨some 2,.mv (.k sN),none,0,[2]⟩]) (.seq (.region [⟨some 3,.alloc 68 [sN,sN,sN,sN,sN,sN],none,0,[3]⟩]) (.seq (.seq (.region [⟨some 4,.mv (.k (iI 0)),none,0,[4]⟩]) (.block 0 (.loop b7_19))) (.seq (.region [⟨some 10,.mv (.k sN),none,0,[10]⟩]) (.seq (.seq (.region [⟨some 11,.mv (.k (iI 1)),none,0,[11]⟩]) (.block 4 (.loop b7_23))) (.seq (.region r7_24) (.ret))))))
def fn7 : Fn := ⟨169,[.t 2],c7⟩
def r8_0 : List O := [om 4 0 0,
 ⟨some 5,.call (.k (.func 25 [] [])) [(.t 4)],none,1,[5,4]⟩,
 ⟨some 3,.alloc 24 [sN],none,0,[3]⟩,
 ost 1 3 5 7]
def r8_1 : List O := [⟨some 6,.mkF 26 [] [(.t 3)],none,0,[6,3]⟩,
 om 2 6 1]
def c8 : C := .seq (.region [⟨some 2,.mv (.k .nilFunc),none,0,[2]⟩]) (.seq (.region r8_0) (.seq (.region r8_1) (.ret)))
def fn8 : Fn := ⟨7,[.t 2],c8⟩
def r19_0 : List O := [om 12 0 0,
 om 13 1 0,
 oi 14 21 12 13 3,
 oa 15 0 14 7,
 oa 16 0 15 15,
 ol 17 16 31,
 om 18 0 0,
 om 19 2 0,
 oi 20 21 18 19 192,
 oa 21 0 20 448,
 oa 22 0 21 960,
 ol 23 22 1984,
 ⟨some 24,.bin .neq (some .int) false (.t 17) (.t 23),none,4095,[24,17,23]⟩,
 om 25 24 8191,
 ⟨some 26,.mv (.t 0),some (25,false),16383,[26,25,0]⟩,
 ⟨some 27,.mv (.t 1),some (25,false),16383,[27,25,1]⟩,
 ⟨some 28,.iadrL 21 (.t 26) (.t 27),some (25,false),65535,[28,25,26,27]⟩,
 ⟨some 29,.loadN 21 (.t 28),some (25,false),131071,[29,25,28]⟩,
 ⟨some 30,.call (.k (.func 27 [] [])) [(.t 29)],some (25,false),262143,[30,25,29]⟩,
 ⟨some 31,.un .not (.t 30),some (25,false),524287,[31,25,30]⟩,
 ⟨some 32,.pick (.t 25) (.k (.bool true)) (.t 31),none,1048575,[32,25,31]⟩]
theorem d19_0 (hx : XDO P E ro L r19_0 K ρ h Q) : XD P E ro L r19_0 K ρ h Q := XD_ord rfl hx
def r19_1 : List O := [om 33 8 0,
 om 34 0 0,
 om 35 1 0,
 oi 36 21 34 35 6,
 oa 37 7 36 14,
 ol 38 37 30,
 oL 39 38 62,
 olt 40 33 39 127]
def r19_2 : List O := [om 43 0 0,
 om 44 1 0,
 oi 45 21 43 44 3,
 oa 46 6 45 7,
 ol 47 46 15,
 om 48 8 0,
 ⟨some 49,.bin .add (some .int) false (.t 47) (.t 48),none,63,[49,47,48]⟩,
 om 9 49 127]
def r19_3 : List O := [om 51 0 0,
 om 52 2 0,
 oi 53 21 51 52 3,
 oN 54 21 53 7,
 om 55 9 0,
 ⟨some 56,.call (.k (.func 28 [] [])) [(.t 54),(.t 55)],none,31,[56,54,55]⟩,
 om 50 56 63,
 ox 57 50 0 127,
 ox 58 50 1 127,
 ⟨some 10,.alloc 49 [(iI 0),(iI 0),(iI 0),(iI 0),(iI 0),(iI 0),(iI 0),(iI 0),(.str []),(.str []),(.str []),(iI 0),(iI 0),sN,(iI 0),(iI 0),(iI 0),(iI 0),(iI 0),(iI 0),(iI 0),(iI 0),(iI 0),(iI 0),(iI 0),(iI 0),(iI 0),(iI 0),(iI 0),(iI 0),(iI 0),(iI 0),(iI 0),(iI 0),(iI 0),(iI 0),(iI 0),(iI 0),(iI 0),(iI 0),(iI 0),(iI 0),(iI 0),(iI 0),(iI 0),(iI 0),(iI 0),(iI 0),(iI 0),(iI 0),(iI 0),(iI 0),sN,(iI 0),(iI 0),(iI 0)],none,0,[10]⟩,
 ost 56 10 57 767,
 om 11 58 2047]
def r19_4 : List O := [om 59 11 0,
 om 60 59 1,
 oNg 61 56 10 60 3,
 og 62 0 60 3,
 og 63 1 60 3,
 oig 64 21 62 63 60 27,
 oag 65 7 64 60 59,
 olg 66 65 60 123,
 og 67 8 60 3,
 oig 68 56 66 67 60 507,
 oNg 69 56 68 60 1019,
 ⟨some 70,.call (.k (.func 11 [] [])) [(.t 61),(.t 69)],some (60,true),2047,[70,60,61,69]⟩,
 ong 71 70 60 4095,
 oe 72 71 60 8191]
theorem d19_4 (hx : XDO P E ro L r19_4 K ρ h Q) : XD P E ro L r19_4 K ρ h Q := XD_ord rfl hx
def r19_5 : List O := [om 73 7 0,
 om 74 1 0,
 om 75 2 0,
 om 76 9 0,
 ⟨some 77,.build [(iI 0),(iI 0),(iI 0),(iI 0)] [(0,1,(.k (iI 1))),(1,1,(.t 74)),(2,1,(.t 75)),(3,1,(.t 76))],none,14,[77,74,75,76]⟩,
 ⟨some 78,.bslice 30 1 [(iI 0),(iI 0),(iI 0),(iI 0)] [(0,4,(.t 77))],none,30,[78,77]⟩,
 ⟨some 79,.app 30 4 32 (.t 73) (.t 78),none,63,[79,73,78]⟩,
 om 7 79 127]
def r19_6 : List O := [om 41 8 0,
 op1 42 41 1,
 om 8 42 3]
abbrev e19_7 : C := .seq (.seq (.region r19_1) (.cond (.t 40) (.skip) (.exit 0))) (.seq (.block 1 (.seq (.region r19_2) (.seq (.region r19_3) (.seq (.draw r19_4) (.cond (.t 72) (.region r19_5) (.skip)))))) (.region r19_6))
def b19_7 : C := e19_7
theorem u19_7 : XL P E ro L b19_7 K ρ h Q = X P E ro L (.c e19_7 :: .l b19_7 :: K) ρ h Q := XL_unroll b19_7
def r19_8 : List O := [om 80 7 0,
 om 6 80 1]
def c19 : C := .seq (.region [⟨some 6,.mv (.k sN),none,0,[6]⟩]) (.seq (.region [⟨some 7,.mv (.k sN),none,0,[7]⟩]) (.seq (.seq (.draw r19_0) (.cond (.t 32) (.seq (.region [⟨some 6,.mv (.k sN),none,0,[6]⟩]) (.ret)) (.skip))) (.seq (.seq (.region [⟨some 8,.mv (.k (iI 0)),none,0,[8]⟩]) (.block 0 (.loop b19_7))) (.seq (.region r19_8) (.ret)))))
def fn19 : Fn := ⟨81,[.t 6],c19⟩
def r20_0 : List O := [om 3 0 0,
 ⟨some 4,.bin .geq (some .int) true (.t 3) (.k (iI 0)),none,1,[4,3]⟩,
 om 5 4 3,
 og 6 0 5 7,
 ⟨some 7,.bin .lss (some .int) true (.t 6) (.k (iI 8)),some (5,true),15,[7,5,6]⟩,
 oe 8 7 5 31,
 om 2 8 63]
def c20 : C := .seq (.region [⟨some 2,.mv (.k (.bool false)),none,0,[2]⟩]) (.seq (.region r20_0) (.ret))
def fn20 : Fn := ⟨9,[.t 2],c20⟩
def r24_0 : List O := [om 11 6 0,
 om 12 0 0,
 oL 13 12 2,
 olt 14 11 13 7]
def r24_1 : List O := [om 17 0 0,
 om 18 6 0,
 oi 19 21 17 18 3,
 oa 20 0 19 7,
 oa 21 0 20 15,
 ol 22 21 31,
 om 7 22 63]
def r24_2 : List O := [om 23 7 0,
 ⟨some 24,.call (.k (.func 20 [] [])) [(.t 23)],none,1,[24,23]⟩,
 ono 25 24 3,
 om 26 25 7,
 ⟨some 27,.mv (.t 7),some (26,false),15,[27,26,7]⟩,
 ⟨some 28,.mv (.t 0),some (26,false),15,[28,26,0]⟩,
 ⟨some 29,.mv (.t 1),some (26,false),15,[29,26,1]⟩,
 ⟨some 30,.iadrL 21 (.t 28) (.t 29),some (26,false),111,[30,26,28,29]⟩,
 oaf 31 0 30 26 239,
 oaf 32 0 31 26 495,
 olf 33 32 26 1007,
 ⟨some 34,.bin .eql (some .int) false (.t 27) (.t 33),some (26,false),2047,[34,26,27,33]⟩,
 ⟨some 35,.pick (.t 26) (.k (.bool true)) (.t 34),none,4095,[35,26,34]⟩,
 om 36 35 8191,
 ⟨some 37,.mv (.t 0),some (36,false),16383,[37,36,0]⟩,
 ⟨some 38,.mv (.t 6),some (36,false),16383,[38,36,6]⟩,
 ⟨some 39,.iadrL 21 (.t 37) (.t 38),some (36,false),65535,[39,36,37,38]⟩,
 ⟨some 40,.loadN 21 (.t 39),some (36,false),131071,[40,36,39]⟩,
 ⟨some 41,.mv (.t 0),some (36,false),16383,[41,36,0]⟩,
 ⟨some 42,.mv (.t 1),some (36,false),16383,[42,36,1]⟩,
 ⟨some 43,.iadrL 21 (.t 41) (.t 42),some (36,false),802815,[43,36,41,42]⟩,
 ⟨some 44,.loadN 21 (.t 43),some (36,false),1851391,[44,36,43]⟩,
 ⟨some 45,.mv (.t 7),some (36,false),16383,[45,36,7]⟩,
 ⟨some 46,.call (.k (.func 50 [] [])) [(.t 40),(.t 44),(.t 45)],some (36,false),8388607,[46,36,40,44,45]⟩,
 ⟨some 47,.un .not (.t 46),some (36,false),16777215,[47,36,46]⟩,
 ⟨some 48,.pick (.t 36) (.k (.bool true)) (.t 47),none,33554431,[48,36,47]⟩]
theorem d24_2 (hx : XDO P E ro L r24_2 K ρ h Q) : XD P E ro L r24_2 K ρ h Q := XD_ord rfl hx
def r24_3 : List O := [om 49 9 0,
 om 50 0 0,
 oL 51 50 2,
 olt 52 49 51 7]
def r24_4 : List O := [om 55 0 0,
 om 56 9 0,
 oi 57 21 55 56 3,
 oa 58 2 57 7,
 ol 59 58 15,
 om 60 59 31,
 og 61 0 60 63,
 og 62 9 60 63,
 oig 63 21 61 62 60 255,
 oag 64 4 63 60 511,
 olg 65 64 60 1023,
 oe 66 65 60 2047,
 om 67 66 4095,
 og 68 0 67 8191,
 og 69 9 67 8191,
 oig 70 21 68 69 67 32767,
 oag 71 0 70 67 65535,
 oag 72 0 71 67 131071,
 olg 73 72 67 262143,
 og 74 7 67 8191,
 oq 75 73 74 67 1048575,
 oe 76 75 67 2097151,
 om 10 76 4194303]
def r24_5 : List O := [om 77 10 0,
 om 78 77 1,
 og 79 9 78 3,
 og 80 6 78 3,
 ⟨some 81,.bin .lss (some .int) false (.t 79) (.t 80),some (78,true),15,[81,78,79,80]⟩,
 og 82 81 78 31,
 ⟨some 83,.mv (.t 0),some (82,false),63,[83,82,0]⟩,
 ⟨some 84,.mv (.t 9),some (82,false),63,[84,82,9]⟩,
 ⟨some 85,.iadrL 21 (.t 83) (.t 84),some (82,false),255,[85,82,83,84]⟩,
 ⟨some 86,.loadN 21 (.t 85),some (82,false),511,[86,82,85]⟩,
 ⟨some 87,.mv (.t 0),some (82,false),63,[87,82,0]⟩,
 ⟨some 88,.mv (.t 1),some (82,false),63,[88,82,1]⟩,
 ⟨some 89,.iadrL 21 (.t 87) (.t 88),some (82,false),3135,[89,82,87,88]⟩,
 ⟨some 90,.loadN 21 (.t 89),some (82,false),7231,[90,82,89]⟩,
 ⟨some 91,.mv (.t 7),some (82,false),63,[91,82,7]⟩,
 ⟨some 92,.call (.k (.func 50 [] [])) [(.t 86),(.t 90),(.t 91)],some (82,false),32767,[92,82,86,90,91]⟩,
 ⟨some 93,.un .not (.t 92),some (82,false),65535,[93,82,92]⟩,
 ⟨some 94,.pick (.t 82) (.k (.bool true)) (.t 93),some (78,true),131071,[94,78,82,93]⟩,
 oe 95 94 78 262143]
theorem d24_5 (hx : XDO P E ro L r24_5 K ρ h Q) : XD P E ro L r24_5 K ρ h Q := XD_ord rfl hx
def r24_6 : List O := [om 53 9 0,
 op1 54 53 1,
 om 9 54 3]
abbrev e24_7 : C := .seq (.seq (.region r24_3) (.cond (.t 52) (.skip) (.exit 2))) (.seq (.block 3 (.seq (.region r24_4) (.seq (.draw r24_5) (.cond (.t 95) (.region [⟨some 8,.mv (.k (.bool false)),none,0,[8]⟩]) (.skip))))) (.region r24_6))
def b24_7 : C := e24_7
theorem u24_7 : XL P E ro L b24_7 K ρ h Q = X P E ro L (.c e24_7 :: .l b24_7 :: K) ρ h Q := XL_unroll b24_7
def r24_8 : List O := [om 97 5 0,
 om 98 1 0,
 om 99 6 0,
 ⟨some 100,.build [(iI 0),(iI 0),(iI 0),(iI 0)] [(0,1,(.k (iI 5))),(1,1,(.t 98)),(2,1,(.t 99))],none,6,[100,98,99]⟩,
 ⟨some 101,.bslice 30 1 [(iI 0),(iI 0),(iI 0),(iI 0)] [(0,4,(.t 100))],none,14,[101,100]⟩,
 ⟨some 102,.app 30 4 32 (.t 97) (.t 101),none,31,[102,97,101]⟩,
 om 5 102 63]
def r24_9 : List O := [om 15 6 0,
 op1 16 15 1,
 om 6 16 3]
abbrev e24_10 : C := .seq (.seq (.region r24_0) (.cond (.t 14) (.skip) (.exit 0))) (.seq (.block 1 (.seq (.region r24_1) (.seq (.seq (.draw r24_2) (.cond (.t 48) (.exit 1) (.skip))) (.seq (.region [⟨some 8,.mv (.k (.bool true)),none,0,[8]⟩]) (.seq (.seq (.region [⟨some 9,.mv (.k (iI 0)),none,0,[9]⟩]) (.block 2 (.loop b24_7))) (.seq (.region [om 96 8 0]) (.cond (.t 96) (.region r24_8) (.skip)))))))) (.region r24_9))
def b24_10 : C := e24_10
theorem u24_10 : XL P E ro L b24_10 K ρ h Q = X P E ro L (.c e24_10 :: .l b24_10 :: K) ρ h Q := XL_unroll b24_10
def r24_11 : List O := [om 103 5 0,
 om 4 103 1]
def c24 : C := .seq (.region [⟨some 4,.mv (.k sN),none,0,[4]⟩]) (.seq (.region [⟨some 5,.mv (.k sN),none,0,[5]⟩]) (.seq (.seq (.region [⟨some 6,.mv (.k (iI 0)),none,0,[6]⟩]) (.block 0 (.loop b24_10))) (.seq (.region r24_11) (.ret))))
def fn24 : Fn := ⟨104,[.t 4],c24⟩
def r25_0 : List O := [⟨some 6,.build [.nilFunc] [(0,1,(.k (.func 51 [] [])))],none,0,[6]⟩,
 ⟨some 7,.build [.nilFunc] [(0,1,(.k (.func 52 [] [])))],none,0,[7]⟩,
 ⟨some 8,.build [.nilFunc] [(0,1,(.k (.func 53 [] [])))],none,0,[8]⟩,
 ⟨some 9,.build [.nilFunc] [(0,1,(.k (.func 54 [] [])))],none,0,[9]⟩,
 ⟨some 10,.build [.nilFunc] [(0,1,(.k (.func 55 [] [])))],none,0,[10]⟩,
 ⟨some 11,.bslice 102 5 [.nilFunc,.nilFunc,.nilFunc,.nilFunc,.nilFunc] [(0,1,(.t 6)),(1,1,(.t 7)),(2,1,(.t 8)),(3,1,(.t 9)),(4,1,(.t 10))],none,31,[11,6,7,8,9,10]⟩,
 oL 12 11 63,
 ⟨some 13,.mv (.k (iI 0)),none,0,[13]⟩]
def r25_1 : List O := [oi 15 1 11 13 0,
 oN 16 1 15 1,
 ⟨some 5,.alloc 102 [.nilFunc],none,0,[5]⟩,
 ost 1 5 16 7]
def r25_2 : List O := [om 17 3 0,
 oa 18 0 5 0,
 ol 19 18 2,
 om 20 0 0,
 ⟨some 21,.call (.t 19) [(.t 20)],none,14,[21,19,20]⟩,
 ⟨some 22,.app 30 4 32 (.t 17) (.t 21),none,31,[22,17,21]⟩,
 om 3 22 63]
def r25_3 : List O := [op1 23 13 0,
 om 13 23 1]
abbrev e25_4 : C := .seq (.region [olt 14 13 12 0]) (.seq (.cond (.t 14) (.skip) (.exit 0)) (.seq (.block 1 (.seq (.region r25_1) (.region r25_2))) (.region r25_3)))
def b25_4 : C := e25_4
theorem u25_4 : XL P E ro L b25_4 K ρ h Q = X P E ro L (.c e25_4 :: .l b25_4 :: K) ρ h Q := XL_unroll b25_4
def r25_5 : List O := [om 24 3 0,
 om 2 24 1]
def c25 : C := .seq (.region [⟨some 2,.mv (.k sN),none,0,[2]⟩]) (.seq (.region [⟨some 3,.mv (.k sN),none,0,[3]⟩]) (.seq (.seq (.region r25_0) (.block 0 (.loop b25_4))) (.seq (.region r25_5) (.ret))))
def fn25 : Fn := ⟨25,[.t 2],c25⟩
def r26_0 : List O := [ol 5 1 0,
 oL 6 5 1,
 ⟨some 7,.mv (.k (iI 0)),none,0,[7]⟩]
def r26_1 : List O := [oi 9 4 5 7 0,
 oN 10 4 9 1,
 ⟨some 4,.alloc 30 [(iI 0),(iI 0),(iI 0),(iI 0)],none,0,[4]⟩,
 ost 4 4 10 7]
def r26_2 : List O := [om 11 0 0,
 oN 12 4 4 0,
 ⟨some 13,.call (.t 11) [(.t 12)],none,3,[13,11,12]⟩,
 ono 14 13 7]
def r26_3 : List O := [op1 15 7 0,
 om 7 15 1]
abbrev e26_4 : C := .seq (.region [olt 8 7 6 0]) (.seq (.cond (.t 8) (.skip) (.exit 0)) (.seq (.block 1 (.seq (.region r26_1) (.seq (.region r26_2) (.cond (.t 14) (.ret) (.skip))))) (.region r26_3)))
def b26_4 : C := e26_4
theorem u26_4 : XL P E ro L b26_4 K ρ h Q = X P E ro L (.c e26_4 :: .l b26_4 :: K) ρ h Q := XL_unroll b26_4
def c26 : C := .seq (.region r26_0) (.block 0 (.loop b26_4))
def fn26 : Fn := ⟨16,[],c26⟩
def r50_0 : List O := [⟨some 3,.box 63 (.t 0),none,0,[3,0]⟩,
 ⟨some 4,.box 63 (.t 1),none,0,[4,1]⟩,
 ⟨some 6,.mv (.k (.bool false)),none,0,[6]⟩]
def r50_1 : List O := [oa 7 2 3 0,
 ol 8 7 1,
 om 9 8 3,
 oag 10 4 3 9 7,
 olg 11 10 9 15,
 oe 12 11 9 31,
 om 13 12 63,
 oag 14 0 3 13 127,
 oag 15 0 14 13 255,
 olg 16 15 13 511,
 og 17 2 13 127,
 oq 18 16 17 13 2047,
 oe 19 18 13 4095,
 om 20 19 8191,
 og 21 2 20 16383,
 oag 22 11 3 20 16383,
 ⟨some 23,.iadrA 8 1 (.t 22) (.t 21),some (20,true),65535,[23,20,22,21]⟩,
 olg 24 23 20 131071,
 og 25 2 20 16383,
 oag 26 11 4 20 16383,
 ⟨some 27,.iadrA 8 1 (.t 26) (.t 25),some (20,true),802815,[27,20,26,25]⟩,
 olg 28 27 20 1851391,
 ⟨some 29,.bin .lss (some .int) false (.t 24) (.t 28),some (20,true),4194303,[29,20,24,28]⟩,
 oe 30 29 20 8388607,
 om 6 30 16777215]
theorem d50_1 : XD P E ro L r50_1 K ρ h Q = XO P E ro L r50_1 K ρ h Q := XD_still rfl
def c50 : C := .seq (.region r50_0) (.seq (.draw r50_1) (.ret))
def fn50 : Fn := ⟨31,[.t 6],c50⟩
def r51_0 : List O := [⟨some 1,.box 22 (.t 0),none,0,[1,0]⟩,
 ⟨some 2,.mv (.k sN),none,0,[2]⟩]
def r51_1 : List O := [ol 7 1 0,
 ⟨some 8,.call (.k (.func 64 [] [])) [(.t 7)],none,1,[8,7]⟩]
def r51_2 : List O := [⟨some 4,.alloc 3 [(iI 0)],none,0,[4]⟩,
 ost 1 4 9 1]
def r51_3 : List O := [⟨some 5,.alloc 3 [(iI 0)],none,0,[5]⟩,
 ost 1 5 10 1]
def a51_4 : C := .seq (.region r51_2) (.region r51_3)
def r51_5 : List O := [ol 11 1 0,
 ol 12 4 0,
 oi 13 21 11 12 3,
 oa 14 0 13 7,
 oa 15 0 14 15,
 ol 16 15 31,
 ol 17 1 0,
 ol 18 5 0,
 oi 19 21 17 18 192,
 oa 20 0 19 448,
 oa 21 0 20 960,
 ol 22 21 1984,
 ⟨some 23,.bin .eql (some .int) false (.t 16) (.t 22),none,4095,[23,16,22]⟩,
 om 24 23 8191,
 olg 25 1 24 16383,
 olg 26 4 24 16383,
 oig 27 21 25 26 24 65535,
 oag 28 6 27 24 131071,
 olg 29 28 24 262143,
 ⟨some 30,.call (.k (.func 30 [] [])) [(.t 29)],some (24,true),524287,[30,24,29]⟩,
 oe 31 30 24 1048575,
 om 32 31 2097151,
 olg 33 1 32 4194303,
 olg 34 5 32 4194303,
 oig 35 21 33 34 32 16777215,
 oag 36 6 35 32 33554431,
 olg 37 36 32 67108863,
 ⟨some 38,.call (.k (.func 30 [] [])) [(.t 37)],some (32,true),134217727,[38,32,37]⟩,
 oe 39 38 32 268435455]
theorem d51_5 (hx : XDO P E ro L r51_5 K ρ h Q) : XD P E ro L r51_5 K ρ h Q := XD_ord rfl hx
def r51_6 : List O := [ol 40 1 0,
 ol 41 4 0,
 oi 42 21 40 41 3,
 oN 43 21 42 7,
 ol 44 1 0,
 ol 45 5 0,
 oi 46 21 44 45 48,
 oN 47 21 46 112,
 ⟨some 48,.call (.k (.func 65 [] [])) [(.t 43),(.t 47)],none,255,[48,43,47]⟩]
theorem d51_6 (hx : XDO P E ro L r51_6 K ρ h Q) : XD P E ro L r51_6 K ρ h Q := XD_ord rfl hx
def a51_7 : C := .region [om 6 49 0]
def r51_8 : List O := [ol 50 3 0,
 ol 51 4 0,
 ol 52 5 0,
 om 53 6 0,
 ⟨some 54,.build [(iI 0),(iI 0),(iI 0),(iI 0)] [(0,1,(.k (iI 1))),(1,1,(.t 51)),(2,1,(.t 52)),(3,1,(.t 53))],none,14,[54,51,52,53]⟩,
 ⟨some 55,.bslice 30 1 [(iI 0),(iI 0),(iI 0),(iI 0)] [(0,4,(.t 54))],none,30,[55,54]⟩,
 ⟨some 56,.app 30 4 32 (.t 50) (.t 55),none,63,[56,50,55]⟩,
 ost 1 3 56 127]
def b51_9 : C := .block 3 (.region r51_8)
def b51_10 : C := .block 1 (.seq (.draw r51_5) (.cond (.t 39) (.seq (.draw r51_6) (.block 2 (.range (.t 48) [49] a51_7 b51_9))) (.skip)))
def r51_11 : List O := [ol 57 3 0,
 om 2 57 1]
def c51 : C := .seq (.region r51_0) (.seq (.region [⟨some 3,.alloc 24 [sN],none,0,[3]⟩]) (.seq (.seq (.region r51_1) (.block 0 (.range (.t 8) [9,10] a51_4 b51_10))) (.seq (.region r51_11) (.ret))))
def fn51 : Fn := ⟨58,[.t 2],c51⟩
def r52_0 : List O := [⟨some 1,.box 22 (.t 0),none,0,[1,0]⟩,
 ⟨some 2,.mv (.k sN),none,0,[2]⟩]
def r52_1 : List O := [ol 6 1 0,
 ⟨some 7,.call (.k (.func 64 [] [])) [(.t 6)],none,1,[7,6]⟩]
def a52_2 : C := .seq (.region [om 4 8 0]) (.region [om 5 9 0])
def r52_3 : List O := [ol 10 1 0,
 om 11 4 0,
 oi 12 21 10 11 3,
 oa 13 0 12 7,
 oa 14 0 13 15,
 ol 15 14 31,
 ol 16 1 0,
 om 17 5 0,
 oi 18 21 16 17 192,
 oa 19 0 18 448,
 oa 20 0 19 960,
 ol 21 20 1984,
 ⟨some 22,.bin .eql (some .int) false (.t 15) (.t 21),none,4095,[22,15,21]⟩,
 om 23 22 8191,
 olg 24 1 23 16383,
 og 25 4 23 16383,
 oig 26 21 24 25 23 65535,
 oNg 27 21 26 23 131071,
 ⟨some 28,.call (.k (.func 66 [] [])) [(.t 27)],some (23,true),262143,[28,23,27]⟩,
 oe 29 28 23 524287,
 om 30 29 1048575,
 olg 31 1 30 2097151,
 og 32 4 30 2097151,
 oig 33 21 31 32 30 8388607,
 oag 34 5 33 30 16777215,
 olg 35 34 30 33554431,
 olg 36 1 30 2097151,
 og 37 5 30 2097151,
 oig 38 21 36 37 30 203423743,
 oag 39 5 38 30 471859199,
 olg 40 39 30 1008730111,
 oq 41 35 40 30 2147483647,
 oe 42 41 30 4294967295,
 om 43 42 8589934591,
 olg 44 1 43 17179869183,
 og 45 4 43 17179869183,
 oig 46 21 44 45 43 68719476735,
 oNg 47 21 46 43 137438953471,
 olg 48 1 43 17179869183,
 og 49 5 43 17179869183,
 oig 50 21 48 49 43 841813590015,
 oNg 51 21 50 43 1941325217791,
 ⟨some 52,.call (.k (.func 40 [] [])) [(.t 47),(.t 51)],some (43,true),4398046511103,[52,43,47,51]⟩,
 ong 53 52 43 8796093022207,
 oe 54 53 43 17592186044415]
theorem d52_3 (hx : XDO P E ro L r52_3 K ρ h Q) : XD P E ro L r52_3 K ρ h Q := XD_ord rfl hx
def r52_4 : List O := [ol 55 3 0,
 om 56 4 0,
 om 57 5 0,
 ⟨some 58,.build [(iI 0),(iI 0),(iI 0),(iI 0)] [(0,1,(.k (iI 2))),(1,1,(.t 56)),(2,1,(.t 57))],none,6,[58,56,57]⟩,
 ⟨some 59,.bslice 30 1 [(iI 0),(iI 0),(iI 0),(iI 0)] [(0,4,(.t 58))],none,14,[59,58]⟩,
 ⟨some 60,.app 30 4 32 (.t 55) (.t 59),none,31,[60,55,59]⟩,
 ost 1 3 60 63]
def b52_5 : C := .block 1 (.seq (.draw r52_3) (.cond (.t 54) (.region r52_4) (.skip)))
def r52_6 : List O := [ol 61 3 0,
 om 2 61 1]
def c52 : C := .seq (.region r52_0) (.seq (.region [⟨some 3,.alloc 24 [sN],none,0,[3]⟩]) (.seq (.seq (.region r52_1) (.block 0 (.range (.t 7) [8,9] a52_2 b52_5))) (.seq (.region r52_6) (.ret))))
def fn52 : Fn := ⟨62,[.t 2],c52⟩
def r53_0 : List O := [om 8 0 0,
 oL 9 8 1,
 ⟨some 10,.mv (.k (iI 0)),none,0,[10]⟩]
def r53_1 : List O := [om 12 10 0,
 oi 13 21 8 10 0,
 oN 14 21 13 2,
 ⟨some 5,.alloc 63 zVw,none,0,[5]⟩,
 om 4 12 15,
 ost 21 5 14 31]
def r53_2 : List O := [oa 16 19 5 0,
 ol 17 16 1,
 ⟨some 18,.call (.k (.func 67 [] [])) [(.t 17)],none,3,[18,17]⟩,
 om 15 18 7,
 ox 19 15 0 15,
 ox 20 15 1 15,
 om 6 19 31,
 om 7 20 127]
def r53_3 : List O := [oa 21 2 5 0,
 ol 22 21 1,
 om 23 22 3,
 og 24 7 23 7,
 ⟨some 25,.bin .neq (some .int) true (.t 24) (.k (iI 0)),some (23,true),15,[25,23,24]⟩,
 oe 26 25 23 31]
def r53_4 : List O := [om 27 3 0,
 om 28 4 0,
 ⟨some 29,.build [(iI 0),(iI 0),(iI 0),(iI 0)] [(0,1,(.k (iI 3))),(1,1,(.t 28))],none,2,[29,28]⟩,
 ⟨some 30,.bslice 30 1 [(iI 0),(iI 0),(iI 0),(iI 0)] [(0,4,(.t 29))],none,6,[30,29]⟩,
 ⟨some 31,.app 30 4 32 (.t 27) (.t 30),none,15,[31,27,30]⟩,
 om 3 31 31]
def r53_5 : List O := [op1 32 10 0,
 om 10 32 1]
abbrev e53_6 : C := .seq (.region [olt 11 10 9 0]) (.seq (.cond (.t 11) (.skip) (.exit 0)) (.seq (.block 1 (.seq (.region r53_1) (.seq (.region r53_2) (.seq (.region r53_3) (.cond (.t 26) (.region r53_4) (.skip)))))) (.region r53_5)))
def b53_6 : C := e53_6
theorem u53_6 : XL P E ro L b53_6 K ρ h Q = X P E ro L (.c e53_6 :: .l b53_6 :: K) ρ h Q := XL_unroll b53_6
def r53_7 : List O := [om 33 3 0,
 om 2 33 1]
def c53 : C := .seq (.region [⟨some 2,.mv (.k sN),none,0,[2]⟩]) (.seq (.region [⟨some 3,.mv (.k sN),none,0,[3]⟩]) (.seq (.seq (.region r53_0) (.block 0 (.loop b53_6))) (.seq (.region r53_7) (.ret))))
def fn53 : Fn := ⟨34,[.t 2],c53⟩
def r54_0 : List O := [⟨some 1,.box 22 (.t 0),none,0,[1,0]⟩,
 ⟨some 2,.mv (.k sN),none,0,[2]⟩]
def r54_1 : List O := [ol 6 1 0,
 ⟨some 7,.call (.k (.func 64 [] [])) [(.t 6)],none,1,[7,6]⟩]
def a54_2 : C := .seq (.region [om 4 8 0]) (.region [om 5 9 0])
def r54_3 : List O := [ol 10 1 0,
 om 11 4 0,
 oi 12 21 10 11 3,
 oa 13 4 12 7,
 ol 14 13 15,
 om 15 14 31,
 olg 16 1 15 63,
 og 17 5 15 63,
 oig 18 21 16 17 15 255,
 oag 19 4 18 15 511,
 olg 20 19 15 1023,
 oe 21 20 15 2047,
 om 22 21 4095,
 olg 23 1 22 8191,
 og 24 4 22 8191,
 oig 25 21 23 24 22 32767,
 oNg 26 21 25 22 65535,
 ⟨some 27,.call (.k (.func 66 [] [])) [(.t 26)],some (22,true),131071,[27,22,26]⟩,
 oe 28 27 22 262143,
 om 29 28 524287,
 olg 30 1 29 1048575,
 og 31 5 29 1048575,
 oig 32 21 30 31 29 4194303,
 oNg 33 21 32 29 8388607,
 ⟨some 34,.call (.k (.func 66 [] [])) [(.t 33)],some (29,true),16777215,[34,29,33]⟩,
 oe 35 34 29 33554431,
 om 36 35 67108863,
 olg 37 1 36 134217727,
 og 38 4 36 134217727,
 oig 39 21 37 38 36 536870911,
 oag 40 11 39 36 1073741823,
 oNg 41 8 40 36 2147483647,
 olg 42 1 36 134217727,
 og 43 5 36 134217727,
 oig 44 21 42 43 36 13019119615,
 oag 45 11 44 36 30198988799,
 oNg 46 8 45 36 64558727167,
 ⟨some 47,.bin .eql (some (.ar 8 1 false .int)) false (.t 41) (.t 46),some (36,true),137438953471,[47,36,41,46]⟩,
 oe 48 47 36 274877906943,
 om 49 48 549755813887,
 olg 50 1 49 1099511627775,
 og 51 4 49 1099511627775,
 oig 52 21 50 51 49 4398046511103,
 oag 53 19 52 49 8796093022207,
 olg 54 53 49 17592186044415,
 olg 55 1 49 1099511627775,
 og 56 5 49 1099511627775,
 oig 57 21 55 56 49 106652627894271,
 oag 58 19 57 49 247390116249599,
 olg 59 58 49 528865092960255,
 ⟨some 60,.call (.k (.func 62 [] [])) [(.t 54),(.t 59)],some (49,true),1125899906842623,[60,49,54,59]⟩,
 ong 61 60 49 2251799813685247,
 oe 62 61 49 4503599627370495]
theorem d54_3 (hx : XDO P E ro L r54_3 K ρ h Q) : XD P E ro L r54_3 K ρ h Q := XD_ord rfl hx
def r54_4 : List O := [ol 63 3 0,
 om 64 4 0,
 om 65 5 0,
 ⟨some 66,.build [(iI 0),(iI 0),(iI 0),(iI 0)] [(0,1,(.k (iI 4))),(1,1,(.t 64)),(2,1,(.t 65))],none,6,[66,64,65]⟩,
 ⟨some 67,.bslice 30 1 [(iI 0),(iI 0),(iI 0),(iI 0)] [(0,4,(.t 66))],none,14,[67,66]⟩,
 ⟨some 68,.app 30 4 32 (.t 63) (.t 67),none,31,[68,63,67]⟩,
 ost 1 3 68 63]
def b54_5 : C := .block 1 (.seq (.draw r54_3) (.cond (.t 62) (.region r54_4) (.skip)))
def r54_6 : List O := [ol 69 3 0,
 om 2 69 1]
def c54 : C := .seq (.region r54_0) (.seq (.region [⟨some 3,.alloc 24 [sN],none,0,[3]⟩]) (.seq (.seq (.region r54_1) (.block 0 (.range (.t 7) [8,9] a54_2 b54_5))) (.seq (.region r54_6) (.ret))))
def fn54 : Fn := ⟨70,[.t 2],c54⟩
def r55_0 : List O := [om 12 0 0,
 oL 13 12 1,
 ⟨some 14,.mv (.k (iI 0)),none,0,[14]⟩]
def r55_1 : List O := [om 16 14 0,
 oi 17 21 12 14 0,
 oN 18 21 17 2,
 ⟨some 5,.alloc 63 zVw,none,0,[5]⟩,
 om 4 16 15,
 ost 21 5 18 31]
def r55_2 : List O := [oa 19 2 5 0,
 ol 20 19 1,
 ono 21 20 3,
 om 22 21 7,
 oaf 23 4 5 22 15,
 olf 24 23 22 31,
 ⟨some 25,.un .not (.t 24),some (22,false),63,[25,22,24]⟩,
 ⟨some 26,.pick (.t 22) (.k (.bool true)) (.t 25),none,127,[26,22,25]⟩]
def r55_3 : List O := [om 27 0 0,
 oL 28 27 1,
 ⟨some 29,.mv (.k (iI 0)),none,0,[29]⟩]
def r55_4 : List O := [om 31 29 0,
 oi 32 21 27 29 0,
 oN 33 21 32 2,
 ⟨some 8,.alloc 63 zVw,none,0,[8]⟩,
 om 7 31 15,
 ost 21 8 33 31]
def r55_5 : List O := [oa 34 0 8 0,
 oa 35 0 34 1,
 ol 36 35 3,
 om 9 36 7]
def r55_6 : List O := [oa 37 2 8 0,
 ol 38 37 1,
 ono 39 38 3,
 om 40 39 7,
 oaf 41 4 8 40 15,
 olf 42 41 40 31,
 ⟨some 43,.un .not (.t 42),some (40,false),63,[43,40,42]⟩,
 ⟨some 44,.pick (.t 40) (.k (.bool true)) (.t 43),none,127,[44,40,43]⟩,
 om 45 44 255,
 ⟨some 46,.loadN 21 (.t 8),some (45,false),511,[46,45,8]⟩,
 ⟨some 47,.call (.k (.func 66 [] [])) [(.t 46)],some (45,false),1023,[47,45,46]⟩,
 ⟨some 48,.un .not (.t 47),some (45,false),2047,[48,45,47]⟩,
 ⟨some 49,.pick (.t 45) (.k (.bool true)) (.t 48),none,4095,[49,45,48]⟩,
 om 50 49 8191,
 oaf 51 0 5 50 16383,
 oaf 52 0 51 50 32767,
 olf 53 52 50 65535,
 ⟨some 54,.mv (.t 9),some (50,false),16383,[54,50,9]⟩,
 ⟨some 55,.bin .eql (some .int) false (.t 53) (.t 54),some (50,false),262143,[55,50,53,54]⟩,
 ⟨some 56,.pick (.t 50) (.k (.bool true)) (.t 55),none,524287,[56,50,55]⟩,
 om 57 56 1048575,
 ⟨some 58,.mv (.t 9),some (57,false),2097151,[58,57,9]⟩,
 ⟨some 59,.iadrA 8 1 (.t 6) (.t 58),some (57,false),4194303,[59,57,6,58]⟩,
 olf 60 59 57 8388607,
 ⟨some 61,.pick (.t 57) (.k (.bool true)) (.t 60),none,16777215,[61,57,60]⟩]
def r55_7 : List O := [om 62 0 0,
 oL 63 62 1,
 ⟨some 64,.mv (.k (iI 0)),none,0,[64]⟩]
def r55_8 : List O := [oi 66 21 62 64 0,
 oN 67 21 66 1,
 ⟨some 11,.alloc 63 zVw,none,0,[11]⟩,
 ost 21 11 67 7]
def r55_9 : List O := [oa 68 2 11 0,
 ol 69 68 1,
 om 70 69 3,
 oag 71 4 11 70 7,
 olg 72 71 70 15,
 oe 73 72 70 31,
 om 74 73 63,
 oag 75 0 11 74 127,
 oag 76 0 75 74 255,
 olg 77 76 74 511,
 og 78 9 74 127,
 oq 79 77 78 74 2047,
 oe 80 79 74 4095,
 om 81 80 8191,
 og 82 9 81 16383,
 oag 83 11 11 81 16383,
 ⟨some 84,.iadrA 8 1 (.t 83) (.t 82),some (81,true),65535,[84,81,83,82]⟩,
 olg 85 84 81 131071,
 og 86 9 81 16383,
 oag 87 11 5 81 16383,
 ⟨some 88,.iadrA 8 1 (.t 87) (.t 86),some (81,true),802815,[88,81,87,86]⟩,
 olg 89 88 81 1851391,
 ⟨some 90,.bin .geq (some .int) false (.t 85) (.t 89),some (81,true),4194303,[90,81,85,89]⟩,
 oe 91 90 81 8388607]
theorem d55_9 : XD P E ro L r55_9 K ρ h Q = XO P E ro L r55_9 K ρ h Q := XD_still rfl
def r55_10 : List O := [op1 92 64 0,
 om 64 92 1]
abbrev e55_11 : C := .seq (.region [olt 65 64 63 0]) (.seq (.cond (.t 65) (.skip) (.exit 4)) (.seq (.block 5 (.seq (.region r55_8) (.seq (.draw r55_9) (.cond (.t 91) (.exit 3) (.skip))))) (.region r55_10)))
def b55_11 : C := e55_11
theorem u55_11 : XL P E ro L b55_11 K ρ h Q = X P E ro L (.c e55_11 :: .l b55_11 :: K) ρ h Q := XL_unroll b55_11
def r55_12 : List O := [om 93 9 0,
 ⟨some 94,.iadrA 8 1 (.t 6) (.t 93),none,1,[94,6,93]⟩,
 ⟨none,.store 1 (.t 94) (.k (.bool true)),none,3,[94]⟩]
def r55_13 : List O := [om 95 3 0,
 om 96 4 0,
 om 97 7 0,
 ⟨some 98,.build [(iI 0),(iI 0),(iI 0),(iI 0)] [(0,1,(.k (iI 5))),(1,1,(.t 96)),(2,1,(.t 97))],none,6,[98,96,97]⟩,
 ⟨some 99,.bslice 30 1 [(iI 0),(iI 0),(iI 0),(iI 0)] [(0,4,(.t 98))],none,14,[99,98]⟩,
 ⟨some 100,.app 30 4 32 (.t 95) (.t 99),none,31,[100,95,99]⟩,
 om 3 100 63]
def r55_14 : List O := [op1 101 29 0,
 om 29 101 1]
abbrev e55_15 : C := .seq (.region [olt 30 29 28 0]) (.seq (.cond (.t 30) (.skip) (.exit 2)) (.seq (.block 3 (.seq (.region r55_4) (.seq (.region r55_5) (.seq (.seq (.region r55_6) (.cond (.t 61) (.exit 3) (.skip))) (.seq (.seq (.region r55_7) (.block 4 (.loop b55_11))) (.seq (.region r55_12) (.region r55_13))))))) (.region r55_14)))
def b55_15 : C := e55_15
theorem u55_15 : XL P E ro L b55_15 K ρ h Q = X P E ro L (.c e55_15 :: .l b55_15 :: K) ρ h Q := XL_unroll b55_15
def r55_16 : List O := [op1 102 14 0,
 om 14 102 1]
abbrev e55_17 : C := .seq (.region [olt 15 14 13 0]) (.seq (.cond (.t 15) (.skip) (.exit 0)) (.seq (.block 1 (.seq (.region r55_1) (.seq (.seq (.region r55_2) (.cond (.t 26) (.exit 1) (.skip))) (.seq (.region [⟨some 6,.alloc 125 [(.bool false),(.bool false),(.bool false),(.bool false),(.bool false),(.bool false),(.bool false),(.bool false)],none,0,[6]⟩]) (.seq (.skip) (.seq (.region r55_3) (.block 2 (.loop b55_15)))))))) (.region r55_16)))
def b55_17 : C := e55_17
theorem u55_17 : XL P E ro L b55_17 K ρ h Q = X P E ro L (.c e55_17 :: .l b55_17 :: K) ρ h Q := XL_unroll b55_17
def r55_18 : List O := [om 103 3 0,
 om 2 103 1]
def c55 : C := .seq (.region [⟨some 2,.mv (.k sN),none,0,[2]⟩]) (.seq (.region [⟨some 3,.mv (.k sN),none,0,[3]⟩]) (.seq (.seq (.region r55_0) (.block 0 (.loop b55_17))) (.seq (.region r55_18) (.ret))))
def fn55 : Fn := ⟨104,[.t 2],c55⟩
def r64_0 : List O := [⟨some 1,.box 22 (.t 0),none,0,[1,0]⟩,
 ⟨some 2,.mv (.k .nilFunc),none,0,[2]⟩]
def r64_1 : List O := [⟨some 3,.mkF 71 [] [(.t 1)],none,0,[3,1]⟩,
 om 2 3 1]
def c64 : C := .seq (.region r64_0) (.seq (.region r64_1) (.ret))
def fn64 : Fn := ⟨4,[.t 2],c64⟩
def r65_0 : List O := [⟨some 2,.box 63 (.t 0),none,0,[2,0]⟩,
 ⟨some 3,.box 63 (.t 1),none,0,[3,1]⟩,
 ⟨some 4,.mv (.k .nilFunc),none,0,[4]⟩]
def r65_1 : List O := [⟨some 5,.mkF 72 [] [(.t 2),(.t 3)],none,0,[5,2,3]⟩,
 om 4 5 1]
def c65 : C := .seq (.region r65_0) (.seq (.region r65_1) (.ret))
def fn65 : Fn := ⟨6,[.t 4],c65⟩
def r66_0 : List O := [⟨some 1,.box 63 (.t 0),none,0,[1,0]⟩,
 ⟨some 2,.mv (.k (.bool false)),none,0,[2]⟩]
def r66_1 : List O := [oa 3 0 1 0,
 oa 4 0 3 1,
 ol 5 4 3,
 ⟨some 6,.bin .geq (some .int) true (.t 5) (.k (iI 0)),none,7,[6,5]⟩,
 om 7 6 15,
 oag 8 0 1 7 31,
 oag 9 0 8 7 63,
 olg 10 9 7 127,
 ⟨some 11,.bin .lss (some .int) true (.t 10) (.k (iI 8)),some (7,true),255,[11,7,10]⟩,
 oe 12 11 7 511,
 om 2 12 1023]
def c66 : C := .seq (.region r66_0) (.seq (.region r66_1) (.ret))
def fn66 : Fn := ⟨13,[.t 2],c66⟩
def r71_0 : List O := [ol 5 1 0,
 oL 6 5 1,
 ⟨some 7,.mv (.k (iI 0)),none,0,[7]⟩]
def r71_1 : List O := [om 9 7 0,
 om 3 9 1]
def r71_2 : List O := [om 10 3 0,
 op1 11 10 1,
 om 4 11 3]
def r71_3 : List O := [om 12 4 0,
 ol 13 1 0,
 oL 14 13 2,
 olt 15 12 14 7]
def r71_4 : List O := [ol 18 1 0,
 om 19 3 0,
 oi 20 21 18 19 3,
 oa 21 2 20 7,
 ol 22 21 15,
 om 23 22 31,
 olg 24 1 23 63,
 og 25 4 23 63,
 oig 26 21 24 25 23 255,
 oag 27 2 26 23 511,
 olg 28 27 23 1023,
 oe 29 28 23 2047,
 om 30 29 4095,
 og 31 0 30 8191,
 og 32 3 30 8191,
 og 33 4 30 8191,
 ⟨some 34,.call (.t 31) [(.t 32),(.t 33)],some (30,true),65535,[34,30,31,32,33]⟩,
 ong 35 34 30 131071,
 oe 36 35 30 262143]
def r71_5 : List O := [om 16 4 0,
 op1 17 16 1,
 om 4 17 3]
abbrev e71_6 : C := .seq (.seq (.region r71_3) (.cond (.t 15) (.skip) (.exit 2))) (.seq (.block 3 (.seq (.region r71_4) (.cond (.t 36) (.ret) (.skip)))) (.region r71_5))
def b71_6 : C := e71_6
theorem u71_6 : XL P E ro L b71_6 K ρ h Q = X P E ro L (.c e71_6 :: .l b71_6 :: K) ρ h Q := XL_unroll b71_6
def r71_7 : List O := [op1 37 7 0,
 om 7 37 1]
abbrev e71_8 : C := .seq (.region [olt 8 7 6 0]) (.seq (.cond (.t 8) (.skip) (.exit 0)) (.seq (.block 1 (.seq (.region r71_1) (.seq (.region r71_2) (.block 2 (.loop b71_6))))) (.region r71_7)))
def b71_8 : C := e71_8
theorem u71_8 : XL P E ro L b71_8 K ρ h Q = X P E ro L (.c e71_8 :: .l b71_8 :: K) ρ h Q := XL_unroll b71_8
def c71 : C := .seq (.region r71_0) (.block 0 (.loop b71_8))
def fn71 : Fn := ⟨38,[],c71⟩
def r72_0 : List O := [oa 9 7 1 0,
 ol 10 9 1,
 oL 11 10 3,
 ⟨some 12,.mv (.k (iI 0)),none,0,[12]⟩]
def r72_1 : List O := [om 14 12 0,
 oi 15 56 10 12 0,
 oN 16 56 15 2,
 ⟨some 5,.alloc 49 [(iI 0),(iI 0),(iI 0),(iI 0),(iI 0),(iI 0),(iI 0),(iI 0),(.str []),(.str []),(.str []),(iI 0),(iI 0),sN,(iI 0),(iI 0),(iI 0),(iI 0),(iI 0),(iI 0),(iI 0),(iI 0),(iI 0),(iI 0),(iI 0),(iI 0),(iI 0),(iI 0),(iI 0),(iI 0),(iI 0),(iI 0),(iI 0),(iI 0),(iI 0),(iI 0),(iI 0),(iI 0),(iI 0),(iI 0),(iI 0),(iI 0),(iI 0),(iI 0),(iI 0),(iI 0),(iI 0),(iI 0),(iI 0),(iI 0),(iI 0),(iI 0),sN,(iI 0),(iI 0),(iI 0)],none,0,[5]⟩,
 om 4 14 15,
 ost 56 5 16 31]
def r72_2 : List O := [oa 17 6 1 0,
 ol 18 17 1,
 om 19 4 0,
 ⟨some 20,.bin .add (some .int) false (.t 18) (.t 19),none,7,[20,18,19]⟩,
 om 6 20 15]
def r72_3 : List O := [oN 22 21 2 0,
 om 23 6 0,
 ⟨some 24,.call (.k (.func 31 [] [])) [(.t 22),(.t 23)],none,3,[24,22,23]⟩,
 om 21 24 7,
 ox 25 21 0 15,
 ox 26 21 1 15,
 ⟨some 7,.alloc 49 [(iI 0),(iI 0),(iI 0),(iI 0),(iI 0),(iI 0),(iI 0),(iI 0),(.str []),(.str []),(.str []),(iI 0),(iI 0),sN,(iI 0),(iI 0),(iI 0),(iI 0),(iI 0),(iI 0),(iI 0),(iI 0),(iI 0),(iI 0),(iI 0),(iI 0),(iI 0),(iI 0),(iI 0),(iI 0),(iI 0),(iI 0),(iI 0),(iI 0),(iI 0),(iI 0),(iI 0),(iI 0),(iI 0),(iI 0),(iI 0),(iI 0),(iI 0),(iI 0),(iI 0),(iI 0),(iI 0),(iI 0),(iI 0),(iI 0),(iI 0),(iI 0),sN,(iI 0),(iI 0),(iI 0)],none,0,[7]⟩,
 ost 56 7 25 95,
 om 8 26 255]
def r72_4 : List O := [om 27 8 0,
 om 28 27 1,
 oNg 29 56 5 28 3,
 oNg 30 56 7 28 3,
 ⟨some 31,.call (.k (.func 39 [] [])) [(.t 29),(.t 30)],some (28,true),15,[31,28,29,30]⟩,
 ong 32 31 28 31,
 oe 33 32 28 63,
 om 34 33 127,
 og 35 0 34 255,
 og 36 6 34 255,
 ⟨some 37,.call (.t 35) [(.t 36)],some (34,true),1023,[37,34,35,36]⟩,
 ong 38 37 34 2047,
 oe 39 38 34 4095]
def r72_5 : List O := [op1 40 12 0,
 om 12 40 1]
abbrev e72_6 : C := .seq (.region [olt 13 12 11 0]) (.seq (.cond (.t 13) (.skip) (.exit 0)) (.seq (.block 1 (.seq (.region r72_1) (.seq (.region r72_2) (.seq (.region r72_3) (.seq (.region r72_4) (.cond (.t 39) (.ret) (.skip))))))) (.region r72_5)))
def b72_6 : C := e72_6
theorem u72_6 : XL P E ro L b72_6 K ρ h Q = X P E ro L (.c e72_6 :: .l b72_6 :: K) ρ h Q := XL_unroll b72_6
def c72 : C := .seq (.region r72_0) (.block 0 (.loop b72_6))
def fn72 : Fn := ⟨41,[],c72⟩
end Go.AM.Sc
namespace Go.AM
variable {P : Program} {E : Env}
inductive NC (P : Program) (E : Env) (ro : Option Nat) : C → St → (Ex → St → Prop) → Prop
 | det {c : C} {s s' : St} {ex : Ex} {R : Ex → St → Prop} : (∀ b,c ≠ .loop b) → EC P E ro c s = some (ex,s') → R ex s' → NC P E ro c s R
 | seq {a b : C} {s : St} {M R : Ex → St → Prop} : NC P E ro a s M → (∀ s',M .nrm s' → NC P E ro b s' R) → (∀ ex s',ex ≠ .nrm → M ex s' → R ex s') → NC P E ro (.seq a b) s R
 | condT {c : A} {a b : C} {s : St} {R : Ex → St → Prop} : c.ev s.1 = some (.bool true) → NC P E ro a s R → NC P E ro (.cond c a b) s R
 | condF {c : A} {a b : C} {s : St} {R : Ex → St → Prop} : c.ev s.1 = some (.bool false) → NC P E ro b s R → NC P E ro (.cond c a b) s R
 | block {id : Nat} {b : C} {s : St} {M R : Ex → St → Prop} : NC P E ro b s M → (∀ s',M .nrm s' → R .nrm s') → (∀ s',M .ret s' → R .ret s') → (∀ i s',M (.exit i) s' → if i = id then R .nrm s' else R (.exit i) s') → NC P E ro (.block id b) s R
 | loop {b : C} {s : St} {M R : Ex → St → Prop} : NC P E ro b s M → (∀ s',M .nrm s' → NC P E ro (.loop b) s' R) → (∀ ex s',ex ≠ .nrm → M ex s' → R ex s') → NC P E ro (.loop b) s R
 | next {o : O} {rest : List O} {s : St} {l : List (V × H)} {x : A} {R : Ex → St → Prop} : o.op = .next false x → o.guard = none → nexts s.1 s.2 x = some l → (∀ p ∈ l, ∃ s',evOs P (AP P E) rest (putV s.1 o.dst p.1) p.2 = some s' ∧ R .nrm s') → NC P E ro (.region (o :: rest)) s R
section
variable {F : Fence} {n : Nat}
def Lp (F : Fence) (n : Nat) (P : Program) (c : Code) (Q : Exit → Act → World → Prop) (a : Act) (w : World) : Prop :=
 ∀ (b : Frame) (k : List Item) (cs : List Frame),b.roundOf = F.round → F.fn b.fn → F.room (cs.length + 1 + n) →
  ∃ e a' w',Q e a' w' ∧ ArrivesIn (Machine.fenced P F) P (lone (b.atR a (.code c :: .inLoop c :: k)) cs w) b k cs e a' w'
theorem Lp.wp {c : Code} {Q : Exit → Act → World → Prop} {a : Act} {w : World} (h : Lp F n P c Q a w) : (Code.loop c).wpIn F n P Q a w := by
 intro b k cs hro hb hr
 obtain ⟨e,a',w',hq,harr⟩ := h b k cs hro hb hr
 exact ⟨e,a',w',hq,.of_steps (.one (fenced_calm hb hr rfl) stepR_loop) harr⟩
theorem Lp.round {c : Code} {Q : Exit → Act → World → Prop} {a : Act} {w : World} (h : c.wpIn F n P (Exit.then (Lp F n P c Q) Q) a w) : Lp F n P c Q a w := by
 intro b k cs hro hb hr
 obtain ⟨e,a₁,w₁,hq,harr⟩ := h b (.inLoop c :: k) cs hro hb hr
 cases e with
 | normal =>
  obtain ⟨e₂,a₂,w₂,hq₂,harr₂⟩ := hq b k cs hro hb hr
  exact ⟨e₂,a₂,w₂,hq₂,.of_steps (StepsIn.trans harr (.one (fenced_calm hb hr rfl) stepR_inLoop)) harr₂⟩
 | exit id => exact ⟨_,a₁,w₁,hq,.pass (x := .inLoop c) rfl (fun _ _ => .inl (by simp)) harr⟩
 | goto l => exact ⟨_,a₁,w₁,hq,.pass (x := .inLoop c) rfl (fun _ _ => .inl (by simp)) harr⟩
 | ret => exact ⟨_,a₁,w₁,hq,.pass (x := .inLoop c) rfl (fun _ _ => .inl (by simp)) harr⟩
 | panic ch => exact ⟨_,a₁,w₁,hq,.pass (x := .inLoop c) rfl (fun _ _ => .inl (by simp)) harr⟩
 | outgrown => exact ⟨_,a₁,w₁,hq,.pass (x := .inLoop c) rfl (fun _ _ => .inl (by simp)) harr⟩
end
theorem ncR_any {ap : Ap} (ha : ApOK P ap) {ops : Array Oper} {m0 : Mp} {h0 : H} {w0 : World} {ds : List Deferred} {ro : Option Nat} {n : Nat} {Q : Exit → Act → World → Prop} {R : St → Prop} {T : List V} {h : H} {o : O} {rest : List O} {x : A} {lst : List (V × H)}
  (eop : o.op = .next false x) (egd : o.guard = none) (hn : nexts T h x = some lst) (hall : ∀ p ∈ lst, ∃ s',evOs P ap rest (putV T o.dst p.1) p.2 = some s' ∧ R s')
  (hQ : ∀ s' m' w' a',R s' → Mid P m0 h0 w0 m' s'.2 w' s'.1 ds a' → Q .normal a' w') {os : List Oper} (hl : OpsOK P (ops.toList.map (·.dst)) os (o :: rest))
  {m : Mp} {w : World} {a : Act} (md : Mid P m0 h0 w0 m h w T ds a) : wpListIn (FF ro) n P ops Q os a w := by
 cases os with
 | nil => cases hl
 | cons o' os' =>
  obtain ⟨k,g,oo,l',h1,h2,h3,h4,h5,h6,hoo⟩ := hl
  cases hoo
  rw [eop] at h3
  subst h3
  rw [egd] at h4
  subst h4
  obtain ⟨y,ho,hy⟩ := cK_next h1
  obtain ⟨v,h',hmem,m',w',z,k1,k2,k3,k4⟩ := next_any md.cx ho hy hn
  simp only [wpListIn]
  rw [wanted_sound md.cx.tr h2]
  rw [if_pos (show wantV T none = true from rfl)]
  refine ⟨fun _ _ => trivial,?_⟩
  rw [Oper.semAt_eq _ _ _ (cK_noDefer h1),k4]
  obtain ⟨s',e,hr⟩ := hall (v,h') hmem
  rw [h5] at e
  exact ops_sound ha (fun m' w' a' md' => hQ s' m' w' a' hr md') os' _ h6 _ _ e m' w' _ (md.put k3 k1 k2 o'.dst)
theorem cRegion_shape {ops : List Oper} {d : Bool} {c : C} (h : cRegion P ops d = some c) : (∃ l,c = .draw l ∧ d = true) ∨ ∃ l,c = .region l ∧ cOsFrom P (ops.map (·.dst)) ops [] = some l ∧ d = false := by
 unfold cRegion at h
 split at h
 ·cases h
 ·rename_i l hl
  cases d with
  | true =>
   simp only [if_true] at h
   split at h
   ·simp only [Option.some.injEq] at h
    exact .inl ⟨_,h.symm,rfl⟩
   ·cases h
  | false =>
   simp only [Bool.false_eq_true,if_false,Option.some.injEq] at h
   exact .inr ⟨l,h.symm,hl,rfl⟩
def CInv (P : Program) (c : C) (x : Code) : Prop := match c with
 | .seq a b => ∃ y z,x = .seq y z ∧ cC P y = some a ∧ cC P z = some b
 | .cond c a b => ∃ c' y z,x = .cond c' y z ∧ cA P c' = some c ∧ cC P y = some a ∧ cC P z = some b
 | .block id b => ∃ y,x = .block id y ∧ cC P y = some b
 | .loop b => ∃ y,x = .loop y ∧ cC P y = some b
 | .region l => ∃ i ops,x = .region i ops false ∧ cOsFrom P (ops.toList.map (·.dst)) ops.toList [] = some l
 | _ => True
theorem cC_inv {x : Code} {c : C} (hn : ∀ y,x ≠ .scope y) (h : cC P x = some c) : CInv P c x := by
 cases x with
 | scope y => exact (hn y rfl).elim
 | region i ops d =>
  simp only [cC] at h
  rcases cRegion_shape h with ⟨l,rfl,rfl⟩ | ⟨l,rfl,hl,rfl⟩
  ·trivial
  ·exact ⟨i,ops,rfl,hl⟩
 | seq y z =>
  simp only [cC] at h
  split at h <;> cases h
  exact ⟨y,z,rfl,by assumption,by assumption⟩
 | cond c' y z =>
  simp only [cC] at h
  split at h <;> cases h
  exact ⟨c',y,z,rfl,by assumption,by assumption,by assumption⟩
 | block id y =>
  simp only [cC,Option.map_eq_some_iff] at h
  obtain ⟨b,h1,rfl⟩ := h
  exact ⟨y,rfl,h1⟩
 | loop y =>
  simp only [cC,Option.map_eq_some_iff] at h
  obtain ⟨b,h1,rfl⟩ := h
  exact ⟨y,rfl,h1⟩
 | rangeFunc f ps x y =>
  simp only [cC] at h
  split at h <;> cases h
  trivial
 | skip => simp only [cC] at h; cases h; trivial
 | label _ => simp only [cC] at h; cases h; trivial
 | exit _ => simp only [cC] at h; cases h; trivial
 | ret => simp only [cC] at h; cases h; trivial
 | refuse _ => simp only [cC] at h; cases h; trivial
 | goto _ => simp only [cC] at h; cases h
theorem strip {c : C} {p : Code → Prop} (hs : ∀ x,p x → p (.scope x)) (hn : ∀ x,CInv P c x → p x) : ∀ x,cC P x = some c → p x := by
 intro x
 induction x with
 | scope y ih => intro h; exact hs y (ih (by simpa only [cC] using h))
 | _ => intro h; exact hn _ (cC_inv (by intro y e; cases e) h)
def Snds (P : Program) (ro R' : Option Nat) (B : Nat) (R : Ex → St → Prop) (s : St) (f : (Exit → Act → World → Prop) → Act → World → Prop) : Prop :=
 ∀ {Q : Exit → Act → World → Prop} {m : Mp} {w : World} {a : Act},Cx P m s.2 w s.1 a → RoR m ro R' → DefOK B m s.2 w a.defers →
  (∀ ex s' m' w' a',R ex s' → At P B m s.2 w m' s'.2 w' s'.1 a' → Q (exR ex) a' w') → f Q a w
theorem NC_sound (hmix : P.follows .mixedOrders = true) {prim : Nat → Option (List V → H → Option (V × H))} (hp : PrimOK P prim) {ro R' : Option Nat} {B n : Nat} {c : C} {s : St} {R : Ex → St → Prop} (hN : NC P (envOf P prim) ro c s R) :
  (∀ x,cC P x = some c → Snds P ro R' B R s (x.wpIn (FF R') n P)) ∧ (∀ cb,c = .loop cb → ∀ x,cC P x = some cb → Snds P ro R' B R s (Lp (FF R') n P x)) := by
 have scope : ∀ {s : St} {R : Ex → St → Prop} (x : Code),Snds P ro R' B R s (x.wpIn (FF R') n P) → Snds P ro R' B R s ((Code.scope x).wpIn (FF R') n P) := by
  intro s R x hx Q m w a cx hro hd hQ
  refine wpIn_scope_straight (hx cx hro hd fun ex s' m' w' a' hr hat => ?_)
  have := hQ ex s' m' w' a' hr hat
  cases ex <;> exact this
 induction hN with
 | det hnl he hR =>
  rename_i c s s' ex R
  refine ⟨fun x hx Q m w a cx hro hd hQ => ?_,fun cb e => (hnl cb e).elim⟩
  obtain ⟨k,hk⟩ := EC_iff.1 he
  exact code_sound hmix (ap_sound hmix hp k) x c hx (ex := ex) (T' := s'.1) (h' := s'.2) hk cx hro hd fun m' w' a' hat => hQ ex s' m' w' a' hR hat
 | seq h1 h2 h3 ih1 ih2 =>
  rename_i a b s M R
  refine ⟨strip scope fun x hx => ?_,fun cb e => by cases e⟩
  obtain ⟨y,z,rfl,e1,e2⟩ := hx
  intro Q m w a cx hro hd hQ
  refine wpIn_seq (ih1.1 y e1 cx hro hd fun ex s1 m1 w1 a1 hr hat => ?_)
  cases ex with
  | nrm => exact (ih2 s1 hr).1 z e2 hat.cx (hro.ext hat.ext.sub) hat.dfr fun ex s' m' w' a' hr' hat' => hQ ex s' m' w' a' hr' ⟨hat'.cx,hat.ext.trans hat'.ext,hat'.dfr⟩
  | exit id => exact hQ (.exit id) s1 m1 w1 a1 (h3 _ _ (by simp) hr) hat
  | ret => exact hQ .ret s1 m1 w1 a1 (h3 _ _ (by simp) hr) hat
 | condT he h1 ih =>
  rename_i c a b s R
  refine ⟨strip scope fun x hx => ?_,fun cb e => by cases e⟩
  obtain ⟨c',y,z,rfl,e1,e2,e3⟩ := hx
  intro Q m w a cx hro hd hQ
  exact wpIn_cond (t := true) (cx.av e1 he) (ih.1 y e2 cx hro hd hQ)
 | condF he h1 ih =>
  rename_i c a b s R
  refine ⟨strip scope fun x hx => ?_,fun cb e => by cases e⟩
  obtain ⟨c',y,z,rfl,e1,e2,e3⟩ := hx
  intro Q m w a cx hro hd hQ
  exact wpIn_cond (t := false) (cx.av e1 he) (ih.1 z e3 cx hro hd hQ)
 | block h1 h2 h3 h4 ih =>
  rename_i id b s M R
  refine ⟨strip scope fun x hx => ?_,fun cb e => by cases e⟩
  obtain ⟨y,rfl,e1⟩ := hx
  intro Q m w a cx hro hd hQ
  refine wpIn_block (ih.1 y e1 cx hro hd fun ex s1 m1 w1 a1 hr hat => ?_)
  cases ex with
  | nrm => exact hQ .nrm s1 m1 w1 a1 (h2 _ hr) hat
  | ret => exact hQ .ret s1 m1 w1 a1 (h3 _ hr) hat
  | exit id' =>
   have hr := h4 _ _ hr
   split at hr
   ·rename_i hid
    simp only [exR,Exit.inBlock,hid,if_true]
    exact hQ .nrm s1 m1 w1 a1 hr hat
   ·rename_i hid
    simp only [exR,Exit.inBlock,hid,if_false]
    exact hQ (.exit id') s1 m1 w1 a1 hr hat
 | loop h1 h2 h3 ih1 ih2 =>
  rename_i b s M R
  have key : ∀ cb,C.loop b = .loop cb → ∀ x,cC P x = some cb → Snds P ro R' B R s (Lp (FF R') n P x) := by
   intro cb e x hx Q m w a cx hro hd hQ
   cases e
   refine Lp.round (ih1.1 x hx cx hro hd fun ex s1 m1 w1 a1 hr hat => ?_)
   cases ex with
   | nrm => exact (ih2 s1 hr).2 b rfl x hx hat.cx (hro.ext hat.ext.sub) hat.dfr fun ex s' m' w' a' hr' hat' => hQ ex s' m' w' a' hr' ⟨hat'.cx,hat.ext.trans hat'.ext,hat'.dfr⟩
   | exit id => exact hQ (.exit id) s1 m1 w1 a1 (h3 _ _ (by simp) hr) hat
   | ret => exact hQ .ret s1 m1 w1 a1 (h3 _ _ (by simp) hr) hat
  refine ⟨strip scope fun x hx => ?_,key⟩
  obtain ⟨y,rfl,e1⟩ := hx
  intro Q m w a cx hro hd hQ
  exact Lp.wp (key b rfl y e1 cx hro hd hQ)
 | next ho hg hl hall =>
  rename_i o rest s l x R
  refine ⟨strip scope fun y hy => ?_,fun cb e => by cases e⟩
  obtain ⟨i,ops,rfl,e1⟩ := hy
  intro Q m w a cx hro hd hQ
  obtain ⟨k,hk⟩ : ∃ k, ∀ p ∈ l, ∃ s',evOs P (ap P (envOf P prim) k) rest (putV s.1 o.dst p.1) p.2 = some s' ∧ R .nrm s' := by
   clear hl
   induction l with
   | nil => exact ⟨0,by simp⟩
   | cons p l ihl =>
    obtain ⟨k1,hk1⟩ := ihl fun q hq => hall q (List.mem_cons_of_mem _ hq)
    obtain ⟨s',es,hr⟩ := hall p List.mem_cons_self
    obtain ⟨k2,hk2⟩ := evOs_lim rest es
    refine ⟨max k1 k2,fun q hq => ?_⟩
    rcases List.mem_cons.1 hq with rfl | hq
    ·exact ⟨s',evOs_mono (ap_mono P _ (Nat.le_max_right k1 k2)) _ hk2,hr⟩
    ·obtain ⟨s2,e2,r2⟩ := hk1 q hq
     exact ⟨s2,evOs_mono (ap_mono P _ (Nat.le_max_left k1 k2)) _ e2,r2⟩
  refine wpIn_region_list (ncR_any (ap_sound hmix hp k) ho hg hl hk (R := fun s' => R .nrm s') (fun s' m' w' a' hr md => hQ .nrm s' m' w' a' hr ⟨md.cx,md.ext,by rw [md.defers]; exact hd.ext md.ext⟩) (cOsFrom_ok _ _ _ e1) ⟨cx,Ext.refl _ _ _,rfl⟩)
end Go.AM
