/- My own texts, laid for this claim. -/
import Derived.Test.YtelbgimbkfjabaaAf9ToAg5
set_option linter.unusedSimpArgs false
set_option linter.unusedVariables false
namespace Go.AM.Sc
open Go.AM
variable {P : Program} {E : Env} {ap : Ap}
theorem dr_pur {o : O} {r : List O} {T : List V} {h : H} {v : V} {es : List Ent} {s : List V × H} (hg : o.guard = none) (hk : evK P T h o.op = some (.pur v)) (hx : evDr P ap r (putV T o.dst v) h = some (es,s)) : evDr P ap (o :: r) T h = some (⟨T,h,h,v,false,false⟩ :: es,s) := by
 simp only [evDr,hg,wantV_none,if_true,hk,hx,Option.map_some]
theorem dr_rd {o : O} {r : List O} {T : List V} {h : H} {v : V} {es : List Ent} {s : List V × H} (hg : o.guard = none) (hk : evK P T h o.op = some (.rd v)) (hx : evDr P ap r (putV T o.dst v) h = some (es,s)) : evDr P ap (o :: r) T h = some (⟨T,h,h,v,false,true⟩ :: es,s) := by
 simp only [evDr,hg,wantV_none,if_true,hk,hx,Option.map_some]
theorem dr_eff {o : O} {r : List O} {T : List V} {h h' : H} {v : V} {es : List Ent} {s : List V × H} (hg : o.guard = none) (hk : evK P T h o.op = some (.eff v h')) (hx : evDr P ap r (putV T o.dst v) h' = some (es,s)) : evDr P ap (o :: r) T h = some (⟨T,h,h',v,true,false⟩ :: es,s) := by
 simp only [evDr,hg,wantV_none,if_true,hk,hx,Option.map_some]
theorem dr_call {o : O} {r : List O} {T : List V} {h h' : H} {f v : V} {args : List V} {es : List Ent} {s : List V × H} (hg : o.guard = none) (hk : evK P T h o.op = some (.call f args)) (ha : ap f args h = some (v,h')) (hx : evDr P ap r (putV T o.dst v) h' = some (es,s)) : evDr P ap (o :: r) T h = some (⟨T,h,h',v,true,false⟩ :: es,s) := by
 simp only [evDr,hg,wantV_none,if_true,hk,ha,hx,Option.map_some]
theorem draw_of {ops : List O} {T : List V} {h : H} {es : List Ent} {s : List V × H} (he : evDr P ap ops T h = some (es,s)) (hc : (chainF (actsF ops es 0) && floatOk (actsF ops es 0) ops) = true) (hr : rdsOk P (actsOf ops es 0) h ops es 0 = true) : evDraw P ap ops T h = some s := by
 obtain ⟨T',h'⟩ := s
 unfold evDraw
 rw [he]
 simp only [hc,hr,Bool.and_self,Bool.or_true,if_true]
theorem cas7_6 {ρ : Nat → V} {h h1 h2 h3 : H} {S : List Fr} {Q : Po} {t : Nat} {o0 o1 o2 o3 o4 o5 lv a b v1 v2 : V} (hs1 : IsSl o1) (hs2 : IsSl v2) (w3 : ρ 3 = pP t) (w0 : ρ 0 = lv) (w4 : ρ 4 = a) (w5 : ρ 5 = b)
  (gt : cC h t [o0,o1,o2,o3,o4,o5] 68) (gt1 : cC h1 t [o0,o1,o2,o3,o4,o5] 68)
  (e1 : AP P E (.func 19 [] []) [lv,a,b] h = some (v1,h1)) (e2 : appV h1 30 4 32 o1 v1 = some (.eff v2 h2)) (e3 : putCells h2 t 1 [v2] = some h3)
  (hX : ∀ ρ' : Nat → V,(∀ i,i < 46 → ρ' i = ρ i) → X P E none 169 S ρ' h3 Q) : XD P E none 169 r7_6 S ρ h Q := by
 have hnj : V.beq o1 o1 = true := V.beq_refl _ (by obtain ⟨_,_,_,_,rfl⟩ := hs1; rfl)
 obtain ⟨q1,q2,q3,q4,rfl⟩ := hs2
 have k0 : evK P (toL 169 ρ) h (.iadrA 6 1 (.t 3) (.k (iI 1))) = some (.pur (.ptr (some (t,1)))) := by
  simp (maxSteps := 2000000) [evK,evs_cons,evs_nil,ev_t,ev_k,up_app,V.cells,w3]
 have k1 : evK P (toL 169 (up ρ 46 (.ptr (some (t,1))))) h (.load1 (.t 46)) = some (.rd o1) := by
  simp (maxSteps := 2000000) [evK,evs_cons,evs_nil,ev_t,ev_k,up_app,V.cells,gt]
 have m0 : evK P (toL 169 (up (up ρ 46 (.ptr (some (t,1)))) 47 o1)) h (.mv (.t 0)) = some (.pur lv) := by
  simp (maxSteps := 2000000) [evK,evs_cons,evs_nil,ev_t,ev_k,up_app,V.cells,w0]
 have m1 : evK P (toL 169 (up (up (up ρ 46 (.ptr (some (t,1)))) 47 o1) 48 lv)) h (.mv (.t 4)) = some (.pur a) := by
  simp (maxSteps := 2000000) [evK,evs_cons,evs_nil,ev_t,ev_k,up_app,V.cells,w4]
 have m2 : evK P (toL 169 (up (up (up (up ρ 46 (.ptr (some (t,1)))) 47 o1) 48 lv) 49 a)) h (.mv (.t 5)) = some (.pur b) := by
  simp (maxSteps := 2000000) [evK,evs_cons,evs_nil,ev_t,ev_k,up_app,V.cells,w5]
 have kc : evK P (toL 169 (up (up (up (up (up ρ 46 (.ptr (some (t,1)))) 47 o1) 48 lv) 49 a) 50 b)) h (.call (.k (.func 19 [] [])) [(.t 48),(.t 49),(.t 50)]) = some (.call (.func 19 [] []) [lv,a,b]) := by
  simp (maxSteps := 2000000) [evK,evs_cons,evs_nil,ev_t,ev_k,up_app,V.cells]
 have ka : evK P (toL 169 (up (up (up (up (up (up ρ 46 (.ptr (some (t,1)))) 47 o1) 48 lv) 49 a) 50 b) 51 v1)) h1 (.app 30 4 32 (.t 47) (.t 51)) = some (.eff (.slice q1 q2 q3 q4) h2) := by
  simp (maxSteps := 2000000) [evK,evs_cons,evs_nil,ev_t,ev_k,up_app,V.cells,e2]
 have ki : evK P (toL 169 (up (up (up (up (up (up (up ρ 46 (.ptr (some (t,1)))) 47 o1) 48 lv) 49 a) 50 b) 51 v1) 52 (.slice q1 q2 q3 q4))) h2 (.iadrA 6 1 (.t 3) (.k (iI 1))) = some (.pur (.ptr (some (t,1)))) := by
  simp (maxSteps := 2000000) [evK,evs_cons,evs_nil,ev_t,ev_k,up_app,V.cells,w3]
 have ks : evK P (toL 169 (up (up (up (up (up (up (up (up ρ 46 (.ptr (some (t,1)))) 47 o1) 48 lv) 49 a) 50 b) 51 v1) 52 (.slice q1 q2 q3 q4)) 53 (.ptr (some (t,1))))) h2 (.store 1 (.t 53) (.t 52)) = some (.eff undefV h3) := by
  simp (maxSteps := 2000000) [evK,evs_cons,evs_nil,ev_t,ev_k,up_app,V.cells,e3]
 have k1' : evK P (toL 169 (up ρ 46 (.ptr (some (t,1))))) h1 (.load1 (.t 46)) = some (.rd o1) := by
  simp (maxSteps := 2000000) [evK,ev_t,up_app,gt1]
 have he : evDr P (AP P E) r7_6 (toL 169 ρ) h = some ([⟨toL 169 ρ,h,h,.ptr (some (t,1)),false,false⟩,⟨toL 169 (up ρ 46 (.ptr (some (t,1)))),h,h,o1,false,true⟩,⟨toL 169 (up (up ρ 46 (.ptr (some (t,1)))) 47 o1),h,h,lv,false,false⟩,⟨toL 169 (up (up (up ρ 46 (.ptr (some (t,1)))) 47 o1) 48 lv),h,h,a,false,false⟩,⟨toL 169 (up (up (up (up ρ 46 (.ptr (some (t,1)))) 47 o1) 48 lv) 49 a),h,h,b,false,false⟩,⟨toL 169 (up (up (up (up (up ρ 46 (.ptr (some (t,1)))) 47 o1) 48 lv) 49 a) 50 b),h,h1,v1,true,false⟩,⟨toL 169 (up (up (up (up (up (up ρ 46 (.ptr (some (t,1)))) 47 o1) 48 lv) 49 a) 50 b) 51 v1),h1,h2,.slice q1 q2 q3 q4,true,false⟩,⟨toL 169 (up (up (up (up (up (up (up ρ 46 (.ptr (some (t,1)))) 47 o1) 48 lv) 49 a) 50 b) 51 v1) 52 (.slice q1 q2 q3 q4)),h2,h2,.ptr (some (t,1)),false,false⟩,⟨toL 169 (up (up (up (up (up (up (up (up ρ 46 (.ptr (some (t,1)))) 47 o1) 48 lv) 49 a) 50 b) 51 v1) 52 (.slice q1 q2 q3 q4)) 53 (.ptr (some (t,1)))),h2,h3,undefV,true,false⟩],(toL 169 (up (up (up (up (up (up (up (up ρ 46 (.ptr (some (t,1)))) 47 o1) 48 lv) 49 a) 50 b) 51 v1) 52 (.slice q1 q2 q3 q4)) 53 (.ptr (some (t,1)))),h3)) := by
  refine dr_pur rfl k0 ?_
  rw [putV_some]
  refine dr_rd rfl k1 ?_
  rw [putV_some]
  refine dr_pur rfl m0 ?_
  rw [putV_some]
  refine dr_pur rfl m1 ?_
  rw [putV_some]
  refine dr_pur rfl m2 ?_
  rw [putV_some]
  refine dr_call rfl kc e1 ?_
  rw [putV_some]
  refine dr_eff rfl ka ?_
  rw [putV_some]
  refine dr_pur rfl ki ?_
  rw [putV_some]
  exact dr_eff rfl ks rfl
 refine ⟨toL 169 (up (up (up (up (up (up (up (up ρ 46 (.ptr (some (t,1)))) 47 o1) 48 lv) 49 a) 50 b) 51 v1) 52 (.slice q1 q2 q3 q4)) 53 (.ptr (some (t,1)))),h3,draw_of he rfl ?_,hX _ ?_⟩
 ·have s0 : sameAt P ⟨some 47,.load1 (.t 46),none,1,[47,46]⟩ ⟨toL 169 (up ρ 46 (.ptr (some (t,1)))),h,h,o1,false,true⟩ h = true := by
   simp only [sameAt,k1,hnj]
  have s1 : sameAt P ⟨some 47,.load1 (.t 46),none,1,[47,46]⟩ ⟨toL 169 (up ρ 46 (.ptr (some (t,1)))),h,h,o1,false,true⟩ h1 = true := by
   simp only [sameAt,k1',hnj]
  simp only [r7_6,actsOf,rdsOk,readsOk,s0,s1,Bool.not_false,Bool.not_true,Bool.true_or,Bool.false_or,Bool.or_true,Bool.true_and,Bool.and_true,if_true,Bool.false_eq_true,if_false]
  rfl
 ·intro i hi
  simp only [up_app]
  repeat rw [if_neg (by omega)]
theorem cas7_17 {ρ : Nat → V} {h h1 h2 h3 : H} {S : List Fr} {Q : Po} {t : Nat} {o0 o1 o2 o3 o4 o5 lv a v1 v2 : V} (hs1 : IsSl o5) (hs2 : IsSl v2) (w3 : ρ 3 = pP t) (w0 : ρ 0 = lv) (w4 : ρ 4 = a)
  (gt : cC h t [o0,o1,o2,o3,o4,o5] 68) (gt1 : cC h1 t [o0,o1,o2,o3,o4,o5] 68)
  (e1 : AP P E (.func 24 [] []) [lv,a] h = some (v1,h1)) (e2 : appV h1 30 4 32 o5 v1 = some (.eff v2 h2)) (e3 : putCells h2 t 5 [v2] = some h3)
  (hX : ∀ ρ' : Nat → V,(∀ i,i < 46 → ρ' i = ρ i) → X P E none 169 S ρ' h3 Q) : XD P E none 169 r7_17 S ρ h Q := by
 have hnj : V.beq o5 o5 = true := V.beq_refl _ (by obtain ⟨_,_,_,_,rfl⟩ := hs1; rfl)
 obtain ⟨q1,q2,q3,q4,rfl⟩ := hs2
 have k0 : evK P (toL 169 ρ) h (.iadrA 6 1 (.t 3) (.k (iI 5))) = some (.pur (.ptr (some (t,5)))) := by
  simp (maxSteps := 2000000) [evK,evs_cons,evs_nil,ev_t,ev_k,up_app,V.cells,w3]
 have k1 : evK P (toL 169 (up ρ 152 (.ptr (some (t,5))))) h (.load1 (.t 152)) = some (.rd o5) := by
  simp (maxSteps := 2000000) [evK,evs_cons,evs_nil,ev_t,ev_k,up_app,V.cells,gt]
 have m0 : evK P (toL 169 (up (up ρ 152 (.ptr (some (t,5)))) 153 o5)) h (.mv (.t 0)) = some (.pur lv) := by
  simp (maxSteps := 2000000) [evK,evs_cons,evs_nil,ev_t,ev_k,up_app,V.cells,w0]
 have m1 : evK P (toL 169 (up (up (up ρ 152 (.ptr (some (t,5)))) 153 o5) 154 lv)) h (.mv (.t 4)) = some (.pur a) := by
  simp (maxSteps := 2000000) [evK,evs_cons,evs_nil,ev_t,ev_k,up_app,V.cells,w4]
 have kc : evK P (toL 169 (up (up (up (up ρ 152 (.ptr (some (t,5)))) 153 o5) 154 lv) 155 a)) h (.call (.k (.func 24 [] [])) [(.t 154),(.t 155)]) = some (.call (.func 24 [] []) [lv,a]) := by
  simp (maxSteps := 2000000) [evK,evs_cons,evs_nil,ev_t,ev_k,up_app,V.cells]
 have ka : evK P (toL 169 (up (up (up (up (up ρ 152 (.ptr (some (t,5)))) 153 o5) 154 lv) 155 a) 156 v1)) h1 (.app 30 4 32 (.t 153) (.t 156)) = some (.eff (.slice q1 q2 q3 q4) h2) := by
  simp (maxSteps := 2000000) [evK,evs_cons,evs_nil,ev_t,ev_k,up_app,V.cells,e2]
 have ki : evK P (toL 169 (up (up (up (up (up (up ρ 152 (.ptr (some (t,5)))) 153 o5) 154 lv) 155 a) 156 v1) 157 (.slice q1 q2 q3 q4))) h2 (.iadrA 6 1 (.t 3) (.k (iI 5))) = some (.pur (.ptr (some (t,5)))) := by
  simp (maxSteps := 2000000) [evK,evs_cons,evs_nil,ev_t,ev_k,up_app,V.cells,w3]
 have ks : evK P (toL 169 (up (up (up (up (up (up (up ρ 152 (.ptr (some (t,5)))) 153 o5) 154 lv) 155 a) 156 v1) 157 (.slice q1 q2 q3 q4)) 158 (.ptr (some (t,5))))) h2 (.store 1 (.t 158) (.t 157)) = some (.eff undefV h3) := by
  simp (maxSteps := 2000000) [evK,evs_cons,evs_nil,ev_t,ev_k,up_app,V.cells,e3]
 have k1' : evK P (toL 169 (up ρ 152 (.ptr (some (t,5))))) h1 (.load1 (.t 152)) = some (.rd o5) := by
  simp (maxSteps := 2000000) [evK,ev_t,up_app,gt1]
 have he : evDr P (AP P E) r7_17 (toL 169 ρ) h = some ([⟨toL 169 ρ,h,h,.ptr (some (t,5)),false,false⟩,⟨toL 169 (up ρ 152 (.ptr (some (t,5)))),h,h,o5,false,true⟩,⟨toL 169 (up (up ρ 152 (.ptr (some (t,5)))) 153 o5),h,h,lv,false,false⟩,⟨toL 169 (up (up (up ρ 152 (.ptr (some (t,5)))) 153 o5) 154 lv),h,h,a,false,false⟩,⟨toL 169 (up (up (up (up ρ 152 (.ptr (some (t,5)))) 153 o5) 154 lv) 155 a),h,h1,v1,true,false⟩,⟨toL 169 (up (up (up (up (up ρ 152 (.ptr (some (t,5)))) 153 o5) 154 lv) 155 a) 156 v1),h1,h2,.slice q1 q2 q3 q4,true,false⟩,⟨toL 169 (up (up (up (up (up (up ρ 152 (.ptr (some (t,5)))) 153 o5) 154 lv) 155 a) 156 v1) 157 (.slice q1 q2 q3 q4)),h2,h2,.ptr (some (t,5)),false,false⟩,⟨toL 169 (up (up (up (up (up (up (up ρ 152 (.ptr (some (t,5)))) 153 o5) 154 lv) 155 a) 156 v1) 157 (.slice q1 q2 q3 q4)) 158 (.ptr (some (t,5)))),h2,h3,undefV,true,false⟩],(toL 169 (up (up (up (up (up (up (up ρ 152 (.ptr (some (t,5)))) 153 o5) 154 lv) 155 a) 156 v1) 157 (.slice q1 q2 q3 q4)) 158 (.ptr (some (t,5)))),h3)) := by
  refine dr_pur rfl k0 ?_
  rw [putV_some]
  refine dr_rd rfl k1 ?_
  rw [putV_some]
  refine dr_pur rfl m0 ?_
  rw [putV_some]
  refine dr_pur rfl m1 ?_
  rw [putV_some]
  refine dr_call rfl kc e1 ?_
  rw [putV_some]
  refine dr_eff rfl ka ?_
  rw [putV_some]
  refine dr_pur rfl ki ?_
  rw [putV_some]
  exact dr_eff rfl ks rfl
 refine ⟨toL 169 (up (up (up (up (up (up (up ρ 152 (.ptr (some (t,5)))) 153 o5) 154 lv) 155 a) 156 v1) 157 (.slice q1 q2 q3 q4)) 158 (.ptr (some (t,5)))),h3,draw_of he rfl ?_,hX _ ?_⟩
 ·have s0 : sameAt P ⟨some 153,.load1 (.t 152),none,1,[153,152]⟩ ⟨toL 169 (up ρ 152 (.ptr (some (t,5)))),h,h,o5,false,true⟩ h = true := by
   simp only [sameAt,k1,hnj]
  have s1 : sameAt P ⟨some 153,.load1 (.t 152),none,1,[153,152]⟩ ⟨toL 169 (up ρ 152 (.ptr (some (t,5)))),h,h,o5,false,true⟩ h1 = true := by
   simp only [sameAt,k1',hnj]
  simp only [r7_17,actsOf,rdsOk,readsOk,s0,s1,Bool.not_false,Bool.not_true,Bool.true_or,Bool.false_or,Bool.or_true,Bool.true_and,Bool.and_true,if_true,Bool.false_eq_true,if_false]
  rfl
 ·intro i hi
  simp only [up_app]
  repeat rw [if_neg (by omega)]
end Go.AM.Sc
namespace Go.AM.Sc
open Go.AM
variable {P : Program} {E : Env}
theorem MA.flaw {lo : Nat} {h : H} {t : Nat} {ov : Nat → V} {fs : Nat → List Flaw} (a : MA lo h t ov fs) {k : Nat} (hk : k < 6) (hlo : lo ≤ h.size) (f : Flaw) (hb : (fs k ++ [f]).length ≤ 1099511627775) :
  ∃ v' h1 h2,appV (h.psh (.cells f.cells 30 false false none)) 30 4 32 (ov k) (.slice (some (h.size,0)) 1 1 false) = some (.eff v' h1) ∧ cC h1 t [ov 0,ov 1,ov 2,ov 3,ov 4,ov 5] 68 ∧ putCells h1 t k [v'] = some h2 ∧ (∃ p n c o,v' = .slice p n c o) ∧ MA lo h2 t (up ov k v') (upF fs k [f]) ∧ Keeps lo h h2 ∧ KB t h h2 := by
 have k7 : Kp h (h.psh (.cells f.cells 30 false false none)) := Keeps.psh (Nat.le_refl _) _
 have hs7 := psh_size h (.cells f.cells 30 false false none)
 have he := elems_psh (h := h) (cs := f.cells) (ty := 30) (sz := 4) rfl (by decide)
 obtain ⟨v',h1,h2,e1,e2,hv',ma,k2,kb⟩ := (a.kp k7).app hk (by omega) (x := .slice (some (h.size,0)) 1 1 false) (ys := [f]) rfl (by simpa using he) hb
 refine ⟨v',h1,h2,e1,?_,e2,hv',ma,Keeps.trans (n := lo) (k7.mono hlo) k2,(KB.kp k7).trans kb⟩
 have ac := (a.kp k7).acc k hk
 obtain ⟨v'',h1',e1',_,_,_,_,fr⟩ := app_fr (ys := [f.cells]) (bytes := 32) (x := .slice (some (h.size,0)) 1 1 false) ac (by omega) rfl (by simpa using he) (by intro y hy; rw [List.mem_singleton.1 hy]; exact ⟨rfl,rfl⟩) (by rw [List.length_append] at hb; rw [List.length_map]; simp only [List.length_singleton] at hb ⊢; omega)
 rw [e1] at e1'
 cases e1'
 exact fr _ _ (k7.of a.box) (by intro vs e; simp at e)
theorem upF_nil (fs : Nat → List Flaw) (k : Nat) : upF fs k [] = fs := by
 funext j; unfold upF; split
 ·rename_i h; rw [h,List.append_nil]
 ·rfl
theorem two_fresh (h : H) {vs ws ws' : List V} {ty : Nat} (hl : ws.length = vs.length) (h1 : ws.all V.one = true) (hne : ws.isEmpty = false) (hl' : ws'.length = vs.length) (h1' : ws'.all V.one = true) (hne' : ws'.isEmpty = false) :
  ∃ h3 h4,putCells ((h.psh (.cells vs ty false false none)).psh (.cells vs ty false false none)) h.size 0 ws = some h3 ∧ putCells h3 (h.size + 1) 0 ws' = some h4 ∧ cC h4 h.size ws ty ∧ cC h4 (h.size + 1) ws' ty ∧
   Keeps h.size h (h.psh (.cells vs ty false false none)) ∧ Keeps h.size (h.psh (.cells vs ty false false none)) ((h.psh (.cells vs ty false false none)).psh (.cells vs ty false false none)) ∧ Keeps h.size ((h.psh (.cells vs ty false false none)).psh (.cells vs ty false false none)) h3 ∧ Keeps h.size h3 h4 := by
 have s1 := psh_size h (.cells vs ty false false none)
 have ka : Keeps h.size h (h.psh (.cells vs ty false false none)) := Keeps.psh (Nat.le_refl _) _
 have kb : Keeps h.size (h.psh (.cells vs ty false false none)) ((h.psh (.cells vs ty false false none)).psh (.cells vs ty false false none)) := Keeps.psh (by omega) _
 have g1 := psh_same h (.cells vs ty false false none)
 have g2 := psh_same (h.psh (.cells vs ty false false none)) (.cells vs ty false false none)
 have g12 := psh_old g1 (.cells vs ty false false none)
 have s2 := psh_size (h.psh (.cells vs ty false false none)) (.cells vs ty false false none)
 generalize (h.psh (.cells vs ty false false none)).psh (.cells vs ty false false none) = h2 at *
 have hset : setR vs 0 ws = ws := by simp [setR,hl]
 have hset' : setR vs 0 ws' = ws' := by simp [setR,hl']
 have e1 : putCells h2 h.size 0 ws = some (h2.set h.size (.cells ws ty false false none)) := by rw [put_at g12 (by omega) h1 hne,hset]
 have g22 : cC (h2.set h.size (.cells ws ty false false none)) (h.size + 1) vs ty := by
  show _ = _; rw [hset_other (H.get_lt g12) (by omega)]; rw [s1] at g2; exact g2
 have e2 : putCells (h2.set h.size (.cells ws ty false false none)) (h.size + 1) 0 ws' = some ((h2.set h.size (.cells ws ty false false none)).set (h.size + 1) (.cells ws' ty false false none)) := by rw [put_at g22 (by omega) h1' hne',hset']
 refine ⟨_,_,e1,e2,?_,hset_same (H.get_lt g22) _,ka,kb,Keeps.set (H.get_lt g12) (Nat.le_refl _) _,Keeps.set (H.get_lt g22) (by omega) _⟩
 show _ = _; rw [hset_other (H.get_lt g22) (by omega)]
 exact hset_same (H.get_lt g12) _
def View.zeroC : List V := [iI 0,iI 0,.bool false,.bool false,.bool false,iI 0,iI 0,sN,iI 0,iI 0,iI 0,iI 0,iI 0,iI 0,iI 0,iI 0,iI 0,iI 0,iI 0,sN,sN]
set_option maxHeartbeats 1000000 in
theorem c7_5 {h : H} {S : List Fr} {Q : Po} {ρ : Nat → V} {lv : V} {ws : List WV} (hv : VsIn h lv ws) {a b : Nat} (ha : a < ws.length) (hb : b < ws.length) (w0 : ρ 0 = lv) (w4 : ρ 4 = iI a) (w5 : ρ 5 = iI b)
  (hX : ∀ (ρ' : Nat → V) (h' : H) (p q : Nat),ρ' 6 = pP p → ρ' 7 = pP q → ρ' 0 = ρ 0 → ρ' 3 = ρ 3 → ρ' 4 = ρ 4 → ρ' 5 = ρ 5 → h'.get p = some (.cells ws[a].x.cells 63 false false none) → h'.get q = some (.cells ws[b].x.cells 63 false false none) → Kp h h' → X P E none 169 S ρ' h' Q) : XD P E none 169 r7_5 S ρ h Q := by
 obtain ⟨b0,o0,c0,p0,cs,ty,op,ro,fz,va,hg,hla,hea,hna⟩ := view_nth hv.sl ha
 obtain ⟨b1,o1,c1,p1,cs1,ty1,op1,ro1,fz1,vb,hg1,hlb,heb,hnb⟩ := view_nth hv.sl hb
 have hvv := va.symm.trans vb
 cases hvv
 change _ = _ at hg1; rw [hg] at hg1; cases hg1
 have nja := (hv.ins _ (List.getElem_mem ha)).nj
 have njb := (hv.ins _ (List.getElem_mem hb)).nj
 have onea := (hv.ins _ (List.getElem_mem ha)).one
 have oneb := (hv.ins _ (List.getElem_mem hb)).one
 have fv : ∀ z : View,z.cells.length = 21 := fun _ => rfl
 have w0' := w0.trans va
 have hlt := H.get_lt hg
 obtain ⟨h3,h4,e3,e4,g3,g4,k1,k2,k3,k4⟩ := two_fresh h (vs := View.zeroC) (ws := ws[a].x.cells) (ws' := ws[b].x.cells) (ty := 63) rfl onea rfl rfl oneb rfl
 have kk : Kp h h4 := Keeps.trans k1 (Keeps.trans k2 (Keeps.trans k3 k4))
 have hfa := fv ws[a].x
 have hfb := fv ws[b].x
 unfold getR at hea heb
 simp only [View.zeroC] at e3 k1 k2 k3
 have s1 := psh_size h (.cells View.zeroC 63 false false none)
 simp only [View.zeroC] at s1
 generalize hxa : ws[a].x.cells = xa at *
 generalize hxb : ws[b].x.cells = xb at *
 refine k7_5 h.size (XDJ_XDK ?_)
 simp only [GR,evK,binV,intOp,strOp,unV,Nat.reduceLT,Nat.reduceEqDiff,↓reduceIte,r7_5,w0',w4,w5,Int.natCast_nonneg,Int.ofNat_lt,ha,hb,Int.toNat_natCast,hg,hla,hlb,hea,heb,nja,njb,hlt,s1]
 refine ⟨k1,k2,?_⟩
 simp only [GR,evK,binV,intOp,strOp,unV,Nat.reduceLT,Nat.reduceEqDiff,↓reduceIte,hfa,e3]
 refine ⟨k3,?_⟩
 simp only [GR,evK,binV,intOp,strOp,unV,Nat.reduceLT,Nat.reduceEqDiff,↓reduceIte,hfb,e4]
 refine ⟨k4,?_⟩
 exact hX _ h4 _ _ rfl rfl rfl rfl rfl rfl g3 g4 kk
theorem MA.ne {lo : Nat} {h : H} {t : Nat} {ov : Nat → V} {fs : Nat → List Flaw} (a : MA lo h t ov fs) {i : Nat} {cs : List V} {op ro : Bool} {fz : Option Nat} (hg : h.get i = some (.cells cs 63 op ro fz)) : i ≠ t := by
 rintro rfl
 have := a.box
 change _ = _ at this; rw [hg] at this; simp at this
set_option maxHeartbeats 1000000 in
theorem c7_7 (F : Ff E) (G : Fa E) {h0 h : H} {K : List Fr} {Q : Po} {ρ : Nat → V} {lv : V} {ws : List WV} (hv : VsIn h0 lv ws) {t p q : Nat} {ov : Nat → V} {fs : Nat → List Flaw} (ma : MA h0.size h t ov fs) (kk : Kp h0 h) {a b : Nat} (ha : a < ws.length) (hb : b < ws.length)
  (w3 : ρ 3 = pP t) (w4 : ρ 4 = iI a) (w5 : ρ 5 = iI b) (w6 : ρ 6 = pP p) (w7 : ρ 7 = pP q) (gp : h.get p = some (.cells ws[a].x.cells 63 false false none)) (gq : h.get q = some (.cells ws[b].x.cells 63 false false none))
  (hlen : (fs 2 ++ f2 ws (a,b)).length ≤ 1099511627775)
  (hX : ∀ (ρ' : Nat → V) (h' : H) (ov' : Nat → V),(∀ i,i < 46 → ρ' i = ρ i) → MA h0.size h' t ov' (upF fs 2 (f2 ws (a,b))) → Keeps h0.size h h' → KB t h h' → X P E none 169 K ρ' h' Q) :
  X P E none 169 (.c (.seq (.region r7_7) (.cond (.t 79) (.region r7_8) (.skip))) :: K) ρ h Q := by
 have fa := f2_at ha hb
 have fv : ∀ z : View,z.cells.length = 21 := fun _ => rfl
 have pv : ∀ z : View,List.take 21 z.cells = z.cells := fun _ => rfl
 have hva := hv.keep kk
 have wA := hva.ins _ (List.getElem_mem ha)
 have wB := hva.ins _ (List.getElem_mem hb)
 have nja := wA.nj
 have njb := wB.nj
 have low : ∀ {ρ' : Nat → V},ρ' = ρ → True := fun _ => trivial
 have none_ : f2 ws (a,b) = [] → ∀ (ρ' : Nat → V) (h' : H),(∀ i,i < 46 → ρ' i = ρ i) → Kp h h' → X P E none 169 K ρ' h' Q := by
  intro h1 ρ' h' hr k
  rw [h1,upF_nil] at hX
  exact hX ρ' h' ov hr (ma.kp k) (k.mono kk.size) (KB.kp k)
 have ga0 : ws[a].x.cells[0]? = some (iI ws[a].x.at_.group) := View.g0 _
 have gb0 : ws[b].x.cells[0]? = some (iI ws[b].x.at_.group) := View.g0 _
 have ga5 : ws[a].x.cells[5]? = some (iI ws[a].x.told) := View.g5 _
 have gb5 : ws[b].x.cells[5]? = some (iI ws[b].x.told) := View.g5 _
 have cl : ∀ (ρ' : Nat → V),ρ' = ρ' := fun _ => rfl
 cases c1 : ws[a].x.at_.group == ws[b].x.at_.group with
 | false =>
  rw [c1] at fa
  simp only [GR,evK,binV,intOp,strOp,shOp,unV,Nat.reduceLT,Nat.reduceEqDiff,Nat.reduceAdd,↓reduceIte,Nat.reduceLeDiff,reduceCtorEq,r7_7,w6,w7,gp,gq,ga0,gb0,c1]
  refine none_ (by simpa using fa) _ h (fun i hi => ?_) (Keeps.refl _ _)
  simp only [up_app]
  repeat rw [if_neg (by omega)]
 | true =>
 simp only [GR,evK,binV,intOp,strOp,shOp,unV,Nat.reduceLT,Nat.reduceEqDiff,Nat.reduceAdd,↓reduceIte,Nat.reduceLeDiff,reduceCtorEq,r7_7,w6,w7,gp,gq,ga0,gb0,c1]
 refine XC_of (site20 (P := P) F) ?_
 rintro _ hx ⟨rfl,e2⟩
 rw [e2]
 clear e2 hx
 cases c2 : siteB ws[a].x.at_.group with
 | false =>
  rw [c1,c2] at fa
  simp only [GR,evK,binV,intOp,strOp,shOp,unV,Nat.reduceLT,Nat.reduceEqDiff,Nat.reduceAdd,↓reduceIte,Nat.reduceLeDiff,reduceCtorEq]
  refine none_ (by simpa using fa) _ h (fun i hi => ?_) (Keeps.refl _ _)
  simp only [up_app]
  repeat rw [if_neg (by omega)]
 | true =>
 cases c3 : ws[a].x.told == ws[b].x.told with
 | false =>
  rw [c1,c2,c3] at fa
  simp only [GR,evK,binV,intOp,strOp,shOp,unV,Nat.reduceLT,Nat.reduceEqDiff,Nat.reduceAdd,↓reduceIte,Nat.reduceLeDiff,reduceCtorEq,w6,w7,gp,gq,ga5,gb5,c3]
  refine none_ (by simpa using fa) _ h (fun i hi => ?_) (Keeps.refl _ _)
  simp only [up_app]
  repeat rw [if_neg (by omega)]
 | true =>
 have sp := state21 (P := P) G (x := ws[a].x) (y := ws[b].x) (es := ws[a].es) (es' := ws[b].es) (ns := ws[a].ns) (ns' := ws[b].ns) (rs := ws[a].rs) (rs' := ws[b].rs) wA wB
 simp only [GR,evK,binV,intOp,strOp,shOp,unV,Nat.reduceLT,Nat.reduceEqDiff,Nat.reduceAdd,↓reduceIte,Nat.reduceLeDiff,reduceCtorEq,w6,w7,gp,gq,ga5,gb5,c3,fv,pv,nja,njb]
 refine XC_of sp ?_
 rintro _ h4 ⟨rfl,k4⟩
 cases c4 : decide (eqState ws[a] ws[b]) with
 | true =>
  have c4' : decide (eqState ⟨ws[a].x,ws[a].es,ws[a].ns,ws[a].rs⟩ ⟨ws[b].x,ws[b].es,ws[b].ns,ws[b].rs⟩) = true := c4
  rw [c1,c2,c3,c4] at fa
  simp only [GR,evK,binV,intOp,strOp,shOp,unV,Nat.reduceLT,Nat.reduceEqDiff,Nat.reduceAdd,↓reduceIte,Nat.reduceLeDiff,reduceCtorEq,c4',Bool.not_true]
  refine none_ (by simpa using fa) _ h4 (fun i hi => ?_) k4
  simp only [up_app]
  repeat rw [if_neg (by omega)]
 | false =>
  have c4' : decide (eqState ⟨ws[a].x,ws[a].es,ws[a].ns,ws[a].rs⟩ ⟨ws[b].x,ws[b].es,ws[b].ns,ws[b].rs⟩) = false := c4
  rw [c1,c2,c3,c4] at fa
  simp only [Bool.not_false,Bool.and_self,if_true] at fa
  rw [fa] at hX hlen
  have ma4 := ma.kp k4
  obtain ⟨v',h5,h6,e5,g5,e6,⟨q1,q2,q3,q4,hv'⟩,ma6,k6,kb6⟩ := ma4.flaw (k := 2) (by decide) (by have := kk.size; have := k4.size; omega) ⟨2,a,b,0⟩ hlen
  have hfc : (Flaw.mk 2 a b 0).cells = [iI 2,iI a,iI b,iI 0] := rfl
  rw [hfc] at e5
  have hd0 : List.drop 3 [iI 0,iI 0,iI 0,iI 0] = [iI 0] := rfl
  have hd1 : List.drop 4 [iI 0,iI 0,iI 0,iI 0] = [] := rfl
  have g4 := ma4.box
  have njo : (ov 2).nj = true := by
   rcases (ma4.acc 2 (by decide)).shape with ⟨_,e⟩ | ⟨_,e,_⟩ <;> rw [e] <;> rfl
  rw [hv'] at e6 ma6 e5
  simp only [GR,evK,binV,intOp,strOp,shOp,unV,Nat.reduceLT,Nat.reduceEqDiff,Nat.reduceAdd,↓reduceIte,Nat.reduceLeDiff,reduceCtorEq,c4',Bool.not_false,r7_8,w3,w4,w5,g4,njo,hd0,hd1,e5,e6,Int.reduceLE,Int.reduceLT,Int.reduceToNat,Nat.reduceMul,Int.cast_ofNat_Int]
  refine hX _ h6 _ (fun i hi => ?_) ma6 (Keeps.trans (n := h0.size) (k4.mono kk.size) k6) ((KB.kp k4).trans kb6)
  simp only [up_app]
  repeat rw [if_neg (by omega)]
set_option maxHeartbeats 1000000 in
theorem c7_9 (F : Ff E) (G : Fa E) {h0 h : H} {K : List Fr} {Q : Po} {ρ : Nat → V} {lv : V} {ws : List WV} (hv : VsIn h0 lv ws) {t p q : Nat} {ov : Nat → V} {fs : Nat → List Flaw} (ma : MA h0.size h t ov fs) (kk : Kp h0 h) {a b : Nat} (ha : a < ws.length) (hb : b < ws.length)
  (w3 : ρ 3 = pP t) (w4 : ρ 4 = iI a) (w5 : ρ 5 = iI b) (w6 : ρ 6 = pP p) (w7 : ρ 7 = pP q) (gp : h.get p = some (.cells ws[a].x.cells 63 false false none)) (gq : h.get q = some (.cells ws[b].x.cells 63 false false none))
  (hlen : (fs 4 ++ f4 ws (a,b)).length ≤ 1099511627775)
  (hX : ∀ (ρ' : Nat → V) (h' : H) (ov' : Nat → V),(∀ i,i < 46 → ρ' i = ρ i) → MA h0.size h' t ov' (upF fs 4 (f4 ws (a,b))) → Keeps h0.size h h' → X P E none 169 K ρ' h' Q) :
  X P E none 169 (.c (.seq (.region r7_9) (.cond (.t 120) (.region r7_10) (.skip))) :: K) ρ h Q := by
 have fa := f4_at ha hb
 have hva := hv.keep kk
 have wA := hva.ins _ (List.getElem_mem ha)
 have wB := hva.ins _ (List.getElem_mem hb)
 have none_ : f4 ws (a,b) = [] → ∀ (ρ' : Nat → V) (h' : H),(∀ i,i < 46 → ρ' i = ρ i) → Kp h h' → X P E none 169 K ρ' h' Q := by
  intro h1 ρ' h' hr k
  rw [h1,upF_nil] at hX
  exact hX ρ' h' ov hr (ma.kp k) (k.mono kk.size)
 have ga0 : ws[a].x.cells[0]? = some (iI ws[a].x.at_.group) := View.g0 _
 have gb0 : ws[b].x.cells[0]? = some (iI ws[b].x.at_.group) := View.g0 _
 have ga4 : ws[a].x.cells[4]? = some (.bool ws[a].x.booted) := View.g4 _
 have gb4 : ws[b].x.cells[4]? = some (.bool ws[b].x.booted) := View.g4 _
 have ga19 : ws[a].x.cells[19]? = some ws[a].x.nodes := View.g19 _
 have gb19 : ws[b].x.cells[19]? = some ws[b].x.nodes := View.g19 _
 have eav : List.take 8 (List.drop 11 ws[a].x.cells) = ws[a].x.vector.cells := rfl
 have ebv : List.take 8 (List.drop 11 ws[b].x.cells) = ws[b].x.vector.cells := rfl
 have hla8 : 11 + 8 ≤ ws[a].x.cells.length := Nat.le_of_ble_eq_true rfl
 have hlb8 : 11 + 8 ≤ ws[b].x.cells.length := Nat.le_of_ble_eq_true rfl
 have hvn : ∀ z : Vec,V.njL z.cells = true := fun _ => rfl
 obtain ⟨sa1,sa2,sa3,sav⟩ := wA.nodes.len
 obtain ⟨sb1,sb2,sb3,sbv⟩ := wB.nodes.len
 cases c1 : ws[a].x.booted with
 | false =>
  rw [c1] at fa ga4
  simp only [GR,evK,binV,intOp,strOp,shOp,unV,Nat.reduceLT,Nat.reduceEqDiff,Nat.reduceAdd,↓reduceIte,Nat.reduceLeDiff,reduceCtorEq,r7_9,w6,w7,gp,gq,ga4]
  refine none_ (by simpa using fa) _ h (fun i hi => ?_) (Keeps.refl _ _)
  simp only [up_app]
  repeat rw [if_neg (by omega)]
 | true =>
 rw [c1] at ga4
 cases c1b : ws[b].x.booted with
 | false =>
  rw [c1b] at gb4
  rw [c1,c1b] at fa
  simp only [GR,evK,binV,intOp,strOp,shOp,unV,Nat.reduceLT,Nat.reduceEqDiff,Nat.reduceAdd,↓reduceIte,Nat.reduceLeDiff,reduceCtorEq,r7_9,w6,w7,gp,gq,ga4,gb4]
  refine none_ (by simpa using fa) _ h (fun i hi => ?_) (Keeps.refl _ _)
  simp only [up_app]
  repeat rw [if_neg (by omega)]
 | true =>
 rw [c1b] at gb4
 simp only [GR,evK,binV,intOp,strOp,shOp,unV,Nat.reduceLT,Nat.reduceEqDiff,Nat.reduceAdd,↓reduceIte,Nat.reduceLeDiff,reduceCtorEq,r7_9,w6,w7,gp,gq,ga4,gb4,ga0]
 refine XC_of (site20 (P := P) F) ?_
 rintro _ hx ⟨rfl,e2⟩
 rw [e2]
 clear e2 hx
 cases c2 : siteB ws[a].x.at_.group with
 | false =>
  rw [c1,c1b,c2] at fa
  simp only [GR,evK,binV,intOp,strOp,shOp,unV,Nat.reduceLT,Nat.reduceEqDiff,Nat.reduceAdd,↓reduceIte,Nat.reduceLeDiff,reduceCtorEq]
  refine none_ (by simpa using fa) _ h (fun i hi => ?_) (Keeps.refl _ _)
  simp only [up_app]
  repeat rw [if_neg (by omega)]
 | true =>
 simp only [GR,evK,binV,intOp,strOp,shOp,unV,Nat.reduceLT,Nat.reduceEqDiff,Nat.reduceAdd,↓reduceIte,Nat.reduceLeDiff,reduceCtorEq,w7,gq,gb0]
 refine XC_of (site20 (P := P) F) ?_
 rintro _ hx ⟨rfl,e2⟩
 rw [e2]
 clear e2 hx
 cases c3 : siteB ws[b].x.at_.group with
 | false =>
  rw [c1,c1b,c2,c3] at fa
  simp only [GR,evK,binV,intOp,strOp,shOp,unV,Nat.reduceLT,Nat.reduceEqDiff,Nat.reduceAdd,↓reduceIte,Nat.reduceLeDiff,reduceCtorEq]
  refine none_ (by simpa using fa) _ h (fun i hi => ?_) (Keeps.refl _ _)
  simp only [up_app]
  repeat rw [if_neg (by omega)]
 | true =>
 have hveq := Vec.eqv h ws[a].x.vector ws[b].x.vector
 cases c4 : decide (ws[a].x.vector = ws[b].x.vector) with
 | false =>
  rw [c1,c1b,c2,c3,c4] at fa
  rw [c4] at hveq
  simp only [GR,evK,binV,intOp,strOp,shOp,unV,Nat.reduceLT,Nat.reduceEqDiff,Nat.reduceAdd,↓reduceIte,Nat.reduceLeDiff,reduceCtorEq,w6,w7,gp,gq,hla8,hlb8,eav,ebv,hvn,hveq]
  refine none_ (by simpa using fa) _ h (fun i hi => ?_) (Keeps.refl _ _)
  simp only [up_app]
  repeat rw [if_neg (by omega)]
 | true =>
 rw [c4] at hveq
 have sp := eql22 (P := P) G wA.nodes wA.nds wB.nodes wB.nds wA.nlen
 rw [sav] at ga19
 rw [sbv] at gb19
 rw [sav,sbv] at sp
 simp only [GR,evK,binV,intOp,strOp,shOp,unV,Nat.reduceLT,Nat.reduceEqDiff,Nat.reduceAdd,↓reduceIte,Nat.reduceLeDiff,reduceCtorEq,w6,w7,gp,gq,hla8,hlb8,eav,ebv,hvn,hveq,ga19,gb19]
 refine XC_of sp ?_
 rintro _ h4 ⟨rfl,k4⟩
 cases c5 : decide (ws[a].ns.map (·.2) = ws[b].ns.map (·.2)) with
 | true =>
  rw [c1,c1b,c2,c3,c4,c5] at fa
  simp only [GR,evK,binV,intOp,strOp,shOp,unV,Nat.reduceLT,Nat.reduceEqDiff,Nat.reduceAdd,↓reduceIte,Nat.reduceLeDiff,reduceCtorEq,Bool.not_true]
  refine none_ (by simpa using fa) _ h4 (fun i hi => ?_) k4
  simp only [up_app]
  repeat rw [if_neg (by omega)]
 | false =>
  rw [c1,c1b,c2,c3,c4,c5] at fa
  simp only [Bool.not_false,Bool.and_self,if_true] at fa
  rw [fa] at hX hlen
  have ma4 := ma.kp k4
  obtain ⟨v',h5,h6,e5,g5,e6,⟨q1,q2,q3,q4,hv'⟩,ma6,k6,kb6⟩ := ma4.flaw (k := 4) (by decide) (by have := kk.size; have := k4.size; omega) ⟨4,a,b,0⟩ hlen
  have hfc : (Flaw.mk 4 a b 0).cells = [iI 4,iI a,iI b,iI 0] := rfl
  rw [hfc] at e5
  have hd0 : List.drop 3 [iI 0,iI 0,iI 0,iI 0] = [iI 0] := rfl
  have hd1 : List.drop 4 [iI 0,iI 0,iI 0,iI 0] = [] := rfl
  have g4 := ma4.box
  have njo : (ov 4).nj = true := by
   rcases (ma4.acc 4 (by decide)).shape with ⟨_,e⟩ | ⟨_,e,_⟩ <;> rw [e] <;> rfl
  rw [hv'] at e6 ma6 e5
  simp only [GR,evK,binV,intOp,strOp,shOp,unV,Nat.reduceLT,Nat.reduceEqDiff,Nat.reduceAdd,↓reduceIte,Nat.reduceLeDiff,reduceCtorEq,Bool.not_false,r7_10,w3,w4,w5,g4,njo,hd0,hd1,e5,e6,Int.reduceLE,Int.reduceLT,Int.reduceToNat,Nat.reduceMul,Int.cast_ofNat_Int]
  refine hX _ h6 _ (fun i hi => ?_) ma6 (Keeps.trans (n := h0.size) (k4.mono kk.size) k6)
  simp only [up_app]
  repeat rw [if_neg (by omega)]
def fk (ws : List WV) : Nat → Nat × Nat → List Flaw
 | 1 => f1 ws | 2 => f2 ws | 4 => f4 ws | _ => fun _ => []
theorem upF3 (ws : List WV) (fs : Nat → List Flaw) (p : Nat × Nat) : ∀ k,upF (upF (upF fs 1 (f1 ws p)) 2 (f2 ws p)) 4 (f4 ws p) k = fs k ++ fk ws k p
 | 0 => by simp [upF,fk] | 1 => by simp [upF,fk] | 2 => by simp [upF,fk] | 3 => by simp [upF,fk] | 4 => by simp [upF,fk]
 | k + 5 => by
  have e : fk ws (k + 5) p = [] := rfl
  rw [e,List.append_nil]
  unfold upF
  rw [if_neg (by omega),if_neg (by omega),if_neg (by omega)]
set_option maxHeartbeats 1000000 in
theorem inner7 (F : Ff E) (G : Fa E) {h0 : H} {lv : V} {ws : List WV} (hv : VsIn h0 lv ws) {t a : Nat} (ha : a < ws.length) (hu : upW ws a = true) {gs : Nat → List Flaw} (hgs : ∀ k,k < 6 → (gs k).length ≤ 1099511627775) {K : List Fr} {Q : Po}
  (cont : ∀ (ρ' : Nat → V) (h' : H) (ov' : Nat → V),ρ' 0 = lv → ρ' 3 = pP t → ρ' 4 = iI a → MA h0.size h' t ov' gs → Kp h0 h' → X P E none 169 K ρ' h' Q) :
  ∀ (d b : Nat) (ρ : Nat → V) (h : H) (ov : Nat → V) (fs : Nat → List Flaw),ws.length - b = d → b ≤ ws.length → ρ 0 = lv → ρ 3 = pP t → ρ 4 = iI a → ρ 5 = iI b → MA h0.size h t ov fs → Kp h0 h → (∀ k,fs k ++ (innP (upW ws) a d b).flatMap (fk ws k) = gs k) → XL P E none 169 b7_12 (.b 2 :: K) ρ h Q := by
 have hm := hv.len
 intro d
 induction d with
 | zero =>
  intro b ρ h ov fs hd hb q0 q3 q4 q5 ma kk hfs
  have hbe : ¬ b < ws.length := by omega
  obtain ⟨sa,sc,so,hlv⟩ := hv.sl.len
  rw [List.length_map] at hlv
  have q0' := q0.trans hlv
  have hg : fs = gs := funext fun k => by rw [← hfs k]; simp [innP]
  rw [u7_12]
  simp only [GR,evK,binV,intOp,strOp,unV,Nat.reduceLT,Nat.reduceEqDiff,↓reduceIte,r7_3,q5,q0',Int.ofNat_lt,hbe]
  rw [hg] at ma
  exact cont _ h ov q0 q3 q4 ma kk
 | succ d ih =>
  intro b ρ h ov fs hd hb q0 q3 q4 q5 ma kk hfs
  have hbe : b < ws.length := by omega
  have hvh := hv.keep kk
  obtain ⟨b1,o1,c1,p1,cs1,ty1,op1,ro1,fz1,vb,hg1,hlb,heb,hnb⟩ := view_nth hvh.sl hbe
  have eb2 := hnb 2 _ (View.g2 ws[b].x)
  have q0' := q0.trans vb
  have hw : IntKind.i64.wrap ((b : Int) + 1) = ((b + 1 : Nat) : Int) := wrap_nat (n := b + 1) (by omega)
  have next : ∀ (ρ2 : Nat → V) (h2 : H) (ov2 : Nat → V) (fs2 : Nat → List Flaw),ρ2 0 = lv → ρ2 3 = pP t → ρ2 4 = iI a → ρ2 5 = iI b → MA h0.size h2 t ov2 fs2 → Kp h0 h2 → (∀ k,fs2 k ++ (innP (upW ws) a d (b + 1)).flatMap (fk ws k) = gs k) → XO P E none 169 r7_11 (.l b7_12 :: .b 2 :: K) ρ2 h2 Q := by
   intro ρ2 h2 ov2 fs2 y0 y3 y4 y5 ma2 kk2 hf2
   simp only [GR,evK,binV,intOp,strOp,unV,Nat.reduceLT,Nat.reduceEqDiff,↓reduceIte,r7_11,y5,hw]
   refine ih (b + 1) _ h2 ov2 fs2 (by omega) (by omega) ?_ ?_ ?_ ?_ ma2 kk2 hf2
   ·exact y0
   ·exact y3
   ·exact y4
   ·rfl
  rw [u7_12]
  cases hup : ws[b].x.up with
  | false =>
   rw [hup] at eb2
   have hin : innP (upW ws) a (d + 1) b = innP (upW ws) a d (b + 1) := by simp [innP,upW_at hbe,hup]
   simp only [GR,evK,binV,intOp,strOp,unV,Nat.reduceLT,Nat.reduceEqDiff,↓reduceIte,r7_3,q5,q0',Int.natCast_nonneg,Int.ofNat_lt,hbe,Int.toNat_natCast,r7_4,hg1,eb2]
   refine next _ h ov fs ?_ ?_ ?_ ?_ ma kk (fun k => by rw [← hin]; exact hfs k)
   ·exact q0
   ·exact q3
   ·exact q4
   ·exact q5
  | true =>
   rw [hup] at eb2
   have hin : innP (upW ws) a (d + 1) b = (a,b) :: innP (upW ws) a d (b + 1) := by simp [innP,upW_at hbe,hup,hu]
   have hfs' : ∀ k,(fs k ++ fk ws k (a,b)) ++ (innP (upW ws) a d (b + 1)).flatMap (fk ws k) = gs k := fun k => by
    have := hfs k
    rw [hin,List.flatMap_cons] at this
    rw [List.append_assoc]; exact this
   have hle : ∀ k,k < 6 → (fs k ++ fk ws k (a,b)).length ≤ 1099511627775 := fun k hk => by
    have h1 := hgs k hk
    rw [← hfs' k,List.length_append] at h1; omega
   have l1 : (fs 1 ++ f1 ws (a,b)).length ≤ 1099511627775 := hle 1 (by decide)
   have l2 : (fs 2 ++ f2 ws (a,b)).length ≤ 1099511627775 := hle 2 (by decide)
   have l4 : (fs 4 ++ f4 ws (a,b)).length ≤ 1099511627775 := hle 4 (by decide)
   simp only [GR,evK,binV,intOp,strOp,unV,Nat.reduceLT,Nat.reduceEqDiff,↓reduceIte,r7_3,q5,q0',Int.natCast_nonneg,Int.ofNat_lt,hbe,Int.toNat_natCast,r7_4,hg1,eb2]
   rw [X_draw]
   refine c7_5 hvh ha hbe ?_ ?_ ?_ ?_
   ·exact q0
   ·exact q4
   ·exact q5
   intro ρ2 h2 p q y6 y7 y0 y3 y4 y5 gp gq k2
   have z0 : ρ2 0 = lv := y0.trans q0
   have z3 : ρ2 3 = pP t := y3.trans q3
   have z4 : ρ2 4 = iI a := y4.trans q4
   have z5 : ρ2 5 = iI b := y5.trans q5
   clear y0 y3 y4 y5
   have kk2 := Kp.trans kk k2
   have ma2 := ma.kp k2
   have f1l : (f1 ws (a,b)).length ≤ 1099511627775 := by rw [List.length_append] at l1; omega
   obtain ⟨v1,h3,e1,acc1,k3⟩ := chosen19 (P := P) F G (hv.keep kk2) ha hbe f1l
   have ma3 := ma2.kp k3
   obtain ⟨ee,pe,ce,oe,hve⟩ := acc_elems acc1
   rw [List.length_map] at ee hve
   obtain ⟨v2,h4,h5,e2,e3,hs2,ma5,k5,kb5⟩ := ma3.app (k := 1) (by decide) (Kp.trans kk2 k3).size (x := v1) (ys := f1 ws (a,b)) (by rw [hve]; rfl) ee l1
   have hs1 : IsSl (ov 1) := by
    rcases (ma.acc 1 (by decide)).shape with ⟨_,e⟩ | ⟨_,e,_⟩ <;> exact ⟨_,_,_,_,e⟩
   rw [X_seq,X_draw]
   refine cas7_6 hs1 hs2 z3 z0 z4 z5 ma2.box ma3.box e1 e2 e3 ?_
   intro ρ3 hr3
   have gp5 := kb5.get _ _ (k3.of gp) (ma3.ne (k3.of gp)) (by intro vs e; simp at e)
   have gq5 := kb5.get _ _ (k3.of gq) (ma3.ne (k3.of gq)) (by intro vs e; simp at e)
   have kk5 : Kp h0 h5 := Keeps.trans (n := h0.size) (Kp.trans kk2 k3) k5
   rw [X_seq]
   refine c7_7 F G hv ma5 kk5 ha hbe (by rw [hr3 3 (by decide)]; exact z3) (by rw [hr3 4 (by decide)]; exact z4) (by rw [hr3 5 (by decide)]; exact z5) (by rw [hr3 6 (by decide)]; exact y6) (by rw [hr3 7 (by decide)]; exact y7) gp5 gq5 (by simpa [upF] using l2) ?_
   intro ρ4 h6 ov6 hr4 ma6 k6 kb6
   have gp6 := kb6.get _ _ gp5 (ma5.ne gp5) (by intro vs e; simp at e)
   have gq6 := kb6.get _ _ gq5 (ma5.ne gq5) (by intro vs e; simp at e)
   have kk6 : Kp h0 h6 := Keeps.trans (n := h0.size) kk5 k6
   have hr : ∀ i,i < 46 → ρ4 i = ρ2 i := fun i hi => (hr4 i hi).trans (hr3 i hi)
   refine c7_9 F G hv ma6 kk6 ha hbe (by rw [hr 3 (by decide)]; exact z3) (by rw [hr 4 (by decide)]; exact z4) (by rw [hr 5 (by decide)]; exact z5) (by rw [hr 6 (by decide)]; exact y6) (by rw [hr 7 (by decide)]; exact y7) gp6 gq6 (by simpa [upF] using l4) ?_
   intro ρ5 h7 ov7 hr5 ma7 k7
   have kk7 : Kp h0 h7 := Keeps.trans (n := h0.size) kk6 k7
   simp only [GR,evK,binV,intOp,strOp,unV,Nat.reduceLT,Nat.reduceEqDiff,↓reduceIte]
   refine next _ h7 ov7 _ ?_ ?_ ?_ ?_ ma7 kk7 (fun k => by rw [upF3]; exact hfs' k)
   ·rw [hr5 0 (by decide),hr 0 (by decide)]; exact z0
   ·rw [hr5 3 (by decide),hr 3 (by decide)]; exact z3
   ·rw [hr5 4 (by decide),hr 4 (by decide)]; exact z4
   ·rw [hr5 5 (by decide),hr 5 (by decide)]; exact z5
noncomputable def sk (ws : List WV) : Nat → Nat → List Flaw
 | 3 => f3 ws | 5 => f5 ws | _ => fun _ => []
noncomputable def restO (ws : List WV) (k d a : Nat) : List Flaw := (outP (upW ws) ws.length d a).flatMap (fk ws k) ++ (List.range' a d).flatMap (sk ws k)
theorem flat_nil {α β : Type} (l : List α) : l.flatMap (fun _ => ([] : List β)) = [] := by induction l <;> simp_all
theorem restO_succ (ws : List WV) (k d a : Nat) : restO ws k (d + 1) a = (innP (upW ws) a (ws.length - (a + 1)) (a + 1)).flatMap (fk ws k) ++ sk ws k a ++ restO ws k d (a + 1) := by
 by_cases h : k = 3 ∨ k = 5
 ·have hf : fk ws k = fun _ => [] := by rcases h with rfl | rfl <;> rfl
  simp only [restO,hf,flat_nil,List.nil_append,List.range'_succ,List.flatMap_cons]
 ·have hs : sk ws k = fun _ => [] := by
   unfold sk; split
   ·exact (h (.inl rfl)).elim
   ·exact (h (.inr rfl)).elim
   ·rfl
  simp only [restO,hs,flat_nil,List.append_nil,outP,List.flatMap_append]
theorem innP_off {u : Nat → Bool} {a : Nat} (h : u a = false) : ∀ d b,innP u a d b = []
 | 0,_ => rfl
 | d + 1,b => by simp only [innP,h,Bool.false_and,Bool.false_eq_true,if_false]; exact innP_off h d (b + 1)
theorem sk_off {ws : List WV} {a : Nat} (ha : a < ws.length) (h : upW ws a = false) (k : Nat) : sk ws k a = [] := by
 rw [upW_at ha] at h
 unfold sk; split
 ·rw [f3_at ha,h]; rfl
 ·rw [f5_at ha,h]; rfl
 ·rfl
set_option maxHeartbeats 1000000 in
theorem c7_13 (F23 : Fr23 E) {h0 h : H} {K : List Fr} {Q : Po} {ρ : Nat → V} {lv : V} {ws : List WV} (hv : VsIn h0 lv ws) {t : Nat} {ov : Nat → V} {fs : Nat → List Flaw} (ma : MA h0.size h t ov fs) (kk : Kp h0 h) {a : Nat} (ha : a < ws.length) (hu : upW ws a = true)
  (w0 : ρ 0 = lv) (w3 : ρ 3 = pP t) (w4 : ρ 4 = iI a)
  (hlen : (fs 3 ++ f3 ws a).length ≤ 1099511627775)
  (hX : ∀ (ρ' : Nat → V) (h' : H) (ov' : Nat → V),ρ' 0 = lv → ρ' 3 = pP t → ρ' 4 = iI a → MA h0.size h' t ov' (upF fs 3 (f3 ws a)) → Keeps h0.size h h' → X P E none 169 K ρ' h' Q) :
  X P E none 169 (.c (.seq (.region r7_13) (.seq (.region r7_14) (.cond (.t 139) (.region r7_15) (.skip)))) :: K) ρ h Q := by
 have hvh := hv.keep kk
 have wA := hvh.ins _ (List.getElem_mem ha)
 obtain ⟨b1,o1,c1,p1,cs1,ty1,op1,ro1,fz1,vb,hg1,hlb,heb,hnb⟩ := view_nth hvh.sl ha
 have ea19 := hnb 19 _ (View.g19 ws[a].x)
 obtain ⟨sa1,sa2,sa3,sav⟩ := wA.nodes.len
 rw [sav] at ea19
 have w0' := w0.trans vb
 have sp := from23 (P := P) F23 wA.nodes wA.nds wA.nlen
 rw [sav] at sp
 have hf := f3_at ha
 rw [← upW_at ha,hu,Bool.true_and] at hf
 simp only [GR,evK,binV,intOp,strOp,shOp,unV,Nat.reduceLT,Nat.reduceEqDiff,Nat.reduceAdd,↓reduceIte,Nat.reduceLeDiff,reduceCtorEq,r7_13,w0',w4,Int.natCast_nonneg,Int.ofNat_lt,ha,Int.toNat_natCast,hg1,ea19]
 refine XC_of sp ?_
 rintro v h2 ⟨⟨pp,rfl⟩,k2⟩
 have ma2 := ma.kp k2
 cases ho : okT (ws[a].ns.map (·.2)) with
 | true =>
  rw [ho] at hf
  have hf' : f3 ws a = [] := by simpa using hf
  rw [hf',upF_nil] at hX
  simp only [GR,evK,binV,intOp,strOp,shOp,unV,Nat.reduceLT,Nat.reduceEqDiff,Nat.reduceAdd,↓reduceIte,Nat.reduceLeDiff,reduceCtorEq,r7_14]
  refine hX _ h2 ov ?_ ?_ ?_ ma2 (k2.mono kk.size)
  ·exact w0
  ·exact w3
  ·exact w4
 | false =>
  rw [ho] at hf
  have hf' : f3 ws a = [⟨3,a,0,0⟩] := by simpa using hf
  rw [hf'] at hX hlen
  obtain ⟨v',h5,h6,e5,g5,e6,⟨q1,q2,q3,q4,hv'⟩,ma6,k6,kb6⟩ := ma2.flaw (k := 3) (by decide) (by have := kk.size; have := k2.size; omega) ⟨3,a,0,0⟩ hlen
  have hfc : (Flaw.mk 3 a 0 0).cells = [iI 3,iI a,iI 0,iI 0] := rfl
  rw [hfc] at e5
  have hd0 : List.drop 2 [iI 0,iI 0,iI 0,iI 0] = [iI 0,iI 0] := rfl
  have hd1 : List.drop 4 [iI 0,iI 0,iI 0,iI 0] = [] := rfl
  have g4 := ma2.box
  have njo : (ov 3).nj = true := by
   rcases (ma2.acc 3 (by decide)).shape with ⟨_,e⟩ | ⟨_,e,_⟩ <;> rw [e] <;> rfl
  rw [hv'] at e6 ma6 e5
  simp only [GR,evK,binV,intOp,strOp,shOp,unV,Nat.reduceLT,Nat.reduceEqDiff,Nat.reduceAdd,↓reduceIte,Nat.reduceLeDiff,reduceCtorEq,r7_14,r7_15,w3,w4,g4,njo,hd0,hd1,e5,e6,Int.reduceLE,Int.reduceLT,Int.reduceToNat,Nat.reduceMul,Int.cast_ofNat_Int]
  refine hX _ h6 _ ?_ ?_ ?_ ma6 (Keeps.trans (n := h0.size) (k2.mono kk.size) k6)
  ·exact w0
  ·exact w3
  ·exact w4
set_option maxHeartbeats 1000000 in
theorem c7_16 (F : Ff E) {h0 h : H} {K : List Fr} {Q : Po} {ρ : Nat → V} {lv : V} {ws : List WV} (hv : VsIn h0 lv ws) {t : Nat} {ov : Nat → V} {fs : Nat → List Flaw} (ma : MA h0.size h t ov fs) (kk : Kp h0 h) {a : Nat} (ha : a < ws.length) (hu : upW ws a = true)
  (w0 : ρ 0 = lv) (w3 : ρ 3 = pP t) (w4 : ρ 4 = iI a)
  (hlen : (fs 5 ++ f5 ws a).length ≤ 1099511627775)
  (hX : ∀ (ρ' : Nat → V) (h' : H) (ov' : Nat → V),ρ' 0 = lv → ρ' 3 = pP t → ρ' 4 = iI a → MA h0.size h' t ov' (upF fs 5 (f5 ws a)) → Keeps h0.size h h' → X P E none 169 K ρ' h' Q) :
  X P E none 169 (.c (.seq (.region r7_16) (.cond (.t 151) (.draw r7_17) (.skip))) :: K) ρ h Q := by
 have hvh := hv.keep kk
 obtain ⟨b1,o1,c1,p1,cs1,ty1,op1,ro1,fz1,vb,hg1,hlb,heb,hnb⟩ := view_nth hvh.sl ha
 have ea4 := hnb 4 _ (View.g4 ws[a].x)
 have w0' := w0.trans vb
 have hf := f5_less ha
 rw [← upW_at ha,hu,Bool.true_and] at hf
 cases hbo : ws[a].x.booted with
 | false =>
  rw [hbo] at hf ea4
  have hf' : f5 ws a = [] := by simpa using hf
  rw [hf',upF_nil] at hX
  simp only [GR,evK,binV,intOp,strOp,shOp,unV,Nat.reduceLT,Nat.reduceEqDiff,Nat.reduceAdd,↓reduceIte,Nat.reduceLeDiff,reduceCtorEq,r7_16,w0',w4,Int.natCast_nonneg,Int.ofNat_lt,ha,Int.toNat_natCast,hg1,ea4]
  refine hX _ h ov ?_ ?_ ?_ ma (Keeps.refl _ _)
  ·exact w0
  ·exact w3
  ·exact w4
 | true =>
  rw [hbo] at hf ea4
  have hf' : f5 ws a = less5 ws a := by simpa using hf
  rw [hf'] at hX hlen
  simp only [GR,evK,binV,intOp,strOp,shOp,unV,Nat.reduceLT,Nat.reduceEqDiff,Nat.reduceAdd,↓reduceIte,Nat.reduceLeDiff,reduceCtorEq,r7_16,w0',w4,Int.natCast_nonneg,Int.ofNat_lt,ha,Int.toNat_natCast,hg1,ea4]
  have hl5 : (less5 ws a).length ≤ 1099511627775 := by rw [List.length_append] at hlen; omega
  obtain ⟨v1,h3,e1,acc1,k3⟩ := less24 (P := P) F hvh ha hl5
  have ma3 := ma.kp k3
  obtain ⟨ee,pe,ce,oe,hve⟩ := acc_elems acc1
  rw [List.length_map] at ee hve
  obtain ⟨v2,h4,h5,e2,e3,hs2,ma5,k5,kb5⟩ := ma3.app (k := 5) (by decide) (Kp.trans kk k3).size (x := v1) (ys := less5 ws a) (by rw [hve]; rfl) ee hlen
  have hs1 : IsSl (ov 5) := by
   rcases (ma.acc 5 (by decide)).shape with ⟨_,e⟩ | ⟨_,e,_⟩ <;> exact ⟨_,_,_,_,e⟩
  rw [X_draw]
  refine cas7_17 hs1 hs2 ?_ ?_ ?_ ma.box ma3.box e1 e2 e3 ?_
  ·exact w3
  ·exact w0
  ·exact w4
  intro ρ3 hr3
  refine hX ρ3 h5 _ ?_ ?_ ?_ ma5 (Keeps.trans (n := h0.size) (k3.mono kk.size) k5)
  ·rw [hr3 0 (by decide)]; exact w0
  ·rw [hr3 3 (by decide)]; exact w3
  ·rw [hr3 4 (by decide)]; exact w4
theorem up35 (ws : List WV) (fs : Nat → List Flaw) (a : Nat) : ∀ k,upF (upF fs 3 (f3 ws a)) 5 (f5 ws a) k = fs k ++ sk ws k a
 | 0 => by simp [upF,sk] | 1 => by simp [upF,sk] | 2 => by simp [upF,sk] | 3 => by simp [upF,sk] | 4 => by simp [upF,sk] | 5 => by simp [upF,sk]
 | k + 6 => by
  have e : sk ws (k + 6) a = [] := rfl
  rw [e,List.append_nil]
  unfold upF
  rw [if_neg (by omega),if_neg (by omega)]
set_option maxHeartbeats 1000000 in
theorem outer7 (F : Ff E) (G : Fa E) (F23 : Fr23 E) {h0 : H} {lv : V} {ws : List WV} (hv : VsIn h0 lv ws) {t : Nat} {gs : Nat → List Flaw} (hgs : ∀ k,k < 6 → (gs k).length ≤ 1099511627775) {K : List Fr} {Q : Po}
  (cont : ∀ (ρ' : Nat → V) (h' : H) (ov' : Nat → V),ρ' 3 = pP t → MA h0.size h' t ov' gs → Kp h0 h' → X P E none 169 K ρ' h' Q) :
  ∀ (d a : Nat) (ρ : Nat → V) (h : H) (ov : Nat → V) (fs : Nat → List Flaw),ws.length - a = d → a ≤ ws.length → ρ 0 = lv → ρ 3 = pP t → ρ 4 = iI a → MA h0.size h t ov fs → Kp h0 h → (∀ k,fs k ++ restO ws k d a = gs k) → XL P E none 169 b7_19 (.b 0 :: K) ρ h Q := by
 have hm := hv.len
 intro d
 induction d with
 | zero =>
  intro a ρ h ov fs hd ha q0 q3 q4 ma kk hfs
  have hae : ¬ a < ws.length := by omega
  obtain ⟨sa,sc,so,hlv⟩ := hv.sl.len
  rw [List.length_map] at hlv
  have q0' := q0.trans hlv
  have hg : fs = gs := funext fun k => by rw [← hfs k]; simp [restO,outP]
  rw [u7_19]
  simp only [GR,evK,binV,intOp,strOp,shOp,unV,Nat.reduceLT,Nat.reduceEqDiff,Nat.reduceAdd,↓reduceIte,Nat.reduceLeDiff,reduceCtorEq,r7_0,q4,q0',Int.ofNat_lt,hae]
  rw [hg] at ma
  exact cont _ h ov q3 ma kk
 | succ d ih =>
  intro a ρ h ov fs hd ha q0 q3 q4 ma kk hfs
  have hae : a < ws.length := by omega
  have hvh := hv.keep kk
  obtain ⟨b1,o1,c1,p1,cs1,ty1,op1,ro1,fz1,vb,hg1,hlb,heb,hnb⟩ := view_nth hvh.sl hae
  have ea2 := hnb 2 _ (View.g2 ws[a].x)
  have q0' := q0.trans vb
  have hw : IntKind.i64.wrap ((a : Int) + 1) = ((a + 1 : Nat) : Int) := wrap_nat (n := a + 1) (by omega)
  have hua := upW_at hae
  have next : ∀ (ρ2 : Nat → V) (h2 : H) (ov2 : Nat → V) (fs2 : Nat → List Flaw),ρ2 0 = lv → ρ2 3 = pP t → ρ2 4 = iI a → MA h0.size h2 t ov2 fs2 → Kp h0 h2 → (∀ k,fs2 k ++ restO ws k d (a + 1) = gs k) → XO P E none 169 r7_18 (.l b7_19 :: .b 0 :: K) ρ2 h2 Q := by
   intro ρ2 h2 ov2 fs2 y0 y3 y4 ma2 kk2 hf2
   simp only [GR,evK,binV,intOp,strOp,shOp,unV,Nat.reduceLT,Nat.reduceEqDiff,Nat.reduceAdd,↓reduceIte,Nat.reduceLeDiff,reduceCtorEq,r7_18,y4,hw]
   refine ih (a + 1) _ h2 ov2 fs2 (by omega) (by omega) ?_ ?_ ?_ ma2 kk2 hf2
   ·exact y0
   ·exact y3
   ·rfl
  rw [u7_19]
  cases hup : ws[a].x.up with
  | false =>
   rw [hup] at ea2 hua
   simp only [GR,evK,binV,intOp,strOp,shOp,unV,Nat.reduceLT,Nat.reduceEqDiff,Nat.reduceAdd,↓reduceIte,Nat.reduceLeDiff,reduceCtorEq,r7_0,q4,q0',Int.natCast_nonneg,Int.ofNat_lt,hae,Int.toNat_natCast,r7_1,hg1,ea2]
   refine next _ h ov fs ?_ ?_ ?_ ma kk (fun k => ?_)
   ·exact q0
   ·exact q3
   ·exact q4
   ·have := hfs k
    rw [restO_succ,innP_off hua,sk_off hae hua] at this
    simpa using this
  | true =>
   rw [hup] at ea2 hua
   have hfs' : ∀ k,(fs k ++ (innP (upW ws) a (ws.length - (a + 1)) (a + 1)).flatMap (fk ws k)) ++ sk ws k a ++ restO ws k d (a + 1) = gs k := fun k => by
    have := hfs k
    rw [restO_succ] at this
    simpa only [List.append_assoc] using this
   have hle : ∀ k,k < 6 → ((fs k ++ (innP (upW ws) a (ws.length - (a + 1)) (a + 1)).flatMap (fk ws k)) ++ sk ws k a).length ≤ 1099511627775 := fun k hk => by
    have h1 := hgs k hk
    rw [← hfs' k,List.length_append] at h1; omega
   simp only [GR,evK,binV,intOp,strOp,shOp,unV,Nat.reduceLT,Nat.reduceEqDiff,Nat.reduceAdd,↓reduceIte,Nat.reduceLeDiff,reduceCtorEq,r7_0,q4,q0',Int.natCast_nonneg,Int.ofNat_lt,hae,Int.toNat_natCast,r7_1,hg1,ea2,r7_2,hw]
   refine inner7 F G hv hae hua (gs := fun k => fs k ++ (innP (upW ws) a (ws.length - (a + 1)) (a + 1)).flatMap (fk ws k)) (fun k hk => by have := hle k hk; rw [List.length_append] at this; omega) ?_ (ws.length - (a + 1)) (a + 1) _ h ov fs rfl (by omega) ?_ ?_ ?_ ?_ ma kk (fun k => rfl)
   ·intro ρ2 h2 ov2 y0 y3 y4 ma2 kk2
    rw [X_seq]
    have l3 := hle 3 (by decide)
    have l5 := hle 5 (by decide)
    refine c7_13 F23 hv ma2 kk2 hae hua y0 y3 y4 l3 ?_
    intro ρ3 h3 ov3 z0 z3 z4 ma3 k3
    have kk3 : Kp h0 h3 := Keeps.trans (n := h0.size) kk2 k3
    refine c7_16 F hv ma3 kk3 hae hua z0 z3 z4 (by simpa [upF,sk] using l5) ?_
    intro ρ4 h4 ov4 x0 x3 x4 ma4 k4
    have kk4 : Kp h0 h4 := Keeps.trans (n := h0.size) kk3 k4
    simp only [GR,evK,binV,intOp,strOp,shOp,unV,Nat.reduceLT,Nat.reduceEqDiff,Nat.reduceAdd,↓reduceIte,Nat.reduceLeDiff,reduceCtorEq]
    refine next _ h4 ov4 _ ?_ ?_ ?_ ma4 kk4 (fun k => by rw [up35]; exact hfs' k)
    ·exact x0
    ·exact x3
    ·exact x4
   ·exact q0
   ·exact q3
   ·exact q4
   ·rfl
theorem six_get (ov : Nat → V) {k : Nat} (hk : k < 6) : [ov 0,ov 1,ov 2,ov 3,ov 4,ov 5][k]? = some (ov k) := by
 match k,hk with
 | 0,_ => rfl | 1,_ => rfl | 2,_ => rfl | 3,_ => rfl | 4,_ => rfl | 5,_ => rfl
def DisL (ov : Nat → V) (al : V) : Prop := ∀ j,j < 6 → ∀ b p n c q p' n' c' q',ov j = .slice (some (b,p)) n c q → al ≠ .slice (some (b,p')) n' c' q'
theorem MA.fr {lo : Nat} {h h' : H} {t : Nat} {ov : Nat → V} {fs : Nat → List Flaw} (a : MA lo h t ov fs) {al : V} {xs : List (List V)} (ac : Acc h lo 30 4 al xs) (di : DisL ov al) (fr : ∀ i o,h.get i = some o → (∀ p n c q,al ≠ .slice (some (i,p)) n c q) → h'.get i = some o) : MA lo h' t ov fs := by
 refine ⟨fr _ _ a.box fun p n c q e => ?_,fun j hj => ⟨?_,(a.acc j hj).elem⟩,a.dis,a.low⟩
 ·rcases ac.shape with ⟨_,e0⟩ | ⟨b,e0,_,g⟩
  ·change _ = _ at e; rw [e0] at e; cases e
  ·change _ = _ at e; rw [e0] at e; cases e
   have := a.box
   change _ = _ at this; rw [g] at this; simp at this
 ·rcases (a.acc j hj).shape with h9 | ⟨b2,q1,q2,q3⟩
  ·exact .inl h9
  ·exact .inr ⟨b2,q1,q2,fr _ _ q3 fun p n c q e => di j hj _ _ _ _ _ _ _ _ _ q1 e⟩
set_option maxHeartbeats 1000000 in
theorem last7 {h0 : H} {t : Nat} {gs : Nat → List Flaw} {full : List Flaw} (hfull : full.length ≤ 1099511627775) (ov : Nat → V) :
  ∀ (d k : Nat) (ρ : Nat → V) (h : H) (al : V) (fs : List Flaw),6 - k = d → k ≤ 6 → ρ 3 = pP t → ρ 10 = al → ρ 11 = iI k → MA h0.size h t ov gs → Kp h0 h → Acc h h0.size 30 4 al (fs.map Flaw.cells) → DisL ov al → fs ++ (List.range' k d).flatMap gs = full →
   XL P E none 169 b7_23 [.b 4,.c (.seq (.region r7_24) (.ret))] ρ h (Fin [.t 2] fun v h' => Acc h' h0.size 30 4 v (full.map Flaw.cells) ∧ Kp h0 h') := by
 intro d
 induction d with
 | zero =>
  intro k ρ h al fs hd hk q3 q10 q11 ma kk acc di hfs
  have hke : ¬ k < 6 := by omega
  have hki : ¬ (k : Int) < 6 := by omega
  have hf : fs = full := by rw [← hfs]; simp
  rw [u7_23]
  simp only [GR,evK,binV,intOp,strOp,unV,Nat.reduceLT,Nat.reduceEqDiff,↓reduceIte,r7_20,q11,hki,r7_24,q10]
  rw [← hf]
  exact ⟨acc,kk⟩
 | succ d ih =>
  intro k ρ h al fs hd hk q3 q10 q11 ma kk acc di hfs
  have hke : k < 6 := by omega
  have hki : (k : Int) < 6 := by omega
  have hki2 : (k : Int) < ((6 : Nat) : Int) := by omega
  have hw : IntKind.i64.wrap ((k : Int) + 1) = ((k + 1 : Nat) : Int) := wrap_nat (n := k + 1) (by omega)
  have gk := six_get ov hke
  have gt := ma.box
  have njo : (ov k).nj = true := by
   rcases (ma.acc k hke).shape with ⟨_,e⟩ | ⟨_,e,_⟩ <;> rw [e] <;> rfl
  rw [List.range'_succ,List.flatMap_cons,← List.append_assoc] at hfs
  have hl : (fs ++ gs k).length ≤ 1099511627775 := by
   have := congrArg List.length hfs
   rw [List.length_append] at this; omega
  obtain ⟨ee,pe,ce,oe,hve⟩ := acc_elems (ma.acc k hke)
  obtain ⟨v',h1,e1,acc1,k1,⟨p1,n1,c1,o1,hv1⟩,s1,fr1,hnew⟩ := app_fr2 (bytes := 32) (x := ov k) (ys := (gs k).map Flaw.cells) acc kk.size (by rw [hve]; rfl) ee (fun y hy => by obtain ⟨z,_,rfl⟩ := List.mem_map.1 hy; exact ⟨rfl,rfl⟩) (by rw [List.length_append] at hl; simp only [List.length_map]; omega)
  have ma1 := ma.fr acc di fr1
  have di1 : DisL ov v' := by
   intro j hj b p n c q p' n' c' q' ej e
   rcases hnew with e2 | ⟨b2,n2,c2,q2,e2,hb2⟩
   ·rw [e2] at e; exact di j hj _ _ _ _ _ _ _ _ _ ej e
   ·change _ = _ at e; rw [e2] at e; cases e
    rcases (ma.acc j hj).shape with ⟨_,e3⟩ | ⟨b3,e3,_,g3⟩
    ·change _ = _ at ej; rw [e3] at ej; cases ej
    ·change _ = _ at ej; rw [e3] at ej; cases ej
     have := H.get_lt g3; omega
  rw [u7_23]
  generalize hcs : [ov 0,ov 1,ov 2,ov 3,ov 4,ov 5] = cs at *
  simp only [GR,evK,binV,intOp,strOp,unV,Nat.reduceLT,Nat.reduceEqDiff,↓reduceIte,r7_20,q11,hki,r7_21,q10,q3,Int.natCast_nonneg,hki2,Int.toNat_natCast,Nat.mul_one,gt,gk,njo,e1,r7_22,hw]
  refine ih (k + 1) _ h1 v' (fs ++ gs k) (by omega) (by omega) ?_ ?_ ?_ ma1 (Keeps.trans (n := h0.size) kk k1) (by rw [List.map_append]; exact acc1) di1 hfs
  ·exact q3
  ·rfl
  ·rfl
noncomputable def gsF (ws : List WV) : Nat → List Flaw
 | 1 => F1 ws | 2 => F2 ws | 3 => F3 ws | 4 => F4 ws | 5 => F5 ws | _ => []
theorem gsF_rest (ws : List WV) : ∀ k,[] ++ restO ws k ws.length 0 = gsF ws k
 | 0 => by simp [restO,gsF,fk,sk,flat_nil]
 | 1 => by show _ = F1 ws; simp [restO,fk,sk,F1,pairsL]
 | 2 => by show _ = F2 ws; simp [restO,fk,sk,F2,pairsL]
 | 3 => by show _ = F3 ws; simp [restO,fk,sk,F3,List.range_eq_range']
 | 4 => by show _ = F4 ws; simp [restO,fk,sk,F4,pairsL]
 | 5 => by show _ = F5 ws; simp [restO,fk,sk,F5,List.range_eq_range']
 | k + 6 => by
  have e1 : fk ws (k + 6) = fun _ => [] := rfl
  have e2 : sk ws (k + 6) = fun _ => [] := rfl
  have e3 : gsF ws (k + 6) = [] := rfl
  simp [restO,e1,e2,e3,flat_nil]
theorem gsF_all (ws : List WV) : [] ++ (List.range' 1 5).flatMap (gsF ws) = allF ws := by
 have h : List.range' 1 5 = [1,2,3,4,5] := rfl
 have h2 : List.range 5 = [0,1,2,3,4] := rfl
 simp [allF,h,h2,gsF,ck]
theorem gsF_le {ws : List WV} (hlen : (allF ws).length ≤ 1099511627775) : ∀ k,k < 6 → (gsF ws k).length ≤ 1099511627775 := by
 have h := congrArg List.length (gsF_all ws)
 have h2 : List.range' 1 5 = [1,2,3,4,5] := rfl
 rw [h2] at h
 simp only [List.nil_append,List.flatMap_cons,List.flatMap_nil,List.length_append,List.length_nil] at h
 intro k hk
 match k,hk with
 | 0,_ => exact Nat.zero_le _
 | 1,_ => omega | 2,_ => omega | 3,_ => omega | 4,_ => omega | 5,_ => omega
set_option maxHeartbeats 1000000 in
theorem flaws7 (F : Ff E) (G : Fa E) (F23 : Fr23 E) {h0 : H} {lv : V} {ws : List WV} (hv : VsIn h0 lv ws) (hlen : (allF ws).length ≤ 1099511627775) :
  Sp P E (.func 7 [] []) [lv] h0 fun v h' => Acc h' h0.size 30 4 v ((allF ws).map Flaw.cells) ∧ Kp h0 h' := by
 have k1 : Kp h0 (h0.psh (.cells [sN,sN,sN,sN,sN,sN] 68 false false none)) := Keeps.psh (Nat.le_refl _) _
 have g1 := psh_same h0 (.cells [sN,sN,sN,sN,sN,sN] 68 false false none)
 have ma1 : MA h0.size (h0.psh (.cells [sN,sN,sN,sN,sN,sN] 68 false false none)) h0.size (fun _ => sN) (fun _ => []) :=
  ⟨g1,fun k _ => Acc.nil _ _ _ _,fun j k _ _ _ b p n c q p' n' c' q' e => (by cases e),Nat.le_refl _⟩
 refine Sp_fn F.f7 F.p7 (by simp [fn7]) ?_
 simp only [GR,evK,binV,intOp,strOp,unV,Nat.reduceLT,Nat.reduceEqDiff,↓reduceIte,fn7,c7]
 generalize h0.psh (.cells [sN,sN,sN,sN,sN,sN] 68 false false none) = h1 at *
 refine outer7 F G F23 hv (gsF_le hlen) ?_ ws.length 0 _ h1 _ _ rfl (Nat.zero_le _) ?_ ?_ ?_ ma1 k1 (gsF_rest ws)
 ·intro ρ2 h2 ov2 y3 ma2 kk2
  simp only [GR,evK,binV,intOp,strOp,unV,Nat.reduceLT,Nat.reduceEqDiff,↓reduceIte]
  refine last7 hlen ov2 5 1 _ h2 sN [] rfl (by decide) ?_ ?_ ?_ ma2 kk2 (Acc.nil _ _ _ _) (fun j hj b p n c q p' n' c' q' _ e => by cases e) (gsF_all ws)
  ·exact y3
  ·rfl
  ·rfl
 ·rfl
 ·rfl
 ·rfl
structure C3 (lo : Nat) (h : H) (al : List Flaw) (bs bw bo br : Nat) (wv ov : V) (stop : Int) : Prop where
 gs : cC h bs [iI stop] 3
 gw : cC h bw [wv] 24
 go : cC h bo [ov] 24
 gr : cC h br [.bool false] 4
 aw : Acc h lo 30 4 wv (al.map Flaw.cells)
 ao : Acc h lo 30 4 ov (al.map Flaw.cells)
variable {lo : Nat} {al : List Flaw} {bs bw bo br : Nat} {wv ov : V} {stop : Int}
theorem C3.kp {h h' : H} (a : C3 lo h al bs bw bo br wv ov stop) (k : Kp h h') : C3 lo h' al bs bw bo br wv ov stop := ⟨k.of a.gs,k.of a.gw,k.of a.go,k.of a.gr,a.aw.keep k,a.ao.keep k⟩
theorem C3.set {h : H} (a : C3 lo h al bs bw bo br wv ov stop) {i : Nat} {o : Obj} (hg : h.get i = some o) (hs : i ≠ bs) (hw : i ≠ bw) (ho : i ≠ bo) (hr : i ≠ br) (hn : ∀ vs,o ≠ .cells vs 30 true false none) (o' : Obj) : C3 lo (h.set i o') al bs bw bo br wv ov stop := by
 have hlt := H.get_lt hg
 refine ⟨?_,?_,?_,?_,Acc.set_o a.aw hg hn o',Acc.set_o a.ao hg hn o'⟩
 ·show _ = _; rw [hset_other hlt hs]; exact a.gs
 ·show _ = _; rw [hset_other hlt hw]; exact a.gw
 ·show _ = _; rw [hset_other hlt ho]; exact a.go
 ·show _ = _; rw [hset_other hlt hr]; exact a.gr
structure R3 (h : H) (l b7 bn : Nat) (o : Obj) (rd : Nat) (n : Int) : Prop where
 gl : h.get l = some o
 g7 : cC h b7 [iI rd] 3
 gn : cC h bn [iI n] 3
theorem R3.kp {h h' : H} {l b7 bn : Nat} {o : Obj} {rd : Nat} {n : Int} (a : R3 h l b7 bn o rd n) (k : Kp h h') : R3 h' l b7 bn o rd n := ⟨k.of a.gl,k.of a.g7,k.of a.gn⟩
end Go.AM.Sc
namespace Go.AM.Sc
open Go.AM
variable {P : Program} {E : Env}
theorem Sl.uniq {h : H} {sz : Nat} {v : V} {xs ys : List (List V)} (a : Sl h sz v xs) (b : Sl h sz v ys) : xs = ys := by
 obtain ⟨p1,c1,o1,e1⟩ := a.len
 obtain ⟨p2,c2,o2,e2⟩ := b.len
 have hl : xs.length = ys.length := by
  rw [e1] at e2; injection e2
 refine List.ext_getElem hl fun i h1 h2 => ?_
 obtain ⟨b1,q1,c1',o1',vs,ty,op,ro,fz,w1,g1,_,r1⟩ := a.get (k := i) (x := xs[i]) (by simp [h1])
 obtain ⟨b2,q2,c2',o2',vs2,ty2,op2,ro2,fz2,w2,g2,_,r2⟩ := b.get (k := i) (x := ys[i]) (by simp [h2])
 have hvv := w1.symm.trans w2
 rw [← hl] at hvv
 cases hvv
 rw [g1] at g2; cases g2
 exact r1.symm.trans r2
theorem attr_inj : ∀ {xs ys : List Attr},xs.map Attr.cells = ys.map Attr.cells → xs = ys
 | [],[],_ => rfl
 | [],y :: ys,h => by cases h
 | x :: xs,[],h => by cases h
 | x :: xs,y :: ys,h => by
  simp only [List.map_cons,List.cons.injEq] at h
  have h1 : x = y := by
   cases x; cases y
   have := h.1
   simp only [Attr.cells,List.cons.injEq,V.str.injEq,and_true] at this
   obtain ⟨rfl,rfl⟩ := this; rfl
  rw [h1,attr_inj h.2]
theorem tnode_inj {x y : TNode} (h : x.cells = y.cells) : x = y := by
 cases x; cases y
 simp only [TNode.cells,List.cons.injEq,V.int.injEq,V.str.injEq,true_and,and_true] at h
 obtain ⟨h1,h2,h3,h4⟩ := h
 simp only [h1,h2,h3,h4]
theorem NIn.uniq {h : H} {x : TNode} {d e : DNode} (a : NIn h x d) (b : NIn h x e) : d = e := by
 have h1 := attr_inj (Sl.uniq a.attrs b.attrs)
 have := a.node; have := b.node; have := a.parent; have := b.parent; have := a.name; have := b.name
 cases d; cases e
 simp_all
theorem nodes_uniq {h : H} : ∀ {xs ys : List (TNode × DNode)},xs.map (fun p => p.1.cells) = ys.map (fun p => p.1.cells) → (∀ p ∈ xs,NIn h p.1 p.2) → (∀ p ∈ ys,NIn h p.1 p.2) → xs.map (·.2) = ys.map (·.2)
 | [],[],_,_,_ => rfl
 | [],y :: ys,h,_,_ => by cases h
 | x :: xs,[],h,_,_ => by cases h
 | x :: xs,y :: ys,he,hx,hy => by
  simp only [List.map_cons,List.cons.injEq] at he ⊢
  have h1 := tnode_inj he.1
  have a := hx x (by simp)
  have b := hy y (by simp)
  rw [h1] at a
  exact ⟨NIn.uniq a b,nodes_uniq he.2 (fun p hp => hx p (by simp [hp])) (fun p hp => hy p (by simp [hp]))⟩
def NodesIn (h : H) (lv : V) (ns : List (TNode × DNode)) : Prop := Sl h 4 lv (ns.map fun p => p.1.cells) ∧ (∀ p ∈ ns,NIn h p.1 p.2) ∧ ns.length ≤ 1048576
open Classical in
noncomputable def fromG : List V → H → Option (V × H) := fun args h => match args with
 | [lv] => if he : ∃ ns,NodesIn h lv ns then some (.tup [.junk,.int .i64 (codeT (he.choose.map (·.2)))],h) else none
 | _ => none
theorem fromG_eq {h : H} {lv : V} {ns : List (TNode × DNode)} (hn : NodesIn h lv ns) : fromG [lv] h = some (.tup [.junk,iI (codeT (ns.map (·.2)))],h) := by
 unfold fromG
 have he : ∃ ns,NodesIn h lv ns := ⟨ns,hn⟩
 simp only [dif_pos he]
 have hs := he.choose_spec
 rw [nodes_uniq (Sl.uniq hs.1 hn.1) hs.2.1 hn.2.1]
theorem fromE_of {E : Env} (hp : E.prim 67 = some fromG) : FromE P E := by
 intro h lv ns hs hi hl
 exact ⟨_,_,by rw [AP_prim hp]; exact fromG_eq ⟨hs,hi,hl⟩,rfl,rfl⟩
theorem from_ok (hmix : P.follows .mixedOrders = true) {prim : Nat → Option (List V → H → Option (V × H))} (hp : PrimOK P prim) (F : Ft (envOf P prim)) {fn : Func} (hg : P.funcs[67]? = some fn) (hc : cFn P fn = some fn67) {args : List V} {h h' : H} {v : V} {m : Mp} {w : World} {xs : List Value} (he : fromG args h = some (v,h')) (hr : HR P m h w) (hx : VRL m args xs) (n : Nat) :
  CallsIn (FF none) n P 67 xs.toArray w (Post P m h w v h') := by
 unfold fromG at he
 split at he
 ·rename_i lv
  split at he
  ·rename_i hex
   cases he
   obtain ⟨h1,h2,h3⟩ := hex.choose_spec
   refine nsp_prim hmix hp hg hc (NSp.mono (from67 F h1 h2 h3) ?_) hr hx n
   rintro v h' ⟨⟨p,rfl,hp2⟩,k⟩
   refine ⟨k,fun m m' x hx => ?_⟩
   obtain ⟨ys,k1,rfl⟩ := hx
   obtain ⟨y1,ys1,z1,⟨y2,ys2,z2,z3,rfl⟩,rfl⟩ := k1
   cases z2; cases z3
   have hj : VR m' .junk y1 := by
    rcases hp2 with rfl | ⟨i,rfl⟩
    ·cases z1; exact ⟨rfl,(by intro b e; cases e),(by intro e; cases e)⟩
    ·obtain ⟨r,sh,e,_,rfl⟩ := z1; exact ⟨rfl,(by intro b e; cases e),(by intro e; cases e)⟩
   exact ⟨_,⟨_,_,hj,⟨_,_,rfl,rfl,rfl⟩,rfl⟩,rfl⟩
  ·cases he
 ·cases he
variable {lo : Nat} {al : List Flaw} {bs bw bo br : Nat} {wv ov : V} {stop : Int}
theorem allF_le {ws : List WV} (hlen : (allF ws).length ≤ 1099511627775) : (F1 ws).length ≤ 1099511627775 ∧ (F2 ws).length ≤ 1099511627775 ∧ (F3 ws).length ≤ 1099511627775 ∧ (F4 ws).length ≤ 1099511627775 ∧ (F5 ws).length ≤ 1099511627775 :=
 ⟨gsF_le hlen 1 (by decide),gsF_le hlen 2 (by decide),gsF_le hlen 3 (by decide),gsF_le hlen 4 (by decide),gsF_le hlen 5 (by decide)⟩
theorem flawsP25 (F : Ff E) (G : Fa E) (hfrom : FromE P E) {h0 : H} {lv : V} {ws : List WV} (hv : VsIn h0 lv ws) (hlen : (allF ws).length ≤ 1099511627775) : Sp P E (.func 25 [] []) [lv] h0 fun v h' => Acc h' h0.size 30 4 v ((allF ws).map Flaw.cells) ∧ Kp h0 h' := by
 obtain ⟨l1,l2,l3,l4,l5⟩ := allF_le hlen
 refine flaws25 F hv hlen fun k hk h hv => ?_
 match k,hk with
 | 0,_ => exact unlike51 F G hv l1
 | 1,_ => exact unlike52 F G hv l2
 | 2,_ => exact noTrees53 F hfrom hv l3
 | 3,_ => exact unlike54 F G hv l4
 | 4,_ => exact ahead55 F hv l5
end Go.AM.Sc
namespace Go.AM.Sc
open Go.AM
theorem flat_le {α β : Type} {f : α → List β} {c : Nat} : ∀ {l : List α},(∀ x ∈ l,(f x).length ≤ c) → (l.flatMap f).length ≤ l.length * c
 | [],_ => by simp
 | x :: r,h => by
  have := flat_le (f := f) (c := c) (l := r) fun y hy => h y (List.mem_cons_of_mem _ hy)
  have h1 := h x List.mem_cons_self
  rw [List.flatMap_cons,List.length_append,List.length_cons,Nat.add_mul]
  omega
theorem innP_len (u : Nat → Bool) (a : Nat) : ∀ d b,(innP u a d b).length ≤ d
 | 0,_ => Nat.le_refl _
 | d + 1,b => by
  have := innP_len u a d (b + 1)
  unfold innP; split
  ·rw [List.length_cons]; omega
  ·omega
theorem innP_fst {u : Nat → Bool} {a : Nat} : ∀ {d b : Nat} {p : Nat × Nat},p ∈ innP u a d b → p.1 = a
 | 0,_,_,h => by cases h
 | d + 1,b,p,h => by
  unfold innP at h; split at h
  ·rcases List.mem_cons.1 h with h | h
   ·rw [h]
   ·exact innP_fst h
  ·exact innP_fst h
theorem outP_flat {u : Nat → Bool} {m : Nat} {f : Nat × Nat → List Flaw} {g : Nat → Nat} (hf : ∀ p,(f p).length ≤ g p.1) : ∀ d a,((outP u m d a).flatMap f).length ≤ m * ((List.range' a d).map g).sum
 | 0,_ => by simp [outP]
 | d + 1,a => by
  have ih := outP_flat hf (u := u) (m := m) d (a + 1)
  have h1 := flat_le (f := f) (c := g a) (l := innP u a (m - (a + 1)) (a + 1)) fun p hp => by rw [← innP_fst hp]; exact hf p
  have h2 := innP_len u a (m - (a + 1)) (a + 1)
  have h3 : (innP u a (m - (a + 1)) (a + 1)).length * g a ≤ m * g a := Nat.mul_le_mul_right _ (by omega)
  rw [outP,List.flatMap_append,List.length_append,List.range'_succ,List.map_cons,List.sum_cons,Nat.mul_add]
  omega
theorem chsL_len (A B : WV) : ∀ d i,(chsL A B d i).length ≤ d
 | 0,_ => Nat.le_refl _
 | d + 1,i => by
  have ih := chsL_len A B d (i + 1)
  unfold chsL; split
  ·split
   ·omega
   ·rw [List.length_cons]; omega
  ·omega
def esN (ws : List WV) (a : Nat) : Nat := ((ws[a]?).map fun w => w.es.length).getD 0
theorem f1_len (ws : List WV) (p : Nat × Nat) : (f1 ws p).length ≤ esN ws p.1 := by
 unfold f1; split
 ·rename_i A B hA hB
  have : esN ws p.1 = A.es.length := by simp [esN,hA]
  rw [this]
  split
  ·rw [List.length_map]; exact chsL_len A B _ _
  ·exact Nat.zero_le _
 ·exact Nat.zero_le _
theorem f2_len (ws : List WV) (p : Nat × Nat) : (f2 ws p).length ≤ 1 := by
 unfold f2; split
 ·split
  ·exact Nat.le_refl _
  ·exact Nat.zero_le _
 ·exact Nat.zero_le _
theorem f4_len (ws : List WV) (p : Nat × Nat) : (f4 ws p).length ≤ 1 := by
 unfold f4; split
 ·split
  ·exact Nat.le_refl _
  ·exact Nat.zero_le _
 ·exact Nat.zero_le _
theorem f3_len (ws : List WV) (a : Nat) : (f3 ws a).length ≤ 1 := by
 unfold f3; split
 ·split
  ·exact Nat.le_refl _
  ·exact Nat.zero_le _
 ·exact Nat.zero_le _
theorem f5R_len (ws : List WV) (a b : Nat) : (f5R ws a b).length ≤ 1 := by
 unfold f5R; split
 ·split
  ·exact Nat.le_refl _
  ·exact Nat.zero_le _
 ·exact Nat.zero_le _
theorem f5_len {ws : List WV} {a : Nat} (ha : a < ws.length) : (f5 ws a).length ≤ ws.length := by
 rw [f5_less ha]
 split
 ·have := flat_le (f := f5R ws a) (c := 1) (l := List.range ws.length) fun b _ => f5R_len ws a b
  rw [List.length_range,Nat.mul_one] at this
  exact this
 ·exact Nat.zero_le _
theorem es_sum : ∀ (ws : List WV),((List.range' 0 ws.length).map (esN ws)).sum = (ws.map fun w => w.es.length).sum := by
 intro ws
 congr 1
 refine List.ext_getElem (by simp) fun i h1 h2 => ?_
 simp at h1
 simp [esN,h1]
theorem ones : ∀ (l : List Nat),(l.map fun _ => 1).sum = l.length
 | [] => rfl
 | x :: r => by simp [ones r]; omega
theorem four_sum : ∀ (ws : List WV),(ws.map fun w => w.es.length + 4).sum = (ws.map fun w => w.es.length).sum + 4 * ws.length
 | [] => rfl
 | x :: r => by have := four_sum r; simp only [List.map_cons,List.sum_cons,List.length_cons]; omega
theorem allF_bound {ws : List WV} (h : (ws.map fun w => w.es.length + 4).sum ≤ 1048576) : (allF ws).length ≤ 1099511627775 := by
 rw [four_sum] at h
 generalize hS : (ws.map fun w => w.es.length).sum = S at h
 have hn : ws.length ≤ 262144 := by omega
 have hS2 : S ≤ 1048576 := by omega
 have h1 : (F1 ws).length ≤ ws.length * S := by
  have := outP_flat (u := upW ws) (m := ws.length) (f1_len ws) ws.length 0
  rw [es_sum,hS] at this; exact this
 have h2 : (F2 ws).length ≤ ws.length * ws.length := by
  have := outP_flat (u := upW ws) (m := ws.length) (g := fun _ => 1) (f2_len ws) ws.length 0
  rw [ones,List.length_range'] at this; exact this
 have h4 : (F4 ws).length ≤ ws.length * ws.length := by
  have := outP_flat (u := upW ws) (m := ws.length) (g := fun _ => 1) (f4_len ws) ws.length 0
  rw [ones,List.length_range'] at this; exact this
 have h3 : (F3 ws).length ≤ ws.length * 1 := by
  have := flat_le (f := f3 ws) (c := 1) (l := List.range ws.length) fun a _ => f3_len ws a
  rw [List.length_range] at this; exact this
 have h5 : (F5 ws).length ≤ ws.length * ws.length := by
  have := flat_le (f := f5 ws) (c := ws.length) (l := List.range ws.length) fun a ha => f5_len (List.mem_range.1 ha)
  rw [List.length_range] at this; exact this
 have m1 : ws.length * S ≤ 262144 * 1048576 := Nat.mul_le_mul hn hS2
 have m2 : ws.length * ws.length ≤ 262144 * 262144 := Nat.mul_le_mul hn hn
 have h := congrArg List.length (gsF_all ws)
 have h6 : List.range' 1 5 = [1,2,3,4,5] := rfl
 rw [h6] at h
 simp only [List.nil_append,List.flatMap_cons,List.flatMap_nil,List.length_append,List.length_nil,gsF] at h
 omega
variable {P : Program} {E : Env}
theorem sl_nn (h : H) (n c : Nat) (o : Bool) : eqV h .sl (.slice none n c o) (.slice none 0 0 false) = some true := by simp [eqV]
theorem sl_sn (h : H) (p : Nat × Nat) (n c : Nat) (o : Bool) : eqV h .sl (.slice (some p) n c o) (.slice none 0 0 false) = some false := by simp [eqV]
theorem clone56 (F : Fa E) {v : V} {xs : List Opr} {h : H} (hx : Sl h 8 v (xs.map Opr.cells)) (hl : xs.length ≤ 1048576) :
  Sp P E (.func 56 [] []) [v] h fun r h' => SlF h.size h' r 8 (xs.map Opr.cells) ∧ Kp h h' := by
 obtain ⟨a,c,o,e1⟩ := hx.len
 rw [List.length_map] at e1
 refine Sp_fn F.f56 F.p56 (by simp [fn56]) ?_
 cases a with
 | none =>
  have : xs = [] := by
   subst e1
   generalize hq : xs.map Opr.cells = ys at hx
   generalize hv : V.slice none xs.length c o = v at hx
   cases hx with
   | nil a cap opn => exact List.map_eq_nil_iff.1 hq
   | «at» b o cap opn xs vs ty op ro fz hg hl he => cases hv
  subst this
  simp only [GR,evK,binV,intOp,strOp,shOp,unV,Nat.reduceLT,Nat.reduceEqDiff,Nat.reduceAdd,↓reduceIte,Nat.reduceLeDiff,reduceCtorEq,fn56,c56,r56_0,e1,sl_nn]
  exact ⟨.inl ⟨_,_,_,rfl,rfl⟩,Keeps.refl _ _⟩
 | some p =>
  have hk : Kp h (h.psh (.cells [] 38 false false none)) := Keeps.psh (Nat.le_refl _) _
  have he := (Sl.elems hx opr_len)
  rw [List.length_map,e1] at he
  obtain ⟨v',h',e2,k2,e3⟩ := app_mk (h := h.psh (.cells [] 38 false false none)) (ty := 38) (sz := 8) (bytes := 88) (n := xs.length) (base := some (h.size,0)) (x := .slice (some p) xs.length c o) rfl (elemsV_keep hk he) (by omega)
  simp only [GR,evK,binV,intOp,strOp,shOp,unV,Nat.reduceLT,Nat.reduceEqDiff,Nat.reduceAdd,↓reduceIte,Nat.reduceLeDiff,reduceCtorEq,fn56,c56,r56_0,e1,sl_sn,r56_1,e2]
  refine ⟨?_,hk.trans k2⟩
  rcases e3 with ⟨hn,a,rfl⟩ | ⟨hn,rfl,e4⟩
  ·exact .inl ⟨_,_,_,rfl,by rw [List.eq_nil_of_length_eq_zero hn]; rfl⟩
  ·exact .inr ⟨_,38,by rw [psh_size]; omega,by rw [List.length_map],e4⟩
theorem clone57 (F : Fa E) {v : V} {s : List UInt8} {h : H} (hx : Str h v s) (hl : s.length ≤ 1048576) :
  Sp P E (.func 57 [] []) [v] h fun r h' => DFr h.size h' r s ∧ Kp h h' := by
 refine Sp_fn F.f57 F.p57 (by simp [fn57]) ?_
 rcases hx with ⟨c,o,rfl,rfl⟩ | ⟨p,n,c,o,cs,rfl,he,hb⟩
 ·simp only [GR,evK,binV,intOp,strOp,shOp,unV,Nat.reduceLT,Nat.reduceEqDiff,Nat.reduceAdd,↓reduceIte,Nat.reduceLeDiff,reduceCtorEq,fn57,c57,r57_0,sl_nn]
  exact ⟨.inl ⟨_,_,_,rfl,rfl⟩,Keeps.refl _ _⟩
 ·have hk : Kp h (h.psh (.cells [] 5 false false none)) := Keeps.psh (Nat.le_refl _) _
  have h1 := elems_len rfl he
  have h2 := bytesV_len hb
  obtain ⟨v',h',e2,k2,e3⟩ := app_mk (h := h.psh (.cells [] 5 false false none)) (ty := 5) (sz := 1) (bytes := 1) (n := n) (base := some (h.size,0)) (x := .slice (some p) n c o) rfl (elemsV_keep hk he) (by omega)
  simp only [GR,evK,binV,intOp,strOp,shOp,unV,Nat.reduceLT,Nat.reduceEqDiff,Nat.reduceAdd,↓reduceIte,Nat.reduceLeDiff,reduceCtorEq,fn57,c57,r57_0,sl_sn,r57_1,e2]
  refine ⟨?_,hk.trans k2⟩
  rcases e3 with ⟨hn,a,rfl⟩ | ⟨hn,rfl,e4⟩
  ·exact .inl ⟨_,_,_,rfl,List.eq_nil_of_length_eq_zero (by omega)⟩
  ·have : n = cs.length := by omega
   subst this
   exact .inr ⟨_,5,cs,by rw [psh_size]; omega,rfl,e4,hb⟩
def withOps (x : Entry) (v : V) : Entry := { x with ops := v }
def withData (x : Entry) (v : V) : Entry := { x with part := { x.part with data := v } }
theorem setOps (x : Entry) (v : V) : setR x.cells 13 [v] = (withOps x v).cells := rfl
theorem setData (x : Entry) (v : V) : setR x.cells 52 [v] = (withData x v).cells := rfl
theorem put_eq {h : H} {b o : Nat} {vs ws : List V} {ty : Nat} {op : Bool} (hg : h.get b = some (.cells vs ty op false none)) (hw : o + ws.length ≤ vs.length) (h1 : ws.all V.one = true) (hne : ws.isEmpty = false) :
  putCells h b o ws = some (h.set b (.cells (setR vs o ws) ty op false none)) := by
 unfold putCells
 simp only [hne,Bool.false_eq_true,if_false,hg,hw,h1,fzFree,and_self,if_true]
theorem SlF.shape {lo : Nat} {h : H} {v : V} {sz : Nat} {xs : List (List V)} (a : SlF lo h v sz xs) : ∃ p n c o,v = .slice p n c o := by
 rcases a with ⟨a,c,o,rfl,_⟩ | ⟨b,ty,_,rfl,_⟩ <;> exact ⟨_,_,_,_,rfl⟩
theorem DFr.shape {lo : Nat} {h : H} {v : V} {s : List UInt8} (a : DFr lo h v s) : ∃ p n c o,v = .slice p n c o := by
 rcases a with ⟨a,c,o,rfl,_⟩ | ⟨b,ty,cs,_,rfl,_⟩ <;> exact ⟨_,_,_,_,rfl⟩
theorem fin_clone {x : Entry} {d : DEnt} {h h5 : H} {v1 v2 : V} {lo : Nat} (hx : EIn h x d) (h1 : SlF lo h5 v1 8 (d.ops.map Opr.cells)) (h2 : DFr lo h5 v2 d.data) : EFr lo h5 (withData (withOps x v1) v2) d :=
 ⟨hx.flat,h1,hx.len,h2,hx.dlen⟩
theorem EFr.lo {lo lo' : Nat} {h : H} {x : Entry} {d : DEnt} (a : EFr lo h x d) (k : lo' ≤ lo) : EFr lo' h x d := ⟨a.flat,a.ops.lo k,a.len,a.dat.lo k,a.dlen⟩
set_option maxHeartbeats 2000000 in
theorem clone32 (F : Fa E) {x : Entry} {d : DEnt} {h : H} (hx : EIn h x d) : Sp P E (.func 32 [] []) [.agg x.cells] h fun r h' => (∃ x',r = .agg x'.cells ∧ EFr h.size h' x' d) ∧ Kp h h' := by
 have hk0 : Kp h (h.psh (.cells x.cells 49 false false none)) := Keeps.psh (Nat.le_refl _) _
 have gx0 := psh_same h (.cells x.cells 49 false false none)
 have hs1 : (h.psh (.cells x.cells 49 false false none)).size = h.size + 1 := psh_size _ _
 generalize hh1 : h.psh (.cells x.cells 49 false false none) = h1 at *
 have hk1 : Kp h1 (h1.psh (.cells Entry.zero.cells 49 false false none)) := Keeps.psh (Nat.le_refl _) _
 have gx := Kp.of hk1 gx0
 have ge := psh_same h1 (.cells Entry.zero.cells 49 false false none)
 have hs2 : (h1.psh (.cells Entry.zero.cells 49 false false none)).size = h.size + 2 := by rw [psh_size,hs1]
 generalize hh2 : h1.psh (.cells Entry.zero.cells 49 false false none) = h2 at *
 have hh2' := hh2
 simp only [Entry.zero,Entry.cells,Opr.cells,Epoch.cells,Vec.cells,Part.cells] at hh2'
 have fl : ∀ z : Entry,z.cells.length = 56 := fun _ => rfl
 have p0 : ∀ z : Entry,List.take 56 z.cells = z.cells := fun _ => rfl
 have k02 := hk0.trans hk1
 refine Sp_fn F.f32 F.p32 (by simp [fn32]) ?_
 simp only [GR,evK,binV,intOp,strOp,shOp,unV,Nat.reduceLT,Nat.reduceEqDiff,Nat.reduceAdd,↓reduceIte,Nat.reduceLeDiff,reduceCtorEq,fn32,c32,r32_0,hh1,hh2',r32_1,gx,Entry.len,Entry.g13]
 refine XC_of (clone56 F (hx.ops.keep k02) hx.len) ?_
 rintro v1 h3 ⟨s1,k3⟩
 have gx3 := Kp.of k3 gx
 have ge3 := Kp.of k3 ge
 obtain ⟨p1,n1,c1,o1,rfl⟩ := s1.shape
 have e4 := put_eq (o := 13) (ws := [.slice p1 n1 c1 o1]) gx3 (by rw [fl,List.length_singleton]; decide) rfl rfl
 have hlt3 : h.size < h3.size := H.get_lt gx3
 have g4 := hset_same hlt3 (.cells (setR x.cells 13 [.slice p1 n1 c1 o1]) 49 false false none)
 rw [setOps] at g4 e4
 have k34 : Keeps h.size h3 (h3.set h.size (.cells (withOps x (.slice p1 n1 c1 o1)).cells 49 false false none)) := Keeps.set hlt3 (Nat.le_refl _) _
 have kl34 : KL h2.size h3 (h3.set h.size (.cells (withOps x (.slice p1 n1 c1 o1)).cells 49 false false none)) := KL.set (by omega) hlt3 _
 have ge4 : (h3.set h.size (.cells (withOps x (.slice p1 n1 c1 o1)).cells 49 false false none)).get h1.size = some (.cells Entry.zero.cells 49 false false none) := by
  rw [hset_other hlt3 (by omega)]; exact ge3
 generalize hh4 : h3.set h.size (.cells (withOps x (.slice p1 n1 c1 o1)).cells 49 false false none) = h4 at *
 have k04 : Kp h h4 := Keeps.trans (k02.trans k3) k34
 have w52 := Entry.g52 (withOps x (.slice p1 n1 c1 o1))
 simp only [GR,evK,binV,intOp,strOp,shOp,unV,Nat.reduceLT,Nat.reduceEqDiff,Nat.reduceAdd,↓reduceIte,Nat.reduceLeDiff,reduceCtorEq,e4,r32_2,g4,Entry.len,w52]
 refine XC_of (clone57 F (hx.dat.keep k04) hx.dlen) ?_
 rintro v2 h5 ⟨s2,k5⟩
 have gx5 := Kp.of k5 g4
 have ge5 := Kp.of k5 ge4
 obtain ⟨p2,n2,c2,o2,rfl⟩ := s2.shape
 have e6 := put_eq (o := 52) (ws := [.slice p2 n2 c2 o2]) gx5 (by rw [fl,List.length_singleton]; decide) rfl rfl
 have hlt5 : h.size < h5.size := H.get_lt gx5
 have g6 := hset_same hlt5 (.cells (setR (withOps x (.slice p1 n1 c1 o1)).cells 52 [.slice p2 n2 c2 o2]) 49 false false none)
 rw [setData] at g6 e6
 have k56 : Keeps h.size h5 (h5.set h.size (.cells (withData (withOps x (.slice p1 n1 c1 o1)) (.slice p2 n2 c2 o2)).cells 49 false false none)) := Keeps.set hlt5 (Nat.le_refl _) _
 have kl56 : KL h2.size h5 (h5.set h.size (.cells (withData (withOps x (.slice p1 n1 c1 o1)) (.slice p2 n2 c2 o2)).cells 49 false false none)) := KL.set (by omega) hlt5 _
 have ge6 : (h5.set h.size (.cells (withData (withOps x (.slice p1 n1 c1 o1)) (.slice p2 n2 c2 o2)).cells 49 false false none)).get h1.size = some (.cells Entry.zero.cells 49 false false none) := by
  rw [hset_other hlt5 (by omega)]; exact ge5
 generalize hh6 : h5.set h.size (.cells (withData (withOps x (.slice p1 n1 c1 o1)) (.slice p2 n2 c2 o2)).cells 49 false false none) = h6 at *
 have fin := (fin_clone (lo := h2.size) hx ((s1.mv kl34).mv (KL.kp k5 _)) (s2.lo (by rw [← hh4,H.set_size]; exact k3.size))).mv kl56
 have hone : (withData (withOps x (.slice p1 n1 c1 o1)) (.slice p2 n2 c2 o2)).cells.all V.one = true := fin.ein.one
 have flx := fl (withData (withOps x (.slice p1 n1 c1 o1)) (.slice p2 n2 c2 o2))
 have p0x := p0 (withData (withOps x (.slice p1 n1 c1 o1)) (.slice p2 n2 c2 o2))
 generalize withData (withOps x (.slice p1 n1 c1 o1)) (.slice p2 n2 c2 o2) = x2 at *
 have e7 := put_eq (o := 0) (ws := x2.cells) ge6 (by rw [fl,fl]; decide) hone rfl
 have hlt6 : h1.size < h6.size := H.get_lt ge6
 have k67 : Keeps h.size h6 (h6.set h1.size (.cells x2.cells 49 false false none)) := Keeps.set hlt6 (by omega) _
 have kl67 : KL h2.size h6 (h6.set h1.size (.cells x2.cells 49 false false none)) := KL.set (by omega) hlt6 _
 have g7 := hset_same hlt6 (.cells x2.cells 49 false false none)
 have e8 : putCells h6 h1.size 0 x2.cells = some (h6.set h1.size (.cells x2.cells 49 false false none)) := e7
 have fin7 := (fin.mv kl67).lo (show h.size ≤ h2.size by omega)
 generalize hh7 : h6.set h1.size (.cells x2.cells 49 false false none) = h7 at *
 have k07 : Kp h h7 := Keeps.trans (n := h.size) (Keeps.trans (n := h.size) (Keeps.trans (n := h.size) k04 (k5.mono k04.size)) k56) k67
 generalize hxc : x2.cells = xc at *
 simp only [GR,evK,binV,intOp,strOp,shOp,unV,Nat.reduceLT,Nat.reduceEqDiff,Nat.reduceAdd,↓reduceIte,Nat.reduceLeDiff,reduceCtorEq,e6,r32_3,g6,flx,p0x,e8]
 rw [resVs_c (L := 14) (i := h1.size) (o := 0) (by decide) _ (by rfl)]
 simp only [GR,evK,binV,intOp,strOp,shOp,unV,Nat.reduceLT,Nat.reduceEqDiff,Nat.reduceAdd,↓reduceIte,Nat.reduceLeDiff,reduceCtorEq,g7,flx,p0x]
 exact ⟨⟨x2,by rw [hxc],fin7⟩,k07⟩
set_option maxHeartbeats 2000000 in
theorem clone29 (F : Fa E) {x : Entry} {d : DEnt} {h : H} (hx : EIn h x d) : Sp P E (.func 29 [] []) [.agg x.cells] h fun r h' => (∃ x',r = .agg x'.cells ∧ EFr h.size h' x' d) ∧ Kp h h' := by
 have hk0 : Kp h (h.psh (.cells x.cells 49 false false none)) := Keeps.psh (Nat.le_refl _) _
 have gx0 := psh_same h (.cells x.cells 49 false false none)
 have hs1 : (h.psh (.cells x.cells 49 false false none)).size = h.size + 1 := psh_size _ _
 generalize hh1 : h.psh (.cells x.cells 49 false false none) = h1 at *
 have hk1 : Kp h1 (h1.psh (.cells Entry.zero.cells 49 false false none)) := Keeps.psh (Nat.le_refl _) _
 have gx := Kp.of hk1 gx0
 have ge := psh_same h1 (.cells Entry.zero.cells 49 false false none)
 have hs2 : (h1.psh (.cells Entry.zero.cells 49 false false none)).size = h.size + 2 := by rw [psh_size,hs1]
 generalize hh2 : h1.psh (.cells Entry.zero.cells 49 false false none) = h2 at *
 have hh2' := hh2
 simp only [Entry.zero,Entry.cells,Opr.cells,Epoch.cells,Vec.cells,Part.cells] at hh2'
 have fl : ∀ z : Entry,z.cells.length = 56 := fun _ => rfl
 have p0 : ∀ z : Entry,List.take 56 z.cells = z.cells := fun _ => rfl
 have k02 := hk0.trans hk1
 refine Sp_fn F.f29 F.p29 (by simp [fn29]) ?_
 have hop := Sl.elems (hx.ops.keep k02) opr_len
 obtain ⟨pp,cc,oo,eo⟩ := (hx.ops.keep k02).len
 rw [List.length_map] at eo hop
 have hol := hx.len
 obtain ⟨v1,h3,a3,k3,s1'⟩ := app_mk (h := h2) (ty := 38) (sz := 8) (bytes := 88) (n := d.ops.length) (base := none) (x := x.ops) (by rw [eo]; rfl) hop (by omega)
 have s1 : SlF h2.size h3 v1 8 (d.ops.map Opr.cells) := by
  rcases s1' with ⟨hn,a,rfl⟩ | ⟨hn,rfl,e4⟩
  ·exact .inl ⟨_,_,_,rfl,by rw [List.eq_nil_of_length_eq_zero hn]; rfl⟩
  ·exact .inr ⟨_,38,Nat.le_refl _,by rw [List.length_map],e4⟩
 have gx3 := Kp.of k3 gx
 have ge3 := Kp.of k3 ge
 obtain ⟨p1,n1,c1,o1,rfl⟩ := s1.shape
 have e4 := put_eq (o := 13) (ws := [.slice p1 n1 c1 o1]) gx3 (by rw [fl,List.length_singleton]; decide) rfl rfl
 have hlt3 : h.size < h3.size := H.get_lt gx3
 have g4 := hset_same hlt3 (.cells (setR x.cells 13 [.slice p1 n1 c1 o1]) 49 false false none)
 rw [setOps] at g4 e4
 have k34 : Keeps h.size h3 (h3.set h.size (.cells (withOps x (.slice p1 n1 c1 o1)).cells 49 false false none)) := Keeps.set hlt3 (Nat.le_refl _) _
 have kl34 : KL h2.size h3 (h3.set h.size (.cells (withOps x (.slice p1 n1 c1 o1)).cells 49 false false none)) := KL.set (by omega) hlt3 _
 have ge4 : (h3.set h.size (.cells (withOps x (.slice p1 n1 c1 o1)).cells 49 false false none)).get h1.size = some (.cells Entry.zero.cells 49 false false none) := by
  rw [hset_other hlt3 (by omega)]; exact ge3
 generalize hh4 : h3.set h.size (.cells (withOps x (.slice p1 n1 c1 o1)).cells 49 false false none) = h4 at *
 have k04 : Kp h h4 := Keeps.trans (k02.trans k3) k34
 have w52 : (withOps x (.slice p1 n1 c1 o1)).cells[52]? = some x.part.data := rfl
 have hdl := hx.dlen
 have hdd := hx.dat.keep k04
 obtain ⟨v2,h5,a5,k5,s2⟩ : ∃ v2 h5,appV h4 5 1 1 (.slice none 0 0 false) x.part.data = some (.eff v2 h5) ∧ Kp h4 h5 ∧ DFr h4.size h5 v2 d.data := by
  rcases hdd with ⟨c,o,e,e'⟩ | ⟨p,n,c,o,cs,e,he,hb⟩
  ·rw [e,e']
   exact ⟨.slice none 0 0 false,h4,by simp [appV,lenV,elemsV],Keeps.refl _ _,.inl ⟨_,_,_,rfl,rfl⟩⟩
  ·rw [← e] at he
   have h1 := elems_len e he
   have h2 := bytesV_len hb
   obtain ⟨v2,h5,a5,k5,s2'⟩ := app_mk (h := h4) (ty := 5) (sz := 1) (bytes := 1) (n := n) (base := none) (x := x.part.data) (by rw [e]; rfl) he (by omega)
   refine ⟨v2,h5,a5,k5,?_⟩
   rcases s2' with ⟨hn,a,rfl⟩ | ⟨hn,rfl,e4⟩
   ·exact .inl ⟨_,_,_,rfl,List.eq_nil_of_length_eq_zero (by omega)⟩
   ·have : n = cs.length := by omega
    subst this
    exact .inr ⟨_,5,cs,Nat.le_refl _,rfl,e4,hb⟩
 have gx5 := Kp.of k5 g4
 have ge5 := Kp.of k5 ge4
 obtain ⟨p2,n2,c2,o2,rfl⟩ := s2.shape
 have w13 := Entry.g13 x
 simp only [GR,evK,binV,intOp,strOp,shOp,unV,Nat.reduceLT,Nat.reduceEqDiff,Nat.reduceAdd,↓reduceIte,Nat.reduceLeDiff,reduceCtorEq,fn29,c29,r29_0,hh1,hh2',r29_1,gx,Entry.len,w13,a3,e4,r29_2,g4,w52,a5]
 have e6 := put_eq (o := 52) (ws := [.slice p2 n2 c2 o2]) gx5 (by rw [fl,List.length_singleton]; decide) rfl rfl
 have hlt5 : h.size < h5.size := H.get_lt gx5
 have g6 := hset_same hlt5 (.cells (setR (withOps x (.slice p1 n1 c1 o1)).cells 52 [.slice p2 n2 c2 o2]) 49 false false none)
 rw [setData] at g6 e6
 have k56 : Keeps h.size h5 (h5.set h.size (.cells (withData (withOps x (.slice p1 n1 c1 o1)) (.slice p2 n2 c2 o2)).cells 49 false false none)) := Keeps.set hlt5 (Nat.le_refl _) _
 have kl56 : KL h2.size h5 (h5.set h.size (.cells (withData (withOps x (.slice p1 n1 c1 o1)) (.slice p2 n2 c2 o2)).cells 49 false false none)) := KL.set (by omega) hlt5 _
 have ge6 : (h5.set h.size (.cells (withData (withOps x (.slice p1 n1 c1 o1)) (.slice p2 n2 c2 o2)).cells 49 false false none)).get h1.size = some (.cells Entry.zero.cells 49 false false none) := by
  rw [hset_other hlt5 (by omega)]; exact ge5
 generalize hh6 : h5.set h.size (.cells (withData (withOps x (.slice p1 n1 c1 o1)) (.slice p2 n2 c2 o2)).cells 49 false false none) = h6 at *
 have fin := (fin_clone (lo := h2.size) hx ((s1.mv kl34).mv (KL.kp k5 _)) (s2.lo (by rw [← hh4,H.set_size]; exact k3.size))).mv kl56
 have hone : (withData (withOps x (.slice p1 n1 c1 o1)) (.slice p2 n2 c2 o2)).cells.all V.one = true := fin.ein.one
 have flx := fl (withData (withOps x (.slice p1 n1 c1 o1)) (.slice p2 n2 c2 o2))
 have p0x := p0 (withData (withOps x (.slice p1 n1 c1 o1)) (.slice p2 n2 c2 o2))
 generalize withData (withOps x (.slice p1 n1 c1 o1)) (.slice p2 n2 c2 o2) = x2 at *
 have e7 := put_eq (o := 0) (ws := x2.cells) ge6 (by rw [fl,fl]; decide) hone rfl
 have hlt6 : h1.size < h6.size := H.get_lt ge6
 have k67 : Keeps h.size h6 (h6.set h1.size (.cells x2.cells 49 false false none)) := Keeps.set hlt6 (by omega) _
 have kl67 : KL h2.size h6 (h6.set h1.size (.cells x2.cells 49 false false none)) := KL.set (by omega) hlt6 _
 have g7 := hset_same hlt6 (.cells x2.cells 49 false false none)
 have e8 : putCells h6 h1.size 0 x2.cells = some (h6.set h1.size (.cells x2.cells 49 false false none)) := e7
 have fin7 := (fin.mv kl67).lo (show h.size ≤ h2.size by omega)
 generalize hh7 : h6.set h1.size (.cells x2.cells 49 false false none) = h7 at *
 have k07 : Kp h h7 := Keeps.trans (n := h.size) (Keeps.trans (n := h.size) (Keeps.trans (n := h.size) k04 (k5.mono k04.size)) k56) k67
 generalize hxc : x2.cells = xc at *
 simp only [GR,evK,binV,intOp,strOp,shOp,unV,Nat.reduceLT,Nat.reduceEqDiff,Nat.reduceAdd,↓reduceIte,Nat.reduceLeDiff,reduceCtorEq,e6,r29_3,g6,flx,p0x,e8]
 rw [resVs_c (L := 14) (i := h1.size) (o := 0) (by decide) _ (by rfl)]
 simp only [GR,evK,binV,intOp,strOp,shOp,unV,Nat.reduceLT,Nat.reduceEqDiff,Nat.reduceAdd,↓reduceIte,Nat.reduceLeDiff,reduceCtorEq,g7,flx,p0x]
 exact ⟨⟨x2,by rw [hxc],fin7⟩,k07⟩
def isG (g : Int) (w : WV) : Bool := w.x.up && (w.x.at_.group == g && okF w.x.first)
def selG (g : Int) (vs : List WV) : List WV := vs.filter (isG g)
def lessI (a b : Int) : Int := if b < a then b else a
def leastG : List WV → Int
 | [] => 0
 | f :: r => r.foldl (fun a w => lessI a w.x.first) f.x.first
def hitG (l : List WV) (s : Int) : Option (Entry × DEnt) := l.findSome? fun w => atW w s
def logG (l : List WV) : Nat → Int → List DEnt
 | 0,_ => []
 | n + 1,s => match hitG l s with
  | none => []
  | some p => p.2 :: logG l n (s + 1)
def topG : List WV → Int
 | [] => 0
 | w :: l => max (w.x.first + w.es.length) (topG l)
def fuelG (l : List WV) : Nat := (topG l - leastG l).toNat + 1
def fullG (l : List WV) : List DEnt := logG l (fuelG l) (leastG l)
def totG (l : List WV) : Nat := (l.map fun w => w.es.length).sum
theorem at_range {w : WV} {s : Int} {p : Entry × DEnt} (h : atW w s = some p) : w.x.first ≤ s ∧ s < w.x.first + w.es.length ∧ p ∈ w.es := by
 unfold atW at h
 split at h
 ·rename_i hle
  obtain ⟨hlt,hp⟩ := List.getElem?_eq_some_iff.1 h
  exact ⟨hle,by omega,hp ▸ List.getElem_mem hlt⟩
 ·cases h
theorem hit_mem {l : List WV} {s : Int} {p : Entry × DEnt} (h : hitG l s = some p) : ∃ w ∈ l,atW w s = some p := List.exists_of_findSome?_eq_some h
theorem top_le : ∀ {l : List WV} {w : WV},w ∈ l → w.x.first + w.es.length ≤ topG l
 | [],_,h => by cases h
 | a :: l,w,h => by
  unfold topG
  rcases List.mem_cons.1 h with rfl | h
  ·omega
  ·have := top_le h; omega
theorem hit_top {l : List WV} {s : Int} {p : Entry × DEnt} (h : hitG l s = some p) : s < topG l := by
 obtain ⟨w,hw,ha⟩ := hit_mem h
 have := at_range ha
 have := top_le hw
 omega
def cnt (p : Int → Bool) (a : Int) : Nat → Nat
 | 0 => 0
 | i + 1 => cnt p a i + if p (a + i) then 1 else 0
theorem cnt_all {p : Int → Bool} {a : Int} : ∀ {i : Nat},(∀ k : Nat,k < i → p (a + k) = true) → cnt p a i = i
 | 0,_ => rfl
 | i + 1,h => by
  have := cnt_all (i := i) fun k hk => h k (by omega)
  simp only [cnt,this,h i (by omega),if_true]
theorem cnt_or {p q r : Int → Bool} {a : Int} (h : ∀ t,p t = true → q t = true ∨ r t = true) : ∀ i,cnt p a i ≤ cnt q a i + cnt r a i
 | 0 => Nat.le_refl _
 | i + 1 => by
  have ih := cnt_or (a := a) h i
  have := h (a + i)
  simp only [cnt]
  cases hp : p (a + i) with
  | false => simp only [Bool.false_eq_true,if_false]; omega
  | true =>
   rcases this hp with hq | hr
   ·simp only [hq,if_true]; omega
   ·simp only [hr,if_true]; omega
theorem cnt_in {f a : Int} {n : Nat} : ∀ i,cnt (fun t => decide (f ≤ t) && decide (t < f + n)) a i ≤ ((if a + i < f + n then a + i else f + n) - f).toNat
 | 0 => by simp [cnt]
 | i + 1 => by
  have ih := cnt_in (f := f) (a := a) (n := n) i
  simp only [cnt]
  by_cases h1 : f ≤ a + i
  ·by_cases h2 : a + i < f + n
   ·simp only [h1,h2,decide_true,Bool.and_self,if_true] at ih ⊢
    split <;> omega
   ·simp only [h2,decide_false,Bool.and_false,Bool.false_eq_true,if_false] at ih ⊢
    split <;> omega
  ·simp only [h1,decide_false,Bool.false_and,Bool.false_eq_true,if_false] at ih ⊢
   split at ih <;> split <;> omega
theorem cnt_hit {a : Int} : ∀ (l : List WV) (i : Nat),cnt (fun t => (hitG l t).isSome) a i ≤ totG l
 | [],i => by
  have : ∀ i,cnt (fun t => (hitG [] t).isSome) a i = 0 := by
   intro i
   induction i with
   | zero => rfl
   | succ i ih =>
    simp only [cnt,ih]
    simp [hitG]
  rw [this]; exact Nat.zero_le _
 | w :: l,i => by
  have h1 := cnt_hit (a := a) l i
  have h2 := cnt_in (f := w.x.first) (a := a) (n := w.es.length) i
  have h3 := cnt_or (p := fun t => (hitG (w :: l) t).isSome) (q := fun t => decide (w.x.first ≤ t) && decide (t < w.x.first + w.es.length)) (r := fun t => (hitG l t).isSome) (a := a) (fun t ht => by
   simp only [hitG,List.findSome?_cons] at ht
   cases hw : atW w t with
   | none => rw [hw] at ht; exact .inr ht
   | some p =>
    obtain ⟨q1,q2,_⟩ := at_range hw
    exact .inl (by simp [q1,q2])) i
  have h4 : ((if a + i < w.x.first + w.es.length then a + i else w.x.first + w.es.length) - w.x.first).toNat ≤ w.es.length := by split <;> omega
  simp only [totG,List.map_cons,List.sum_cons] at h1 ⊢
  omega
theorem log_stop {l : List WV} {s : Int} (h : hitG l s = none) : ∀ n,logG l n s = []
 | 0 => rfl
 | n + 1 => by simp only [logG,h]
structure LI (l : List WV) (i : Nat) (ps : List (Entry × DEnt)) : Prop where
 len : ps.length = i
 eq : ps.map (·.2) ++ logG l (fuelG l - i) (leastG l + i) = fullG l
 hit : ∀ k : Nat,k < i → (hitG l (leastG l + k)).isSome = true
theorem LI.zero (l : List WV) : LI l 0 [] := ⟨rfl,by simp [fullG],fun k h => by omega⟩
theorem LI.step {l : List WV} {i : Nat} {ps : List (Entry × DEnt)} (a : LI l i ps) {p : Entry × DEnt} {x : Entry} (h : hitG l (leastG l + i) = some p) : LI l (i + 1) (ps ++ [(x,p.2)]) := by
 have ht := hit_top h
 have hf : fuelG l - i = (fuelG l - (i + 1)) + 1 := by unfold fuelG; omega
 refine ⟨by simp [a.len],?_,fun k hk => ?_⟩
 ·have := a.eq
  rw [hf] at this
  simp only [logG,h] at this
  rw [List.map_append,List.append_assoc,← this]
  simp only [List.map_cons,List.map_nil,List.singleton_append]
  rw [show leastG l + ((i + 1 : Nat) : Int) = leastG l + i + 1 by omega]
 ·by_cases hki : k = i
  ·subst hki; rw [h]; rfl
  ·exact a.hit k (by omega)
theorem LI.done {l : List WV} {i : Nat} {ps : List (Entry × DEnt)} (a : LI l i ps) (h : hitG l (leastG l + i) = none) : ps.map (·.2) = fullG l := by
 have := a.eq
 rw [log_stop h,List.append_nil] at this
 exact this
theorem LI.le {l : List WV} {i : Nat} {ps : List (Entry × DEnt)} (a : LI l i ps) : i ≤ totG l := by
 have h1 := cnt_all (p := fun t => (hitG l t).isSome) (a := leastG l) (i := i) fun k hk => a.hit k hk
 have h2 := cnt_hit (a := leastG l) l i
 omega
theorem tot_filter (p : WV → Bool) : ∀ l : List WV,totG (l.filter p) ≤ totG l
 | [] => Nat.le_refl _
 | w :: l => by
  have ih := tot_filter p l
  simp only [totG] at ih ⊢
  rw [List.filter_cons]
  split
  ·simp only [List.map_cons,List.sum_cons]; omega
  ·simp only [List.map_cons,List.sum_cons]; omega
theorem sel_ok {g : Int} {vs : List WV} {w : WV} (h : w ∈ selG g vs) : w ∈ vs ∧ 0 ≤ w.x.first ∧ w.x.first ≤ 1099511627776 := by
 obtain ⟨h1,h2⟩ := List.mem_filter.1 h
 unfold isG at h2
 simp only [Bool.and_eq_true] at h2
 exact ⟨h1,okF_iff.1 h2.2.2⟩
theorem fold_ok : ∀ {l : List WV} {a : Int},(0 ≤ a ∧ a ≤ 1099511627776) → (∀ w ∈ l,0 ≤ w.x.first ∧ w.x.first ≤ 1099511627776) → 0 ≤ l.foldl (fun a w => lessI a w.x.first) a ∧ l.foldl (fun a w => lessI a w.x.first) a ≤ 1099511627776
 | [],_,ha,_ => ha
 | w :: l,a,ha,h => by
  have hw := h w List.mem_cons_self
  exact fold_ok (l := l) (a := lessI a w.x.first) (by unfold lessI; split <;> omega) fun v hv => h v (List.mem_cons_of_mem _ hv)
theorem least_ok {g : Int} {vs : List WV} : 0 ≤ leastG (selG g vs) ∧ leastG (selG g vs) ≤ 1099511627776 := by
 have h : ∀ w ∈ selG g vs,0 ≤ w.x.first ∧ w.x.first ≤ 1099511627776 := fun w hw => (sel_ok hw).2
 cases hs : selG g vs with
 | nil => exact ⟨Int.le_refl _,by decide⟩
 | cons f r =>
  rw [hs] at h
  exact fold_ok (h f List.mem_cons_self) fun w hw => h w (List.mem_cons_of_mem _ hw)
theorem selG_take {g : Int} {vs : List WV} {k : Nat} (hk : k < vs.length) : selG g (vs.take (k + 1)) = selG g (vs.take k) ++ if isG g vs[k] then [vs[k]] else [] := by
 unfold selG
 rw [List.take_succ_eq_append_getElem hk,List.filter_append]
 congr 1
 by_cases h : isG g vs[k] <;> simp [List.filter_cons,h]
theorem selG_len (g : Int) (vs : List WV) : (selG g vs).length ≤ vs.length := List.length_filter_le _ _
def LogOut (h : H) (l : List WV) (r : V) : Prop := ∃ (v : V) (ps : List (Entry × DEnt)),r = .tup [iI (leastG l),v] ∧ Sl h 56 v (ps.map fun p => p.1.cells) ∧ (∀ p ∈ ps,EIn h p.1 p.2) ∧ ps.map (·.2) = fullG l ∧ ps.length ≤ 1048576
end Go.AM.Sc
