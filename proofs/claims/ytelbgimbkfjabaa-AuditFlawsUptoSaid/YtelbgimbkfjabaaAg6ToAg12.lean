/- My own texts, laid for this claim. -/
import Derived.Test.YtelbgimbkfjabaaAf13ToAg5
set_option linter.unusedSimpArgs false
set_option linter.unusedVariables false
namespace Go.AM.Sc
open Go.AM
variable {P : Program} {E : Env} {ap : Ap}
theorem dr_pur {o : O} {r : List O} {T : List V} {h : H} {v : V} {es : List Ent} {s : List V × H} (hg : o.guard = none) (hk : evK P T h o.op = some (.pur v)) (hx : evDr P ap r (putV T o.dst v) h = some (es,s)) : evDr P ap (o :: r) T h = some (⟨T,h,h,v,false,false⟩ :: es,s) := by
 simp only [evDr,hg,wantV_none,if_true,hk,hx,Option.map_some]
theorem dr_rd {o : O} {r : List O} {T : List V} {h : H} {v : V} {es : List Ent} {s : List V × H} (hg : o.guard = none) (hk : evK P T h o.op = some (.rd v)) (hx : evDr P ap r (putV T o.dst v) h = some (es,s)) : evDr P ap (o :: r) T h = some (⟨T,h,h,v,false,true⟩ :: es,s) := by
 simp only [evDr,hg,wantV_none,if_true,hk,hx,Option.map_some]
theorem dr_eff {o : O} {r : List O} {T : List V} {h h' : H} {v : V} {es : List Ent} {s : List V × H} (hg : o.guard = none) (hk : evK P T h o.op = some (.eff v h')) (hx : evDr P ap r (putV T o.dst v) h' = some (es,s)) : evDr P ap (o :: r) T h = some (⟨T,h,h',v,true,false⟩ :: es,s) := by
 simp only [evDr,hg,wantV_none,if_true,hk,hx,Option.map_some]
theorem dr_call {o : O} {r : List O} {T : List V} {h h' : H} {f v : V} {args : List V} {es : List Ent} {s : List V × H} (hg : o.guard = none) (hk : evK P T h o.op = some (.call f args)) (ha : ap f args h = some (v,h')) (hx : evDr P ap r (putV T o.dst v) h' = some (es,s)) : evDr P ap (o :: r) T h = some (⟨T,h,h',v,true,false⟩ :: es,s) := by
 simp only [evDr,hg,wantV_none,if_true,hk,ha,hx,Option.map_some]
theorem draw_of {ops : List O} {T : List V} {h : H} {es : List Ent} {s : List V × H} (he : evDr P ap ops T h = some (es,s)) (hc : (chainF (actsF ops es 0) && floatOk (actsF ops es 0) ops) = true) (hr : rdsOk P (actsOf ops es 0) h ops es 0 = true) : evDraw P ap ops T h = some s := by
 obtain ⟨T',h'⟩ := s
 unfold evDraw
 rw [he]
 simp only [hc,hr,Bool.and_self,Bool.or_true,if_true]
theorem cas7_6 {ρ : Nat → V} {h h1 h2 h3 : H} {S : List Fr} {Q : Po} {t : Nat} {o0 o1 o2 o3 o4 o5 lv a b v1 v2 : V} (hs1 : IsSl o1) (hs2 : IsSl v2) (w3 : ρ 3 = .ptr (some (t,0))) (w0 : ρ 0 = lv) (w4 : ρ 4 = a) (w5 : ρ 5 = b)
  (gt : h.get t = some (.cells [o0,o1,o2,o3,o4,o5] 68 false false none)) (gt1 : h1.get t = some (.cells [o0,o1,o2,o3,o4,o5] 68 false false none))
  (e1 : AP P E (.func 19 [] []) [lv,a,b] h = some (v1,h1)) (e2 : appV h1 30 4 32 o1 v1 = some (.eff v2 h2)) (e3 : putCells h2 t 1 [v2] = some h3)
  (hX : ∀ ρ' : Nat → V,(∀ i,i < 46 → ρ' i = ρ i) → X P E none 169 S ρ' h3 Q) : XD P E none 169 r7_6 S ρ h Q := by
 have hnj : V.beq o1 o1 = true := V.beq_refl _ (by obtain ⟨_,_,_,_,rfl⟩ := hs1; rfl)
 obtain ⟨q1,q2,q3,q4,rfl⟩ := hs2
 have k0 : evK P (toL 169 ρ) h (.iadrA 6 1 (.t 3) (.k (.int .i64 1))) = some (.pur (.ptr (some (t,1)))) := by
  simp (maxSteps := 2000000) [evK,evs_cons,evs_nil,ev_t,ev_k,up_app,V.cells,w3]
 have k1 : evK P (toL 169 (up ρ 46 (.ptr (some (t,1))))) h (.load1 (.t 46)) = some (.rd o1) := by
  simp (maxSteps := 2000000) [evK,evs_cons,evs_nil,ev_t,ev_k,up_app,V.cells,gt]
 have m0 : evK P (toL 169 (up (up ρ 46 (.ptr (some (t,1)))) 47 o1)) h (.mv (.t 0)) = some (.pur lv) := by
  simp (maxSteps := 2000000) [evK,evs_cons,evs_nil,ev_t,ev_k,up_app,V.cells,w0]
 have m1 : evK P (toL 169 (up (up (up ρ 46 (.ptr (some (t,1)))) 47 o1) 48 lv)) h (.mv (.t 4)) = some (.pur a) := by
  simp (maxSteps := 2000000) [evK,evs_cons,evs_nil,ev_t,ev_k,up_app,V.cells,w4]
 have m2 : evK P (toL 169 (up (up (up (up ρ 46 (.ptr (some (t,1)))) 47 o1) 48 lv) 49 a)) h (.mv (.t 5)) = some (.pur b) := by
  simp (maxSteps := 2000000) [evK,evs_cons,evs_nil,ev_t,ev_k,up_app,V.cells,w5]
 have kc : evK P (toL 169 (up (up (up (up (up ρ 46 (.ptr (some (t,1)))) 47 o1) 48 lv) 49 a) 50 b)) h (.call (.k (.func 19 [] [])) [(.t 48),(.t 49),(.t 50)]) = some (.call (.func 19 [] []) [lv,a,b]) := by
  simp (maxSteps := 2000000) [evK,evs_cons,evs_nil,ev_t,ev_k,up_app,V.cells]
 have ka : evK P (toL 169 (up (up (up (up (up (up ρ 46 (.ptr (some (t,1)))) 47 o1) 48 lv) 49 a) 50 b) 51 v1)) h1 (.app 30 4 32 (.t 47) (.t 51)) = some (.eff (.slice q1 q2 q3 q4) h2) := by
  simp (maxSteps := 2000000) [evK,evs_cons,evs_nil,ev_t,ev_k,up_app,V.cells,e2]
 have ki : evK P (toL 169 (up (up (up (up (up (up (up ρ 46 (.ptr (some (t,1)))) 47 o1) 48 lv) 49 a) 50 b) 51 v1) 52 (.slice q1 q2 q3 q4))) h2 (.iadrA 6 1 (.t 3) (.k (.int .i64 1))) = some (.pur (.ptr (some (t,1)))) := by
  simp (maxSteps := 2000000) [evK,evs_cons,evs_nil,ev_t,ev_k,up_app,V.cells,w3]
 have ks : evK P (toL 169 (up (up (up (up (up (up (up (up ρ 46 (.ptr (some (t,1)))) 47 o1) 48 lv) 49 a) 50 b) 51 v1) 52 (.slice q1 q2 q3 q4)) 53 (.ptr (some (t,1))))) h2 (.store 1 (.t 53) (.t 52)) = some (.eff undefV h3) := by
  simp (maxSteps := 2000000) [evK,evs_cons,evs_nil,ev_t,ev_k,up_app,V.cells,e3]
 have k1' : evK P (toL 169 (up ρ 46 (.ptr (some (t,1))))) h1 (.load1 (.t 46)) = some (.rd o1) := by
  simp (maxSteps := 2000000) [evK,ev_t,up_app,gt1]
 have he : evDr P (AP P E) r7_6 (toL 169 ρ) h = some ([⟨toL 169 ρ,h,h,.ptr (some (t,1)),false,false⟩,⟨toL 169 (up ρ 46 (.ptr (some (t,1)))),h,h,o1,false,true⟩,⟨toL 169 (up (up ρ 46 (.ptr (some (t,1)))) 47 o1),h,h,lv,false,false⟩,⟨toL 169 (up (up (up ρ 46 (.ptr (some (t,1)))) 47 o1) 48 lv),h,h,a,false,false⟩,⟨toL 169 (up (up (up (up ρ 46 (.ptr (some (t,1)))) 47 o1) 48 lv) 49 a),h,h,b,false,false⟩,⟨toL 169 (up (up (up (up (up ρ 46 (.ptr (some (t,1)))) 47 o1) 48 lv) 49 a) 50 b),h,h1,v1,true,false⟩,⟨toL 169 (up (up (up (up (up (up ρ 46 (.ptr (some (t,1)))) 47 o1) 48 lv) 49 a) 50 b) 51 v1),h1,h2,.slice q1 q2 q3 q4,true,false⟩,⟨toL 169 (up (up (up (up (up (up (up ρ 46 (.ptr (some (t,1)))) 47 o1) 48 lv) 49 a) 50 b) 51 v1) 52 (.slice q1 q2 q3 q4)),h2,h2,.ptr (some (t,1)),false,false⟩,⟨toL 169 (up (up (up (up (up (up (up (up ρ 46 (.ptr (some (t,1)))) 47 o1) 48 lv) 49 a) 50 b) 51 v1) 52 (.slice q1 q2 q3 q4)) 53 (.ptr (some (t,1)))),h2,h3,undefV,true,false⟩],(toL 169 (up (up (up (up (up (up (up (up ρ 46 (.ptr (some (t,1)))) 47 o1) 48 lv) 49 a) 50 b) 51 v1) 52 (.slice q1 q2 q3 q4)) 53 (.ptr (some (t,1)))),h3)) := by
  refine dr_pur rfl k0 ?_
  rw [putV_some]
  refine dr_rd rfl k1 ?_
  rw [putV_some]
  refine dr_pur rfl m0 ?_
  rw [putV_some]
  refine dr_pur rfl m1 ?_
  rw [putV_some]
  refine dr_pur rfl m2 ?_
  rw [putV_some]
  refine dr_call rfl kc e1 ?_
  rw [putV_some]
  refine dr_eff rfl ka ?_
  rw [putV_some]
  refine dr_pur rfl ki ?_
  rw [putV_some]
  exact dr_eff rfl ks rfl
 refine ⟨toL 169 (up (up (up (up (up (up (up (up ρ 46 (.ptr (some (t,1)))) 47 o1) 48 lv) 49 a) 50 b) 51 v1) 52 (.slice q1 q2 q3 q4)) 53 (.ptr (some (t,1)))),h3,draw_of he rfl ?_,hX _ ?_⟩
 ·have s0 : sameAt P ⟨some 47,.load1 (.t 46),none,1,[47,46]⟩ ⟨toL 169 (up ρ 46 (.ptr (some (t,1)))),h,h,o1,false,true⟩ h = true := by
   simp only [sameAt,k1,hnj]
  have s1 : sameAt P ⟨some 47,.load1 (.t 46),none,1,[47,46]⟩ ⟨toL 169 (up ρ 46 (.ptr (some (t,1)))),h,h,o1,false,true⟩ h1 = true := by
   simp only [sameAt,k1',hnj]
  simp only [r7_6,actsOf,rdsOk,readsOk,s0,s1,Bool.not_false,Bool.not_true,Bool.true_or,Bool.false_or,Bool.or_true,Bool.true_and,Bool.and_true,if_true,Bool.false_eq_true,if_false]
  rfl
 ·intro i hi
  simp only [up_app]
  repeat rw [if_neg (by omega)]
theorem cas7_17 {ρ : Nat → V} {h h1 h2 h3 : H} {S : List Fr} {Q : Po} {t : Nat} {o0 o1 o2 o3 o4 o5 lv a v1 v2 : V} (hs1 : IsSl o5) (hs2 : IsSl v2) (w3 : ρ 3 = .ptr (some (t,0))) (w0 : ρ 0 = lv) (w4 : ρ 4 = a)
  (gt : h.get t = some (.cells [o0,o1,o2,o3,o4,o5] 68 false false none)) (gt1 : h1.get t = some (.cells [o0,o1,o2,o3,o4,o5] 68 false false none))
  (e1 : AP P E (.func 24 [] []) [lv,a] h = some (v1,h1)) (e2 : appV h1 30 4 32 o5 v1 = some (.eff v2 h2)) (e3 : putCells h2 t 5 [v2] = some h3)
  (hX : ∀ ρ' : Nat → V,(∀ i,i < 46 → ρ' i = ρ i) → X P E none 169 S ρ' h3 Q) : XD P E none 169 r7_17 S ρ h Q := by
 have hnj : V.beq o5 o5 = true := V.beq_refl _ (by obtain ⟨_,_,_,_,rfl⟩ := hs1; rfl)
 obtain ⟨q1,q2,q3,q4,rfl⟩ := hs2
 have k0 : evK P (toL 169 ρ) h (.iadrA 6 1 (.t 3) (.k (.int .i64 5))) = some (.pur (.ptr (some (t,5)))) := by
  simp (maxSteps := 2000000) [evK,evs_cons,evs_nil,ev_t,ev_k,up_app,V.cells,w3]
 have k1 : evK P (toL 169 (up ρ 152 (.ptr (some (t,5))))) h (.load1 (.t 152)) = some (.rd o5) := by
  simp (maxSteps := 2000000) [evK,evs_cons,evs_nil,ev_t,ev_k,up_app,V.cells,gt]
 have m0 : evK P (toL 169 (up (up ρ 152 (.ptr (some (t,5)))) 153 o5)) h (.mv (.t 0)) = some (.pur lv) := by
  simp (maxSteps := 2000000) [evK,evs_cons,evs_nil,ev_t,ev_k,up_app,V.cells,w0]
 have m1 : evK P (toL 169 (up (up (up ρ 152 (.ptr (some (t,5)))) 153 o5) 154 lv)) h (.mv (.t 4)) = some (.pur a) := by
  simp (maxSteps := 2000000) [evK,evs_cons,evs_nil,ev_t,ev_k,up_app,V.cells,w4]
 have kc : evK P (toL 169 (up (up (up (up ρ 152 (.ptr (some (t,5)))) 153 o5) 154 lv) 155 a)) h (.call (.k (.func 24 [] [])) [(.t 154),(.t 155)]) = some (.call (.func 24 [] []) [lv,a]) := by
  simp (maxSteps := 2000000) [evK,evs_cons,evs_nil,ev_t,ev_k,up_app,V.cells]
 have ka : evK P (toL 169 (up (up (up (up (up ρ 152 (.ptr (some (t,5)))) 153 o5) 154 lv) 155 a) 156 v1)) h1 (.app 30 4 32 (.t 153) (.t 156)) = some (.eff (.slice q1 q2 q3 q4) h2) := by
  simp (maxSteps := 2000000) [evK,evs_cons,evs_nil,ev_t,ev_k,up_app,V.cells,e2]
 have ki : evK P (toL 169 (up (up (up (up (up (up ρ 152 (.ptr (some (t,5)))) 153 o5) 154 lv) 155 a) 156 v1) 157 (.slice q1 q2 q3 q4))) h2 (.iadrA 6 1 (.t 3) (.k (.int .i64 5))) = some (.pur (.ptr (some (t,5)))) := by
  simp (maxSteps := 2000000) [evK,evs_cons,evs_nil,ev_t,ev_k,up_app,V.cells,w3]
 have ks : evK P (toL 169 (up (up (up (up (up (up (up ρ 152 (.ptr (some (t,5)))) 153 o5) 154 lv) 155 a) 156 v1) 157 (.slice q1 q2 q3 q4)) 158 (.ptr (some (t,5))))) h2 (.store 1 (.t 158) (.t 157)) = some (.eff undefV h3) := by
  simp (maxSteps := 2000000) [evK,evs_cons,evs_nil,ev_t,ev_k,up_app,V.cells,e3]
 have k1' : evK P (toL 169 (up ρ 152 (.ptr (some (t,5))))) h1 (.load1 (.t 152)) = some (.rd o5) := by
  simp (maxSteps := 2000000) [evK,ev_t,up_app,gt1]
 have he : evDr P (AP P E) r7_17 (toL 169 ρ) h = some ([⟨toL 169 ρ,h,h,.ptr (some (t,5)),false,false⟩,⟨toL 169 (up ρ 152 (.ptr (some (t,5)))),h,h,o5,false,true⟩,⟨toL 169 (up (up ρ 152 (.ptr (some (t,5)))) 153 o5),h,h,lv,false,false⟩,⟨toL 169 (up (up (up ρ 152 (.ptr (some (t,5)))) 153 o5) 154 lv),h,h,a,false,false⟩,⟨toL 169 (up (up (up (up ρ 152 (.ptr (some (t,5)))) 153 o5) 154 lv) 155 a),h,h1,v1,true,false⟩,⟨toL 169 (up (up (up (up (up ρ 152 (.ptr (some (t,5)))) 153 o5) 154 lv) 155 a) 156 v1),h1,h2,.slice q1 q2 q3 q4,true,false⟩,⟨toL 169 (up (up (up (up (up (up ρ 152 (.ptr (some (t,5)))) 153 o5) 154 lv) 155 a) 156 v1) 157 (.slice q1 q2 q3 q4)),h2,h2,.ptr (some (t,5)),false,false⟩,⟨toL 169 (up (up (up (up (up (up (up ρ 152 (.ptr (some (t,5)))) 153 o5) 154 lv) 155 a) 156 v1) 157 (.slice q1 q2 q3 q4)) 158 (.ptr (some (t,5)))),h2,h3,undefV,true,false⟩],(toL 169 (up (up (up (up (up (up (up ρ 152 (.ptr (some (t,5)))) 153 o5) 154 lv) 155 a) 156 v1) 157 (.slice q1 q2 q3 q4)) 158 (.ptr (some (t,5)))),h3)) := by
  refine dr_pur rfl k0 ?_
  rw [putV_some]
  refine dr_rd rfl k1 ?_
  rw [putV_some]
  refine dr_pur rfl m0 ?_
  rw [putV_some]
  refine dr_pur rfl m1 ?_
  rw [putV_some]
  refine dr_call rfl kc e1 ?_
  rw [putV_some]
  refine dr_eff rfl ka ?_
  rw [putV_some]
  refine dr_pur rfl ki ?_
  rw [putV_some]
  exact dr_eff rfl ks rfl
 refine ⟨toL 169 (up (up (up (up (up (up (up ρ 152 (.ptr (some (t,5)))) 153 o5) 154 lv) 155 a) 156 v1) 157 (.slice q1 q2 q3 q4)) 158 (.ptr (some (t,5)))),h3,draw_of he rfl ?_,hX _ ?_⟩
 ·have s0 : sameAt P ⟨some 153,.load1 (.t 152),none,1,[153,152]⟩ ⟨toL 169 (up ρ 152 (.ptr (some (t,5)))),h,h,o5,false,true⟩ h = true := by
   simp only [sameAt,k1,hnj]
  have s1 : sameAt P ⟨some 153,.load1 (.t 152),none,1,[153,152]⟩ ⟨toL 169 (up ρ 152 (.ptr (some (t,5)))),h,h,o5,false,true⟩ h1 = true := by
   simp only [sameAt,k1',hnj]
  simp only [r7_17,actsOf,rdsOk,readsOk,s0,s1,Bool.not_false,Bool.not_true,Bool.true_or,Bool.false_or,Bool.or_true,Bool.true_and,Bool.and_true,if_true,Bool.false_eq_true,if_false]
  rfl
 ·intro i hi
  simp only [up_app]
  repeat rw [if_neg (by omega)]
end Go.AM.Sc
namespace Go.AM.Sc
open Go.AM
variable {P : Program} {E : Env}
theorem MA.flaw {lo : Nat} {h : H} {t : Nat} {ov : Nat → V} {fs : Nat → List Flaw} (a : MA lo h t ov fs) {k : Nat} (hk : k < 6) (hlo : lo ≤ h.size) (f : Flaw) (hb : (fs k ++ [f]).length ≤ 1099511627775) :
  ∃ v' h1 h2,appV (h.psh (.cells f.cells 30 false false none)) 30 4 32 (ov k) (.slice (some (h.size,0)) 1 1 false) = some (.eff v' h1) ∧ h1.get t = some (.cells [ov 0,ov 1,ov 2,ov 3,ov 4,ov 5] 68 false false none) ∧ putCells h1 t k [v'] = some h2 ∧ (∃ p n c o,v' = .slice p n c o) ∧ MA lo h2 t (up ov k v') (upF fs k [f]) ∧ Keeps lo h h2 ∧ KB t h h2 := by
 have k7 : Kp h (h.psh (.cells f.cells 30 false false none)) := Keeps.psh (Nat.le_refl _) _
 have hs7 := psh_size h (.cells f.cells 30 false false none)
 have he := elems_psh (h := h) (cs := f.cells) (ty := 30) (sz := 4) rfl (by decide)
 obtain ⟨v',h1,h2,e1,e2,hv',ma,k2,kb⟩ := (a.kp k7).app hk (by omega) (x := .slice (some (h.size,0)) 1 1 false) (ys := [f]) rfl (by simpa using he) hb
 refine ⟨v',h1,h2,e1,?_,e2,hv',ma,Keeps.trans (n := lo) (k7.mono hlo) k2,(KB.kp k7).trans kb⟩
 have ac := (a.kp k7).acc k hk
 obtain ⟨v'',h1',e1',_,_,_,_,fr⟩ := app_fr (ys := [f.cells]) (bytes := 32) (x := .slice (some (h.size,0)) 1 1 false) ac (by omega) rfl (by simpa using he) (by intro y hy; rw [List.mem_singleton.1 hy]; exact ⟨rfl,rfl⟩) (by rw [List.length_append] at hb; rw [List.length_map]; simp only [List.length_singleton] at hb ⊢; omega)
 rw [e1] at e1'
 cases e1'
 exact fr _ _ (k7.of a.box) (by intro vs e; simp at e)
theorem upF_nil (fs : Nat → List Flaw) (k : Nat) : upF fs k [] = fs := by
 funext j; unfold upF; split
 ·rename_i h; rw [h,List.append_nil]
 ·rfl
theorem two_fresh (h : H) {vs ws ws' : List V} {ty : Nat} (hl : ws.length = vs.length) (h1 : ws.all V.one = true) (hne : ws.isEmpty = false) (hl' : ws'.length = vs.length) (h1' : ws'.all V.one = true) (hne' : ws'.isEmpty = false) :
  ∃ h3 h4,putCells ((h.psh (.cells vs ty false false none)).psh (.cells vs ty false false none)) h.size 0 ws = some h3 ∧ putCells h3 (h.size + 1) 0 ws' = some h4 ∧ h4.get h.size = some (.cells ws ty false false none) ∧ h4.get (h.size + 1) = some (.cells ws' ty false false none) ∧
   Keeps h.size h (h.psh (.cells vs ty false false none)) ∧ Keeps h.size (h.psh (.cells vs ty false false none)) ((h.psh (.cells vs ty false false none)).psh (.cells vs ty false false none)) ∧ Keeps h.size ((h.psh (.cells vs ty false false none)).psh (.cells vs ty false false none)) h3 ∧ Keeps h.size h3 h4 := by
 have s1 := psh_size h (.cells vs ty false false none)
 have ka : Keeps h.size h (h.psh (.cells vs ty false false none)) := Keeps.psh (Nat.le_refl _) _
 have kb : Keeps h.size (h.psh (.cells vs ty false false none)) ((h.psh (.cells vs ty false false none)).psh (.cells vs ty false false none)) := Keeps.psh (by omega) _
 have g1 := psh_same h (.cells vs ty false false none)
 have g2 := psh_same (h.psh (.cells vs ty false false none)) (.cells vs ty false false none)
 have g12 := psh_old g1 (.cells vs ty false false none)
 have s2 := psh_size (h.psh (.cells vs ty false false none)) (.cells vs ty false false none)
 generalize (h.psh (.cells vs ty false false none)).psh (.cells vs ty false false none) = h2 at *
 have hset : setR vs 0 ws = ws := by simp [setR,hl]
 have hset' : setR vs 0 ws' = ws' := by simp [setR,hl']
 have e1 : putCells h2 h.size 0 ws = some (h2.set h.size (.cells ws ty false false none)) := by rw [put_at g12 (by omega) h1 hne,hset]
 have g22 : (h2.set h.size (.cells ws ty false false none)).get (h.size + 1) = some (.cells vs ty false false none) := by
  rw [hset_other (H.get_lt g12) (by omega)]; rw [s1] at g2; exact g2
 have e2 : putCells (h2.set h.size (.cells ws ty false false none)) (h.size + 1) 0 ws' = some ((h2.set h.size (.cells ws ty false false none)).set (h.size + 1) (.cells ws' ty false false none)) := by rw [put_at g22 (by omega) h1' hne',hset']
 refine ⟨_,_,e1,e2,?_,hset_same (H.get_lt g22) _,ka,kb,Keeps.set (H.get_lt g12) (Nat.le_refl _) _,Keeps.set (H.get_lt g22) (by omega) _⟩
 rw [hset_other (H.get_lt g22) (by omega)]
 exact hset_same (H.get_lt g12) _
def View.zeroC : List V := [.int .i64 0,.int .i64 0,.bool false,.bool false,.bool false,.int .i64 0,.int .i64 0,.slice none 0 0 false,.int .i64 0,.int .i64 0,.int .i64 0,.int .i64 0,.int .i64 0,.int .i64 0,.int .i64 0,.int .i64 0,.int .i64 0,.int .i64 0,.int .i64 0,.slice none 0 0 false,.slice none 0 0 false]
set_option maxHeartbeats 1000000 in
theorem c7_5 {h : H} {S : List Fr} {Q : Po} {ρ : Nat → V} {lv : V} {ws : List WV} (hv : VsIn h lv ws) {a b : Nat} (ha : a < ws.length) (hb : b < ws.length) (w0 : ρ 0 = lv) (w4 : ρ 4 = .int .i64 a) (w5 : ρ 5 = .int .i64 b)
  (hX : ∀ (ρ' : Nat → V) (h' : H) (p q : Nat),ρ' 6 = .ptr (some (p,0)) → ρ' 7 = .ptr (some (q,0)) → ρ' 0 = ρ 0 → ρ' 3 = ρ 3 → ρ' 4 = ρ 4 → ρ' 5 = ρ 5 → h'.get p = some (.cells ws[a].x.cells 63 false false none) → h'.get q = some (.cells ws[b].x.cells 63 false false none) → Kp h h' → X P E none 169 S ρ' h' Q) : XD P E none 169 r7_5 S ρ h Q := by
 obtain ⟨b0,o0,c0,p0,cs,ty,op,ro,fz,va,hg,hla,hea,hna⟩ := view_nth hv.sl ha
 obtain ⟨b1,o1,c1,p1,cs1,ty1,op1,ro1,fz1,vb,hg1,hlb,heb,hnb⟩ := view_nth hv.sl hb
 have hvv := va.symm.trans vb
 cases hvv
 rw [hg] at hg1; cases hg1
 have nja := (hv.ins _ (List.getElem_mem ha)).nj
 have njb := (hv.ins _ (List.getElem_mem hb)).nj
 have onea := (hv.ins _ (List.getElem_mem ha)).one
 have oneb := (hv.ins _ (List.getElem_mem hb)).one
 have fv : ∀ z : View,z.cells.length = 21 := fun _ => rfl
 have w0' := w0.trans va
 have hlt := H.get_lt hg
 obtain ⟨h3,h4,e3,e4,g3,g4,k1,k2,k3,k4⟩ := two_fresh h (vs := View.zeroC) (ws := ws[a].x.cells) (ws' := ws[b].x.cells) (ty := 63) rfl onea rfl rfl oneb rfl
 have kk : Kp h h4 := Keeps.trans k1 (Keeps.trans k2 (Keeps.trans k3 k4))
 have hfa := fv ws[a].x
 have hfb := fv ws[b].x
 unfold getR at hea heb
 simp only [View.zeroC] at e3 k1 k2 k3
 have s1 := psh_size h (.cells View.zeroC 63 false false none)
 simp only [View.zeroC] at s1
 generalize hxa : ws[a].x.cells = xa at *
 generalize hxb : ws[b].x.cells = xb at *
 refine k7_5 h.size (XDJ_XDK ?_)
 simp only [GR,evK,binV,intOp,strOp,shOp,unV,Nat.reduceLT,Nat.reduceEqDiff,Nat.reduceAdd,↓reduceIte,Nat.reduceLeDiff,reduceCtorEq,r7_5,w0',w4,w5,Int.natCast_nonneg,Int.ofNat_lt,ha,hb,Int.toNat_natCast,hg,hla,hlb,hea,heb,nja,njb,hlt,s1]
 refine ⟨k1,k2,?_⟩
 simp only [GR,evK,binV,intOp,strOp,shOp,unV,Nat.reduceLT,Nat.reduceEqDiff,Nat.reduceAdd,↓reduceIte,Nat.reduceLeDiff,reduceCtorEq,hfa,e3]
 refine ⟨k3,?_⟩
 simp only [GR,evK,binV,intOp,strOp,shOp,unV,Nat.reduceLT,Nat.reduceEqDiff,Nat.reduceAdd,↓reduceIte,Nat.reduceLeDiff,reduceCtorEq,hfb,e4]
 refine ⟨k4,?_⟩
 exact hX _ h4 _ _ rfl rfl rfl rfl rfl rfl g3 g4 kk
theorem MA.ne {lo : Nat} {h : H} {t : Nat} {ov : Nat → V} {fs : Nat → List Flaw} (a : MA lo h t ov fs) {i : Nat} {cs : List V} {op ro : Bool} {fz : Option Nat} (hg : h.get i = some (.cells cs 63 op ro fz)) : i ≠ t := by
 rintro rfl
 have := a.box
 rw [hg] at this; simp at this
set_option maxHeartbeats 1000000 in
theorem c7_7 (F : Ff E) (G : Fa E) {h0 h : H} {K : List Fr} {Q : Po} {ρ : Nat → V} {lv : V} {ws : List WV} (hv : VsIn h0 lv ws) {t p q : Nat} {ov : Nat → V} {fs : Nat → List Flaw} (ma : MA h0.size h t ov fs) (kk : Kp h0 h) {a b : Nat} (ha : a < ws.length) (hb : b < ws.length)
  (w3 : ρ 3 = .ptr (some (t,0))) (w4 : ρ 4 = .int .i64 a) (w5 : ρ 5 = .int .i64 b) (w6 : ρ 6 = .ptr (some (p,0))) (w7 : ρ 7 = .ptr (some (q,0))) (gp : h.get p = some (.cells ws[a].x.cells 63 false false none)) (gq : h.get q = some (.cells ws[b].x.cells 63 false false none))
  (hlen : (fs 2 ++ f2 ws (a,b)).length ≤ 1099511627775)
  (hX : ∀ (ρ' : Nat → V) (h' : H) (ov' : Nat → V),(∀ i,i < 46 → ρ' i = ρ i) → MA h0.size h' t ov' (upF fs 2 (f2 ws (a,b))) → Keeps h0.size h h' → KB t h h' → X P E none 169 K ρ' h' Q) :
  X P E none 169 (.c (.seq (.region r7_7) (.cond (.t 79) (.region r7_8) (.skip))) :: K) ρ h Q := by
 have fa := f2_at ha hb
 have fv : ∀ z : View,z.cells.length = 21 := fun _ => rfl
 have pv : ∀ z : View,List.take 21 z.cells = z.cells := fun _ => rfl
 have hva := hv.keep kk
 have wA := hva.ins _ (List.getElem_mem ha)
 have wB := hva.ins _ (List.getElem_mem hb)
 have nja := wA.nj
 have njb := wB.nj
 have low : ∀ {ρ' : Nat → V},ρ' = ρ → True := fun _ => trivial
 have none_ : f2 ws (a,b) = [] → ∀ (ρ' : Nat → V) (h' : H),(∀ i,i < 46 → ρ' i = ρ i) → Kp h h' → X P E none 169 K ρ' h' Q := by
  intro h1 ρ' h' hr k
  rw [h1,upF_nil] at hX
  exact hX ρ' h' ov hr (ma.kp k) (k.mono kk.size) (KB.kp k)
 have ga0 : ws[a].x.cells[0]? = some (.int .i64 ws[a].x.at_.group) := View.g0 _
 have gb0 : ws[b].x.cells[0]? = some (.int .i64 ws[b].x.at_.group) := View.g0 _
 have ga5 : ws[a].x.cells[5]? = some (.int .i64 ws[a].x.told) := View.g5 _
 have gb5 : ws[b].x.cells[5]? = some (.int .i64 ws[b].x.told) := View.g5 _
 have cl : ∀ (ρ' : Nat → V),ρ' = ρ' := fun _ => rfl
 cases c1 : ws[a].x.at_.group == ws[b].x.at_.group with
 | false =>
  rw [c1] at fa
  simp only [GR,evK,binV,intOp,strOp,shOp,unV,Nat.reduceLT,Nat.reduceEqDiff,Nat.reduceAdd,↓reduceIte,Nat.reduceLeDiff,reduceCtorEq,r7_7,w6,w7,gp,gq,ga0,gb0,c1]
  refine none_ (by simpa using fa) _ h (fun i hi => ?_) (Keeps.refl _ _)
  simp only [up_app]
  repeat rw [if_neg (by omega)]
 | true =>
 simp only [GR,evK,binV,intOp,strOp,shOp,unV,Nat.reduceLT,Nat.reduceEqDiff,Nat.reduceAdd,↓reduceIte,Nat.reduceLeDiff,reduceCtorEq,r7_7,w6,w7,gp,gq,ga0,gb0,c1]
 refine XC_of (site20 (P := P) F) ?_
 rintro _ hx ⟨rfl,e2⟩
 rw [e2]
 clear e2 hx
 cases c2 : siteB ws[a].x.at_.group with
 | false =>
  rw [c1,c2] at fa
  simp only [GR,evK,binV,intOp,strOp,shOp,unV,Nat.reduceLT,Nat.reduceEqDiff,Nat.reduceAdd,↓reduceIte,Nat.reduceLeDiff,reduceCtorEq]
  refine none_ (by simpa using fa) _ h (fun i hi => ?_) (Keeps.refl _ _)
  simp only [up_app]
  repeat rw [if_neg (by omega)]
 | true =>
 cases c3 : ws[a].x.told == ws[b].x.told with
 | false =>
  rw [c1,c2,c3] at fa
  simp only [GR,evK,binV,intOp,strOp,shOp,unV,Nat.reduceLT,Nat.reduceEqDiff,Nat.reduceAdd,↓reduceIte,Nat.reduceLeDiff,reduceCtorEq,w6,w7,gp,gq,ga5,gb5,c3]
  refine none_ (by simpa using fa) _ h (fun i hi => ?_) (Keeps.refl _ _)
  simp only [up_app]
  repeat rw [if_neg (by omega)]
 | true =>
 have sp := state21 (P := P) G (x := ws[a].x) (y := ws[b].x) (es := ws[a].es) (es' := ws[b].es) (ns := ws[a].ns) (ns' := ws[b].ns) (rs := ws[a].rs) (rs' := ws[b].rs) wA wB
 simp only [GR,evK,binV,intOp,strOp,shOp,unV,Nat.reduceLT,Nat.reduceEqDiff,Nat.reduceAdd,↓reduceIte,Nat.reduceLeDiff,reduceCtorEq,w6,w7,gp,gq,ga5,gb5,c3,fv,pv,nja,njb]
 refine XC_of sp ?_
 rintro _ h4 ⟨rfl,k4⟩
 cases c4 : decide (eqState ws[a] ws[b]) with
 | true =>
  have c4' : decide (eqState ⟨ws[a].x,ws[a].es,ws[a].ns,ws[a].rs⟩ ⟨ws[b].x,ws[b].es,ws[b].ns,ws[b].rs⟩) = true := c4
  rw [c1,c2,c3,c4] at fa
  simp only [GR,evK,binV,intOp,strOp,shOp,unV,Nat.reduceLT,Nat.reduceEqDiff,Nat.reduceAdd,↓reduceIte,Nat.reduceLeDiff,reduceCtorEq,c4',Bool.not_true]
  refine none_ (by simpa using fa) _ h4 (fun i hi => ?_) k4
  simp only [up_app]
  repeat rw [if_neg (by omega)]
 | false =>
  have c4' : decide (eqState ⟨ws[a].x,ws[a].es,ws[a].ns,ws[a].rs⟩ ⟨ws[b].x,ws[b].es,ws[b].ns,ws[b].rs⟩) = false := c4
  rw [c1,c2,c3,c4] at fa
  simp only [Bool.not_false,Bool.and_self,if_true] at fa
  rw [fa] at hX hlen
  have ma4 := ma.kp k4
  obtain ⟨v',h5,h6,e5,g5,e6,⟨q1,q2,q3,q4,hv'⟩,ma6,k6,kb6⟩ := ma4.flaw (k := 2) (by decide) (by have := kk.size; have := k4.size; omega) ⟨2,a,b,0⟩ hlen
  have hfc : (Flaw.mk 2 a b 0).cells = [.int .i64 2,.int .i64 a,.int .i64 b,.int .i64 0] := rfl
  rw [hfc] at e5
  have hd0 : List.drop 3 [V.int .i64 0,.int .i64 0,.int .i64 0,.int .i64 0] = [.int .i64 0] := rfl
  have hd1 : List.drop 4 [V.int .i64 0,.int .i64 0,.int .i64 0,.int .i64 0] = [] := rfl
  have g4 := ma4.box
  have njo : (ov 2).nj = true := by
   rcases (ma4.acc 2 (by decide)).shape with ⟨_,e⟩ | ⟨_,e,_⟩ <;> rw [e] <;> rfl
  rw [hv'] at e6 ma6 e5
  simp only [GR,evK,binV,intOp,strOp,shOp,unV,Nat.reduceLT,Nat.reduceEqDiff,Nat.reduceAdd,↓reduceIte,Nat.reduceLeDiff,reduceCtorEq,c4',Bool.not_false,r7_8,w3,w4,w5,g4,njo,hd0,hd1,e5,e6,Int.reduceLE,Int.reduceLT,Int.reduceToNat,Nat.reduceMul,Int.cast_ofNat_Int]
  refine hX _ h6 _ (fun i hi => ?_) ma6 (Keeps.trans (n := h0.size) (k4.mono kk.size) k6) ((KB.kp k4).trans kb6)
  simp only [up_app]
  repeat rw [if_neg (by omega)]
set_option maxHeartbeats 1000000 in
theorem c7_9 (F : Ff E) (G : Fa E) {h0 h : H} {K : List Fr} {Q : Po} {ρ : Nat → V} {lv : V} {ws : List WV} (hv : VsIn h0 lv ws) {t p q : Nat} {ov : Nat → V} {fs : Nat → List Flaw} (ma : MA h0.size h t ov fs) (kk : Kp h0 h) {a b : Nat} (ha : a < ws.length) (hb : b < ws.length)
  (w3 : ρ 3 = .ptr (some (t,0))) (w4 : ρ 4 = .int .i64 a) (w5 : ρ 5 = .int .i64 b) (w6 : ρ 6 = .ptr (some (p,0))) (w7 : ρ 7 = .ptr (some (q,0))) (gp : h.get p = some (.cells ws[a].x.cells 63 false false none)) (gq : h.get q = some (.cells ws[b].x.cells 63 false false none))
  (hlen : (fs 4 ++ f4 ws (a,b)).length ≤ 1099511627775)
  (hX : ∀ (ρ' : Nat → V) (h' : H) (ov' : Nat → V),(∀ i,i < 46 → ρ' i = ρ i) → MA h0.size h' t ov' (upF fs 4 (f4 ws (a,b))) → Keeps h0.size h h' → X P E none 169 K ρ' h' Q) :
  X P E none 169 (.c (.seq (.region r7_9) (.cond (.t 120) (.region r7_10) (.skip))) :: K) ρ h Q := by
 have fa := f4_at ha hb
 have hva := hv.keep kk
 have wA := hva.ins _ (List.getElem_mem ha)
 have wB := hva.ins _ (List.getElem_mem hb)
 have none_ : f4 ws (a,b) = [] → ∀ (ρ' : Nat → V) (h' : H),(∀ i,i < 46 → ρ' i = ρ i) → Kp h h' → X P E none 169 K ρ' h' Q := by
  intro h1 ρ' h' hr k
  rw [h1,upF_nil] at hX
  exact hX ρ' h' ov hr (ma.kp k) (k.mono kk.size)
 have ga0 : ws[a].x.cells[0]? = some (.int .i64 ws[a].x.at_.group) := View.g0 _
 have gb0 : ws[b].x.cells[0]? = some (.int .i64 ws[b].x.at_.group) := View.g0 _
 have ga4 : ws[a].x.cells[4]? = some (.bool ws[a].x.booted) := View.g4 _
 have gb4 : ws[b].x.cells[4]? = some (.bool ws[b].x.booted) := View.g4 _
 have ga19 : ws[a].x.cells[19]? = some ws[a].x.nodes := View.g19 _
 have gb19 : ws[b].x.cells[19]? = some ws[b].x.nodes := View.g19 _
 have eav : List.take 8 (List.drop 11 ws[a].x.cells) = ws[a].x.vector.cells := rfl
 have ebv : List.take 8 (List.drop 11 ws[b].x.cells) = ws[b].x.vector.cells := rfl
 have hla8 : 11 + 8 ≤ ws[a].x.cells.length := Nat.le_of_ble_eq_true rfl
 have hlb8 : 11 + 8 ≤ ws[b].x.cells.length := Nat.le_of_ble_eq_true rfl
 have hvn : ∀ z : Vec,V.njL z.cells = true := fun _ => rfl
 obtain ⟨sa1,sa2,sa3,sav⟩ := wA.nodes.len
 obtain ⟨sb1,sb2,sb3,sbv⟩ := wB.nodes.len
 cases c1 : ws[a].x.booted with
 | false =>
  rw [c1] at fa ga4
  simp only [GR,evK,binV,intOp,strOp,shOp,unV,Nat.reduceLT,Nat.reduceEqDiff,Nat.reduceAdd,↓reduceIte,Nat.reduceLeDiff,reduceCtorEq,r7_9,w6,w7,gp,gq,ga4]
  refine none_ (by simpa using fa) _ h (fun i hi => ?_) (Keeps.refl _ _)
  simp only [up_app]
  repeat rw [if_neg (by omega)]
 | true =>
 rw [c1] at ga4
 cases c1b : ws[b].x.booted with
 | false =>
  rw [c1b] at gb4
  rw [c1,c1b] at fa
  simp only [GR,evK,binV,intOp,strOp,shOp,unV,Nat.reduceLT,Nat.reduceEqDiff,Nat.reduceAdd,↓reduceIte,Nat.reduceLeDiff,reduceCtorEq,r7_9,w6,w7,gp,gq,ga4,gb4]
  refine none_ (by simpa using fa) _ h (fun i hi => ?_) (Keeps.refl _ _)
  simp only [up_app]
  repeat rw [if_neg (by omega)]
 | true =>
 rw [c1b] at gb4
 simp only [GR,evK,binV,intOp,strOp,shOp,unV,Nat.reduceLT,Nat.reduceEqDiff,Nat.reduceAdd,↓reduceIte,Nat.reduceLeDiff,reduceCtorEq,r7_9,w6,w7,gp,gq,ga4,gb4,ga0]
 refine XC_of (site20 (P := P) F) ?_
 rintro _ hx ⟨rfl,e2⟩
 rw [e2]
 clear e2 hx
 cases c2 : siteB ws[a].x.at_.group with
 | false =>
  rw [c1,c1b,c2] at fa
  simp only [GR,evK,binV,intOp,strOp,shOp,unV,Nat.reduceLT,Nat.reduceEqDiff,Nat.reduceAdd,↓reduceIte,Nat.reduceLeDiff,reduceCtorEq]
  refine none_ (by simpa using fa) _ h (fun i hi => ?_) (Keeps.refl _ _)
  simp only [up_app]
  repeat rw [if_neg (by omega)]
 | true =>
 simp only [GR,evK,binV,intOp,strOp,shOp,unV,Nat.reduceLT,Nat.reduceEqDiff,Nat.reduceAdd,↓reduceIte,Nat.reduceLeDiff,reduceCtorEq,w7,gq,gb0]
 refine XC_of (site20 (P := P) F) ?_
 rintro _ hx ⟨rfl,e2⟩
 rw [e2]
 clear e2 hx
 cases c3 : siteB ws[b].x.at_.group with
 | false =>
  rw [c1,c1b,c2,c3] at fa
  simp only [GR,evK,binV,intOp,strOp,shOp,unV,Nat.reduceLT,Nat.reduceEqDiff,Nat.reduceAdd,↓reduceIte,Nat.reduceLeDiff,reduceCtorEq]
  refine none_ (by simpa using fa) _ h (fun i hi => ?_) (Keeps.refl _ _)
  simp only [up_app]
  repeat rw [if_neg (by omega)]
 | true =>
 have hveq := Vec.eqv h ws[a].x.vector ws[b].x.vector
 cases c4 : decide (ws[a].x.vector = ws[b].x.vector) with
 | false =>
  rw [c1,c1b,c2,c3,c4] at fa
  rw [c4] at hveq
  simp only [GR,evK,binV,intOp,strOp,shOp,unV,Nat.reduceLT,Nat.reduceEqDiff,Nat.reduceAdd,↓reduceIte,Nat.reduceLeDiff,reduceCtorEq,w6,w7,gp,gq,hla8,hlb8,eav,ebv,hvn,hveq]
  refine none_ (by simpa using fa) _ h (fun i hi => ?_) (Keeps.refl _ _)
  simp only [up_app]
  repeat rw [if_neg (by omega)]
 | true =>
 rw [c4] at hveq
 have sp := eql22 (P := P) G wA.nodes wA.nds wB.nodes wB.nds wA.nlen
 rw [sav] at ga19
 rw [sbv] at gb19
 rw [sav,sbv] at sp
 simp only [GR,evK,binV,intOp,strOp,shOp,unV,Nat.reduceLT,Nat.reduceEqDiff,Nat.reduceAdd,↓reduceIte,Nat.reduceLeDiff,reduceCtorEq,w6,w7,gp,gq,hla8,hlb8,eav,ebv,hvn,hveq,ga19,gb19]
 refine XC_of sp ?_
 rintro _ h4 ⟨rfl,k4⟩
 cases c5 : decide (ws[a].ns.map (·.2) = ws[b].ns.map (·.2)) with
 | true =>
  rw [c1,c1b,c2,c3,c4,c5] at fa
  simp only [GR,evK,binV,intOp,strOp,shOp,unV,Nat.reduceLT,Nat.reduceEqDiff,Nat.reduceAdd,↓reduceIte,Nat.reduceLeDiff,reduceCtorEq,Bool.not_true]
  refine none_ (by simpa using fa) _ h4 (fun i hi => ?_) k4
  simp only [up_app]
  repeat rw [if_neg (by omega)]
 | false =>
  rw [c1,c1b,c2,c3,c4,c5] at fa
  simp only [Bool.not_false,Bool.and_self,if_true] at fa
  rw [fa] at hX hlen
  have ma4 := ma.kp k4
  obtain ⟨v',h5,h6,e5,g5,e6,⟨q1,q2,q3,q4,hv'⟩,ma6,k6,kb6⟩ := ma4.flaw (k := 4) (by decide) (by have := kk.size; have := k4.size; omega) ⟨4,a,b,0⟩ hlen
  have hfc : (Flaw.mk 4 a b 0).cells = [.int .i64 4,.int .i64 a,.int .i64 b,.int .i64 0] := rfl
  rw [hfc] at e5
  have hd0 : List.drop 3 [V.int .i64 0,.int .i64 0,.int .i64 0,.int .i64 0] = [.int .i64 0] := rfl
  have hd1 : List.drop 4 [V.int .i64 0,.int .i64 0,.int .i64 0,.int .i64 0] = [] := rfl
  have g4 := ma4.box
  have njo : (ov 4).nj = true := by
   rcases (ma4.acc 4 (by decide)).shape with ⟨_,e⟩ | ⟨_,e,_⟩ <;> rw [e] <;> rfl
  rw [hv'] at e6 ma6 e5
  simp only [GR,evK,binV,intOp,strOp,shOp,unV,Nat.reduceLT,Nat.reduceEqDiff,Nat.reduceAdd,↓reduceIte,Nat.reduceLeDiff,reduceCtorEq,Bool.not_false,r7_10,w3,w4,w5,g4,njo,hd0,hd1,e5,e6,Int.reduceLE,Int.reduceLT,Int.reduceToNat,Nat.reduceMul,Int.cast_ofNat_Int]
  refine hX _ h6 _ (fun i hi => ?_) ma6 (Keeps.trans (n := h0.size) (k4.mono kk.size) k6)
  simp only [up_app]
  repeat rw [if_neg (by omega)]
def fk (ws : List WV) : Nat → Nat × Nat → List Flaw
 | 1 => f1 ws | 2 => f2 ws | 4 => f4 ws | _ => fun _ => []
theorem upF3 (ws : List WV) (fs : Nat → List Flaw) (p : Nat × Nat) : ∀ k,upF (upF (upF fs 1 (f1 ws p)) 2 (f2 ws p)) 4 (f4 ws p) k = fs k ++ fk ws k p
 | 0 => by simp [upF,fk] | 1 => by simp [upF,fk] | 2 => by simp [upF,fk] | 3 => by simp [upF,fk] | 4 => by simp [upF,fk]
 | k + 5 => by
  have e : fk ws (k + 5) p = [] := rfl
  rw [e,List.append_nil]
  unfold upF
  rw [if_neg (by omega),if_neg (by omega),if_neg (by omega)]
set_option maxHeartbeats 1000000 in
theorem inner7 (F : Ff E) (G : Fa E) {h0 : H} {lv : V} {ws : List WV} (hv : VsIn h0 lv ws) {t a : Nat} (ha : a < ws.length) (hu : upW ws a = true) {gs : Nat → List Flaw} (hgs : ∀ k,k < 6 → (gs k).length ≤ 1099511627775) {K : List Fr} {Q : Po}
  (cont : ∀ (ρ' : Nat → V) (h' : H) (ov' : Nat → V),ρ' 0 = lv → ρ' 3 = .ptr (some (t,0)) → ρ' 4 = .int .i64 a → MA h0.size h' t ov' gs → Kp h0 h' → X P E none 169 K ρ' h' Q) :
  ∀ (d b : Nat) (ρ : Nat → V) (h : H) (ov : Nat → V) (fs : Nat → List Flaw),ws.length - b = d → b ≤ ws.length → ρ 0 = lv → ρ 3 = .ptr (some (t,0)) → ρ 4 = .int .i64 a → ρ 5 = .int .i64 b → MA h0.size h t ov fs → Kp h0 h → (∀ k,fs k ++ (innP (upW ws) a d b).flatMap (fk ws k) = gs k) → XL P E none 169 b7_12 (.b 2 :: K) ρ h Q := by
 have hm := hv.len
 intro d
 induction d with
 | zero =>
  intro b ρ h ov fs hd hb q0 q3 q4 q5 ma kk hfs
  have hbe : ¬ b < ws.length := by omega
  obtain ⟨sa,sc,so,hlv⟩ := hv.sl.len
  rw [List.length_map] at hlv
  have q0' := q0.trans hlv
  have hg : fs = gs := funext fun k => by rw [← hfs k]; simp [innP]
  rw [u7_12]
  simp only [GR,evK,binV,intOp,strOp,shOp,unV,Nat.reduceLT,Nat.reduceEqDiff,Nat.reduceAdd,↓reduceIte,Nat.reduceLeDiff,reduceCtorEq,r7_3,q5,q0',Int.ofNat_lt,hbe]
  rw [hg] at ma
  exact cont _ h ov q0 q3 q4 ma kk
 | succ d ih =>
  intro b ρ h ov fs hd hb q0 q3 q4 q5 ma kk hfs
  have hbe : b < ws.length := by omega
  have hvh := hv.keep kk
  obtain ⟨b1,o1,c1,p1,cs1,ty1,op1,ro1,fz1,vb,hg1,hlb,heb,hnb⟩ := view_nth hvh.sl hbe
  have eb2 := hnb 2 _ (View.g2 ws[b].x)
  have q0' := q0.trans vb
  have hw : IntKind.i64.wrap ((b : Int) + 1) = ((b + 1 : Nat) : Int) := wrap_nat (n := b + 1) (by omega)
  have next : ∀ (ρ2 : Nat → V) (h2 : H) (ov2 : Nat → V) (fs2 : Nat → List Flaw),ρ2 0 = lv → ρ2 3 = .ptr (some (t,0)) → ρ2 4 = .int .i64 a → ρ2 5 = .int .i64 b → MA h0.size h2 t ov2 fs2 → Kp h0 h2 → (∀ k,fs2 k ++ (innP (upW ws) a d (b + 1)).flatMap (fk ws k) = gs k) → XO P E none 169 r7_11 (.l b7_12 :: .b 2 :: K) ρ2 h2 Q := by
   intro ρ2 h2 ov2 fs2 y0 y3 y4 y5 ma2 kk2 hf2
   simp only [GR,evK,binV,intOp,strOp,shOp,unV,Nat.reduceLT,Nat.reduceEqDiff,Nat.reduceAdd,↓reduceIte,Nat.reduceLeDiff,reduceCtorEq,r7_11,y5,hw]
   refine ih (b + 1) _ h2 ov2 fs2 (by omega) (by omega) ?_ ?_ ?_ ?_ ma2 kk2 hf2
   ·exact y0
   ·exact y3
   ·exact y4
   ·rfl
  rw [u7_12]
  cases hup : ws[b].x.up with
  | false =>
   rw [hup] at eb2
   have hin : innP (upW ws) a (d + 1) b = innP (upW ws) a d (b + 1) := by simp [innP,upW_at hbe,hup]
   simp only [GR,evK,binV,intOp,strOp,shOp,unV,Nat.reduceLT,Nat.reduceEqDiff,Nat.reduceAdd,↓reduceIte,Nat.reduceLeDiff,reduceCtorEq,r7_3,q5,q0',Int.natCast_nonneg,Int.ofNat_lt,hbe,Int.toNat_natCast,r7_4,hg1,eb2]
   refine next _ h ov fs ?_ ?_ ?_ ?_ ma kk (fun k => by rw [← hin]; exact hfs k)
   ·exact q0
   ·exact q3
   ·exact q4
   ·exact q5
  | true =>
   rw [hup] at eb2
   have hin : innP (upW ws) a (d + 1) b = (a,b) :: innP (upW ws) a d (b + 1) := by simp [innP,upW_at hbe,hup,hu]
   have hfs' : ∀ k,(fs k ++ fk ws k (a,b)) ++ (innP (upW ws) a d (b + 1)).flatMap (fk ws k) = gs k := fun k => by
    have := hfs k
    rw [hin,List.flatMap_cons] at this
    rw [List.append_assoc]; exact this
   have hle : ∀ k,k < 6 → (fs k ++ fk ws k (a,b)).length ≤ 1099511627775 := fun k hk => by
    have h1 := hgs k hk
    rw [← hfs' k,List.length_append] at h1; omega
   have l1 : (fs 1 ++ f1 ws (a,b)).length ≤ 1099511627775 := hle 1 (by decide)
   have l2 : (fs 2 ++ f2 ws (a,b)).length ≤ 1099511627775 := hle 2 (by decide)
   have l4 : (fs 4 ++ f4 ws (a,b)).length ≤ 1099511627775 := hle 4 (by decide)
   simp only [GR,evK,binV,intOp,strOp,shOp,unV,Nat.reduceLT,Nat.reduceEqDiff,Nat.reduceAdd,↓reduceIte,Nat.reduceLeDiff,reduceCtorEq,r7_3,q5,q0',Int.natCast_nonneg,Int.ofNat_lt,hbe,Int.toNat_natCast,r7_4,hg1,eb2]
   rw [X_draw]
   refine c7_5 hvh ha hbe ?_ ?_ ?_ ?_
   ·exact q0
   ·exact q4
   ·exact q5
   intro ρ2 h2 p q y6 y7 y0 y3 y4 y5 gp gq k2
   have z0 : ρ2 0 = lv := y0.trans q0
   have z3 : ρ2 3 = .ptr (some (t,0)) := y3.trans q3
   have z4 : ρ2 4 = .int .i64 a := y4.trans q4
   have z5 : ρ2 5 = .int .i64 b := y5.trans q5
   clear y0 y3 y4 y5
   have kk2 := Kp.trans kk k2
   have ma2 := ma.kp k2
   have f1l : (f1 ws (a,b)).length ≤ 1099511627775 := by rw [List.length_append] at l1; omega
   obtain ⟨v1,h3,e1,acc1,k3⟩ := chosen19 (P := P) F G (hv.keep kk2) ha hbe f1l
   have ma3 := ma2.kp k3
   obtain ⟨ee,pe,ce,oe,hve⟩ := acc_elems acc1
   rw [List.length_map] at ee hve
   obtain ⟨v2,h4,h5,e2,e3,hs2,ma5,k5,kb5⟩ := ma3.app (k := 1) (by decide) (Kp.trans kk2 k3).size (x := v1) (ys := f1 ws (a,b)) (by rw [hve]; rfl) ee l1
   have hs1 : IsSl (ov 1) := by
    rcases (ma.acc 1 (by decide)).shape with ⟨_,e⟩ | ⟨_,e,_⟩ <;> exact ⟨_,_,_,_,e⟩
   rw [X_seq,X_draw]
   refine cas7_6 hs1 hs2 z3 z0 z4 z5 ma2.box ma3.box e1 e2 e3 ?_
   intro ρ3 hr3
   have gp5 := kb5.get _ _ (k3.of gp) (ma3.ne (k3.of gp)) (by intro vs e; simp at e)
   have gq5 := kb5.get _ _ (k3.of gq) (ma3.ne (k3.of gq)) (by intro vs e; simp at e)
   have kk5 : Kp h0 h5 := Keeps.trans (n := h0.size) (Kp.trans kk2 k3) k5
   rw [X_seq]
   refine c7_7 F G hv ma5 kk5 ha hbe (by rw [hr3 3 (by decide)]; exact z3) (by rw [hr3 4 (by decide)]; exact z4) (by rw [hr3 5 (by decide)]; exact z5) (by rw [hr3 6 (by decide)]; exact y6) (by rw [hr3 7 (by decide)]; exact y7) gp5 gq5 (by simpa [upF] using l2) ?_
   intro ρ4 h6 ov6 hr4 ma6 k6 kb6
   have gp6 := kb6.get _ _ gp5 (ma5.ne gp5) (by intro vs e; simp at e)
   have gq6 := kb6.get _ _ gq5 (ma5.ne gq5) (by intro vs e; simp at e)
   have kk6 : Kp h0 h6 := Keeps.trans (n := h0.size) kk5 k6
   have hr : ∀ i,i < 46 → ρ4 i = ρ2 i := fun i hi => (hr4 i hi).trans (hr3 i hi)
   refine c7_9 F G hv ma6 kk6 ha hbe (by rw [hr 3 (by decide)]; exact z3) (by rw [hr 4 (by decide)]; exact z4) (by rw [hr 5 (by decide)]; exact z5) (by rw [hr 6 (by decide)]; exact y6) (by rw [hr 7 (by decide)]; exact y7) gp6 gq6 (by simpa [upF] using l4) ?_
   intro ρ5 h7 ov7 hr5 ma7 k7
   have kk7 : Kp h0 h7 := Keeps.trans (n := h0.size) kk6 k7
   simp only [GR,evK,binV,intOp,strOp,shOp,unV,Nat.reduceLT,Nat.reduceEqDiff,Nat.reduceAdd,↓reduceIte,Nat.reduceLeDiff,reduceCtorEq]
   refine next _ h7 ov7 _ ?_ ?_ ?_ ?_ ma7 kk7 (fun k => by rw [upF3]; exact hfs' k)
   ·rw [hr5 0 (by decide),hr 0 (by decide)]; exact z0
   ·rw [hr5 3 (by decide),hr 3 (by decide)]; exact z3
   ·rw [hr5 4 (by decide),hr 4 (by decide)]; exact z4
   ·rw [hr5 5 (by decide),hr 5 (by decide)]; exact z5
noncomputable def sk (ws : List WV) : Nat → Nat → List Flaw
 | 3 => f3 ws | 5 => f5 ws | _ => fun _ => []
noncomputable def restO (ws : List WV) (k d a : Nat) : List Flaw := (outP (upW ws) ws.length d a).flatMap (fk ws k) ++ (List.range' a d).flatMap (sk ws k)
theorem flat_nil {α β : Type} (l : List α) : l.flatMap (fun _ => ([] : List β)) = [] := by induction l <;> simp_all
theorem restO_succ (ws : List WV) (k d a : Nat) : restO ws k (d + 1) a = (innP (upW ws) a (ws.length - (a + 1)) (a + 1)).flatMap (fk ws k) ++ sk ws k a ++ restO ws k d (a + 1) := by
 by_cases h : k = 3 ∨ k = 5
 ·have hf : fk ws k = fun _ => [] := by rcases h with rfl | rfl <;> rfl
  simp only [restO,hf,flat_nil,List.nil_append,List.range'_succ,List.flatMap_cons]
 ·have hs : sk ws k = fun _ => [] := by
   unfold sk; split
   ·exact (h (.inl rfl)).elim
   ·exact (h (.inr rfl)).elim
   ·rfl
  simp only [restO,hs,flat_nil,List.append_nil,outP,List.flatMap_append]
theorem innP_off {u : Nat → Bool} {a : Nat} (h : u a = false) : ∀ d b,innP u a d b = []
 | 0,_ => rfl
 | d + 1,b => by simp only [innP,h,Bool.false_and,Bool.false_eq_true,if_false]; exact innP_off h d (b + 1)
theorem sk_off {ws : List WV} {a : Nat} (ha : a < ws.length) (h : upW ws a = false) (k : Nat) : sk ws k a = [] := by
 rw [upW_at ha] at h
 unfold sk; split
 ·rw [f3_at ha,h]; rfl
 ·rw [f5_at ha,h]; rfl
 ·rfl
set_option maxHeartbeats 1000000 in
theorem c7_13 (F23 : Fr23 E) {h0 h : H} {K : List Fr} {Q : Po} {ρ : Nat → V} {lv : V} {ws : List WV} (hv : VsIn h0 lv ws) {t : Nat} {ov : Nat → V} {fs : Nat → List Flaw} (ma : MA h0.size h t ov fs) (kk : Kp h0 h) {a : Nat} (ha : a < ws.length) (hu : upW ws a = true)
  (w0 : ρ 0 = lv) (w3 : ρ 3 = .ptr (some (t,0))) (w4 : ρ 4 = .int .i64 a)
  (hlen : (fs 3 ++ f3 ws a).length ≤ 1099511627775)
  (hX : ∀ (ρ' : Nat → V) (h' : H) (ov' : Nat → V),ρ' 0 = lv → ρ' 3 = .ptr (some (t,0)) → ρ' 4 = .int .i64 a → MA h0.size h' t ov' (upF fs 3 (f3 ws a)) → Keeps h0.size h h' → X P E none 169 K ρ' h' Q) :
  X P E none 169 (.c (.seq (.region r7_13) (.seq (.region r7_14) (.cond (.t 139) (.region r7_15) (.skip)))) :: K) ρ h Q := by
 have hvh := hv.keep kk
 have wA := hvh.ins _ (List.getElem_mem ha)
 obtain ⟨b1,o1,c1,p1,cs1,ty1,op1,ro1,fz1,vb,hg1,hlb,heb,hnb⟩ := view_nth hvh.sl ha
 have ea19 := hnb 19 _ (View.g19 ws[a].x)
 obtain ⟨sa1,sa2,sa3,sav⟩ := wA.nodes.len
 rw [sav] at ea19
 have w0' := w0.trans vb
 have sp := from23 (P := P) F23 wA.nodes wA.nds wA.nlen
 rw [sav] at sp
 have hf := f3_at ha
 rw [← upW_at ha,hu,Bool.true_and] at hf
 simp only [GR,evK,binV,intOp,strOp,shOp,unV,Nat.reduceLT,Nat.reduceEqDiff,Nat.reduceAdd,↓reduceIte,Nat.reduceLeDiff,reduceCtorEq,r7_13,w0',w4,Int.natCast_nonneg,Int.ofNat_lt,ha,Int.toNat_natCast,hg1,ea19]
 refine XC_of sp ?_
 rintro v h2 ⟨⟨pp,rfl⟩,k2⟩
 have ma2 := ma.kp k2
 cases ho : okT (ws[a].ns.map (·.2)) with
 | true =>
  rw [ho] at hf
  have hf' : f3 ws a = [] := by simpa using hf
  rw [hf',upF_nil] at hX
  simp only [GR,evK,binV,intOp,strOp,shOp,unV,Nat.reduceLT,Nat.reduceEqDiff,Nat.reduceAdd,↓reduceIte,Nat.reduceLeDiff,reduceCtorEq,r7_14]
  refine hX _ h2 ov ?_ ?_ ?_ ma2 (k2.mono kk.size)
  ·exact w0
  ·exact w3
  ·exact w4
 | false =>
  rw [ho] at hf
  have hf' : f3 ws a = [⟨3,a,0,0⟩] := by simpa using hf
  rw [hf'] at hX hlen
  obtain ⟨v',h5,h6,e5,g5,e6,⟨q1,q2,q3,q4,hv'⟩,ma6,k6,kb6⟩ := ma2.flaw (k := 3) (by decide) (by have := kk.size; have := k2.size; omega) ⟨3,a,0,0⟩ hlen
  have hfc : (Flaw.mk 3 a 0 0).cells = [.int .i64 3,.int .i64 a,.int .i64 0,.int .i64 0] := rfl
  rw [hfc] at e5
  have hd0 : List.drop 2 [V.int .i64 0,.int .i64 0,.int .i64 0,.int .i64 0] = [.int .i64 0,.int .i64 0] := rfl
  have hd1 : List.drop 4 [V.int .i64 0,.int .i64 0,.int .i64 0,.int .i64 0] = [] := rfl
  have g4 := ma2.box
  have njo : (ov 3).nj = true := by
   rcases (ma2.acc 3 (by decide)).shape with ⟨_,e⟩ | ⟨_,e,_⟩ <;> rw [e] <;> rfl
  rw [hv'] at e6 ma6 e5
  simp only [GR,evK,binV,intOp,strOp,shOp,unV,Nat.reduceLT,Nat.reduceEqDiff,Nat.reduceAdd,↓reduceIte,Nat.reduceLeDiff,reduceCtorEq,r7_14,r7_15,w3,w4,g4,njo,hd0,hd1,e5,e6,Int.reduceLE,Int.reduceLT,Int.reduceToNat,Nat.reduceMul,Int.cast_ofNat_Int]
  refine hX _ h6 _ ?_ ?_ ?_ ma6 (Keeps.trans (n := h0.size) (k2.mono kk.size) k6)
  ·exact w0
  ·exact w3
  ·exact w4
set_option maxHeartbeats 1000000 in
theorem c7_16 (F : Ff E) {h0 h : H} {K : List Fr} {Q : Po} {ρ : Nat → V} {lv : V} {ws : List WV} (hv : VsIn h0 lv ws) {t : Nat} {ov : Nat → V} {fs : Nat → List Flaw} (ma : MA h0.size h t ov fs) (kk : Kp h0 h) {a : Nat} (ha : a < ws.length) (hu : upW ws a = true)
  (w0 : ρ 0 = lv) (w3 : ρ 3 = .ptr (some (t,0))) (w4 : ρ 4 = .int .i64 a)
  (hlen : (fs 5 ++ f5 ws a).length ≤ 1099511627775)
  (hX : ∀ (ρ' : Nat → V) (h' : H) (ov' : Nat → V),ρ' 0 = lv → ρ' 3 = .ptr (some (t,0)) → ρ' 4 = .int .i64 a → MA h0.size h' t ov' (upF fs 5 (f5 ws a)) → Keeps h0.size h h' → X P E none 169 K ρ' h' Q) :
  X P E none 169 (.c (.seq (.region r7_16) (.cond (.t 151) (.draw r7_17) (.skip))) :: K) ρ h Q := by
 have hvh := hv.keep kk
 obtain ⟨b1,o1,c1,p1,cs1,ty1,op1,ro1,fz1,vb,hg1,hlb,heb,hnb⟩ := view_nth hvh.sl ha
 have ea4 := hnb 4 _ (View.g4 ws[a].x)
 have w0' := w0.trans vb
 have hf := f5_less ha
 rw [← upW_at ha,hu,Bool.true_and] at hf
 cases hbo : ws[a].x.booted with
 | false =>
  rw [hbo] at hf ea4
  have hf' : f5 ws a = [] := by simpa using hf
  rw [hf',upF_nil] at hX
  simp only [GR,evK,binV,intOp,strOp,shOp,unV,Nat.reduceLT,Nat.reduceEqDiff,Nat.reduceAdd,↓reduceIte,Nat.reduceLeDiff,reduceCtorEq,r7_16,w0',w4,Int.natCast_nonneg,Int.ofNat_lt,ha,Int.toNat_natCast,hg1,ea4]
  refine hX _ h ov ?_ ?_ ?_ ma (Keeps.refl _ _)
  ·exact w0
  ·exact w3
  ·exact w4
 | true =>
  rw [hbo] at hf ea4
  have hf' : f5 ws a = less5 ws a := by simpa using hf
  rw [hf'] at hX hlen
  simp only [GR,evK,binV,intOp,strOp,shOp,unV,Nat.reduceLT,Nat.reduceEqDiff,Nat.reduceAdd,↓reduceIte,Nat.reduceLeDiff,reduceCtorEq,r7_16,w0',w4,Int.natCast_nonneg,Int.ofNat_lt,ha,Int.toNat_natCast,hg1,ea4]
  have hl5 : (less5 ws a).length ≤ 1099511627775 := by rw [List.length_append] at hlen; omega
  obtain ⟨v1,h3,e1,acc1,k3⟩ := less24 (P := P) F hvh ha hl5
  have ma3 := ma.kp k3
  obtain ⟨ee,pe,ce,oe,hve⟩ := acc_elems acc1
  rw [List.length_map] at ee hve
  obtain ⟨v2,h4,h5,e2,e3,hs2,ma5,k5,kb5⟩ := ma3.app (k := 5) (by decide) (Kp.trans kk k3).size (x := v1) (ys := less5 ws a) (by rw [hve]; rfl) ee hlen
  have hs1 : IsSl (ov 5) := by
   rcases (ma.acc 5 (by decide)).shape with ⟨_,e⟩ | ⟨_,e,_⟩ <;> exact ⟨_,_,_,_,e⟩
  rw [X_draw]
  refine cas7_17 hs1 hs2 ?_ ?_ ?_ ma.box ma3.box e1 e2 e3 ?_
  ·exact w3
  ·exact w0
  ·exact w4
  intro ρ3 hr3
  refine hX ρ3 h5 _ ?_ ?_ ?_ ma5 (Keeps.trans (n := h0.size) (k3.mono kk.size) k5)
  ·rw [hr3 0 (by decide)]; exact w0
  ·rw [hr3 3 (by decide)]; exact w3
  ·rw [hr3 4 (by decide)]; exact w4
theorem up35 (ws : List WV) (fs : Nat → List Flaw) (a : Nat) : ∀ k,upF (upF fs 3 (f3 ws a)) 5 (f5 ws a) k = fs k ++ sk ws k a
 | 0 => by simp [upF,sk] | 1 => by simp [upF,sk] | 2 => by simp [upF,sk] | 3 => by simp [upF,sk] | 4 => by simp [upF,sk] | 5 => by simp [upF,sk]
 | k + 6 => by
  have e : sk ws (k + 6) a = [] := rfl
  rw [e,List.append_nil]
  unfold upF
  rw [if_neg (by omega),if_neg (by omega)]
set_option maxHeartbeats 1000000 in
theorem outer7 (F : Ff E) (G : Fa E) (F23 : Fr23 E) {h0 : H} {lv : V} {ws : List WV} (hv : VsIn h0 lv ws) {t : Nat} {gs : Nat → List Flaw} (hgs : ∀ k,k < 6 → (gs k).length ≤ 1099511627775) {K : List Fr} {Q : Po}
  (cont : ∀ (ρ' : Nat → V) (h' : H) (ov' : Nat → V),ρ' 3 = .ptr (some (t,0)) → MA h0.size h' t ov' gs → Kp h0 h' → X P E none 169 K ρ' h' Q) :
  ∀ (d a : Nat) (ρ : Nat → V) (h : H) (ov : Nat → V) (fs : Nat → List Flaw),ws.length - a = d → a ≤ ws.length → ρ 0 = lv → ρ 3 = .ptr (some (t,0)) → ρ 4 = .int .i64 a → MA h0.size h t ov fs → Kp h0 h → (∀ k,fs k ++ restO ws k d a = gs k) → XL P E none 169 b7_19 (.b 0 :: K) ρ h Q := by
 have hm := hv.len
 intro d
 induction d with
 | zero =>
  intro a ρ h ov fs hd ha q0 q3 q4 ma kk hfs
  have hae : ¬ a < ws.length := by omega
  obtain ⟨sa,sc,so,hlv⟩ := hv.sl.len
  rw [List.length_map] at hlv
  have q0' := q0.trans hlv
  have hg : fs = gs := funext fun k => by rw [← hfs k]; simp [restO,outP]
  rw [u7_19]
  simp only [GR,evK,binV,intOp,strOp,shOp,unV,Nat.reduceLT,Nat.reduceEqDiff,Nat.reduceAdd,↓reduceIte,Nat.reduceLeDiff,reduceCtorEq,r7_0,q4,q0',Int.ofNat_lt,hae]
  rw [hg] at ma
  exact cont _ h ov q3 ma kk
 | succ d ih =>
  intro a ρ h ov fs hd ha q0 q3 q4 ma kk hfs
  have hae : a < ws.length := by omega
  have hvh := hv.keep kk
  obtain ⟨b1,o1,c1,p1,cs1,ty1,op1,ro1,fz1,vb,hg1,hlb,heb,hnb⟩ := view_nth hvh.sl hae
  have ea2 := hnb 2 _ (View.g2 ws[a].x)
  have q0' := q0.trans vb
  have hw : IntKind.i64.wrap ((a : Int) + 1) = ((a + 1 : Nat) : Int) := wrap_nat (n := a + 1) (by omega)
  have hua := upW_at hae
  have next : ∀ (ρ2 : Nat → V) (h2 : H) (ov2 : Nat → V) (fs2 : Nat → List Flaw),ρ2 0 = lv → ρ2 3 = .ptr (some (t,0)) → ρ2 4 = .int .i64 a → MA h0.size h2 t ov2 fs2 → Kp h0 h2 → (∀ k,fs2 k ++ restO ws k d (a + 1) = gs k) → XO P E none 169 r7_18 (.l b7_19 :: .b 0 :: K) ρ2 h2 Q := by
   intro ρ2 h2 ov2 fs2 y0 y3 y4 ma2 kk2 hf2
   simp only [GR,evK,binV,intOp,strOp,shOp,unV,Nat.reduceLT,Nat.reduceEqDiff,Nat.reduceAdd,↓reduceIte,Nat.reduceLeDiff,reduceCtorEq,r7_18,y4,hw]
   refine ih (a + 1) _ h2 ov2 fs2 (by omega) (by omega) ?_ ?_ ?_ ma2 kk2 hf2
   ·exact y0
   ·exact y3
   ·rfl
  rw [u7_19]
  cases hup : ws[a].x.up with
  | false =>
   rw [hup] at ea2 hua
   simp only [GR,evK,binV,intOp,strOp,shOp,unV,Nat.reduceLT,Nat.reduceEqDiff,Nat.reduceAdd,↓reduceIte,Nat.reduceLeDiff,reduceCtorEq,r7_0,q4,q0',Int.natCast_nonneg,Int.ofNat_lt,hae,Int.toNat_natCast,r7_1,hg1,ea2]
   refine next _ h ov fs ?_ ?_ ?_ ma kk (fun k => ?_)
   ·exact q0
   ·exact q3
   ·exact q4
   ·have := hfs k
    rw [restO_succ,innP_off hua,sk_off hae hua] at this
    simpa using this
  | true =>
   rw [hup] at ea2 hua
   have hfs' : ∀ k,(fs k ++ (innP (upW ws) a (ws.length - (a + 1)) (a + 1)).flatMap (fk ws k)) ++ sk ws k a ++ restO ws k d (a + 1) = gs k := fun k => by
    have := hfs k
    rw [restO_succ] at this
    simpa only [List.append_assoc] using this
   have hle : ∀ k,k < 6 → ((fs k ++ (innP (upW ws) a (ws.length - (a + 1)) (a + 1)).flatMap (fk ws k)) ++ sk ws k a).length ≤ 1099511627775 := fun k hk => by
    have h1 := hgs k hk
    rw [← hfs' k,List.length_append] at h1; omega
   simp only [GR,evK,binV,intOp,strOp,shOp,unV,Nat.reduceLT,Nat.reduceEqDiff,Nat.reduceAdd,↓reduceIte,Nat.reduceLeDiff,reduceCtorEq,r7_0,q4,q0',Int.natCast_nonneg,Int.ofNat_lt,hae,Int.toNat_natCast,r7_1,hg1,ea2,r7_2,hw]
   refine inner7 F G hv hae hua (gs := fun k => fs k ++ (innP (upW ws) a (ws.length - (a + 1)) (a + 1)).flatMap (fk ws k)) (fun k hk => by have := hle k hk; rw [List.length_append] at this; omega) ?_ (ws.length - (a + 1)) (a + 1) _ h ov fs rfl (by omega) ?_ ?_ ?_ ?_ ma kk (fun k => rfl)
   ·intro ρ2 h2 ov2 y0 y3 y4 ma2 kk2
    rw [X_seq]
    have l3 := hle 3 (by decide)
    have l5 := hle 5 (by decide)
    refine c7_13 F23 hv ma2 kk2 hae hua y0 y3 y4 l3 ?_
    intro ρ3 h3 ov3 z0 z3 z4 ma3 k3
    have kk3 : Kp h0 h3 := Keeps.trans (n := h0.size) kk2 k3
    refine c7_16 F hv ma3 kk3 hae hua z0 z3 z4 (by simpa [upF,sk] using l5) ?_
    intro ρ4 h4 ov4 x0 x3 x4 ma4 k4
    have kk4 : Kp h0 h4 := Keeps.trans (n := h0.size) kk3 k4
    simp only [GR,evK,binV,intOp,strOp,shOp,unV,Nat.reduceLT,Nat.reduceEqDiff,Nat.reduceAdd,↓reduceIte,Nat.reduceLeDiff,reduceCtorEq]
    refine next _ h4 ov4 _ ?_ ?_ ?_ ma4 kk4 (fun k => by rw [up35]; exact hfs' k)
    ·exact x0
    ·exact x3
    ·exact x4
   ·exact q0
   ·exact q3
   ·exact q4
   ·rfl
theorem six_get (ov : Nat → V) {k : Nat} (hk : k < 6) : [ov 0,ov 1,ov 2,ov 3,ov 4,ov 5][k]? = some (ov k) := by
 match k,hk with
 | 0,_ => rfl | 1,_ => rfl | 2,_ => rfl | 3,_ => rfl | 4,_ => rfl | 5,_ => rfl
def DisL (ov : Nat → V) (al : V) : Prop := ∀ j,j < 6 → ∀ b p n c q p' n' c' q',ov j = .slice (some (b,p)) n c q → al ≠ .slice (some (b,p')) n' c' q'
theorem MA.fr {lo : Nat} {h h' : H} {t : Nat} {ov : Nat → V} {fs : Nat → List Flaw} (a : MA lo h t ov fs) {al : V} {xs : List (List V)} (ac : Acc h lo 30 4 al xs) (di : DisL ov al) (fr : ∀ i o,h.get i = some o → (∀ p n c q,al ≠ .slice (some (i,p)) n c q) → h'.get i = some o) : MA lo h' t ov fs := by
 refine ⟨fr _ _ a.box fun p n c q e => ?_,fun j hj => ⟨?_,(a.acc j hj).elem⟩,a.dis,a.low⟩
 ·rcases ac.shape with ⟨_,e0⟩ | ⟨b,e0,_,g⟩
  ·rw [e0] at e; cases e
  ·rw [e0] at e; cases e
   have := a.box
   rw [g] at this; simp at this
 ·rcases (a.acc j hj).shape with h9 | ⟨b2,q1,q2,q3⟩
  ·exact .inl h9
  ·exact .inr ⟨b2,q1,q2,fr _ _ q3 fun p n c q e => di j hj _ _ _ _ _ _ _ _ _ q1 e⟩
set_option maxHeartbeats 1000000 in
theorem last7 {h0 : H} {t : Nat} {gs : Nat → List Flaw} {full : List Flaw} (hfull : full.length ≤ 1099511627775) (ov : Nat → V) :
  ∀ (d k : Nat) (ρ : Nat → V) (h : H) (al : V) (fs : List Flaw),6 - k = d → k ≤ 6 → ρ 3 = .ptr (some (t,0)) → ρ 10 = al → ρ 11 = .int .i64 k → MA h0.size h t ov gs → Kp h0 h → Acc h h0.size 30 4 al (fs.map Flaw.cells) → DisL ov al → fs ++ (List.range' k d).flatMap gs = full →
   XL P E none 169 b7_23 [.b 4,.c (.seq (.region r7_24) (.ret))] ρ h (Fin [.t 2] fun v h' => Acc h' h0.size 30 4 v (full.map Flaw.cells) ∧ Kp h0 h') := by
 intro d
 induction d with
 | zero =>
  intro k ρ h al fs hd hk q3 q10 q11 ma kk acc di hfs
  have hke : ¬ k < 6 := by omega
  have hki : ¬ (k : Int) < 6 := by omega
  have hf : fs = full := by rw [← hfs]; simp
  rw [u7_23]
  simp only [GR,evK,binV,intOp,strOp,shOp,unV,Nat.reduceLT,Nat.reduceEqDiff,Nat.reduceAdd,↓reduceIte,Nat.reduceLeDiff,reduceCtorEq,r7_20,q11,hki,r7_24,q10]
  rw [← hf]
  exact ⟨acc,kk⟩
 | succ d ih =>
  intro k ρ h al fs hd hk q3 q10 q11 ma kk acc di hfs
  have hke : k < 6 := by omega
  have hki : (k : Int) < 6 := by omega
  have hki2 : (k : Int) < ((6 : Nat) : Int) := by omega
  have hw : IntKind.i64.wrap ((k : Int) + 1) = ((k + 1 : Nat) : Int) := wrap_nat (n := k + 1) (by omega)
  have gk := six_get ov hke
  have gt := ma.box
  have njo : (ov k).nj = true := by
   rcases (ma.acc k hke).shape with ⟨_,e⟩ | ⟨_,e,_⟩ <;> rw [e] <;> rfl
  rw [List.range'_succ,List.flatMap_cons,← List.append_assoc] at hfs
  have hl : (fs ++ gs k).length ≤ 1099511627775 := by
   have := congrArg List.length hfs
   rw [List.length_append] at this; omega
  obtain ⟨ee,pe,ce,oe,hve⟩ := acc_elems (ma.acc k hke)
  obtain ⟨v',h1,e1,acc1,k1,⟨p1,n1,c1,o1,hv1⟩,s1,fr1,hnew⟩ := app_fr2 (bytes := 32) (x := ov k) (ys := (gs k).map Flaw.cells) acc kk.size (by rw [hve]; rfl) ee (fun y hy => by obtain ⟨z,_,rfl⟩ := List.mem_map.1 hy; exact ⟨rfl,rfl⟩) (by rw [List.length_append] at hl; simp only [List.length_map]; omega)
  have ma1 := ma.fr acc di fr1
  have di1 : DisL ov v' := by
   intro j hj b p n c q p' n' c' q' ej e
   rcases hnew with e2 | ⟨b2,n2,c2,q2,e2,hb2⟩
   ·rw [e2] at e; exact di j hj _ _ _ _ _ _ _ _ _ ej e
   ·rw [e2] at e; cases e
    rcases (ma.acc j hj).shape with ⟨_,e3⟩ | ⟨b3,e3,_,g3⟩
    ·rw [e3] at ej; cases ej
    ·rw [e3] at ej; cases ej
     have := H.get_lt g3; omega
  rw [u7_23]
  generalize hcs : [ov 0,ov 1,ov 2,ov 3,ov 4,ov 5] = cs at *
  simp only [GR,evK,binV,intOp,strOp,shOp,unV,Nat.reduceLT,Nat.reduceEqDiff,Nat.reduceAdd,↓reduceIte,Nat.reduceLeDiff,reduceCtorEq,r7_20,q11,hki,r7_21,q10,q3,Int.natCast_nonneg,hki2,Int.toNat_natCast,Nat.mul_one,gt,gk,njo,e1,r7_22,hw]
  refine ih (k + 1) _ h1 v' (fs ++ gs k) (by omega) (by omega) ?_ ?_ ?_ ma1 (Keeps.trans (n := h0.size) kk k1) (by rw [List.map_append]; exact acc1) di1 hfs
  ·exact q3
  ·rfl
  ·rfl
noncomputable def gsF (ws : List WV) : Nat → List Flaw
 | 1 => F1 ws | 2 => F2 ws | 3 => F3 ws | 4 => F4 ws | 5 => F5 ws | _ => []
theorem gsF_rest (ws : List WV) : ∀ k,[] ++ restO ws k ws.length 0 = gsF ws k
 | 0 => by simp [restO,gsF,fk,sk,flat_nil]
 | 1 => by show _ = F1 ws; simp [restO,fk,sk,F1,pairsL]
 | 2 => by show _ = F2 ws; simp [restO,fk,sk,F2,pairsL]
 | 3 => by show _ = F3 ws; simp [restO,fk,sk,F3,List.range_eq_range']
 | 4 => by show _ = F4 ws; simp [restO,fk,sk,F4,pairsL]
 | 5 => by show _ = F5 ws; simp [restO,fk,sk,F5,List.range_eq_range']
 | k + 6 => by
  have e1 : fk ws (k + 6) = fun _ => [] := rfl
  have e2 : sk ws (k + 6) = fun _ => [] := rfl
  have e3 : gsF ws (k + 6) = [] := rfl
  simp [restO,e1,e2,e3,flat_nil]
theorem gsF_all (ws : List WV) : [] ++ (List.range' 1 5).flatMap (gsF ws) = allF ws := by
 have h : List.range' 1 5 = [1,2,3,4,5] := rfl
 have h2 : List.range 5 = [0,1,2,3,4] := rfl
 simp [allF,h,h2,gsF,ck]
theorem gsF_le {ws : List WV} (hlen : (allF ws).length ≤ 1099511627775) : ∀ k,k < 6 → (gsF ws k).length ≤ 1099511627775 := by
 have h := congrArg List.length (gsF_all ws)
 have h2 : List.range' 1 5 = [1,2,3,4,5] := rfl
 rw [h2] at h
 simp only [List.nil_append,List.flatMap_cons,List.flatMap_nil,List.length_append,List.length_nil] at h
 intro k hk
 match k,hk with
 | 0,_ => exact Nat.zero_le _
 | 1,_ => omega | 2,_ => omega | 3,_ => omega | 4,_ => omega | 5,_ => omega
set_option maxHeartbeats 1000000 in
theorem flaws7 (F : Ff E) (G : Fa E) (F23 : Fr23 E) {h0 : H} {lv : V} {ws : List WV} (hv : VsIn h0 lv ws) (hlen : (allF ws).length ≤ 1099511627775) :
  Sp P E (.func 7 [] []) [lv] h0 fun v h' => Acc h' h0.size 30 4 v ((allF ws).map Flaw.cells) ∧ Kp h0 h' := by
 have k1 : Kp h0 (h0.psh (.cells [.slice none 0 0 false,.slice none 0 0 false,.slice none 0 0 false,.slice none 0 0 false,.slice none 0 0 false,.slice none 0 0 false] 68 false false none)) := Keeps.psh (Nat.le_refl _) _
 have g1 := psh_same h0 (.cells [.slice none 0 0 false,.slice none 0 0 false,.slice none 0 0 false,.slice none 0 0 false,.slice none 0 0 false,.slice none 0 0 false] 68 false false none)
 have ma1 : MA h0.size (h0.psh (.cells [.slice none 0 0 false,.slice none 0 0 false,.slice none 0 0 false,.slice none 0 0 false,.slice none 0 0 false,.slice none 0 0 false] 68 false false none)) h0.size (fun _ => .slice none 0 0 false) (fun _ => []) :=
  ⟨g1,fun k _ => Acc.nil _ _ _ _,fun j k _ _ _ b p n c q p' n' c' q' e => (by cases e),Nat.le_refl _⟩
 refine Sp_fn F.f7 F.p7 (by simp [fn7]) ?_
 simp only [GR,evK,binV,intOp,strOp,shOp,unV,Nat.reduceLT,Nat.reduceEqDiff,Nat.reduceAdd,↓reduceIte,Nat.reduceLeDiff,reduceCtorEq,fn7,c7]
 generalize h0.psh (.cells [.slice none 0 0 false,.slice none 0 0 false,.slice none 0 0 false,.slice none 0 0 false,.slice none 0 0 false,.slice none 0 0 false] 68 false false none) = h1 at *
 refine outer7 F G F23 hv (gsF_le hlen) ?_ ws.length 0 _ h1 _ _ rfl (Nat.zero_le _) ?_ ?_ ?_ ma1 k1 (gsF_rest ws)
 ·intro ρ2 h2 ov2 y3 ma2 kk2
  simp only [GR,evK,binV,intOp,strOp,shOp,unV,Nat.reduceLT,Nat.reduceEqDiff,Nat.reduceAdd,↓reduceIte,Nat.reduceLeDiff,reduceCtorEq]
  refine last7 hlen ov2 5 1 _ h2 (.slice none 0 0 false) [] rfl (by decide) ?_ ?_ ?_ ma2 kk2 (Acc.nil _ _ _ _) (fun j hj b p n c q p' n' c' q' _ e => by cases e) (gsF_all ws)
  ·exact y3
  ·rfl
  ·rfl
 ·rfl
 ·rfl
 ·rfl
end Go.AM.Sc
namespace Go.AM.Sc
open Go.AM
variable {P : Program} {E : Env}
structure C3 (lo : Nat) (h : H) (al : List Flaw) (bs bw bo br : Nat) (wv ov : V) (stop : Int) : Prop where
 gs : h.get bs = some (.cells [.int .i64 stop] 3 false false none)
 gw : h.get bw = some (.cells [wv] 24 false false none)
 go : h.get bo = some (.cells [ov] 24 false false none)
 gr : h.get br = some (.cells [.bool false] 4 false false none)
 aw : Acc h lo 30 4 wv (al.map Flaw.cells)
 ao : Acc h lo 30 4 ov (al.map Flaw.cells)
variable {lo : Nat} {al : List Flaw} {bs bw bo br : Nat} {wv ov : V} {stop : Int}
theorem C3.kp {h h' : H} (a : C3 lo h al bs bw bo br wv ov stop) (k : Kp h h') : C3 lo h' al bs bw bo br wv ov stop := ⟨k.of a.gs,k.of a.gw,k.of a.go,k.of a.gr,a.aw.keep k,a.ao.keep k⟩
theorem C3.set {h : H} (a : C3 lo h al bs bw bo br wv ov stop) {i : Nat} {o : Obj} (hg : h.get i = some o) (hs : i ≠ bs) (hw : i ≠ bw) (ho : i ≠ bo) (hr : i ≠ br) (hn : ∀ vs,o ≠ .cells vs 30 true false none) (o' : Obj) : C3 lo (h.set i o') al bs bw bo br wv ov stop := by
 have hlt := H.get_lt hg
 refine ⟨?_,?_,?_,?_,Acc.set_o a.aw hg hn o',Acc.set_o a.ao hg hn o'⟩
 ·rw [hset_other hlt hs]; exact a.gs
 ·rw [hset_other hlt hw]; exact a.gw
 ·rw [hset_other hlt ho]; exact a.go
 ·rw [hset_other hlt hr]; exact a.gr
theorem C3.setL {h : H} (a : C3 lo h al bs bw bo br wv ov stop) {i : Nat} {o : Obj} (hg : h.get i = some o) (hn : ∀ vs ty op ro fz,o ≠ .cells vs ty op ro fz) (o' : Obj) : C3 lo (h.set i o') al bs bw bo br wv ov stop :=
 a.set hg (by rintro rfl; have := a.gs; rw [hg] at this; cases this; exact hn _ _ _ _ _ rfl) (by rintro rfl; have := a.gw; rw [hg] at this; cases this; exact hn _ _ _ _ _ rfl) (by rintro rfl; have := a.go; rw [hg] at this; cases this; exact hn _ _ _ _ _ rfl) (by rintro rfl; have := a.gr; rw [hg] at this; cases this; exact hn _ _ _ _ _ rfl) (fun _ => hn _ _ _ _ _) o'
structure R3 (h : H) (l b7 bn : Nat) (o : Obj) (rd : Nat) (n : Int) : Prop where
 gl : h.get l = some o
 g7 : h.get b7 = some (.cells [.int .i64 rd] 3 false false none)
 gn : h.get bn = some (.cells [.int .i64 n] 3 false false none)
theorem R3.kp {h h' : H} {l b7 bn : Nat} {o : Obj} {rd : Nat} {n : Int} (a : R3 h l b7 bn o rd n) (k : Kp h h') : R3 h' l b7 bn o rd n := ⟨k.of a.gl,k.of a.g7,k.of a.gn⟩
set_option maxHeartbeats 2000000 in
theorem yield3 {h : H} {l b7 bn : Nat} {ρ : Nat → V} {rd k : Nat} (hm : al.length ≤ 1099511627775) (w3 : ρ 3 = .ptr (some (bs,0))) (w5 : ρ 5 = .ptr (some (bw,0))) (w7 : ρ 7 = .ptr (some (b7,0))) (w8 : ρ 8 = .ptr (some (bn,0)))
  (c : C3 lo h al bs bw bo br wv ov stop) (r : R3 h l b7 bn (.loop .ready none (toL 56 ρ) [20] a3_7 b3_11) rd k) (hk : k < al.length) (h7 : bn ≠ b7) (hbs : bn ≠ bs)
  {Rp : V → H → Prop} (hRt : ∀ h',C3 lo h' al bs bw bo br wv ov stop → R3 h' l b7 bn (.loop .ready none (toL 56 ρ) [20] a3_7 b3_11) rd ((k + 1 : Nat) : Int) → Rp (.bool true) h')
  (hRf : rd = 0 → ∀ h' T as bd,C3 lo h' al bs bw bo br wv ov stop → R3 h' l b7 bn (.loop .done (some (.exit 2)) T [20] as bd) rd stop → Rp (.bool false) h') :
  Sp P E (.yield l) [.agg al[k].cells] h Rp := by
 have nol : ∀ (st : LoopState) (pe : Option C) vs ty op ro fz,Obj.loop st pe (toL 56 ρ) [20] a3_7 b3_11 ≠ .cells vs ty op ro fz := by intro _ _ _ _ _ _ _ e; cases e
 refine Sp_yield r.gl rfl (zip1 _ _ _ _) (pend' := none) ?_
 obtain ⟨h3,e3,g3,k3,z3⟩ := put_fresh h (vs := [.int .i64 0,.int .i64 0,.int .i64 0,.int .i64 0]) (ws := al[k].cells) (ty := 30) rfl rfl rfl
 have hel : al[k].cells.length = 4 := rfl
 have hpl : List.take 4 al[k].cells = al[k].cells := rfl
 have nja : V.njL al[k].cells = true := rfl
 have c3 := c.kp k3
 have r3 := r.kp k3
 have heq : ∀ h : H,eqV h (.fcons 0 1 false .int (.fcons 1 1 false .int (.fcons 2 1 false .int (.fcons 3 1 false .int .fnil)))) (.agg al[k].cells) (.agg al[k].cells) = some true := fun h => (Flaw.eqv h _ _).trans (by simp)
 have hlt := H.get_lt r3.gl
 have cB := c3.setL r3.gl (nol _ _) (.loop .busy none (toL 56 ρ) [20] a3_7 b3_11)
 have oth : ∀ {i : Nat} {vs : List V} {ty : Nat} {op ro : Bool} {fz : Option Nat},h3.get i = some (.cells vs ty op ro fz) → (h3.set l (.loop .busy none (toL 56 ρ) [20] a3_7 b3_11)).get i = some (.cells vs ty op ro fz) := by
  intro i vs ty op ro fz hg
  rw [hset_other hlt (by rintro rfl; rw [r3.gl] at hg; cases hg)]; exact hg
 have g9 := oth g3
 have g7 := oth r3.g7
 have gn := oth r3.gn
 have glB := hset_same hlt (.loop .busy none (toL 56 ρ) [20] a3_7 b3_11)
 obtain ⟨b,cs,hwv,hg,hll,he⟩ := acc_get cB.aw hk
 have gw := cB.gw
 have gs := cB.gs
 rw [hwv] at gw
 have hge : ¬ ((k : Int) ≥ (al.length : Int)) := by omega
 have hki : (k : Int) < (al.length : Int) := by omega
 have hw : IntKind.i64.wrap ((k : Int) + 1) = ((k + 1 : Nat) : Int) := wrap_nat (n := k + 1) (by omega)
 have e4 := put_at (ws := [.int .i64 ((k + 1 : Nat) : Int)]) (o := 0) gn (by simp) rfl rfl
 have hset : setR [V.int .i64 (k : Int)] 0 [.int .i64 ((k + 1 : Nat) : Int)] = [.int .i64 ((k + 1 : Nat) : Int)] := rfl
 rw [hset] at e4
 have hltn := H.get_lt gn
 have nn : ∀ {i : Nat} {vs : List V} {ty : Nat} {op ro : Bool} {fz : Option Nat},(h3.set l (.loop .busy none (toL 56 ρ) [20] a3_7 b3_11)).get i = some (.cells vs ty op ro fz) → ty ≠ 3 → bn ≠ i := by
  rintro i vs ty op ro fz hg2 hne rfl
  rw [gn] at hg2; cases hg2; exact hne rfl
 have cN := cB.set gn hbs (nn cB.gw (by decide)) (nn cB.go (by decide)) (nn cB.gr (by decide)) (by intro vs e; simp at e) (.cells [.int .i64 ((k + 1 : Nat) : Int)] 3 false false none)
 have hln : bn ≠ l := by rintro rfl; rw [glB] at gn; cases gn
 have glN : ((h3.set l (.loop .busy none (toL 56 ρ) [20] a3_7 b3_11)).set bn (.cells [.int .i64 ((k + 1 : Nat) : Int)] 3 false false none)).get l = some (.loop .busy none (toL 56 ρ) [20] a3_7 b3_11) := by rw [hset_other hltn hln]; exact glB
 have g7N : ((h3.set l (.loop .busy none (toL 56 ρ) [20] a3_7 b3_11)).set bn (.cells [.int .i64 ((k + 1 : Nat) : Int)] 3 false false none)).get b7 = some (.cells [.int .i64 rd] 3 false false none) := by rw [hset_other hltn h7]; exact g7
 have gnN : ((h3.set l (.loop .busy none (toL 56 ρ) [20] a3_7 b3_11)).set bn (.cells [.int .i64 ((k + 1 : Nat) : Int)] 3 false false none)).get bn = some (.cells [.int .i64 ((k + 1 : Nat) : Int)] 3 false false none) := hset_same hltn _
 have gsN := cN.gs
 have fin : ∀ (o : Obj),(∀ vs ty op ro fz,o ≠ .cells vs ty op ro fz) → ∀ hN : H,C3 lo hN al bs bw bo br wv ov stop → hN.get l = some (.loop .busy none (toL 56 ρ) [20] a3_7 b3_11) → hN.get b7 = some (.cells [.int .i64 rd] 3 false false none) → hN.get bn = some (.cells [.int .i64 ((k + 1 : Nat) : Int)] 3 false false none) →
   C3 lo (hN.set l o) al bs bw bo br wv ov stop ∧ R3 (hN.set l o) l b7 bn o rd ((k + 1 : Nat) : Int) := by
  intro o _ hN cc gl g7 gn
  have hl := H.get_lt gl
  refine ⟨cc.setL gl (nol _ _) _,hset_same hl _,?_,?_⟩
  ·rw [hset_other hl (by rintro rfl; rw [gl] at g7; cases g7)]; exact g7
  ·rw [hset_other hl (by rintro rfl; rw [gl] at gn; cases gn)]; exact gn
 have finR := fin (.loop .ready none (toL 56 ρ) [20] a3_7 b3_11) (nol _ _)
 have finD := fin (.loop .done (some (.exit 2)) (toL 56 ρ) [20] a3_7 b3_11) (nol _ _)
 have gl3 := r3.gl
 clear fin nol
 generalize hxc : al[k].cells = xc at *
 generalize hbz : Obj.loop .busy none (toL 56 ρ) [20] a3_7 b3_11 = bz at *
 generalize hrz : Obj.loop .ready none (toL 56 ρ) [20] a3_7 b3_11 = rz at *
 simp only [GR,evK,binV,intOp,strOp,shOp,unV,Nat.reduceLT,Nat.reduceEqDiff,Nat.reduceAdd,↓reduceIte,Nat.reduceLeDiff,reduceCtorEq,a3_7,r3_6,hel,e3]
 refine ⟨gl3,_,rfl,?_⟩
 generalize h3.set l bz = hB at *
 generalize hB.set bn (.cells [.int .i64 ((k + 1 : Nat) : Int)] 3 false false none) = hN at *
 simp only [GR,evK,binV,intOp,strOp,shOp,unV,Nat.reduceLT,Nat.reduceEqDiff,Nat.reduceAdd,↓reduceIte,Nat.reduceLeDiff,reduceCtorEq,b3_11]
 rw [X_draw,d3_8]
 simp only [GR,evK,binV,intOp,strOp,shOp,unV,Nat.reduceLT,Nat.reduceEqDiff,Nat.reduceAdd,↓reduceIte,Nat.reduceLeDiff,reduceCtorEq,r3_8,w8,gn,w5,gw,hge,g9,hel,hpl,nja,Int.natCast_nonneg,hki,Int.toNat_natCast,Nat.zero_add,hg,hll,he,heq,r3_9,hw,e4,r3_10,w7,g7N]
 by_cases hrd : rd = 0
 ·have hrd2 : ((rd : Int) == 0) = true := by subst hrd; rfl
  by_cases hs : ((k + 1 : Nat) : Int) = stop
  ·have hs2 : (((k + 1 : Nat) : Int) == stop) = true := by rw [beq_iff_eq]; exact hs
   simp only [GR,evK,binV,intOp,strOp,shOp,unV,Nat.reduceLT,Nat.reduceEqDiff,Nat.reduceAdd,↓reduceIte,Nat.reduceLeDiff,reduceCtorEq,hrd2,w8,gnN,w3,gsN,hs2]
   obtain ⟨x1,x2⟩ := finD hN cN glN g7N gnN
   rw [hs] at x2
   exact ⟨glN,hRf hrd _ _ _ _ x1 x2⟩
  ·have hs2 : (((k + 1 : Nat) : Int) == stop) = false := by
    cases hq : (((k + 1 : Nat) : Int) == stop) with
    | false => rfl
    | true => rw [beq_iff_eq] at hq; exact (hs hq).elim
   simp only [GR,evK,binV,intOp,strOp,shOp,unV,Nat.reduceLT,Nat.reduceEqDiff,Nat.reduceAdd,↓reduceIte,Nat.reduceLeDiff,reduceCtorEq,hrd2,w8,gnN,w3,gsN,hs2]
   exact ⟨glN,hRt _ (finR hN cN glN g7N gnN).1 (finR hN cN glN g7N gnN).2⟩
 ·have hrd2 : ((rd : Int) == 0) = false := by
   cases hq : ((rd : Int) == 0) with
   | false => rfl
   | true => rw [beq_iff_eq] at hq; omega
  simp only [GR,evK,binV,intOp,strOp,shOp,unV,Nat.reduceLT,Nat.reduceEqDiff,Nat.reduceAdd,↓reduceIte,Nat.reduceLeDiff,reduceCtorEq,hrd2]
  exact ⟨glN,hRt _ (finR hN cN glN g7N gnN).1 (finR hN cN glN g7N gnN).2⟩
end Go.AM.Sc
