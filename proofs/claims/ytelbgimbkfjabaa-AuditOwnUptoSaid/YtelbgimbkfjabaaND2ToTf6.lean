/- My own texts, laid for this claim. -/
import Derived.Test.YtelbgimbkfjabaaXPrim5ToND
set_option linter.unusedSimpArgs false
set_option linter.unusedVariables false
namespace Go.AM
variable {P : Program}
mutual
theorem VR.down {m m' : Mp} (hs : Sub m m') : ∀ (v : V) (x0 x : Value),VR m v x0 → VR m' v x → VR m v x
 | .bool _,_,_,_,h => h
 | .int _ _,_,_,_,h => h
 | .str _,_,_,_,h => h
 | .ptr none,_,_,_,h => h
 | .ptr (some (i,o)),x0,x,h0,h => by
  obtain ⟨r,sh,e,h1,h2⟩ := h0
  obtain ⟨r',sh',e',h3,h4⟩ := h
  have := hs _ _ h1; rw [this] at h3; cases h3
  exact ⟨r,sh,e,h1,h4⟩
 | .slice none _ _ _,_,_,_,h => h
 | .slice (some (i,o)) len cap opn,x0,x,h0,h => by
  obtain ⟨r,sh,e,ad,h1,h2⟩ := h0
  obtain ⟨r',sh',e',ad',h3,h4⟩ := h
  have := hs _ _ h1; rw [this] at h3; cases h3
  exact ⟨r,sh,e,ad',h1,h4⟩
 | .map none,_,_,_,h => h
 | .map (some i),x0,x,h0,h => by
  obtain ⟨r,sh,e,h1,h2⟩ := h0
  obtain ⟨r',sh',e',h3,h4⟩ := h
  have := hs _ _ h1; rw [this] at h3; cases h3
  exact ⟨r,sh,e,h1,h4⟩
 | .func f fs cs,x0,x,h0,h => by
  obtain ⟨xs,ys,h1,h2,h3⟩ := h0
  obtain ⟨xs',ys',h1',h2',h3'⟩ := h
  exact ⟨xs',ys',VRL.down hs _ _ _ h1 h1',VRL.down hs _ _ _ h2 h2',h3'⟩
 | .yield l,x0,x,h0,h => by
  obtain ⟨r,sh,e,h1,h2⟩ := h0
  obtain ⟨r',sh',e',h3,h4⟩ := h
  have := hs _ _ h1; rw [this] at h3; cases h3
  exact ⟨r,sh,e,h1,h4⟩
 | .nilFunc,_,_,_,h => h
 | .iface t v,x0,x,h0,h => by
  obtain ⟨y,h1,h2⟩ := h0
  obtain ⟨y',h3,h4⟩ := h
  exact ⟨y',VR.down hs _ _ _ h1 h3,h4⟩
 | .nilIface,_,_,_,h => h
 | .agg cs,x0,x,h0,h => by
  obtain ⟨y,h1,h2⟩ := h0
  obtain ⟨y',h3,h4⟩ := h
  exact ⟨y',VRL.down hs _ _ _ h1 h3,h4⟩
 | .tup cs,x0,x,h0,h => by
  obtain ⟨y,h1,h2⟩ := h0
  obtain ⟨y',h3,h4⟩ := h
  exact ⟨y',VRL.down hs _ _ _ h1 h3,h4⟩
 | .junk,_,_,_,h => h
theorem VRL.down {m m' : Mp} (hs : Sub m m') : ∀ (v : List V) (x0 x : List Value),VRL m v x0 → VRL m' v x → VRL m v x
 | [],_,_,_,h => h
 | v :: vs,x0,x,h0,h => by
  obtain ⟨y,ys,h1,h2,h3⟩ := h0
  obtain ⟨y',ys',h1',h2',h3'⟩ := h
  exact ⟨y',ys',VR.down hs _ _ _ h1 h1',VRL.down hs _ _ _ h2 h2',h3'⟩
end
theorem ER.down {m m' : Mp} (hs : Sub m m') : ∀ {es : List (V × V × Nat)} {y0 ys : List MapEntry},ER m es y0 → ER m' es ys → ER m es ys
 | [],_,_,_,h => h
 | _ :: _,_,_,h0,h => by
  obtain ⟨y,ys,h1,h2,h3,h4,h5⟩ := h0
  obtain ⟨y',ys',h1',h2',h3',h4',h5'⟩ := h
  exact ⟨y',ys',VR.down hs _ _ _ h1 h1',VR.down hs _ _ _ h2 h2',h3',ER.down hs h4 h4',h5'⟩
theorem OR.down {m m' : Mp} (hs : Sub m m') {ob0 ob : Go.Obj} {sh e : Nat} : ∀ {o : Obj},OR P m ob0 sh e o → OR P m' ob sh e o → OR P m ob sh e o
 | .cells ..,h0,h => by
  obtain ⟨c0,f0,h1,h2,h3⟩ := h0
  obtain ⟨c,fzr,h1',h2',h3'⟩ := h
  exact ⟨c,fzr,h1',VRL.down hs _ _ _ h2 h2',h3'⟩
 | .map ..,h0,h => by
  obtain ⟨c0,h1,h2⟩ := h0
  obtain ⟨es',h1',h2'⟩ := h
  exact ⟨es',h1',h2.down hs h2'⟩
 | .mapIter mm _ _ _,h0,h => by
  obtain ⟨z0,r,h1,h2⟩ := h0
  obtain ⟨z0',r',h1',h2'⟩ := h
  refine ⟨z0',r',h1',?_⟩
  cases mm with
  | none => exact h2'
  | some i =>
   obtain ⟨b,sh,e,h3,h4⟩ := h2
   obtain ⟨b',sh',e',h3',h4'⟩ := h2'
   have := hs _ _ h3; rw [this] at h3'; cases h3'
   exact ⟨b,sh,e,h3,h4'⟩
 | .strIter ..,_,h => h
 | .loop ..,h0,h => by
  obtain ⟨L0,a1,a2,a3,a4,a5⟩ := h0
  obtain ⟨L,h1,h2,h3,h4,h5⟩ := h
  exact ⟨L,h1,h2,h3,VRL.down hs _ _ _ a4 h4,h5⟩
 | .dead,_,h => h
theorem HR.shrink {m m' : Mp} {h h' : H} {w w' : World} (hr : HR P m h w) (hr' : HR P m' h' w') (hx : Ext m h w m' h' w') (hk : Kp h h') : HR P m h w' ∧ Ext m h w m h w' := by
 refine ⟨⟨hr.ok,hr.dom,hr.glob,fun i r sh e hm => Nat.lt_of_lt_of_le (hr.blk i r sh e hm) hx.wsize,fun i o hg hl => ?_,hr.inj⟩,⟨Sub.refl m,Nat.le_refl _,hx.wsize,hx.frame,fun _ _ h => h,hx.os,hx.output,hx.tape,fun _ _ h => h⟩⟩
 obtain ⟨r,sh,e,ob0,q1,q2,q3⟩ := hr.obj i o hg hl
 obtain ⟨r',sh',e',ob',p1,p2,p3⟩ := hr'.obj i o (hk.of hg) hl
 have := hx.sub _ _ q1; rw [this] at p1; cases p1
 exact ⟨r,sh,e,ob',q1,p2,q3.down hx.sub p3⟩
def NSp (P : Program) (E : Env) (f : Fn) (args : List V) (h : H) (Q : V → H → Prop) : Prop :=
 args.length ≤ f.ntmps ∧ NC P E none f.body (toL f.ntmps (argF args),h) fun ex s' => Fin f.results Q ex s'.1 s'.2
theorem NSp_sound (hmix : P.follows .mixedOrders = true) {prim : Nat → Option (List V → H → Option (V × H))} (hp : PrimOK P prim) {g : Nat} {fn : Func} {f : Fn} (hg : P.funcs[g]? = some fn) (hc : cFn P fn = some f) {args : List V} {h : H} {R : V → H → Prop} (he : NSp P (envOf P prim) f args h R)
  {m : Mp} {w : World} {xs : List Value} (hr : HR P m h w) (hx : VRL m args xs) (n : Nat) : CallsIn (FF none) n P g xs.toArray w fun e w' => ∃ v h',R v h' ∧ Post P m h w v h' e w' := by
 obtain ⟨hnm,b,c,rs,h1,h2,h3,rfl⟩ := cFn_spec hc
 obtain ⟨hlen,he⟩ := he
 rw [← toL_args hlen] at he
 refine callsIn_of_wp_marks hg h1 trivial ?_
 have cx : Cx P m h w (args ++ List.replicate (fn.ntmps - args.length) undefV) { tmps := xs.toArray ++ Array.replicate (fn.ntmps - xs.toArray.size) undef,defers := [] } := by
  refine ⟨?_,hr⟩
  simp only [TR,Array.toList_append,Array.toList_replicate,List.size_toArray,hx.length]
  exact hx.append (VRL.replicate VR.undef _)
 have hd : DefOK w.heap.size m h w [] := ⟨Nat.le_refl _,[],rfl,List.nodup_nil,by simp⟩
 refine (NC_sound (R' := none) hmix hp he).1 b h2 cx trivial hd fun ex s' m' w' a' hp hat => ?_
 obtain ⟨hex,hp⟩ := hp
 simp only at hp
 split at hp
 ·rename_i vs hrv
  have post : LeavesInM (FF none) n P fn a'.tmps (fun e w' => ∃ v h',R v h' ∧ Post P m h w v h' e w') a'.defers .returning w' := by
   obtain ⟨rs0,e1,e2,e3⟩ := hat.dfr.marks
   refine leaves_marks rs0 a'.defers w' e1 e2 (fun r hr => ⟨(e3 r hr).1,(e3 r hr).2.1⟩) hat.cx.hr hat.ext fun w2 k1 k2 => ?_
   obtain ⟨x,j1,j2⟩ := run_results k1 hat.cx.tr h3 hrv
   exact ⟨x,j1,_,_,hp,m',x,rfl,j2,k1,k2⟩
  cases ex with
  | nrm => exact post
  | ret => exact post
  | exit _ => exact hex.elim
 ·exact hp.elim
theorem nsp_prim (hmix : P.follows .mixedOrders = true) {prim : Nat → Option (List V → H → Option (V × H))} (hp : PrimOK P prim) {g : Nat} {fn : Func} {f : Fn} (hg : P.funcs[g]? = some fn) (hc : cFn P fn = some f) {args : List V} {h : H} {u : V}
  (he : NSp P (envOf P prim) f args h fun v h' => Kp h h' ∧ ∀ m m' x,VR m v x → VR m' u x)
  {m : Mp} {w : World} {xs : List Value} (hr : HR P m h w) (hx : VRL m args xs) (n : Nat) : CallsIn (FF none) n P g xs.toArray w (Post P m h w u h) := by
 refine CallsIn.mono (NSp_sound hmix hp hg hc he hr hx n) fun e w' ⟨v,h',⟨hk,hv⟩,m',x,h1,h2,h3,h4⟩ => ?_
 obtain ⟨a,b⟩ := hr.shrink h3 h4 hk
 exact ⟨m,x,h1,hv _ _ _ h2,a,b⟩
theorem NC.weak {P : Program} {E : Env} {ro : Option Nat} {c : C} {s : St} {R R' : Ex → St → Prop} (h : NC P E ro c s R) (hm : ∀ ex s,R ex s → R' ex s) : NC P E ro c s R' := by
 induction h generalizing R' with
 | det h1 h2 h3 => exact .det h1 h2 (hm _ _ h3)
 | seq h1 h2 h3 ih1 ih2 => exact .seq h1 (fun s' hs => ih2 s' hs hm) (fun ex s' hn hs => hm _ _ (h3 ex s' hn hs))
 | condT h1 h2 ih => exact .condT h1 (ih hm)
 | condF h1 h2 ih => exact .condF h1 (ih hm)
 | block h1 h2 h3 h4 ih =>
  refine .block h1 (fun s' hs => hm _ _ (h2 s' hs)) (fun s' hs => hm _ _ (h3 s' hs)) fun i s' hs => ?_
  have := h4 i s' hs
  split
  ·rename_i hid; rw [if_pos hid] at this; exact hm _ _ this
  ·rename_i hid; rw [if_neg hid] at this; exact hm _ _ this
 | loop h1 h2 h3 ih1 ih2 => exact .loop h1 (fun s' hs => ih2 s' hs hm) (fun ex s' hn hs => hm _ _ (h3 ex s' hn hs))
 | next h1 h2 h3 h4 => exact .next h1 h2 h3 fun p hp => by obtain ⟨s',a,b⟩ := h4 p hp; exact ⟨s',a,hm _ _ b⟩
theorem NSp.mono {E : Env} {f : Fn} {args : List V} {h : H} {Q Q' : V → H → Prop} (s : NSp P E f args h Q) (hq : ∀ v h',Q v h' → Q' v h') : NSp P E f args h Q' := by
 refine ⟨s.1,NC.weak s.2 fun ex s' hs => ?_⟩
 obtain ⟨a,b⟩ := hs
 refine ⟨a,?_⟩
 split at b
 ·exact hq _ _ b
 ·exact b
section
variable {E : Env} {ro : Option Nat} {L : Nat} {ρ : Nat → V} {h : H} {R R' : Ex → St → Prop} {c : C}
theorem NC.run {Q : Ex → List V → H → Prop} (hnl : ∀ b,c ≠ .loop b) (hx : X P E ro L [.c c] ρ h Q) (hq : ∀ ex T h',Q ex T h' → R ex (T,h')) : NC P E ro c (toL L ρ,h) R := by
 obtain ⟨ex',T',h',e,q⟩ := hx
 simp only [EK] at e
 cases hc : EC P E ro c (toL L ρ,h) with
 | none => rw [hc] at e; simp at e
 | some r =>
  obtain ⟨ex,s⟩ := r
  rw [hc] at e
  simp only [Option.bind_some,Option.some.injEq,Prod.mk.injEq] at e
  obtain ⟨rfl,rfl⟩ := e
  exact .det hnl hc (hq _ _ _ q)
end
end Go.AM
namespace Go.AM
variable {P : Program} {E : Env} {ro : Option Nat} {L : Nat} {K : List Fr} {ρ : Nat → V} {h : H} {Q : Po}
theorem XX_split {c : C} {K : List Fr} {T : List V} {Q : Po} (hx : ∃ ex s',EC P E ro c (T,h) = some (ex,s') ∧ XX P E ro K ex s'.1 s'.2 Q) : XX P E ro (.c c :: K) .nrm T h Q := by
 obtain ⟨ex,s',h1,ex',T',h',h2,q⟩ := hx
 exact ⟨ex',T',h',by simp only [EK,h1,Option.bind_some]; exact h2,q⟩
theorem X_range {f : A} {ps : List Nat} {as b : C} {g : Nat} {fs cs : List V} (hf : f.ev (toL L ρ) = some (.func g fs cs)) (hro : roOk h ro = true)
  (sp : Sp P E (.func g fs cs) [.yield h.size] (h.psh (.loop .ready none (toL L ρ) ps as b)) fun _ h2 => ∃ st pend ps' as' b' T',h2.get h.size = some (.loop st pend T' ps' as' b') ∧ st ≠ .busy ∧
   ∀ oe : Obj,(∀ vs ty op ro fz,oe ≠ .cells vs ty op ro fz) →
   (match pend with
    | none => X P E ro L K ρ (h2.set h.size oe) Q
    | some .ret => XX P E ro K .ret (toL L ρ) (h2.set h.size oe) Q
    | some (.exit id) => XQ P E ro L (.exit id) K ρ (h2.set h.size oe) Q
    | some _ => False)) : X P E ro L (.c (.range f ps as b) :: K) ρ h Q := by
 obtain ⟨v,h2,e,st,pend,ps',as',b',T',hg,hst,hm⟩ := sp
 have hm := hm (.loop .exhausted pend T' ps' as' b') (by intro _ _ _ _ _ e; cases e)
 refine XX_split ?_
 rw [EC_range f ps as b (toL L ρ) h hro hf,e]
 simp only [rangeEnd,hg,hst,if_false]
 cases pend with
 | none => exact ⟨_,_,rfl,hm⟩
 | some c =>
  cases c with
  | ret => exact ⟨_,_,rfl,hm⟩
  | exit id => exact ⟨_,_,rfl,hm⟩
  | _ => exact hm.elim
theorem Sp_yield {l : Nat} {st : LoopState} {pend pend' : Option C} {ps : List Nat} {as b : C} {args : List V} {ρ' : Nat → V} {Q : V → H → Prop} (hg : h.get l = some (.loop st pend (toL L ρ) ps as b)) (hl : args.length = ps.length) (hz : zipSet (toL L ρ) ps args = toL L ρ')
  (hx : X P E (some l) L [.c as] ρ' h fun ex T1 h1 => ex = .nrm ∧ h1.get l = some (.loop .ready pend' (toL L ρ) ps as b) ∧ ∃ ρ1,T1 = toL L ρ1 ∧
   X P E (some l) L [.c b] ρ1 (h1.set l (.loop .busy pend' (toL L ρ) ps as b)) fun ex T2 h2 => h2.get l = some (.loop .busy pend' (toL L ρ) ps as b) ∧
    match ex with
    | .nrm => Q (.bool true) (h2.set l (.loop .ready none (toL L ρ) ps as b))
    | .ret => Q (.bool false) (h2.set l (.loop .done (some .ret) (toL L ρ) ps as b))
    | .exit id => Q (.bool false) (h2.set l (.loop .done (some (.exit id)) (toL L ρ) ps as b))) : Sp P E (.yield l) args h Q := by
 obtain ⟨ex,T1,h1,e1,rfl,hg1,ρ1,rfl,ex2,T2,h2,e2,hg2,hm⟩ := hx
 have c1 : EC P E (some l) as (toL L ρ',h) = some (.nrm,(toL L ρ1,h1)) := by
  simp only [EK] at e1
  cases hc : EC P E (some l) as (toL L ρ',h) with
  | none => rw [hc] at e1; simp at e1
  | some r => obtain ⟨a,s⟩ := r; rw [hc] at e1; simpa using e1
 have c2 : EC P E (some l) b (toL L ρ1,h1.set l (.loop .busy pend' (toL L ρ) ps as b)) = some (ex2,(T2,h2)) := by
  simp only [EK] at e2
  cases hc : EC P E (some l) b (toL L ρ1,h1.set l (.loop .busy pend' (toL L ρ) ps as b)) with
  | none => rw [hc] at e2; simp at e2
  | some r => obtain ⟨a,s⟩ := r; rw [hc] at e2; simpa using e2
 unfold Sp
 rw [AP_yield]
 unfold RND
 simp only [hg,hl,if_true,hz,c1,hg1,c2,hg2]
 cases ex2 with
 | nrm => exact ⟨_,_,rfl,hm⟩
 | ret => exact ⟨_,_,rfl,hm⟩
 | exit id => exact ⟨_,_,rfl,hm⟩
theorem zip1 (L : Nat) (ρ : Nat → V) (p : Nat) (v : V) : zipSet (toL L ρ) [p] [v] = toL L (up ρ p v) := by simp only [zipSet,toL_set]
theorem zip2 (L : Nat) (ρ : Nat → V) (p q : Nat) (v w : V) : zipSet (toL L ρ) [p,q] [v,w] = toL L (up (up ρ p v) q w) := by simp only [zipSet,toL_set]
structure KB (b : Nat) (h h' : H) : Prop where
 size : h.size ≤ h'.size
 get : ∀ i o,h.get i = some o → i ≠ b → (∀ vs,o ≠ .cells vs 30 true false none) → h'.get i = some o
theorem KB.refl (b : Nat) (h : H) : KB b h h := ⟨Nat.le_refl _,fun _ _ hg _ _ => hg⟩
theorem KB.kp {b : Nat} {h h' : H} (k : Kp h h') : KB b h h' := ⟨k.size,fun _ _ hg _ _ => k.of hg⟩
theorem KB.trans {b : Nat} {h1 h2 h3 : H} (x : KB b h1 h2) (y : KB b h2 h3) : KB b h1 h3 := ⟨Nat.le_trans x.size y.size,fun i o hg hb hn => y.get i o (x.get i o hg hb hn) hb hn⟩
theorem Sp_round {b l : Nat} {ps : List Nat} {as body : C} {args : List V} {ρ' : Nat → V} {R : H → Prop} {h0 hh : H} (g0 : h0.get l = some (.loop .ready none (toL L ρ) ps as body)) (kb : KB b h0 hh) (hlb : l ≠ b) (hl : args.length = ps.length) (hz : zipSet (toL L ρ) ps args = toL L ρ')
  (hx : ∀ bz rd : Obj,bz = .loop .busy none (toL L ρ) ps as body → rd = .loop .ready none (toL L ρ) ps as body → X P E (some l) L [.c as] ρ' hh fun ex T1 h1 => ex = .nrm ∧ KB b hh h1 ∧ ∃ ρ1,T1 = toL L ρ1 ∧
   X P E (some l) L [.c body] ρ1 (h1.set l bz) fun ex _ h2 => ex = .nrm ∧ KB b (h1.set l bz) h2 ∧ R (h2.set l rd)) :
  Sp P E (.yield l) args hh fun v h' => v = .bool true ∧ KB b h0 h' ∧ R h' := by
 have noc : ∀ vs,Obj.loop .ready none (toL L ρ) ps as body ≠ .cells vs 30 true false none := by intro vs e; cases e
 have noc2 : ∀ vs,Obj.loop .busy none (toL L ρ) ps as body ≠ .cells vs 30 true false none := by intro vs e; cases e
 have gl := kb.get _ _ g0 hlb noc
 refine Sp_yield (pend' := none) gl hl hz ?_
 obtain ⟨ex,T1,h1,e1,q1,kb1,ρ1,q2,ex2,T2,h2,e2,q3,kb2,hr⟩ := hx _ _ rfl rfl
 refine ⟨ex,T1,h1,e1,q1,kb1.get _ _ gl hlb noc,ρ1,q2,ex2,T2,h2,e2,?_⟩
 have gl1 := kb1.get _ _ gl hlb noc
 have gb := hset_same (H.get_lt gl1) (.loop .busy none (toL L ρ) ps as body)
 have gl2 := kb2.get _ _ gb hlb noc2
 refine ⟨gl2,?_⟩
 rw [q3]
 refine ⟨rfl,⟨?_,fun i o hg hi hn => ?_⟩,hr⟩
 ·have s1 := kb.size; have s2 := kb1.size; have s3 := kb2.size
  rw [H.set_size] at s3 ⊢; omega
 ·by_cases hil : l = i
  ·subst hil
   rw [g0] at hg; cases hg
   exact hset_same (H.get_lt gl2) _
  ·rw [hset_other (H.get_lt gl2) hil]
   refine kb2.get _ _ ?_ hi hn
   rw [hset_other (H.get_lt gl1) hil]
   exact kb1.get _ _ (kb.get _ _ hg hi hn) hi hn
end Go.AM
namespace Go.AM
variable {P : Program} {E : Env} {ro : Option Nat}
def mos : List (V × V) → Nat → List (V × V × Nat)
 | [],_ => []
 | x :: r,i => (x.1,x.2,i) :: mos r (i + 1)
def mo (l : List (V × V)) : Obj := .map (mos l 0) l.length
theorem mos_length : ∀ (l : List (V × V)) (k : Nat),(mos l k).length = l.length
 | [],_ => rfl
 | _ :: r,k => by simp [mos,mos_length r]
theorem mos_append : ∀ (l : List (V × V)) (x : V × V) (k : Nat),mos (l ++ [x]) k = mos l k ++ [(x.1,x.2,k + l.length)]
 | [],_,_ => rfl
 | _ :: r,x,k => by simp [mos,mos_append r,Nat.add_assoc,Nat.add_comm 1]
theorem mos_mem : ∀ {l : List (V × V)} {k : Nat} {e : V × V × Nat},e ∈ mos l k → ∃ i,l[i]? = some (e.1,e.2.1) ∧ e.2.2 = k + i
 | [],_,_,h => by cases h
 | x :: r,k,e,h => by
  rcases List.mem_cons.1 h with rfl | h
  ·exact ⟨0,rfl,rfl⟩
  ·obtain ⟨i,h1,h2⟩ := mos_mem h
   exact ⟨i + 1,by simpa using h1,by omega⟩
theorem mem_mos : ∀ {l : List (V × V)} {k i : Nat} {x : V × V},l[i]? = some x → (x.1,x.2,k + i) ∈ mos l k
 | [],_,_,_,h => by simp at h
 | y :: r,k,0,x,h => by simp at h; subst h; exact List.mem_cons_self
 | y :: r,k,i + 1,x,h => by
  have := mem_mos (l := r) (k := k + 1) (i := i) (x := x) (by simpa using h)
  rw [show k + (i + 1) = k + 1 + i by omega]
  exact List.mem_cons_of_mem _ this
theorem mos_find : ∀ {l : List (V × V)} {k i : Nat} {x : V × V},l[i]? = some x → (mos l k).find? (fun e => e.2.2 == k + i) = some (x.1,x.2,k + i)
 | [],_,_,_,h => by simp at h
 | y :: r,k,0,x,h => by simp at h; subst h; simp [mos]
 | y :: r,k,i + 1,x,h => by
  have := mos_find (l := r) (k := k + 1) (i := i) (x := x) (by simpa using h)
  rw [show k + (i + 1) = k + 1 + i by omega]
  simp only [mos,List.find?_cons]
  rw [show (k == k + 1 + i) = false by simp; omega]
  exact this
structure It (h : H) (mp it : Nat) (l : List (V × V)) (seen : List Nat) : Prop where
 map : h.get mp = some (mo l)
 itr : h.get it = some (.mapIter (some mp) l.length seen l.length)
theorem It.parts {h : H} {mp it : Nat} {l : List (V × V)} {seen : List Nat} (_ : It h mp it l seen) :
  (!seen.isEmpty && !(mos l 0).isEmpty && (mos l 0).all (fun e => decide (e.2.2 ≥ l.length))) = false ∧
  ((mos l 0).filter fun e => !seen.contains e.2.2).filter (fun e => decide (e.2.2 < l.length)) = (mos l 0).filter (fun e => !seen.contains e.2.2) ∧
  ((mos l 0).filter fun e => !seen.contains e.2.2).filter (fun e => decide (e.2.2 ≥ l.length)) = [] := by
 have hlt : ∀ e ∈ mos l 0,e.2.2 < l.length := fun e he => by
  obtain ⟨i,h1,h2⟩ := mos_mem he
  have := (List.getElem?_eq_some_iff.1 h1).1
  omega
 refine ⟨?_,?_,?_⟩
 ·cases l with
  | nil => simp [mos]
  | cons x r =>
   have := hlt (x.1,x.2,0) (by simp [mos])
   simp only [Bool.and_eq_false_iff]
   exact .inr (by simp [mos])
 ·refine List.filter_eq_self.2 fun e he => ?_
  simpa using hlt e (List.mem_filter.1 he).1
 ·refine List.filter_eq_nil_iff.2 fun e he => ?_
  have := hlt e (List.mem_filter.1 he).1
  simpa using this
variable {L : Nat} {ρ : Nat → V} {h : H} {R : Ex → St → Prop}
theorem NC.nextR {d e x mp it : Nat} {l : List (V × V)} {seen : List Nat} {pre pre' : Nat} {ns ns' : List Nat} (hd : d < L) (hx : x < L) (hv : ρ x = .ptr (some (it,0))) (hi : It h mp it l seen)
  (hend : (∀ i,i < l.length → i ∈ seen) → R .nrm (toL L (up (up ρ d (.tup [.bool false])) e (.bool false)),h))
  (hstep : ∀ i k v,l[i]? = some (k,v) → i ∉ seen → R .nrm (toL L (up (up ρ d (.tup [.bool true,k,v])) e (.bool true)),h.set it (.mapIter (some mp) l.length (seen ++ [i]) l.length))) :
  NC P E ro (.region [⟨some d,.next false (.t x),none,pre,ns⟩,⟨some e,.extract (.t d) 0,none,pre',ns'⟩]) (toL L ρ,h) R := by
 obtain ⟨p1,p2,p3⟩ := hi.parts
 have hlen := mos_length l 0
 cases hl : (mos l 0).filter fun e => !seen.contains e.2.2 with
 | nil =>
  have hall : ∀ i,i < l.length → i ∈ seen := by
   intro i hlt
   have := List.filter_eq_nil_iff.1 hl _ (mem_mos (k := 0) (List.getElem?_eq_getElem hlt))
   simpa using this
  refine .det (by intro b e; cases e) (s' := (toL L (up (up ρ d (.tup [.bool false])) e (.bool false)),h)) ?_ (hend hall)
  rw [EC_region]
  have e1 : evK P (toL L ρ) h (.next false (.t x)) = some (.eff (.tup [.bool false]) h) := by
   simp only [evK,ev_t hx,hv,hi.itr,hi.map,mo,p1]
   simp only [Bool.false_eq_true,if_false,hl,List.filter_nil]
  have e2 : evK P (toL L (up ρ d (.tup [.bool false]))) h (.extract (.t d) 0) = some (.pur (.bool false)) := by
   simp only [evK,ev_t hd,up_app,if_true]; rfl
  simp only [evOs_cons,evO_step,wantV_none,if_true,e1,stepR,putV_some,Option.bind_some,e2,evOs_nil,Option.map_some]
 | cons e0 r0 =>
  refine .next (x := .t x) (l := (e0 :: r0).map fun e => (.tup [.bool true,e.1,e.2.1],h.set it (.mapIter (some mp) l.length (seen ++ [e.2.2]) l.length))) rfl rfl ?_ ?_
  ·unfold nexts
   simp only [ev_t hx,hv,hi.itr,hi.map,mo,p1]
   simp only [Bool.false_eq_true,if_false]
   rw [p2,p3,hl]
   simp
  ·intro p hp
   obtain ⟨e',he',rfl⟩ := List.mem_map.1 hp
   rw [← hl] at he'
   obtain ⟨hm,hns⟩ := List.mem_filter.1 he'
   obtain ⟨i,h1,h2⟩ := mos_mem hm
   rw [Nat.zero_add] at h2
   refine ⟨(toL L (up (up ρ d (.tup [.bool true,e'.1,e'.2.1])) e (.bool true)),h.set it (.mapIter (some mp) l.length (seen ++ [e'.2.2]) l.length)),?_,?_⟩
   ·have e2 : ∀ h',evK P (toL L (up ρ d (.tup [.bool true,e'.1,e'.2.1]))) h' (.extract (.t d) 0) = some (.pur (.bool true)) := by
     intro h'
     simp only [evK,ev_t hd,up_app,if_true]; rfl
    simp only [evOs_cons,evO_step,wantV_none,if_true,putV_some,e2,stepR,evOs_nil,Option.bind_some]
   ·rw [h2]
    exact hstep i _ _ h1 (by rw [h2] at hns; simpa using hns)
theorem NC.maps {d e x q mp it : Nat} {l : List (V × V)} {pre pre' : Nat} {ns ns' : List Nat} {B : C} (hd : d < L) (he : e < L) (hx : x < L)
  (Inv : List Nat → (Nat → V) → H → Prop)
  (hI : ∀ {seen ρ h},Inv seen ρ h → ρ x = .ptr (some (it,0)) ∧ It h mp it l seen)
  (hend : ∀ {seen ρ h},Inv seen ρ h → (∀ i,i < l.length → i ∈ seen) → R (.exit q) (toL L (up (up ρ d (.tup [.bool false])) e (.bool false)),h))
  (hstep : ∀ {seen ρ h},Inv seen ρ h → seen.Nodup → (∀ i ∈ seen,i < l.length) → ∀ i k v,l[i]? = some (k,v) → i ∉ seen →
   NC P E ro B (toL L (up (up ρ d (.tup [.bool true,k,v])) e (.bool true)),h.set it (.mapIter (some mp) l.length (seen ++ [i]) l.length))
    fun ex s => match ex with
     | .nrm => ∃ ρ' h',s = (toL L ρ',h') ∧ Inv (seen ++ [i]) ρ' h'
     | ex => R ex s) :
  ∀ (n : Nat) {seen ρ h},Inv seen ρ h → seen.Nodup → (∀ i ∈ seen,i < l.length) → seen.length + n = l.length →
   NC P E ro (.loop (.seq (.region [⟨some d,.next false (.t x),none,pre,ns⟩,⟨some e,.extract (.t d) 0,none,pre',ns'⟩]) (.seq (.cond (.t e) .skip (.exit q)) B))) (toL L ρ,h) R := by
 intro n
 induction n with
 | zero =>
  intro seen ρ h inv nd lt hn
  obtain ⟨h1,h2⟩ := hI inv
  have hfull : ∀ i k v,l[i]? = some (k,v) → i ∉ seen → False := by
   intro i k v hi hns
   have hi' := (List.getElem?_eq_some_iff.1 hi).1
   have hsub : (i :: seen) ⊆ List.range l.length := by
    intro j hj
    rcases List.mem_cons.1 hj with rfl | hj
    ·simpa using hi'
    ·simpa using lt j hj
   have := (List.nodup_cons.2 ⟨hns,nd⟩).length_le_of_subset hsub
   simp at this; omega
  refine .loop (M := fun ex s => ex = .exit q ∧ R ex s) (.seq (M := fun ex s => ex = .nrm ∧ s = (toL L (up (up ρ d (.tup [.bool false])) e (.bool false)),h) ∧ ∀ i,i < l.length → i ∈ seen) (NC.nextR hd hx h1 h2 (fun ha => ⟨rfl,rfl,ha⟩) fun i k v hi hns => (hfull i k v hi hns).elim) ?_ ?_) ?_ ?_
  ·rintro s' ⟨_,rfl,ha⟩
   refine .seq (M := fun ex s => ex = .exit q ∧ R ex s) (.condF (by simp only [ev_t he,up_app,if_true]) (.det (by intro b e; cases e) (EC_exit q _) ⟨rfl,hend inv ha⟩)) ?_ ?_
   ·rintro s' ⟨h,_⟩; cases h
   ·rintro ex s' _ h; exact h
  ·rintro ex s' hne ⟨h,_⟩; exact (hne h).elim
  ·rintro s' ⟨h,_⟩; cases h
  ·rintro ex s' _ ⟨_,h⟩; exact h
 | succ n ih =>
  intro seen ρ h inv nd lt hn
  obtain ⟨h1,h2⟩ := hI inv
  refine .loop (M := fun ex s => match ex with
    | .nrm => ∃ i ρ' h',i ∉ seen ∧ i < l.length ∧ s = (toL L ρ',h') ∧ Inv (seen ++ [i]) ρ' h'
    | ex => R ex s)
   (.seq (M := fun ex s => ex = .nrm ∧ ((s = (toL L (up (up ρ d (.tup [.bool false])) e (.bool false)),h) ∧ ∀ i,i < l.length → i ∈ seen) ∨
    ∃ i k v,l[i]? = some (k,v) ∧ i ∉ seen ∧ s = (toL L (up (up ρ d (.tup [.bool true,k,v])) e (.bool true)),h.set it (.mapIter (some mp) l.length (seen ++ [i]) l.length))))
    (NC.nextR hd hx h1 h2 (fun ha => ⟨rfl,.inl ⟨rfl,ha⟩⟩) fun i k v hi hns => ⟨rfl,.inr ⟨i,k,v,hi,hns,rfl⟩⟩) ?_ ?_) ?_ ?_
  ·rintro s' ⟨_,⟨rfl,ha⟩ | ⟨i,k,v,hi,hns,rfl⟩⟩
   ·refine .seq (M := fun ex s => ex = .exit q ∧ R ex s) (.condF (by simp only [ev_t he,up_app,if_true]) (.det (by intro b e; cases e) (EC_exit q _) ⟨rfl,hend inv ha⟩)) ?_ ?_
    ·rintro s' ⟨h,_⟩; cases h
    ·rintro ex s' _ ⟨rfl,h⟩; exact h
   ·refine .seq (M := fun ex s => ex = .nrm ∧ s = (toL L (up (up ρ d (.tup [.bool true,k,v])) e (.bool true)),h.set it (.mapIter (some mp) l.length (seen ++ [i]) l.length))) (.condT (by simp only [ev_t he,up_app,if_true]) (.det (by intro b e; cases e) (EC_skip _) ⟨rfl,rfl⟩)) ?_ ?_
    ·rintro s' ⟨_,rfl⟩
     have hs := hstep inv nd lt i k v hi hns
     refine NC.weak hs fun ex s => ?_
     cases ex with
     | nrm => rintro ⟨ρ',h',hh,hi'⟩; exact ⟨i,ρ',h',hns,(List.getElem?_eq_some_iff.1 hi).1,hh,hi'⟩
     | ret => exact id
     | exit _ => exact id
    ·rintro ex s' hne ⟨h,_⟩; exact (hne h).elim
  ·rintro ex s' hne ⟨h,_⟩; exact (hne h).elim
  ·rintro s' ⟨i,ρ',h',hns,hlt,rfl,inv'⟩
   refine ih inv' ?_ ?_ ?_
   ·exact List.nodup_append.2 ⟨nd,by simp,by intro a ha b hb; simp at hb; subst hb; intro e; subst e; exact hns ha⟩
   ·intro j hj
    rcases List.mem_append.1 hj with hj | hj
    ·exact lt j hj
    ·simp at hj; subst hj; exact hlt
   ·simp; omega
  ·intro ex s' hne hm
   cases ex with
   | nrm => exact (hne rfl).elim
   | ret => exact hm
   | exit _ => exact hm
theorem NC.preK : ∀ (as : List C) (c : C) (s : St) (ex : Ex) (s' : St) (R : Ex → St → Prop),(∀ a ∈ as, ∀ b,a ≠ .loop b) → EK P E ro (as.map .c) .nrm s = some (ex,s') → (ex = .nrm → NC P E ro c s' R) → (ex ≠ .nrm → R ex s') → NC P E ro (as.foldr .seq c) s R
 | [],c,s,ex,s',R,_,he,h1,_ => by
  simp only [List.map_nil,EK,Option.some.injEq,Prod.mk.injEq] at he
  obtain ⟨rfl,rfl⟩ := he
  exact h1 rfl
 | a :: as,c,s,ex,s',R,hl,he,h1,h2 => by
  simp only [List.map_cons,EK] at he
  cases ha : EC P E ro a s with
  | none => rw [ha] at he; simp at he
  | some r =>
   obtain ⟨e1,s1⟩ := r
   rw [ha] at he
   simp only [Option.bind_some] at he
   have hnl := hl a List.mem_cons_self
   cases e1 with
   | nrm =>
    refine .seq (M := fun ex s => ex = .nrm ∧ s = s1) (.det hnl ha ⟨rfl,rfl⟩) ?_ ?_
    ·rintro s2 ⟨_,rfl⟩
     exact NC.preK as c _ ex s' R (fun a h => hl a (List.mem_cons_of_mem _ h)) he h1 h2
    ·rintro ex s2 hne ⟨h,_⟩; exact (hne h).elim
   | exit id =>
    have : EK P E ro (as.map .c) (.exit id) s1 = some (.exit id,s1) := by
     clear he hl
     induction as with
     | nil => rfl
     | cons b bs ih => simpa only [List.map_cons,EK] using ih
    rw [this] at he; cases he
    refine .seq (M := fun ex s => ex = .exit id ∧ s = s') (.det hnl ha ⟨rfl,rfl⟩) ?_ ?_
    ·rintro s2 ⟨h,_⟩; cases h
    ·rintro ex s2 hne ⟨rfl,rfl⟩; exact h2 (by simp)
   | ret =>
    have : EK P E ro (as.map .c) .ret s1 = some (.ret,s1) := by
     clear he hl
     induction as with
     | nil => rfl
     | cons b bs ih => simpa only [List.map_cons,EK] using ih
    rw [this] at he; cases he
    refine .seq (M := fun ex s => ex = .ret ∧ s = s') (.det hnl ha ⟨rfl,rfl⟩) ?_ ?_
    ·rintro s2 ⟨h,_⟩; cases h
    ·rintro ex s2 hne ⟨rfl,rfl⟩; exact h2 (by simp)
theorem NC.pre {as : List C} {c : C} {L : Nat} {ρ : Nat → V} {h : H} {R : Ex → St → Prop} (hl : ∀ a ∈ as, ∀ b,a ≠ .loop b)
  (hx : X P E ro L (as.map .c) ρ h fun ex T h' => match ex with | .nrm => NC P E ro c (T,h') R | ex => R ex (T,h')) : NC P E ro (as.foldr .seq c) (toL L ρ,h) R := by
 obtain ⟨ex,T',h',e,q⟩ := hx
 refine NC.preK as c _ ex (T',h') R hl e ?_ ?_
 ·rintro rfl; exact q
 ·intro hne
  cases ex with
  | nrm => exact (hne rfl).elim
  | ret => exact q
  | exit _ => exact q
theorem NC.blk {id : Nat} {b : C} {s : St} {R : Ex → St → Prop} (h : NC P E ro b s fun ex s' => match ex with | .exit i => if i = id then R .nrm s' else R (.exit i) s' | ex => R ex s') : NC P E ro (.block id b) s R :=
 .block h (fun _ h => h) (fun _ h => h) (fun _ _ h => h)
theorem NC.rnd {b : C} {s : St} {R : Ex → St → Prop} (h : NC P E ro b s fun ex s' => match ex with | .nrm => NC P E ro (.loop b) s' R | ex => R ex s') : NC P E ro (.loop b) s R :=
 .loop h (fun _ h => h) (fun ex s' hne hm => by cases ex with
  | nrm => exact (hne rfl).elim
  | ret => exact hm
  | exit _ => exact hm)
theorem NC.sq {a b : C} {s : St} {R : Ex → St → Prop} (h : NC P E ro a s fun ex s' => match ex with | .nrm => NC P E ro b s' R | ex => R ex s') : NC P E ro (.seq a b) s R :=
 .seq h (fun _ h => h) (fun ex s' hne hm => by cases ex with
  | nrm => exact (hne rfl).elim
  | ret => exact hm
  | exit _ => exact hm)
end Go.AM
namespace Go.AM.Sc
abbrev NP := Int × Int
def topI (n : Int) : Bool := n == 1 || n == 2
inductive Rch (N : List NP) : Int → Prop where
 | top {c : Int} : topI c = true → Rch N c
 | step {x : NP} : x ∈ N → topI x.1 = false → Rch N x.2 → Rch N x.1
structure Grf (N : List NP) : Prop where
 nd : (N.map (·.1)).Nodup
 one : (1 : Int) ∈ N.map (·.1)
 two : (2 : Int) ∈ N.map (·.1)
theorem Grf.uniq {N : List NP} (g : Grf N) {x y : NP} (hx : x ∈ N) (hy : y ∈ N) (e : x.1 = y.1) : x = y := by
 have : ∀ (N : List NP),(N.map (·.1)).Nodup → x ∈ N → y ∈ N → x = y := by
  intro N
  induction N with
  | nil => intro _ h; cases h
  | cons z N ih =>
   intro nd h1 h2
   simp only [List.map_cons,List.nodup_cons] at nd
   rcases List.mem_cons.1 h1 with p | p <;> rcases List.mem_cons.1 h2 with q | q
   ·rw [p,q]
   ·exact (nd.1 (by rw [← p,e]; exact List.mem_map.2 ⟨y,q,rfl⟩)).elim
   ·exact (nd.1 (by rw [← q,← e]; exact List.mem_map.2 ⟨x,p,rfl⟩)).elim
   ·exact ih nd.2 p q
 exact this N g.nd hx hy
theorem Grf.tops {N : List NP} (g : Grf N) {c : Int} (h : topI c = true) : c ∈ N.map (·.1) := by
 simp only [topI,Bool.or_eq_true,beq_iff_eq] at h
 rcases h with rfl | rfl
 ·exact g.one
 ·exact g.two
theorem Grf.rch {N : List NP} (g : Grf N) {c : Int} (h : Rch N c) : c ∈ N.map (·.1) := by
 cases h with
 | top h => exact g.tops h
 | step hx _ _ => exact List.mem_map.2 ⟨_,hx,rfl⟩
structure Bfs (N : List NP) (W Vs : List Int) : Prop where
 nd : (W ++ Vs).Nodup
 sub : ∀ c ∈ W ++ Vs,c ∈ N.map (·.1)
 rch : ∀ c ∈ W ++ Vs,Rch N c
 tops : ∀ c,topI c = true → c ∈ W ++ Vs
 cl : ∀ x ∈ N,x.2 ∈ Vs → topI x.1 = false → x.1 ∈ W ++ Vs
 from_ : ∀ c ∈ W ++ Vs,topI c = false → ∃ x ∈ N,x.1 = c ∧ x.2 ∈ Vs
theorem Bfs.begin {N : List NP} (g : Grf N) : Bfs N [1,2] [] where
 nd := by decide
 sub := fun c hc => by
  simp at hc
  rcases hc with rfl | rfl
  ·exact g.one
  ·exact g.two
 rch := fun c hc => by
  simp at hc
  exact .top (by rcases hc with rfl | rfl <;> rfl)
 tops := fun c hc => by
  simp only [topI,Bool.or_eq_true,beq_iff_eq] at hc
  simpa using hc
 cl := fun x _ h => by cases h
 from_ := fun c hc ht => by
  simp at hc
  rcases hc with rfl | rfl <;> cases ht
theorem Bfs.le {N : List NP} {W Vs : List Int} (b : Bfs N W Vs) : W.length + Vs.length ≤ N.length := by
 have := b.nd.length_le_of_subset (l₂ := N.map (·.1)) (fun c hc => b.sub c hc)
 simpa using this
theorem Bfs.step {N : List NP} (g : Grf N) {w : Int} {W Vs ks L : List Int} (b : Bfs N (w :: W) Vs) (hk : ks.Nodup) (hks : ∀ c,c ∈ ks ↔ ∃ x ∈ N,x.1 = c ∧ topI c = false ∧ x.2 = w) (hp : L.Perm ks) : Bfs N (W ++ L) (w :: Vs) := by
 have hmem : ∀ c,c ∈ W ++ L ++ (w :: Vs) ↔ c ∈ (w :: W ++ Vs) ∨ c ∈ ks := by
  intro c
  have := hp.mem_iff (a := c)
  simp only [List.mem_append,List.mem_cons,this,List.cons_append]
  constructor
  ·rintro ((h | h) | h | h)
   ·exact .inl (.inr (.inl h))
   ·exact .inr h
   ·exact .inl (.inl h)
   ·exact .inl (.inr (.inr h))
  ·rintro ((h | h | h) | h)
   ·exact .inr (.inl h)
   ·exact .inl (.inl h)
   ·exact .inr (.inr h)
   ·exact .inl (.inr h)
 have hwv : w ∉ Vs := by
  have := b.nd
  simp only [List.cons_append,List.nodup_cons,List.mem_append,not_or] at this
  exact this.1.2
 have hdis : ∀ c ∈ ks,c ∉ (w :: W ++ Vs) := by
  intro c hc hcw
  obtain ⟨x,hx,rfl,ht,rfl⟩ := (hks c).1 hc
  obtain ⟨y,hy,e,hv⟩ := b.from_ _ hcw ht
  have := g.uniq hx hy e.symm
  subst this
  exact hwv hv
 refine ⟨?_,fun c hc => ?_,fun c hc => ?_,fun c hc => (hmem c).2 (.inl (b.tops c hc)),fun x hx hv ht => ?_,fun c hc ht => ?_⟩
 ·have hperm : (W ++ L ++ (w :: Vs)).Perm ((w :: W ++ Vs) ++ ks) := by
   have h1 : (W ++ L ++ (w :: Vs)).Perm (W ++ ks ++ (w :: Vs)) := (hp.append_left W).append_right _
   refine h1.trans ?_
   rw [List.append_assoc]
   have h2 : (ks ++ (w :: Vs)).Perm ((w :: Vs) ++ ks) := List.perm_append_comm
   refine (h2.append_left W).trans ?_
   rw [← List.append_assoc]
   refine List.Perm.append_right ks ?_
   exact List.perm_middle
  refine hperm.nodup_iff.2 (List.nodup_append.2 ⟨b.nd,hk,fun a ha c hc e => ?_⟩)
  subst e
  exact hdis a hc ha
 ·rcases (hmem c).1 hc with h | h
  ·exact b.sub c h
  ·obtain ⟨x,hx,rfl,_⟩ := (hks c).1 h
   exact List.mem_map.2 ⟨x,hx,rfl⟩
 ·rcases (hmem c).1 hc with h | h
  ·exact b.rch c h
  ·obtain ⟨x,hx,rfl,ht,rfl⟩ := (hks c).1 h
   exact .step hx ht (b.rch _ (by simp))
 ·rcases List.mem_cons.1 hv with h | h
  ·exact (hmem _).2 (.inr ((hks _).2 ⟨x,hx,rfl,ht,h⟩))
  ·exact (hmem _).2 (.inl (b.cl x hx h ht))
 ·rcases (hmem c).1 hc with h | h
  ·obtain ⟨x,hx,e,hv⟩ := b.from_ c h ht
   exact ⟨x,hx,e,List.mem_cons_of_mem _ hv⟩
  ·obtain ⟨x,hx,e,_,hv⟩ := (hks c).1 h
   exact ⟨x,hx,e,by rw [hv]; exact List.mem_cons_self⟩
theorem Bfs.done {N : List NP} (g : Grf N) {Vs : List Int} (b : Bfs N [] Vs) : Vs.length = N.length ↔ ∀ x ∈ N,Rch N x.1 := by
 constructor
 ·intro hl x hx
  have hin : x.1 ∈ Vs := by
   refine Classical.byContradiction fun hn => ?_
   have h1 : (x.1 :: Vs).Nodup := List.nodup_cons.2 ⟨hn,by simpa using b.nd⟩
   have h2 : (x.1 :: Vs) ⊆ N.map (·.1) := by
    intro c hc
    rcases List.mem_cons.1 hc with rfl | hc
    ·exact List.mem_map.2 ⟨x,hx,rfl⟩
    ·exact b.sub c (by simpa using hc)
   have := h1.length_le_of_subset h2
   simp at this; omega
  exact b.rch _ (by simpa using hin)
 ·intro hall
  have key : ∀ c,Rch N c → c ∈ Vs := by
   intro c hc
   induction hc with
   | top h => simpa using b.tops _ h
   | step hx ht _ ih => simpa using b.cl _ hx ih ht
  have h1 : N.map (·.1) ⊆ Vs := by
   intro c hc
   obtain ⟨x,hx,rfl⟩ := List.mem_map.1 hc
   exact key _ (hall x hx)
  have h2 := g.nd.length_le_of_subset h1
  have h3 := b.le
  simp at h2 h3; omega
variable {P : Program} {E : Env} {ro : Option Nat} {L : Nat} {K : List Fr} {ρ : Nat → V} {h : H} {Q : Po}
def r67_0 : List O := [⟨some 2,.mv (.k (.ptr none)),none,0,[2]⟩,
 ⟨some 3,.mv (.k (iI 0)),none,1,[3]⟩]
def r67_1 : List O := [⟨some 15,.call (.k (.func 73 [] [])) [],none,0,[15]⟩,
 om 4 15 1]
def r67_2 : List O := [om 16 0 0,
 oL 17 16 1,
 ⟨some 18,.mv (.k (iI 0)),none,0,[18]⟩]
def r67_3 : List O := [oi 20 4 16 18 0,
 oN 21 4 20 1,
 ⟨some 7,.alloc 67 [(iI 0),(iI 0),(.str []),sN],none,0,[7]⟩,
 ost 4 7 21 7]
def r67_4 : List O := [oa 22 0 7 0,
 ol 23 22 1,
 om 24 5 0,
 ⟨some 25,.bin .leq (some .int) false (.t 23) (.t 24),none,7,[25,23,24]⟩,
 om 26 25 15,
 oaf 27 0 7 26 31,
 olf 28 27 26 63,
 ⟨some 29,.call (.k (.func 74 [] [])) [(.t 28)],some (26,false),127,[29,26,28]⟩,
 oaf 30 1 7 26 31,
 olf 31 30 26 287,
 ⟨some 32,.bin .eql (some .int) true (.t 31) (.k (iI 0)),some (26,false),799,[32,26,31]⟩,
 ⟨some 33,.mv (.t 32),some (26,false),2047,[33,26,32]⟩,
 oag 34 2 7 33 4095,
 olg 35 34 33 8191,
 ⟨some 36,.bin .eql (some .str) true (.t 35) (.k (.str [])),some (33,true),16383,[36,33,35]⟩,
 ⟨some 37,.pick (.t 33) (.t 36) (.k (.bool false)),some (26,false),32767,[37,26,33,36]⟩,
 ⟨some 38,.bin .neq (some .bool) false (.t 29) (.t 37),some (26,false),65535,[38,26,29,37]⟩,
 ⟨some 39,.pick (.t 26) (.k (.bool true)) (.t 38),none,131071,[39,26,38]⟩,
 om 40 39 262143,
 oaf 41 0 7 40 524287,
 olf 42 41 40 1048575,
 ⟨some 43,.call (.k (.func 74 [] [])) [(.t 42)],some (40,false),2097151,[43,40,42]⟩,
 ⟨some 44,.un .not (.t 43),some (40,false),4194303,[44,40,43]⟩,
 ⟨some 45,.mv (.t 44),some (40,false),8388607,[45,40,44]⟩,
 oag 46 2 7 45 16777215,
 olg 47 46 45 33554431,
 ⟨some 48,.call (.k (.func 75 [] [])) [(.t 47)],some (45,true),67108863,[48,45,47]⟩,
 ong 49 48 45 134217727,
 ⟨some 50,.pick (.t 45) (.t 49) (.k (.bool false)),some (40,false),268435455,[50,40,45,49]⟩,
 ⟨some 51,.pick (.t 40) (.k (.bool true)) (.t 50),none,536870911,[51,40,50]⟩]
theorem d67_4 (hx : XDQ P E ro L K Q h [true,true,true,true,true,true,true,true,false,false,false,true,true,true,true,true,true,true,true,true,true,true,true,true,true,true,true,true,true,true] r67_4 ρ h) : XD P E ro L r67_4 K ρ h Q := XD_quiet rfl rfl hx
def r67_5 : List O := [⟨some 2,.mv (.k (.ptr none)),none,0,[2]⟩,
 ⟨some 3,.mv (.k (iI 121)),none,1,[3]⟩]
def r67_6 : List O := [oa 52 0 7 0,
 ol 53 52 1,
 om 5 53 3]
def r67_7 : List O := [om 54 4 0,
 ⟨some 55,.nilck (.t 54),none,1,[55,54]⟩,
 oa 56 0 55 3,
 ol 57 56 7,
 oa 58 0 7 0,
 ol 59 58 16,
 ⟨some 60,.lookup .int (.ptr none) false (.t 57) (.t 59),none,63,[60,57,59]⟩,
 om 8 60 127]
theorem d67_7 : XD P E ro L r67_7 K ρ h Q = XO P E ro L r67_7 K ρ h Q := XD_still rfl
def r67_8 : List O := [om 61 8 0,
 ⟨some 62,.bin .eql (some .ptr) true (.t 61) (.k (.ptr none)),none,1,[62,61]⟩]
def r67_9 : List O := [⟨some 63,.call (.k (.func 76 [] [])) [],none,0,[63]⟩,
 om 8 63 1]
def r67_10 : List O := [om 64 4 0,
 ⟨some 65,.nilck (.t 64),none,1,[65,64]⟩,
 oa 66 0 65 3,
 ol 67 66 7,
 oa 68 0 7 0,
 ol 69 68 16,
 om 70 8 0,
 ⟨none,.mapUpd .int (.t 67) (.t 69) (.t 70),none,127,[67,69,70]⟩]
theorem d67_10 (hx : XDO P E ro L r67_10 K ρ h Q) : XD P E ro L r67_10 K ρ h Q := XD_ord rfl hx
def r67_11 : List O := [om 71 8 0,
 oa 72 1 7 0,
 ol 73 72 2,
 oa 74 2 7 0,
 ol 75 74 8,
 ⟨some 76,.build [(iI 0),(.str [])] [(0,1,(.t 73)),(1,1,(.t 75))],none,30,[76,73,75]⟩,
 ⟨some 77,.nilck (.t 71),none,63,[77,71]⟩,
 oa 78 0 77 127,
 ost 2 78 76 255]
def r67_12 : List O := [oa 79 3 7 0,
 ol 80 79 1,
 oL 81 80 3,
 ⟨some 82,.mv (.k (iI 0)),none,0,[82]⟩]
def r67_13 : List O := [oi 84 2 80 82 0,
 oN 85 2 84 1,
 ⟨some 11,.alloc 115 [(.str []),(.str [])],none,0,[11]⟩,
 ost 2 11 85 7]
def r67_14 : List O := [oa 86 0 11 0,
 ol 87 86 1,
 om 88 9 0,
 ⟨some 89,.bin .leq (some .str) false (.t 87) (.t 88),none,7,[89,87,88]⟩,
 om 90 89 15,
 oaf 91 1 11 90 31,
 olf 92 91 90 63,
 ⟨some 93,.bin .eql (some .str) true (.t 92) (.k (.str [])),some (90,false),127,[93,90,92]⟩,
 ⟨some 94,.pick (.t 90) (.k (.bool true)) (.t 93),none,255,[94,90,93]⟩,
 om 95 94 511,
 oaf 96 0 11 95 1023,
 olf 97 96 95 2047,
 oaf 98 1 11 95 1023,
 olf 99 98 95 5119,
 ⟨some 100,.call (.k (.func 77 [] [])) [(.t 97),(.t 99)],some (95,false),16383,[100,95,97,99]⟩,
 ⟨some 101,.un .not (.t 100),some (95,false),32767,[101,95,100]⟩,
 ⟨some 102,.pick (.t 95) (.k (.bool true)) (.t 101),none,65535,[102,95,101]⟩]
def r67_15 : List O := [⟨some 2,.mv (.k (.ptr none)),none,0,[2]⟩,
 ⟨some 3,.mv (.k (iI 121)),none,1,[3]⟩]
def r67_16 : List O := [oa 103 0 11 0,
 ol 104 103 1,
 om 9 104 3]
def r67_17 : List O := [om 105 8 0,
 ⟨some 106,.nilck (.t 105),none,1,[106,105]⟩,
 oa 107 2 106 3,
 ol 108 107 7,
 oa 109 0 11 0,
 ol 110 109 16,
 oa 111 1 11 0,
 ol 112 111 64,
 ⟨none,.mapUpd .str (.t 108) (.t 110) (.t 112),none,255,[108,110,112]⟩]
theorem d67_17 (hx : XDO P E ro L r67_17 K ρ h Q) : XD P E ro L r67_17 K ρ h Q := XD_ord rfl hx
def r67_18 : List O := [op1 113 82 0,
 om 82 113 1]
abbrev e67_19 : C := .seq (.region [olt 83 82 81 0]) (.seq (.cond (.t 83) (.skip) (.exit 2)) (.seq (.block 3 (.seq (.region r67_13) (.seq (.seq (.region r67_14) (.cond (.t 102) (.seq (.region r67_15) (.ret)) (.skip))) (.seq (.region r67_16) (.draw r67_17))))) (.region r67_18)))
def b67_19 : C := e67_19
theorem u67_19 : XL P E ro L b67_19 K ρ h Q = X P E ro L (.c e67_19 :: .l b67_19 :: K) ρ h Q := XL_unroll b67_19
def r67_20 : List O := [op1 114 18 0,
 om 18 114 1]
abbrev e67_21 : C := .seq (.region [olt 19 18 17 0]) (.seq (.cond (.t 19) (.skip) (.exit 0)) (.seq (.block 1 (.seq (.region r67_3) (.seq (.seq (.draw r67_4) (.cond (.t 51) (.seq (.region r67_5) (.ret)) (.skip))) (.seq (.region r67_6) (.seq (.draw r67_7) (.seq (.seq (.region r67_8) (.cond (.t 62) (.seq (.region r67_9) (.draw r67_10)) (.skip))) (.seq (.region r67_11) (.seq (.region [⟨some 9,.mv (.k (.str [])),none,0,[9]⟩]) (.seq (.region r67_12) (.block 2 (.loop b67_19))))))))))) (.region r67_20)))
def b67_21 : C := e67_21
theorem u67_21 : XL P E ro L b67_21 K ρ h Q = X P E ro L (.c e67_21 :: .l b67_21 :: K) ρ h Q := XL_unroll b67_21
def r67_22 : List O := [om 115 4 0,
 ⟨some 116,.nilck (.t 115),none,1,[116,115]⟩,
 oa 117 0 116 3,
 ol 118 117 7,
 ⟨some 119,.rng false (.t 118),none,15,[119,118]⟩]
def r67_23 : List O := [⟨some 120,.next false (.t 119),none,0,[120,119]⟩,
 ox 121 120 0 1]
def r67_24 : List O := [⟨some 122,.entry (.t 119),none,0,[122,119]⟩,
 ox 123 122 0 1,
 ox 124 122 1 1,
 om 12 123 3,
 om 13 124 15]
def r67_25 : List O := [om 125 12 0,
 ⟨some 126,.call (.k (.func 74 [] [])) [(.t 125)],none,1,[126,125]⟩]
def r67_26 : List O := [om 127 4 0,
 ⟨some 128,.nilck (.t 127),none,1,[128,127]⟩,
 oa 129 0 128 3,
 ol 130 129 7,
 om 131 13 0,
 ⟨some 132,.nilck (.t 131),none,16,[132,131]⟩,
 oa 133 0 132 48,
 oa 134 0 133 112,
 ol 135 134 240,
 ⟨some 136,.lookup .int (.ptr none) false (.t 130) (.t 135),none,511,[136,130,135]⟩,
 om 14 136 1023]
theorem d67_26 : XD P E ro L r67_26 K ρ h Q = XO P E ro L r67_26 K ρ h Q := XD_still rfl
def r67_27 : List O := [om 137 14 0,
 ⟨some 138,.bin .eql (some .ptr) true (.t 137) (.k (.ptr none)),none,1,[138,137]⟩]
def r67_28 : List O := [⟨some 2,.mv (.k (.ptr none)),none,0,[2]⟩,
 ⟨some 3,.mv (.k (iI 121)),none,1,[3]⟩]
def r67_29 : List O := [om 139 14 0,
 ⟨some 140,.nilck (.t 139),none,1,[140,139]⟩,
 oa 141 3 140 3,
 ol 142 141 7,
 om 143 12 0,
 ⟨none,.mapUpd .int (.t 142) (.t 143) (.k (iI 1)),none,31,[142,143]⟩]
def b67_30 : C := .seq (.region r67_23) (.seq (.cond (.t 121) (.skip) (.exit 4)) (.block 5 (.seq (.region r67_24) (.seq (.seq (.region r67_25) (.cond (.t 126) (.exit 5) (.skip))) (.seq (.draw r67_26) (.seq (.seq (.region r67_27) (.cond (.t 138) (.seq (.region r67_28) (.ret)) (.skip))) (.region r67_29)))))))
def r67_31 : List O := [om 144 4 0,
 ⟨some 145,.call (.k (.func 78 [] [])) [(.t 144)],none,1,[145,144]⟩,
 ono 146 145 3]
def r67_32 : List O := [⟨some 2,.mv (.k (.ptr none)),none,0,[2]⟩,
 ⟨some 3,.mv (.k (iI 121)),none,1,[3]⟩]
def r67_33 : List O := [om 147 4 0,
 om 2 147 1,
 ⟨some 3,.mv (.k (iI 0)),none,3,[3]⟩]
def c67 : C := .seq (.region r67_0) (.seq (.region r67_1) (.seq (.region [⟨some 5,.mv (.k (iI 0)),none,0,[5]⟩]) (.seq (.seq (.region r67_2) (.block 0 (.loop b67_21))) (.seq (.seq (.region r67_22) (.block 4 (.loop b67_30))) (.seq (.seq (.region r67_31) (.cond (.t 146) (.seq (.region r67_32) (.ret)) (.skip))) (.seq (.region r67_33) (.ret)))))))
def fn67 : Fn := ⟨148,[.t 2,.t 3],c67⟩
def r73_0 : List O := [⟨some 1,.mkMap,none,0,[1]⟩,
 ⟨some 2,.call (.k (.func 76 [] [])) [],none,0,[2]⟩,
 ⟨none,.mapUpd .int (.t 1) (.k (iI 1)) (.t 2),none,3,[1,2]⟩,
 ⟨some 3,.call (.k (.func 76 [] [])) [],none,2,[3]⟩,
 ⟨none,.mapUpd .int (.t 1) (.k (iI 2)) (.t 3),none,11,[1,3]⟩,
 om 4 1 31,
 ⟨some 5,.build [(.int .u8 0)] [],none,0,[5]⟩,
 ⟨some 6,.box 144 (.t 5),none,64,[6,5]⟩,
 ⟨some 7,.build [(.map none),(.ptr none),(iI 0),sN,(iI 0)] [(0,1,(.t 4)),(1,1,(.t 6))],none,255,[7,4,6]⟩,
 ⟨some 8,.box 134 (.t 7),none,511,[8,7]⟩,
 om 0 8 1023]
def c73 : C := .seq (.region [⟨some 0,.mv (.k (.ptr none)),none,0,[0]⟩]) (.seq (.region r73_0) (.ret))
def fn73 : Fn := ⟨9,[.t 0],c73⟩
def r74_0 : List O := [om 3 0 0,
 ⟨some 4,.bin .eql (some .int) true (.t 3) (.k (iI 1)),none,1,[4,3]⟩,
 om 5 4 3,
 ⟨some 6,.mv (.t 0),some (5,false),7,[6,5,0]⟩,
 ⟨some 7,.bin .eql (some .int) true (.t 6) (.k (iI 2)),some (5,false),15,[7,5,6]⟩,
 ⟨some 8,.pick (.t 5) (.k (.bool true)) (.t 7),none,31,[8,5,7]⟩,
 om 2 8 63]
def c74 : C := .seq (.region [⟨some 2,.mv (.k (.bool false)),none,0,[2]⟩]) (.seq (.region r74_0) (.ret))
def fn74 : Fn := ⟨9,[.t 2],c74⟩
def r75_0 : List O := [om 5 0 0,
 ⟨some 6,.bin .eql (some .str) true (.t 5) (.k (.str [])),none,1,[6,5]⟩,
 om 7 6 3,
 ⟨some 8,.mv (.t 0),some (7,false),7,[8,7,0]⟩,
 ⟨some 9,.lenS (.t 8),some (7,false),15,[9,7,8]⟩,
 ⟨some 10,.bin .gtr (some .int) true (.t 9) (.k (iI 255)),some (7,false),31,[10,7,9]⟩,
 ⟨some 11,.pick (.t 7) (.k (.bool true)) (.t 10),none,63,[11,7,10]⟩,
 om 12 11 127,
 ⟨some 13,.mv (.t 0),some (12,false),255,[13,12,0]⟩,
 ⟨some 14,.bin .eql (some .str) true (.t 13) (.k (.str [46])),some (12,false),511,[14,12,13]⟩,
 ⟨some 15,.pick (.t 12) (.k (.bool true)) (.t 14),none,1023,[15,12,14]⟩,
 om 16 15 2047,
 ⟨some 17,.mv (.t 0),some (16,false),4095,[17,16,0]⟩,
 ⟨some 18,.bin .eql (some .str) true (.t 17) (.k (.str [46,46])),some (16,false),8191,[18,16,17]⟩,
 ⟨some 19,.pick (.t 16) (.k (.bool true)) (.t 18),none,16383,[19,16,18]⟩]
def r75_1 : List O := [om 20 0 0,
 ⟨some 21,.s2b 5 (.t 20),none,1,[21,20]⟩,
 oL 22 21 3,
 ⟨some 23,.mv (.k (iI 0)),none,0,[23]⟩]
def r75_2 : List O := [oi 25 1 21 23 0,
 ol 26 25 1,
 om 4 26 3]
def r75_3 : List O := [om 27 4 0,
 ⟨some 28,.bin .eql (some .int) true (.t 27) (.k (.int .u8 47)),none,1,[28,27]⟩]
def r75_4 : List O := [op1 29 23 0,
 om 23 29 1]
abbrev e75_5 : C := .seq (.region [olt 24 23 22 0]) (.seq (.cond (.t 24) (.skip) (.exit 0)) (.seq (.block 1 (.seq (.region r75_2) (.seq (.region r75_3) (.cond (.t 28) (.seq (.region [⟨some 2,.mv (.k (.bool false)),none,0,[2]⟩]) (.ret)) (.skip))))) (.region r75_4)))
def b75_5 : C := e75_5
theorem u75_5 : XL P E ro L b75_5 K ρ h Q = X P E ro L (.c e75_5 :: .l b75_5 :: K) ρ h Q := XL_unroll b75_5
def c75 : C := .seq (.region [⟨some 2,.mv (.k (.bool false)),none,0,[2]⟩]) (.seq (.seq (.region r75_0) (.cond (.t 19) (.seq (.region [⟨some 2,.mv (.k (.bool false)),none,0,[2]⟩]) (.ret)) (.skip))) (.seq (.seq (.region r75_1) (.block 0 (.loop b75_5))) (.seq (.region [⟨some 2,.mv (.k (.bool true)),none,0,[2]⟩]) (.ret))))
def fn75 : Fn := ⟨30,[.t 2],c75⟩
def r76_0 : List O := [⟨some 1,.mkMap,none,0,[1]⟩,
 ⟨some 2,.mkMap,none,0,[2]⟩,
 ⟨some 3,.build [(iI 0),(.str []),(.map none),(.map none)] [(2,1,(.t 1)),(3,1,(.t 2))],none,3,[3,1,2]⟩,
 ⟨some 4,.box 141 (.t 3),none,7,[4,3]⟩,
 om 0 4 15]
def c76 : C := .seq (.region [⟨some 0,.mv (.k (.ptr none)),none,0,[0]⟩]) (.seq (.region r76_0) (.ret))
def fn76 : Fn := ⟨5,[.t 0],c76⟩
def r77_0 : List O := [om 5 0 0,
 ⟨some 6,.bin .neq (some .str) true (.t 5) (.k (.str [])),none,1,[6,5]⟩,
 om 7 6 3,
 og 8 0 7 7,
 ⟨some 9,.lenS (.t 8),some (7,true),15,[9,7,8]⟩,
 ⟨some 10,.bin .leq (some .int) true (.t 9) (.k (iI 255)),some (7,true),31,[10,7,9]⟩,
 oe 11 10 7 63,
 om 12 11 127,
 og 13 1 12 255,
 ⟨some 14,.lenS (.t 13),some (12,true),511,[14,12,13]⟩,
 ⟨some 15,.bin .leq (some .int) true (.t 14) (.k (iI 255)),some (12,true),1023,[15,12,14]⟩,
 oe 16 15 12 2047,
 om 4 16 4095]
def c77 : C := .seq (.region [⟨some 4,.mv (.k (.bool false)),none,0,[4]⟩]) (.seq (.region r77_0) (.ret))
def fn77 : Fn := ⟨17,[.t 4],c77⟩
def r78_0 : List O := [⟨some 7,.bslice 2 2 [(iI 0),(iI 0)] [(0,1,(.k (iI 1))),(1,1,(.k (iI 2)))],none,0,[7]⟩,
 om 4 7 1]
def r78_1 : List O := [om 8 4 0,
 oL 9 8 1,
 ⟨some 10,.bin .gtr (some .int) true (.t 9) (.k (iI 0)),none,3,[10,9]⟩]
def r78_2 : List O := [om 11 0 0,
 ⟨some 12,.nilck (.t 11),none,1,[12,11]⟩,
 oa 13 0 12 3,
 ol 14 13 7,
 om 15 4 0,
 ⟨some 16,.iadrL 1 (.t 15) (.k (iI 0)),none,16,[16,15]⟩,
 ol 17 16 48,
 ⟨some 18,.lookup .int (.ptr none) false (.t 14) (.t 17),none,127,[18,14,17]⟩,
 om 5 18 255]
theorem d78_2 : XD P E ro L r78_2 K ρ h Q = XO P E ro L r78_2 K ρ h Q := XD_still rfl
def r78_3 : List O := [om 19 4 0,
 ⟨some 20,.slL 1 (.t 19) (some (.k (iI 1))) none none,none,1,[20,19]⟩,
 om 4 20 3]
def r78_4 : List O := [om 21 3 0,
 op1 22 21 1,
 om 3 22 3]
def r78_5 : List O := [om 23 5 0,
 ⟨some 24,.nilck (.t 23),none,1,[24,23]⟩,
 oa 25 3 24 3,
 ol 26 25 7,
 ⟨some 27,.rng false (.t 26),none,15,[27,26]⟩]
def r78_6 : List O := [⟨some 28,.next false (.t 27),none,0,[28,27]⟩,
 ox 29 28 0 1]
def r78_7 : List O := [⟨some 30,.entry (.t 27),none,0,[30,27]⟩,
 ox 31 30 0 1,
 om 6 31 3]
def r78_8 : List O := [om 32 4 0,
 om 33 6 0,
 ⟨some 34,.bslice 2 1 [(iI 0)] [(0,1,(.t 33))],none,2,[34,33]⟩,
 ⟨some 35,.app 2 1 8 (.t 32) (.t 34),none,7,[35,32,34]⟩,
 om 4 35 15]
def b78_9 : C := .seq (.region r78_6) (.seq (.cond (.t 29) (.skip) (.exit 2)) (.block 3 (.seq (.region r78_7) (.region r78_8))))
def b78_10 : C := .seq (.seq (.region r78_1) (.cond (.t 10) (.skip) (.exit 0))) (.block 1 (.seq (.draw r78_2) (.seq (.region r78_3) (.seq (.region r78_4) (.seq (.region r78_5) (.block 2 (.loop b78_9)))))))
def r78_11 : List O := [om 36 3 0,
 om 37 0 0,
 ⟨some 38,.nilck (.t 37),none,2,[38,37]⟩,
 oa 39 0 38 6,
 ol 40 39 14,
 ⟨some 41,.lenM (.t 40),none,30,[41,40]⟩,
 ⟨some 42,.bin .eql (some .int) false (.t 36) (.t 41),none,63,[42,36,41]⟩,
 om 2 42 127]
def c78 : C := .seq (.region [⟨some 2,.mv (.k (.bool false)),none,0,[2]⟩]) (.seq (.region [⟨some 3,.mv (.k (iI 0)),none,0,[3]⟩]) (.seq (.region r78_0) (.seq (.block 0 (.loop b78_10)) (.seq (.region r78_11) (.ret)))))
def fn78 : Fn := ⟨43,[.t 2],c78⟩
end Go.AM.Sc
namespace Go.AM.Sc
open Go.AM
variable {P : Program} {E : Env}
structure WS (lo : Nat) (h : H) (v : V) (W : List Int) : Prop where
 ex : ∃ b o opn vs,v = .slice (some (b,o)) W.length W.length opn ∧ lo ≤ b ∧ h.get b = some (.cells vs 2 opn false none) ∧ o + W.length = vs.length ∧ vs.drop o = W.map (V.int .i64)
theorem WS.frame {lo : Nat} {h h' : H} {v : V} {W : List Int} (a : WS lo h v W) (hk : Kp h h') : WS lo h' v W := by
 obtain ⟨b,o,opn,vs,h1,h2,h3,h4,h5⟩ := a.ex
 exact ⟨b,o,opn,vs,h1,h2,hk.of h3,h4,h5⟩
def NCk (h h' : H) : Prop := ∀ i o,h.get i = some o → (∀ vs ty op ro fz,o ≠ .cells vs ty op ro fz) → h'.get i = some o
theorem NCk.kp {h h' : H} (k : Kp h h') : NCk h h' := fun _ _ hg _ => k.of hg
theorem NCk.trans {a b c : H} (x : NCk a b) (y : NCk b c) : NCk a c := fun i o hg hn => y i o (x i o hg hn) hn
theorem ws_app {lo : Nat} {h : H} {v : V} {W : List Int} (a : WS lo h v W) (hlo : lo ≤ h.size) (hb : W.length ≤ 1048578) (k : Int) :
  ∃ v' h',appV (h.psh (.cells [iI k] 2 false false none)) 2 1 8 v (.slice (some (h.size,0)) 1 1 false) = some (.eff v' h') ∧ WS lo h' v' (W ++ [k]) ∧ Keeps lo h h' ∧ NCk h h' := by
 obtain ⟨b,o,opn,vs,rfl,h2,h3,h4,h5⟩ := a.ex
 have hbs := H.get_lt h3
 have k1 : Kp h (h.psh (.cells [iI k] 2 false false none)) := Keeps.psh (Nat.le_refl _) _
 have g1 := k1.of h3
 have gn := psh_same h (.cells [iI k] 2 false false none)
 have hsz := psh_size h (.cells [iI k] 2 false false none)
 generalize h.psh (.cells [iI k] 2 false false none) = h1 at *
 have he : elemsV h1 1 1 (.slice (some (h.size,0)) 1 1 false) = some [iI k] := by
  simp [elemsV,gn,getR]
 have hn : ¬ W.length + 1 ≤ W.length := by omega
 have hb2 : W.length + 1 ≤ 1099511627776 ∧ (2 * (W.length + 1) + 1024) * 8 ≤ 281474976710656 := by omega
 have hdrop : getR vs o (W.length * 1) = W.map (V.int .i64) := by
  unfold getR
  rw [h5,Nat.mul_one]
  exact List.take_of_length_le (by simp)
 cases opn with
 | true =>
  refine ⟨.slice (some (h1.size,0)) (W.length + 1) (W.length + 1) true,(h1.set b .dead).psh (.cells (W.map (V.int .i64) ++ [iI k]) 2 true false none),?_,⟨⟨h1.size,0,true,W.map (V.int .i64) ++ [iI k],by simp,by omega,?_,by simp,by simp⟩⟩,?_,?_⟩
  ·unfold appV
   have h6 : o + W.length * 1 = vs.length := by omega
   simp only [lenV,he,hn,if_false,hb2,and_self,if_true,g1,Nat.le_refl,h6,hdrop,fzFree,push_eq]
   simp [V.one]
  ·have := psh_same (h1.set b .dead) (.cells (W.map (V.int .i64) ++ [iI k]) 2 true false none)
   rw [H.set_size] at this
   exact this
  ·exact (k1.mono hlo).trans ((Keeps.set (H.get_lt g1) h2 _).trans (Keeps.psh (by rw [H.set_size]; omega) _))
  ·intro i ob hg hno
   have hib : b ≠ i := by rintro rfl; rw [h3] at hg; cases hg; exact hno _ _ _ _ _ rfl
   have e1 : (h1.set b .dead).get i = some ob := by rw [hset_other (H.get_lt g1) hib]; exact k1.of hg
   exact psh_old e1 _
 | false =>
  refine ⟨.slice (some (h1.size,0)) (W.length + 1) (W.length + 1) true,h1.psh (.cells (W.map (V.int .i64) ++ [iI k]) 2 true false none),?_,⟨⟨h1.size,0,true,_,by simp,by omega,psh_same _ _,by simp,by simp⟩⟩,?_,?_⟩
  ·unfold appV
   have h7 : elemsV h1 1 W.length (.slice (some (b,o)) W.length W.length false) = some (W.map (V.int .i64)) := by
    simp only [elemsV]
    by_cases h0 : W.length * 1 = 0
    ·have : W = [] := List.eq_nil_of_length_eq_zero (by omega)
     subst this; simp
    ·simp only [h0,if_false,g1]
     have h6 : o + W.length * 1 ≤ vs.length := by omega
     simp only [h6,if_true,hdrop]
   simp only [lenV,he,hn,if_false,hb2,and_self,if_true,h7,push_eq]
  ·exact (k1.mono hlo).trans (Keeps.psh (by omega) _)
  ·exact NCk.kp (Kp.trans k1 (Keeps.psh (Nat.le_refl _) _))
structure Nd where
 id : Int
 par : Int
 name : List UInt8
 b : Nat
 am : Nat
 km : Nat
def Nd.ent (r : Nd) : V × V := (iI r.id,.ptr (some (r.b,0)))
theorem findK_no {n : Int} : ∀ {N : List Nd} {k j : Nat},n ∉ N.map Nd.id → findK .int (iI n) (mos (N.map Nd.ent) k) j = some none
 | [],_,_,_ => rfl
 | r :: N,k,j,h => by
  simp only [List.map_cons,List.mem_cons,not_or] at h
  have : (n == r.id) = false := by simpa using h.1
  simp only [List.map_cons,mos,Nd.ent,findK,sameK,if_true,this]
  exact findK_no h.2
theorem findK_at {n : Int} : ∀ {N : List Nd} {i k j : Nat} {r : Nd},(N.map Nd.id).Nodup → N[i]? = some r → r.id = n → findK .int (iI n) (mos (N.map Nd.ent) k) j = some (some (j + i,.ptr (some (r.b,0))))
 | [],_,_,_,_,_,h,_ => by simp at h
 | r :: N,0,k,j,r',_,h,e => by
  simp at h; subst h
  simp [mos,Nd.ent,findK,sameK,e]
 | r :: N,i + 1,k,j,r',nd,h,e => by
  simp only [List.map_cons,List.nodup_cons] at nd
  have hm : r'.id ∈ N.map Nd.id := List.mem_map.2 ⟨r',List.mem_of_getElem? (by simpa using h),rfl⟩
  have : (n == r.id) = false := by
   simp only [beq_eq_false_iff_ne,ne_eq]
   rintro rfl
   rw [e] at hm; exact nd.1 hm
  simp only [List.map_cons,mos,Nd.ent,findK,sameK,if_true,this]
  have := findK_at (k := k + 1) (j := j + 1) nd.2 (by simpa using h) e
  rw [show j + (i + 1) = j + 1 + i by omega]
  exact this
def kidE (n : Int) : V × V := (iI n,iI 1)
structure NdK (h : H) (r : Nd) (ks : List Int) : Prop where
 cell : ∃ ty op ro fz,h.get r.b = some (.cells [iI r.par,.str r.name,.map (some r.am),.map (some r.km)] ty op ro fz)
 kids : h.get r.km = some (mo (ks.map kidE))
structure TrK (h : H) (t mp : Nat) (N : List Nd) (ks : Nd → List Int) : Prop where
 root : ∃ cs ty op ro fz,h.get t = some (.cells (.map (some mp) :: cs) ty op ro fz)
 nodes : h.get mp = some (mo (N.map Nd.ent))
 nd : (N.map Nd.id).Nodup
 at_ : ∀ r ∈ N,NdK h r (ks r)
theorem TrK.keep {h h' : H} {t mp : Nat} {N : List Nd} {ks : Nd → List Int} (a : TrK h t mp N ks) {lo : Nat} (hk : Keeps lo h h') (hlo : ∀ i o,h.get i = some o → i < lo) : TrK h' t mp N ks := by
 have of : ∀ {i o},h.get i = some o → h'.get i = some o := fun {i o} hg => by rw [hk.get i (hlo i o hg)]; exact hg
 obtain ⟨cs,ty,op,ro,fz,h1⟩ := a.root
 refine ⟨⟨cs,ty,op,ro,fz,of h1⟩,of a.nodes,a.nd,fun r hr => ?_⟩
 obtain ⟨⟨ty,op,ro,fz,h2⟩,h3⟩ := a.at_ r hr
 exact ⟨⟨ty,op,ro,fz,of h2⟩,of h3⟩
theorem WS.set {lo : Nat} {h : H} {v : V} {W : List Int} (a : WS lo h v W) {i : Nat} {o : Obj} (hg : h.get i = some o) (hn : ∀ vs ty op ro fz,o ≠ .cells vs ty op ro fz) (o' : Obj) : WS lo (h.set i o') v W := by
 obtain ⟨b,o1,opn,vs,h1,h2,h3,h4,h5⟩ := a.ex
 refine ⟨b,o1,opn,vs,h1,h2,?_,h4,h5⟩
 rw [hset_other (H.get_lt hg) (by rintro rfl; rw [h3] at hg; cases hg; exact hn _ _ _ _ _ rfl)]
 exact h3
theorem WS.pop {lo : Nat} {h : H} {v : V} {w : Int} {W : List Int} (a : WS lo h v (w :: W)) : ∃ b o opn vs,v = .slice (some (b,o)) (W.length + 1) (W.length + 1) opn ∧ h.get b = some (.cells vs 2 opn false none) ∧ vs[o]? = some (iI w) ∧
  WS lo h (.slice (some (b,o + 1)) W.length W.length opn) W := by
 obtain ⟨b,o,opn,vs,h1,h2,h3,h4,h5⟩ := a.ex
 have h6 : vs[o]? = some (iI w) := by
  have : (vs.drop o)[0]? = some (iI w) := by rw [h5]; rfl
  simpa using this
 refine ⟨b,o,opn,vs,h1,h3,h6,⟨⟨b,o + 1,opn,vs,rfl,h2,h3,by simp at h4; omega,?_⟩⟩⟩
 rw [← List.drop_drop,h5]; rfl
def Nd.np (r : Nd) : NP := (r.id,r.par)
structure KSpec (N : List Nd) (ks : Nd → List Int) : Prop where
 nd : ∀ r ∈ N,(ks r).Nodup
 mem : ∀ r ∈ N, ∀ c,c ∈ ks r ↔ ∃ x ∈ N.map Nd.np,x.1 = c ∧ topI c = false ∧ x.2 = r.id
def at0 (l : List Int) (i : Nat) : Int := (l[i]?).getD 0
theorem perm_seen {l : List Int} {seen : List Nat} (nd : seen.Nodup) (hlt : ∀ i ∈ seen,i < l.length) (hall : ∀ i,i < l.length → i ∈ seen) : (seen.map (at0 l)).Perm l := by
 have h1 : seen.Perm (List.range l.length) := by
  refine (List.perm_ext_iff_of_nodup nd List.nodup_range).2 fun a => ?_
  rw [List.mem_range]
  exact ⟨hlt a,hall a⟩
 have h2 : (List.range l.length).map (at0 l) = l := by
  refine List.ext_getElem? fun i => ?_
  by_cases hi : i < l.length
  ·simp [at0,hi]
  ·simp [hi]
 have := h1.map (at0 l)
 rw [h2] at this
 exact this
set_option maxHeartbeats 1000000 in
theorem inner78 {h : H} {t mp : Nat} {N : List Nd} {ks : Nd → List Int} (tr : TrK h t mp N ks) (hN : N.length ≤ 1048578) {r : Nd} (hr : r ∈ N) {W : List Int} {it : Nat} {u3 : V} (hit : h.size ≤ it) (hle : W.length + (ks r).length ≤ 1048578) {R : Ex → St → Prop}
  (cont : ∀ (ρ' : Nat → V) (h' : H) (v : V) (L : List Int),ρ' 0 = pP t → ρ' 3 = u3 → ρ' 4 = v → WS h.size h' v (W ++ L) → Keeps h.size h h' → L.Perm (ks r) → R (.exit 2) (toL 43 ρ',h')) {ρ : Nat → V} {h0 : H} {v : V}
  (q0 : ρ 0 = pP t) (q3 : ρ 3 = u3) (q4 : ρ 4 = v) (q27 : ρ 27 = pP it) (hi : It h0 r.km it ((ks r).map kidE) []) (hw : WS h.size h0 v W) (hk : Keeps h.size h h0) : NC P E none (.loop b78_9) (toL 43 ρ,h0) R := by
 refine NC.maps (q := 2) (mp := r.km) (it := it) (l := (ks r).map kidE) (by decide) (by decide) (by decide)
  (fun seen ρ h2 => seen.Nodup ∧ (∀ i ∈ seen,i < (ks r).length) ∧ ρ 27 = pP it ∧ It h2 r.km it ((ks r).map kidE) seen ∧ ρ 0 = pP t ∧ ρ 3 = u3 ∧ (∃ v,ρ 4 = v ∧ WS h.size h2 v (W ++ seen.map (at0 (ks r)))) ∧ Keeps h.size h h2)
  (fun {seen ρ h2} inv => ⟨inv.2.2.1,inv.2.2.2.1⟩) ?_ ?_ (ks r).length ⟨List.nodup_nil,by simp,q27,hi,q0,q3,⟨v,q4,by simpa using hw⟩,hk⟩ List.nodup_nil (by simp) (by simp)
 ·rintro seen ρ h2 ⟨nd,lt,w27,hi2,w0,w3,⟨v,w4,ws⟩,kk⟩ hall
  exact cont _ _ v _ w0 w3 w4 ws kk (perm_seen nd lt (by simpa using hall))
 ·rintro seen ρ h2 ⟨nd,lt,w27,hi2,w0,w3,⟨v,w4,ws⟩,kk⟩ _ _ i k u hik hns
  have hlt : i < (ks r).length := by simpa using (List.getElem?_eq_some_iff.1 hik).1
  have hkv : k = iI (at0 (ks r) i) ∧ u = iI 1 := by
   rw [List.getElem?_map,List.getElem?_eq_getElem hlt] at hik
   simp only [Option.map_some,kidE,Option.some.injEq,Prod.mk.injEq] at hik
   obtain ⟨rfl,rfl⟩ := hik
   simp [at0,hlt]
  obtain ⟨rfl,rfl⟩ := hkv
  have hits := H.get_lt hi2.itr
  have hlast : (seen ++ [i]).getLast? = some i := by simp
  have hfind := mos_find (k := 0) hik
  rw [Nat.zero_add] at hfind
  have gi := hset_same hits (.mapIter (some r.km) ((ks r).map kidE).length (seen ++ [i]) ((ks r).map kidE).length)
  have hne : it ≠ r.km := by
   rintro rfl
   have := hi2.itr; rw [hi2.map] at this; cases this
  have gm : (h2.set it (.mapIter (some r.km) ((ks r).map kidE).length (seen ++ [i]) ((ks r).map kidE).length)).get r.km = some (.map (mos ((ks r).map kidE) 0) ((ks r).map kidE).length) := by
   rw [hset_other hits hne]; exact hi2.map
  have ws3 := ws.set hi2.itr (by intros; simp) (.mapIter (some r.km) ((ks r).map kidE).length (seen ++ [i]) ((ks r).map kidE).length)
  have k3 := kk.trans (Keeps.set hits hit (.mapIter (some r.km) ((ks r).map kidE).length (seen ++ [i]) ((ks r).map kidE).length))
  generalize h2.set it (.mapIter (some r.km) ((ks r).map kidE).length (seen ++ [i]) ((ks r).map kidE).length) = h3 at *
  have hle2 : (W ++ seen.map (at0 (ks r))).length ≤ 1048578 := by
   have := nd.length_le_of_subset (l₂ := List.range (ks r).length) (fun j hj => by simpa using lt j hj)
   simp at this ⊢; omega
  obtain ⟨v',h5,e5,ws5,k5,n5⟩ := ws_app ws3 (by have := k3.size; omega) hle2 (at0 (ks r) i)
  refine NC.run (Q := fun ex T h' => ∃ ρ',ex = .nrm ∧ T = toL 43 ρ' ∧ h5 = h' ∧ ρ' 27 = pP it ∧ ρ' 0 = pP t ∧ ρ' 3 = u3 ∧ ρ' 4 = v') (by intro b e; cases e) ?_ ?_
  ·simp only [GR,evK,binV,intOp,strOp,unV,Nat.reduceLT,Nat.reduceEqDiff,↓reduceIte,r78_7,r78_8,w27,gi,gm,hlast,hfind,w4,e5]
   exact ⟨_,rfl,w27,w0,w3,rfl⟩
  ·rintro ex T h' ⟨ρ',rfl,rfl,e3,x27,x0,x3,x4⟩
   subst e3
   refine ⟨ρ',h5,rfl,?_,?_,x27,⟨?_,?_⟩,x0,x3,⟨v',x4,?_⟩,k3.trans k5⟩
   ·exact List.nodup_append.2 ⟨nd,by simp,by intro a ha b hb; simp at hb; subst hb; intro e; subst e; exact hns ha⟩
   ·intro j hj
    rcases List.mem_append.1 hj with hj | hj
    ·exact lt j hj
    ·simp at hj; subst hj; exact hlt
   ·exact n5 _ _ gm (by intro _ _ _ _ _ e; cases e)
   ·exact n5 _ _ gi (by intro _ _ _ _ _ e; cases e)
   ·rw [List.map_append,← List.append_assoc]; exact ws5
theorem np_id (N : List Nd) : (N.map Nd.np).map (·.1) = N.map Nd.id := by simp [Nd.np]
theorem wrap_succ (n : Nat) (h : n < 9223372036854775807) : IntKind.i64.wrap ((n : Int) + 1) = ((n + 1 : Nat) : Int) := wrap_nat (n := n + 1) (by omega)
set_option maxHeartbeats 2000000 in
theorem outer78 {h : H} {t mp : Nat} {N : List Nd} {ks : Nd → List Int} (tr : TrK h t mp N ks) (g : Grf (N.map Nd.np)) (sp : KSpec N ks) (hN : N.length ≤ 1048578) {R : Ex → St → Prop}
  (cont : ∀ (ρ' : Nat → V) (h' : H) (Vs : List Int),ρ' 0 = pP t → ρ' 3 = iI Vs.length → Bfs (N.map Nd.np) [] Vs → Kp h h' → R (.exit 0) (toL 43 ρ',h')) :
  ∀ (d : Nat) (W Vs : List Int) (ρ : Nat → V) (h0 : H) (v : V),N.length - Vs.length = d → Bfs (N.map Nd.np) W Vs → ρ 0 = pP t → ρ 3 = iI Vs.length → ρ 4 = v → WS h.size h0 v W → Kp h h0 → NC P E none (.loop b78_10) (toL 43 ρ,h0) R := by
 have fin : ∀ (Vs : List Int) (ρ : Nat → V) (h0 : H) (v : V),Bfs (N.map Nd.np) [] Vs → ρ 0 = pP t → ρ 3 = iI Vs.length → ρ 4 = v → WS h.size h0 v [] → Kp h h0 → NC P E none (.loop b78_10) (toL 43 ρ,h0) R := by
  intro Vs ρ h0 v bf q0 q3 q4 ws hk
  obtain ⟨b,o,opn,vs,hv,w2,w3,w4,w5⟩ := ws.ex
  have q4' := q4.trans hv
  refine NC.rnd (NC.pre (as := [_]) (c := .block 1 _) (by intro a ha b e; simp at ha; subst ha; cases e) ?_)
  simp only [GR,evK,binV,intOp,strOp,shOp,unV,Nat.reduceLT,Nat.reduceEqDiff,Nat.reduceAdd,↓reduceIte,Nat.reduceLeDiff,reduceCtorEq,List.map_cons,List.map_nil,r78_1,q4',Int.lt_irrefl,Int.ofNat_lt,Nat.lt_irrefl,gt_iff_lt,Int.natCast_zero,Int.cast_ofNat_Int]
  exact cont _ _ Vs q0 q3 bf hk
 intro d
 induction d with
 | zero =>
  intro W Vs ρ h0 v hd bf q0 q3 q4 ws hk
  have hle := bf.le
  rw [List.length_map] at hle
  have : W = [] := List.eq_nil_of_length_eq_zero (by omega)
  subst this
  exact fin Vs ρ h0 v bf q0 q3 q4 ws hk
 | succ d ih =>
  intro W Vs ρ h0 v hd bf q0 q3 q4 ws hk
  cases W with
  | nil => exact fin Vs ρ h0 v bf q0 q3 q4 ws hk
  | cons w W =>
   have hle := bf.le
   rw [List.length_map] at hle
   simp only [List.length_cons] at hle
   obtain ⟨b,o,opn,vs,hv,w2,w3,wp⟩ := ws.pop
   have q4' := q4.trans hv
   have hpos : (0 : Int) < ((W.length + 1 : Nat) : Int) := by omega
   obtain ⟨x,hx,hxw⟩ := List.mem_map.1 (bf.sub w (by simp))
   obtain ⟨r,hr,rfl⟩ := List.mem_map.1 hx
   obtain ⟨i,hi⟩ := List.getElem?_of_mem hr
   have tr0 := tr.keep hk (fun i o hg => H.get_lt hg)
   obtain ⟨cs,ty,op,ro,fz,g1⟩ := tr0.root
   have g2 : h0.get mp = some (.map (mos (N.map Nd.ent) 0) (N.map Nd.ent).length) := tr0.nodes
   have g3 := findK_at (k := 0) (j := 0) tr0.nd hi hxw
   obtain ⟨⟨ty4,op4,ro4,fz4,g4⟩,g5⟩ := tr0.at_ r hr
   have g5' : h0.get r.km = some (.map (mos ((ks r).map kidE) 0) ((ks r).map kidE).length) := g5
   have hw1 := wrap_succ Vs.length (by omega)
   have hb1 : boundsV (W.length + 1) (W.length + 1) (some (iI 1)) none none = some (1,W.length + 1,W.length + 1) := by
    have : (1 : Int).toNat = 1 := rfl
    rw [← this]; exact bounds_lo (by omega)
   have bf' : ∀ {L : List Int},L.Perm (ks r) → Bfs (N.map Nd.np) (W ++ L) (w :: Vs) := fun {L} => bf.step (ks := ks r) (L := L) g (sp.nd r hr) (fun c => by rw [sp.mem r hr c,← hxw]; rfl)
   have hks : W.length + (ks r).length ≤ 1048578 := by
    have := (bf' (.refl _)).le
    simp at this; omega
   refine NC.rnd (NC.pre (as := [_]) (c := .block 1 _) (by intro a ha b e; simp at ha; subst ha; cases e) ?_)
   simp only [GR,evK,binV,intOp,strOp,shOp,unV,Nat.reduceLT,Nat.reduceEqDiff,Nat.reduceAdd,↓reduceIte,Nat.reduceLeDiff,reduceCtorEq,List.map_cons,List.map_nil,r78_1,q4',gt_iff_lt,hpos]
   refine NC.blk (NC.pre (as := [_,_,_,_]) (c := .block 2 (.loop b78_9)) (by intro a ha b e; simp at ha; rcases ha with rfl | rfl | rfl | rfl <;> cases e) ?_)
   show X P E none 43 [.c (.draw r78_2),.c (.region r78_3),.c (.region r78_4),.c (.region r78_5)] _ _ _
   rw [X_draw,d78_2]
   simp only [GR,evK,binV,intOp,strOp,shOp,unV,Nat.reduceLT,Nat.reduceEqDiff,Nat.reduceAdd,↓reduceIte,Nat.reduceLeDiff,reduceCtorEq,r78_2,q0,g1,q4',hpos,w2,w3,g2,g3,r78_3,hb1,r78_4,q3,hw1,r78_5,g4,g5',Int.toNat_zero,Nat.zero_mul,Nat.add_zero,Nat.one_mul,Nat.add_sub_cancel,Int.le_refl,Bool.and_true,Option.isNone_none]
   refine NC.blk (inner78 tr hN hr (W := W) (it := h0.size) (u3 := iI (Vs.length + 1 : Nat)) (v := .slice (some (b,o + 1)) W.length W.length opn) hk.size hks ?_ ?_ ?_ ?_ ?_ ⟨psh_old g5 _,?_⟩ (wp.frame (Keeps.psh (Nat.le_refl _) _)) (Keeps.trans hk (Keeps.psh hk.size _)))
   ·intro ρ' h' v' L x0 x3 x4 ws' k' hp
    refine ih (W ++ L) (w :: Vs) ρ' h' v' ?_ (bf' hp) x0 (by rw [x3]; rfl) x4 ws' k'
    simp only [List.length_cons]; omega
   ·exact q0
   ·rfl
   ·rfl
   ·rfl
   ·rw [psh_same]
set_option maxHeartbeats 2000000 in
theorem whole78 {h : H} {t mp : Nat} {N : List Nd} {ks : Nd → List Int} (tr : TrK h t mp N ks) (g : Grf (N.map Nd.np)) (sp : KSpec N ks) (hN : N.length ≤ 1048578) {ok : Bool} (hok : ok = true ↔ ∀ x ∈ N.map Nd.np,Rch (N.map Nd.np) x.1) :
  NSp P E fn78 [pP t] h fun v h' => v = .bool ok ∧ Kp h h' := by
 refine ⟨(by decide : (1 : Nat) ≤ 43),?_⟩
 show NC P E none c78 (toL 43 (argF [pP t]),h) fun ex s' => Fin [.t 2] (fun v h' => v = .bool ok ∧ Kp h h') ex s'.1 s'.2
 refine NC.pre (as := [_,_,_]) (c := .seq (.block 0 (.loop b78_10)) (.seq (.region r78_11) (.ret))) (by intro a ha b e; simp at ha; rcases ha with rfl | rfl | rfl <;> cases e) ?_
 simp only [GR,evK,binV,intOp,strOp,shOp,unV,Nat.reduceLT,Nat.reduceEqDiff,Nat.reduceAdd,↓reduceIte,Nat.reduceLeDiff,reduceCtorEq,List.map_cons,List.map_nil,r78_0]
 refine NC.sq (NC.blk (outer78 tr g sp hN ?_ _ [1,2] [] _ _ (.slice (some (h.size,0)) 2 2 false) rfl (Bfs.begin g) ?_ ?_ ?_ ⟨⟨h.size,0,false,[iI 1,iI 2],rfl,Nat.le_refl _,psh_same _ _,rfl,rfl⟩⟩ (Keeps.psh (Nat.le_refl _) _)))
 rotate_left
 ·rfl
 ·rfl
 ·rfl
 intro ρ' h' Vs q0 q3 bf hk
 have tr0 := tr.keep hk (fun i o hg => H.get_lt hg)
 obtain ⟨cs,ty,op,ro,fz,g1⟩ := tr0.root
 have g2 : h'.get mp = some (.map (mos (N.map Nd.ent) 0) (N.map Nd.ent).length) := tr0.nodes
 have hfin : ok = (decide ((Vs.length : Int) = (N.length : Int))) := by
  rw [Bool.eq_iff_iff,hok,← bf.done g,List.length_map,decide_eq_true_eq]
  omega
 simp only [if_true]
 refine NC.run (Q := fun ex T h2 => Fin [.t 2] (fun v h' => v = .bool ok ∧ Kp h h') ex T h2) (by intro b e; cases e) ?_ (fun _ _ _ h => h)
 simp only [GR,evK,binV,intOp,strOp,shOp,unV,Nat.reduceLT,Nat.reduceEqDiff,Nat.reduceAdd,↓reduceIte,Nat.reduceLeDiff,reduceCtorEq,r78_11,q3,q0,g1,g2,mos_length,List.length_map,hfin,fn78]
 first | exact hk | exact ⟨rfl,hk⟩ | exact ⟨by simp,hk⟩
def readEnt (h : H) : List (V × V × Nat) → Option (List NP)
 | [] => some []
 | (.int .i64 id,.ptr (some (b,0)),_) :: r => match h.get b,readEnt h r with
  | some (.cells (.int .i64 par :: _) _ _ _ _),some l => some ((id,par) :: l)
  | _,_ => none
 | _ => none
def readTree (h : H) (t : Nat) : Option (List NP) := match h.get t with
 | some (.cells (.map (some mp) :: _) _ _ _ _) => match h.get mp with
  | some (.map es _) => readEnt h es
  | _ => none
 | _ => none
theorem readEnt_ok {h : H} {ks : Nd → List Int} : ∀ {N : List Nd} {k : Nat},(∀ r ∈ N,NdK h r (ks r)) → readEnt h (mos (N.map Nd.ent) k) = some (N.map Nd.np)
 | [],_,_ => rfl
 | r :: N,k,hr => by
  obtain ⟨⟨ty,op,ro,fz,h1⟩,h2⟩ := hr r List.mem_cons_self
  simp only [List.map_cons,mos,Nd.ent,readEnt,h1,readEnt_ok (fun r h => hr r (List.mem_cons_of_mem _ h)),Nd.np]
theorem readTree_ok {h : H} {t mp : Nat} {N : List Nd} {ks : Nd → List Int} (tr : TrK h t mp N ks) : readTree h t = some (N.map Nd.np) := by
 obtain ⟨cs,ty,op,ro,fz,h1⟩ := tr.root
 have h2 : h.get mp = some (.map (mos (N.map Nd.ent) 0) (N.map Nd.ent).length) := tr.nodes
 simp only [readTree,h1,h2]
 exact readEnt_ok tr.at_
def GoodT (h : H) (t : Nat) (M : List NP) : Prop := ∃ mp N ks,TrK h t mp N ks ∧ Grf (N.map Nd.np) ∧ KSpec N ks ∧ N.length ≤ 1048578 ∧ N.map Nd.np = M
open Classical in
noncomputable def wholeB (M : List NP) : Bool := decide (∀ x ∈ M,Rch M x.1)
open Classical in
noncomputable def wholeP : List V → H → Option (V × H) := fun args h => match args with
 | [.ptr (some (t,0))] => match readTree h t with
  | some M => if GoodT h t M then some (.bool (wholeB M),h) else none
  | none => none
 | _ => none
theorem wholeP_eq {h : H} {t mp : Nat} {N : List Nd} {ks : Nd → List Int} (tr : TrK h t mp N ks) (g : Grf (N.map Nd.np)) (sp : KSpec N ks) (hN : N.length ≤ 1048578) : wholeP [pP t] h = some (.bool (wholeB (N.map Nd.np)),h) := by
 unfold wholeP
 simp only [readTree_ok tr]
 rw [if_pos ⟨mp,N,ks,tr,g,sp,hN,rfl⟩]
theorem whole_ok (hmix : P.follows .mixedOrders = true) {fn : Func} (hg : P.funcs[78]? = some fn) (hc : cFn P fn = some fn78) {args : List V} {h h' : H} {v : V} {m : Mp} {w : World} {xs : List Value} (he : wholeP args h = some (v,h')) (hr : HR P m h w) (hx : VRL m args xs) (n : Nat) :
  CallsIn (FF none) n P 78 xs.toArray w (Post P m h w v h') := by
 unfold wholeP at he
 split at he
 ·rename_i t
  split at he
  ·rename_i M hM
   split at he
   ·rename_i hgood
    cases he
    obtain ⟨mp,N,ks,tr,g,sp,hN,rfl⟩ := hgood
    have := whole78 (P := P) (E := envOf P fun _ => none) tr g sp hN (ok := wholeB (N.map Nd.np)) (by simp [wholeB])
    refine nsp_prim hmix noPrim hg hc (NSp.mono this ?_) hr hx n
    rintro v h' ⟨rfl,k⟩
    exact ⟨k,fun m m' x hx => hx⟩
   ·cases he
  ·cases he
 ·cases he
structure Ft (E : Env) : Prop where
 f67 : E.fns 67 = some fn67
 f73 : E.fns 73 = some fn73
 p73 : E.prim 73 = none
 f74 : E.fns 74 = some fn74
 p74 : E.prim 74 = none
 f75 : E.fns 75 = some fn75
 p75 : E.prim 75 = none
 f76 : E.fns 76 = some fn76
 p76 : E.prim 76 = none
 f77 : E.fns 77 = some fn77
 p77 : E.prim 77 = none
 p78 : E.prim 78 = some wholeP
theorem top74 (F : Ft E) (n : Int) (h : H) : Sp P E (.func 74 [] []) [iI n] h fun v h' => v = .bool (topI n) ∧ h' = h := by
 refine Sp_fn F.f74 F.p74 (by simp [fn74]) ?_
 by_cases h1 : n = 1
 ·subst h1
  simp only [GR,evK,binV,intOp,strOp,shOp,unV,Nat.reduceLT,Nat.reduceEqDiff,Nat.reduceAdd,↓reduceIte,Nat.reduceLeDiff,reduceCtorEq,fn74,c74,r74_0]
  first | exact ⟨rfl,rfl⟩ | rfl | trivial
 ·have h1b : (n == 1) = false := by simpa using h1
  simp only [GR,evK,binV,intOp,strOp,shOp,unV,Nat.reduceLT,Nat.reduceEqDiff,Nat.reduceAdd,↓reduceIte,Nat.reduceLeDiff,reduceCtorEq,fn74,c74,r74_0,h1b]
  first | (simp [topI,h1b]; done) | exact ⟨rfl,rfl⟩
def nameB (s : List UInt8) : Bool := !(s == []) && decide (s.length ≤ 255) && !(s == [46]) && !(s == [46,46]) && !s.contains 47
def pairB (k v : List UInt8) : Bool := !(k == []) && decide (k.length ≤ 255) && decide (v.length ≤ 255)
theorem pair77 (F : Ft E) (k v : List UInt8) (h : H) : Sp P E (.func 77 [] []) [.str k,.str v] h fun r h' => r = .bool (pairB k v) ∧ h' = h := by
 refine Sp_fn F.f77 F.p77 (by simp [fn77]) ?_
 have l1 : ((k.length : Int) ≤ 255) = (k.length ≤ 255) := by apply propext; omega
 have l2 : ((v.length : Int) ≤ 255) = (v.length ≤ 255) := by apply propext; omega
 cases e1 : (k == []) <;> cases e2 : decide (k.length ≤ 255) <;> cases e3 : decide (v.length ≤ 255) <;>
 ·simp only [GR,evK,binV,intOp,strOp,shOp,unV,Nat.reduceLT,Nat.reduceEqDiff,Nat.reduceAdd,↓reduceIte,Nat.reduceLeDiff,reduceCtorEq,fn77,c77,r77_0,e1,l1,l2,e2,e3]
  first | exact ⟨by simp only [pairB,e1,e2,e3]; rfl,rfl⟩ | (simp only [pairB,e1,e2,e3]; done) | (simp [pairB,e1,e2,e3]; done)
theorem bare76 (F : Ft E) (h : H) : Sp P E (.func 76 [] []) [] h fun v h' => v = .ptr (some (h.size + 2,0)) ∧ h' = ((h.psh (mo [])).psh (mo [])).psh (.cells [iI 0,.str [],.map (some h.size),.map (some (h.size + 1))] 141 false false none) := by
 refine Sp_fn F.f76 F.p76 (by simp [fn76]) ?_
 simp only [GR,evK,binV,intOp,strOp,shOp,unV,Nat.reduceLT,Nat.reduceEqDiff,Nat.reduceAdd,↓reduceIte,Nat.reduceLeDiff,reduceCtorEq,fn76,c76,r76_0,psh_size]
 rfl
theorem contains_take {s : List UInt8} {k : Nat} (hk : k < s.length) (hn : (s.take k).contains 47 = false) : (s.take (k + 1)).contains 47 = (s[k] == 47) := by
 rw [List.take_succ_eq_append_getElem hk]
 simp only [List.contains_eq_mem,List.mem_append,List.mem_singleton] at hn ⊢
 have h1 : ¬ (47 : UInt8) ∈ s.take k := by simpa using hn
 simp only [h1,false_or]
 by_cases h2 : s[k] = 47
 ·simp [h2]
 ·have h3 : ¬ (47 : UInt8) = s[k] := fun h => h2 h.symm
  simp [h2,h3]
theorem contains_more {s : List UInt8} {k : Nat} (h : (s.take k).contains 47 = true) : s.contains 47 = true := by
 simp only [List.contains_eq_mem,decide_eq_true_eq] at h ⊢
 exact List.mem_of_mem_take h
theorem u8_eq (b : UInt8) : (((b.toNat : Nat) : Int) == 47) = (b == 47) := by
 rw [Bool.eq_iff_iff]
 simp only [beq_iff_eq]
 constructor
 ·intro h
  have : b.toNat = 47 := by omega
  exact UInt8.toNat_inj.1 (by simpa using this)
 ·rintro rfl; rfl
theorem nameB_head {s : List UInt8} (h1 : (s == []) = false) (h2 : s.length ≤ 255) (h3 : (s == [46]) = false) (h4 : (s == [46,46]) = false) : nameB s = !s.contains 47 := by
 unfold nameB; rw [h1,h3,h4,decide_eq_true h2]; simp
theorem loop75 {h : H} {b : Nat} {s : List UInt8} (hg : h.get b = some (.cells (s.map fun b => .int .u8 b.toNat) 5 true false (some 0))) (hl : s.length ≤ 255) {Q : V → H → Prop} (hQ : ∀ c,s.contains 47 = c → Q (.bool (!c)) h) :
  ∀ (d k : Nat) (ρ : Nat → V),s.length - k = d → k ≤ s.length → ρ 21 = .slice (some (b,0)) s.length s.length true → ρ 22 = iI s.length → ρ 23 = iI k → (s.take k).contains 47 = false →
   XL P E none 30 b75_5 [.b 0,.c (.seq (.region [⟨some 2,.mv (.k (.bool true)),none,0,[2]⟩]) (.ret))] ρ h (Fin [.t 2] Q) := by
 intro d
 induction d with
 | zero =>
  intro k ρ hd hk q21 q22 q23 hn
  have hke : ¬ k < s.length := by omega
  rw [List.take_of_length_le (by omega)] at hn
  rw [u75_5]
  simp only [GR,evK,binV,intOp,strOp,unV,Nat.reduceLT,Nat.reduceEqDiff,↓reduceIte,q22,q23,Int.ofNat_lt,hke]
  exact hQ false hn
 | succ d ih =>
  intro k ρ hd hk q21 q22 q23 hn
  have hke : k < s.length := by omega
  have hget : (s.map fun b => V.int .u8 b.toNat)[k]? = some (.int .u8 s[k].toNat) := by simp [hke]
  have hw : IntKind.i64.wrap ((k : Int) + 1) = ((k + 1 : Nat) : Int) := wrap_nat (n := k + 1) (by omega)
  have ht := contains_take hke hn
  rw [u75_5]
  cases he : s[k] == 47 with
  | true =>
   rw [he] at ht
   simp only [GR,evK,binV,intOp,strOp,unV,Nat.reduceLT,Nat.reduceEqDiff,↓reduceIte,q22,q23,Int.ofNat_lt,hke,r75_2,q21,Int.natCast_nonneg,Int.toNat_natCast,hg,Nat.mul_one,Nat.zero_add,hget,r75_3,u8_eq,he]
   exact hQ true (contains_more ht)
  | false =>
   rw [he] at ht
   simp only [GR,evK,binV,intOp,strOp,unV,Nat.reduceLT,Nat.reduceEqDiff,↓reduceIte,q22,q23,Int.ofNat_lt,hke,r75_2,q21,Int.natCast_nonneg,Int.toNat_natCast,hg,Nat.mul_one,Nat.zero_add,hget,r75_3,u8_eq,he,r75_4,hw]
   exact ih (k + 1) _ (by omega) (by omega) q21 q22 rfl ht
theorem name75 (F : Ft E) (s : List UInt8) (h : H) : Sp P E (.func 75 [] []) [.str s] h fun v h' => v = .bool (nameB s) ∧ Kp h h' := by
 refine Sp_fn F.f75 F.p75 (by simp [fn75]) ?_
 have l1 : ((255 : Int) < (s.length : Int)) = (255 < s.length) := by apply propext; omega
 cases e1 : (s == []) with
 | true =>
  simp only [GR,evK,binV,intOp,strOp,unV,Nat.reduceLT,Nat.reduceEqDiff,↓reduceIte,fn75,c75,r75_0,e1]
  exact ⟨by simp [nameB,e1],Keeps.refl _ _⟩
 | false =>
  by_cases e2 : 255 < s.length
  ·have : ¬ s.length ≤ 255 := by omega
   simp only [GR,evK,binV,intOp,strOp,unV,Nat.reduceLT,Nat.reduceEqDiff,↓reduceIte,fn75,c75,r75_0,e1,gt_iff_lt,l1,e2]
   exact ⟨by simp [nameB,this],Keeps.refl _ _⟩
  ·cases e3 : (s == [46]) with
   | true =>
    simp only [GR,evK,binV,intOp,strOp,unV,Nat.reduceLT,Nat.reduceEqDiff,↓reduceIte,fn75,c75,r75_0,e1,gt_iff_lt,l1,e2,e3]
    exact ⟨by simp [nameB,e3],Keeps.refl _ _⟩
   | false =>
    cases e4 : (s == [46,46]) with
    | true =>
     simp only [GR,evK,binV,intOp,strOp,unV,Nat.reduceLT,Nat.reduceEqDiff,↓reduceIte,fn75,c75,r75_0,e1,gt_iff_lt,l1,e2,e3,e4]
     exact ⟨by simp [nameB,e4],Keeps.refl _ _⟩
    | false =>
     simp only [GR,evK,binV,intOp,strOp,unV,Nat.reduceLT,Nat.reduceEqDiff,↓reduceIte,fn75,c75,r75_0,e1,gt_iff_lt,l1,e2,e3,e4,r75_1]
     refine loop75 (s := s) (psh_same _ _) (by omega) ?_ _ 0 _ rfl (Nat.zero_le _) rfl rfl rfl (by simp)
     intro c hc
     exact ⟨by rw [nameB_head e1 (by omega) e3 e4,hc],Keeps.psh (Nat.le_refl _) _⟩
structure Attr where
 key : List UInt8
 value : List UInt8
 deriving DecidableEq
def Attr.cells (x : Attr) : List V := [.str x.key,.str x.value]
theorem Attr.len (x : Attr) : x.cells.length = 2 := rfl
theorem Attr.g0 (x : Attr) : x.cells[0]? = some (.str x.key) := rfl
theorem Attr.g1 (x : Attr) : x.cells[1]? = some (.str x.value) := rfl
theorem Attr.r0 (x : Attr) : getR x.cells 0 2 = x.cells := rfl
theorem Attr.eqv (h : H) (x y : Attr) : eqV h (.fcons 0 1 false .str (.fcons 1 1 false .str .fnil)) (.agg x.cells) (.agg y.cells) = some (decide (x = y)) := (fcons_step rfl rfl (str_step _ _ _) (fcons_step rfl rfl (str_step _ _ _) (fnil_step _ _ _))).trans (congrArg some (decide_eq_decide.2 ⟨fun e => by cases x; cases y; simpa [and_assoc] using e,fun e => by subst e; simp⟩))
structure Reply where
 err : Int
 stamp : Stamp
 node : Int
 deriving DecidableEq
def Reply.cells (x : Reply) : List V := [iI x.err,iI x.stamp.time,iI x.stamp.site,iI x.node]
theorem Reply.len (x : Reply) : x.cells.length = 4 := rfl
theorem Reply.g0 (x : Reply) : x.cells[0]? = some (iI x.err) := rfl
theorem Reply.g1 (x : Reply) : x.cells[1]? = some (iI x.stamp.time) := rfl
theorem Reply.g2 (x : Reply) : x.cells[2]? = some (iI x.stamp.site) := rfl
theorem Reply.g3 (x : Reply) : x.cells[3]? = some (iI x.node) := rfl
theorem Reply.r0 (x : Reply) : getR x.cells 0 4 = x.cells := rfl
theorem Reply.eqv (h : H) (x y : Reply) : eqV h (.fcons 0 1 false .int (.fcons 1 2 true (.fcons 0 1 false .int (.fcons 1 1 false .int .fnil)) (.fcons 3 1 false .int .fnil))) (.agg x.cells) (.agg y.cells) = some (decide (x = y)) := (fcons_step rfl rfl (int_step _ _ _ _) (fcons_step rfl rfl (Stamp.eqv h _ _) (fcons_step rfl rfl (int_step _ _ _ _) (fnil_step _ _ _)))).trans (congrArg some (decide_eq_decide.2 ⟨fun e => by cases x; cases y; simpa [and_assoc] using e,fun e => by subst e; simp⟩))
structure Row where
 session : Int
 request : Int
 reply : Reply
 deriving DecidableEq
def Row.cells (x : Row) : List V := [iI x.session,iI x.request,iI x.reply.err,iI x.reply.stamp.time,iI x.reply.stamp.site,iI x.reply.node]
theorem Row.len (x : Row) : x.cells.length = 6 := rfl
theorem Row.g0 (x : Row) : x.cells[0]? = some (iI x.session) := rfl
theorem Row.g1 (x : Row) : x.cells[1]? = some (iI x.request) := rfl
theorem Row.g2 (x : Row) : x.cells[2]? = some (iI x.reply.err) := rfl
theorem Row.r3_2 (x : Row) : getR x.cells 3 2 = x.reply.stamp.cells := rfl
theorem Row.g3 (x : Row) : x.cells[3]? = some (iI x.reply.stamp.time) := rfl
theorem Row.g4 (x : Row) : x.cells[4]? = some (iI x.reply.stamp.site) := rfl
theorem Row.g5 (x : Row) : x.cells[5]? = some (iI x.reply.node) := rfl
theorem Row.r0 (x : Row) : getR x.cells 0 6 = x.cells := rfl
theorem Row.eqv (h : H) (x y : Row) : eqV h (.fcons 0 1 false .int (.fcons 1 1 false .int (.fcons 2 4 true (.fcons 0 1 false .int (.fcons 1 2 true (.fcons 0 1 false .int (.fcons 1 1 false .int .fnil)) (.fcons 3 1 false .int .fnil))) .fnil))) (.agg x.cells) (.agg y.cells) = some (decide (x = y)) := (fcons_step rfl rfl (int_step _ _ _ _) (fcons_step rfl rfl (int_step _ _ _ _) (fcons_step rfl rfl (Reply.eqv h _ _) (fnil_step _ _ _)))).trans (congrArg some (decide_eq_decide.2 ⟨fun e => by cases x; cases y; simpa [and_assoc] using e,fun e => by subst e; simp⟩))
structure TNode where
 node : Int
 parent : Int
 name : List UInt8
 attrs : V
def TNode.cells (x : TNode) : List V := [iI x.node,iI x.parent,.str x.name,x.attrs]
theorem TNode.len (x : TNode) : x.cells.length = 4 := rfl
theorem TNode.g0 (x : TNode) : x.cells[0]? = some (iI x.node) := rfl
theorem TNode.g1 (x : TNode) : x.cells[1]? = some (iI x.parent) := rfl
theorem TNode.g2 (x : TNode) : x.cells[2]? = some (.str x.name) := rfl
theorem TNode.g3 (x : TNode) : x.cells[3]? = some (x.attrs) := rfl
theorem TNode.r0 (x : TNode) : getR x.cells 0 4 = x.cells := rfl
structure View where
 at_ : Addr
 up : Bool
 leads : Bool
 booted : Bool
 told : Int
 first : Int
 chosen : V
 epoch : Int
 clock : Int
 frontier : Int
 vector : Vec
 nodes : V
 rows : V
def View.cells (x : View) : List V := [iI x.at_.group,iI x.at_.replica,.bool x.up,.bool x.leads,.bool x.booted,iI x.told,iI x.first,x.chosen,iI x.epoch,iI x.clock,iI x.frontier,iI x.vector.v0,iI x.vector.v1,iI x.vector.v2,iI x.vector.v3,iI x.vector.v4,iI x.vector.v5,iI x.vector.v6,iI x.vector.v7,x.nodes,x.rows]
theorem View.len (x : View) : x.cells.length = 21 := rfl
theorem View.g0 (x : View) : x.cells[0]? = some (iI x.at_.group) := rfl
theorem View.g1 (x : View) : x.cells[1]? = some (iI x.at_.replica) := rfl
theorem View.g2 (x : View) : x.cells[2]? = some (.bool x.up) := rfl
theorem View.g3 (x : View) : x.cells[3]? = some (.bool x.leads) := rfl
theorem View.g4 (x : View) : x.cells[4]? = some (.bool x.booted) := rfl
theorem View.g5 (x : View) : x.cells[5]? = some (iI x.told) := rfl
theorem View.g6 (x : View) : x.cells[6]? = some (iI x.first) := rfl
theorem View.g7 (x : View) : x.cells[7]? = some (x.chosen) := rfl
theorem View.g8 (x : View) : x.cells[8]? = some (iI x.epoch) := rfl
theorem View.g9 (x : View) : x.cells[9]? = some (iI x.clock) := rfl
theorem View.g10 (x : View) : x.cells[10]? = some (iI x.frontier) := rfl
theorem View.g11 (x : View) : x.cells[11]? = some (iI x.vector.v0) := rfl
theorem View.g12 (x : View) : x.cells[12]? = some (iI x.vector.v1) := rfl
theorem View.g13 (x : View) : x.cells[13]? = some (iI x.vector.v2) := rfl
theorem View.g14 (x : View) : x.cells[14]? = some (iI x.vector.v3) := rfl
theorem View.g19 (x : View) : x.cells[19]? = some (x.nodes) := rfl
theorem View.g20 (x : View) : x.cells[20]? = some (x.rows) := rfl
theorem View.r0 (x : View) : getR x.cells 0 21 = x.cells := rfl
structure VFlat where
 at_ : Addr
 up : Bool
 leads : Bool
 booted : Bool
 told : Int
 first : Int
 epoch : Int
 clock : Int
 frontier : Int
 vector : Vec
 deriving DecidableEq
def VFlat.cells (x : VFlat) : List V := [iI x.at_.group,iI x.at_.replica,.bool x.up,.bool x.leads,.bool x.booted,iI x.told,iI x.first,iI x.epoch,iI x.clock,iI x.frontier,iI x.vector.v0,iI x.vector.v1,iI x.vector.v2,iI x.vector.v3,iI x.vector.v4,iI x.vector.v5,iI x.vector.v6,iI x.vector.v7]
theorem VFlat.len (x : VFlat) : x.cells.length = 18 := rfl
theorem VFlat.g0 (x : VFlat) : x.cells[0]? = some (iI x.at_.group) := rfl
theorem VFlat.g1 (x : VFlat) : x.cells[1]? = some (iI x.at_.replica) := rfl
theorem VFlat.g2 (x : VFlat) : x.cells[2]? = some (.bool x.up) := rfl
theorem VFlat.g3 (x : VFlat) : x.cells[3]? = some (.bool x.leads) := rfl
theorem VFlat.g4 (x : VFlat) : x.cells[4]? = some (.bool x.booted) := rfl
theorem VFlat.g5 (x : VFlat) : x.cells[5]? = some (iI x.told) := rfl
theorem VFlat.g6 (x : VFlat) : x.cells[6]? = some (iI x.first) := rfl
theorem VFlat.g7 (x : VFlat) : x.cells[7]? = some (iI x.epoch) := rfl
theorem VFlat.g8 (x : VFlat) : x.cells[8]? = some (iI x.clock) := rfl
theorem VFlat.g9 (x : VFlat) : x.cells[9]? = some (iI x.frontier) := rfl
theorem VFlat.r10_8 (x : VFlat) : getR x.cells 10 8 = x.vector.cells := rfl
theorem VFlat.g10 (x : VFlat) : x.cells[10]? = some (iI x.vector.v0) := rfl
theorem VFlat.g11 (x : VFlat) : x.cells[11]? = some (iI x.vector.v1) := rfl
theorem VFlat.g12 (x : VFlat) : x.cells[12]? = some (iI x.vector.v2) := rfl
theorem VFlat.g13 (x : VFlat) : x.cells[13]? = some (iI x.vector.v3) := rfl
theorem VFlat.g14 (x : VFlat) : x.cells[14]? = some (iI x.vector.v4) := rfl
theorem VFlat.r0 (x : VFlat) : getR x.cells 0 18 = x.cells := rfl
def flatOf (x : Entry) : Flat := ⟨x.kind,x.session,x.request,x.op,x.origin,x.seq,x.epoch,x.frm,x.vector,x.clock,x.part.snap,x.part.index,x.part.many,x.site,x.sponsor,x.length⟩
def Str (h : H) (v : V) (s : List UInt8) : Prop :=
 (∃ c o,v = .slice none 0 c o ∧ s = []) ∨ ∃ p n c o cs,v = .slice (some p) n c o ∧ elemsV h 1 n (.slice (some p) n c o) = some cs ∧ bytesV cs = some s
theorem elems_none (h : H) (c : Nat) (o : Bool) : elemsV h 1 0 (.slice none 0 c o) = some [] := rfl
structure DEnt where
 flat : Flat
 ops : List Opr
 data : List UInt8
 deriving DecidableEq
structure DNode where
 node : Int
 parent : Int
 name : List UInt8
 attrs : List Attr
 deriving DecidableEq
structure EIn (h : H) (x : Entry) (d : DEnt) : Prop where
 flat : flatOf x = d.flat
 ops : Sl h 8 x.ops (d.ops.map Opr.cells)
 len : d.ops.length ≤ 1048576
 dat : Str h x.part.data d.data
 dlen : d.data.length ≤ 1048576
structure NIn (h : H) (x : TNode) (d : DNode) : Prop where
 node : x.node = d.node
 parent : x.parent = d.parent
 name : x.name = d.name
 attrs : Sl h 2 x.attrs (d.attrs.map Attr.cells)
 len : d.attrs.length ≤ 1048576
structure WV where
 x : View
 es : List (Entry × DEnt)
 ns : List (TNode × DNode)
 rs : List Row
structure VIn (h : H) (v : WV) : Prop where
 chosen : Sl h 56 v.x.chosen (v.es.map fun p => p.1.cells)
 ents : ∀ p ∈ v.es,EIn h p.1 p.2
 elen : v.es.length ≤ 1048576
 nodes : Sl h 4 v.x.nodes (v.ns.map fun p => p.1.cells)
 nds : ∀ p ∈ v.ns,NIn h p.1 p.2
 nlen : v.ns.length ≤ 1048576
 rows : Sl h 6 v.x.rows (v.rs.map Row.cells)
 rlen : v.rs.length ≤ 1048576
theorem Str.keep {h h' : H} {v : V} {s : List UInt8} (a : Str h v s) (hk : Kp h h') : Str h' v s := by
 rcases a with a | ⟨p,n,c,o,cs,h1,h2,h3⟩
 ·exact .inl a
 ·refine .inr ⟨p,n,c,o,cs,h1,?_,h3⟩
  obtain ⟨i,q⟩ := p
  rw [← h2]
  simp only [elemsV]
  cases hg : h.get i with
  | none =>
   rw [elemsV] at h2
   simp [hg] at h2
   simp [h2.1]
  | some ob => rw [hk.of hg]
theorem EIn.keep {h h' : H} {x : Entry} {d : DEnt} (a : EIn h x d) (hk : Kp h h') : EIn h' x d := ⟨a.flat,a.ops.keep hk,a.len,a.dat.keep hk,a.dlen⟩
theorem NIn.keep {h h' : H} {x : TNode} {d : DNode} (a : NIn h x d) (hk : Kp h h') : NIn h' x d := ⟨a.node,a.parent,a.name,a.attrs.keep hk,a.len⟩
theorem VIn.keep {h h' : H} {v : WV} (a : VIn h v) (hk : Kp h h') : VIn h' v := ⟨a.chosen.keep hk,fun p hp => (a.ents p hp).keep hk,a.elen,a.nodes.keep hk,fun p hp => (a.nds p hp).keep hk,a.nlen,a.rows.keep hk,a.rlen⟩
structure NdF (h : H) (r : Nd) (ks : List Int) : Prop where
 cell : cC h r.b [iI r.par,.str r.name,.map (some r.am),.map (some r.km)] 141
 attr : ∃ es cl,h.get r.am = some (.map es cl) ∧ ∀ e ∈ es, ∃ s,e.1 = .str s
 kids : h.get r.km = some (mo (ks.map kidE))
structure TrG (lo : Nat) (h : H) (mp : Nat) (N : List Nd) (ks : Nd → List Int) : Prop where
 nodes : h.get mp = some (mo (N.map Nd.ent))
 nd : (N.map Nd.id).Nodup
 at_ : ∀ r ∈ N,NdF h r (ks r)
 amkm : ∀ r ∈ N, ∀ r' ∈ N,r.am ≠ r'.km
 ammp : ∀ r ∈ N,r.am ≠ mp
 kmmp : ∀ r ∈ N,r.km ≠ mp
 kmk : ∀ r ∈ N, ∀ r' ∈ N,r.km = r'.km → r = r'
 low : lo ≤ mp ∧ ∀ r ∈ N,lo ≤ r.b ∧ lo ≤ r.am ∧ lo ≤ r.km
def Rt (h : H) (t mp : Nat) : Prop := ∃ cs ty op ro fz,h.get t = some (.cells (.map (some mp) :: cs) ty op ro fz)
def MCk (h h' : H) : Prop := ∀ i o,h.get i = some o → (∀ es cl,o ≠ .map es cl) → h'.get i = some o
theorem MCk.kp {h h' : H} (k : Kp h h') : MCk h h' := fun _ _ hg _ => k.of hg
theorem MCk.trans {a b c : H} (x : MCk a b) (y : MCk b c) : MCk a c := fun i o hg hn => y i o (x i o hg hn) hn
theorem MCk.set {h : H} {i : Nat} {es es' : List (V × V × Nat)} {cl cl' : Nat} (hg : h.get i = some (.map es cl)) : MCk h (h.set i (.map es' cl')) := fun j o hj hn => by
 rw [hset_other (H.get_lt hg) (by rintro rfl; rw [hg] at hj; cases hj; exact hn _ _ rfl)]; exact hj
theorem Rt.mc {h h' : H} {t mp : Nat} (a : Rt h t mp) (k : MCk h h') : Rt h' t mp := by
 obtain ⟨cs,ty,op,ro,fz,h1⟩ := a
 exact ⟨cs,ty,op,ro,fz,k _ _ h1 (by intro _ _ e; cases e)⟩
theorem TrG.trk {lo : Nat} {h : H} {t mp : Nat} {N : List Nd} {ks : Nd → List Int} (a : TrG lo h mp N ks) (r : Rt h t mp) : TrK h t mp N ks :=
 ⟨r,a.nodes,a.nd,fun r hr => ⟨⟨_,_,_,_,(a.at_ r hr).cell⟩,(a.at_ r hr).kids⟩⟩
theorem TrG.same {lo : Nat} {h h' : H} {mp : Nat} {N : List Nd} {ks : Nd → List Int} (a : TrG lo h mp N ks) (hs : ∀ i o,h.get i = some o → h'.get i = some o) : TrG lo h' mp N ks := by
 refine { a with nodes := hs _ _ a.nodes,at_ := fun r hr => ?_ }
 obtain ⟨es,cl,h2,h3⟩ := (a.at_ r hr).attr
 exact ⟨hs _ _ (a.at_ r hr).cell,⟨es,cl,hs _ _ h2,h3⟩,hs _ _ (a.at_ r hr).kids⟩
theorem TrG.kp {lo : Nat} {h h' : H} {mp : Nat} {N : List Nd} {ks : Nd → List Int} (a : TrG lo h mp N ks) (k : Kp h h') : TrG lo h' mp N ks := a.same fun _ _ hg => k.of hg
theorem TrG.setA {lo : Nat} {h : H} {mp : Nat} {N : List Nd} {ks : Nd → List Int} (a : TrG lo h mp N ks) {r : Nd} (hr : r ∈ N) {es : List (V × V × Nat)} {cl : Nat} (hes : ∀ e ∈ es, ∃ s,e.1 = .str s) : TrG lo (h.set r.am (.map es cl)) mp N ks := by
 obtain ⟨es0,cl0,g0,_⟩ := (a.at_ r hr).attr
 have hlt := H.get_lt g0
 have hs : ∀ {i o},h.get i = some o → r.am ≠ i → (h.set r.am (.map es cl)).get i = some o := fun {i o} hg hne => by rw [hset_other hlt hne]; exact hg
 have hc : ∀ {i vs ty op ro fz},h.get i = some (.cells vs ty op ro fz) → r.am ≠ i := by
  rintro i vs ty op ro fz hg rfl; rw [g0] at hg; cases hg
 refine { a with nodes := hs a.nodes (a.ammp r hr),at_ := fun r' hr' => ?_ }
 refine ⟨hs (a.at_ r' hr').cell (hc (a.at_ r' hr').cell),?_,hs (a.at_ r' hr').kids (a.amkm r hr r' hr')⟩
 by_cases he : r.am = r'.am
 ·exact ⟨es,cl,by rw [← he]; exact hset_same hlt _,hes⟩
 ·obtain ⟨es1,cl1,g1,q1⟩ := (a.at_ r' hr').attr
  exact ⟨es1,cl1,hs g1 he,q1⟩
theorem set_self {h : H} {b : Nat} {o : Obj} (g0 : h.get b = some o) : ∀ i x,h.get i = some x → (h.set b o).get i = some x := fun i x hg => by
 by_cases he : b = i
 ·subst he
  rw [g0] at hg; cases hg
  exact hset_same (H.get_lt g0) _
 ·rw [hset_other (H.get_lt g0) he]; exact hg
theorem TrG.new {lo : Nat} {h h' : H} {mp : Nat} {N : List Nd} {ks : Nd → List Int} (a : TrG lo h mp N ks) (hlo : lo ≤ h.size) {id par : Int} {name : List UInt8} (hid : id ∉ N.map Nd.id) (hks : ∀ r,ks r = [])
  (ho : ∀ i o,i ≠ mp → h.get i = some o → h'.get i = some o) (hm : h'.get mp = some (mo ((N ++ [Nd.mk id par name (h.size + 2) h.size (h.size + 1)]).map Nd.ent)))
  (h1 : h'.get h.size = some (mo [])) (h2 : h'.get (h.size + 1) = some (mo [])) (h3 : cC h' (h.size + 2) [iI par,.str name,.map (some h.size),.map (some (h.size + 1))] 141) :
  TrG lo h' mp (N ++ [Nd.mk id par name (h.size + 2) h.size (h.size + 1)]) ks := by
 have hmp := H.get_lt a.nodes
 have lt : ∀ r ∈ N,r.b < h.size ∧ r.am < h.size ∧ r.km < h.size := fun r hr => by
  obtain ⟨es,cl,q1,_⟩ := (a.at_ r hr).attr
  exact ⟨H.get_lt (a.at_ r hr).cell,H.get_lt q1,H.get_lt (a.at_ r hr).kids⟩
 have hc : ∀ {i vs ty op ro fz},h.get i = some (.cells vs ty op ro fz) → i ≠ mp := by
  rintro i vs ty op ro fz hg rfl; rw [a.nodes] at hg; cases hg
 refine ⟨hm,?_,fun r hr => ?_,fun r hr r' hr' => ?_,fun r hr => ?_,fun r hr => ?_,fun r hr r' hr' => ?_,a.low.1,fun r hr => ?_⟩
 ·rw [List.map_append]
  exact List.nodup_append.2 ⟨a.nd,by simp,by intro x hx y hy; simp at hy; subst hy; rintro rfl; exact hid hx⟩
 ·rcases List.mem_append.1 hr with hr | hr
  ·obtain ⟨es,cl,q1,q2⟩ := (a.at_ r hr).attr
   exact ⟨ho _ _ (hc (a.at_ r hr).cell) (a.at_ r hr).cell,⟨es,cl,ho _ _ (a.ammp r hr) q1,q2⟩,ho _ _ (a.kmmp r hr) (a.at_ r hr).kids⟩
  ·rw [List.mem_singleton.1 hr]
   exact ⟨h3,⟨[],0,h1,by simp⟩,by rw [hks]; exact h2⟩
 ·rcases List.mem_append.1 hr with hr | hr <;> rcases List.mem_append.1 hr' with hr' | hr'
  ·exact a.amkm r hr r' hr'
  ·rw [List.mem_singleton.1 hr']; have := lt r hr; simp only; omega
  ·rw [List.mem_singleton.1 hr]; have := lt r' hr'; simp only; omega
  ·rw [List.mem_singleton.1 hr,List.mem_singleton.1 hr']; simp
 ·rcases List.mem_append.1 hr with hr | hr
  ·exact a.ammp r hr
  ·rw [List.mem_singleton.1 hr]; simp only; omega
 ·rcases List.mem_append.1 hr with hr | hr
  ·exact a.kmmp r hr
  ·rw [List.mem_singleton.1 hr]; simp only; omega
 ·rcases List.mem_append.1 hr with hr | hr <;> rcases List.mem_append.1 hr' with hr' | hr'
  ·exact a.kmk r hr r' hr'
  ·rw [List.mem_singleton.1 hr']; have := lt r hr; simp only; omega
  ·rw [List.mem_singleton.1 hr]; have := lt r' hr'; simp only; omega
  ·rw [List.mem_singleton.1 hr,List.mem_singleton.1 hr']; simp
 ·rcases List.mem_append.1 hr with hr | hr
  ·exact a.low.2 r hr
  ·rw [List.mem_singleton.1 hr]; simp only; omega
theorem findK_str {k : List UInt8} : ∀ {es : List (V × V × Nat)} {i : Nat},(∀ e ∈ es, ∃ s,e.1 = .str s) → ∃ r,findK .str (.str k) es i = some r
 | [],i,_ => ⟨none,rfl⟩
 | e :: es,i,h => by
  obtain ⟨s,hs⟩ := h e List.mem_cons_self
  obtain ⟨r,hr⟩ := findK_str (k := k) (es := es) (i := i + 1) fun e he => h e (List.mem_cons_of_mem _ he)
  cases hb : k == s with
  | true => exact ⟨_,by simp only [findK,hs,sameK,hb]; rfl⟩
  | false => exact ⟨r,by simp only [findK,hs,sameK,hb]; exact hr⟩
end Go.AM.Sc
