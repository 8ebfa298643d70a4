/- My own texts, laid for this claim. -/
import Derived.Test.YtpfoofcallfjjaaGreatDoorAmNToAmQ
import Derived.TacticsIn
set_option linter.unusedSimpArgs false
set_option linter.unusedVariables false
namespace Go.AM
def FF (ro : Option Nat) : Fence := { Fence.wide with round := ro }
def Post (P : Program) (m : Mp) (h : H) (w : World) (v : V) (h' : H) : Ending → World → Prop :=
 fun e w' => ∃ m' x,e = .returned x ∧ VR m' v x ∧ HR P m' h' w' ∧ Ext m h w m' h' w'
structure ApOK (P : Program) (ap : Ap) : Prop where
 fn : ∀ {g : Nat} {fs cs args : List V} {h : H} {v : V} {h' : H} {m : Mp} {w : World} {xs : List Value},ap (.func g fs cs) args h = some (v,h') → HR P m h w → VRL m (fs ++ args ++ cs) xs →
  (∃ fn, P.funcs[g]? = some fn ∧ fn.body.isNone = false ∧ fn.name ≠ "runtime.NumGoroutine") ∧ ∀ n, CallsIn (FF none) n P g xs.toArray w (Post P m h w v h')
 rnd : ∀ {l : Nat} {args : List V} {h : H} {v : V} {h' : H} {m : Mp} {w : World} {xs : List Value} {R sh e : Nat},ap (.yield l) args h = some (v,h') → HR P m h w → m l = some (R,sh,e) → VRL m args xs →
  ∃ L : Loop,w.heap[R]? = some (.loop L) ∧ xs.length = L.params.size ∧
   ∀ n,RoundIn (FF none) n P R L.fn ((L.params.zip xs.toArray).foldl (fun tmps (t,a) => tmps.setIfInBounds t a) L.tmps) L.assign L.body w (Post P m h w v h')
 oth : ∀ {f : V} {args : List V} {h : H} {r : V × H},ap f args h = some r → (∃ g fs cs,f = .func g fs cs) ∨ ∃ l,f = .yield l
variable {P : Program} {m : Mp} {h : H} {w : World} {T : List V} {a : Act} {o : Oper} {k : K} {ap : Ap}
theorem callsIn_FF {ro : Option Nat} {n : Nat} {f : FuncId} {args : Array Value} {R : Ending → World → Prop} (hc : CallsIn (FF none) n P f args w R) : CallsIn (FF ro) n P f args w R := hc
theorem roundIn_FF {ro : Option Nat} {n : Nat} {l : Nat} {f : FuncId} {t : Array Value} {x y : Code} {R : Ending → World → Prop} (hc : RoundIn (FF none) n P l f t x y w R) : RoundIn (FF ro) n P l f t x y w R := hc
def evR (P : Program) (ap : Ap) (T : List V) (h : H) (k : K) : Option (V × H) :=
 match evK P T h k with
 | some (.pur v) => some (v,h)
 | some (.rd v) => some (v,h)
 | some (.eff v h') => some (v,h')
 | some (.call f args) => ap f args h
 | none => none
theorem run_callFunc_enter {g : Nat} {fn : Func} {args : Array Value} (hf : P.funcs[g]? = some fn) (hb : fn.body.isNone = false) (hn : fn.name ≠ "runtime.NumGoroutine") :
  (callFunc g args).run P w = .ok (.enter g args) w := by
 have h1 : fn.body ≠ none := by intro h; simp [h] at hb
 simp [callFunc,hf,hn,h1]
theorem cK_noDefer (hc : cK P o.op = some k) : ∀ c,o.op ≠ .defer c := by
 intro c e; rw [e] at hc; simp [cK] at hc
theorem op_step (ha : ApOK P ap) (cx : Cx P m h w T a) (hc : cK P o.op = some k) {v : V} {h' : H} (he : evR P ap T h k = some (v,h')) {ro : Option Nat} {n : Nat} {K : Act → World → Prop} {Q : Exit → Act → World → Prop}
  (hK : ∀ m' w' x,VR m' v x → HR P m' h' w' → Ext m h w m' h' w' → K (a.put o.dst x) w') : o.wpIn (FF ro) n P a w K Q := by
 have hs := opSound cx hc
 unfold Snd at hs
 have yld : ∀ r x w' m',Yld r x w' → VR m' v x → HR P m' h' w' → Ext m h w m' h' w' → o.uponIn (FF ro) n P a K Q r := by
  intro r x w' m' hy h1 h2 h3
  rcases hy with rfl | ⟨rfl,rfl⟩
  ·exact hK m' w' x h1 h2 h3
  ·exact hK m' w' undef h1 h2 h3
 refine ⟨fun _ _ => trivial,?_⟩
 rw [Oper.semAt_eq _ _ _ (cK_noDefer hc)]
 unfold evR at he
 split at he
 ·rename_i v' hk
  cases he
  obtain ⟨x,h1,h2⟩ := hs _ hk
  exact yld _ x w m h2 h1 cx.hr (Ext.refl _ _ _)
 ·rename_i v' hk
  cases he
  obtain ⟨x,h1,h2⟩ := hs _ hk
  exact yld _ x w m h2 h1 cx.hr (Ext.refl _ _ _)
 ·rename_i v' h'' hk
  cases he
  obtain ⟨m',w',x,h1,h2,h3,h4⟩ := hs _ hk
  exact yld _ x w' m' h4 h3 h1 h2
 ·rename_i f args hk
  have hr := hs _ hk
  simp only [ResOK] at hr
  rcases ha.oth he with ⟨g,fs,cs,rfl⟩ | ⟨l,rfl⟩
  ·obtain ⟨xs,h1,h2⟩ := hr
   obtain ⟨⟨fn,f1,f2,f3⟩,f4⟩ := ha.fn he cx.hr h1
   rw [h2,run_callFunc_enter f1 f2 f3,Oper.uponIn_enter]
   refine ⟨(fun h => nomatch h),?_⟩
   refine CallsIn.mono (callsIn_FF (f4 (n - 1))) fun e w' hp => ?_
   obtain ⟨m',x,rfl,p2,p3,p4⟩ := hp
   exact hK m' w' x p2 p3 p4
  ·obtain ⟨R,sh,e,xs,h1,h2,h3⟩ := hr
   obtain ⟨L,f1,f2,f4⟩ := ha.rnd he cx.hr h1 h2
   have hrun : (Instr.yield R xs.toArray).run P w = .ok (.round R L.fn ((L.params.zip xs.toArray).foldl (fun tmps (t,a) => tmps.setIfInBounds t a) L.tmps) L.assign L.body) w := by
    have : (Instr.getLoop R).run P w = .ok L w := by
     simp [Instr.getLoop,run_getObj (P := P) f1 (by intros; simp)]
    simp [Instr.yield,this,f2]
   rw [h3,hrun,Oper.uponIn_round]
   refine ⟨(fun h => nomatch h),?_⟩
   refine RoundIn.mono (roundIn_FF (f4 (n - 1))) fun e w' hp => ?_
   obtain ⟨m',x,rfl,p2,p3,p4⟩ := hp
   exact hK m' w' x p2 p3 p4
 ·cases he
theorem VR.bool_inv {v : V} {b : Bool} (hv : VR m v (.bool b)) : v = .bool b := by
 cases v with
 | bool c => cases hv; rfl
 | int k n => cases hv
 | str s => cases hv
 | ptr p => cases p with
  | none => cases hv
  | some p => obtain ⟨_,_,_,_,h⟩ := hv; cases h
 | slice p l c q => cases p with
  | none => cases hv
  | some p => obtain ⟨_,_,_,_,_,h,_⟩ := hv; cases h
 | map p => cases p with
  | none => cases hv
  | some p => obtain ⟨_,_,_,_,h⟩ := hv; cases h
 | func f fs cs => obtain ⟨_,_,_,_,h⟩ := hv; cases h
 | yield l => obtain ⟨_,_,_,_,h⟩ := hv; cases h
 | nilFunc => cases hv
 | iface t u => obtain ⟨_,_,h⟩ := hv; cases h
 | nilIface => cases hv
 | agg cs => obtain ⟨_,_,h⟩ := hv; cases h
 | tup cs => obtain ⟨_,_,h⟩ := hv; cases h
 | junk => exact absurd rfl (hv.2.1 b)
theorem VRL.get_none {vs : List V} {xs : List Value} (hv : VRL m vs xs) {i : Nat} (h : vs[i]? = none) : xs[i]? = none := by
 rw [List.getElem?_eq_none_iff] at h ⊢
 rw [hv.length]; exact h
theorem wanted_sound {T : List V} {tmps : Array Value} (ht : TR m T tmps) {ops : Array Oper} {o : Oper} {g : Option (Nat × Bool)} (hg : cGuard (ops.toList.map (·.dst)) o.guard = some g) :
  Region.wanted o (yielded ops tmps) = wantV T g := by
 unfold Region.wanted
 cases hgd : o.guard with
 | none => rw [hgd] at hg; cases hg; rfl
 | some jw =>
  obtain ⟨j,wt⟩ := jw
  rw [hgd] at hg
  simp only [cGuard] at hg
  split at hg <;> cases hg
  rename_i t hd
  have hd' : (ops[j]?).bind (·.dst) = some t := by
   rw [List.getElem?_map] at hd
   cases ho : ops[j]? with
   | none => rw [Array.getElem?_toList,ho] at hd; cases hd
   | some o' => rw [Array.getElem?_toList,ho] at hd; simpa using hd
  simp only [yielded,hd',Option.bind_some,wantV]
  cases hT : T[t]? with
  | none =>
   have := VRL.get_none ht hT
   rw [Array.getElem?_toList] at this
   simp [this]
  | some v =>
   obtain ⟨x,hx,hv⟩ := VRL.get ht hT
   rw [Array.getElem?_toList] at hx
   simp only [hx]
   cases v with
   | bool b =>
    cases hv
    cases b <;> cases wt <;> rfl
   | _ =>
    cases x <;> first | (have := VR.bool_inv hv; cases this; done) | rfl
theorem TR.put {T : List V} {a : Act} (ht : TR m T a.tmps) {v : V} {x : Value} (hv : VR m v x) (dst : Option Nat) : TR m (putV T dst v) (a.put dst x).tmps := by
 cases dst with
 | none => exact ht
 | some d =>
  simp only [putV,Act.put,TR]
  rw [Array.toList_setIfInBounds]
  exact VRL.set ht hv d
theorem put_defers (a : Act) (dst : Option Nat) (x : Value) : (a.put dst x).defers = a.defers := by cases dst <;> rfl
theorem evO_eq (o : O) (T : List V) (h : H) : evO P ap o T h = if wantV T o.guard then (evR P ap T h o.op).map fun r => (putV T o.dst r.1,r.2) else some (putV T o.dst undefV,h) := by
 unfold evO evR
 split
 ·cases evK P T h o.op with
  | none => rfl
  | some r =>
   cases r with
   | call f args => simp only; cases ap f args h <;> rfl
   | _ => rfl
 ·rfl
theorem VR.undef : VR m undefV undef := ⟨[],rfl,rfl⟩
def OpsOK (P : Program) (dsts : List (Option Nat)) : List Oper → List O → Prop
 | [],l => l = []
 | o :: os,l => ∃ k g oo l',cK P o.op = some k ∧ cGuard dsts o.guard = some g ∧ oo.op = k ∧ oo.guard = g ∧ oo.dst = o.dst ∧ OpsOK P dsts os l' ∧ l = oo :: l'
theorem cOsFrom_ok {dsts : List (Option Nat)} : ∀ (os : List Oper) (acc : List Nat) (l : List O),cOsFrom P dsts os acc = some l → OpsOK P dsts os l
 | [],_,l,h => by cases h; rfl
 | o :: os,acc,l,h => by
  simp only [cOsFrom] at h
  split at h <;> cases h
  rename_i x l' h1 h2
  unfold cO at h1
  split at h1 <;> cases h1
  rename_i k g h3 h4
  exact ⟨k,g,_,l',h3,h4,rfl,rfl,rfl,cOsFrom_ok os _ l' h2,rfl⟩
structure Mid (P : Program) (m0 : Mp) (h0 : H) (w0 : World) (m : Mp) (h : H) (w : World) (T : List V) (ds : List Deferred) (a : Act) : Prop where
 cx : Cx P m h w T a
 ext : Ext m0 h0 w0 m h w
 defers : a.defers = ds
theorem Mid.put {m0 m : Mp} {h0 h : H} {w0 w : World} {T : List V} {ds : List Deferred} {a : Act} (md : Mid P m0 h0 w0 m h w T ds a) {m' : Mp} {h' : H} {w' : World} {v : V} {x : Value} (h1 : VR m' v x) (h2 : HR P m' h' w')
  (h3 : Ext m h w m' h' w') (dst : Option Nat) : Mid P m0 h0 w0 m' h' w' (putV T dst v) ds (a.put dst x) :=
 ⟨⟨TR.put (VRL.mono h3.sub _ _ md.cx.tr) h1 dst,h2⟩,md.ext.trans h3,(put_defers a dst x).trans md.defers⟩
theorem ops_sound (ha : ApOK P ap) {ops : Array Oper} {m0 : Mp} {h0 : H} {w0 : World} {ds : List Deferred} {ro : Option Nat} {n : Nat} {Q : Exit → Act → World → Prop} {T' : List V} {h' : H}
  (hQ : ∀ m' w' a',Mid P m0 h0 w0 m' h' w' T' ds a' → Q .normal a' w') :
  ∀ (os : List Oper) (l : List O),OpsOK P (ops.toList.map (·.dst)) os l → ∀ (T : List V) (h : H),evOs P ap l T h = some (T',h') → ∀ (m : Mp) (w : World) (a : Act),Mid P m0 h0 w0 m h w T ds a →
   wpListIn (FF ro) n P ops Q os a w
 | [],l,hl,T,h,he,m,w,a,md => by
  cases hl
  simp only [evOs] at he
  cases he
  exact hQ m w a md
 | o :: os,l,hl,T,h,he,m,w,a,md => by
  obtain ⟨k,g,oo,l',h1,h2,h3,h4,h5,h6,rfl⟩ := hl
  simp only [evOs] at he
  split at he
  ·rename_i T1 h1' he1
   rw [evO_eq,h3,h4,h5] at he1
   simp only [wpListIn]
   rw [wanted_sound md.cx.tr h2]
   split
   ·rename_i hw
    rw [if_pos hw] at he1
    cases hr : evR P ap T h k with
    | none => simp [hr] at he1
    | some r =>
     obtain ⟨v,h''⟩ := r
     simp [hr] at he1
     obtain ⟨rfl,rfl⟩ := he1
     exact op_step ha md.cx h1 hr fun m' w' x e1 e2 e3 => ops_sound ha hQ os l' h6 _ _ he m' w' _ (md.put e1 e2 e3 o.dst)
   ·rename_i hw
    rw [if_neg hw] at he1
    cases he1
    exact ⟨fun _ _ => trivial,ops_sound ha hQ os l' h6 _ _ he m w _ (md.put VR.undef md.cx.hr (Ext.refl _ _ _) o.dst)⟩
  ·cases he
end Go.AM
namespace Go.AM
variable {P : Program}
def Agree (T U : List V) (ts : List Nat) : Prop := ∀ t ∈ ts,T[t]? = U[t]?
theorem A.ev_congr {T U : List V} {a : A} (h : Agree T U a.tm) : a.ev T = a.ev U := by
  cases a with
  | t i => exact h i (by simp [A.tm])
  | k v => rfl
theorem evs_congr {T U : List V} : ∀ {as : List A},(∀ a ∈ as,a.ev T = a.ev U) → evs T as = evs U as
  | [],_ => rfl
  | a :: as,h => by
    simp only [evs]
    rw [h a (by simp),evs_congr (as := as) fun b hb => h b (by simp [hb])]
theorem evo_congr {T U : List V} {a : Option A} (h : ∀ x ∈ a.toList,x.ev T = x.ev U) : evo T a = evo U a := by
  cases a with
  | none => rfl
  | some a => simp only [evo]; rw [h a (by simp)]
theorem fillV_congr {T U : List V} : ∀ {ps : List (Nat × Nat × A)} (z : List V),(∀ p ∈ ps,p.2.2.ev T = p.2.2.ev U) → fillV T z ps = fillV U z ps
  | [],_,_ => rfl
  | (o,s,a) :: ps,z,h => by
    simp only [fillV]
    rw [h (o,s,a) (by simp)]
    cases a.ev U with
    | none => rfl
    | some v =>
      simp only
      split
      · exact fillV_congr _ fun p hp => h p (by simp [hp])
      · rfl
theorem evK_congr {T U : List V} {h : H} {k : K} (hk : Agree T U k.tms) : evK P T h k = evK P U h k := by
  have h1 : ∀ a ∈ k.as,a.ev T = a.ev U := fun a ha => A.ev_congr fun t ht => hk t (List.mem_flatMap.2 ⟨a,ha,ht⟩)
  clear hk
  cases k <;> simp only [K.as,List.mem_cons,List.mem_append,List.not_mem_nil,or_false,forall_eq_or_imp,forall_eq,List.mem_map,forall_exists_index,and_imp] at h1 <;> simp only [evK]
  all_goals first
    | rfl
    | rw [h1]
    | rw [h1.1,h1.2]
    | rw [h1.1,h1.2.1,h1.2.2]
    | skip
  case build => rw [fillV_congr _ fun p hp => h1 _ p hp rfl]
  case bslice => rw [fillV_congr _ fun p hp => h1 _ p hp rfl]
  case mkF => rw [evs_congr fun a ha => h1 a (.inl ha),evs_congr fun a ha => h1 a (.inr ha)]
  case slS => rw [h1.1,evo_congr fun a ha => h1.2 a (.inl ha),evo_congr fun a ha => h1.2 a (.inr ha)]
  case slL => rw [h1.1,evo_congr fun a ha => h1.2 a (.inl (.inl ha)),evo_congr fun a ha => h1.2 a (.inl (.inr ha)),evo_congr fun a ha => h1.2 a (.inr ha)]
  case slA => rw [h1.1,evo_congr fun a ha => h1.2 a (.inl (.inl ha)),evo_congr fun a ha => h1.2 a (.inl (.inr ha)),evo_congr fun a ha => h1.2 a (.inr ha)]
  case minmax => rw [evs_congr h1]
  case call => rw [h1.1,evs_congr h1.2]
  case inv => rw [h1.1,evs_congr h1.2]
theorem binV_pur {h h' : H} {op : BinOp} {eq : Option EqT} {lit : Bool} {x y v : V} (he : binV h op eq lit x y = some (.pur v)) : binV h' op eq lit x y = some (.pur v) := by
  unfold binV at he ⊢
  split at he
  · exact he
  · exact he
  · exfalso
    split at he
    · cases he
    · split at he
      · cases he
      · split at he <;> cases he
theorem evK_pur {T : List V} {h h' : H} {k : K} {v : V} (he : evK P T h k = some (.pur v)) : evK P T h' k = some (.pur v) := by
  cases k <;> simp only [evK] at he ⊢
  case bin =>
    split at he
    · exact binV_pur he
    · cases he
  case p2u =>
    split at he
    · exact he
    · split at he
      · split at he <;> cases he
      · cases he
    · cases he
  case u2p =>
    split at he
    · exact he
    · split at he
      · split at he <;> cases he
      · cases he
    · cases he
  case ustr =>
    split at he
    · split at he
      · rename_i h0; rw [if_pos h0]; exact he
      · exfalso
        repeat' (split at he)
        all_goals first | (cases he; done) | (simp at he; done)
    · cases he
  case app =>
    split at he
    · obtain ⟨v,h'',e⟩ := appV_eff he; cases e
    · cases he
  all_goals first
    | exact he
    | (exfalso; repeat' (split at he)
       all_goals first | (cases he; done) | (simp at he; done) | skip)
abbrev XE := O × Ent
def tS (L : Nat → Bool) : List XE → Nat → List V → List V
 | [],_,T => T
 | (o,e) :: X,k,T => tS L X (k + 1) (if L k then putV T o.dst e.v else T)
def hS (L : Nat → Bool) : List XE → Nat → H → H
 | [],_,h => h
 | (_,e) :: X,k,h => hS L X (k + 1) (if L k && e.act then e.h' else h)
theorem length_putV (T : List V) (d : Option Nat) (v : V) : (putV T d v).length = T.length := by cases d <;> simp [putV]
theorem get_putV (T : List V) (d : Option Nat) (v : V) (t : Nat) : (putV T d v)[t]? = if d = some t then (if t < T.length then some v else none) else T[t]? := by
 cases d with
 | none => simp [putV]
 | some d =>
  simp only [putV,List.getElem?_set,Option.some.injEq]
  by_cases h : d = t
  ·subst h; simp
  ·simp [h]
theorem length_tS (L : Nat → Bool) : ∀ (X : List XE) (k : Nat) (T : List V),(tS L X k T).length = T.length
 | [],_,_ => rfl
 | (o,e) :: X,k,T => by
  simp only [tS]
  rw [length_tS L X]
  split
  ·exact length_putV _ _ _
  ·rfl
theorem tS_congr {L M : Nat → Bool} {t : Nat} : ∀ (X : List XE) (k : Nat) (T U : List V),T.length = U.length → T[t]? = U[t]? →
  (∀ j x,X[j]? = some x → x.1.dst = some t → L (k + j) = M (k + j)) → (tS L X k T)[t]? = (tS M X k U)[t]?
 | [],_,T,U,_,h,_ => h
 | (o,e) :: X,k,T,U,hl,h,hd => by
  simp only [tS]
  refine tS_congr X (k + 1) _ _ ?_ ?_ fun j x hx hxt => ?_
  ·split <;> split <;> simp [length_putV,hl]
  ·by_cases hdst : o.dst = some t
   ·have := hd 0 (o,e) rfl hdst
    simp only [Nat.add_zero] at this
    rw [this]
    split
    ·rw [get_putV,get_putV,hl,h]
    ·exact h
   ·split <;> split <;> simp [get_putV,hdst,h]
  ·have := hd (j + 1) x (by simpa using hx) hxt
   rw [Nat.add_assoc,Nat.add_comm 1 j]; exact this
theorem tS_none {L : Nat → Bool} {t : Nat} (X : List XE) (k : Nat) (T : List V) (h : ∀ j x,X[j]? = some x → x.1.dst = some t → L (k + j) = false) : (tS L X k T)[t]? = T[t]? := by
 have h0 : ∀ (X : List XE) (k : Nat) (T : List V),tS (fun _ => false) X k T = T := by
  intro X
  induction X with
  | nil => intros; rfl
  | cons x X ih => intro k T; obtain ⟨o,e⟩ := x; simp [tS,ih]
 rw [tS_congr (M := fun _ => false) X k T T rfl rfl h,h0]
theorem hS_congr {L M : Nat → Bool} : ∀ (X : List XE) (k : Nat) (h : H),(∀ j x,X[j]? = some x → x.2.act = true → L (k + j) = M (k + j)) → hS L X k h = hS M X k h
 | [],_,_,_ => rfl
 | (o,e) :: X,k,h,hd => by
  simp only [hS]
  have h0 : (L k && e.act) = (M k && e.act) := by
   cases ha : e.act with
   | false => simp
   | true => have := hd 0 (o,e) rfl ha; simp only [Nat.add_zero] at this; rw [this]
  rw [h0]
  exact hS_congr X (k + 1) _ fun j x hx hxa => by
   have := hd (j + 1) x (by simpa using hx) hxa
   rw [Nat.add_assoc,Nat.add_comm 1 j]; exact this
theorem hS_none {L : Nat → Bool} (X : List XE) (k : Nat) (h : H) (hd : ∀ j x,X[j]? = some x → x.2.act = true → L (k + j) = false) : hS L X k h = h := by
 have h0 : ∀ (X : List XE) (k : Nat) (h : H),hS (fun _ => false) X k h = h := by
  intro X
  induction X with
  | nil => intros; rfl
  | cons x X ih => intro k T; obtain ⟨o,e⟩ := x; simp [hS,ih]
 rw [hS_congr (M := fun _ => false) X k h hd,h0]
theorem hS_add {M : Nat → Bool} : ∀ (X : List XE) (k i : Nat) (h : H) (x : XE),X[i]? = some x → x.2.act = true → M (k + i) = true → (∀ j y,i < j → X[j]? = some y → y.2.act = true → M (k + j) = false) → hS M X k h = x.2.h'
 | [],_,_,_,_,h,_,_,_ => by simp at h
 | (o,e) :: X,k,0,h,x,hx,h1,h2,h3 => by
  simp at hx; subst hx
  simp only [Nat.add_zero] at h2
  have h1' : e.act = true := h1
  simp only [hS,h1',h2,Bool.and_self,if_true]
  exact hS_none X _ _ fun j y hy hya => by
   have := h3 (j + 1) y (by omega) (by simpa using hy) hya
   rw [Nat.add_assoc,Nat.add_comm 1 j]; exact this
 | (o,e) :: X,k,i + 1,h,x,hx,h1,h2,h3 => by
  simp only [hS]
  refine hS_add X (k + 1) i _ x (by simpa using hx) h1 (by rw [Nat.add_assoc,Nat.add_comm 1 i]; exact h2) fun j y hj hy hya => ?_
  have := h3 (j + 1) y (by omega) (by simpa using hy) hya
  rw [Nat.add_assoc,Nat.add_comm 1 j]; exact this
def EntOK (P : Program) (ap : Ap) (o : O) (e : Ent) : Prop :=
 if wantV e.T o.guard then
  match evK P e.T e.h o.op with
  | some (.pur v) => e.v = v ∧ e.h' = e.h ∧ e.act = false ∧ e.rd = false
  | some (.rd v) => e.v = v ∧ e.h' = e.h ∧ e.act = false ∧ e.rd = true
  | some (.eff v h') => e.v = v ∧ e.h' = h' ∧ e.act = true
  | some (.call f args) => ap f args e.h = some (e.v,e.h') ∧ e.act = true
  | none => False
 else e.v = undefV ∧ e.h' = e.h ∧ e.act = false ∧ e.rd = false
def DrL (P : Program) (ap : Ap) : List XE → List V → H → List V → H → Prop
 | [],T,h,T',h' => T = T' ∧ h = h'
 | (o,e) :: X,T,h,T',h' => e.T = T ∧ e.h = h ∧ EntOK P ap o e ∧ DrL P ap X (putV T o.dst e.v) e.h' T' h'
theorem evDr_ok {P : Program} {ap : Ap} : ∀ (l : List O) (T : List V) (h : H) (es : List Ent) (T' : List V) (h' : H),evDr P ap l T h = some (es,T',h') → es.length = l.length ∧ DrL P ap (l.zip es) T h T' h'
 | [],T,h,es,T',h',he => by simp only [evDr] at he; cases he; exact ⟨rfl,rfl,rfl⟩
 | o :: l,T,h,es,T',h',he => by
  have fin : ∀ (e : Ent),e.T = T → e.h = h → EntOK P ap o e → ((evDr P ap l (putV T o.dst e.v) e.h').map fun (es,x) => (e :: es,x)) = some (es,T',h') → es.length = (o :: l).length ∧ DrL P ap ((o :: l).zip es) T h T' h' := by
   intro e e1 e2 e3 e4
   cases h5 : evDr P ap l (putV T o.dst e.v) e.h' with
   | none => simp [h5] at e4
   | some s =>
    obtain ⟨es',T1,h1⟩ := s
    simp [h5] at e4
    obtain ⟨rfl,rfl,rfl⟩ := e4
    obtain ⟨k1,k2⟩ := evDr_ok l _ _ _ _ _ h5
    exact ⟨by simp [k1],e1,e2,e3,k2⟩
  simp only [evDr] at he
  split at he
  ·rename_i hw
   split at he
   ·rename_i v hk; exact fin ⟨T,h,h,v,false,false⟩ rfl rfl (by simp [EntOK,hw,hk]) he
   ·rename_i v hk; exact fin ⟨T,h,h,v,false,true⟩ rfl rfl (by simp [EntOK,hw,hk]) he
   ·rename_i v h1 hk; exact fin ⟨T,h,h1,v,true,false⟩ rfl rfl (by simp [EntOK,hw,hk]) he
   ·rename_i f args hk
    split at he
    ·rename_i v h1 hap; exact fin ⟨T,h,h1,v,true,false⟩ rfl rfl (by simp [EntOK,hw,hk,hap]) he
    ·cases he
   ·cases he
  ·rename_i hw; exact fin ⟨T,h,h,undefV,false,false⟩ rfl rfl (by simp [EntOK,hw]) he
theorem EntOK.same {P : Program} {ap : Ap} {o : O} {e : Ent} (h : EntOK P ap o e) (ha : e.act = false) : e.h' = e.h := by
 unfold EntOK at h
 split at h
 ·split at h
  ·exact h.2.1
  ·exact h.2.1
  ·rw [ha] at h; exact absurd h.2.2 (by simp)
  ·rw [ha] at h; exact absurd h.2 (by simp)
  ·exact h.elim
 ·exact h.2.1
theorem DrL.at {P : Program} {ap : Ap} : ∀ (X : List XE) (k : Nat) (T : List V) (h : H) (T' : List V) (h' : H),DrL P ap X T h T' h' → ∀ i x,X[i]? = some x →
  x.2.T = tS (fun j => decide (j < k + i)) X k T ∧ x.2.h = hS (fun j => decide (j < k + i)) X k h ∧ EntOK P ap x.1 x.2
 | [],_,_,_,_,_,_,i,x,hx => by simp at hx
 | (o,e) :: X,k,T,h,T',h',hd,0,x,hx => by
  simp at hx; subst hx
  obtain ⟨h1,h2,h3,h4⟩ := hd
  refine ⟨?_,?_,h3⟩
  ·refine h1.trans (List.ext_getElem? fun t => ?_)
   rw [tS_none]
   intro j x _ _; simp
  ·refine h2.trans ?_
   rw [hS_none]
   intro j x _ _; simp
 | (o,e) :: X,k,T,h,T',h',hd,i + 1,x,hx => by
  obtain ⟨h1,h2,h3,h4⟩ := hd
  obtain ⟨k1,k2,k3⟩ := DrL.at X (k + 1) _ _ _ _ h4 i x (by simpa using hx)
  have e1 : k + 1 + i = k + (i + 1) := by omega
  rw [e1] at k1 k2
  refine ⟨?_,?_,k3⟩
  ·simp only [tS]
   rw [if_pos (by simp)]
   exact k1
  ·simp only [hS]
   rw [k2]
   congr 1
   cases ha : e.act with
   | true => simp
   | false => rw [h3.same ha,h2]; simp
theorem DrL.last {P : Program} {ap : Ap} : ∀ (X : List XE) (k : Nat) (T : List V) (h : H) (T' : List V) (h' : H) (L : Nat → Bool),DrL P ap X T h T' h' → (∀ i,i < X.length → L (k + i) = true) → tS L X k T = T' ∧ hS L X k h = h'
 | [],_,_,_,_,_,_,hd,_ => hd
 | (o,e) :: X,k,T,h,T',h',L,hd,hL => by
  obtain ⟨h1,h2,h3,h4⟩ := hd
  have h0 := hL 0 (by simp)
  simp only [Nat.add_zero] at h0
  have := DrL.last X (k + 1) _ _ _ _ L h4 fun i hi => by
   have := hL (i + 1) (by simpa using hi)
   rw [Nat.add_assoc,Nat.add_comm 1 i]; exact this
  simp only [tS,hS,h0,if_true,Bool.true_and]
  refine ⟨this.1,?_⟩
  have hh : (if e.act = true then e.h' else h) = e.h' := by
   cases ha : e.act with
   | true => rfl
   | false => rw [h3.same ha,h2]; rfl
  rw [hh]; exact this.2
theorem actsOf_mem : ∀ (l : List O) (es : List Ent) (k : Nat) (a : Nat × Nat × H),a ∈ actsOf l es k ↔ ∃ i x,(l.zip es)[i]? = some x ∧ x.2.act = true ∧ a = (k + i,x.1.pre,x.2.h')
 | [],es,k,a => by simp [actsOf]
 | o :: l,[],k,a => by simp [actsOf]
 | o :: l,e :: es,k,a => by
  have ih := actsOf_mem l es (k + 1) a
  have key : (∃ i x,((o :: l).zip (e :: es))[i]? = some x ∧ x.2.act = true ∧ a = (k + i,x.1.pre,x.2.h')) ↔ (e.act = true ∧ a = (k,o.pre,e.h')) ∨ ∃ i x,(l.zip es)[i]? = some x ∧ x.2.act = true ∧ a = (k + 1 + i,x.1.pre,x.2.h') := by
   constructor
   ·rintro ⟨i,x,h1,h2,h3⟩
    cases i with
    | zero => simp at h1; subst h1; exact .inl ⟨h2,h3⟩
    | succ i => exact .inr ⟨i,x,by simpa using h1,h2,by rw [h3]; congr 1; omega⟩
   ·rintro (⟨h1,h2⟩ | ⟨i,x,h1,h2,h3⟩)
    ·exact ⟨0,(o,e),rfl,h1,h2⟩
    ·exact ⟨i + 1,x,by simpa using h1,h2,by rw [h3]; congr 1; omega⟩
  rw [key]
  simp only [actsOf]
  cases ha : e.act with
  | true => simp [ih]
  | false => simp [ih]
theorem readsOk_spec {P : Program} {o : O} {e : Ent} {i : Nat} {L : Nat → Bool} : ∀ (l : List O) (es : List Ent) (k : Nat) (h : H),readsOk P o e i h (actsOf l es k) = true →
  (∀ j x,(l.zip es)[j]? = some x → x.2.act = true → L (k + j) = true → x.1.pre.testBit i = false) → (∀ j x,(l.zip es)[j]? = some x → x.2.act = true → L (k + j) = false → o.pre.testBit (k + j) = false) →
  (∀ j j' x y,j < j' → (l.zip es)[j]? = some x → (l.zip es)[j']? = some y → x.2.act = true → y.2.act = true → L (k + j') = true → L (k + j) = true) → sameAt P o e (hS L (l.zip es) k h) = true
 | [],es,k,h,hr,_,_,_ => by simpa [actsOf,readsOk,hS] using hr
 | o0 :: l,[],k,h,hr,_,_,_ => by simpa [actsOf,readsOk,hS] using hr
 | o0 :: l,e0 :: es,k,h,hr,h1,h2,h3 => by
  have s1 : ∀ j x,(l.zip es)[j]? = some x → x.2.act = true → L (k + 1 + j) = true → x.1.pre.testBit i = false := fun j x hx ha hL => h1 (j + 1) x (by simpa using hx) ha (by rw [← hL]; congr 1; omega)
  have s2 : ∀ j x,(l.zip es)[j]? = some x → x.2.act = true → L (k + 1 + j) = false → o.pre.testBit (k + 1 + j) = false := fun j x hx ha hL => by
   have := h2 (j + 1) x (by simpa using hx) ha (by rw [← hL]; congr 1; omega)
   rw [show k + 1 + j = k + (j + 1) by omega]; exact this
  have s3 : ∀ j j' x y,j < j' → (l.zip es)[j]? = some x → (l.zip es)[j']? = some y → x.2.act = true → y.2.act = true → L (k + 1 + j') = true → L (k + 1 + j) = true := fun j j' x y hj hx hy ha hb hL => by
   have := h3 (j + 1) (j' + 1) x y (by omega) (by simpa using hx) (by simpa using hy) ha hb (by rw [← hL]; congr 1; omega)
   rw [show k + 1 + j = k + (j + 1) by omega]; exact this
  simp only [List.zip_cons_cons,hS]
  cases ha : e0.act with
  | false =>
   simp only [actsOf,ha,Bool.false_eq_true,if_false] at hr
   rw [Bool.and_false,if_neg (by simp)]
   exact readsOk_spec l es (k + 1) h hr s1 s2 s3
  | true =>
   simp only [actsOf,ha,if_true,readsOk,Bool.and_eq_true,Bool.or_eq_true] at hr
   obtain ⟨hr1,hr2⟩ := hr
   cases hL : L k with
   | true =>
    simp only [Bool.and_self,if_true]
    have := h1 0 (o0,e0) rfl ha (by simpa using hL)
    rw [this] at hr2
    exact readsOk_spec l es (k + 1) _ (hr2.resolve_left (by simp)) s1 s2 s3
   | false =>
    simp only [Bool.false_and,Bool.false_eq_true,if_false]
    have hno : ∀ j x,(l.zip es)[j]? = some x → x.2.act = true → L (k + 1 + j) = false := fun j x hx hxa => by
     cases hLj : L (k + 1 + j) with
     | false => rfl
     | true =>
      have := h3 0 (j + 1) (o0,e0) x (by omega) rfl (by simpa using hx) ha hxa (by rw [← hLj]; congr 1; omega)
      simp [hL] at this
    rw [hS_none _ _ _ hno]
    refine hr1.resolve_left ?_
    rintro (hp | hp)
    ·have := h2 0 (o0,e0) rfl ha (by simpa using hL)
     simp only [Nat.add_zero] at this
     rw [this] at hp; cases hp
    ·rw [List.any_eq_true] at hp
     obtain ⟨a,hmem,hbit⟩ := hp
     obtain ⟨j,x,hx,hxa,rfl⟩ := (actsOf_mem l es (k + 1) a).1 hmem
     have := s2 j x hx hxa (hno j x hx hxa)
     simp only at hbit
     rw [this] at hbit; cases hbit
theorem rdsOk_spec {P : Program} {acts : List (Nat × Nat × H)} {h0 : H} : ∀ (l : List O) (es : List Ent) (k : Nat),rdsOk P acts h0 l es k = true → ∀ i x,(l.zip es)[i]? = some x → x.2.rd = true → readsOk P x.1 x.2 (k + i) h0 acts = true
 | [],_,_,_,i,x,hx,_ => by simp at hx
 | _ :: _,[],_,_,i,x,hx,_ => by simp at hx
 | o :: l,e :: es,k,h,0,x,hx,hrd => by
  simp at hx; subst hx
  simp only [rdsOk,Bool.and_eq_true,Bool.or_eq_true] at h
  exact h.1.resolve_left (by simp only at hrd; simp [hrd])
 | o :: l,e :: es,k,h,i + 1,x,hx,hrd => by
  simp only [rdsOk,Bool.and_eq_true] at h
  have := rdsOk_spec l es (k + 1) h.2 i x (by simpa using hx) hrd
  rw [show k + (i + 1) = k + 1 + i by omega]; exact this
variable {P : Program} {ap : Ap}
theorem preOf_spec {acc : List Nat} {j : Nat} {es : List Edge} (h : (preOf acc es).testBit j = true) : ∃ e ∈ es,Region.binds .any e = true ∧ (e.on = j ∨ (acc.getD e.on 0).testBit j = true) := by
 have key : ∀ (es : List Edge) (s : Nat),(es.foldl (fun s e => if Region.binds .any e then s ||| 2 ^ e.on ||| acc.getD e.on 0 else s) s).testBit j = true →
   s.testBit j = true ∨ ∃ e ∈ es,Region.binds .any e = true ∧ (e.on = j ∨ (acc.getD e.on 0).testBit j = true) := by
  intro es
  induction es with
  | nil => intro s h; exact .inl h
  | cons e es ih =>
   intro s h
   simp only [List.foldl_cons] at h
   rcases ih _ h with h1 | ⟨e',h1,h2⟩
   ·split at h1
    ·rename_i hb
     rw [Nat.testBit_or,Nat.testBit_or,Bool.or_eq_true,Bool.or_eq_true] at h1
     rcases h1 with (h1 | h1) | h1
     ·exact .inl h1
     ·rw [Nat.testBit_two_pow] at h1
      exact .inr ⟨e,by simp,hb,.inl (by simpa using h1)⟩
     ·exact .inr ⟨e,by simp,hb,.inr h1⟩
    ·exact .inl h1
   ·exact .inr ⟨e',by simp [h1],h2⟩
 rcases key es 0 h with h | h
 ·simp at h
 ·exact h
theorem cOsFrom_at {dsts : List (Option Nat)} : ∀ (os : List Oper) (acc : List Nat) (l : List O),cOsFrom P dsts os acc = some l → l.length = os.length ∧
  ∀ i o,os[i]? = some o → ∃ oo,l[i]? = some oo ∧ cO P dsts (preOf (acc ++ (l.take i).map (·.pre)) o.after.toList) o = some oo
 | [],acc,l,h => by cases h; exact ⟨rfl,fun i o ho => by simp at ho⟩
 | o :: os,acc,l,h => by
  simp only [cOsFrom] at h
  split at h <;> cases h
  rename_i x l' h1 h2
  obtain ⟨k1,k2⟩ := cOsFrom_at os _ l' h2
  have hpre : x.pre = preOf acc o.after.toList := by
   unfold cO at h1
   split at h1 <;> cases h1
   rfl
  refine ⟨by simp [k1],fun i o' ho => ?_⟩
  cases i with
  | zero => simp at ho; subst ho; exact ⟨x,rfl,by simpa using h1⟩
  | succ i =>
   obtain ⟨oo,j1,j2⟩ := k2 i o' (by simpa using ho)
   refine ⟨oo,by simpa using j1,?_⟩
   rw [← hpre] at j2
   simpa using j2
theorem cO_spec {dsts : List (Option Nat)} {pre : Nat} {o : Oper} {oo : O} (h : cO P dsts pre o = some oo) : cK P o.op = some oo.op ∧ cGuard dsts o.guard = some oo.guard ∧ oo.dst = o.dst ∧ oo.pre = pre ∧
  (∀ d,oo.dst = some d → d ∈ oo.names) ∧ (∀ t w,oo.guard = some (t,w) → t ∈ oo.names) ∧ (∀ t ∈ oo.op.tms,t ∈ oo.names) := by
 unfold cO at h
 split at h <;> cases h
 rename_i k g h1 h2
 refine ⟨h1,h2,rfl,rfl,?_,?_,?_⟩
 ·intro d hd; simp only at hd ⊢; simp [hd]
 ·intro t w hg; simp only at hg ⊢; subst hg; simp
 ·intro t ht; simp only at ht ⊢; simp [ht]
theorem edgesBelow_spec : ∀ (os : List Oper) (k : Nat),edgesBelow os k = true → ∀ i o,os[i]? = some o → ∀ e ∈ o.after.toList,Region.binds .any e = true → e.on < k + i
 | [],_,_,i,o,ho,_,_,_ => by simp at ho
 | o :: os,k,h,0,o',ho,e,he,hb => by
  simp at ho; subst ho
  simp only [edgesBelow,Bool.and_eq_true,List.all_eq_true,Bool.or_eq_true,Bool.not_eq_true',decide_eq_true_eq] at h
  exact (h.1 e he).resolve_left (by simp [hb])
 | o :: os,k,h,i + 1,o',ho,e,he,hb => by
  simp only [edgesBelow,Bool.and_eq_true] at h
  have := edgesBelow_spec os (k + 1) h.2 i o' (by simpa using ho) e he hb
  omega
theorem namesOk_spec : ∀ (l : List O) (k : Nat),namesOk l k = true → ∀ (i j : Nat) (x y : O),i < j → l[i]? = some x → l[j]? = some y →
  y.pre.testBit (k + i) = true ∨ ((∀ d,x.dst = some d → d ∉ y.names) ∧ (∀ d,y.dst = some d → d ∉ x.names))
 | [],_,_,i,j,x,y,_,h1,_ => by simp at h1
 | o :: l,k,h,0,j,x,y,hij,h1,h2 => by
  simp at h1; subst h1
  obtain ⟨j',rfl⟩ : ∃ j',j = j' + 1 := ⟨j - 1,by omega⟩
  simp only [namesOk,Bool.and_eq_true,List.all_eq_true,Bool.or_eq_true] at h
  have hy : y ∈ l := List.mem_of_getElem? (by simpa using h2)
  rcases h.1 y hy with h3 | ⟨h3,h4⟩
  ·exact .inl h3
  ·refine .inr ⟨fun d hd => ?_,fun d hd => ?_⟩
   ·rw [hd] at h3; simpa using h3
   ·rw [hd] at h4; simpa using h4
 | o :: l,k,h,i + 1,j,x,y,hij,h1,h2 => by
  obtain ⟨j',rfl⟩ : ∃ j',j = j' + 1 := ⟨j - 1,by omega⟩
  simp only [namesOk,Bool.and_eq_true] at h
  have := namesOk_spec l (k + 1) h.2 i j' x y (by omega) (by simpa using h1) (by simpa using h2)
  rw [show k + (i + 1) = k + 1 + i by omega]; exact this
end Go.AM
namespace Go.AM
variable {P : Program}
theorem psh_same (h : H) (o : Obj) : (h.psh o).get h.size = some o := by rw [H.get_psh,if_pos rfl]
mutual
theorem VR.restrict {m m' : Mp} (hs : Sub m m') : ∀ (v : V) (x0 x : Value),VR m v x0 → VR m' v x → VR m v x
 | .bool _,_,_,_,h => h
 | .int _ _,_,_,_,h => h
 | .str _,_,_,_,h => h
 | .ptr none,_,_,_,h => h
 | .ptr (some (i,o)),x0,x,h0,h => by
  obtain ⟨r,sh,e,a1,_⟩ := h0
  obtain ⟨r',sh',e',b1,b2⟩ := h
  have := hs _ _ a1
  rw [b1] at this; cases this
  exact ⟨r,sh,e,a1,b2⟩
 | .slice none _ _ _,_,_,_,h => h
 | .slice (some (i,o)) len cap opn,x0,x,h0,h => by
  obtain ⟨r,sh,e,ad,a1,_⟩ := h0
  obtain ⟨r',sh',e',ad',b1,b2⟩ := h
  have := hs _ _ a1
  rw [b1] at this; cases this
  exact ⟨r,sh,e,ad',a1,b2⟩
 | .map none,_,_,_,h => h
 | .map (some i),x0,x,h0,h => by
  obtain ⟨r,sh,e,a1,_⟩ := h0
  obtain ⟨r',sh',e',b1,b2⟩ := h
  have := hs _ _ a1
  rw [b1] at this; cases this
  exact ⟨r,sh,e,a1,b2⟩
 | .func f fs cs,x0,x,h0,h => by
  obtain ⟨xs,ys,a1,a2,_⟩ := h0
  obtain ⟨xs',ys',b1,b2,b3⟩ := h
  exact ⟨xs',ys',VRL.restrict hs _ _ _ a1 b1,VRL.restrict hs _ _ _ a2 b2,b3⟩
 | .yield l,x0,x,h0,h => by
  obtain ⟨r,sh,e,a1,_⟩ := h0
  obtain ⟨r',sh',e',b1,b2⟩ := h
  have := hs _ _ a1
  rw [b1] at this; cases this
  exact ⟨r,sh,e,a1,b2⟩
 | .nilFunc,_,_,_,h => h
 | .iface t v,x0,x,h0,h => by
  obtain ⟨y,a1,_⟩ := h0
  obtain ⟨y',b1,b2⟩ := h
  exact ⟨y',VR.restrict hs _ _ _ a1 b1,b2⟩
 | .nilIface,_,_,_,h => h
 | .agg cs,x0,x,h0,h => by
  obtain ⟨y,a1,_⟩ := h0
  obtain ⟨y',b1,b2⟩ := h
  exact ⟨y',VRL.restrict hs _ _ _ a1 b1,b2⟩
 | .tup cs,x0,x,h0,h => by
  obtain ⟨y,a1,_⟩ := h0
  obtain ⟨y',b1,b2⟩ := h
  exact ⟨y',VRL.restrict hs _ _ _ a1 b1,b2⟩
 | .junk,_,_,_,h => h
theorem VRL.restrict {m m' : Mp} (hs : Sub m m') : ∀ (v : List V) (x0 x : List Value),VRL m v x0 → VRL m' v x → VRL m v x
 | [],_,_,_,h => h
 | v :: vs,x0,x,h0,h => by
  obtain ⟨y,ys,a1,a2,_⟩ := h0
  obtain ⟨y',ys',b1,b2,b3⟩ := h
  exact ⟨y',ys',VR.restrict hs _ _ _ a1 b1,VRL.restrict hs _ _ _ a2 b2,b3⟩
end
theorem ER.restrict {m m' : Mp} (hs : Sub m m') : ∀ {es : List (V × V × Nat)} {y0 y : List MapEntry},ER m es y0 → ER m' es y → ER m es y
 | [],_,_,_,h => h
 | e :: es,y0,y,h0,h => by
  obtain ⟨a,as,a1,a2,_,a3,_⟩ := h0
  obtain ⟨b,bs,b1,b2,b3,b4,b5⟩ := h
  exact ⟨b,bs,VR.restrict hs _ _ _ a1 b1,VR.restrict hs _ _ _ a2 b2,b3,ER.restrict hs a3 b4,b5⟩
theorem OR.restrict {m m' : Mp} (hs : Sub m m') {ob0 ob : Go.Obj} {sh e : Nat} : ∀ {o : Obj},OR P m ob0 sh e o → OR P m' ob sh e o → OR P m ob sh e o
 | .cells ..,h0,h => by
  obtain ⟨c0,f0,_,a2,_⟩ := h0
  obtain ⟨c,fz,b1,b2,b3⟩ := h
  exact ⟨c,fz,b1,VRL.restrict hs _ _ _ a2 b2,b3⟩
 | .map ..,h0,h => by
  obtain ⟨e0,_,a2⟩ := h0
  obtain ⟨e1,b1,b2⟩ := h
  exact ⟨e1,b1,ER.restrict hs a2 b2⟩
 | .mapIter mm _ _ _,h0,h => by
  obtain ⟨_,r0,_,a3⟩ := h0
  obtain ⟨b0,r,b2,b3⟩ := h
  refine ⟨b0,r,b2,?_⟩
  cases mm with
  | none => exact b3
  | some i =>
   obtain ⟨x,y,z,c1,_⟩ := a3
   obtain ⟨x',y',z',d1,d2⟩ := b3
   have := hs _ _ c1
   rw [d1] at this; cases this
   exact ⟨x,y,z,c1,d2⟩
 | .strIter ..,_,h => h
 | .loop ..,h0,h => by
  obtain ⟨L0,_,_,_,a4,_⟩ := h0
  obtain ⟨L,b1,b2,b3,b4,b5⟩ := h
  exact ⟨L,b1,b2,b3,VRL.restrict hs _ _ _ a4 b4,b5⟩
 | .dead,_,h => h
theorem HR.drop {m m' : Mp} {h h1 : H} {w0 w' : World} (hr : HR P m h w0) (hr' : HR P m' h1 w') (hs : Sub m m') (hget : ∀ i,i < h.size → h1.get i = h.get i) (hw : w0.heap.size ≤ w'.heap.size) : HR P m h w' where
 ok := hr.ok
 dom := hr.dom
 glob := hr.glob
 blk := fun i r sh e hm => Nat.lt_of_lt_of_le (hr.blk i r sh e hm) hw
 obj := fun i o hg hl => by
  obtain ⟨r,sh,e,ob0,a1,_,a3⟩ := hr.obj i o hg hl
  obtain ⟨r',sh',e',ob,b1,b2,b3⟩ := hr'.obj i o (by rw [hget i (H.get_lt hg)]; exact hg) hl
  have := hs _ _ a1
  rw [b1] at this; cases this
  exact ⟨r,sh,e,ob,a1,b2,a3.restrict hs b3⟩
 inj := hr.inj
theorem Ext.drop {m m' : Mp} {h h1 : H} {w w' : World} (x : Ext m h w m' h1 w') : Ext m h w m h w' where
 sub := Sub.refl m
 hsize := Nat.le_refl _
 wsize := x.wsize
 frame := x.frame
 own := fun _ _ h => h
 os := x.os
 output := x.output
 tape := x.tape
 rng := fun _ _ h => h
structure Pend (m0 : Nat) (m : Mp) (w : World) (r : Nat) (ob : Go.Obj) : Prop where
 new : m0 ≤ r
 here : w.heap[r]? = some ob
 out : ∀ i y,m i ≠ some (r,y)
theorem Pend.lt {m0 : Nat} {m : Mp} {w : World} {r : Nat} {ob : Go.Obj} (p : Pend m0 m w r ob) : r < w.heap.size := by
 rcases Nat.lt_or_ge r w.heap.size with h | h
 ·exact h
 ·have := p.here; simp [Array.getElem?_eq_none h] at this
theorem Pend.ext {m0 : Nat} {m m' : Mp} {h h' : H} {w w' : World} {r : Nat} {ob : Go.Obj} (p : Pend m0 m w r ob) (x : Ext m h w m' h' w') : Pend m0 m' w' r ob where
 new := p.new
 here := by
  rw [x.frame r p.lt ?_]
  ·exact p.here
  ·rintro ⟨i,o,sh,e,_,_,hm⟩
   exact p.out _ _ hm
 out := fun i y hm => by
  obtain ⟨j,z,hj⟩ := x.rng r p.lt ⟨i,y,hm⟩
  exact p.out _ _ hj
theorem HR.adopt {m : Mp} {h : H} {w : World} {o : Obj} {ob : Go.Obj} {r sh e k : Nat} (hr : HR P m h w) (p : Pend k m w r ob) (hor : OR P m ob sh e o) : HR P (upd m h.size (r,sh,e)) (h.psh o) w := by
 have hs := sub_upd (x := (r,sh,e)) hr.fresh
 have hup : ∀ i x,i ≠ h.size → upd m h.size (r,sh,e) i = some x → m i = some x := fun i x hi hx => by simpa [upd,hi] using hx
 constructor
 ·trivial
 ·intro i x hx
  by_cases hi : i = h.size
  ·subst hi; exact Nat.lt_succ_self _
  ·exact Nat.lt_succ_of_lt (hr.dom _ _ (hup i x hi hx))
 ·intro g hg; exact hs _ _ (hr.glob g hg)
 ·intro i r' sh' e' hx
  by_cases hi : i = h.size
  ·subst hi; rw [upd_self] at hx; cases hx; exact p.lt
  ·exact hr.blk _ _ _ _ (hup i _ hi hx)
 ·intro i o' hg hl
  rw [H.get_psh] at hg
  by_cases hi : i = h.size
  ·subst hi
   rw [if_pos rfl] at hg; cases hg
   exact ⟨_,_,_,ob,upd_self _ _ _,p.here,hor.mono hs⟩
  ·rw [if_neg hi] at hg
   obtain ⟨r',sh',e',ob',h1,h2,h3⟩ := hr.obj i o' hg hl
   exact ⟨r',sh',e',ob',hs _ _ h1,h2,h3.mono hs⟩
 ·intro i j o1 o2 r' sh1 e1 sh2 e2 hi hj hm1 hl2 g1 g2
  rw [H.get_psh] at hi hj
  by_cases hi' : i = h.size <;> by_cases hj' : j = h.size
  ·omega
  ·subst hi'; rw [upd_self] at g1; cases g1
   exact absurd (hup j _ hj' g2) (p.out _ _)
  ·subst hj'; rw [upd_self] at g2; cases g2
   exact absurd (hup i _ hi' g1) (p.out _ _)
  ·rw [if_neg hi'] at hi; rw [if_neg hj'] at hj
   exact hr.inj i j o1 o2 r' sh1 e1 sh2 e2 hi hj hm1 hl2 (hup i _ hi' g1) (hup j _ hj' g2)
theorem Ext.adopt {m0 m : Mp} {h0 h : H} {w0 w : World} {o : Obj} {ob : Go.Obj} {r sh e : Nat} (x : Ext m0 h0 w0 m h w) (hf : m h.size = none) (p : Pend w0.heap.size m w r ob) : Ext m0 h0 w0 (upd m h.size (r,sh,e)) (h.psh o) w where
 sub := x.sub.trans (sub_upd hf)
 hsize := Nat.le_succ_of_le x.hsize
 wsize := x.wsize
 frame := x.frame
 own := by
  rintro b hb ⟨i,o',sh',e',hg,hm,hi⟩
  by_cases his : i = h.size
  ·subst his; rw [upd_self] at hi; cases hi
   exact absurd hb (Nat.not_lt.2 p.new)
  ·rw [H.get_psh,if_neg his] at hg
   exact x.own b hb ⟨i,o',sh',e',hg,hm,by simpa [upd,his] using hi⟩
 os := x.os
 output := x.output
 tape := x.tape
 rng := by
  rintro b hb ⟨i,y,hi⟩
  by_cases his : i = h.size
  ·subst his; rw [upd_self] at hi; cases hi
   exact absurd hb (Nat.not_lt.2 p.new)
  ·exact x.rng b hb ⟨i,y,by simpa [upd,his] using hi⟩
theorem Pend.adopt {k : Nat} {m : Mp} {w : World} {r r' sh e i : Nat} {ob : Go.Obj} (p : Pend k m w r ob) (hne : r' ≠ r) : Pend k (upd m i (r',sh,e)) w r ob where
 new := p.new
 here := p.here
 out := fun j y hj => by
  unfold upd at hj; split at hj
  ·cases hj; exact hne rfl
  ·exact p.out _ _ hj
variable {P : Program} {ap : Ap}
def mlG (g : Option Grp) (i : Nat) (o : O) : O := match g with
 | some g => mlO g i o
 | none => o
theorem mlG_same (g : Option Grp) (i : Nat) (o : O) : (mlG g i o).pre = o.pre ∧ (mlG g i o).dst = o.dst ∧ (mlG g i o).guard = o.guard ∧ (mlG g i o).names = o.names := by
 cases g with
 | none => exact ⟨rfl,rfl,rfl,rfl⟩
 | some g =>
  simp only [mlG,mlO]
  split
  ·exact ⟨rfl,rfl,rfl,rfl⟩
  ·split
   ·exact ⟨rfl,rfl,rfl,rfl⟩
   ·split
    ·exact ⟨rfl,rfl,rfl,rfl⟩
    ·split <;> exact ⟨rfl,rfl,rfl,rfl⟩
theorem mlAll_get (g : Grp) : ∀ (l : List O) (k i : Nat),(mlAll g l k)[i]? = (l[i]?).map (mlO g (k + i))
 | [],_,_ => by simp [mlAll]
 | o :: l,k,0 => by simp [mlAll]
 | o :: l,k,i + 1 => by
  have := mlAll_get g l (k + 1) i
  simp only [mlAll,List.getElem?_cons_succ]
  rw [this,show k + 1 + i = k + (i + 1) by omega]
theorem mlAll_length (g : Grp) : ∀ (l : List O) (k : Nat),(mlAll g l k).length = l.length
 | [],_ => rfl
 | o :: l,k => by simp [mlAll,mlAll_length g l]
theorem allIdx_get {f : Nat → O → Bool} : ∀ (l : List O) (k i : Nat) (o : O),allIdx f l k = true → l[i]? = some o → f (k + i) o = true
 | [],_,_,_,_,h => by simp at h
 | o1 :: l,k,0,o,ha,h => by
  simp at h; subst h
  simp only [allIdx,Bool.and_eq_true] at ha
  exact ha.1
 | o1 :: l,k,i + 1,o,ha,h => by
  simp only [allIdx,Bool.and_eq_true] at ha
  have := allIdx_get l (k + 1) i o ha.2 (by simpa using h)
  rwa [show k + 1 + i = k + (i + 1) by omega] at this
theorem mlHead_spec : ∀ (l : List O) (k i0 d : Nat),mlHead l k = some (i0,d) → ∃ i o,i0 = k + i ∧ l[i]? = some o ∧ o.op = .mkMap ∧ o.dst = some d ∧ o.guard = none
 | [],_,_,_,h => by simp [mlHead] at h
 | o :: l,k,i0,d,h => by
  unfold mlHead at h
  split at h
  ·rename_i d' h1 h2 h3
   cases h
   exact ⟨0,o,by simp,rfl,h1,h2,h3⟩
  ·obtain ⟨i,o',q1,q2⟩ := mlHead_spec l (k + 1) i0 d h
   exact ⟨i + 1,o',by omega,by simpa using q2⟩
theorem mlIns_mem {d : Nat} : ∀ (l : List O) (k : Nat) (x : Nat × V × V),x ∈ mlIns d l k → ∃ i o,x.1 = k + i ∧ l[i]? = some o ∧ mlInsOf d o.op = some x.2
 | [],_,_,h => by simp [mlIns] at h
 | o :: l,k,x,h => by
  unfold mlIns at h
  have rec_ : x ∈ mlIns d l (k + 1) → ∃ i o',x.1 = k + i ∧ (o :: l)[i]? = some o' ∧ mlInsOf d o'.op = some x.2 := fun h => by
   obtain ⟨i,o',q1,q2,q3⟩ := mlIns_mem l (k + 1) x h
   exact ⟨i + 1,o',by omega,by simpa using q2,q3⟩
  split at h
  ·rename_i kk vv hq
   rcases List.mem_cons.1 h with rfl | h
   ·exact ⟨0,o,by simp,rfl,hq⟩
   ·exact rec_ h
  ·exact rec_ h
theorem mlIns_of {d : Nat} : ∀ (l : List O) (k i : Nat) (o : O) (y : V × V),l[i]? = some o → mlInsOf d o.op = some y → (k + i,y) ∈ mlIns d l k
 | [],_,_,_,_,h,_ => by simp at h
 | o1 :: l,k,0,o,y,h,hy => by
  simp at h; subst h
  unfold mlIns
  rw [hy]; simp
 | o1 :: l,k,i + 1,o,y,h,hy => by
  have := mlIns_of l (k + 1) i o y (by simpa using h) hy
  rw [show k + 1 + i = k + (i + 1) by omega] at this
  unfold mlIns
  split
  ·exact List.mem_cons_of_mem _ this
  ·exact this
theorem mlCps_mem {d : Nat} : ∀ (l : List O) (k : Nat) (x : Nat × Nat),x ∈ mlCps d l k → ∃ i o,x.1 = k + i ∧ l[i]? = some o ∧ mlCpOf d o = some x.2
 | [],_,_,h => by simp [mlCps] at h
 | o :: l,k,x,h => by
  unfold mlCps at h
  have rec_ : x ∈ mlCps d l (k + 1) → ∃ i o',x.1 = k + i ∧ (o :: l)[i]? = some o' ∧ mlCpOf d o' = some x.2 := fun h => by
   obtain ⟨i,o',q1,q2,q3⟩ := mlCps_mem l (k + 1) x h
   exact ⟨i + 1,o',by omega,by simpa using q2,q3⟩
  split at h
  ·rename_i t hq
   rcases List.mem_cons.1 h with rfl | h
   ·exact ⟨0,o,by simp,rfl,hq⟩
   ·exact rec_ h
  ·exact rec_ h
theorem mlCps_of {d : Nat} : ∀ (l : List O) (k i : Nat) (o : O) (t : Nat),l[i]? = some o → mlCpOf d o = some t → (k + i,t) ∈ mlCps d l k
 | [],_,_,_,_,h,_ => by simp at h
 | o1 :: l,k,0,o,t,h,hy => by
  simp at h; subst h
  unfold mlCps
  rw [hy]; simp
 | o1 :: l,k,i + 1,o,t,h,hy => by
  have := mlCps_of l (k + 1) i o t (by simpa using h) hy
  rw [show k + 1 + i = k + (i + 1) by omega] at this
  unfold mlCps
  split
  ·exact List.mem_cons_of_mem _ this
  ·exact this
structure GrpOK (g : Grp) (l : List O) : Prop where
 cps : g.cp = mlCps g.d l 0
 head : ∃ o,l[g.i0]? = some o ∧ o.op = .mkMap ∧ o.dst = some g.d ∧ o.guard = none
 ins : g.ins = mlIns g.d l 0
 some_ : g.ins ≠ []
 keys : distinctKeys g.ins = true
 one : ∀ (i : Nat) o,l[i]? = some o → mlOne g i o = true
theorem mlGrp_ok {l : List O} {g : Grp} (h : mlGrp l = some g) : GrpOK g l := by
 unfold mlGrp at h
 split at h
 ·rename_i i0 d hh
  split at h
  ·rename_i hc
   simp only [Bool.and_eq_true] at hc
   cases h
   obtain ⟨i,o,q1,q2,q3,q4,q5⟩ := mlHead_spec l 0 i0 d hh
   rw [Nat.zero_add] at q1; subst q1
   exact ⟨rfl,⟨o,q2,q3,q4,q5⟩,rfl,fun he => by simp only at he; have := hc.1.1; rw [he] at this; simp at this,hc.1.2,fun i o ho => by have := allIdx_get l 0 i o hc.2 ho; rwa [Nat.zero_add] at this⟩
  ·cases h
 ·cases h
theorem mlInsOf_spec {d : Nat} {k : K} {y : V × V} (h : mlInsOf d k = some y) : k = .mapUpd .int (.t d) (.k y.1) (.k y.2) := by
 unfold mlInsOf at h
 split at h
 ·rename_i t a b
  split at h
  ·rename_i ht; subst ht; cases h; rfl
  ·cases h
 ·cases h
theorem mlCpOf_spec {d : Nat} {o : O} {t : Nat} (h : mlCpOf d o = some t) : o.op = .mv (.t d) ∧ o.guard = none ∧ o.dst = some t := by
 unfold mlCpOf at h
 split at h
 ·rename_i t' h1 h2
  split at h
  ·rename_i ht; subst ht; exact ⟨h1,h2,h⟩
  ·cases h
 ·cases h
theorem mlLookOf_spec {g : Grp} {o : O} {y : Nat × V × Bool × A} (h : mlLookOf g o = some y) : o.op = .lookup .int y.2.1 y.2.2.1 (.t y.1) y.2.2.2 ∧ (y.1 = g.d ∨ ∃ x ∈ g.cp,x.2 = y.1 ∧ o.pre.testBit x.1 = true) := by
 unfold mlLookOf at h
 split at h
 ·rename_i z ok t a he
  split at h
  ·rename_i ht
   cases h
   refine ⟨he,?_⟩
   unfold mlHold at ht
   rw [Bool.or_eq_true,List.any_eq_true] at ht
   rcases ht with ht | ⟨x,h1,h2⟩
   ·exact .inl (by simpa using ht)
   ·rw [Bool.and_eq_true] at h2
    exact .inr ⟨x,h1,by simpa using h2.1,h2.2⟩
  ·cases h
 ·cases h
theorem mlTmp_no {g : Grp} {t : Nat} (h : mlTmp g t = false) : t ≠ g.d ∧ ∀ x ∈ g.cp,t ≠ x.2 := by
 unfold mlTmp at h
 rw [Bool.or_eq_false_iff,List.any_eq_false] at h
 refine ⟨by simpa using h.1,fun x hx he => h.2 x hx (by rw [he]; simp)⟩
theorem findK_some {kt : EqT} {k : V} : ∀ {es : List (V × V × Nat)} {i : Nat} {r : Nat × V},findK kt k es i = some (some r) → ∃ e ∈ es,sameK kt k e.1 = some true ∧ e.2.1 = r.2
 | [],_,_,h => by simp [findK] at h
 | e :: es,i,r,h => by
  unfold findK at h
  split at h
  ·rename_i hs; cases h; exact ⟨e,List.mem_cons_self,hs,rfl⟩
  ·obtain ⟨e',h1,h2⟩ := findK_some h
   exact ⟨e',List.mem_cons_of_mem _ h1,h2⟩
  ·cases h
theorem findK_none {kt : EqT} {k : V} : ∀ {es : List (V × V × Nat)} {i : Nat},findK kt k es i = some none → ∀ e ∈ es,sameK kt k e.1 = some false
 | [],_,_,e,he => by simp at he
 | e1 :: es,i,h,e,he => by
  unfold findK at h
  split at h
  ·cases h
  ·rename_i hs
   rcases List.mem_cons.1 he with rfl | he
   ·exact hs
   ·exact findK_none h e he
  ·cases h
theorem findK_none_of {kt : EqT} {k : V} : ∀ {es : List (V × V × Nat)} {i : Nat},(∀ e ∈ es,sameK kt k e.1 = some false) → findK kt k es i = some none
 | [],_,_ => rfl
 | e1 :: es,i,h => by
  unfold findK
  rw [h e1 List.mem_cons_self]
  exact findK_none_of fun e he => h e (List.mem_cons_of_mem _ he)
theorem findK_some_of {kt : EqT} {k : V} : ∀ {es : List (V × V × Nat)} {i : Nat} {e : V × V × Nat},e ∈ es → sameK kt k e.1 = some true → (∀ e' ∈ es,e'.1 = e.1 ∧ e'.2.1 = e.2.1 ∨ sameK kt k e'.1 = some false) → ∃ j,findK kt k es i = some (some (j,e.2.1))
 | [],_,_,he,_,_ => by simp at he
 | e1 :: es,i,e,he,hs,ha => by
  unfold findK
  rcases ha e1 List.mem_cons_self with ⟨h1,h2⟩ | h
  ·rw [h1,hs,← h2]; exact ⟨_,rfl⟩
  ·rw [h]
   simp only
   rcases List.mem_cons.1 he with rfl | he
   ·rw [hs] at h; cases h
   ·exact findK_some_of he hs fun e' he' => ha e' (List.mem_cons_of_mem _ he')
theorem distinct_spec : ∀ {l : List (Nat × V × V)},distinctKeys l = true → ∀ x ∈ l, ∀ y ∈ l,x = y ∨ (sameK .int x.2.1 y.2.1 = some false)
 | [],_,x,hx,_,_ => by simp at hx
 | a :: l,h,x,hx,y,hy => by
  simp only [distinctKeys,Bool.and_eq_true,List.all_eq_true] at h
  have one : ∀ z ∈ l,sameK .int a.2.1 z.2.1 = some false ∧ sameK .int z.2.1 a.2.1 = some false := fun z hz => by
   obtain ⟨h1,h2⟩ := h.1 z hz
   refine ⟨?_,?_⟩
   ·split at h1
    ·assumption
    ·cases h1
   ·split at h2
    ·assumption
    ·cases h2
  rcases List.mem_cons.1 hx with e1 | hx' <;> rcases List.mem_cons.1 hy with e2 | hy'
  ·exact .inl (e1.trans e2.symm)
  ·rw [e1]; exact .inr (one y hy').1
  ·rw [e2]; exact .inr (one x hx').2
  ·exact distinct_spec h.2 x hx' y hy'
theorem sameK_int {k a b : V} {r : Bool} (h1 : sameK .int k a = some true) (h2 : sameK .int a b = some r) : sameK .int k b = some r := by
 unfold sameK at h1 h2 ⊢
 split at h1
 ·rename_i κ x κ' y
  split at h1
  ·rename_i he; subst he
   cases b with
   | int κ2 z =>
    simp only at h2 ⊢
    split at h2
    ·rename_i he2; subst he2
     simp only [Option.some.injEq,beq_iff_eq] at h1
     subst h1
     simpa using h2
    ·cases h2
   | _ => simp at h2
  ·cases h1
 all_goals simp_all
end Go.AM
namespace Go.AM
variable {P : Program} {ap : Ap}
def tJ (L A : Nat → Bool) : List XE → Nat → List V → List V
 | [],_,T => T
 | (o,e) :: X,k,T => tJ L A X (k + 1) (if A k then putV T o.dst e.v else if L k then putV T o.dst .junk else T)
theorem length_tJ (L A : Nat → Bool) : ∀ (X : List XE) (k : Nat) (T : List V),(tJ L A X k T).length = T.length
 | [],_,_ => rfl
 | (o,e) :: X,k,T => by
  simp only [tJ]
  rw [length_tJ L A X]
  split
  ·exact length_putV _ _ _
  ·split
   ·exact length_putV _ _ _
   ·rfl
theorem tJ_congr {L A L' A' : Nat → Bool} {t : Nat} : ∀ (X : List XE) (k : Nat) (T U : List V),T.length = U.length → T[t]? = U[t]? →
  (∀ j x,X[j]? = some x → x.1.dst = some t → A (k + j) = A' (k + j) ∧ (A (k + j) = false → L (k + j) = L' (k + j))) → (tJ L A X k T)[t]? = (tJ L' A' X k U)[t]?
 | [],_,T,U,_,h,_ => h
 | (o,e) :: X,k,T,U,hl,h,hd => by
  simp only [tJ]
  refine tJ_congr X (k + 1) _ _ ?_ ?_ fun j x hx hxt => ?_
  ·split <;> split <;> (try split) <;> (try split) <;> simp [length_putV,hl]
  ·by_cases hdst : o.dst = some t
   ·have := hd 0 (o,e) rfl hdst
    simp only [Nat.add_zero] at this
    obtain ⟨h1,h2⟩ := this
    rw [← h1]
    split
    ·rw [get_putV,get_putV,hl,h]
    ·rename_i hA
     rw [h2 (by simpa using hA)]
     split
     ·rw [get_putV,get_putV,hl,h]
     ·exact h
   ·split <;> split <;> (try split) <;> (try split) <;> simp [get_putV,hdst,h]
  ·have := hd (j + 1) x (by simpa using hx) hxt
   rw [Nat.add_assoc,Nat.add_comm 1 j]; exact this
theorem tJ_none {L A : Nat → Bool} {t : Nat} (X : List XE) (k : Nat) (T : List V) (h : ∀ j x,X[j]? = some x → x.1.dst = some t → A (k + j) = false ∧ L (k + j) = false) : (tJ L A X k T)[t]? = T[t]? := by
 have h0 : ∀ (X : List XE) (k : Nat) (T : List V),tJ (fun _ => false) (fun _ => false) X k T = T := by
  intro X
  induction X with
  | nil => intros; rfl
  | cons x X ih => intro k T; obtain ⟨o,e⟩ := x; simp [tJ,ih]
 rw [tJ_congr (L' := fun _ => false) (A' := fun _ => false) X k T T rfl rfl (fun j x hx hxt => ⟨(h j x hx hxt).1,fun _ => (h j x hx hxt).2⟩),h0]
theorem tS_eq_tJ (L : Nat → Bool) : ∀ (X : List XE) (k : Nat) (T : List V),tS L X k T = tJ L L X k T
 | [],_,_ => rfl
 | (o,e) :: X,k,T => by
  simp only [tS,tJ]
  rw [tS_eq_tJ L X]
  congr 1
  cases L k <;> rfl
theorem tJ_set {L A L' A' : Nat → Bool} : ∀ (X : List XE) (k i : Nat) (T : List V) (x : XE) (nv : V),X[i]? = some x → (A' (k + i) = true ∧ nv = x.2.v ∨ A' (k + i) = false ∧ L' (k + i) = true ∧ nv = .junk) →
  (∀ j,j ≠ i → A' (k + j) = A (k + j) ∧ L' (k + j) = L (k + j)) → (∀ j y t,i < j → X[j]? = some y → y.1.dst = some t → x.1.dst = some t → A (k + j) = false ∧ L (k + j) = false) →
  tJ L' A' X k T = putV (tJ L A X k T) x.1.dst nv
 | [],_,_,_,_,_,h,_,_,_ => by simp at h
 | (o,e) :: X,k,0,T,x,nv,h,h1,h3,h4 => by
  simp at h; subst h
  simp only [Nat.add_zero] at h1
  have hT : (if A' k = true then putV T o.dst e.v else if L' k = true then putV T o.dst .junk else T) = putV T o.dst nv := by
   rcases h1 with ⟨a,b⟩ | ⟨a,b,c⟩
   ·rw [if_pos a,b]
   ·rw [if_neg (by rw [a]; simp),if_pos b,c]
  simp only [tJ,hT]
  refine List.ext_getElem? fun t => ?_
  rw [get_putV,length_tJ]
  have hL : ∀ j x,X[j]? = some x → x.1.dst = some t → A' (k + 1 + j) = A (k + 1 + j) ∧ L' (k + 1 + j) = L (k + 1 + j) := fun j x _ _ => by
   have := h3 (j + 1) (by omega)
   rw [Nat.add_assoc,Nat.add_comm 1 j]; exact this
  have hlen : (putV T o.dst nv).length = (if A k = true then putV T o.dst e.v else if L k = true then putV T o.dst .junk else T).length := by
   split <;> (try split) <;> simp [length_putV]
  by_cases hd : o.dst = some t
  ·rw [if_pos hd,tJ_none]
   ·rw [get_putV,if_pos hd]
    have : (if A k = true then putV T o.dst e.v else if L k = true then putV T o.dst .junk else T).length = T.length := by rw [← hlen,length_putV]
    rw [this]
   ·intro j y hy hyt
    obtain ⟨q1,q2⟩ := hL j y hy hyt
    rw [q1,q2]
    have := h4 (j + 1) y t (by omega) (by simpa using hy) hyt hd
    rw [Nat.add_assoc,Nat.add_comm 1 j]; exact this
  ·rw [if_neg hd]
   refine tJ_congr X (k + 1) _ _ hlen ?_ fun j x hx hxt => ⟨(hL j x hx hxt).1,fun _ => (hL j x hx hxt).2⟩
   rw [get_putV,if_neg hd]
   split <;> (try split) <;> simp [get_putV,hd]
 | (o,e) :: X,k,i + 1,T,x,nv,h,h1,h3,h4 => by
  obtain ⟨h30,h31⟩ := h3 0 (by omega)
  simp only [Nat.add_zero] at h30 h31
  simp only [tJ,h30,h31]
  refine tJ_set X (k + 1) i _ x nv (by simpa using h) ?_ ?_ ?_
  ·rw [Nat.add_assoc,Nat.add_comm 1 i]; exact h1
  ·intro j hj
   have := h3 (j + 1) (by omega)
   rw [Nat.add_assoc,Nat.add_comm 1 j]; exact this
  ·intro j y t hj hy hyt hxt
   have := h4 (j + 1) y t (by omega) (by simpa using hy) hyt hxt
   rw [Nat.add_assoc,Nat.add_comm 1 j]; exact this
def flv : K → List V → Option ((Nat → V) × Obj)
 | .alloc ty z,_ => some (fun i => .ptr (some (i,0)),.cells z ty false false none)
 | .box ty a,T => (a.ev T).map fun v => (fun i => .ptr (some (i,0)),.cells v.cells ty false false none)
 | .bslice ty len z ps,T => (fillV T z ps).map fun cs => (fun i => .slice (some (i,0)) len len false,.cells cs ty false false none)
 | _,_ => none
theorem evK_fl {T : List V} {h : H} {k : K} (hk : k.fl = true) : evK P T h k = (flv k T).map fun x => .eff (x.1 h.size) (h.psh x.2) := by
 cases k with
 | alloc ty z => rfl
 | box ty a =>
  simp only [evK,flv,H.push]
  cases a.ev T <;> rfl
 | bslice ty len z ps =>
  simp only [evK,flv,H.push]
  cases fillV T z ps <;> rfl
 | _ => simp [K.fl] at hk
theorem flv_congr {T U : List V} {k : K} (h : Agree T U k.tms) : flv k T = flv k U := by
 cases k with
 | box ty a => simp only [flv]; rw [A.ev_congr (fun t ht => h t (by simpa [K.tms,K.as] using ht))]
 | bslice ty len z ps =>
  simp only [flv]
  rw [fillV_congr z fun p hp => A.ev_congr fun t ht => h t (by simp only [K.tms,K.as,List.mem_flatMap,List.mem_map]; exact ⟨p.2.2,⟨p,hp,rfl⟩,ht⟩)]
 | _ => rfl
theorem flv_VR {k : K} {T : List V} {f : Nat → V} {ob : Obj} (h : flv k T = some (f,ob)) {m m' : Mp} {i j : Nat} {y : Nat × Nat × Nat} {x : Value} (hv : VR m (f i) x) (h1 : m i = some y) (h2 : m' j = some y) : VR m' (f j) x := by
 have ptr : f = (fun i => .ptr (some (i,0))) → VR m' (f j) x := fun e => by
  subst e
  obtain ⟨r,sh,ee,a1,a2⟩ := hv
  rw [h1] at a1; cases a1
  exact ⟨_,_,_,h2,a2⟩
 cases k with
 | alloc ty z => cases h; exact ptr rfl
 | box ty a =>
  simp only [flv,Option.map_eq_some_iff,Prod.mk.injEq] at h
  obtain ⟨v,_,rfl,_⟩ := h; exact ptr rfl
 | bslice ty len z ps =>
  simp only [flv,Option.map_eq_some_iff,Prod.mk.injEq] at h
  obtain ⟨v,_,rfl,_⟩ := h
  obtain ⟨r,sh,ee,ad,a1,a2,a3⟩ := hv
  rw [h1] at a1; cases a1
  exact ⟨_,_,_,ad,h2,a2,a3⟩
 | _ => simp [flv] at h
theorem flv_dim {k : K} {T : List V} {f : Nat → V} {ob : Obj} (h : flv k T = some (f,ob)) {m : Mp} {i : Nat} {x : Value} (hv : VR m (f i) x) (m' : Mp) : VR m' .junk x := by
 have ptr : f = (fun i => .ptr (some (i,0))) → VR m' .junk x := fun e => by
  subst e
  obtain ⟨r,sh,ee,_,rfl⟩ := hv
  exact ⟨rfl,(fun b hb => by cases hb),(fun hb => by cases hb)⟩
 cases k with
 | alloc ty z => cases h; exact ptr rfl
 | box ty a =>
  simp only [flv,Option.map_eq_some_iff,Prod.mk.injEq] at h
  obtain ⟨v,_,rfl,_⟩ := h; exact ptr rfl
 | bslice ty len z ps =>
  simp only [flv,Option.map_eq_some_iff,Prod.mk.injEq] at h
  obtain ⟨v,_,rfl,_⟩ := h
  obtain ⟨r,sh,ee,ad,_,rfl,_⟩ := hv
  exact ⟨rfl,(fun b hb => by cases hb),(fun hb => by cases hb)⟩
 | _ => simp [flv] at h
structure Dr (P : Program) (ap : Ap) (ops : Array Oper) (l0 l : List O) (g : Option Grp) (es : List Ent) (T0 : List V) (H0 : H) (T' : List V) (H' : H) : Prop where
 comp : cOsFrom P (ops.toList.map (·.dst)) ops.toList [] = some l0
 edges : edgesBelow ops.toList 0 = true
 names : namesOk l0 0 = true
 lget : ∀ i,l[i]? = (l0[i]?).map (mlG g i)
 llen : l.length = l0.length
 gok : ∀ gg,g = some gg → GrpOK gg l0
 len : es.length = l.length
 dr : DrL P ap (l.zip es) T0 H0 T' H'
 acts : (actsOf l es 0).isEmpty = true ∨ (chainF (actsF l es 0) = true ∧ floatOk (actsF l es 0) l = true ∧ rdsOk P (actsOf l es 0) H0 l es 0 = true)
def Lf (listed : Array Bool) (j : Nat) : Bool := listed.getD j false
theorem actsF_mem : ∀ (l : List O) (es : List Ent) (k : Nat) (i : Nat) (x : XE),(l.zip es)[i]? = some x → x.2.act = true → (k + i,x.1.pre,x.1.op.fl) ∈ actsF l es k
 | [],es,k,i,x,h,_ => by simp at h
 | o :: l,[],k,i,x,h,_ => by simp at h
 | o :: l,e :: es,k,0,x,h,ha => by
  simp at h; subst h
  simp only at ha
  simp [actsF,ha]
 | o :: l,e :: es,k,i + 1,x,h,ha => by
  have := actsF_mem l es (k + 1) i x (by simpa using h) ha
  rw [show k + 1 + i = k + (i + 1) by omega] at this
  unfold actsF
  split
  ·exact List.mem_cons_of_mem _ this
  ·exact this
theorem chainF_spec : ∀ (l : List O) (es : List Ent) (k : Nat),chainF (actsF l es k) = true → ∀ (i j : Nat) (x y : XE),i < j → (l.zip es)[i]? = some x → (l.zip es)[j]? = some y → x.2.act = true → y.2.act = true → y.1.op.fl = true ∨ y.1.pre.testBit (k + i) = true
 | [],es,k,_,i,j,x,y,_,h1,_,_,_ => by simp at h1
 | o :: l,[],k,_,i,j,x,y,_,h1,_,_,_ => by simp at h1
 | o :: l,e :: es,k,hc,0,j,x,y,hij,h1,h2,h3,h4 => by
  simp at h1; subst h1
  simp only at h3
  simp only [actsF,h3,if_true,chainF,Bool.and_eq_true,List.all_eq_true,Bool.or_eq_true] at hc
  obtain ⟨j',rfl⟩ : ∃ j',j = j' + 1 := ⟨j - 1,by omega⟩
  exact hc.1 _ (actsF_mem l es (k + 1) j' y (by simpa using h2) h4)
 | o :: l,e :: es,k,hc,i + 1,j,x,y,hij,h1,h2,h3,h4 => by
  obtain ⟨j',rfl⟩ : ∃ j',j = j' + 1 := ⟨j - 1,by omega⟩
  have hc' : chainF (actsF l es (k + 1)) = true := by
   simp only [actsF] at hc
   split at hc
   ·simp only [chainF,Bool.and_eq_true] at hc; exact hc.2
   ·exact hc
  have := chainF_spec l es (k + 1) hc' i j' x y (by omega) (by simpa using h1) (by simpa using h2) h3 h4
  rw [show k + (i + 1) = k + 1 + i by omega]; exact this
section
variable {ops : Array Oper} {l0 l : List O} {g : Option Grp} {es : List Ent} {T0 T' : List V} {H0 H' : H}
def DC (l : List O) (L : Nat → Bool) : Prop := ∀ (i : Nat) (oo : O),l[i]? = some oo → L i = true → ∀ j,oo.pre.testBit j = true → L j = true
theorem zip_fst {i : Nat} {x : XE} (hx : (l.zip es)[i]? = some x) : l[i]? = some x.1 := by
 obtain ⟨a,b⟩ := x
 exact (List.getElem?_zip_eq_some.1 hx).1
theorem Dr.back (D : Dr P ap ops l0 l g es T0 H0 T' H') {i : Nat} {oo : O} (h : l[i]? = some oo) : ∃ o0,l0[i]? = some o0 ∧ oo = mlG g i o0 := by
 rw [D.lget i] at h
 obtain ⟨o0,h1,h2⟩ := Option.map_eq_some_iff.1 h
 exact ⟨o0,h1,h2.symm⟩
theorem Dr.namesL (D : Dr P ap ops l0 l g es T0 H0 T' H') {i j : Nat} {x y : O} (hij : i < j) (h1 : l[i]? = some x) (h2 : l[j]? = some y) :
  y.pre.testBit i = true ∨ ((∀ d,x.dst = some d → d ∉ y.names) ∧ (∀ d,y.dst = some d → d ∉ x.names)) := by
 obtain ⟨x0,a1,rfl⟩ := D.back h1
 obtain ⟨y0,b1,rfl⟩ := D.back h2
 obtain ⟨p1,p2,_,p4⟩ := mlG_same g i x0
 obtain ⟨q1,q2,_,q4⟩ := mlG_same g j y0
 rw [p2,p4,q1,q2,q4]
 have := namesOk_spec l0 0 D.names i j x0 y0 hij a1 b1
 rwa [Nat.zero_add] at this
theorem Dr.pre (D : Dr P ap ops l0 l g es T0 H0 T' H') {listed : Array Bool} (hdc : DC l (Lf listed)) {i : Nat} {o : Oper} {oo : O} (ho : ops[i]? = some o) (hoo : l[i]? = some oo) (hr : ∀ e ∈ o.after,Region.binds .any e = true → listed.getD e.on false = true) :
  ∀ j,oo.pre.testBit j = true → Lf listed j = true := by
 intro j hj
 obtain ⟨hlen,hat⟩ := cOsFrom_at _ _ _ D.comp
 obtain ⟨oo',h1,h2⟩ := hat i o (by simpa using ho)
 obtain ⟨o0,g1,rfl⟩ := D.back hoo
 rw [g1] at h1; cases h1
 obtain ⟨_,_,_,h3,_⟩ := cO_spec h2
 rw [(mlG_same g i oo').1,h3] at hj
 obtain ⟨e,he,hb,hx⟩ := preOf_spec hj
 have hL := hr e (by simpa using he) hb
 rcases hx with rfl | hx
 ·exact hL
 ·simp only [List.nil_append] at hx
  rw [List.getD_eq_getElem?_getD,List.getElem?_map,List.getElem?_take] at hx
  split at hx
  ·cases hoe : l0[e.on]? with
   | none => simp [hoe] at hx
   | some q =>
    simp [hoe] at hx
    have hle : l[e.on]? = some (mlG g e.on q) := by rw [D.lget,hoe]; rfl
    exact hdc e.on _ hle hL j (by rw [(mlG_same g e.on q).1]; exact hx)
  ·simp at hx
theorem Dr.ent (D : Dr P ap ops l0 l g es T0 H0 T' H') {i : Nat} {o : Oper} (ho : ops[i]? = some o) : ∃ o0 oo e,l0[i]? = some o0 ∧ oo = mlG g i o0 ∧ l[i]? = some oo ∧ (l.zip es)[i]? = some (oo,e) ∧ cK P o.op = some o0.op ∧ cGuard (ops.toList.map (·.dst)) o.guard = some oo.guard ∧ oo.dst = o.dst ∧
  (∀ d,oo.dst = some d → d ∈ oo.names) ∧ (∀ t w,oo.guard = some (t,w) → t ∈ oo.names) ∧ (∀ t ∈ o0.op.tms,t ∈ oo.names) ∧
  e.T = tS (fun j => decide (j < i)) (l.zip es) 0 T0 ∧ e.h = hS (fun j => decide (j < i)) (l.zip es) 0 H0 ∧ EntOK P ap oo e := by
 obtain ⟨hlen,hat⟩ := cOsFrom_at _ _ _ D.comp
 obtain ⟨o0,h1,h2⟩ := hat i o (by simpa using ho)
 obtain ⟨c1,c2,c3,c4,c5,c6,c7⟩ := cO_spec h2
 have hi : i < l.length := by rw [D.llen]; exact (List.getElem?_eq_some_iff.1 h1).1
 have hli : l[i]? = some (mlG g i o0) := by rw [D.lget,h1]; rfl
 have hz : (l.zip es)[i]? = some (mlG g i o0,es[i]'(by rw [D.len]; exact hi)) := by
  rw [List.getElem?_zip_eq_some]
  exact ⟨hli,by simp⟩
 obtain ⟨k1,k2,k3⟩ := D.dr.at (l.zip es) 0 T0 H0 T' H' i _ hz
 simp only [Nat.zero_add] at k1 k2
 obtain ⟨s1,s2,s3,s4⟩ := mlG_same g i o0
 exact ⟨o0,_,_,h1,rfl,hli,hz,c1,by rw [s3]; exact c2,by rw [s2]; exact c3,by rw [s2,s4]; exact c5,by rw [s3,s4]; exact c6,by rw [s4]; exact c7,k1,k2,k3⟩
theorem acts_ne {i : Nat} {x : XE} (hx : (l.zip es)[i]? = some x) (ha : x.2.act = true) : (actsOf l es 0).isEmpty = false := by
 have := (actsOf_mem l es 0 _).2 ⟨i,x,hx,ha,rfl⟩
 cases h : actsOf l es 0 with
 | nil => rw [h] at this; simp at this
 | cons a b => rfl
theorem Dr.ch (D : Dr P ap ops l0 l g es T0 H0 T' H') {i j : Nat} {x y : XE} (hij : i < j) (h1 : (l.zip es)[i]? = some x) (h2 : (l.zip es)[j]? = some y) (h3 : x.2.act = true) (h4 : y.2.act = true) : y.1.op.fl = true ∨ y.1.pre.testBit i = true := by
 have := chainF_spec l es 0 (D.acts.resolve_left (by rw [acts_ne h1 h3]; simp)).1 i j x y hij h1 h2 h3 h4
 rwa [Nat.zero_add] at this
theorem Dr.flo (D : Dr P ap ops l0 l g es T0 H0 T' H') {k p a : Nat} {o : O} {x y : XE} (hk : l[k]? = some o) (hp : (l.zip es)[p]? = some y) (hy : y.2.act = true) (hf : y.1.op.fl = true) (hb : o.pre.testBit p = true) (hx : (l.zip es)[a]? = some x) (hxa : x.2.act = true) (hap : a < p) : o.pre.testBit a = true := by
 have h := (D.acts.resolve_left (by rw [acts_ne hp hy]; simp)).2.1
 unfold floatOk at h
 have h1 := List.all_eq_true.1 h o (List.mem_of_getElem? hk)
 have h2 := List.all_eq_true.1 h1 _ (actsF_mem l es 0 p y hp hy)
 simp only [hf,Nat.zero_add,hb,Bool.and_self,Bool.not_true,Bool.false_or] at h2
 have h3 := List.all_eq_true.1 h2 _ (actsF_mem l es 0 a x hx hxa)
 simpa [hap] using h3
structure AdOK (X : List XE) (L A : Nat → Bool) : Prop where
 sub : ∀ j,A j = true → L j = true
 pend : ∀ j x,X[j]? = some x → L j = true → A j = false → x.2.act = true ∧ x.1.op.fl = true
 pre : ∀ (j k : Nat) x y,X[j]? = some x → X[k]? = some y → x.2.act = true → y.2.act = true → A j = true → k < j → A k = true
 wait : ∀ (q j : Nat) y x,X[q]? = some y → X[j]? = some x → L q = true → y.1.pre.testBit j = true → A j = true
def Sat (X : List XE) (L A : Nat → Bool) : Prop := ∀ p x,X[p]? = some x → L p = true → (∀ q y,q < p → X[q]? = some y → y.2.act = true → L q = true) → A p = true
theorem Dr.preA (D : Dr P ap ops l0 l g es T0 H0 T' H') {L A : Nat → Bool} (ad : AdOK (l.zip es) L A) (hs : Sat (l.zip es) L A) {i : Nat} {oo : O} (hoo : l[i]? = some oo) (hpre : ∀ j,oo.pre.testBit j = true → L j = true) {j : Nat} {x : XE} (hx : (l.zip es)[j]? = some x) (hj : oo.pre.testBit j = true) : A j = true := by
 cases hA : A j with
 | true => rfl
 | false =>
  exfalso
  obtain ⟨h1,h2⟩ := ad.pend j x hx (hpre j hj) hA
  have := hs j x hx (hpre j hj) fun q y hq hy hya => hpre q (D.flo hoo hx h1 h2 hj hy hya hq)
  rw [hA] at this; cases this
theorem Dr.agree (D : Dr P ap ops l0 l g es T0 H0 T' H') {L A : Nat → Bool} (hdc : DC l L) (ad : AdOK (l.zip es) L A) (hs : Sat (l.zip es) L A) {i : Nat} {oo : O} (hoo : l[i]? = some oo) (hni : L i = false) (hpre : ∀ j,oo.pre.testBit j = true → L j = true) :
  Agree (tJ L A (l.zip es) 0 T0) (tS (fun j => decide (j < i)) (l.zip es) 0 T0) oo.names := by
 intro t ht
 rw [tS_eq_tJ]
 refine tJ_congr _ 0 _ _ rfl rfl fun j x hx hxt => ?_
 have hxl := zip_fst hx
 simp only [Nat.zero_add]
 rcases Nat.lt_trichotomy j i with hji | hji | hji
 ·rcases D.namesL hji hxl hoo with h | ⟨h,_⟩
  ·rw [D.preA ad hs hoo hpre hx h]; simp [hji]
  ·exact absurd ht (h t hxt)
 ·subst hji
  have hAf : A j = false := by cases hA : A j with
   | false => rfl
   | true => have := ad.sub j hA; rw [hni] at this; cases this
  rw [hAf,hni]; simp
 ·have hd : decide (j < i) = false := by simp; omega
  rw [hd]
  rcases D.namesL hji hoo hxl with h | ⟨_,h⟩
  ·have hLf : L j = false := by
    cases hL : L j with
    | false => rfl
    | true => have := hdc j x.1 hxl hL i h; rw [hni] at this; cases this
   have hAf : A j = false := by cases hA : A j with
    | false => rfl
    | true => have := ad.sub j hA; rw [hLf] at this; cases this
   rw [hAf,hLf]; simp
  ·exact absurd ht (h t hxt)
end
end Go.AM
namespace Go.AM
variable {P : Program} {ap : Ap}
def PendF (P : Program) (k0 : Nat) (m : Mp) (w : World) (a : Act) (x : XE) (r : Nat) : Prop :=
 ∃ f ob obj sh ee,flv x.1.op x.2.T = some (f,obj) ∧ Pend k0 m w r ob ∧ OR P m ob sh ee obj ∧
  ∀ t xv,x.1.dst = some t → a.tmps[t]? = some xv → ∀ (m' : Mp) (i : Nat),m' i = some (r,sh,ee) → VR m' (f i) xv
def PendM (k0 : Nat) (m : Mp) (w : World) (a : Act) (gg : Grp) (L : Nat → Bool) (r : Nat) : Prop :=
 ∃ es es' cl,Pend k0 m w r (.map es' cl) ∧ ER m es es'.toList ∧ ((∀ xv,a.tmps[gg.d]? = some xv → xv = .map (some r)) ∧ ∀ x ∈ gg.cp,L x.1 = true → ∀ xv,a.tmps[x.2]? = some xv → xv = .map (some r)) ∧
  (∀ e ∈ es, ∃ x ∈ gg.ins,L x.1 = true ∧ e.1 = x.2.1 ∧ e.2.1 = x.2.2) ∧ (∀ x ∈ gg.ins,L x.1 = true → ∃ e ∈ es,e.1 = x.2.1 ∧ e.2.1 = x.2.2)
theorem tmps_put {a : Act} {dst : Option Nat} {xv : Value} {t : Nat} (h : dst ≠ some t) : (a.put dst xv).tmps[t]? = a.tmps[t]? := by
 cases dst with
 | none => rfl
 | some d =>
  simp only [Act.put]
  rw [Array.getElem?_setIfInBounds_ne (by rintro rfl; exact h rfl)]
theorem Pend.back {k0 : Nat} {m m' : Mp} {w : World} {r : Nat} {ob : Go.Obj} (p : Pend k0 m' w r ob) (hs : Sub m m') : Pend k0 m w r ob := ⟨p.new,p.here,fun i y hm => p.out i y (hs _ _ hm)⟩
theorem PendF.go {k0 : Nat} {m m2 : Mp} {w w' : World} {a : Act} {x : XE} {r : Nat} (p : PendF P k0 m w a x r) (hp : ∀ ob,Pend k0 m w r ob → Pend k0 m2 w' r ob) (hs : Sub m m2) {dst : Option Nat} {xv : Value} (hd : ∀ t,x.1.dst = some t → dst ≠ some t) : PendF P k0 m2 w' (a.put dst xv) x r := by
 obtain ⟨f,ob,obj,sh,ee,h1,h2,h3,h4⟩ := p
 refine ⟨f,ob,obj,sh,ee,h1,hp _ h2,h3.mono hs,fun t xv' ht hx => ?_⟩
 rw [tmps_put (hd t ht)] at hx
 exact h4 t xv' ht hx
theorem PendM.go {k0 : Nat} {m m2 : Mp} {w w' : World} {a : Act} {gg : Grp} {L L' : Nat → Bool} {r : Nat} (p : PendM k0 m w a gg L r) (hp : ∀ ob,Pend k0 m w r ob → Pend k0 m2 w' r ob) (hs : Sub m m2) {dst : Option Nat} {xv : Value} (hd : dst ≠ some gg.d) (hL : ∀ x ∈ gg.ins,L' x.1 = L x.1) (hc : ∀ x ∈ gg.cp,dst ≠ some x.2 ∧ L' x.1 = L x.1) : PendM k0 m2 w' (a.put dst xv) gg L' r := by
 obtain ⟨es,es',cl,h1,h2,h3,h4,h5⟩ := p
 refine ⟨es,es',cl,hp _ h1,h2.mono hs,⟨fun xv' hx => ?_,fun x hx hLx xv' hx' => ?_⟩,fun e he => ?_,fun x hx hLx => h5 x hx (by rw [← hL x hx]; exact hLx)⟩
 ·rw [tmps_put hd] at hx; exact h3.1 xv' hx
 ·obtain ⟨q1,q2⟩ := hc x hx
  rw [tmps_put q1] at hx'
  exact h3.2 x hx (by rw [← q2]; exact hLx) xv' hx'
 ·obtain ⟨x,q1,q2,q3⟩ := h4 e he
  exact ⟨x,q1,by rw [hL x q1]; exact q2,q3⟩
structure Inv (P : Program) (X : List XE) (g : Option Grp) (m0 : Mp) (h0 : H) (w0 : World) (ds : List Deferred) (T0 : List V) (H0 : H) (L A : Nat → Bool) (m : Mp) (w : World) (a : Act) : Prop where
 ad : AdOK X L A
 md : Mid P m0 h0 w0 m (hS A X 0 H0) w (tJ L A X 0 T0) ds a
 pf : ∃ R : Nat → Nat,(∀ p x,X[p]? = some x → L p = true → A p = false → PendF P w0.heap.size m w a x (R p)) ∧
  (∀ (p q : Nat) x y,X[p]? = some x → X[q]? = some y → L p = true → A p = false → L q = true → A q = false → p ≠ q → R p ≠ R q) ∧
  ∀ gg,g = some gg → L gg.i0 = true → ∃ r,PendM w0.heap.size m w a gg L r ∧ ∀ p x,X[p]? = some x → L p = true → A p = false → R p ≠ r
section
variable {ops : Array Oper} {l0 l : List O} {g : Option Grp} {es : List Ent} {T0 T' : List V} {H0 H' : H} {m0 : Mp} {h0 : H} {w0 : World} {ds : List Deferred}
theorem EntOK.fl {o : O} {e : Ent} (h : EntOK P ap o e) (ha : e.act = true) (hf : o.op.fl = true) : ∃ f obj,flv o.op e.T = some (f,obj) ∧ e.v = f e.h.size ∧ e.h' = e.h.psh obj := by
 unfold EntOK at h
 split at h
 ·rw [evK_fl hf] at h
  cases hv : flv o.op e.T with
  | none => rw [hv] at h; exact h.elim
  | some y =>
   obtain ⟨f,obj⟩ := y
   rw [hv] at h
   exact ⟨f,obj,rfl,h.1,h.2.1⟩
 ·rw [ha] at h; exact absurd h.2.2.1 (by simp)
theorem Dr.later (D : Dr P ap ops l0 l g es T0 H0 T' H') {L A : Nat → Bool} (hdc : DC l L) (ad : AdOK (l.zip es) L A) {i : Nat} {x : XE} (hx : (l.zip es)[i]? = some x) (hni : L i = false) (hdn : ∀ d,x.1.dst = some d → d ∈ x.1.names) :
  ∀ j y t,i < j → (l.zip es)[j]? = some y → y.1.dst = some t → x.1.dst = some t → A j = false ∧ L j = false := by
 intro j y t hij hy hyt hxt
 have hLf : L j = false := by
  rcases D.namesL hij (zip_fst hx) (zip_fst hy) with h | ⟨_,h⟩
  ·cases hL : L j with
   | false => rfl
   | true => have := hdc j y.1 (zip_fst hy) hL i h; rw [hni] at this; cases this
  ·exact absurd (hdn t hxt) (h t hyt)
 refine ⟨?_,hLf⟩
 cases hA : A j with
 | false => rfl
 | true => have := ad.sub j hA; rw [hLf] at this; cases this
theorem Dr.dstn (D : Dr P ap ops l0 l g es T0 H0 T' H') {i : Nat} {x : XE} (hx : (l.zip es)[i]? = some x) : ∀ d,x.1.dst = some d → d ∈ x.1.names := by
 obtain ⟨o0,a1,a2⟩ := D.back (zip_fst hx)
 obtain ⟨hlen,hat⟩ := cOsFrom_at _ _ _ D.comp
 have hi : i < ops.toList.length := by rw [← hlen]; exact (List.getElem?_eq_some_iff.1 a1).1
 obtain ⟨oo,h1,h2⟩ := hat i ops.toList[i] (List.getElem?_eq_getElem hi)
 rw [a1] at h1; cases h1
 obtain ⟨_,_,_,_,c5,_⟩ := cO_spec h2
 rw [a2,(mlG_same g i o0).2.1,(mlG_same g i o0).2.2.2]
 exact c5
theorem Dr.take1 (D : Dr P ap ops l0 l g es T0 H0 T' H') {L A : Nat → Bool} {m : Mp} {w : World} {a : Act} (iv : Inv P (l.zip es) g m0 h0 w0 ds T0 H0 L A m w a) {n : Nat} {x : XE} (hx : (l.zip es)[n]? = some x) (hL : L n = true) (hA : A n = false)
  (hacts : ∀ q y,q < n → (l.zip es)[q]? = some y → y.2.act = true → A q = true) :
  ∃ m',Inv P (l.zip es) g m0 h0 w0 ds T0 H0 L (fun j => if j = n then true else A j) m' w a := by
 obtain ⟨R,r1,r2,r3⟩ := iv.pf
 obtain ⟨hact,hfl⟩ := iv.ad.pend n x hx hL hA
 have hafter : ∀ q y t,n < q → (l.zip es)[q]? = some y → y.1.dst = some t → x.1.dst = some t → A q = false ∧ L q = false := by
  intro q y t hnq hy hyt hxt
  have hLf : L q = false := by
   rcases D.namesL hnq (zip_fst hx) (zip_fst hy) with h | ⟨_,h⟩
   ·cases hLq : L q with
    | false => rfl
    | true => have := iv.ad.wait q n y x hy hx hLq h; rw [hA] at this; cases this
   ·exact absurd (D.dstn hx t hxt) (h t hyt)
  refine ⟨?_,hLf⟩
  cases hAq : A q with
  | false => rfl
  | true => have := iv.ad.sub q hAq; rw [hLf] at this; cases this
 have hio : n < ops.size := by
  obtain ⟨o0,a1,_⟩ := D.back (zip_fst hx)
  have := (List.getElem?_eq_some_iff.1 a1).1
  rw [(cOsFrom_at _ _ _ D.comp).1] at this
  simpa using this
 obtain ⟨o0,oo,e,q1,q2,q3,q4,_,_,_,_,_,_,k1,k2,k3⟩ := D.ent (o := ops[n]) (Array.getElem?_eq_getElem hio)
 rw [hx] at q4; cases q4
 simp only at hact hfl
 obtain ⟨f,obj,f1,f2,f3⟩ := k3.fl hact hfl
 obtain ⟨f',ob,obj',sh,ee,g1,g2,g3,g4⟩ := r1 n _ hx hL hA
 simp only at g1
 rw [f1] at g1; cases g1
 have hh : hS A (l.zip es) 0 H0 = e.h := by
  rw [k2]
  refine hS_congr _ 0 _ fun j y hy hya => ?_
  rw [Nat.zero_add]
  rcases Nat.lt_trichotomy j n with h | h | h
  ·rw [hacts j y h hy hya]; simp [h]
  ·subst h; rw [hA]; simp
  ·have hd : decide (j < n) = false := by simp; omega
   rw [hd]
   cases hAj : A j with
   | false => rfl
   | true => have := iv.ad.pre j n y _ hy hx hya hact hAj h; rw [hA] at this; cases this
 have hh' : hS (fun j => if j = n then true else A j) (l.zip es) 0 H0 = e.h' := by
  refine hS_add _ 0 n _ _ hx hact (by simp) fun j y hij hy hya => ?_
  rw [Nat.zero_add]
  simp only [show j ≠ n by omega,if_false]
  cases hAj : A j with
  | false => rfl
  | true => have := iv.ad.pre j n y _ hy hx hya hact hAj hij; rw [hA] at this; cases this
 have hT : tJ L (fun j => if j = n then true else A j) (l.zip es) 0 T0 = putV (tJ L A (l.zip es) 0 T0) oo.dst e.v :=
  tJ_set (l.zip es) 0 n T0 (oo,e) e.v hx (.inl ⟨by simp,rfl⟩) (fun j hj => by simp [hj]) (fun j y t h1 h2 h3 h4 => by rw [Nat.zero_add]; exact hafter j y t h1 h2 h3 h4)
 have hr := iv.md.cx.hr
 rw [hh] at hr
 have hmd := iv.md
 rw [hh] at hmd
 refine ⟨upd m e.h.size (R n,sh,ee),⟨?_,?_,?_,?_⟩,?_,R,?_,?_,?_⟩
 ·intro j hj
  by_cases hjn : j = n
  ·subst hjn; exact hL
  ·simp only [hjn,if_false] at hj; exact iv.ad.sub j hj
 ·intro j y hy hLj hAj
  by_cases hjn : j = n
  ·subst hjn; simp at hAj
  ·simp only [hjn,if_false] at hAj; exact iv.ad.pend j y hy hLj hAj
 ·intro j k y z hy hz hya hza hAj hkj
  by_cases hkn : k = n
  ·simp [hkn]
  ·simp only [hkn,if_false]
   by_cases hjn : j = n
   ·subst hjn; exact hacts k z hkj hz hza
   ·simp only [hjn,if_false] at hAj
    exact iv.ad.pre j k y z hy hz hya hza hAj hkj
 ·intro q j y z hy hz hLq hb
  have := iv.ad.wait q j y z hy hz hLq hb
  simp [this]
 ·rw [hh',f3,hT]
  refine ⟨⟨?_,hr.adopt g2 g3⟩,hmd.ext.adopt hr.fresh g2,hmd.defers⟩
  have hs := sub_upd (x := (R n,sh,ee)) hr.fresh
  have ht := VRL.mono hs _ _ iv.md.cx.tr
  unfold TR
  cases hd : oo.dst with
  | none => exact ht
  | some d =>
   simp only [putV]
   refine VRL.of_get (by rw [List.length_set]; exact ht.length) fun i v hv => ?_
   rw [List.getElem?_set] at hv
   by_cases hdi : d = i
   ·subst hdi
    rw [if_pos rfl] at hv
    split at hv
    ·rename_i hlt
     cases hv
     have hlt' : d < a.tmps.toList.length := by rw [ht.length]; exact hlt
     refine ⟨a.tmps.toList[d],List.getElem?_eq_getElem hlt',?_⟩
     rw [f2]
     exact g4 d _ hd (by rw [← Array.getElem?_toList,List.getElem?_eq_getElem hlt']) _ _ (upd_self _ _ _)
    ·cases hv
   ·rw [if_neg hdi] at hv
    exact ht.get hv
 ·intro p y hy hLp hAp
  by_cases hpn : p = n
  ·subst hpn; simp at hAp
  ·simp only [hpn,if_false] at hAp
   obtain ⟨f2',ob2,obj2,sh2,ee2,c1,c2,c3,c4⟩ := r1 p y hy hLp hAp
   exact ⟨f2',ob2,obj2,sh2,ee2,c1,c2.adopt (r2 n p _ y hx hy hL hA hLp hAp (Ne.symm hpn)),c3.mono (sub_upd hr.fresh),c4⟩
 ·intro p q y z hy hz hLp hAp hLq hAq hpq
  by_cases hpn : p = n
  ·subst hpn; simp at hAp
  ·by_cases hqn : q = n
   ·subst hqn; simp at hAq
   ·simp only [hpn,if_false] at hAp
    simp only [hqn,if_false] at hAq
    exact r2 p q y z hy hz hLp hAp hLq hAq hpq
 ·intro gg hg hi
  obtain ⟨r,⟨es1,es',cl,c1,c2,c3,c4,c5⟩,hne⟩ := r3 gg hg hi
  refine ⟨r,⟨es1,es',cl,c1.adopt (hne n _ hx hL hA),c2.mono (sub_upd hr.fresh),c3,c4,c5⟩,fun p y hy hLp hAp => ?_⟩
  by_cases hpn : p = n
  ·subst hpn; simp at hAp
  ·simp only [hpn,if_false] at hAp
   exact hne p y hy hLp hAp
theorem Dr.satTo (D : Dr P ap ops l0 l g es T0 H0 T' H') {L : Nat → Bool} {w : World} {a : Act} : ∀ (n : Nat) {A : Nat → Bool} {m : Mp},Inv P (l.zip es) g m0 h0 w0 ds T0 H0 L A m w a →
  ∃ A' m',Inv P (l.zip es) g m0 h0 w0 ds T0 H0 L A' m' w a ∧ ∀ p x,p < n → (l.zip es)[p]? = some x → L p = true → (∀ q y,q < p → (l.zip es)[q]? = some y → y.2.act = true → L q = true) → A' p = true
 | 0,A,m,iv => ⟨A,m,iv,fun p x hp => by omega⟩
 | n + 1,A,m,iv => by
  obtain ⟨A1,m1,iv1,h1⟩ := Dr.satTo D n iv
  by_cases hc : ∃ x,(l.zip es)[n]? = some x ∧ L n = true ∧ A1 n = false ∧ ∀ q y,q < n → (l.zip es)[q]? = some y → y.2.act = true → L q = true
  ·obtain ⟨x,hx,hL,hA,hall⟩ := hc
   obtain ⟨m2,iv2⟩ := D.take1 iv1 hx hL hA fun q y hq hy hya => h1 q y hq hy (hall q y hq hy hya) fun q' y' hq' hy' hya' => hall q' y' (by omega) hy' hya'
   refine ⟨_,m2,iv2,fun p y hp hy hLp hq => ?_⟩
   by_cases hpn : p = n
   ·simp [hpn]
   ·simp only [hpn,if_false]; exact h1 p y (by omega) hy hLp hq
  ·refine ⟨A1,m1,iv1,fun p y hp hy hLp hq => ?_⟩
   by_cases hpn : p = n
   ·subst hpn
    cases hA : A1 p with
    | true => rfl
    | false => exact absurd ⟨y,hy,hLp,hA,hq⟩ hc
   ·exact h1 p y (by omega) hy hLp hq
theorem Dr.sat (D : Dr P ap ops l0 l g es T0 H0 T' H') {L A : Nat → Bool} {m : Mp} {w : World} {a : Act} (iv : Inv P (l.zip es) g m0 h0 w0 ds T0 H0 L A m w a) : ∃ A' m',Inv P (l.zip es) g m0 h0 w0 ds T0 H0 L A' m' w a ∧ Sat (l.zip es) L A' := by
 obtain ⟨A',m',iv',h⟩ := D.satTo (l.zip es).length iv
 exact ⟨A',m',iv',fun p x hx => h p x (List.getElem?_eq_some_iff.1 hx).1 hx⟩
theorem Inv.addN {L A : Nat → Bool} {m m' : Mp} {w w' : World} {a a' : Act} {X : List XE} (iv : Inv P X g m0 h0 w0 ds T0 H0 L A m w a) {i : Nat} {x : XE} (hx : X[i]? = some x) (hni : L i = false)
  (hpre : ∀ j y,X[j]? = some y → x.1.pre.testBit j = true → A j = true) (hact : x.2.act = true → ∀ j y,X[j]? = some y → y.2.act = true → j < i → A j = true)
  (md : Mid P m0 h0 w0 m' (hS (fun j => if j = i then true else A j) X 0 H0) w' (tJ (fun j => if j = i then true else L j) (fun j => if j = i then true else A j) X 0 T0) ds a')
  (R : Nat → Nat) (r1 : ∀ p y,X[p]? = some y → L p = true → A p = false → PendF P w0.heap.size m' w' a' y (R p)) (r2 : ∀ (p q : Nat) y z,X[p]? = some y → X[q]? = some z → L p = true → A p = false → L q = true → A q = false → p ≠ q → R p ≠ R q)
  (r3 : ∀ gg,g = some gg → (if gg.i0 = i then true else L gg.i0) = true → ∃ r,PendM w0.heap.size m' w' a' gg (fun j => if j = i then true else L j) r ∧ ∀ p y,X[p]? = some y → L p = true → A p = false → R p ≠ r) :
  Inv P X g m0 h0 w0 ds T0 H0 (fun j => if j = i then true else L j) (fun j => if j = i then true else A j) m' w' a' := by
 have old : ∀ p,(if p = i then true else L p) = true → (if p = i then true else A p) = false → p ≠ i ∧ L p = true ∧ A p = false := by
  intro p h1 h2
  by_cases hp : p = i
  ·simp [hp] at h2
  ·simp only [hp,if_false] at h1 h2; exact ⟨hp,h1,h2⟩
 refine ⟨⟨fun j hj => ?_,fun j y hy h1 h2 => ?_,fun j k y z hy hz hya hza hj hkj => ?_,fun q j y z hy hz hq hb => ?_⟩,md,R,fun p y hy h1 h2 => ?_,fun p q y z hy hz h1 h2 h3 h4 hpq => ?_,fun gg hg hi => ?_⟩
 ·by_cases hji : j = i
  ·simp [hji]
  ·simp only [hji,if_false] at hj ⊢; exact iv.ad.sub j hj
 ·obtain ⟨_,q1,q2⟩ := old j h1 h2; exact iv.ad.pend j y hy q1 q2
 ·by_cases hki : k = i
  ·simp [hki]
  ·simp only [hki,if_false]
   by_cases hji : j = i
   ·subst hji; rw [hx] at hy; cases hy; exact hact hya k z hz hza hkj
   ·simp only [hji,if_false] at hj; exact iv.ad.pre j k y z hy hz hya hza hj hkj
 ·by_cases hji : j = i
  ·simp [hji]
  ·simp only [hji,if_false]
   by_cases hqi : q = i
   ·subst hqi; rw [hx] at hy; cases hy; exact hpre j z hz hb
   ·simp only [hqi,if_false] at hq; exact iv.ad.wait q j y z hy hz hq hb
 ·obtain ⟨_,q1,q2⟩ := old p h1 h2; exact r1 p y hy q1 q2
 ·obtain ⟨_,q1,q2⟩ := old p h1 h2
  obtain ⟨_,q3,q4⟩ := old q h3 h4
  exact r2 p q y z hy hz q1 q2 q3 q4 hpq
 ·obtain ⟨r,c1,c2⟩ := r3 gg hg hi
  refine ⟨r,c1,fun p y hy h1 h2 => ?_⟩
  obtain ⟨_,q1,q2⟩ := old p h1 h2
  exact c2 p y hy q1 q2
theorem Inv.addF {L A : Nat → Bool} {m m' : Mp} {w w' : World} {a a' : Act} {X : List XE} (iv : Inv P X g m0 h0 w0 ds T0 H0 L A m w a) {i : Nat} {x : XE} (hx : X[i]? = some x) (hni : L i = false)
  (hpre : ∀ j y,X[j]? = some y → x.1.pre.testBit j = true → A j = true) (hact : x.2.act = true) (hfl : x.1.op.fl = true)
  (md : Mid P m0 h0 w0 m' (hS A X 0 H0) w' (tJ (fun j => if j = i then true else L j) A X 0 T0) ds a')
  (R : Nat → Nat) {rr : Nat} (r0 : PendF P w0.heap.size m' w' a' x rr) (r1 : ∀ p y,X[p]? = some y → L p = true → A p = false → PendF P w0.heap.size m' w' a' y (R p) ∧ R p ≠ rr) (r2 : ∀ (p q : Nat) y z,X[p]? = some y → X[q]? = some z → L p = true → A p = false → L q = true → A q = false → p ≠ q → R p ≠ R q)
  (r3 : ∀ gg,g = some gg → gg.i0 ≠ i → L gg.i0 = true → ∃ r,PendM w0.heap.size m' w' a' gg (fun j => if j = i then true else L j) r ∧ r ≠ rr ∧ ∀ p y,X[p]? = some y → L p = true → A p = false → R p ≠ r) (hg0 : ∀ gg,g = some gg → gg.i0 ≠ i) :
  Inv P X g m0 h0 w0 ds T0 H0 (fun j => if j = i then true else L j) A m' w' a' := by
 have hAi : A i = false := by
  cases h : A i with
  | false => rfl
  | true => have := iv.ad.sub i h; rw [hni] at this; cases this
 refine ⟨⟨fun j hj => ?_,fun j y hy h1 h2 => ?_,iv.ad.pre,fun q j y z hy hz hq hb => ?_⟩,md,fun p => if p = i then rr else R p,fun p y hy h1 h2 => ?_,fun p q y z hy hz h1 h2 h3 h4 hpq => ?_,fun gg hg hi => ?_⟩
 ·by_cases hji : j = i
  ·simp [hji]
  ·simp only [hji,if_false]; exact iv.ad.sub j hj
 ·by_cases hji : j = i
  ·subst hji; rw [hx] at hy; cases hy; exact ⟨hact,hfl⟩
  ·simp only [hji,if_false] at h1; exact iv.ad.pend j y hy h1 h2
 ·by_cases hqi : q = i
  ·subst hqi; rw [hx] at hy; cases hy; exact hpre j z hz hb
  ·simp only [hqi,if_false] at hq; exact iv.ad.wait q j y z hy hz hq hb
 ·by_cases hpi : p = i
  ·subst hpi; rw [hx] at hy; cases hy; simpa using r0
  ·simp only [hpi,if_false] at h1 ⊢; exact (r1 p y hy h1 h2).1
 ·by_cases hpi : p = i <;> by_cases hqi : q = i
  ·omega
  ·subst hpi
   simp only [hqi,if_false] at h3
   simp only [if_true,hqi,if_false]
   exact (r1 q z hz h3 h4).2.symm
  ·subst hqi
   simp only [hpi,if_false] at h1
   simp only [if_true,hpi,if_false]
   exact (r1 p y hy h1 h2).2
  ·simp only [hpi,if_false] at h1
   simp only [hqi,if_false] at h3
   simp only [hpi,hqi,if_false]
   exact r2 p q y z hy hz h1 h2 h3 h4 hpq
 ·have hne := hg0 gg hg
  simp only [hne,if_false] at hi
  obtain ⟨r,c1,c2,c3⟩ := r3 gg hg hne hi
  refine ⟨r,c1,fun p y hy h1 h2 => ?_⟩
  by_cases hpi : p = i
  ·simp only [hpi,if_true]; exact c2.symm
  ·simp only [hpi,if_false] at h1 ⊢; exact c3 p y hy h1 h2
end
end Go.AM
namespace Go.AM
variable {P : Program} {ap : Ap}
theorem cBuiltin_fl {b : Builtin} {args : List Operand} {tys : List TypeId} {k : K} (h : cBuiltin P b args tys = some k) : k.fl = false := by
 unfold cBuiltin at h
 repeat' split at h
 all_goals first
  | (cases h; done)
  | (cases h; rfl)
  | (obtain ⟨v,_,rfl⟩ := Option.map_eq_some_iff.1 h; rfl)
theorem cK_fl {op : Op} {k : K} (h : cK P op = some k) (hf : k.fl = true) : (∃ e z,op = .alloc e ∧ zeroT P e = some z ∧ k = .alloc e z.cells) ∨ (∃ e x a,op = .box e x ∧ cA P x = some a ∧ k = .box e a) ∨
  ∃ t len parts e s z ps,op = .buildSlice t len parts ∧ sizeT P e = some s ∧ zeroT P e = some z ∧ z.cells.length = s ∧ cParts P (fun i => some (i * s,s)) parts.toList = some ps ∧ k = .bslice e len (List.replicate len z.cells).flatten ps := by
 cases op with
 | buildSlice t len parts =>
  simp only [cK] at h
  split at h
  ·split at h
   ·split at h
    ·rename_i hu s z hs hz hc
     obtain ⟨ps,hps,rfl⟩ := Option.map_eq_some_iff.1 h
     exact .inr (.inr ⟨_,_,_,_,_,z,ps,rfl,hs,hz,hc.2,hps,rfl⟩)
    ·cases h
   ·cases h
  ·cases h
 | alloc e =>
  simp only [cK] at h
  obtain ⟨z,hz,rfl⟩ := Option.map_eq_some_iff.1 h
  exact .inl ⟨_,z,rfl,hz,rfl⟩
 | box e x =>
  simp only [cK] at h
  obtain ⟨z,hz,rfl⟩ := Option.map_eq_some_iff.1 h
  exact .inr (.inl ⟨_,_,z,rfl,hz,rfl⟩)
 | call c =>
  exfalso
  simp only [cK] at h
  repeat' split at h
  all_goals first
   | (cases h; done)
   | (have := cBuiltin_fl h; rw [this] at hf; cases hf; done)
   | (cases h; simp [K.fl] at hf; done)
   | (obtain ⟨v,_,rfl⟩ := Option.map_eq_some_iff.1 h; simp [K.fl] at hf; done)
 | makeFunc fn fs cs =>
  exfalso
  cases fn <;> simp only [cK] at h
  all_goals (repeat' split at h)
  all_goals first
   | (cases h; done)
   | (cases h; simp [K.fl] at hf; done)
 | _ =>
  exfalso
  simp only [cK] at h
  all_goals (repeat' split at h)
  all_goals first
   | (cases h; done)
   | (cases h; simp [K.fl] at hf; done)
   | (obtain ⟨v,_,rfl⟩ := Option.map_eq_some_iff.1 h; simp [K.fl] at hf; done)
theorem flv_known {m : Mp} {h : H} {w : World} {T : List V} {a : Act} {o : Oper} {k : K} (cx : Cx P m h w T a) (hc : cK P o.op = some k) (hf : k.fl = true) {f : Nat → V} {obj : Obj} (hv : flv k T = some (f,obj)) :
  ∃ cs ty xs,obj = .cells cs ty false false none ∧ VRL m cs xs := by
 rcases cK_fl hc hf with ⟨e,z,_,hz,rfl⟩ | ⟨e,x,y,_,hy,rfl⟩ | ⟨t,len,parts,e,s,z,ps,_,hs,hz,hl,hps,rfl⟩
 ·obtain ⟨x,hx,_⟩ := zeroT_spec (m := m) hz
  cases hv
  exact ⟨_,_,_,rfl,VR.cells hx⟩
 ·simp only [flv,Option.map_eq_some_iff,Prod.mk.injEq] at hv
  obtain ⟨v,h1,_,rfl⟩ := hv
  exact ⟨_,_,_,rfl,VR.cells (cx.av hy h1)⟩
 ·simp only [flv,Option.map_eq_some_iff,Prod.mk.injEq] at hv
  obtain ⟨cs,h1,_,rfl⟩ := hv
  obtain ⟨x,hx,_⟩ := zeroT_spec (m := m) hz
  obtain ⟨c',_,e2⟩ := fill_sound cx (g := fun i => some (i * s,s)) _ _ _ _ (List.replicate len x.cells.toList).flatten.toArray (fun i q hq => hq) hps (by simpa using VRL.flatten (VR.cells hx) len) h1
  exact ⟨_,_,_,rfl,e2⟩
theorem OR.cellsBack {m m' : Mp} (hs : Sub m m') {ob : Go.Obj} {sh e : Nat} {cs : List V} {xs : List Value} {ty : Nat} {op ro : Bool} {fz : Option Nat} (hk : VRL m cs xs) (h : OR P m' ob sh e (.cells cs ty op ro fz)) : OR P m ob sh e (.cells cs ty op ro fz) := by
 obtain ⟨c,fzr,b1,b2,b3⟩ := h
 exact ⟨c,fzr,b1,VRL.restrict hs _ _ _ hk b2,b3⟩
theorem fresh_of_push {m m' : Mp} {h : H} {w w' : World} {o : Obj} (hr : HR P m h w) (hr' : HR P m' (h.psh o) w') (x : Ext m h w m' (h.psh o) w') (hm : o.mut = true) :
  ∃ r sh e ob,m' h.size = some (r,sh,e) ∧ w.heap.size ≤ r ∧ w'.heap[r]? = some ob ∧ OR P m' ob sh e o ∧ ∀ i y,m i ≠ some (r,y) := by
 obtain ⟨r,sh,e,ob,h1,h2,h3⟩ := hr'.obj h.size o (psh_same h o) (Obj.live_of_mut hm)
 have hge : w.heap.size ≤ r := by
  rcases Nat.lt_or_ge r w.heap.size with hlt | hge
  ·exfalso
   obtain ⟨i,oi,sh',e',g1,g2,g3⟩ := x.own r hlt ⟨h.size,o,sh,e,psh_same h o,hm,h1⟩
   have hi := H.get_lt g1
   have := hr'.inj i h.size oi o r sh' e' sh e (by rw [H.get_psh,if_neg (by omega)]; exact g1) (psh_same h o) g2 (Obj.live_of_mut hm) (x.sub _ _ g3) h1
   omega
  ·exact hge
 refine ⟨r,sh,e,ob,h1,hge,h2,h3,fun i y hm' => ?_⟩
 have := hr.blk i r y.1 y.2 hm'
 omega
section
variable {ops : Array Oper} {l0 l : List O} {g : Option Grp} {es : List Ent} {T0 T' : List V} {H0 H' : H} {m0 : Mp} {h0 : H} {w0 : World} {ds : List Deferred}
theorem Dr.readsA (D : Dr P ap ops l0 l g es T0 H0 T' H') {L A : Nat → Bool} (hdc : DC l L) (ad : AdOK (l.zip es) L A) (hs : Sat (l.zip es) L A) {i : Nat} {oo : O} {e : Ent} (hx : (l.zip es)[i]? = some (oo,e)) (hni : L i = false) (hpre : ∀ j,oo.pre.testBit j = true → L j = true)
  (hh : e.h = hS (fun j => decide (j < i)) (l.zip es) 0 H0) (hrd : e.rd = true) {v : V} (hk : evK P e.T e.h oo.op = some (.rd v)) (hev : e.v = v) : evK P e.T (hS A (l.zip es) 0 H0) oo.op = some (.rd v) := by
 rcases D.acts with hemp | ⟨_,_,hrd'⟩
 ·rw [show hS A (l.zip es) 0 H0 = e.h from ?_]; · exact hk
  rw [hh]
  exact hS_congr _ 0 _ fun j y hy hya => absurd hemp (by rw [acts_ne hy hya]; simp)
 ·have hr := rdsOk_spec l es 0 hrd' i (oo,e) hx hrd
  rw [Nat.zero_add] at hr
  have hss := readsOk_spec (L := A) l es 0 H0 hr (fun j y hy hya hL => ?_) (fun j y hy hya hL => ?_) (fun j j' y z hj hy hz hya hza hL => ?_)
  ·unfold sameAt at hss
   split at hss
   ·rename_i v' hv'
    rw [hv',V.eq_of_beq _ _ hss,hev]
   ·cases hss
  ·rw [Nat.zero_add] at hL
   cases hb : y.1.pre.testBit i with
   | false => rfl
   | true => have := hdc j y.1 (zip_fst hy) (ad.sub j hL) i hb; rw [hni] at this; cases this
  ·rw [Nat.zero_add] at hL ⊢
   cases hb : oo.pre.testBit j with
   | false => rfl
   | true => have := D.preA ad hs (zip_fst hx) hpre hy hb; rw [hL] at this; cases this
  ·rw [Nat.zero_add] at hL ⊢
   exact ad.pre j' j z y hz hy hza hya hL hj
theorem Dr.evalN (D : Dr P ap ops l0 l g es T0 H0 T' H') {L A : Nat → Bool} (hdc : DC l L) (ad : AdOK (l.zip es) L A) (hs : Sat (l.zip es) L A) {i : Nat} {oo : O} {e : Ent} (hx : (l.zip es)[i]? = some (oo,e)) (hni : L i = false) (hpre : ∀ j,oo.pre.testBit j = true → L j = true)
  (hT : e.T = tS (fun j => decide (j < i)) (l.zip es) 0 T0) (hh : e.h = hS (fun j => decide (j < i)) (l.zip es) 0 H0) (hok : EntOK P ap oo e) (htm : ∀ t ∈ oo.op.tms,t ∈ oo.names) (hgd : ∀ t w,oo.guard = some (t,w) → t ∈ oo.names) (hnf : e.act = true → oo.op.fl = false) :
  if wantV (tJ L A (l.zip es) 0 T0) oo.guard then evR P ap (tJ L A (l.zip es) 0 T0) (hS A (l.zip es) 0 H0) oo.op = some (e.v,hS (fun j => if j = i then true else A j) (l.zip es) 0 H0)
  else e.v = undefV ∧ hS (fun j => if j = i then true else A j) (l.zip es) 0 H0 = hS A (l.zip es) 0 H0 := by
 have hag := D.agree hdc ad hs (zip_fst hx) hni hpre
 have hAi : A i = false := by
  cases h : A i with
  | false => rfl
  | true => have := ad.sub i h; rw [hni] at this; cases this
 have hw : wantV (tJ L A (l.zip es) 0 T0) oo.guard = wantV e.T oo.guard := by
  cases hg : oo.guard with
  | none => rfl
  | some g => obtain ⟨t,w⟩ := g; simp only [wantV]; rw [hag t (hgd t w hg),hT]
 have hK : ∀ h,evK P (tJ L A (l.zip es) 0 T0) h oo.op = evK P e.T h oo.op := fun h => evK_congr fun t ht => by rw [hag t (htm t ht),hT]
 have hnact : e.act = false → hS (fun j => if j = i then true else A j) (l.zip es) 0 H0 = hS A (l.zip es) 0 H0 := fun ha => hS_congr _ 0 _ fun j y hy hya => by
  rw [Nat.zero_add]
  by_cases hji : j = i
  ·subst hji; rw [hx] at hy; cases hy; rw [ha] at hya; cases hya
  ·simp [hji]
 have hact : e.act = true → hS A (l.zip es) 0 H0 = e.h ∧ hS (fun j => if j = i then true else A j) (l.zip es) 0 H0 = e.h' := fun ha => by
  have hat : ∀ j y,(l.zip es)[j]? = some y → y.2.act = true → A j = decide (j < i) := by
   intro j y hy hya
   rcases Nat.lt_trichotomy j i with h | h | h
   ·rcases D.ch h hy hx hya ha with hf | hb
    ·simp only at hf; rw [hnf ha] at hf; cases hf
    ·rw [D.preA ad hs (zip_fst hx) hpre hy hb]; simp [h]
   ·subst h; rw [hAi]; simp
   ·have hd : decide (j < i) = false := by simp; omega
    rw [hd]
    cases hAj : A j with
    | false => rfl
    | true => have := ad.pre j i y _ hy hx hya ha hAj h; rw [hAi] at this; cases this
  refine ⟨?_,?_⟩
  ·rw [hh]; exact hS_congr _ 0 _ fun j y hy hya => by rw [Nat.zero_add]; exact hat j y hy hya
  ·refine hS_add _ 0 i _ _ hx ha (by simp) fun j y hij hy hya => ?_
   rw [Nat.zero_add]
   simp only [show j ≠ i by omega,if_false]
   rw [hat j y hy hya]; simp; omega
 rw [hw]
 have hok0 := hok
 unfold EntOK at hok
 split at hok
 ·rename_i hcond
  rw [if_pos hcond]
  unfold evR
  rw [hK]
  split at hok
  ·rename_i v hk
   obtain ⟨h1,h2,h3,h4⟩ := hok
   rw [evK_pur hk,hnact h3,h1]
  ·rename_i v hk
   obtain ⟨h1,h2,h3,h4⟩ := hok
   rw [D.readsA hdc ad hs hx hni hpre hh h4 hk h1,hnact h3,h1]
  ·rename_i v h' hk
   obtain ⟨h1,h2,h3⟩ := hok
   obtain ⟨q1,q2⟩ := hact h3
   rw [q1,q2,hk,h1,h2]
  ·rename_i f args hk
   obtain ⟨h1,h2⟩ := hok
   obtain ⟨q1,q2⟩ := hact h2
   rw [q1,q2,hk]; exact h1
  ·exact hok.elim
 ·rename_i hcond
  rw [if_neg hcond]
  exact ⟨hok.1,hnact hok.2.2.1⟩
theorem Dr.pendDst (D : Dr P ap ops l0 l g es T0 H0 T' H') {L A : Nat → Bool} (ad : AdOK (l.zip es) L A) (hs : Sat (l.zip es) L A) {i : Nat} {x : XE} (hx : (l.zip es)[i]? = some x) (hni : L i = false) (hpre : ∀ j,x.1.pre.testBit j = true → L j = true)
  {p : Nat} {y : XE} (hy : (l.zip es)[p]? = some y) (hL : L p = true) (hA : A p = false) : ∀ t,y.1.dst = some t → x.1.dst ≠ some t := by
 intro t ht hxt
 rcases Nat.lt_trichotomy i p with h | h | h
 ·rcases D.namesL h (zip_fst hx) (zip_fst hy) with hb | ⟨h1,_⟩
  ·have := ad.wait p i y x hy hx hL hb
   have := ad.sub i this
   rw [hni] at this; cases this
  ·exact h1 t hxt (D.dstn hy t ht)
 ·subst h; rw [hni] at hL; cases hL
 ·rcases D.namesL h (zip_fst hy) (zip_fst hx) with hb | ⟨h1,_⟩
  ·have := D.preA ad hs (zip_fst hx) hpre hy hb; rw [hA] at this; cases this
  ·exact h1 t ht (D.dstn hx t hxt)
end
end Go.AM
