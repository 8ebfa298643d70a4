/- My own texts, laid for this claim. -/
import Derived.Test.YtpfoofcallfjjaaGreatDoorAmRToAmR9
import Derived.Scope
import Derived.WalkKit
import Derived.ProofKit
import Derived.OpenShut
import Derived.Deep.DeepHandedRow
import Derived.Lib.LaidTab
import Derived.WideKeyArgs
import Derived.Below
set_option linter.unusedSimpArgs false
set_option linter.unusedVariables false
namespace Go.AM
variable {P : Program} {ap : Ap}
theorem count_set {xs : List Bool} {i : Nat} (h : xs[i]? = some false) : (xs.set i true).count false + 1 = xs.count false := by
 induction xs generalizing i with
 | nil => simp at h
 | cons x xs ih =>
  cases i with
  | zero => simp at h; subst h; simp
  | succ i =>
   have := ih (i := i) (by simpa using h)
   simp only [List.set_cons_succ,List.count_cons]
   omega
theorem Lf_set {listed : Array Bool} {i : Nat} (hi : i < listed.size) : Lf (listed.setIfInBounds i true) = fun j => if j = i then true else Lf listed j := by
 funext j
 by_cases hji : j = i
 ·subst hji; simp [Lf,Array.getD_eq_getD_getElem?,hi]
 ·simp only [hji,if_false]
  exact getD_set_ne false (Ne.symm hji)
theorem cBuiltin_noMap {b : Builtin} {args : List Operand} {tys : List TypeId} {k : K} (h : cBuiltin P b args tys = some k) : (∀ q m a v,k ≠ .mapUpd q m a v) ∧ ∀ q z ok m a,k ≠ .lookup q z ok m a := by
 unfold cBuiltin at h
 repeat' split at h
 all_goals first
  | (cases h; done)
  | (cases h; exact ⟨by intros; simp,by intros; simp⟩)
  | (obtain ⟨v,_,rfl⟩ := Option.map_eq_some_iff.1 h; exact ⟨by intros; simp,by intros; simp⟩)
theorem cK_mapUpd {op : Op} {q : EqT} {m k v : A} (h : cK P op = some (.mapUpd q m k v)) : ∃ ko vo,cA P ko = some k ∧ cA P vo = some v := by
 cases op with
 | mapUpdate t mo ko vo =>
  simp only [cK] at h
  split at h
  ·rename_i h1 h2 h3 h4
   obtain ⟨q',_,e⟩ := Option.map_eq_some_iff.1 h
   cases e
   exact ⟨_,_,h3,h4⟩
  ·cases h
 | insert t mo ko vo =>
  simp only [cK] at h
  split at h
  ·rename_i h1 h2 h3 h4
   obtain ⟨q',_,e⟩ := Option.map_eq_some_iff.1 h
   cases e
   exact ⟨_,_,h3,h4⟩
  ·cases h
 | call c =>
  exfalso
  simp only [cK] at h
  repeat' split at h
  all_goals first
   | (cases h; done)
   | (exact (cBuiltin_noMap h).1 _ _ _ _ rfl)
   | (obtain ⟨v,_,e⟩ := Option.map_eq_some_iff.1 h; cases e; done)
 | makeFunc fn fs cs =>
  exfalso
  cases fn <;> simp only [cK] at h
  all_goals (repeat' split at h)
  all_goals cases h
 | _ =>
  exfalso
  simp only [cK] at h
  all_goals (repeat' split at h)
  all_goals first
   | (cases h; done)
   | (obtain ⟨v,_,e⟩ := Option.map_eq_some_iff.1 h; cases e; done)
theorem cK_lookup {op : Op} {q : EqT} {z : V} {ok : Bool} {m k : A} (h : cK P op = some (.lookup q z ok m k)) : ∃ et,zeroT P et = some z := by
 cases op with
 | lookup t mo ko okk =>
  simp only [cK] at h
  split at h
  ·split at h
   ·rename_i h1 h2; cases h; exact ⟨_,h2⟩
   ·cases h
  ·cases h
 | call c =>
  exfalso
  simp only [cK] at h
  repeat' split at h
  all_goals first
   | (cases h; done)
   | (exact (cBuiltin_noMap h).2 _ _ _ _ _ rfl)
   | (obtain ⟨v,_,e⟩ := Option.map_eq_some_iff.1 h; cases e; done)
 | makeFunc fn fs cs =>
  exfalso
  cases fn <;> simp only [cK] at h
  all_goals (repeat' split at h)
  all_goals cases h
 | _ =>
  exfalso
  simp only [cK] at h
  all_goals (repeat' split at h)
  all_goals first
   | (cases h; done)
   | (obtain ⟨v,_,e⟩ := Option.map_eq_some_iff.1 h; cases e; done)
theorem ER.mem {m : Mp} : ∀ {es : List (V × V × Nat)} {ys : List MapEntry},ER m es ys → ∀ e ∈ es, ∃ x,VR m e.2.1 x
 | [],_,_,e,he => by simp at he
 | e1 :: es,_,h,e,he => by
  obtain ⟨y,ys,h1,h2,h3,h4,_⟩ := h
  rcases List.mem_cons.1 he with rfl | he
  ·exact ⟨_,h2⟩
  ·exact ER.mem h4 e he
theorem Ext.keep {m0 m m2 : Mp} {h0 h h2 : H} {w0 w w2 : World} (x : Ext m0 h0 w0 m h w) (y : Ext m0 h0 w0 m2 h2 w2) : Ext m0 h0 w0 m h w2 :=
 ⟨x.sub,x.hsize,y.wsize,y.frame,x.own,y.os,y.output,y.tape,x.rng⟩
theorem mlO_tms {g : Grp} {i : Nat} {o : O} (hn : ∀ t ∈ o.op.tms,t ∈ o.names) (hd : ∀ t,o.dst = some t → t ∈ o.names) : ∀ t ∈ (mlO g i o).op.tms,t ∈ o.names := by
 intro t ht
 unfold mlO at ht
 split at ht
 ·simp [K.tms,K.as,A.tm] at ht
 ·split at ht
  ·rename_i y hy
   have := mlInsOf_spec hy
   simp only [K.tms,K.as,List.flatMap_cons,List.flatMap_nil,A.tm,List.append_nil,List.mem_singleton] at ht
   subst ht
   exact hn _ (by rw [this]; simp [K.tms,K.as,A.tm])
  ·split at ht
   ·rename_i t' hy
    have := mlCpOf_spec hy
    simp [K.tms,K.as,A.tm] at ht
    subst ht
    exact hd _ this.2.2
   ·split at ht
    ·rename_i z ok k hy
     have := (mlLookOf_spec hy).1
     simp only [K.tms,K.as,List.flatMap_cons,List.flatMap_nil,List.append_nil] at ht
     exact hn _ (by rw [this]; simp only [K.tms,K.as,List.flatMap_cons,List.flatMap_nil,List.append_nil,List.mem_append]; exact .inr ht)
    ·exact hn t ht
section
variable {ops : Array Oper} {l0 l : List O} {g : Option Grp} {es : List Ent} {T0 T' : List V} {H0 H' : H} {m0 : Mp} {h0 : H} {w0 : World} {ds : List Deferred}
theorem Dr.dlt (D : Dr P ap ops l0 l g es T0 H0 T' H') {gg : Grp} (hg : g = some gg) : gg.d < T0.length := by
 have gok := D.gok gg hg
 obtain ⟨x,hx⟩ := List.exists_mem_of_ne_nil _ gok.some_
 rw [gok.ins] at hx
 obtain ⟨i,o0,q1,q2,q3⟩ := mlIns_mem l0 0 x hx
 rw [Nat.zero_add] at q1
 have hi : i < ops.size := by
  have := (List.getElem?_eq_some_iff.1 q2).1
  rw [(cOsFrom_at _ _ _ D.comp).1] at this
  simpa using this
 obtain ⟨o0',oo,e,a1,a2,a3,a4,_,_,_,_,_,_,k1,_,k3⟩ := D.ent (o := ops[i]) (Array.getElem?_eq_getElem hi)
 rw [q2] at a1; cases a1
 have hone := gok.one i o0 q2
 have hne : i ≠ gg.i0 := by
  intro he
  obtain ⟨o',b1,b2,_⟩ := gok.head
  rw [← he,q2] at b1; cases b1
  rw [b2] at q3; simp [mlInsOf] at q3
 have hop : oo.op = .mv (.t gg.d) := by rw [a2,hg]; simp only [mlG,mlO,hne,if_false,q3]
 have hgu : oo.guard = none := by
  simp only [mlOne,hne,if_false,q3,Bool.and_eq_true,Option.isNone_iff_eq_none] at hone
  rw [a2,(mlG_same g i o0).2.2.1]; exact hone.1.2
 unfold EntOK at k3
 rw [hgu] at k3
 simp only [wantV,if_true,hop,evK,A.ev] at k3
 cases hd : e.T[gg.d]? with
 | none => rw [hd] at k3; exact k3.elim
 | some v =>
  have := (List.getElem?_eq_some_iff.1 hd).1
  rwa [k1,length_tS] at this
theorem Dr.clt (D : Dr P ap ops l0 l g es T0 H0 T' H') {gg : Grp} (hg : g = some gg) {x : Nat × Nat} (hx : x ∈ gg.cp) : x.2 < T0.length := by
 have gok := D.gok gg hg
 rw [gok.cps] at hx
 obtain ⟨i,o0,q1,q2,q3⟩ := mlCps_mem l0 0 x hx
 rw [Nat.zero_add] at q1
 have hi : i < ops.size := by
  have := (List.getElem?_eq_some_iff.1 q2).1
  rw [(cOsFrom_at _ _ _ D.comp).1] at this
  simpa using this
 obtain ⟨o0',oo,e,a1,a2,a3,a4,_,_,_,_,_,_,k1,_,k3⟩ := D.ent (o := ops[i]) (Array.getElem?_eq_getElem hi)
 rw [q2] at a1; cases a1
 obtain ⟨s1,s2,s3⟩ := mlCpOf_spec q3
 have hne : i ≠ gg.i0 := by
  intro he
  obtain ⟨o',b1,b2,_⟩ := gok.head
  rw [← he,q2] at b1; cases b1
  rw [b2] at s1; cases s1
 have hni : mlInsOf gg.d o0.op = none := by rw [s1]; rfl
 have hop : oo.op = .pick (.k (.bool true)) (.k .junk) (.t x.2) := by rw [a2,hg]; simp only [mlG,mlO,hne,if_false,hni,q3]
 have hgu : oo.guard = none := by rw [a2,(mlG_same g i o0).2.2.1]; exact s2
 unfold EntOK at k3
 rw [hgu] at k3
 simp only [wantV,if_true,hop,evK,A.ev] at k3
 cases hd : e.T[x.2]? with
 | none => rw [hd] at k3; exact k3.elim
 | some v =>
  have := (List.getElem?_eq_some_iff.1 hd).1
  rwa [k1,length_tS] at this
theorem cx_map {m : Mp} {h : H} {w : World} {T : List V} {a : Act} {k0 r cl d : Nat} {es : List (V × V × Nat)} {es' : Array MapEntry} (cx : Cx P m h w T a) (p : Pend k0 m w r (.map es' cl)) (he : ER m es es'.toList) (hx : ∀ xv,a.tmps[d]? = some xv → xv = .map (some r)) :
  Cx P (upd m h.size (r,0,0)) (h.psh (.map es cl)) w (T.set d (.map (some h.size))) a := by
 refine ⟨?_,cx.hr.adopt p ⟨es',rfl,he⟩⟩
 have ht := VRL.mono (sub_upd (x := (r,0,0)) cx.hr.fresh) _ _ cx.tr
 refine VRL.of_get (by rw [List.length_set]; exact ht.length) fun i v hv => ?_
 rw [List.getElem?_set] at hv
 by_cases hdi : d = i
 ·subst hdi
  rw [if_pos rfl] at hv
  split at hv
  ·rename_i hlt
   cases hv
   have hlt' : d < a.tmps.toList.length := by rw [ht.length]; exact hlt
   refine ⟨a.tmps.toList[d],List.getElem?_eq_getElem hlt',?_⟩
   rw [hx a.tmps.toList[d] (by rw [← Array.getElem?_toList,List.getElem?_eq_getElem hlt'])]
   exact ⟨r,0,0,upd_self _ _ _,rfl⟩
  ·cases hv
 ·rw [if_neg hdi] at hv
  exact ht.get hv
theorem draw_go (D : Dr P ap ops l0 l g es T0 H0 T' H') (ha : ApOK P ap) {ro : Option Nat} {n : Nat} {Q : Exit → Act → World → Prop}
  (hQ : ∀ m' w' a',Mid P m0 h0 w0 m' H' w' T' ds a' → Q .normal a' w') :
  ∀ (fuel : Nat) (listed : Array Bool),listed.size = ops.size → listed.toList.count false ≤ fuel → DC l (Lf listed) → ∀ (A : Nat → Bool) (m : Mp) (w : World) (a : Act),
   Inv P (l.zip es) g m0 h0 w0 ds T0 H0 (Lf listed) A m w a → wpAnyIn (FF ro) n P .any ops Q fuel listed a w := by
 have hlen := (cOsFrom_at _ _ _ D.comp).1
 have hll : l.length = ops.size := by rw [D.llen,hlen]; simp
 have hfin : ∀ (listed : Array Bool) (A : Nat → Bool) (m : Mp) (w : World) (a : Act),(∀ i,i < ops.size → Lf listed i = true) → Inv P (l.zip es) g m0 h0 w0 ds T0 H0 (Lf listed) A m w a → Q .normal a w := by
  intro listed A m w a hall iv
  obtain ⟨A',m',iv',hs⟩ := D.sat iv
  have hAll : ∀ i,i < (l.zip es).length → A' i = true := fun i hi => by
   have hi' : i < ops.size := by rw [List.length_zip,D.len,Nat.min_self] at hi; omega
   refine hs i _ (List.getElem?_eq_getElem hi) (hall i hi') fun q y hq _ _ => hall q (by omega)
  have md := iv'.md
  have hT : tJ (Lf listed) A' (l.zip es) 0 T0 = tS A' (l.zip es) 0 T0 := by
   rw [tS_eq_tJ]
   refine List.ext_getElem? fun t => tJ_congr _ 0 _ _ rfl rfl fun j x hx _ => ⟨rfl,fun hf => ?_⟩
   rw [Nat.zero_add] at hf
   rw [hAll j (List.getElem?_eq_some_iff.1 hx).1] at hf; cases hf
  obtain ⟨e1,e2⟩ := D.dr.last (l.zip es) 0 T0 H0 T' H' A' fun i hi => by rw [Nat.zero_add]; exact hAll i hi
  rw [hT,e1,e2] at md
  exact hQ m' w a md
 intro fuel
 induction fuel with
 | zero =>
  intro listed hsz hcnt hdc A m w a iv
  have hno : false ∉ listed.toList := List.count_eq_zero.1 (by omega)
  have hall : ∀ i,i < ops.size → Lf listed i = true := fun i hi => by
   have hi' : i < listed.size := by omega
   cases hb : listed[i] with
   | true => simp [Lf,Array.getD_eq_getD_getElem?,hi',hb]
   | false => exact absurd (by rw [← hb]; simp) hno
  refine ⟨List.eq_nil_iff_forall_not_mem.2 fun i hi => ?_,hfin listed A m w a hall iv⟩
  obtain ⟨h1,o,h2,_⟩ := mem_ready.1 hi
  have hi' : i < listed.size := by rw [hsz]; exact (Array.getElem?_eq_some_iff.1 h2).1
  have := hall i (by omega)
  simp [Lf,Array.getD_eq_getD_getElem?,hi'] at this h1
  rw [this] at h1; cases h1
 | succ fuel ih =>
  intro listed hsz hcnt hdc A0 m' w a iv0
  refine ⟨fun hnil => ?_,fun i hi => ?_⟩
  ·refine hfin listed A0 m' w a (fun i => ?_) iv0
   induction i using Nat.strongRecOn with
   | _ i ihi =>
    intro hi
    cases hL : Lf listed i with
    | true => rfl
    | false =>
     exfalso
     have hmem : i ∈ Region.ready .any ops listed := by
      refine mem_ready.2 ⟨?_,ops[i],by simp [hi],fun e he hb => ?_⟩
      ·have hi' : i < listed.size := by omega
       simpa [Lf,Array.getD_eq_getD_getElem?,hi'] using hL
      ·have := edgesBelow_spec _ 0 D.edges i ops[i] (by simp [hi]) e (by simpa using he) hb
       exact ihi e.on (by omega) (by omega)
     rw [hnil] at hmem; cases hmem
  ·obtain ⟨h1,o,ho,hr⟩ := mem_ready.1 hi
   have hio : i < ops.size := (Array.getElem?_eq_some_iff.1 ho).1
   have hi' : i < listed.size := by omega
   have hni : Lf listed i = false := by simpa [Lf,Array.getD_eq_getD_getElem?,hi'] using h1
   obtain ⟨A,m,iv,hs⟩ := D.sat iv0
   obtain ⟨o0,oo,e,ho0,hoo,hli,hx,c1,c2,c3,c4,c5,c7,k1,k2,k3⟩ := D.ent ho
   have hpre := D.pre hdc ho hli hr
   have hL' := Lf_set (listed := listed) hi'
   have hAi : A i = false := by
    cases h : A i with
    | false => rfl
    | true => have := iv.ad.sub i h; rw [hni] at this; cases this
   have hpreA : ∀ j y,(l.zip es)[j]? = some y → oo.pre.testBit j = true → A j = true := fun j y hy hb => D.preA iv.ad hs hli hpre hy hb
   have hag := D.agree hdc iv.ad hs hli hni hpre
   have htm : ∀ t ∈ oo.op.tms,t ∈ oo.names := by
    rw [hoo] at c7 ⊢
    rw [(mlG_same g i o0).2.2.2] at c7 ⊢
    have c4' := c4
    rw [hoo,(mlG_same g i o0).2.1,(mlG_same g i o0).2.2.2] at c4'
    cases g with
    | none => exact c7
    | some gg => exact mlO_tms c7 c4'
   have hlater := D.later hdc iv.ad hx hni (fun d hd => c4 d hd)
   have hdc' : DC l (Lf (listed.setIfInBounds i true)) := by
    rw [hL']
    intro i' oo' hoo' hLi j hj
    by_cases hji : j = i
    ·simp [hji]
    ·simp only [hji,if_false]
     by_cases hii : i' = i
     ·subst hii
      rw [hli] at hoo'; cases hoo'
      exact hpre j hj
     ·simp only [hii,if_false] at hLi
      exact hdc i' oo' hoo' hLi j hj
   have hcnt' : (listed.setIfInBounds i true).toList.count false ≤ fuel := by
    have := count_set (xs := listed.toList) (i := i) (by
     rw [Array.getElem?_toList]
     simpa [Lf,Array.getD_eq_getD_getElem?,hi'] using hni)
    rw [Array.toList_setIfInBounds]
    omega
   have go : ∀ (A' : Nat → Bool) (m2 : Mp) (w2 : World) (a2 : Act),Inv P (l.zip es) g m0 h0 w0 ds T0 H0 (fun j => if j = i then true else Lf listed j) A' m2 w2 a2 → wpAnyIn (FF ro) n P .any ops Q fuel (listed.setIfInBounds i true) a2 w2 := fun A' m2 w2 a2 iv2 =>
    ih _ (by simpa using hsz) hcnt' hdc' A' m2 w2 a2 (by rw [hL']; exact iv2)
   obtain ⟨R,r1,r2,r3⟩ := iv.pf
   have hTn : ∀ nv,nv = e.v → tJ (fun j => if j = i then true else Lf listed j) (fun j => if j = i then true else A j) (l.zip es) 0 T0 = putV (tJ (Lf listed) A (l.zip es) 0 T0) oo.dst nv := fun nv hnv =>
    tJ_set (l.zip es) 0 i T0 (oo,e) nv hx (.inl ⟨by simp,hnv⟩) (fun j hj => by simp [hj]) (fun j y t h1 h2 h3 h4 => by rw [Nat.zero_add]; exact hlater j y t h1 h2 h3 h4)
   have hpd : ∀ p y,(l.zip es)[p]? = some y → Lf listed p = true → A p = false → ∀ t,y.1.dst = some t → oo.dst ≠ some t := fun p y hy hL hA t ht => D.pendDst iv.ad hs hx hni hpre hy hL hA t ht
   -- what is plain
   have plain : (∀ gg,g = some gg → gg.i0 ≠ i ∧ oo.dst ≠ some gg.d ∧ (∀ x ∈ gg.ins,x.1 ≠ i) ∧ ∀ x ∈ gg.cp,oo.dst ≠ some x.2 ∧ x.1 ≠ i) → (e.act = true → oo.op.fl = false) →
     ∀ (m2 : Mp) (w2 : World) (xv : Value),VR m2 e.v xv → HR P m2 (hS (fun j => if j = i then true else A j) (l.zip es) 0 H0) w2 → Ext m (hS A (l.zip es) 0 H0) w m2 (hS (fun j => if j = i then true else A j) (l.zip es) 0 H0) w2 →
     wpAnyIn (FF ro) n P .any ops Q fuel (listed.setIfInBounds i true) (a.put oo.dst xv) w2 := by
    intro hgrp hnf m2 w2 xv e1 e2 e3
    refine go _ m2 w2 _ (iv.addN hx hni hpreA (fun hact j y hy hya hji => ?_) ?_ R (fun p y hy hL hA => ?_) r2 fun gg hg hi0 => ?_)
    ·rcases D.ch hji hy hx hya hact with hf | hb
     ·simp only at hf; rw [hnf hact] at hf; cases hf
     ·exact hpreA j y hy hb
    ·rw [hTn e.v rfl]; exact iv.md.put e1 e2 e3 oo.dst
    ·exact (r1 p y hy hL hA).go (fun ob q => q.ext e3) e3.sub (hpd p y hy hL hA)
    ·obtain ⟨q1,q2,q3,q4⟩ := hgrp gg hg
     simp only [q1,if_false] at hi0
     obtain ⟨r,c1,c2⟩ := r3 gg hg hi0
     exact ⟨r,c1.go (fun ob q => q.ext e3) e3.sub q2 (fun x hx => by simp [q3 x hx]) (fun x hx => ⟨(q4 x hx).1,by simp [(q4 x hx).2]⟩),c2⟩
   unfold wpOpIn
   simp only [ho]
   rw [wanted_sound iv.md.cx.tr c2]
   have hgrpN : (∀ gg,g = some gg → i ≠ gg.i0 ∧ mlInsOf gg.d o0.op = none ∧ mlCpOf gg.d o0 = none) → ∀ gg,g = some gg → gg.i0 ≠ i ∧ oo.dst ≠ some gg.d ∧ (∀ x ∈ gg.ins,x.1 ≠ i) ∧ ∀ x ∈ gg.cp,oo.dst ≠ some x.2 ∧ x.1 ≠ i := by
    intro hn gg hg
    obtain ⟨q1,q2,q3⟩ := hn gg hg
    have gok := D.gok gg hg
    have hone := gok.one i o0 ho0
    simp only [mlOne,q1,if_false,q2,q3] at hone
    have hdstT : ∀ t,oo.dst = some t → mlTmp gg t = false := by
     intro t ht
     have ht' := ht
     rw [hoo,(mlG_same g i o0).2.1] at ht
     split at hone
     ·simp only [Bool.and_eq_true,ht,Bool.not_eq_true'] at hone
      exact hone.1.1.2
     ·have := c4 t ht'
      rw [hoo,(mlG_same g i o0).2.2.2] at this
      simp only [Bool.not_eq_true',List.any_eq_false] at hone
      simpa using hone t this
    refine ⟨fun e => q1 e.symm,fun hd => (mlTmp_no (hdstT _ hd)).1 rfl,fun x hx' he => ?_,fun x hx' => ⟨fun hd => (mlTmp_no (hdstT _ hd)).2 x hx' rfl,fun he => ?_⟩⟩
    ·rw [gok.ins] at hx'
     obtain ⟨j,o',b1,b2,b3⟩ := mlIns_mem l0 0 x hx'
     rw [Nat.zero_add,he] at b1
     subst b1
     rw [ho0] at b2; cases b2
     rw [q2] at b3; cases b3
    ·rw [gok.cps] at hx'
     obtain ⟨j,o',b1,b2,b3⟩ := mlCps_mem l0 0 x hx'
     rw [Nat.zero_add,he] at b1
     subst b1
     rw [ho0] at b2; cases b2
     rw [q3] at b3; cases b3
   have hwT : wantV (tJ (Lf listed) A (l.zip es) 0 T0) oo.guard = wantV e.T oo.guard := by
    cases hg : oo.guard with
    | none => rfl
    | some gw => obtain ⟨t,wt⟩ := gw; simp only [wantV]; rw [hag t (c5 t wt hg),k1]
   -- the group's operations are not guarded
   have hguard : ∀ gg,g = some gg → (i = gg.i0 ∨ mlInsOf gg.d o0.op ≠ none ∨ mlCpOf gg.d o0 ≠ none) → oo.guard = none := by
    intro gg hg hh
    have gok := D.gok gg hg
    rw [hoo,(mlG_same g i o0).2.2.1]
    by_cases h0 : i = gg.i0
    ·obtain ⟨o',b1,b2,b3,b4⟩ := gok.head
     rw [← h0,ho0] at b1; cases b1; exact b4
    ·have hone := gok.one i o0 ho0
     cases hi : mlInsOf gg.d o0.op with
     | none =>
      cases hc : mlCpOf gg.d o0 with
      | none => exact ((hh.resolve_left h0).elim (fun h => h hi) (fun h => h hc)).elim
      | some t => exact (mlCpOf_spec hc).2.1
     | some y =>
      simp only [mlOne,h0,if_false,hi,Bool.and_eq_true,Option.isNone_iff_eq_none] at hone
      exact hone.1.2
   split
   ·rename_i hw
    have hwe : wantV e.T oo.guard = true := by rw [← hwT]; exact hw
    have normal : (∀ gg,g = some gg → i ≠ gg.i0 ∧ mlInsOf gg.d o0.op = none ∧ mlCpOf gg.d o0 = none) → oo.op = o0.op → o.wpIn (FF ro) n P a w (fun a w => wpAnyIn (FF ro) n P .any ops Q fuel (listed.setIfInBounds i true) a w) Q := by
     intro hn hop
     by_cases hfl : e.act = true ∧ oo.op.fl = true
     ·obtain ⟨hact,hfl⟩ := hfl
      obtain ⟨f,obj,f1,f2,f3⟩ := k3.fl hact hfl
      have hflT : flv oo.op (tJ (Lf listed) A (l.zip es) 0 T0) = some (f,obj) := by
       rw [flv_congr (U := e.T) fun t ht => ?_]; · exact f1
       rw [k1]; exact hag t (htm t ht)
      have hK : evR P ap (tJ (Lf listed) A (l.zip es) 0 T0) (hS A (l.zip es) 0 H0) o0.op = some (f (hS A (l.zip es) 0 H0).size,(hS A (l.zip es) 0 H0).psh obj) := by
       unfold evR
       rw [← hop,evK_fl hfl,hflT]; rfl
      refine op_step ha iv.md.cx c1 hK fun m2 w2 xv e1 e2 e3 => ?_
      rw [← c3]
      obtain ⟨cs,ty,xs,rfl,hkn⟩ := flv_known iv.md.cx c1 (by rw [← hop]; exact hfl) (by rw [← hop]; exact hflT)
      obtain ⟨r,sh,ee,ob,g1,g2,g3,g4,g5⟩ := fresh_of_push iv.md.cx.hr e2 e3 rfl
      have hlt : ∀ r' ob',Pend w0.heap.size m w r' ob' → r' ≠ r := fun r' ob' q he => by have := q.lt; omega
      have hT : tJ (fun j => if j = i then true else Lf listed j) A (l.zip es) 0 T0 = putV (tJ (Lf listed) A (l.zip es) 0 T0) oo.dst .junk :=
       tJ_set (l.zip es) 0 i T0 (oo,e) .junk hx (.inr ⟨by simpa using hAi,by simp,rfl⟩) (fun j hj => by simp [hj]) (fun j y t h1 h2 h3 h4 => by rw [Nat.zero_add]; exact hlater j y t h1 h2 h3 h4)
      have hgr := hgrpN hn
      refine go A m w2 _ (iv.addF hx hni hpreA hact hfl ?_ R (rr := r) ?_ (fun p y hy hL hA => ⟨?_,?_⟩) r2 (fun gg hg hne hi0 => ?_) fun gg hg => (hgr gg hg).1)
      ·rw [hT]
       exact ⟨⟨TR.put iv.md.cx.tr (flv_dim f1 e1 m) oo.dst,iv.md.cx.hr.drop e2 e3.sub (fun j hj => by rw [H.get_psh,if_neg (by omega)]) e3.wsize⟩,iv.md.ext.trans e3.drop,(put_defers a oo.dst xv).trans iv.md.defers⟩
      ·refine ⟨f,ob,_,sh,ee,f1,⟨Nat.le_trans iv.md.ext.wsize g2,g3,g5⟩,OR.cellsBack e3.sub hkn g4,fun t xv' ht hx' m' i' hm' => ?_⟩
       have hxe : xv' = xv := by
        simp only at ht
        rw [ht] at hx'
        simp only [Act.put] at hx'
        rw [Array.getElem?_setIfInBounds] at hx'
        simp only [if_true] at hx'
        split at hx'
        ·cases hx'; rfl
        ·cases hx'
       rw [hxe]
       exact flv_VR f1 e1 g1 hm'
      ·exact (r1 p y hy hL hA).go (fun ob q => (q.ext e3).back e3.sub) (Sub.refl _) (hpd p y hy hL hA)
      ·obtain ⟨_,ob',_,_,_,_,q,_⟩ := r1 p y hy hL hA
       exact hlt _ _ q
      ·obtain ⟨q1,q2,q3,q4⟩ := hgr gg hg
       obtain ⟨r',d1,d2⟩ := r3 gg hg hi0
       refine ⟨r',d1.go (fun ob q => (q.ext e3).back e3.sub) (Sub.refl _) q2 (fun x hx => by simp [q3 x hx]) (fun x hx => ⟨(q4 x hx).1,by simp [(q4 x hx).2]⟩),?_,d2⟩
       obtain ⟨_,_,_,q,_⟩ := d1
       exact hlt _ _ q
     ·have hnf : e.act = true → oo.op.fl = false := fun h => by
       cases hf : oo.op.fl with
       | false => rfl
       | true => exact absurd ⟨h,hf⟩ hfl
      have hev := D.evalN hdc iv.ad hs hx hni hpre k1 k2 k3 htm c5 hnf
      rw [if_pos hw,hop] at hev
      refine op_step ha iv.md.cx c1 hev fun m2 w2 xv e1 e2 e3 => ?_
      rw [← c3]
      exact plain (hgrpN hn) hnf m2 w2 xv e1 e2 e3
    cases hgo : g with
    | none => exact normal (fun gg hg => by rw [hgo] at hg; cases hg) (by rw [hoo,hgo]; rfl)
    | some gg =>
     have gok := D.gok gg hgo
     have hone := gok.one i o0 ho0
     have hpur : ∀ v,(∀ h,evK P e.T h oo.op = some (.pur v)) → e.v = v ∧ e.act = false := fun v hv => by
      have := k3
      unfold EntOK at this
      rw [if_pos hwe,hv] at this
      exact ⟨this.1,this.2.2.1⟩
     have hsomepur : ∀ v,e.v = v ∧ e.act = false → hS (fun j => if j = i then true else A j) (l.zip es) 0 H0 = hS A (l.zip es) 0 H0 := fun v hv => hS_congr _ 0 _ fun j y hy hya => by
      rw [Nat.zero_add]
      by_cases hji : j = i
      ·subst hji; rw [hx] at hy; cases hy; rw [hv.2] at hya; cases hya
      ·simp [hji]
     have hinsIdx : ∀ x ∈ gg.ins, ∃ o',l0[x.1]? = some o' ∧ mlInsOf gg.d o'.op = some x.2 ∧ x.1 ≠ gg.i0 ∧ o'.pre.testBit gg.i0 = true := by
      intro x hx'
      rw [gok.ins] at hx'
      obtain ⟨j,o',b1,b2,b3⟩ := mlIns_mem l0 0 x hx'
      rw [Nat.zero_add] at b1
      rw [← b1] at b2
      have hne : x.1 ≠ gg.i0 := by
       intro he
       obtain ⟨oh,d1,d2,_⟩ := gok.head
       rw [← he,b2] at d1; cases d1
       rw [d2] at b3; simp [mlInsOf] at b3
      have ho := gok.one x.1 o' b2
      simp only [mlOne,hne,if_false,b3,Bool.and_eq_true] at ho
      exact ⟨o',b2,b3,hne,ho.2⟩
     have hcpIdx : ∀ x ∈ gg.cp, ∃ o',l0[x.1]? = some o' ∧ mlCpOf gg.d o' = some x.2 ∧ x.1 ≠ gg.i0 ∧ x.2 ≠ gg.d ∧ o'.pre.testBit gg.i0 = true := by
      intro x hx'
      rw [gok.cps] at hx'
      obtain ⟨j,o',b1,b2,b3⟩ := mlCps_mem l0 0 x hx'
      rw [Nat.zero_add] at b1
      rw [← b1] at b2
      have hs3 := mlCpOf_spec b3
      have hne : x.1 ≠ gg.i0 := by
       intro he
       obtain ⟨oh,d1,d2,_⟩ := gok.head
       rw [← he,b2] at d1; cases d1
       rw [d2] at hs3; cases hs3.1
      have ho := gok.one x.1 o' b2
      have hni' : mlInsOf gg.d o'.op = none := by rw [hs3.1]; rfl
      simp only [mlOne,hne,if_false,hni',b3,Bool.and_eq_true,decide_eq_true_eq] at ho
      exact ⟨o',b2,b3,hne,ho.1,ho.2⟩
     by_cases hi0 : i = gg.i0
     ·have hop : oo.op = .mv (.k .junk) := by rw [hoo,hgo]; simp only [mlG,mlO,hi0,if_true]
      obtain ⟨o',b1,b2,b3,b4⟩ := gok.head
      rw [← hi0,ho0] at b1; cases b1
      have hdst : oo.dst = some gg.d := by rw [hoo,(mlG_same g i o0).2.1]; exact b3
      have hev := hpur .junk fun h => by rw [hop]; rfl
      have hhA := hsomepur _ hev
      have hK : evR P ap (tJ (Lf listed) A (l.zip es) 0 T0) (hS A (l.zip es) 0 H0) o0.op = some (.map (some (hS A (l.zip es) 0 H0).size),(hS A (l.zip es) 0 H0).psh (.map [] 0)) := by
       unfold evR; rw [b2]; rfl
      refine op_step ha iv.md.cx c1 hK fun m2 w2 xv e1 e2 e3 => ?_
      rw [← c3]
      obtain ⟨r,sh,ee,ob,g1,g2,g3,g4,g5⟩ := fresh_of_push iv.md.cx.hr e2 e3 rfl
      obtain ⟨r',sh',ee',g1',hxv⟩ := e1
      rw [g1] at g1'; cases g1'
      obtain ⟨es',hob,her⟩ := g4
      have hlt : ∀ r' ob',Pend w0.heap.size m w r' ob' → r' ≠ r := fun r' ob' q he => by have := q.lt; omega
      refine go _ m w2 _ (iv.addN hx hni hpreA (fun hact => by rw [hev.2] at hact; cases hact) ?_ R (fun p y hy hL hA => ?_) r2 fun gg' hg' _ => ?_)
      ·rw [hTn e.v rfl,hhA,hev.1]
       refine ⟨⟨TR.put iv.md.cx.tr ?_ oo.dst,iv.md.cx.hr.drop e2 e3.sub (fun j hj => by rw [H.get_psh,if_neg (by omega)]) e3.wsize⟩,iv.md.ext.trans e3.drop,(put_defers a oo.dst xv).trans iv.md.defers⟩
       rw [hxv]
       exact ⟨rfl,(fun b hb => by cases hb),(fun hb => by cases hb)⟩
      ·exact (r1 p y hy hL hA).go (fun ob q => (q.ext e3).back e3.sub) (Sub.refl _) (hpd p y hy hL hA)
      ·rw [hgo] at hg'; cases hg'
       refine ⟨r,⟨[],es',0,⟨Nat.le_trans iv.md.ext.wsize g2,by rw [g3,hob],g5⟩,her,⟨fun xv' hx' => ?_,fun x hx' hL => ?_⟩,by simp,fun x hx' hL => ?_⟩,fun p y hy hL hA => ?_⟩
       ·rw [hdst] at hx'
        simp only [Act.put] at hx'
        rw [Array.getElem?_setIfInBounds] at hx'
        simp only [if_true] at hx'
        split at hx'
        ·cases hx'; exact hxv
        ·cases hx'
       ·exfalso
        obtain ⟨o',d1,_,d3,_,d4⟩ := hcpIdx x hx'
        simp only [show x.1 ≠ i by rw [hi0]; exact d3,if_false] at hL
        have hlx : l[x.1]? = some (mlG g x.1 o') := by rw [D.lget,d1]; rfl
        have := hdc x.1 _ hlx hL gg.i0 (by rw [(mlG_same g x.1 o').1]; exact d4)
        rw [← hi0,hni] at this; cases this
       ·exfalso
        obtain ⟨o',d1,_,d3,d4⟩ := hinsIdx x hx'
        simp only [show x.1 ≠ i by rw [hi0]; exact d3,if_false] at hL
        have hlx : l[x.1]? = some (mlG g x.1 o') := by rw [D.lget,d1]; rfl
        have := hdc x.1 _ hlx hL gg.i0 (by rw [(mlG_same g x.1 o').1]; exact d4)
        rw [← hi0,hni] at this; cases this
       ·obtain ⟨_,ob',_,_,_,_,q,_⟩ := r1 p y hy hL hA
        exact hlt _ _ q
     ·cases hins : mlInsOf gg.d o0.op with
      | some y =>
       have hsp := mlInsOf_spec hins
       simp only [mlOne,hi0,if_false,hins,Bool.and_eq_true,Option.isNone_iff_eq_none] at hone
       obtain ⟨⟨hdn,hgn⟩,hpb⟩ := hone
       have hdst : oo.dst = none := by rw [hoo,(mlG_same g i o0).2.1]; exact hdn
       have hop : oo.op = .mv (.t gg.d) := by rw [hoo,hgo]; simp only [mlG,mlO,hi0,if_false,hins]
       have hdl := D.dlt hgo
       have hev : ∃ v,e.v = v ∧ e.act = false := by
        have hlT : gg.d < e.T.length := by rw [k1,length_tS]; exact hdl
        exact ⟨_,hpur e.T[gg.d] fun h => by rw [hop]; simp only [evK,AM.A.ev,List.getElem?_eq_getElem hlT]; rfl⟩
       obtain ⟨ev,hev⟩ := hev
       have hhA := hsomepur _ hev
       have hLi0 : Lf listed gg.i0 = true := hpre gg.i0 (by rw [hoo,(mlG_same g i o0).1]; exact hpb)
       obtain ⟨r,⟨es1,es1',cl,p1,p2,p3,p4,p5⟩,hne⟩ := r3 gg hgo hLi0
       have cx1 := cx_map iv.md.cx p1 p2 p3.1
       have hmem : (i,y) ∈ gg.ins := by
        rw [gok.ins]; have := mlIns_of l0 0 i o0 y ho0 hins; rwa [Nat.zero_add] at this
       have hfind : findK .int y.1 es1 0 = some none := findK_none_of fun e' he' => by
        obtain ⟨x,q1,q2,q3,_⟩ := p4 e' he'
        rw [q3]
        rcases distinct_spec gok.keys (i,y) hmem x q1 with he | hd
        ·rw [← he] at q2; rw [hni] at q2; cases q2
        ·exact hd
       have hdT : gg.d < (tJ (Lf listed) A (l.zip es) 0 T0).length := by rw [length_tJ]; exact hdl
       have hK : evR P ap ((tJ (Lf listed) A (l.zip es) 0 T0).set gg.d (.map (some (hS A (l.zip es) 0 H0).size))) ((hS A (l.zip es) 0 H0).psh (.map es1 cl)) o0.op = some (undefV,((hS A (l.zip es) 0 H0).psh (.map es1 cl)).set (hS A (l.zip es) 0 H0).size (.map (es1 ++ [(y.1,y.2,cl)]) (cl + 1))) := by
        unfold evR
        rw [hsp]
        simp only [evK,AM.A.ev,List.getElem?_set,if_true,hdT,psh_same,hfind]
       refine op_step ha cx1 c1 hK fun m2 w2 xv e1 e2 e3 => ?_
       rw [← c3,hdst]
       have hs1 := sub_upd (x := (r,0,0)) iv.md.cx.hr.fresh
       have hsub : Sub m m2 := hs1.trans e3.sub
       have hm2 : m2 (hS A (l.zip es) 0 H0).size = some (r,0,0) := e3.sub _ _ (upd_self _ _ _)
       have hlt2 : (hS A (l.zip es) 0 H0).size < ((hS A (l.zip es) 0 H0).psh (.map es1 cl)).size := Nat.lt_succ_self _
       have hget2 : (((hS A (l.zip es) 0 H0).psh (.map es1 cl)).set (hS A (l.zip es) 0 H0).size (.map (es1 ++ [(y.1,y.2,cl)]) (cl + 1))).get (hS A (l.zip es) 0 H0).size = some (.map (es1 ++ [(y.1,y.2,cl)]) (cl + 1)) := by
        rw [H.get_set trivial hlt2,if_pos rfl]
       have hxt : Ext m0 h0 w0 m2 (((hS A (l.zip es) 0 H0).psh (.map es1 cl)).set (hS A (l.zip es) 0 H0).size (.map (es1 ++ [(y.1,y.2,cl)]) (cl + 1))) w2 := (iv.md.ext.adopt iv.md.cx.hr.fresh p1).trans e3
       refine go _ m w2 _ (iv.addN hx hni hpreA (fun hact => by rw [hev.2] at hact; cases hact) ?_ R (fun p y' hy' hL hA => ?_) r2 fun gg' hg' _ => ?_)
       ·rw [hTn e.v rfl,hhA,hdst]
        refine ⟨⟨iv.md.cx.tr,iv.md.cx.hr.drop e2 hsub (fun j hj => ?_) e3.wsize⟩,iv.md.ext.keep hxt,iv.md.defers⟩
        rw [H.get_set trivial hlt2,if_neg (by omega),H.get_psh,if_neg (by omega)]
       ·exact (r1 p y' hy' hL hA).go (fun ob q => (((q.adopt (hne p y' hy' hL hA).symm).ext e3).back e3.sub).back hs1) (Sub.refl _) (fun t ht => by simp)
       ·rw [hgo] at hg'; cases hg'
        obtain ⟨rr,shh,ee,ob,a1,a2,a3⟩ := e2.obj _ _ hget2 rfl
        rw [hm2] at a1; cases a1
        obtain ⟨es2',hob,her⟩ := a3
        obtain ⟨ko,vo,hko,hvo⟩ := cK_mapUpd (P := P) (by rw [hsp] at c1; exact c1)
        have hkey : VR m y.1 (a.eval ko) := iv.md.cx.av (T := tJ (Lf listed) A (l.zip es) 0 T0) hko rfl
        have hval : VR m y.2 (a.eval vo) := iv.md.cx.av (T := tJ (Lf listed) A (l.zip es) 0 T0) hvo rfl
        have her0 : ER m (es1 ++ [(y.1,y.2,cl)]) (es1'.toList ++ [{ key := a.eval ko,val := a.eval vo,born := cl }]) := p2.append ⟨_,[],hkey,hval,rfl,rfl,rfl⟩
        refine ⟨r,⟨_,es2',cl + 1,⟨p1.new,by rw [a2,hob],p1.out⟩,her0.restrict hsub her,⟨p3.1,fun x hx' hL => p3.2 x hx' ?_⟩,fun e' he' => ?_,fun x hx' hL => ?_⟩,hne⟩
        ·obtain ⟨o',d1,d2,_⟩ := hcpIdx x hx'
         have hxi : x.1 ≠ i := by
          intro hxi
          rw [hxi,ho0] at d1; cases d1
          have := (mlCpOf_spec d2).1
          rw [this] at hins; cases hins
         simpa [hxi] using hL
        ·rcases List.mem_append.1 he' with he' | he'
         ·obtain ⟨x,q1,q2,q3⟩ := p4 e' he'
          refine ⟨x,q1,?_,q3⟩
          by_cases hxi : x.1 = i <;> simp [hxi,q2]
         ·simp only [List.mem_singleton] at he'
          subst he'
          exact ⟨(i,y),hmem,by simp,rfl,rfl⟩
        ·by_cases hxi : x.1 = i
         ·refine ⟨(y.1,y.2,cl),by simp,?_⟩
          rcases distinct_spec gok.keys (i,y) hmem x hx' with he | hd
          ·rw [← he]; exact ⟨rfl,rfl⟩
          ·obtain ⟨o',d1,d2,_⟩ := hinsIdx x hx'
           rw [hxi,ho0] at d1; cases d1
           rw [hins] at d2
           have : y = x.2 := by simpa using d2
           rw [this]; exact ⟨rfl,rfl⟩
         ·simp only [hxi,if_false] at hL
          obtain ⟨e',q1,q2⟩ := p5 x hx' hL
          exact ⟨e',List.mem_append_left _ q1,q2⟩
      | none =>
       cases hcpy : mlCpOf gg.d o0 with
       | some t =>
        obtain ⟨s1,s2,s3⟩ := mlCpOf_spec hcpy
        simp only [mlOne,hi0,if_false,hins,hcpy,Bool.and_eq_true,decide_eq_true_eq] at hone
        have hdst : oo.dst = some t := by rw [hoo,(mlG_same g i o0).2.1]; exact s3
        have hop : oo.op = .pick (.k (.bool true)) (.k .junk) (.t t) := by rw [hoo,hgo]; simp only [mlG,mlO,hi0,if_false,hins,hcpy]
        have hmem : (i,t) ∈ gg.cp := by
         rw [gok.cps]; have := mlCps_of l0 0 i o0 t ho0 hcpy; rwa [Nat.zero_add] at this
        have hev := hpur .junk fun h => by
         have hlT : t < e.T.length := by rw [k1,length_tS]; exact D.clt hgo hmem
         rw [hop]; simp only [evK,AM.A.ev,List.getElem?_eq_getElem hlT,if_true]
        have hhA := hsomepur _ hev
        have hLi0 : Lf listed gg.i0 = true := hpre gg.i0 (by rw [hoo,(mlG_same g i o0).1]; exact hone.2)
        obtain ⟨r,⟨es1,es1',cl,p1,p2,p3,p4,p5⟩,hne⟩ := r3 gg hgo hLi0
        have cx1 := cx_map iv.md.cx p1 p2 p3.1
        have hdT : gg.d < (tJ (Lf listed) A (l.zip es) 0 T0).length := by rw [length_tJ]; exact D.dlt hgo
        have hK : evR P ap ((tJ (Lf listed) A (l.zip es) 0 T0).set gg.d (.map (some (hS A (l.zip es) 0 H0).size))) ((hS A (l.zip es) 0 H0).psh (.map es1 cl)) o0.op = some (.map (some (hS A (l.zip es) 0 H0).size),(hS A (l.zip es) 0 H0).psh (.map es1 cl)) := by
         unfold evR
         rw [s1]
         simp only [evK,AM.A.ev,List.getElem?_set,if_true,hdT,Option.map_some]
        refine op_step ha cx1 c1 hK fun m2 w2 xv e1 e2 e3 => ?_
        rw [← c3]
        have hs1 := sub_upd (x := (r,0,0)) iv.md.cx.hr.fresh
        have hsub : Sub m m2 := hs1.trans e3.sub
        have hm2 : m2 (hS A (l.zip es) 0 H0).size = some (r,0,0) := e3.sub _ _ (upd_self _ _ _)
        have hxt := (iv.md.ext.adopt iv.md.cx.hr.fresh p1).trans e3
        have hxv : xv = .map (some r) := by
         obtain ⟨r',sh',ee',q1,q2⟩ := e1
         rw [hm2] at q1; cases q1; exact q2
        have hneD : some t ≠ some gg.d := fun h => hone.1 (by simpa using h)
        refine go _ m w2 _ (iv.addN hx hni hpreA (fun hact => by rw [hev.2] at hact; cases hact) ?_ R (fun p y' hy' hL hA => ?_) r2 fun gg' hg' _ => ?_)
        ·rw [hTn e.v rfl,hhA,hev.1]
         refine ⟨⟨TR.put iv.md.cx.tr ?_ oo.dst,iv.md.cx.hr.drop e2 hsub (fun j hj => by rw [H.get_psh,if_neg (by omega)]) e3.wsize⟩,iv.md.ext.keep hxt,(put_defers a oo.dst xv).trans iv.md.defers⟩
         rw [hxv]
         exact ⟨rfl,(fun b hb => by cases hb),(fun hb => by cases hb)⟩
        ·exact (r1 p y' hy' hL hA).go (fun ob q => (((q.adopt (hne p y' hy' hL hA).symm).ext e3).back e3.sub).back hs1) (Sub.refl _) (hpd p y' hy' hL hA)
        ·rw [hgo] at hg'; cases hg'
         obtain ⟨rr,shh,ee,ob,a1,a2,a3⟩ := e2.obj _ _ (psh_same _ _) rfl
         rw [hm2] at a1; cases a1
         obtain ⟨es2',hob,her⟩ := a3
         have hinsne : ∀ x ∈ gg.ins,x.1 ≠ i := by
          intro x hx' hxi
          obtain ⟨o',d1,d2,_⟩ := hinsIdx x hx'
          rw [hxi,ho0] at d1; cases d1
          rw [hins] at d2; cases d2
         refine ⟨r,⟨_,es2',cl,⟨p1.new,by rw [a2,hob],p1.out⟩,p2.restrict hsub her,⟨fun xv' hx' => ?_,fun x hx' hL xv' hxx => ?_⟩,fun e' he' => ?_,fun x hx' hL => ?_⟩,hne⟩
         ·rw [hdst,tmps_put hneD] at hx'; exact p3.1 xv' hx'
         ·by_cases hxt2 : x.2 = t
          ·rw [hdst,hxt2] at hxx
           simp only [Act.put] at hxx
           rw [Array.getElem?_setIfInBounds] at hxx
           simp only [if_true] at hxx
           split at hxx
           ·cases hxx; exact hxv
           ·cases hxx
          ·rw [hdst,tmps_put (fun h => hxt2 (by simpa using h.symm))] at hxx
           have hxi : x.1 ≠ i := by
            intro hxi
            obtain ⟨o',d1,d2,_⟩ := hcpIdx x hx'
            rw [hxi,ho0] at d1; cases d1
            rw [hcpy] at d2
            exact hxt2 (by simpa using d2.symm)
           simp only [hxi,if_false] at hL
           exact p3.2 x hx' hL xv' hxx
         ·obtain ⟨x,s1,s2,s3⟩ := p4 e' he'
          exact ⟨x,s1,by simp [hinsne x s1,s2],s3⟩
         ·simp only [hinsne x hx',if_false] at hL
          exact p5 x hx' hL
       | none =>
       cases hlk : mlLookOf gg o0 with
       | none => exact normal (fun gg' hg' => by rw [hgo] at hg'; cases hg'; exact ⟨hi0,hins,hcpy⟩) (by rw [hoo,hgo]; simp only [mlG,mlO,hi0,if_false,hins,hcpy,hlk])
       | some y =>
        obtain ⟨tm,z,okk,kk⟩ := y
        obtain ⟨hsp,hhold⟩ := mlLookOf_spec hlk
        simp only at hsp hhold
        have hgr := hgrpN fun gg' hg' => by rw [hgo] at hg'; cases hg'; exact ⟨hi0,hins,hcpy⟩
        simp only [mlOne,hi0,if_false,hins,hcpy,hlk,Bool.and_eq_true,Bool.not_eq_true'] at hone
        obtain ⟨⟨⟨hkd,_⟩,_⟩,hpb,hall⟩ := hone
        have hop : oo.op = .mlit .int (gg.ins.map fun x => (x.2.1,x.2.2,0)) z okk kk := by rw [hoo,hgo]; simp only [mlG,mlO,hi0,if_false,hins,hcpy,hlk]
        have hLi0 : Lf listed gg.i0 = true := hpre gg.i0 (by rw [hoo,(mlG_same g i o0).1]; exact hpb)
        have hLall : ∀ x ∈ gg.ins,Lf listed x.1 = true := fun x hx' => hpre x.1 (by rw [hoo,(mlG_same g i o0).1]; exact List.all_eq_true.1 hall x hx')
        obtain ⟨r,⟨es1,es1',cl,p1,p2,p3,p4,p5⟩,hne⟩ := r3 gg hgo hLi0
        have hptm : ∀ xv,a.tmps[tm]? = some xv → xv = .map (some r) := by
         rcases hhold with rfl | ⟨x,h1,h2,h3⟩
         ·exact p3.1
         ·rw [← h2]; exact p3.2 x h1 (hpre x.1 (by rw [hoo,(mlG_same g i o0).1]; exact h3))
        have cx1 := cx_map iv.md.cx p1 p2 hptm
        have hdl : tm < T0.length := by
         rcases hhold with rfl | ⟨x,h1,h2,h3⟩
         ·exact D.dlt hgo
         ·rw [← h2]; exact D.clt hgo h1
        have hdT : tm < (tJ (Lf listed) A (l.zip es) 0 T0).length := by rw [length_tJ]; exact hdl
        have htmT : mlTmp gg tm = true := by
         unfold mlTmp
         rcases hhold with rfl | ⟨x,h1,h2,h3⟩
         ·simp
         ·rw [Bool.or_eq_true,List.any_eq_true]; exact .inr ⟨x,h1,by simp [h2]⟩
        -- the key
        have hkT : kk.ev ((tJ (Lf listed) A (l.zip es) 0 T0).set tm (.map (some (hS A (l.zip es) 0 H0).size))) = kk.ev e.T := by
         refine AM.A.ev_congr fun t ht => ?_
         have hne2 : tm ≠ t := by
          rintro rfl
          rw [List.any_eq_false] at hkd
          exact hkd _ ht htmT
         rw [List.getElem?_set,if_neg hne2,k1]
         exact hag t (htm t (by rw [hop]; simpa [K.tms,K.as] using ht))
        have hmt : (AM.A.t tm).ev ((tJ (Lf listed) A (l.zip es) 0 T0).set tm (.map (some (hS A (l.zip es) 0 H0).size))) = some (.map (some (hS A (l.zip es) 0 H0).size)) := by
         simp only [AM.A.ev,List.getElem?_set,if_true,hdT]
        have hk3 := k3
        unfold EntOK at hk3
        rw [if_pos hwe,hop] at hk3
        simp only [evK] at hk3
        cases hkv : kk.ev e.T with
        | none => rw [hkv] at hk3; exact hk3.elim
        | some kv =>
         rw [hkv] at hk3
         simp only at hk3
         have hone1 : kv.one = true ∨ True := .inr trivial
         have hres : ∃ v,e.v = v ∧ e.act = false ∧ evR P ap ((tJ (Lf listed) A (l.zip es) 0 T0).set tm (.map (some (hS A (l.zip es) 0 H0).size))) ((hS A (l.zip es) 0 H0).psh (.map es1 cl)) o0.op = some (v,(hS A (l.zip es) 0 H0).psh (.map es1 cl)) ∧ ∃ x0,VR m v x0 := by
          cases hfk : findK .int kv (gg.ins.map fun x => (x.2.1,x.2.2,0)) 0 with
          | none => rw [hfk] at hk3; exact hk3.elim
          | some q =>
           cases q with
           | some jv =>
            obtain ⟨j,v⟩ := jv
            rw [hfk] at hk3
            simp only at hk3
            obtain ⟨en,m1,m2,m3⟩ := findK_some hfk
            obtain ⟨x,x1,rfl⟩ := List.mem_map.1 m1
            simp only at m2 m3
            obtain ⟨e',f1,f2,f3⟩ := p5 x x1 (hLall x x1)
            obtain ⟨j',hj'⟩ := findK_some_of (i := 0) f1 (by rw [f2]; exact m2) fun e'' he'' => by
             obtain ⟨x'',s1,_,s3,s4⟩ := p4 e'' he''
             rcases distinct_spec gok.keys x x1 x'' s1 with he | hd
             ·left; rw [s3,s4,f2,f3,he]; exact ⟨rfl,rfl⟩
             ·right; rw [s3]; exact sameK_int m2 hd
            obtain ⟨x0,hx0⟩ := p2.mem e' f1
            refine ⟨_,hk3.1,hk3.2.2.1,?_,?_⟩
            ·unfold evR
             rw [hsp]
             simp only [evK,hkT,hkv,hmt,psh_same,hj',f3,m3]
            ·rw [← m3,← f3]
             cases okk with
             | false => exact ⟨x0,hx0⟩
             | true => exact ⟨.tuple #[x0,.bool true],[x0,.bool true],VRL.cons hx0 (VRL.one rfl),rfl⟩
           | none =>
            rw [hfk] at hk3
            simp only at hk3
            have hj' := findK_none_of (kt := .int) (k := kv) (es := es1) (i := 0) fun e'' he'' => by
             obtain ⟨x'',s1,_,s3,s4⟩ := p4 e'' he''
             rw [s3]
             exact findK_none hfk (x''.2.1,x''.2.2,0) (List.mem_map.2 ⟨x'',s1,rfl⟩)
            obtain ⟨et,het⟩ := cK_lookup (P := P) (by rw [hsp] at c1; exact c1)
            obtain ⟨x0,hx0,_⟩ := zeroT_spec (m := m) het
            refine ⟨_,hk3.1,hk3.2.2.1,?_,?_⟩
            ·unfold evR
             rw [hsp]
             simp only [evK,hkT,hkv,hmt,psh_same,hj']
            ·cases okk with
             | false => exact ⟨x0,hx0⟩
             | true => exact ⟨.tuple #[x0,.bool false],[x0,.bool false],VRL.cons hx0 (VRL.one rfl),rfl⟩
         obtain ⟨v,hv1,hv2,hK,x0,hx0⟩ := hres
         have hhA := hsomepur v ⟨hv1,hv2⟩
         refine op_step ha cx1 c1 hK fun m2 w2 xv e1 e2 e3 => ?_
         rw [← c3]
         have hs1 := sub_upd (x := (r,0,0)) iv.md.cx.hr.fresh
         have hsub : Sub m m2 := hs1.trans e3.sub
         have hm2 : m2 (hS A (l.zip es) 0 H0).size = some (r,0,0) := e3.sub _ _ (upd_self _ _ _)
         have hxt := (iv.md.ext.adopt iv.md.cx.hr.fresh p1).trans e3
         refine go _ m w2 _ (iv.addN hx hni hpreA (fun hact => by rw [hv2] at hact; cases hact) ?_ R (fun p y' hy' hL hA => ?_) r2 fun gg' hg' _ => ?_)
         ·rw [hTn e.v rfl,hhA,hv1]
          exact ⟨⟨TR.put iv.md.cx.tr (VR.restrict hsub _ _ _ hx0 e1) oo.dst,iv.md.cx.hr.drop e2 hsub (fun j hj => by rw [H.get_psh,if_neg (by omega)]) e3.wsize⟩,iv.md.ext.keep hxt,(put_defers a oo.dst xv).trans iv.md.defers⟩
         ·exact (r1 p y' hy' hL hA).go (fun ob q => (((q.adopt (hne p y' hy' hL hA).symm).ext e3).back e3.sub).back hs1) (Sub.refl _) (hpd p y' hy' hL hA)
         ·rw [hgo] at hg'; cases hg'
          obtain ⟨rr,shh,ee,ob,a1,a2,a3⟩ := e2.obj _ _ (psh_same _ _) rfl
          rw [hm2] at a1; cases a1
          obtain ⟨es2',hob,her⟩ := a3
          obtain ⟨q1,q2,q3,q4⟩ := hgr gg hgo
          refine ⟨r,⟨_,es2',cl,⟨p1.new,by rw [a2,hob],p1.out⟩,p2.restrict hsub her,⟨fun xv' hx' => ?_,fun x hx' hL xv' hxx => ?_⟩,fun e' he' => ?_,fun x hx' hL => ?_⟩,hne⟩
          ·rw [tmps_put q2] at hx'; exact p3.1 xv' hx'
          ·obtain ⟨n1,n2⟩ := q4 x hx'
           rw [tmps_put n1] at hxx
           exact p3.2 x hx' (by simpa [n2] using hL) xv' hxx
          ·obtain ⟨x,s1,s2,s3⟩ := p4 e' he'
           exact ⟨x,s1,by simp [q3 x s1,s2],s3⟩
          ·exact p5 x hx' (hLall x hx')
   ·rename_i hw
    have hwe : wantV e.T oo.guard = false := by rw [← hwT]; simpa using hw
    have hna : e.v = undefV ∧ e.act = false := by
     have := k3
     unfold EntOK at this
     rw [if_neg (by rw [hwe]; simp)] at this
     exact ⟨this.1,this.2.2.1⟩
    have hhA : hS (fun j => if j = i then true else A j) (l.zip es) 0 H0 = hS A (l.zip es) 0 H0 := hS_congr _ 0 _ fun j y hy hya => by
     rw [Nat.zero_add]
     by_cases hji : j = i
     ·subst hji; rw [hx] at hy; cases hy; rw [hna.2] at hya; cases hya
     ·simp [hji]
    refine ⟨fun _ _ => trivial,?_⟩
    rw [← c3]
    refine plain (hgrpN fun gg hg => ?_) (fun h => by rw [hna.2] at h; cases h) m w undef (by rw [hna.1]; exact VR.undef) (by rw [hhA]; exact iv.md.cx.hr) (by rw [hhA]; exact Ext.refl _ _ _)
    have hg1 := hguard gg hg
    refine ⟨fun h => ?_,?_,?_⟩
    ·rw [hg1 (.inl h)] at hwe; simp [wantV] at hwe
    ·cases hi2 : mlInsOf gg.d o0.op with
     | none => rfl
     | some y => rw [hg1 (.inr (.inl (by rw [hi2]; simp)))] at hwe; simp [wantV] at hwe
    ·cases hi2 : mlCpOf gg.d o0 with
     | none => rfl
     | some y => rw [hg1 (.inr (.inr (by rw [hi2]; simp)))] at hwe; simp [wantV] at hwe
end
theorem draw_sound (hmix : P.follows .mixedOrders = true) (ha : ApOK P ap) {id : Nat} {ops : Array Oper} {l : List O} {m0 : Mp} {h0 : H} {w0 : World} {ds : List Deferred} {ro : Option Nat} {n : Nat} {Q : Exit → Act → World → Prop} {T' : List V} {h' : H}
  (hQ : ∀ m' w' a',Mid P m0 h0 w0 m' h' w' T' ds a' → Q .normal a' w') (hc : cRegion P ops.toList true = some (.draw l)) {T : List V} {h : H} (he : evDraw P ap l T h = some (T',h')) {m : Mp} {w : World} {a : Act} (md : Mid P m0 h0 w0 m h w T ds a) :
  (Code.region id ops true).wpIn (FF ro) n P Q a w := by
 unfold cRegion at hc
 split at hc
 ·cases hc
 ·rename_i l0 hl
  simp only [if_true] at hc
  split at hc
  case isFalse => cases hc
  rename_i hchk
  have hlk : (match mlGrp l0 with | some g => mlAll g l0 0 | none => l0) = l := by
   simp only [Option.some.injEq] at hc
   injection hc
  simp only [Bool.and_eq_true] at hchk
  unfold evDraw at he
  split at he
  ·rename_i es T1 h1 hev
   split at he
   case isFalse => cases he
   rename_i hacts
   cases he
   obtain ⟨k1,k2⟩ := evDr_ok l T h es T' h' hev
   have D : Dr P ap ops l0 l (mlGrp l0) es T h T' h' := by
    refine ⟨hl,hchk.1,hchk.2,fun i => ?_,?_,fun gg hg => mlGrp_ok hg,k1,k2,by simpa [and_assoc] using hacts⟩
    ·rw [← hlk]
     cases hm : mlGrp l0 with
     | none => simp only; cases l0[i]? <;> rfl
     | some g =>
      simp only
      rw [mlAll_get,Nat.zero_add]; rfl
    ·rw [← hlk]
     cases hm : mlGrp l0 with
     | none => rfl
     | some g => simp only; rw [mlAll_length]
   have hLf : Lf (Array.replicate ops.size false) = fun _ => false := by
    funext j
    simp [Lf,Array.getD_eq_getD_getElem?,Array.getElem?_replicate]
    split <;> simp
   refine wpIn_region_any hmix (draw_go D ha hQ ops.size _ (by simp) ?_ ?_ (fun _ => false) m _ a ?_)
   ·simp
   ·intro i oo _ hL
    rw [hLf] at hL; cases hL
   ·rw [hLf]
    have md' := md
    refine ⟨⟨?_,?_,?_,?_⟩,?_,fun _ => 0,?_,?_,?_⟩
    ·intro _ hA; cases hA
    ·intro _ _ _ hL; cases hL
    ·intro _ _ _ _ _ _ _ _ hA; cases hA
    ·intro _ _ _ _ _ _ hL; cases hL
    rotate_left
    ·intro _ _ _ hL; cases hL
    ·intro _ _ _ _ _ _ hL; cases hL
    ·intro _ _ hL; cases hL
    rw [hS_none _ _ _ (fun _ _ _ _ => rfl),List.ext_getElem? fun t => tJ_none (t := t) (l.zip es) 0 T fun _ _ _ _ => ⟨rfl,rfl⟩]
    exact ⟨⟨md.cx.tr,md.cx.hr.drew (Drew.one w)⟩,md.ext.trans (Ext.drew _ _ (Drew.one w)),md.defers⟩
  ·cases he
end Go.AM
namespace Go.AM
variable {P : Program} {ap : Ap}
def exR : Ex → Exit
 | .nrm => .normal
 | .exit id => .exit id
 | .ret => .ret
def RoR (m : Mp) : Option Nat → Option Nat → Prop
 | none,none => True
 | some l,some R => ∃ sh e,m l = some (R,sh,e)
 | _,_ => False
structure DefOK (B : Nat) (m : Mp) (h : H) (w : World) (ds : List Deferred) : Prop where
 size : B ≤ w.heap.size
 marks : ∃ rs : List Nat,ds.map (·.target) = rs.map Target.collected ∧ rs.Nodup ∧ ∀ r ∈ rs,B ≤ r ∧ w.heap[r]? = some (.deferred (some [])) ∧ ¬ Own m h r
theorem DefOK.ext {B : Nat} {m m' : Mp} {h h' : H} {w w' : World} {ds : List Deferred} (d : DefOK B m h w ds) (x : Ext m h w m' h' w') : DefOK B m' h' w' ds := by
 obtain ⟨h1,rs,h2,h3,h4⟩ := d
 refine ⟨Nat.le_trans h1 x.wsize,rs,h2,h3,fun r hr => ?_⟩
 obtain ⟨k1,k2,k3⟩ := h4 r hr
 have hlt : r < w.heap.size := by
  rcases Nat.lt_or_ge r w.heap.size with h | h
  ·exact h
  ·simp [Array.getElem?_eq_none h] at k2
 exact ⟨k1,by rw [x.frame r hlt k3]; exact k2,fun ho => k3 (x.own r hlt ho)⟩
theorem RoR.ext {m m' : Mp} (hs : Sub m m') : ∀ {ro R : Option Nat},RoR m ro R → RoR m' ro R
 | none,none,_ => trivial
 | some _,some _,⟨sh,e,h⟩ => ⟨sh,e,hs _ _ h⟩
 | none,some _,h => h.elim
 | some _,none,h => h.elim
theorem HR.more {m : Mp} {h : H} {w w' : World} {ob : Go.Obj} (hr : HR P m h w) (hn : New w ob w') : HR P m h w' ∧ Ext m h w m h w' := by
 have hget : ∀ b,b < w.heap.size → w'.heap[b]? = w.heap[b]? := fun b hb => by
  rw [hn.heap,Array.getElem?_push]; rw [if_neg (by omega)]
 have hws : w'.heap.size = w.heap.size + 1 := by rw [hn.heap]; simp
 refine ⟨⟨hr.ok,hr.dom,hr.glob,fun i r sh e hm => ?_,fun i o hg hl => ?_,hr.inj⟩,?_⟩
 ·have := hr.blk i r sh e hm; omega
 ·obtain ⟨r,sh,e,ob',h1,h2,h3⟩ := hr.obj i o hg hl
  exact ⟨r,sh,e,ob',h1,by rw [hget r (hr.blk i r sh e h1)]; exact h2,h3⟩
 ·exact ⟨Sub.refl m,Nat.le_refl _,by omega,fun b hb _ => hget b hb,fun _ _ h => h,hn.os,hn.output,hn.tape,fun _ _ h => h⟩
structure At (P : Program) (B : Nat) (m0 : Mp) (h0 : H) (w0 : World) (m : Mp) (h : H) (w : World) (T : List V) (a : Act) : Prop where
 cx : Cx P m h w T a
 ext : Ext m0 h0 w0 m h w
 dfr : DefOK B m h w a.defers
section
variable {F : Fence} {n : Nat} {Q : Exit → Act → World → Prop} {a : Act} {w : World} {b : Frame} {k : List Item} {cs : List Frame}
theorem stepR_scope {c : Code} : step P (lone (b.atR a (.code (.scope c) :: k)) cs w) = .next (lone (b.atR a (.code c :: .inScope c :: k)) cs w) :=
 step_lone_go (by simp [stepG,stepG.exec,Frame.atR])
theorem stepR_inScope {c : Code} : step P (lone (b.atR a (.inScope c :: k)) cs w) = .next (lone (b.atR a k) cs w) :=
 step_lone_go (by simp [stepG,stepG.exec,Frame.atR])
theorem wpIn_scope_straight {c : Code} (h : c.wpIn F n P (Exit.noGoto Q) a w) : (Code.scope c).wpIn F n P Q a w := by
 intro b k cs hro hb hr
 have h0 : (lone (b.atR a (.code (.scope c) :: k)) cs w).fenced P F := fenced_calm hb hr rfl
 obtain ⟨e,a₁,w₁,hq,harr⟩ := h b (.inScope c :: k) cs hro hb hr
 cases e with
 | normal => exact ⟨.normal,a₁,w₁,hq,.head h0 stepR_scope (StepsIn.trans harr (.one (fenced_calm hb hr rfl) stepR_inScope))⟩
 | exit id =>
  have hx : exitTo id (.inScope c :: k) = exitTo id k := by simp [exitTo]
  exact ⟨.exit id,a₁,w₁,hq,fun k' hk => .head h0 stepR_scope (harr.1 k' (by rw [hx]; exact hk)),
   fun hr' hk => let ⟨k₁,h1,h2⟩ := harr.2 hr' (by rw [hx]; exact hk); ⟨k₁,h1,.head h0 stepR_scope h2⟩⟩
 | goto l => exact hq.elim
 | ret => exact ⟨_,a₁,w₁,hq,.of_steps (.one h0 stepR_scope) harr⟩
 | panic ch => exact ⟨_,a₁,w₁,hq,.of_steps (.one h0 stepR_scope) harr⟩
 | outgrown => exact ⟨_,a₁,w₁,hq,.of_steps (.one h0 stepR_scope) harr⟩
end
theorem region_sound (hmix : P.follows .mixedOrders = true) (ha : ApOK P ap) {id : Nat} {ops : Array Oper} {draw : Bool} {cc : C} (hc : cRegion P ops.toList draw = some cc) {k : Nat} {ro R : Option Nat} {n : Nat} {Q : Exit → Act → World → Prop}
  {B : Nat} {m : Mp} {h : H} {w : World} {T : List V} {a : Act} {ex : Ex} {T' : List V} {h' : H} (he : evC P ap k ro cc (T,h) = some (ex,(T',h'))) (cx : Cx P m h w T a) (hd : DefOK B m h w a.defers)
  (hQ : ∀ m' w' a',At P B m h w m' h' w' T' a' → Q (exR ex) a' w') : (Code.region id ops draw).wpIn (FF R) n P Q a w := by
 have hQ' : ex = .nrm → ∀ m' w' a',Mid P m h w m' h' w' T' a.defers a' → Q .normal a' w' := fun e m' w' a' md => by
  subst e
  exact hQ m' w' a' ⟨md.cx,md.ext,by rw [md.defers]; exact hd.ext md.ext⟩
 cases draw with
 | false =>
  unfold cRegion at hc
  split at hc
  ·cases hc
  ·rename_i l hl
   simp only [Bool.false_eq_true,if_false] at hc
   cases hc
   simp only [evC] at he
   cases hev : evOs P ap l T h with
   | none => simp [hev] at he
   | some s =>
    obtain ⟨T1,h1⟩ := s
    simp [hev] at he
    obtain ⟨rfl,rfl,rfl⟩ := he
    exact wpIn_region_list (ops_sound ha (hQ' rfl) _ _ (cOsFrom_ok _ _ _ hl) T h hev m w a ⟨cx,Ext.refl _ _ _,rfl⟩)
 | true =>
  have hc0 := hc
  obtain ⟨l,rfl⟩ : ∃ l,cc = .draw l := by
   unfold cRegion at hc
   split at hc
   ·cases hc
   ·simp only [if_true] at hc
    split at hc
    ·simp only [Option.some.injEq] at hc
     exact ⟨_,hc.symm⟩
    ·cases hc
  simp only [evC] at he
  cases hev : evDraw P ap l T h with
  | none => simp [hev] at he
  | some s =>
   obtain ⟨T1,h1⟩ := s
   simp [hev] at he
   obtain ⟨rfl,rfl,rfl⟩ := he
   exact draw_sound hmix ha (hQ' rfl) hc0 hev ⟨cx,Ext.refl _ _ _,rfl⟩
theorem pendR_none {c : Option Code} (h : pendR none c) : c = none := by cases c <;> first | rfl | exact h.elim
theorem pendR_ret {c : Option Code} (h : pendR (some .ret) c) : c = some .ret := by
 cases c with
 | none => exact h.elim
 | some c => cases c <;> first | rfl | exact h.elim
theorem pendR_exit {c : Option Code} {id : Nat} (h : pendR (some (.exit id)) c) : c = some (.exit id) := by
 cases c with
 | none => exact h.elim
 | some c => cases c <;> first | (cases h; rfl) | exact h.elim
theorem HR.loop {m : Mp} {h : H} {w : World} {i r sh e : Nat} {st : LoopState} {pend : Option C} {T : List V} {ps : List Nat} {as b : C} (hr : HR P m h w) (hg : h.get i = some (.loop st pend T ps as b)) (hm : m i = some (r,sh,e)) :
  ∃ L : Loop,w.heap[r]? = some (.loop L) ∧ L.state = st ∧ pendR pend L.pending ∧ TR m T L.tmps ∧ L.params = ps.toArray ∧ cC P L.assign = some as ∧ cC P L.body = some b := by
 obtain ⟨r',sh',e',ob,h1,h2,L,rfl,h3⟩ := hr.obj i _ hg rfl
 rw [hm] at h1; cases h1
 exact ⟨L,h2,h3⟩
theorem run_getLoop {w : World} {r : Nat} {L : Loop} (hb : w.heap[r]? = some (.loop L)) : (Instr.getLoop r).run P w = .ok L w := by
 simp [Instr.getLoop,run_getObj (P := P) hb (by intros; simp)]
theorem enter_sound {a : Act} {m : Mp} {h h1 : H} {w : World} {T : List V} {ro R : Option Nat} {B : Nat} {ps : Array Tmp} {assign body : Code} {as b : C} (cx : Cx P m h w T a) (hro : RoR m ro R) (hrok : roOk h ro = true)
  (hd : DefOK B m h w a.defers) (has : cC P assign = some as) (hbd : cC P body = some b) (hpush : h.push (.loop .ready none T ps.toList as b) = some h1) (fn : FuncId) :
  ∃ l mark w1 m1,(Instr.enterLoop fn a.tmps ps assign body R).run P w = .ok (l,mark) w1 ∧ HR P m1 h1 w1 ∧ Ext m h w m1 h1 w1 ∧ m1 h.size = some (l,0,0) ∧ DefOK B m1 h1 w1 (mark ++ a.defers) := by
 have lor : ∀ (m : Mp) (d : Nat),TR m T a.tmps → OR P m (.loop { state := .ready,pending := none,fn,tmps := a.tmps,params := ps,assign,body,defers := d }) 0 0 (.loop .ready none T ps.toList as b) := fun m d ht =>
  ⟨_,rfl,rfl,trivial,ht,by simp,has,hbd⟩
 cases ro with
 | none =>
  cases R with
  | some R => exact hro.elim
  | none =>
   obtain ⟨k1,k2⟩ := cx.hr.more (New.alloc w (.deferred (some [])))
   obtain ⟨g1,g2⟩ := k1.push hpush (New.alloc { w with heap := w.heap.push (.deferred (some [])) } (.loop { state := .ready,pending := none,fn,tmps := a.tmps,params := ps,assign,body,defers := w.heap.size })) (lor m _ cx.tr)
   have hlt : w.heap.size < (w.heap.push (.deferred (some []))).size := by simp
   have hno : ¬ Own m h w.heap.size := by
    rintro ⟨i,o,sh,e,_,_,hm⟩
    exact Nat.lt_irrefl _ (cx.hr.blk _ _ _ _ hm)
   refine ⟨_,[{ target := .collected w.heap.size,args := #[] }],_,_,?_,g1,k2.trans g2,upd_self _ _ _,?_⟩
   ·simp [Instr.enterLoop]; rfl
   ·have d := hd.ext (k2.trans g2)
    obtain ⟨rs,e1,e2,e3⟩ := d.marks
    refine ⟨d.size,w.heap.size :: rs,by simp [e1],?_,?_⟩
    ·refine List.nodup_cons.2 ⟨fun hmem => ?_,e2⟩
     obtain ⟨rs0,f1,f2,f3⟩ := hd.marks
     have : rs0.map Target.collected = rs.map Target.collected := by rw [← f1,← e1]
     have hmem0 : Target.collected w.heap.size ∈ rs0.map Target.collected := by rw [this]; exact List.mem_map.2 ⟨_,hmem,rfl⟩
     obtain ⟨x,hx,hx2⟩ := List.mem_map.1 hmem0
     cases hx2
     have := (f3 _ hx).2.1
     simp at this
    ·intro r hr
     rcases List.mem_cons.1 hr with rfl | hr
     ·exact ⟨hd.size,by simp [Array.getElem?_push],fun ho => hno (g2.own _ (by simp) ho)⟩
     ·exact e3 r hr
 | some l0 =>
  cases R with
  | none => exact hro.elim
  | some R =>
   obtain ⟨sh,e,hm0⟩ := hro
   simp only [roOk] at hrok
   split at hrok
   ·rename_i hg0
    obtain ⟨L0,q1,_⟩ := cx.hr.loop hg0 hm0
    obtain ⟨g1,g2⟩ := cx.hr.push hpush (New.alloc w (.loop { state := .ready,pending := none,fn,tmps := a.tmps,params := ps,assign,body,defers := L0.defers })) (lor m _ cx.tr)
    refine ⟨_,[],_,_,?_,g1,g2,upd_self _ _ _,?_⟩
    ·simp [Instr.enterLoop,run_getLoop (P := P) q1]
    ·exact hd.ext g2
   ·cases hrok
theorem range_sound (ha : ApOK P ap) {g : Operand} {ps : Array Tmp} {assign body : Code} {cc : C} (hc : cC P (.rangeFunc g ps assign body) = some cc) {k : Nat} {ro R : Option Nat} {n : Nat} {Q : Exit → Act → World → Prop}
  {B : Nat} {m : Mp} {h : H} {w : World} {T : List V} {a : Act} {ex : Ex} {T' : List V} {h' : H} (he : evC P ap k ro cc (T,h) = some (ex,(T',h'))) (cx : Cx P m h w T a) (hro : RoR m ro R) (hd : DefOK B m h w a.defers)
  (hQ : ∀ m' w' a',At P B m h w m' h' w' T' a' → Q (exR ex) a' w') : (Code.rangeFunc g ps assign body).wpIn (FF R) n P Q a w := by
 simp only [cC] at hc
 split at hc <;> cases hc
 rename_i f as b hf has hbd
 simp only [evC] at he
 split at he
 ·rename_i hrok
  split at he
  ·rename_i gf fs cs hfe
   split at he
   ·rename_i h1 hpush
    split at he
    ·rename_i v h2 hap
     split at he
     ·rename_i st pend T2 ps2 as2 b2 hget
      split at he
      ·cases he
      ·rename_i hbusy
       obtain ⟨xs,ys,hxs,hys,hfv⟩ := cx.av hf hfe
       refine wpIn_rangeFunc fun fn _ => ?_
       obtain ⟨l,mark,w1,m1,q1,q2,q3,q4,q5⟩ := enter_sound cx hro hrok hd has hbd hpush fn
       have hargs : VRL m1 (fs ++ [.yield h.size] ++ cs) (xs ++ [Value.func (.yield l) #[] #[]] ++ ys) :=
        ((VRL.mono q3.sub _ _ hxs).append (VRL.one (v := .yield h.size) (x := .func (.yield l) #[] #[]) ⟨l,0,0,q4,rfl⟩)).append (VRL.mono q3.sub _ _ hys)
       obtain ⟨⟨fnn,f1,f2,f3⟩,f4⟩ := ha.fn hap q2 hargs
       refine ⟨l,mark,w1,{ target := .fn (.func gf) ys.toArray,args := xs.toArray ++ #[Value.func (.yield l) #[] #[]] },w1,gf,(xs ++ [Value.func (.yield l) #[] #[]] ++ ys).toArray,w1,q1,?_,fun _ _ => trivial,?_,(fun h => nomatch h),?_⟩
       ·have hmap : Array.map a.eval #[Operand.const (Value.func (.yield l) #[] #[])] = #[Value.func (.yield l) #[] #[]] := by simp; rfl
        simp only [resolve,hfv,Deferred.ofValue,hmap]
        rfl
       ·have : (xs.toArray ++ #[Value.func (.yield l) #[] #[]]) ++ ys.toArray = (xs ++ [Value.func (.yield l) #[] #[]] ++ ys).toArray := by simp
        simp only [invoke,this]
        exact run_callFunc_enter f1 f2 f3
       ·refine CallsIn.mono (callsIn_FF (f4 (n - 1))) fun e w2 hp => ?_
        obtain ⟨m2,x,rfl,p2,p3,p4⟩ := hp
        have hm2 := p4.sub _ _ q4
        obtain ⟨L,r1,r2,r3,r4,r5,r6,r7⟩ := p3.loop hget hm2
        have hL : ¬ L.state = LoopState.busy := by rw [r2]; exact hbusy
        have hend : (Instr.endLoop l).run P w2 = .ok L.pending { w2 with heap := w2.heap.setIfInBounds l (.loop { L with state := .exhausted }) } := by
         simp [Instr.endLoop,run_getLoop (P := P) r1,hL,run_setObj (P := P) r1 (ob' := .loop { L with state := .exhausted }) (by intros; simp)]
        obtain ⟨s1,s2⟩ := p3.set (o' := .loop .exhausted pend T2 ps2 as2 b2) hget rfl hm2 (Upd.setObj r1 (ob' := .loop { L with state := .exhausted })) ⟨_,rfl,rfl,r3,r4,r5,r6,r7⟩
        have hx : Ext m h w m2 (h2.set h.size (.loop .exhausted pend T2 ps2 as2 b2)) { w2 with heap := w2.heap.setIfInBounds l (.loop { L with state := .exhausted }) } := (q3.trans p4).trans s2
        have hcx : Cx P m2 (h2.set h.size (.loop .exhausted pend T2 ps2 as2 b2)) { w2 with heap := w2.heap.setIfInBounds l (.loop { L with state := .exhausted }) } T { a with defers := mark ++ a.defers } := ⟨VRL.mono (q3.sub.trans p4.sub) _ _ cx.tr,s1⟩
        have hdf := (q5.ext p4).ext s2
        have hfin : ∀ w4,At P B m h w m2 (h2.set h.size (.loop .exhausted pend T2 ps2 as2 b2)) w4 T { a with defers := mark ++ a.defers } → ∀ pd,pendR pend pd →
          (match pd with
           | none => Q .normal { a with defers := mark ++ a.defers } w4
           | some c => c.wpIn (FF R) n P Q { a with defers := mark ++ a.defers } w4) := by
         intro w4 hat pd hpd
         split at he
         ·cases he
          rw [pendR_none hpd]
          exact hQ _ _ _ hat
         ·cases he
          rw [pendR_ret hpd]
          exact wpIn_ret (hQ _ _ _ hat)
         ·cases he
          rw [pendR_exit hpd]
          exact wpIn_exit (hQ _ _ _ hat)
         ·cases he
        exact ⟨L.pending,_,hend,hfin _ ⟨hcx,hx,hdf⟩ _ r3⟩
     ·cases he
    ·cases he
   ·cases he
  ·cases he
 ·cases he
theorem code_sound (hmix : P.follows .mixedOrders = true) (ha : ApOK P ap) {k : Nat} {ro R : Option Nat} {n : Nat} {B : Nat} :
  ∀ (c : Code) (cc : C),cC P c = some cc → ∀ {Q : Exit → Act → World → Prop} {m : Mp} {h : H} {w : World} {T : List V} {a : Act} {ex : Ex} {T' : List V} {h' : H},
   evC P ap k ro cc (T,h) = some (ex,(T',h')) → Cx P m h w T a → RoR m ro R → DefOK B m h w a.defers →
   (∀ m' w' a',At P B m h w m' h' w' T' a' → Q (exR ex) a' w') → c.wpIn (FF R) n P Q a w := by
 intro c
 induction c with
 | skip =>
  intro cc hc Q m h w T a ex T' h' he cx hro hd hQ
  simp only [cC] at hc; cases hc
  simp only [evC] at he; cases he
  exact wpIn_skip (hQ m w a ⟨cx,Ext.refl _ _ _,hd⟩)
 | label l =>
  intro cc hc Q m h w T a ex T' h' he cx hro hd hQ
  simp only [cC] at hc; cases hc
  simp only [evC] at he; cases he
  exact wpIn_label (hQ m w a ⟨cx,Ext.refl _ _ _,hd⟩)
 | exit id =>
  intro cc hc Q m h w T a ex T' h' he cx hro hd hQ
  simp only [cC] at hc; cases hc
  simp only [evC] at he; cases he
  exact wpIn_exit (hQ m w a ⟨cx,Ext.refl _ _ _,hd⟩)
 | ret =>
  intro cc hc Q m h w T a ex T' h' he cx hro hd hQ
  simp only [cC] at hc; cases hc
  simp only [evC] at he; cases he
  exact wpIn_ret (hQ m w a ⟨cx,Ext.refl _ _ _,hd⟩)
 | goto l => intro cc hc; simp [cC] at hc
 | refuse s =>
  intro cc hc Q m h w T a ex T' h' he cx hro hd hQ
  simp only [cC] at hc; cases hc
  simp [evC] at he
 | region id ops draw =>
  intro cc hc Q m h w T a ex T' h' he cx hro hd hQ
  exact region_sound hmix ha (by simpa only [cC] using hc) he cx hd hQ
 | rangeFunc g ps x y ihx ihy =>
  intro cc hc Q m h w T a ex T' h' he cx hro hd hQ
  exact range_sound ha hc he cx hro hd hQ
 | scope c ih =>
  intro cc hc Q m h w T a ex T' h' he cx hro hd hQ
  simp only [cC] at hc
  refine wpIn_scope_straight (ih cc hc he cx hro hd fun m' w' a' hat => ?_)
  have := hQ m' w' a' hat
  cases ex <;> exact this
 | cond c x y ihx ihy =>
  intro cc hc Q m h w T a ex T' h' he cx hro hd hQ
  simp only [cC] at hc
  split at hc <;> cases hc
  rename_i c' x' y' h1 h2 h3
  simp only [evC] at he
  split at he
  ·rename_i t e1
   refine wpIn_cond (cx.av h1 e1) ?_
   cases t with
   | true => exact ihx x' h2 (by simpa using he) cx hro hd hQ
   | false => exact ihy y' h3 (by simpa using he) cx hro hd hQ
  ·cases he
 | seq x y ihx ihy =>
  intro cc hc Q m h w T a ex T' h' he cx hro hd hQ
  simp only [cC] at hc
  split at hc <;> cases hc
  rename_i x' y' h1 h2
  simp only [evC] at he
  split at he
  ·rename_i s e1
   obtain ⟨T1,hh1⟩ := s
   refine wpIn_seq (ihx x' h1 e1 cx hro hd fun m1 w1 a1 hat => ?_)
   exact ihy y' h2 he hat.cx (hro.ext hat.ext.sub) hat.dfr fun m' w' a' hat' => hQ m' w' a' ⟨hat'.cx,hat.ext.trans hat'.ext,hat'.dfr⟩
  ·rename_i r hne
   refine wpIn_seq (ihx x' h1 he cx hro hd fun m1 w1 a1 hat => ?_)
   have := hQ m1 w1 a1 hat
   cases ex with
   | nrm => exact absurd he (hne _)
   | exit id => exact this
   | ret => exact this
 | block id c ih =>
  intro cc hc Q m h w T a ex T' h' he cx hro hd hQ
  simp only [cC] at hc
  cases h1 : cC P c with
  | none => simp [h1] at hc
  | some c' =>
   simp [h1] at hc; subst hc
   simp only [evC] at he
   split at he
   ·rename_i id' s e1
    obtain ⟨T1,hh1⟩ := s
    refine wpIn_block (ih c' h1 e1 cx hro hd fun m1 w1 a1 hat => ?_)
    split at he
    ·rename_i hid
     cases he
     simp only [exR,Exit.inBlock,hid,if_true]
     exact hQ m1 w1 a1 hat
    ·rename_i hid
     cases he
     simp only [exR,Exit.inBlock,hid,if_false]
     exact hQ m1 w1 a1 hat
   ·rename_i r hne
    refine wpIn_block (ih c' h1 he cx hro hd fun m1 w1 a1 hat => ?_)
    have := hQ m1 w1 a1 hat
    cases ex with
    | nrm => exact this
    | exit id => exact absurd he (hne _ _)
    | ret => exact this
 | loop c ih =>
  intro cc hc Q m h w T a ex T' h' he cx hro hd hQ
  simp only [cC] at hc
  cases h1 : cC P c with
  | none => simp [h1] at hc
  | some c' =>
   simp [h1] at hc; subst hc
   simp only [evC] at he
   refine wpIn_loop_rounds k ?_
   have key : ∀ (j : Nat) {m1 : Mp} {h1' : H} {w1 : World} {T1 : List V} {a1 : Act},iter (evC P ap k ro c') j (T1,h1') = some (ex,(T',h')) → At P B m h w m1 h1' w1 T1 a1 → Code.roundsIn (FF R) n P c Q j a1 w1 := by
    intro j
    induction j with
    | zero => intro m1 h1' w1 T1 a1 hi hat; simp [iter] at hi
    | succ j ihj =>
     intro m1 h1' w1 T1 a1 hi hat
     simp only [iter] at hi
     rw [roundsIn_succ]
     split at hi
     ·rename_i s e1
      obtain ⟨T2,h2⟩ := s
      refine ih c' h1 e1 hat.cx (hro.ext hat.ext.sub) hat.dfr fun m2 w2 a2 hat2 => ?_
      exact ihj hi ⟨hat2.cx,hat.ext.trans hat2.ext,hat2.dfr⟩
     ·rename_i r hne
      refine ih c' h1 hi hat.cx (hro.ext hat.ext.sub) hat.dfr fun m2 w2 a2 hat2 => ?_
      have := hQ m2 w2 a2 ⟨hat2.cx,hat.ext.trans hat2.ext,hat2.dfr⟩
      cases ex with
      | nrm => exact absurd hi (hne _)
      | exit id => exact this
      | ret => exact this
   exact key k he ⟨cx,Ext.refl _ _ _,hd⟩
end Go.AM
namespace Go.AM
variable {P : Program} {ap : Ap}
theorem HR.off {m : Mp} {h : H} {w : World} {r : Nat} {ds : Option (List Deferred)} {ob : Go.Obj} (hr : HR P m h w) (hb : w.heap[r]? = some (.deferred ds)) : HR P m h { w with heap := w.heap.setIfInBounds r ob } := by
 refine ⟨hr.ok,hr.dom,hr.glob,fun i R sh e hm => by simpa using hr.blk i R sh e hm,fun i o hg hl => ?_,hr.inj⟩
 obtain ⟨R,sh,e,ob',h1,h2,h3⟩ := hr.obj i o hg hl
 refine ⟨R,sh,e,ob',h1,?_,h3⟩
 have hne : r ≠ R := by
  rintro rfl
  rw [hb] at h2
  cases h2
  cases o with
  | cells vs ty op ro fz => obtain ⟨c,fzr,hx,_⟩ := h3; cases hx
  | map es cl => obtain ⟨es',hx,_⟩ := h3; cases hx
  | mapIter a b c d => obtain ⟨_,q,hx,_⟩ := h3; cases hx
  | strIter s p => obtain ⟨_,hx⟩ := h3; cases hx
  | loop st pd T ps as b => obtain ⟨L,hx,_⟩ := h3; cases hx
  | dead => cases hl
 simp only
 rw [Array.getElem?_setIfInBounds_ne hne]
 exact h2
theorem leaves_marks {fn : Func} {tmps : Array Value} {R : Ending → World → Prop} {n : Nat} {m0 m : Mp} {h0 h : H} {w0 : World} : ∀ (rs : List Nat) (ds : List Deferred) (w : World),ds.map (·.target) = rs.map Target.collected → rs.Nodup →
  (∀ r ∈ rs,w0.heap.size ≤ r ∧ w.heap[r]? = some (.deferred (some []))) → HR P m h w → Ext m0 h0 w0 m h w →
  (∀ w',HR P m h w' → Ext m0 h0 w0 m h w' → LeavesIn (FF none) n P fn tmps R [] .returning w') → LeavesInM (FF none) n P fn tmps R ds .returning w
 | [],ds,w,h1,_,_,h4,h5,h6 => by
  cases ds with
  | nil => exact h6 w h4 h5
  | cons d ds => simp at h1
 | r :: rs,ds,w,h1,h2,h3,h4,h5,h6 => by
  cases ds with
  | nil => simp at h1
  | cons d ds =>
   simp only [List.map_cons,List.cons.injEq] at h1
   obtain ⟨h1a,h1b⟩ := h1
   obtain ⟨hnm,hnd⟩ := List.nodup_cons.1 h2
   obtain ⟨k1,k2⟩ := h3 r (List.mem_cons_self)
   refine ⟨by simp,.inl ⟨r,{ w with heap := w.heap.setIfInBounds r (.deferred none) },h1a,?_,?_⟩⟩
   ·simp [Instr.takeDeferred,run_getObj (P := P) k2 (by intros; simp),run_setObj (P := P) k2 (ob' := .deferred none) (by intros; simp)]
   ·refine leaves_marks rs ds _ h1b hnd (fun r' hr' => ?_) (h4.off k2) ?_ h6
    ·obtain ⟨q1,q2⟩ := h3 r' (List.mem_cons_of_mem _ hr')
     refine ⟨q1,?_⟩
     simp only
     rw [Array.getElem?_setIfInBounds_ne (by rintro rfl; exact hnm hr')]
     exact q2
    ·refine ⟨h5.sub,h5.hsize,by simpa using h5.wsize,fun b hb hn => ?_,h5.own,h5.os,h5.output,h5.tape,h5.rng⟩
     simp only
     rw [Array.getElem?_setIfInBounds_ne (by omega)]
     exact h5.frame b hb hn
def resOne (tmps : Array Value) : ResultVar → Sem Value
 | .tmp t => pure (tmps.getD t undef)
 | .cell a t => do loadVar t (← asAddr (tmps.getD a undef))
theorem run_resV {m : Mp} {h : H} {w : World} (hr : HR P m h w) {T : List V} {tmps : Array Value} (ht : TR m T tmps) : ∀ (rvs : List ResultVar) (rs : List RV) (vs : List V),cRV P rvs = some rs → resVs T h rs = some vs →
  ∃ xs,(rvs.mapM (resOne tmps)).run P w = .ok xs w ∧ VRL m vs xs
 | [],rs,vs,h1,h2 => by
  cases h1; cases h2
  exact ⟨[],rfl,rfl⟩
 | .tmp t :: r,rs,vs,h1,h2 => by
  simp only [cRV] at h1
  cases h3 : cRV P r with
  | none => simp [h3] at h1
  | some rs' =>
   simp [h3] at h1; subst h1
   simp only [resVs] at h2
   split at h2 <;> cases h2
   rename_i v vs' e1 e2
   obtain ⟨xs,k1,k2⟩ := run_resV hr ht r rs' vs' h3 e2
   simp only [resV] at e1
   obtain ⟨x,hx,hv⟩ := VRL.get ht e1
   rw [Array.getElem?_toList] at hx
   have hx' : tmps.getD t undef = x := by simp [Array.getD_eq_getD_getElem?,hx]
   refine ⟨x :: xs,?_,VRL.cons hv k2⟩
   simp only [List.mapM_cons,resOne,Sem.run_bind,hx',Sem.run_pure,Result.andThen_ok]
   rw [k1]
   simp
 | .cell a t :: r,rs,vs,h1,h2 => by
  simp only [cRV] at h1
  split at h1 <;> cases h1
  rename_i s rs' h4 h3
  simp only [resVs] at h2
  split at h2 <;> cases h2
  rename_i v vs' e1 e2
  obtain ⟨xs,k1,k2⟩ := run_resV hr ht r rs' vs' h3 e2
  simp only [resV] at e1
  split at e1
  ·rename_i i q hT
   obtain ⟨x,hx,hv⟩ := VRL.get ht hT
   obtain ⟨R,sh,ex,hm,rfl⟩ := hv
   rw [Array.getElem?_toList] at hx
   have hx' : tmps.getD a undef = .pointer (some ⟨R,sh + q,none⟩) := by simp [Array.getD_eq_getD_getElem?,hx]
   split at e1
   ·rename_i cs ty op ro fz hg
    have hload : ∃ y,(loadVar t ⟨R,sh + q,none⟩).run P w = .ok y w ∧ VR m v y := by
     cases hagg : aggT P t with
     | true =>
      simp only [hagg,if_true] at e1
      split at e1 <;> cases e1
      rename_i hle
      obtain ⟨ys,y1,y2⟩ := hr.loadN hg hm hle
      exact ⟨.agg ys.toArray,by simp [loadVar,run_isAgg' h4,hagg,run_sizeOf h4,y1],ys,y2,rfl⟩
     | false =>
      simp only [hagg,Bool.false_eq_true,if_false] at e1
      obtain ⟨y,y1,y2⟩ := hr.load1 hg hm e1
      exact ⟨y,by simp [loadVar,run_isAgg' h4,hagg,y1],y2⟩
    obtain ⟨y,y1,y2⟩ := hload
    refine ⟨y :: xs,?_,VRL.cons y2 k2⟩
    simp only [List.mapM_cons,resOne,Sem.run_bind,hx',asAddr,Sem.run_pure,Result.andThen_ok,y1]
    rw [k1]
    simp
   ·cases e1
  ·cases e1
theorem run_results {m : Mp} {h : H} {w : World} (hr : HR P m h w) {T : List V} {tmps : Array Value} (ht : TR m T tmps) {fn : Func} {rs : List RV} {vs : List V} (h1 : cRV P fn.results.toList = some rs) (h2 : resVs T h rs = some vs) :
  ∃ x,(results fn tmps).run P w = .ok x w ∧ VR m (oneOr vs) x := by
 obtain ⟨xs,k1,k2⟩ := run_resV hr ht _ _ _ h1 h2
 refine ⟨if h : xs.toArray.size = 1 then xs.toArray[0] else .tuple xs.toArray,?_,?_⟩
 ·have hd : results fn tmps = (do
    let vs ← fn.results.mapM (resOne tmps)
    pure (if h : vs.size = 1 then vs[0] else .tuple vs)) := rfl
  rw [hd,Array.mapM_eq_mapM_toList]
  simp only [Sem.run_bind,Sem.run_map,k1,Result.andThen_ok]
  rfl
 ·cases vs with
  | nil => cases k2; exact ⟨[],rfl,rfl⟩
  | cons v vs =>
   obtain ⟨y,ys,j1,j2,rfl⟩ := k2
   cases vs with
   | nil => cases j2; exact j1
   | cons u us =>
    obtain ⟨z,zs,i1,i2,rfl⟩ := j2
    exact ⟨_,VRL.cons j1 (VRL.cons i1 i2),by simp⟩
end Go.AM
namespace Go.AM
variable {P : Program} {ap : Ap}
theorem cFn_spec {fn : Func} {f : Fn} (hc : cFn P fn = some f) : fn.name ≠ "runtime.NumGoroutine" ∧ ∃ b c rs, fn.body = some b ∧ cC P b = some c ∧ cRV P fn.results.toList = some rs ∧ f = ⟨fn.ntmps, rs, c⟩ := by
 unfold cFn at hc
 split at hc
 ·cases hc
 ·rename_i hn
  refine ⟨by simpa using hn,?_⟩
  split at hc
  ·cases hc
  ·rename_i b hb
   split at hc <;> cases hc
   rename_i c rs h1 h2
   exact ⟨b,c,rs,hb,h1,h2,rfl⟩
theorem evFn_sound (hmix : P.follows .mixedOrders = true) (ha : ApOK P ap) {k : Nat} {g : Nat} {fn : Func} {f : Fn} (hg : P.funcs[g]? = some fn) (hc : cFn P fn = some f) {args : List V} {h : H} {v : V} {h' : H} (he : evFn P ap k f args h = some (v,h'))
  {m : Mp} {w : World} {xs : List Value} (hr : HR P m h w) (hx : VRL m args xs) (n : Nat) : CallsIn (FF none) n P g xs.toArray w (Post P m h w v h') := by
 obtain ⟨hnm,b,c,rs,h1,h2,h3,rfl⟩ := cFn_spec hc
 unfold evFn at he
 simp only at he
 split at he
 ·rename_i hlen
  refine callsIn_of_wp_marks hg h1 trivial ?_
  have cx : Cx P m h w (args ++ List.replicate (fn.ntmps - args.length) undefV) { tmps := xs.toArray ++ Array.replicate (fn.ntmps - xs.toArray.size) undef,defers := [] } := by
   refine ⟨?_,hr⟩
   simp only [TR,Array.toList_append,Array.toList_replicate,List.size_toArray,hx.length]
   exact hx.append (VRL.replicate VR.undef _)
  have hd : DefOK w.heap.size m h w [] := ⟨Nat.le_refl _,[],rfl,List.nodup_nil,by simp⟩
  have fin : ∀ (ex : Ex) (T' : List V) (h'' : H),(ex = .nrm ∨ ex = .ret) → evC P ap k none c (args ++ List.replicate (fn.ntmps - args.length) undefV,h) = some (ex,(T',h'')) → (resVs T' h'' rs).map (fun vs => (oneOr vs,h'')) = some (v,h') →
    b.wpIn (FF none) n P (bodyPostM (FF none) n P fn (Post P m h w v h')) { tmps := xs.toArray ++ Array.replicate (fn.ntmps - xs.toArray.size) undef,defers := [] } w := by
   intro ex T' h'' hex hev hres
   cases hrv : resVs T' h'' rs with
   | none => simp [hrv] at hres
   | some vs =>
    simp [hrv] at hres
    obtain ⟨rfl,rfl⟩ := hres
    refine code_sound (ro := none) (R := none) hmix ha b c h2 hev cx trivial hd fun m' w' a' hat => ?_
    have post : LeavesInM (FF none) n P fn a'.tmps (Post P m h w (oneOr vs) h'') a'.defers .returning w' := by
     obtain ⟨rs0,e1,e2,e3⟩ := hat.dfr.marks
     refine leaves_marks rs0 a'.defers w' e1 e2 (fun r hr => ⟨(e3 r hr).1,(e3 r hr).2.1⟩) hat.cx.hr hat.ext fun w2 k1 k2 => ?_
     obtain ⟨x,j1,j2⟩ := run_results k1 hat.cx.tr h3 hrv
     exact ⟨x,j1,m',x,rfl,j2,k1,k2⟩
    rcases hex with rfl | rfl <;> exact post
  split at he
  ·rename_i T' h'' hev
   exact fin .nrm T' h'' (.inl rfl) hev he
  ·rename_i T' h'' hev
   exact fin .ret T' h'' (.inr rfl) hev he
  ·cases he
 ·cases he
theorem zipSet_sound {m : Mp} : ∀ (ps : List Nat) (args : List V) (xs : List Value) (T : List V) (tl : List Value),VRL m T tl → VRL m args xs →
  VRL m (zipSet T ps args) ((ps.zip xs).foldl (fun l p => l.set p.1 p.2) tl)
 | [],args,xs,T,tl,h,_ => by simpa [zipSet] using h
 | p :: ps,[],xs,T,tl,h,h2 => by cases h2; simpa [zipSet] using h
 | p :: ps,v :: args,_,T,tl,h,h2 => by
  obtain ⟨y,ys,j1,j2,rfl⟩ := h2
  simpa [zipSet] using zipSet_sound ps args ys _ _ (VRL.set h j1 p) j2
theorem foldl_set_list : ∀ (l : List (Nat × Value)) (t : Array Value),(l.foldl (fun (t : Array Value) p => t.setIfInBounds p.1 p.2) t).toList = l.foldl (fun l p => l.set p.1 p.2) t.toList
 | [],_ => rfl
 | p :: l,t => by
  simp only [List.foldl_cons]
  rw [foldl_set_list l,Array.toList_setIfInBounds]
theorem evRound_sound (hmix : P.follows .mixedOrders = true) (ha : ApOK P ap) {k : Nat} {l : Nat} {args : List V} {h : H} {v : V} {h' : H} (he : evRound P ap k l args h = some (v,h'))
  {m : Mp} {w : World} {xs : List Value} {R sh e : Nat} (hr : HR P m h w) (hm : m l = some (R,sh,e)) (hx : VRL m args xs) :
  ∃ L : Loop,w.heap[R]? = some (.loop L) ∧ xs.length = L.params.size ∧
   ∀ n,RoundIn (FF none) n P R L.fn ((L.params.zip xs.toArray).foldl (fun tmps (t,a) => tmps.setIfInBounds t a) L.tmps) L.assign L.body w (Post P m h w v h') := by
 unfold evRound at he
 split at he
 ·rename_i st pd T ps as b hg
  split at he
  ·rename_i hlen
   obtain ⟨L,q1,q2,q3,q4,q5,q6,q7⟩ := hr.loop hg hm
   refine ⟨L,q1,by rw [hx.length,hlen,q5]; simp,fun n => ?_⟩
   have cx : Cx P m h w (zipSet T ps args) { tmps := (L.params.zip xs.toArray).foldl (fun tmps (t,a) => tmps.setIfInBounds t a) L.tmps,defers := [] } := by
    refine ⟨?_,hr⟩
    have := zipSet_sound ps args xs T L.tmps.toList q4 hx
    rw [← foldl_set_list] at this
    simp only [TR]
    rw [← Array.foldl_toList,Array.toList_zip,q5]
    exact this
   have hd : DefOK 0 m h w [] := ⟨Nat.zero_le _,[],rfl,List.nodup_nil,by simp⟩
   split at he
   ·rename_i T1 h1 hev
    split at he
    ·rename_i pd1 T2 ps2 as2 b2 hg1
     split at he
     ·rename_i ex T3 h2 hev2
      split at he
      ·rename_i st3 pd3 T4 ps4 as4 b4 hg2
       refine roundIn_of_wpIn (F := FF none) trivial ?_
       refine code_sound (ro := some l) (R := some R) hmix ha L.assign as q6 hev cx ⟨sh,e,hm⟩ hd fun m1 w1 a1 hat => ?_
       have hm1 := hat.ext.sub _ _ hm
       obtain ⟨L1,r1,r2,r3,r4,r5,r6,r7⟩ := hat.cx.hr.loop hg1 hm1
       obtain ⟨s1,s2⟩ := hat.cx.hr.set (o' := .loop .busy pd1 T2 ps2 as2 b2) hg1 rfl hm1 (Upd.setObj r1 (ob' := .loop { L1 with state := .busy })) ⟨_,rfl,rfl,r3,r4,r5,r6,r7⟩
       refine ⟨{ w1 with heap := w1.heap.setIfInBounds R (.loop { L1 with state := .busy }) },?_,?_⟩
       ·simp [Instr.beginRound,run_getLoop (P := P) r1,run_setObj (P := P) r1 (ob' := .loop { L1 with state := .busy }) (by intros; simp),r2]
       ·have hcx2 : Cx P m1 (h1.set l (.loop .busy pd1 T2 ps2 as2 b2)) { w1 with heap := w1.heap.setIfInBounds R (.loop { L1 with state := .busy }) } T1 a1 := ⟨hat.cx.tr,s1⟩
        refine code_sound (ro := some l) (R := some R) (B := 0) hmix ha L.body b q7 hev2 hcx2 ⟨sh,e,hm1⟩ (hat.dfr.ext s2) fun m2 w2 a2 hat2 => ?_
        have hm2 := hat2.ext.sub _ _ hm1
        obtain ⟨L2,u1,u2,u3,u4,u5,u6,u7⟩ := hat2.cx.hr.loop hg2 hm2
        have hext := (hat.ext.trans s2).trans hat2.ext
        have fin : ∀ (jump : Option Code) (pj : Option C) (stj : LoopState),pendR pj jump → stj = (if jump.isNone then .ready else .done) →
          ∃ v' w',(Instr.endRound R jump).run P w2 = .ok v' w' ∧ Post P m h w (.bool jump.isNone) (h2.set l (.loop stj pj T4 ps4 as4 b4)) (.returned v') w' := by
         intro jump pj stj hpj hst
         obtain ⟨t1,t2⟩ := hat2.cx.hr.set (o' := .loop stj pj T4 ps4 as4 b4) hg2 rfl hm2 (Upd.setObj u1 (ob' := .loop { L2 with state := if jump.isNone then .ready else .done,pending := jump })) ⟨_,rfl,hst.symm,hpj,u4,u5,u6,u7⟩
         refine ⟨.bool jump.isNone,_,?_,m2,.bool jump.isNone,rfl,rfl,t1,hext.trans t2⟩
         have hso := run_setObj (P := P) u1 (ob' := .loop { L2 with state := if jump.isNone then .ready else .done,pending := jump }) (by intros; simp)
         simp only [Instr.endRound,Sem.run_bind,run_getLoop (P := P) u1,Result.andThen_ok]
         rw [hso]
         rfl
        cases ex with
        | nrm => cases he; exact fin none none .ready trivial rfl
        | ret => cases he; exact fin (some .ret) (some .ret) .done trivial rfl
        | exit id => cases he; exact fin (some (.exit id)) (some (.exit id)) .done rfl rfl
      ·cases he
     ·cases he
    ·cases he
   ·cases he
  ·cases he
 ·cases he
def PrimOK (P : Program) (prim : Nat → Option (List V → H → Option (V × H))) : Prop :=
 ∀ g f, prim g = some f → (∃ fn, P.funcs[g]? = some fn ∧ fn.body.isNone = false ∧ fn.name ≠ "runtime.NumGoroutine") ∧
  ∀ args h v h' m w (xs : List Value),f args h = some (v,h') → HR P m h w → VRL m args xs → ∀ n,CallsIn (FF none) n P g xs.toArray w (Post P m h w v h')
theorem ap_sound (hmix : P.follows .mixedOrders = true) {prim : Nat → Option (List V → H → Option (V × H))} (hp : PrimOK P prim) : ∀ n,ApOK P (Go.AM.ap P (envOf P prim) n)
 | 0 => ⟨fun h => by simp [Go.AM.ap] at h,fun h => by simp [Go.AM.ap] at h,fun h => by simp [Go.AM.ap] at h⟩
 | n + 1 => by
  have ih := ap_sound hmix hp n
  refine ⟨?_,?_,?_⟩
  ·intro g fs cs args h v h' m w xs he hr hx
   simp only [Go.AM.ap] at he
   split at he
   ·rename_i f hf
    obtain ⟨k1,k2⟩ := hp g f hf
    exact ⟨k1,k2 _ _ _ _ _ _ _ he hr hx⟩
   ·split at he
    ·rename_i fnc hfn
     simp only [envOf] at hfn
     cases hg : P.funcs[g]? with
     | none => simp [hg] at hfn
     | some fn =>
      simp [hg] at hfn
      obtain ⟨hnm,b,c,rs,h1,h2,h3,h4⟩ := cFn_spec hfn
      exact ⟨⟨fn,rfl,by simp [h1],hnm⟩,evFn_sound hmix ih hg hfn he hr hx⟩
    ·cases he
  ·intro l args h v h' m w xs R sh e he hr hm hx
   simp only [Go.AM.ap] at he
   exact evRound_sound hmix ih he hr hm hx
  ·intro f args h r he
   simp only [Go.AM.ap] at he
   cases f with
   | func g fs cs => exact .inl ⟨g,fs,cs,rfl⟩
   | yield l => exact .inr ⟨l,rfl⟩
   | _ => cases he
end Go.AM
namespace Go.AM
open Go.ChangeShapes Go.WideShapes Go.RowKit
variable {P : Program}
def map0 (P : Program) : Mp := fun i => if i < P.globals.size then some (i,0,0) else none
def ints (k : IntKind) (l : List Int) : List V := l.map fun n => .int k n
theorem VRL_ints (m : Mp) (k : IntKind) (l : List Int) : VRL m (ints k l) (l.map fun z => Value.int k z) := by
 induction l with
 | nil => rfl
 | cons a l ih => exact VRL.cons rfl ih
theorem HR.init {h0 : H} {W : World} (hk : h0.ok) (hs : h0.size = P.globals.size) (hW : P.globals.size ≤ W.heap.size)
  (hob : ∀ i o,h0.get i = some o → o = .dead ∨ ∃ k l ty,o = .cells (ints k l) ty false true none ∧ W.heap[i]? = some (.cells (l.map fun z => Value.int k z).toArray ty)) : HR P (map0 P) h0 W where
 ok := hk
 dom := fun i x hx => by unfold map0 at hx; split at hx <;> first | (rw [hs]; assumption) | cases hx
 glob := fun g hg => by simp [map0,hg]
 blk := fun i r sh e hm => by unfold map0 at hm; split at hm <;> cases hm; omega
 obj := fun i o hg hl => by
  have hi := H.get_lt hg
  rw [hs] at hi
  rcases hob i o hg with rfl | ⟨k,l,ty,rfl,hw⟩
  ·cases hl
  ·exact ⟨i,0,0,_,by simp [map0,hi],hw,OR.closed (VRL_ints _ k l)⟩
 inj := fun i j o o' r sh e sh' e' _ _ _ _ h1 h2 => by
  unfold map0 at h1 h2
  split at h1 <;> split at h2 <;> cases h1 <;> cases h2 <;> rfl
theorem calls_of_ap (hmix : P.follows .mixedOrders = true) {prim : Nat → Option (List V → H → Option (V × H))} (hp : PrimOK P prim) {n g : Nat} {vs : List V} {xs : List Value} {h0 h' : H} {v : V} {m : Mp} {W : World}
  (he : ap P (envOf P prim) n (.func g [] []) vs h0 = some (v,h')) (hr : HR P m h0 W) (hno : ∀ i o,h0.get i = some o → o.mut = false) (hx : VRL m vs xs) :
  Calls P g xs.toArray W fun e w' => ∃ m' x,e = .returned x ∧ VR m' v x ∧ Below W.heap.size W w' := by
 have hA := (ap_sound hmix hp n).fn he hr (xs := xs) (by simpa using hx)
 have hc := callsIn_wide.1 (show CallsIn Fence.wide 0 P g xs.toArray W _ from hA.2 0)
 refine hc.mono fun e w' ⟨m',x,h1,h2,h3,h4⟩ => ⟨m',x,h1,h2,h4.os,h4.tape,h4.output,h4.wsize,fun k hk => h4.frame k hk ?_⟩
 rintro ⟨i,o,sh,e,hg,hm,_⟩
 rw [hno i o hg] at hm; cases hm
theorem noPrim : PrimOK P (fun _ => none) := fun g f h => by cases h
section
variable {H' : Type} {enc : TypeId × Value → H'}
theorem trodAll_keeps (hl : laidOutB P = true) {W W' : World} {sp' : Nat → Bool} : ∀ {ts : List TypeId} {vs : List Value} {ds : List (DataW H')} {ps : List MemPlace},(∀ t ∈ ts,t < P.types.size ∧ P.readableRec t = true) →
  DataW.TrodAll enc P W 0 (fun _ => true) true ts vs ds ps → (∀ p ∈ ps,W.sameAt W' p) → (∀ p ∈ ps,sp' p.block = true) → DataW.TrodAll enc P W' 0 sp' true ts vs ds ps
 | [],[],[],_,_,h,_,_ => h
 | t :: ts,_ :: _,_ :: _,_,hT,⟨p,q,h1,h2,e⟩,h3,h4 =>
  ⟨p,q,WideElems.Trod_stays hl (hT t (by simp)).2 (hT t (by simp)).1 h1 (fun x hx => h3 x (by rw [e]; exact List.mem_append_left _ hx)) (fun x hx => h4 x (by rw [e]; exact List.mem_append_left _ hx)),
   trodAll_keeps hl (fun t ht => hT t (by simp [ht])) h2 (fun x hx => h3 x (by rw [e]; exact List.mem_append_right _ hx)) (fun x hx => h4 x (by rw [e]; exact List.mem_append_right _ hx)),e⟩
theorem post_true {f : Func} {s : ChangeSpec} {fresh handsOn : Bool} {W W' : World} {args : Array Value} {ds gs : List (DataW H')} {before : List MemPlace} {t : TypeId} (hW : DataW.Whole enc P f.params.toList s.vars false W args.toList ds gs before)
  (hv : s.vars = []) (hs : s.fn H' (ds ++ gs) = { results := [.lit (.bool true)],args := ds }) (hrt : f.resultTypes = #[t]) (ht : P.underlying t = some .bool)
  (hl : laidOutB P = true) (hps : ∀ t ∈ f.params.toList,t < P.types.size ∧ P.readableRec t = true) (hb : Below W.heap.size W W') : s.post enc P f false fresh handsOn false W args (.bool true) W' := by
 have hW0 := hW
 obtain ⟨p,q,h1,h2,h3,h4,h5⟩ := hW
 rw [hv] at h2
 have hq : gs = [] ∧ q = [] := by
  cases gs with
  | nil => exact ⟨rfl,h2⟩
  | cons a b => cases h2
 obtain ⟨rfl,rfl⟩ := hq
 simp only [List.append_nil] at h3
 have hbef : before = p := h3
 have hlt := hW0.lt
 refine ⟨ds,[],before,[],p,[],hW0,?_,?_,?_,hb.frame _,fun h => by cases h⟩
 ·rw [hs,hrt]
  exact trodAll_cons_mk (shut_bool ht true) trodAll_mk0
 ·rw [hs]
  exact trodAll_keeps hl hps h1 (fun x hx => hb.same (hlt x (by rw [hbef]; exact hx))) (fun x hx => by simpa using hlt x (by rw [hbef]; exact hx))
 ·rw [hs,hv]; rfl
end
end Go.AM
namespace Go.AM
open Go.ChangeShapes Go.WideShapes Go.RowKit
variable {P : Program}
theorem trodAll_length {H' : Type} {enc : TypeId × Value → H'} {W : World} {base : Nat} {sp : Nat → Bool} {held : Bool} : ∀ {ts : List TypeId} {vs : List Value} {ds : List (DataW H')} {ps : List MemPlace},
  DataW.TrodAll enc P W base sp held ts vs ds ps → vs.length = ts.length ∧ ds.length = ts.length
 | [],vs,ds,ps,h => by obtain ⟨rfl,rfl,rfl⟩ := trodAll_nil h; exact ⟨rfl,rfl⟩
 | t :: ts,vs,ds,ps,h => by
  obtain ⟨v,vs1,d,ds1,a,b,rfl,rfl,rfl,h1,h2⟩ := trodAll_cons h
  obtain ⟨k1,k2⟩ := trodAll_length h2
  exact ⟨by simp [k1],by simp [k2]⟩
def isTrue : Option (V × H) → Bool
 | some (.bool b,_) => b
 | _ => false
theorem isTrue_spec {r : Option (V × H)} (h : isTrue r = true) : ∃ h',r = some (.bool true,h') := by
 unfold isTrue at h
 split at h
 ·subst h; exact ⟨_,rfl⟩
 ·cases h
end Go.AM
