/- My own texts, laid for this claim. -/
import Derived.Test.YtpfoofcallfjjaaGreatDoorAmXToXLaw
import Derived.Lib.ItoaLen
import Derived.Lib.ItoaNum
import Derived.Sort.Grow
import Derived.Deep.Draws
import Derived.CallsIn
set_option linter.unusedSimpArgs false
set_option linter.unusedVariables false
namespace Go.AM
mutual
def V.nj : V → Bool
 | .junk => false
 | .func _ fs cs => V.njL fs && V.njL cs
 | .iface _ v => V.nj v
 | .agg a => V.njL a
 | .tup a => V.njL a
 | _ => true
def V.njL : List V → Bool
 | [] => true
 | v :: vs => V.nj v && V.njL vs
end
mutual
theorem V.beq_refl : ∀ v : V,V.nj v = true → V.beq v v = true
 | .bool _,_ => by simp [V.beq]
 | .int _ _,_ => by simp [V.beq]
 | .str _,_ => by simp [V.beq]
 | .ptr _,_ => by simp [V.beq]
 | .slice _ _ _ _,_ => by simp [V.beq]
 | .map _,_ => by simp [V.beq]
 | .func _ fs cs,h => by
  simp only [V.nj,Bool.and_eq_true] at h
  simp [V.beq,V.beqL_refl _ h.1,V.beqL_refl _ h.2]
 | .yield _,_ => by simp [V.beq]
 | .nilFunc,_ => by simp [V.beq]
 | .iface _ v,h => by simp only [V.nj] at h; simp [V.beq,V.beq_refl v h]
 | .nilIface,_ => by simp [V.beq]
 | .agg a,h => by simp only [V.nj] at h; simp [V.beq,V.beqL_refl a h]
 | .tup a,h => by simp only [V.nj] at h; simp [V.beq,V.beqL_refl a h]
 | .junk,h => by simp [V.nj] at h
theorem V.beqL_refl : ∀ v : List V,V.njL v = true → V.beqL v v = true
 | [],_ => by simp [V.beqL]
 | v :: vs,h => by
  simp only [V.njL,Bool.and_eq_true] at h
  simp [V.beqL,V.beq_refl v h.1,V.beqL_refl vs h.2]
end
def actsAt : List O → Nat → List (Nat × Nat)
 | [],_ => []
 | o :: r,i => if o.op.still then actsAt r (i + 1) else (i,o.pre) :: actsAt r (i + 1)
def against (i pre : Nat) (acts : List (Nat × Nat)) : Bool := acts.all fun a => if a.1 < i then pre.testBit a.1 else a.1 == i || a.2.testBit i
def orddFrom (acts : List (Nat × Nat)) : List O → Nat → Bool
 | [],_ => true
 | o :: r,i => against i o.pre acts && orddFrom acts r (i + 1)
def ord0 (ops : List O) : Bool := orddFrom (actsAt ops 0) ops 0
def statF : List O → Nat → List (Nat × Nat × Bool)
 | [],_ => []
 | o :: r,i => if o.op.still then statF r (i + 1) else (i,o.pre,o.op.fl) :: statF r (i + 1)
def fstat (ops : List O) : Bool := floatOk (statF ops 0) ops
def ordd (ops : List O) : Bool := ord0 ops && fstat ops
variable {P : Program} {ap : Ap}
theorem evDr_ents : ∀ (ops : List O) (T : List V) (h : H) (es : List Ent) (T' : List V) (h' : H),evDr P ap ops T h = some (es,T',h') → es.length = ops.length ∧
  (∀ (i : Nat) e o,es[i]? = some e → ops[i]? = some o → (e.act = true → o.op.still = false) ∧ (e.rd = true → evK P e.T e.h o.op = some (.rd e.v) ∧ e.act = false)) ∧
  (∀ e,es[0]? = some e → e.h = h) ∧ (∀ (i : Nat) e e',es[i]? = some e → es[i + 1]? = some e' → e'.h = e.h') ∧ (∀ (i : Nat) e,es[i]? = some e → e.act = false → e.h' = e.h)
 | [],T,h,es,T',h',he => by cases he; simp
 | o :: ops,T,h,es,T',h',he => by
  have one : ∀ (ent : Ent) (T1 : List V),ent.h = h → (ent.act = true → o.op.still = false) → (ent.rd = true → evK P ent.T ent.h o.op = some (.rd ent.v) ∧ ent.act = false) → (ent.act = false → ent.h' = ent.h) →
    ((evDr P ap ops T1 ent.h').map fun x => (ent :: x.1,x.2)) = some (es,T',h') → es.length = (o :: ops).length ∧
    (∀ (i : Nat) e o',es[i]? = some e → (o :: ops)[i]? = some o' → (e.act = true → o'.op.still = false) ∧ (e.rd = true → evK P e.T e.h o'.op = some (.rd e.v) ∧ e.act = false)) ∧
    (∀ e,es[0]? = some e → e.h = h) ∧ (∀ (i : Nat) e e',es[i]? = some e → es[i + 1]? = some e' → e'.h = e.h') ∧ (∀ (i : Nat) e,es[i]? = some e → e.act = false → e.h' = e.h) := by
   intro ent T1 q1 q2 q3 q4 hm
   obtain ⟨⟨es0,T0,h0⟩,m1,m2⟩ := Option.map_eq_some_iff.1 hm
   cases m2
   obtain ⟨i1,i2,i3,i4,i5⟩ := evDr_ents ops T1 ent.h' es0 _ _ m1
   refine ⟨by simp [i1],fun i e o' he ho => ?_,fun e he => ?_,fun i e e' he he' => ?_,fun i e he => ?_⟩
   ·cases i with
    | zero => simp at he ho; subst he ho; exact ⟨q2,q3⟩
    | succ i => exact i2 i e o' (by simpa using he) (by simpa using ho)
   ·simp at he; subst he; exact q1
   ·cases i with
    | zero => simp at he he'; subst he; exact i3 e' (by simpa using he')
    | succ i => exact i4 i e e' (by simpa using he) (by simpa using he')
   ·cases i with
    | zero => simp at he; subst he; exact q4
    | succ i => exact i5 i e (by simpa using he)
  simp only [evDr] at he
  split at he
  ·cases hk : evK P T h o.op with
   | none => simp [hk] at he
   | some x =>
    cases x with
    | pur v => simp only [hk] at he; exact one ⟨T,h,h,v,false,false⟩ _ rfl (by simp) (by simp) (fun _ => rfl) he
    | rd v => simp only [hk] at he; exact one ⟨T,h,h,v,false,true⟩ _ rfl (by simp) (fun _ => ⟨hk,rfl⟩) (fun _ => rfl) he
    | eff v h1 =>
     simp only [hk] at he
     refine one ⟨T,h,h1,v,true,false⟩ _ rfl (fun _ => ?_) (by simp) (by simp) he
     cases hs : o.op.still with
     | false => rfl
     | true => rcases evK_still hs hk with ⟨v',e⟩ | ⟨v',e⟩ <;> cases e
    | call f args =>
     simp only [hk] at he
     cases ha : ap f args h with
     | none => simp [ha] at he
     | some y =>
      obtain ⟨v,h1⟩ := y
      simp only [ha] at he
      refine one ⟨T,h,h1,v,true,false⟩ _ rfl (fun _ => ?_) (by simp) (by simp) he
      cases hs : o.op.still with
      | false => rfl
      | true => rcases evK_still hs hk with ⟨v',e⟩ | ⟨v',e⟩ <;> cases e
  ·exact one ⟨T,h,h,undefV,false,false⟩ _ rfl (by simp) (by simp) (fun _ => rfl) he
theorem actsAt_mem : ∀ (ops : List O) (i j : Nat) (o : O),ops[j]? = some o → o.op.still = false → (i + j,o.pre) ∈ actsAt ops i
 | [],_,_,_,h,_ => by simp at h
 | o1 :: ops,i,0,o,h,hs => by
  simp at h; subst h
  simp [actsAt,hs]
 | o1 :: ops,i,j + 1,o,h,hs => by
  have := actsAt_mem ops (i + 1) j o (by simpa using h) hs
  rw [show i + 1 + j = i + (j + 1) by omega] at this
  unfold actsAt
  split
  ·exact this
  ·exact List.mem_cons_of_mem _ this
theorem orddFrom_get {acts : List (Nat × Nat)} : ∀ (ops : List O) (i j : Nat) (o : O),orddFrom acts ops i = true → ops[j]? = some o → against (i + j) o.pre acts = true
 | [],_,_,_,_,h => by simp at h
 | o1 :: ops,i,0,o,hd,h => by
  simp at h; subst h
  simp only [orddFrom,Bool.and_eq_true] at hd
  exact hd.1
 | o1 :: ops,i,j + 1,o,hd,h => by
  simp only [orddFrom,Bool.and_eq_true] at hd
  have := orddFrom_get ops (i + 1) j o hd.2 (by simpa using h)
  rwa [show i + 1 + j = i + (j + 1) by omega] at this
theorem ordd_spec {ops : List O} (hd : ord0 ops = true) {i j : Nat} {o o' : O} (hi : ops[i]? = some o) (hj : ops[j]? = some o') (hs : o'.op.still = false) :
  (j < i → o.pre.testBit j = true) ∧ (i < j → o'.pre.testBit i = true) := by
 have h1 := orddFrom_get ops 0 i o hd hi
 have h2 := actsAt_mem ops 0 j o' hj hs
 rw [Nat.zero_add] at h1 h2
 have h3 := List.all_eq_true.1 h1 _ h2
 simp only at h3
 refine ⟨fun h => ?_,fun h => ?_⟩
 ·rwa [if_pos h] at h3
 ·rw [if_neg (by omega)] at h3
  simp only [Bool.or_eq_true,beq_iff_eq] at h3
  rcases h3 with h3 | h3
  ·omega
  ·exact h3
theorem reads_ok {o : O} {e : Ent} {i : Nat} (hsame : sameAt P o e e.h = true) (hna : e.act = false) : ∀ (ops : List O) (es : List Ent) (j : Nat) (h : H),
  (∀ e0,es[0]? = some e0 → e0.h = h) → (∀ (k : Nat) a b,es[k]? = some a → es[k + 1]? = some b → b.h = a.h') → (∀ (k : Nat) a,es[k]? = some a → a.act = false → a.h' = a.h) → es.length = ops.length →
  (j ≤ i → es[i - j]? = some e) → (i < j → h = e.h) → (∀ (k : Nat) a o',es[k]? = some a → ops[k]? = some o' → a.act = true → (j + k < i → o.pre.testBit (j + k) = true) ∧ (i < j + k → o'.pre.testBit i = true)) →
  readsOk P o e i h (actsOf ops es j) = true
 | [],[],j,h,_,_,_,_,h4,h5,_ => by
  have hji : i < j := by
   rcases Nat.lt_or_ge i j with h | h
   ·exact h
   ·have := h4 h; simp at this
  simp only [actsOf,readsOk]
  rw [h5 hji]; exact hsame
 | [],_ :: _,_,_,_,_,_,hl,_,_,_ => by simp at hl
 | _ :: _,[],_,_,_,_,_,hl,_,_,_ => by simp at hl
 | o1 :: ops,e1 :: es,j,h,h1,h2,h3,hl,h4,h5,h6 => by
  have e1h := h1 e1 rfl
  have nxt : ∀ h',e1.h' = h' → (i < j + 1 → h' = e.h) → readsOk P o e i h' (actsOf ops es (j + 1)) = true := by
   intro h' hh hlast
   refine reads_ok hsame hna ops es (j + 1) h' (fun e0 he0 => ?_) (fun k a b ha hb => h2 (k + 1) a b (by simpa using ha) (by simpa using hb)) (fun k a ha => h3 (k + 1) a (by simpa using ha)) (by simpa using hl)
    (fun hj => ?_) hlast (fun k a o' ha ho' hact => ?_)
   ·rw [← hh]; exact h2 0 e1 e0 rfl (by simpa using he0)
   ·have := h4 (by omega)
    rw [show i - j = (i - (j + 1)) + 1 by omega] at this
    simpa using this
   ·have := h6 (k + 1) a o' (by simpa using ha) (by simpa using ho') hact
    rwa [show j + (k + 1) = j + 1 + k by omega] at this
  unfold actsOf
  by_cases ha : e1.act = true
  ·simp only [ha,if_true,readsOk]
   obtain ⟨s1,s2⟩ := h6 0 e1 o1 rfl rfl ha
   rw [Nat.add_zero] at s1 s2
   rcases Nat.lt_trichotomy j i with hlt | heq | hgt
   ·rw [s1 hlt,nxt e1.h' rfl (fun hh => by omega)]; simp
   ·subst heq
    have := h4 (Nat.le_refl _)
    rw [Nat.sub_self] at this
    simp at this; subst this
    rw [hna] at ha; cases ha
   ·rw [s2 hgt,h5 hgt,hsame]; simp
  ·have ha' : e1.act = false := by simpa using ha
   simp only [ha',Bool.false_eq_true,if_false]
   have hh := h3 0 e1 rfl ha'
   refine nxt h (hh.trans e1h) fun hji => ?_
   rcases Nat.lt_or_ge i j with hlt | hge
   ·exact h5 hlt
   ·have hij : i = j := by omega
    have := h4 hge
    rw [hij,Nat.sub_self] at this
    simp at this; subst this
    exact e1h.symm
theorem actsF_memx : ∀ (ops : List O) (es : List Ent) (j : Nat) (x : Nat × Nat × Bool),x ∈ actsF ops es j → ∃ k o e,x.1 = j + k ∧ ops[k]? = some o ∧ es[k]? = some e ∧ e.act = true ∧ x.2.1 = o.pre ∧ x.2.2 = o.op.fl
 | [],es,j,x,hx => by simp [actsF] at hx
 | _ :: _,[],j,x,hx => by simp [actsF] at hx
 | o :: ops,e :: es,j,x,hx => by
  unfold actsF at hx
  have rec_ : x ∈ actsF ops es (j + 1) → ∃ k o' e',x.1 = j + k ∧ (o :: ops)[k]? = some o' ∧ (e :: es)[k]? = some e' ∧ e'.act = true ∧ x.2.1 = o'.pre ∧ x.2.2 = o'.op.fl := fun h => by
   obtain ⟨k,o',e',q1,q2,q3,q4,q5⟩ := actsF_memx ops es (j + 1) x h
   exact ⟨k + 1,o',e',by omega,by simpa using q2,by simpa using q3,q4,q5⟩
  split at hx
  ·rename_i ha
   rcases List.mem_cons.1 hx with rfl | hx
   ·exact ⟨0,o,e,by simp,rfl,rfl,ha,rfl,rfl⟩
   ·exact rec_ hx
  ·exact rec_ hx
theorem chain_ok : ∀ (ops : List O) (es : List Ent) (j : Nat),(∀ (k l : Nat) o o' e e',ops[k]? = some o → ops[l]? = some o' → es[k]? = some e → es[l]? = some e' → e.act = true → e'.act = true → k < l → o'.op.fl = true ∨ o'.pre.testBit (j + k) = true) → chainF (actsF ops es j) = true
 | [],es,j,_ => by simp [actsF,chainF]
 | _ :: _,[],j,_ => by simp [actsF,chainF]
 | o :: ops,e :: es,j,h => by
  have rec_ : chainF (actsF ops es (j + 1)) = true := chain_ok ops es (j + 1) fun k l o1 o2 e1 e2 a1 a2 a3 a4 a5 a6 a7 => by
   have := h (k + 1) (l + 1) o1 o2 e1 e2 (by simpa using a1) (by simpa using a2) (by simpa using a3) (by simpa using a4) a5 a6 (by omega)
   rwa [show j + (k + 1) = j + 1 + k by omega] at this
  unfold actsF
  split
  ·rename_i ha
   simp only [chainF,rec_,Bool.and_true,List.all_eq_true,Bool.or_eq_true]
   intro x hx
   obtain ⟨k,o',e',q1,q2,q3,q4,q5,q6⟩ := actsF_memx ops es (j + 1) x hx
   have := h 0 (k + 1) o o' e e' rfl (by simpa using q2) rfl (by simpa using q3) ha q4 (by omega)
   rw [q5,q6]; simpa using this
  ·exact rec_
theorem statF_mem : ∀ (ops : List O) (i k : Nat) (o : O),ops[k]? = some o → o.op.still = false → (i + k,o.pre,o.op.fl) ∈ statF ops i
 | [],i,k,o,h,_ => by simp at h
 | o' :: ops,i,0,o,h,hs => by
  simp at h; subst h
  unfold statF
  rw [if_neg (by rw [hs]; simp)]
  exact List.mem_cons_self ..
 | o' :: ops,i,k + 1,o,h,hs => by
  have := statF_mem ops (i + 1) k o (by simpa using h) hs
  rw [show i + 1 + k = i + (k + 1) by omega] at this
  unfold statF
  split
  ·exact this
  ·exact List.mem_cons_of_mem _ this
theorem floatOk_sub {ops : List O} {as bs : List (Nat × Nat × Bool)} (hs : ∀ x ∈ as,x ∈ bs) (h : floatOk bs ops = true) : floatOk as ops = true := by
 unfold floatOk at h ⊢
 simp only [List.all_eq_true,Bool.or_eq_true] at h ⊢
 intro o ho p hp
 exact (h o ho p (hs p hp)).imp id fun h1 a ha => h1 a (hs a ha)
theorem fstat_ok {ops : List O} {es : List Ent} (hf : fstat ops = true) (h : ∀ (k : Nat) o e,ops[k]? = some o → es[k]? = some e → e.act = true → o.op.still = false) : floatOk (actsF ops es 0) ops = true :=
 floatOk_sub (fun x hx => by
  obtain ⟨k,o,e,q1,q2,q3,q4,q5,q6⟩ := actsF_memx ops es 0 x hx
  have := statF_mem ops 0 k o q2 (h k o e q2 q3 q4)
  obtain ⟨x1,x2,x3⟩ := x
  simp only at q1 q5 q6
  rw [q1,q5,q6]; exact this) hf
theorem rds_ok {acts : List (Nat × Nat × H)} {h0 : H} : ∀ (ops : List O) (es : List Ent) (i : Nat),(∀ (k : Nat) o e,ops[k]? = some o → es[k]? = some e → e.rd = true → readsOk P o e (i + k) h0 acts = true) → rdsOk P acts h0 ops es i = true
 | [],es,i,_ => by simp [rdsOk]
 | _ :: _,[],i,_ => by simp [rdsOk]
 | o :: ops,e :: es,i,h => by
  have rec_ := rds_ok (acts := acts) (h0 := h0) ops es (i + 1) fun k o' e' a1 a2 a3 => by
   have := h (k + 1) o' e' (by simpa using a1) (by simpa using a2) a3
   rwa [show i + (k + 1) = i + 1 + k by omega] at this
  unfold rdsOk
  rw [rec_,Bool.and_true]
  cases hr : e.rd with
  | false => rfl
  | true => simpa using h 0 o e rfl rfl hr
theorem evDraw_ord {ops : List O} {T T' : List V} {h h' : H} {es : List Ent} (hd : ordd ops = true) (he : evDr P ap ops T h = some (es,T',h')) (hnj : ∀ e ∈ es,e.rd = true → e.v.nj = true) : evDraw P ap ops T h = some (T',h') := by
 obtain ⟨e1,e2,e3,e4,e5⟩ := evDr_ents ops T h es T' h' he
 unfold ordd at hd
 rw [Bool.and_eq_true] at hd
 obtain ⟨hd,hfs⟩ := hd
 have hfl : floatOk (actsF ops es 0) ops = true := fstat_ok hfs fun k o e a1 a2 a3 => (e2 k e o a2 a1).1 a3
 have hch : chainF (actsF ops es 0) = true := chain_ok ops es 0 fun k l o o' a b a1 a2 a3 a4 a5 a6 a7 => by
  have hs := (e2 k a o a3 a1).1 a5
  rw [Nat.zero_add]
  exact .inr ((ordd_spec hd a2 a1 hs).1 a7)
 have hrd : rdsOk P (actsOf ops es 0) h ops es 0 = true := rds_ok ops es 0 fun k o e a1 a2 a3 => by
  rw [Nat.zero_add]
  obtain ⟨q1,q2⟩ := (e2 k e o a2 a1).2 a3
  have hsame : sameAt P o e e.h = true := by
   unfold sameAt; rw [q1]
   exact V.beq_refl _ (hnj e (List.mem_of_getElem? a2) a3)
  refine reads_ok hsame q2 ops es 0 h e3 e4 e5 e1 (fun _ => by simpa using a2) (fun hh => by omega) fun l a o' b1 b2 b3 => ?_
  have hs := (e2 l a o' b1 b2).1 b3
  rw [Nat.zero_add]
  exact ordd_spec hd a1 b2 hs
 unfold evDraw
 rw [he]
 simp only [hch,hrd,hfl,Bool.and_self,Bool.or_true,if_true]
section
variable {E : Env} {ro : Option Nat} {L : Nat} {S : List Fr} {ρ : Nat → V} {h : H} {Q : Po}
def XDO (P : Program) (E : Env) (ro : Option Nat) (L : Nat) (ops : List O) (S : List Fr) (ρ : Nat → V) (h : H) (Q : Po) : Prop :=
 ∃ es T' h',evDr P (AP P E) ops (toL L ρ) h = some (es,T',h') ∧ (∀ e ∈ es,e.rd = true → e.v.nj = true) ∧ XX P E ro S .nrm T' h' Q
def XRD (P : Program) (E : Env) (ro : Option Nat) (L : Nat) (dst : Option Nat) (r : List O) (S : List Fr) (ρ : Nat → V) (h : H) (Q : Po) : Option Res → Prop
 | some (.pur v) => XDO P E ro L r S (upo ρ dst v) h Q
 | some (.rd v) => v.nj = true ∧ XDO P E ro L r S (upo ρ dst v) h Q
 | some (.eff v h') => XDO P E ro L r S (upo ρ dst v) h' Q
 | some (.call f args) => ∃ v h',AP P E f args h = some (v,h') ∧ XDO P E ro L r S (upo ρ dst v) h' Q
 | none => False
def XCD (P : Program) (E : Env) (ro : Option Nat) (L : Nat) (f : V) (args : List V) (dst : Option Nat) (r : List O) (S : List Fr) (ρ : Nat → V) (h : H) (Q : Po) : Prop :=
 ∃ v h',AP P E f args h = some (v,h') ∧ XDO P E ro L r S (upo ρ dst v) h' Q
theorem XD_ord {ops : List O} (hd : ordd ops = true) (hx : XDO P E ro L ops S ρ h Q) : XD P E ro L ops S ρ h Q := by
 obtain ⟨es,T',h',h1,h2,h3⟩ := hx
 exact ⟨T',h',evDraw_ord hd h1 h2,h3⟩
theorem XDO_nil : XDO P E ro L [] S ρ h Q = X P E ro L S ρ h Q := by
 simp only [XDO,evDr,X,Option.some.injEq,Prod.mk.injEq,eq_iff_iff]
 constructor
 ·rintro ⟨es,T',h',⟨rfl,rfl,rfl⟩,_,h3⟩; exact h3
 ·intro h3; exact ⟨[],_,_,⟨rfl,rfl,rfl⟩,by simp,h3⟩
theorem XDO_cons (dst : Option Nat) (k : AM.K) (g : Option (Nat × Bool)) (pre : Nat) (ns : List Nat) (r : List O) :
  XDO P E ro L (⟨dst,k,g,pre,ns⟩ :: r) S ρ h Q = if wantV (toL L ρ) g then XRD P E ro L dst r S ρ h Q (evK P (toL L ρ) h k) else XDO P E ro L r S (upo ρ dst undefV) h Q := by
 have one : ∀ (ent : Ent) (v : V) (h1 : H),(ent.rd = true → ent.v.nj = true) → ((∃ es T' h',((evDr P (AP P E) r (putV (toL L ρ) dst v) h1).map fun x => (ent :: x.1,x.2)) = some (es,T',h') ∧ (∀ e ∈ es,e.rd = true → e.v.nj = true) ∧ XX P E ro S .nrm T' h' Q) ↔ XDO P E ro L r S (upo ρ dst v) h1 Q) := by
  intro ent v h1 hent
  rw [putV_upo]
  unfold XDO
  constructor
  ·rintro ⟨es,T',h',m,h2,h3⟩
   obtain ⟨⟨es0,T0,h0⟩,m1,m2⟩ := Option.map_eq_some_iff.1 m
   cases m2
   exact ⟨es0,_,_,m1,fun e he => h2 e (List.mem_cons_of_mem _ he),h3⟩
  ·rintro ⟨es,T',h',m,h2,h3⟩
   refine ⟨ent :: es,T',h',by rw [m]; rfl,fun e he => ?_,h3⟩
   rcases List.mem_cons.1 he with rfl | he
   ·exact hent
   ·exact h2 e he
 conv => lhs; unfold XDO
 simp only [evDr]
 split
 ·cases hk : evK P (toL L ρ) h k with
  | none => simp [XRD]
  | some x =>
   cases x with
   | pur v => simp only [XRD,eq_iff_iff]; exact one _ _ _ (by simp)
   | rd v =>
    simp only [XRD,eq_iff_iff]
    constructor
    ·rintro ⟨es,T',h',m,h2,h3⟩
     obtain ⟨⟨es0,T0,h0⟩,m1,m2⟩ := Option.map_eq_some_iff.1 m
     cases m2
     have hv := h2 _ (List.mem_cons_self) rfl
     exact ⟨hv,(one ⟨toL L ρ,h,h,v,false,true⟩ v h (fun _ => hv)).1 ⟨_,_,_,by rw [m1]; rfl,h2,h3⟩⟩
    ·rintro ⟨hv,hx⟩
     exact (one ⟨toL L ρ,h,h,v,false,true⟩ v h (fun _ => hv)).2 hx
   | eff v h' => simp only [XRD,eq_iff_iff]; exact one _ _ _ (by simp)
   | call f args =>
    simp only [XRD,eq_iff_iff]
    cases ha : AP P E f args h with
    | none => simp
    | some y =>
     obtain ⟨v,h1⟩ := y
     simp only [Option.some.injEq,Prod.mk.injEq]
     constructor
     ·intro hx; exact ⟨v,h1,⟨rfl,rfl⟩,(one _ _ _ (by simp)).1 hx⟩
     ·rintro ⟨v',h',⟨rfl,rfl⟩,hx⟩; exact (one _ _ _ (by simp)).2 hx
 ·simp only [eq_iff_iff]; exact one _ _ _ (by simp)
theorem XRD_pur (dst : Option Nat) (r : List O) (v : V) : XRD P E ro L dst r S ρ h Q (some (.pur v)) = XDO P E ro L r S (upo ρ dst v) h Q := rfl
theorem XRD_rd (dst : Option Nat) (r : List O) (v : V) : XRD P E ro L dst r S ρ h Q (some (.rd v)) = (v.nj = true ∧ XDO P E ro L r S (upo ρ dst v) h Q) := rfl
theorem XRD_eff (dst : Option Nat) (r : List O) (v : V) (h' : H) : XRD P E ro L dst r S ρ h Q (some (.eff v h')) = XDO P E ro L r S (upo ρ dst v) h' Q := rfl
theorem XRD_call (dst : Option Nat) (r : List O) (f : V) (args : List V) : XRD P E ro L dst r S ρ h Q (some (.call f args)) = XCD P E ro L f args dst r S ρ h Q := rfl
end
end Go.AM
namespace Go.AM
theorem ptrEq_keep {h h' : H} (hk : Kp h h') {a b : Nat × Nat} {r : Bool} (he : ptrEq h a b = some r) : ptrEq h' a b = some r := by
 unfold ptrEq at he ⊢
 split
 ·rename_i h1; rw [if_pos h1] at he; exact he
 ·rename_i h1
  rw [if_neg h1] at he
  split at he
  ·rename_i g1 g2
   rw [hk.of g1,hk.of g2]; exact he
  ·cases he
theorem allM_keep {f g : Nat → Option Bool} (hfg : ∀ i b,f i = some b → g i = some b) : ∀ (n i : Nat) {b : Bool},allM f n i = some b → allM g n i = some b
 | 0,_,_,h => h
 | n + 1,i,b,h => by
  simp only [allM] at h ⊢
  cases hf : f i with
  | none => simp [hf] at h
  | some x =>
   rw [hfg i x hf]; rw [hf] at h
   cases x with
   | true => exact allM_keep hfg n (i + 1) h
   | false => exact h
theorem eqV_keep {h h' : H} (hk : Kp h h') : ∀ (e : EqT) (x y : V) (b : Bool),eqV h e x y = some b → eqV h' e x y = some b := by
 intro e
 induction e with
 | ptr =>
  intro x y b he
  unfold eqV at he ⊢
  split at he <;> first | exact he | exact ptrEq_keep hk he | simp_all
 | fcons off size agg e rest ih1 ih2 =>
  intro x y b he
  obtain ⟨xs,ys,rfl,rfl⟩ := eqV_fcons he
  simp only [eqV] at he ⊢
  split at he
  ·rename_i u v h1 h2
   cases h3 : eqV h e u v with
   | none => simp [h3] at he
   | some r =>
    rw [ih1 _ _ _ h3]; rw [h3] at he
    cases r with
    | true => exact ih2 _ _ _ he
    | false => exact he
  ·cases he
 | ar len size agg e ih =>
  intro x y b he
  obtain ⟨xs,ys,rfl,rfl⟩ := eqV_ar he
  simp only [eqV] at he ⊢
  refine allM_keep (fun i r hr => ?_) _ _ he
  split at hr
  ·exact ih _ _ _ hr
  ·cases hr
 | _ =>
  intro x y b he
  unfold eqV at he ⊢
  split at he <;> first | exact he | simp_all
theorem elemsV_keep {h h' : H} (hk : Kp h h') {size n : Nat} {v : V} {r : List V} (he : elemsV h size n v = some r) : elemsV h' size n v = some r := by
 cases v with
 | slice a len cap o =>
  cases a with
  | none => exact he
  | some p =>
   obtain ⟨i,q⟩ := p
   unfold elemsV at he ⊢
   simp only at he ⊢
   split at he
   ·rename_i h0; rw [if_pos h0]; exact he
   ·rename_i h0
    rw [if_neg h0]
    split at he
    ·rename_i g; rw [hk.of g]; exact he
    ·cases he
 | str s => exact he
 | _ => cases he
theorem evK_rd {P : Program} {T : List V} {h h' : H} {k : K} {v : V} (hk : Kp h h') (hr : evK P T h k = some (.rd v)) : evK P T h' k = some (.rd v) := by
 have o1 : ∀ {i : Nat} {o : Obj},h.get i = some o → h'.get i = some o := fun g => hk.of g
 cases k with
 | bin op eq lit x y =>
  simp only [evK] at hr ⊢
  split at hr
  ·rename_i a b h1 h2
   unfold binV at hr ⊢
   split at hr
   ·exact hr
   ·exact hr
   ·cases eq with
    | none => simp at hr
    | some e =>
     simp only at hr ⊢
     split at hr
     ·cases hr
     ·cases he : eqV h e a b with
      | none => rw [he] at hr; cases op <;> simp at hr
      | some r => rw [eqV_keep hk _ _ _ _ he]; rw [he] at hr; exact hr
  ·cases hr
 | b2s x =>
  simp only [evK] at hr ⊢
  split at hr
  ·rename_i a len c o h1
   split at hr
   ·rename_i cs h2; simp only [elemsV_keep hk h2]; exact hr
   ·cases hr
  ·cases hr
 | app ty size bytes s x =>
  simp only [evK] at hr
  split at hr
  ·obtain ⟨v',h1,e⟩ := appV_eff hr; cases e
  ·cases hr
 | _ =>
  simp only [evK] at hr ⊢
  repeat' split at hr
  all_goals first
   | (cases hr; done)
   | (obtain ⟨v',_,e⟩ := Option.map_eq_some_iff.1 hr; cases e; done)
   | simp_all
def flagsFrom : List Nat → List O → Nat → List Bool
 | _,[],_ => []
 | acts,o :: r,i => acts.all (fun a => o.pre.testBit a) :: flagsFrom (if o.op.still then acts else i :: acts) r (i + 1)
def chained : List Bool → List O → Bool
 | f :: fs,o :: r => (o.op.still || f || o.op.fl) && chained fs r
 | _,_ => true
section
variable (P : Program) (E : Env) (ro : Option Nat) (L : Nat) (S : List Fr) (Q : Po) (h0 : H)
def XDQ : List Bool → List O → (Nat → V) → H → Prop
 | f :: fs,o :: r,ρ,h =>
  if wantV (toL L ρ) o.guard then
   if o.op.still then match evK P (toL L ρ) (if f then h else h0) o.op with
    | some (.pur v) => XDQ fs r (upo ρ o.dst v) h
    | some (.rd v) => v.nj = true ∧ XDQ fs r (upo ρ o.dst v) h
    | _ => False
   else match evK P (toL L ρ) h o.op with
    | some (.eff v h') => Kp h h' ∧ XDQ fs r (upo ρ o.dst v) h'
    | some (.call g args) => ∃ v h',AP P E g args h = some (v,h') ∧ Kp h h' ∧ XDQ fs r (upo ρ o.dst v) h'
    | _ => False
  else XDQ fs r (upo ρ o.dst undefV) h
 | _,_,ρ,h => X P E ro L S ρ h Q
end
variable {P : Program} {E : Env} {ro : Option Nat} {L : Nat} {S : List Fr} {Q : Po} {h0 : H}
def EntsQ (P : Program) (h0 : H) : List Bool → List O → List Ent → Prop
 | f :: fs,o :: r,e :: es => (e.act = true → Kp e.h e.h') ∧ (e.rd = true → e.v.nj = true ∧ (f = true ∨ evK P e.T h0 o.op = some (.rd e.v))) ∧ EntsQ P h0 fs r es
 | _,_,_ => True
theorem XDQ_ents : ∀ (fs : List Bool) (ops : List O) (ρ : Nat → V) (h : H),fs.length = ops.length → Kp h0 h → XDQ P E ro L S Q h0 fs ops ρ h →
  ∃ es T' h',evDr P (AP P E) ops (toL L ρ) h = some (es,T',h') ∧ EntsQ P h0 fs ops es ∧ XX P E ro S .nrm T' h' Q
 | [],[],ρ,h,_,_,hx => ⟨[],toL L ρ,h,rfl,trivial,by simpa only [XDQ,X] using hx⟩
 | [],_ :: _,_,_,hl,_,_ => by simp at hl
 | _ :: _,[],_,_,hl,_,_ => by simp at hl
 | f :: fs,o :: r,ρ,h,hl,hk,hx => by
  have one : ∀ (ent : Ent) (v : V) (h1 : H),(ent.act = true → Kp ent.h ent.h') → (ent.rd = true → ent.v.nj = true ∧ (f = true ∨ evK P ent.T h0 o.op = some (.rd ent.v))) → Kp h0 h1 → XDQ P E ro L S Q h0 fs r (upo ρ o.dst v) h1 →
    ∃ es T' h',((evDr P (AP P E) r (putV (toL L ρ) o.dst v) h1).map fun x => (ent :: x.1,x.2)) = some (es,T',h') ∧ EntsQ P h0 (f :: fs) (o :: r) es ∧ XX P E ro S .nrm T' h' Q := by
   intro ent v h1 a1 a2 a3 a4
   obtain ⟨es,T',h',e1,e2,e3⟩ := XDQ_ents fs r _ h1 (by simpa using hl) a3 a4
   exact ⟨ent :: es,T',h',by rw [putV_upo,e1]; rfl,⟨a1,a2,e2⟩,e3⟩
  unfold XDQ at hx
  simp only [evDr]
  split at hx
  ·rename_i hw
   simp only [hw,if_true]
   split at hx
   ·have key : ∀ x,evK P (toL L ρ) (if f then h else h0) o.op = some x → ((∃ v,x = .pur v) ∨ ∃ v,x = .rd v) → evK P (toL L ρ) h o.op = some x := by
     intro x he hp
     cases f with
     | true => simpa using he
     | false =>
      simp only [Bool.false_eq_true,if_false] at he
      rcases hp with ⟨v,rfl⟩ | ⟨v,rfl⟩
      ·exact evK_pur he
      ·exact evK_rd hk he
    split at hx
    ·rename_i v he
     rw [key _ he (.inl ⟨v,rfl⟩)]
     exact one ⟨toL L ρ,h,h,v,false,false⟩ v h (by simp) (by simp) hk hx
    ·rename_i v he
     rw [key _ he (.inr ⟨v,rfl⟩)]
     refine one ⟨toL L ρ,h,h,v,false,true⟩ v h (by simp) (fun _ => ⟨hx.1,?_⟩) hk hx.2
     cases f with
     | true => exact .inl rfl
     | false => right; simpa using he
    ·exact hx.elim
   ·split at hx
    ·rename_i v h' he
     rw [he]
     exact one ⟨toL L ρ,h,h',v,true,false⟩ v h' (fun _ => hx.1) (by simp) (hk.trans hx.1) hx.2
    ·rename_i g args he
     rw [he]
     obtain ⟨v,h',ha,hk2,hx⟩ := hx
     simp only [ha]
     exact one ⟨toL L ρ,h,h',v,true,false⟩ v h' (fun _ => hk2) (by simp) (hk.trans hk2) hx
    ·exact hx.elim
  ·rename_i hw
   simp only [hw]
   exact one ⟨toL L ρ,h,h,undefV,false,false⟩ undefV h (by simp) (by simp) hk hx
theorem EntsQ_get : ∀ (fs : List Bool) (ops : List O) (es : List Ent),EntsQ P h0 fs ops es → ∀ (i : Nat) f o e,fs[i]? = some f → ops[i]? = some o → es[i]? = some e →
  (e.act = true → Kp e.h e.h') ∧ (e.rd = true → e.v.nj = true ∧ (f = true ∨ evK P e.T h0 o.op = some (.rd e.v)))
 | [],_,_,_,_,_,_,_,h,_,_ => by simp at h
 | _ :: _,[],_,_,_,_,_,_,_,h,_ => by simp at h
 | _ :: _,_ :: _,[],_,_,_,_,_,_,_,h => by simp at h
 | f :: fs,o :: ops,e :: es,hq,i,f',o',e',h1,h2,h3 => by
  cases i with
  | zero => simp at h1 h2 h3; subst h1 h2 h3; exact ⟨hq.1,hq.2.1⟩
  | succ i => exact EntsQ_get fs ops es hq.2.2 i f' o' e' (by simpa using h1) (by simpa using h2) (by simpa using h3)
theorem flags_get : ∀ (ops : List O) (acts : List Nat) (j i : Nat) (o : O),ops[i]? = some o → ∃ f,(flagsFrom acts ops j)[i]? = some f ∧ (f = true → (∀ a ∈ acts,o.pre.testBit a = true) ∧ ∀ (k : Nat) o',k < i → ops[k]? = some o' → o'.op.still = false → o.pre.testBit (j + k) = true)
 | [],_,_,_,_,h => by simp at h
 | o1 :: ops,acts,j,0,o,h => by
  simp at h; subst h
  refine ⟨_,rfl,fun hf => ⟨fun a ha => ?_,fun k o' hk => by omega⟩⟩
  exact List.all_eq_true.1 hf a ha
 | o1 :: ops,acts,j,i + 1,o,h => by
  obtain ⟨f,h1,h2⟩ := flags_get ops (if o1.op.still then acts else j :: acts) (j + 1) i o (by simpa using h)
  refine ⟨f,by simpa [flagsFrom] using h1,fun hf => ?_⟩
  obtain ⟨a1,a2⟩ := h2 hf
  refine ⟨fun a ha => a1 a ?_,fun k o' hk ho' hs => ?_⟩
  ·split
   ·exact ha
   ·exact List.mem_cons_of_mem _ ha
  ·cases k with
   | zero =>
    simp at ho'; subst ho'
    have := a1 j (by rw [hs]; simp)
    simpa using this
   | succ k =>
    have := a2 k o' (by omega) (by simpa using ho') hs
    rwa [show j + (k + 1) = j + 1 + k by omega]
theorem chained_get : ∀ (fs : List Bool) (ops : List O),chained fs ops = true → ∀ (i : Nat) f o,fs[i]? = some f → ops[i]? = some o → o.op.still = false → f = true ∨ o.op.fl = true
 | [],_,_,_,_,_,h,_,_ => by simp at h
 | _ :: _,[],_,_,_,_,_,h,_ => by simp at h
 | f :: fs,o :: ops,hc,i,f',o',h1,h2,hs => by
  simp only [chained,Bool.and_eq_true,Bool.or_eq_true] at hc
  cases i with
  | zero => simp at h1 h2; subst h1 h2; exact hc.1.imp (fun h => h.resolve_left (by rw [hs]; simp)) id
  | succ i => exact chained_get fs ops hc.2 i f' o' (by simpa using h1) (by simpa using h2) hs
theorem readsQ {o : O} {e : Ent} {i : Nat} (hpre : (∀ h,Kp h0 h → sameAt P o e h = true) ∨ ((∀ h,Kp e.h h → sameAt P o e h = true) ∧ True)) (hna : e.act = false) : ∀ (ops : List O) (es : List Ent) (j : Nat) (h : H),
  (∀ e0,es[0]? = some e0 → e0.h = h) → (∀ (k : Nat) a b,es[k]? = some a → es[k + 1]? = some b → b.h = a.h') → (∀ (k : Nat) a,es[k]? = some a → a.act = false → a.h' = a.h) → (∀ (k : Nat) a,es[k]? = some a → a.act = true → Kp a.h a.h') → es.length = ops.length →
  Kp h0 h → (j ≤ i → es[i - j]? = some e) → (i < j → Kp e.h h) →
  ((∀ h,Kp h0 h → sameAt P o e h = true) ∨ ∀ (k : Nat) a,es[k]? = some a → a.act = true → j + k < i → o.pre.testBit (j + k) = true) →
  readsOk P o e i h (actsOf ops es j) = true
 | [],[],j,h,_,_,_,_,_,hk,h4,h5,_ => by
  have hji : i < j := by
   rcases Nat.lt_or_ge i j with h | h
   ·exact h
   ·have := h4 h; simp at this
  simp only [actsOf,readsOk]
  rcases hpre with hp | hp
  ·exact hp h hk
  ·exact hp.1 h (h5 hji)
 | [],_ :: _,_,_,_,_,_,_,hl,_,_,_,_ => by simp at hl
 | _ :: _,[],_,_,_,_,_,_,hl,_,_,_,_ => by simp at hl
 | o1 :: ops,e1 :: es,j,h,h1,h2,h3,h3',hl,hk,h4,h5,h6 => by
  have e1h := h1 e1 rfl
  have nxt : ∀ h',e1.h' = h' → Kp h0 h' → (i < j + 1 → Kp e.h h') → readsOk P o e i h' (actsOf ops es (j + 1)) = true := by
   intro h' hh hk' hlast
   refine readsQ hpre hna ops es (j + 1) h' (fun e0 he0 => ?_) (fun k a b ha hb => h2 (k + 1) a b (by simpa using ha) (by simpa using hb)) (fun k a ha => h3 (k + 1) a (by simpa using ha)) (fun k a ha => h3' (k + 1) a (by simpa using ha)) (by simpa using hl) hk'
    (fun hj => ?_) hlast ?_
   ·rw [← hh]; exact h2 0 e1 e0 rfl (by simpa using he0)
   ·have := h4 (by omega)
    rw [show i - j = (i - (j + 1)) + 1 by omega] at this
    simpa using this
   ·rcases h6 with h6 | h6
    ·exact .inl h6
    ·refine .inr fun k a ha hact hlt => ?_
     have := h6 (k + 1) a (by simpa using ha) hact (by omega)
     rwa [show j + (k + 1) = j + 1 + k by omega] at this
  have heq : ∀ {x},j = i → e1 = x → x = e → True := fun _ _ _ => trivial
  unfold actsOf
  by_cases ha : e1.act = true
  ·simp only [ha,if_true,readsOk]
   have hkk : Kp h e1.h' := by rw [← e1h]; exact h3' 0 e1 rfl ha
   have hne : j ≠ i := by
    intro hji
    have := h4 (by omega)
    rw [hji,Nat.sub_self] at this
    simp at this; subst this
    rw [hna] at ha; cases ha
   rw [nxt e1.h' rfl (hk.trans hkk) (fun hh => (h5 (by omega)).trans hkk)]
   simp only [Bool.or_true,Bool.and_true,Bool.or_eq_true]
   rcases h6 with h6 | h6
   ·exact .inr (h6 h hk)
   ·rcases Nat.lt_or_ge j i with hlt | hge
    ·exact .inl (.inl (by simpa using h6 0 e1 rfl ha (by omega)))
    ·rcases hpre with hp | hp
     ·exact .inr (hp h hk)
     ·exact .inr (hp.1 h (h5 (by omega)))
  ·have ha' : e1.act = false := by simpa using ha
   simp only [ha',Bool.false_eq_true,if_false]
   have hh := h3 0 e1 rfl ha'
   refine nxt h (hh.trans e1h) hk fun hji => ?_
   rcases Nat.lt_or_ge i j with hlt | hge
   ·exact h5 hlt
   ·have hij : i = j := by omega
    have := h4 hge
    rw [hij,Nat.sub_self] at this
    simp at this; subst this
    rw [e1h]; exact Keeps.refl _ _
theorem XD_quiet {ops : List O} {fs : List Bool} {ρ : Nat → V} (hf : flagsFrom [] ops 0 = fs) (hc : (chained fs ops && fstat ops) = true) (hx : XDQ P E ro L S Q h0 fs ops ρ h0) : XD P E ro L ops S ρ h0 Q := by
 have hlen : fs.length = ops.length := by
  rw [← hf]
  have : ∀ (ops : List O) (acts : List Nat) (j : Nat),(flagsFrom acts ops j).length = ops.length := by
   intro ops
   induction ops with
   | nil => intro _ _; rfl
   | cons o r ih => intro _ _; simp [flagsFrom,ih]
  exact this _ _ _
 obtain ⟨es,T',h',he,hq,hX⟩ := XDQ_ents fs ops ρ h0 hlen (Keeps.refl _ _) hx
 obtain ⟨e1,e2,e3,e4,e5⟩ := evDr_ents ops (toL L ρ) h0 es T' h' he
 refine ⟨T',h',?_,hX⟩
 have fget : ∀ (i : Nat) o,ops[i]? = some o → ∃ f,fs[i]? = some f ∧ (f = true → ∀ (k : Nat) o',k < i → ops[k]? = some o' → o'.op.still = false → o.pre.testBit k = true) := fun i o hi => by
  obtain ⟨f,h1,h2⟩ := flags_get ops [] 0 i o hi
  rw [hf] at h1
  refine ⟨f,h1,fun hft k o' hk ho' hs => ?_⟩
  have := (h2 hft).2 k o' hk ho' hs
  simpa using this
 have hkp : ∀ (k : Nat) a,es[k]? = some a → a.act = true → Kp a.h a.h' := fun k a ha hact => by
  have hkl : k < ops.length := by rw [← e1]; exact (List.getElem?_eq_some_iff.1 ha).1
  obtain ⟨f,hf1,_⟩ := fget k ops[k] (List.getElem?_eq_getElem hkl)
  exact (EntsQ_get fs ops es hq k f ops[k] a hf1 (List.getElem?_eq_getElem hkl) ha).1 hact
 rw [Bool.and_eq_true] at hc
 obtain ⟨hc,hfs⟩ := hc
 have hfl : floatOk (actsF ops es 0) ops = true := fstat_ok hfs fun k o e a1 a2 a3 => (e2 k e o a2 a1).1 a3
 have hch : chainF (actsF ops es 0) = true := chain_ok ops es 0 fun k l o o' a b a1 a2 a3 a4 a5 a6 a7 => by
  have hs := (e2 k a o a3 a1).1 a5
  have hs' := (e2 l b o' a4 a2).1 a6
  obtain ⟨f,hf1,hf2⟩ := fget l o' a2
  rw [Nat.zero_add]
  exact (chained_get fs ops hc l f o' hf1 a2 hs').elim (fun hft => .inr (hf2 hft k o a7 a1 hs)) .inl
 have hheap : ∀ (k : Nat) a,es[k]? = some a → Kp h0 a.h := by
  intro k
  induction k with
  | zero => intro a ha; rw [e3 a ha]; exact Keeps.refl _ _
  | succ k ih =>
   intro a ha
   have hkl : k < es.length := by have := (List.getElem?_eq_some_iff.1 ha).1; omega
   have hb := ih es[k] (List.getElem?_eq_getElem hkl)
   rw [e4 k es[k] a (List.getElem?_eq_getElem hkl) ha]
   cases hact : es[k].act with
   | true => exact hb.trans (hkp k es[k] (List.getElem?_eq_getElem hkl) hact)
   | false => rw [e5 k es[k] (List.getElem?_eq_getElem hkl) hact]; exact hb
 have hrd : rdsOk P (actsOf ops es 0) h0 ops es 0 = true := rds_ok ops es 0 fun k o e a1 a2 a3 => by
  rw [Nat.zero_add]
  obtain ⟨q1,q2⟩ := (e2 k e o a2 a1).2 a3
  obtain ⟨f,hf1,hf2⟩ := fget k o a1
  obtain ⟨hnj,hor⟩ := (EntsQ_get fs ops es hq k f o e hf1 a1 a2).2 a3
  have hsame : ∀ hh,evK P e.T hh o.op = some (.rd e.v) → sameAt P o e hh = true := fun hh hv => by
   unfold sameAt; rw [hv]; exact V.beq_refl _ hnj
  rcases hor with hft | hv0
  ·refine readsQ (h0 := h0) (.inr ⟨fun hh hk => hsame hh (evK_rd hk q1),trivial⟩) q2 ops es 0 h0 e3 e4 e5 hkp e1 (Keeps.refl _ _) (fun _ => by simpa using a2) (fun hh => by omega) (.inr fun l a b1 b3 b4 => ?_)
   rw [Nat.zero_add] at b4 ⊢
   have hll : l < ops.length := by rw [← e1]; exact (List.getElem?_eq_some_iff.1 b1).1
   exact hf2 hft l ops[l] b4 (List.getElem?_eq_getElem hll) ((e2 l a ops[l] b1 (List.getElem?_eq_getElem hll)).1 b3)
  ·have hall : ∀ hh,Kp h0 hh → sameAt P o e hh = true := fun hh hk => hsame hh (evK_rd hk hv0)
   exact readsQ (.inl hall) q2 ops es 0 h0 e3 e4 e5 hkp e1 (Keeps.refl _ _) (fun _ => by simpa using a2) (fun hh => by omega) (.inl hall)
 unfold evDraw
 rw [he]
 simp only [hch,hrd,hfl,Bool.and_self,Bool.or_true,if_true]
section
variable {ρ : Nat → V} {h : H} {f : Bool} {fs : List Bool} {r : List O}
def XSQ (P : Program) (E : Env) (ro : Option Nat) (L : Nat) (S : List Fr) (Q : Po) (h0 : H) (fs : List Bool) (dst : Option Nat) (r : List O) (ρ : Nat → V) (h : H) : Option Res → Prop
 | some (.pur v) => XDQ P E ro L S Q h0 fs r (upo ρ dst v) h
 | some (.rd v) => v.nj = true ∧ XDQ P E ro L S Q h0 fs r (upo ρ dst v) h
 | _ => False
def XCQ (P : Program) (E : Env) (ro : Option Nat) (L : Nat) (S : List Fr) (Q : Po) (h0 : H) (fs : List Bool) (g : V) (args : List V) (dst : Option Nat) (r : List O) (ρ : Nat → V) (h : H) : Prop :=
 ∃ v h',AP P E g args h = some (v,h') ∧ Kp h h' ∧ XDQ P E ro L S Q h0 fs r (upo ρ dst v) h'
def XAQ (P : Program) (E : Env) (ro : Option Nat) (L : Nat) (S : List Fr) (Q : Po) (h0 : H) (fs : List Bool) (dst : Option Nat) (r : List O) (ρ : Nat → V) (h : H) : Option Res → Prop
 | some (.eff v h') => Kp h h' ∧ XDQ P E ro L S Q h0 fs r (upo ρ dst v) h'
 | some (.call g args) => XCQ P E ro L S Q h0 fs g args dst r ρ h
 | _ => False
theorem still_mv (a : A) : K.still (.mv a) = true := rfl
theorem still_pick (c a b : A) : K.still (.pick c a b) = true := rfl
theorem still_alloc (ty : Nat) (z : List V) : K.still (.alloc ty z) = false := rfl
theorem still_box (ty : Nat) (a : A) : K.still (.box ty a) = false := rfl
theorem still_build (z : List V) (ps : List (Nat × Nat × A)) : K.still (.build z ps) = true := rfl
theorem still_bslice (ty len : Nat) (z : List V) (ps : List (Nat × Nat × A)) : K.still (.bslice ty len z ps) = false := rfl
theorem still_load1 (a : A) : K.still (.load1 a) = true := rfl
theorem still_loadN (n : Nat) (a : A) : K.still (.loadN n a) = true := rfl
theorem still_store (n : Nat) (a v : A) : K.still (.store n a v) = false := rfl
theorem still_nilck (a : A) : K.still (.nilck a) = true := rfl
theorem still_bin (op : BinOp) (eq : Option EqT) (lit : Bool) (x y : A) : K.still (.bin op eq lit x y) = true := rfl
theorem still_un (op : UnOp) (x : A) : K.still (.un op x) = true := rfl
theorem still_cvt (k : IntKind) (x : A) : K.still (.cvt k x) = true := rfl
theorem still_s2b (ty : Nat) (x : A) : K.still (.s2b ty x) = false := rfl
theorem still_b2s (x : A) : K.still (.b2s x) = true := rfl
theorem still_mkI (ty : Nat) (x : A) : K.still (.mkI ty x) = true := rfl
theorem still_mkF (f : Nat) (fs cs : List A) : K.still (.mkF f fs cs) = true := rfl
theorem still_mkMap  : K.still (.mkMap ) = false := rfl
theorem still_mkSlice (ty bytes : Nat) (z : List V) (len cap : A) : K.still (.mkSlice ty bytes z len cap) = false := rfl
theorem still_slS (x : A) (lo hi : Option A) : K.still (.slS x lo hi) = true := rfl
theorem still_slL (size : Nat) (x : A) (lo hi mx : Option A) : K.still (.slL size x lo hi mx) = true := rfl
theorem still_fadr (off : Nat) (x : A) : K.still (.fadr off x) = true := rfl
theorem still_iadrL (size : Nat) (x i : A) : K.still (.iadrL size x i) = true := rfl
theorem still_iadrA (len size : Nat) (x i : A) : K.still (.iadrA len size x i) = true := rfl
theorem still_fld (off size : Nat) (agg : Bool) (x : A) : K.still (.fld off size agg x) = true := rfl
theorem still_idxA (len size : Nat) (agg : Bool) (x i : A) : K.still (.idxA len size agg x i) = true := rfl
theorem still_idxS (x i : A) : K.still (.idxS x i) = true := rfl
theorem still_lookup (kt : EqT) (z : V) (ok : Bool) (m k : A) : K.still (.lookup kt z ok m k) = true := rfl
theorem still_mapUpd (kt : EqT) (m k v : A) : K.still (.mapUpd kt m k v) = false := rfl
theorem still_mapDel (kt : EqT) (m k : A) : K.still (.mapDel kt m k) = false := rfl
theorem still_rng (isStr : Bool) (x : A) : K.still (.rng isStr x) = false := rfl
theorem still_next (isStr : Bool) (x : A) : K.still (.next isStr x) = false := rfl
theorem still_entry (x : A) : K.still (.entry x) = true := rfl
theorem still_extract (x : A) (i : Nat) : K.still (.extract x i) = true := rfl
theorem still_lenS (x : A) : K.still (.lenS x) = true := rfl
theorem still_lenL (x : A) : K.still (.lenL x) = true := rfl
theorem still_lenM (x : A) : K.still (.lenM x) = true := rfl
theorem still_app (ty size bytes : Nat) (s x : A) : K.still (.app ty size bytes s x) = false := rfl
theorem still_copy (size : Nat) (d s : A) : K.still (.copy size d s) = false := rfl
theorem still_minmax (mx : Bool) (xs : List A) : K.still (.minmax mx xs) = true := rfl
theorem still_call (f : A) (args : List A) : K.still (.call f args) = false := rfl
theorem still_bad  : K.still (.bad ) = false := rfl
theorem still_slA (n size : Nat) (x : A) (lo hi mx : Option A) : K.still (.slA n size x lo hi mx) = true := rfl
theorem still_capL (x : A) : K.still (.capL x) = true := rfl
theorem still_appZ (ty size bytes : Nat) (z : List V) (s x : A) : K.still (.appZ ty size bytes z s x) = false := rfl
theorem still_i2s (x : A) : K.still (.i2s x) = true := rfl
theorem still_sid (x : A) : K.still (.sid x) = true := rfl
theorem still_same (x : A) : K.still (.same x) = false := rfl
theorem still_p2u (x : A) : K.still (.p2u x) = true := rfl
theorem still_u2p (u : Nat) (x : A) : K.still (.u2p u x) = true := rfl
theorem still_usd (x : A) : K.still (.usd x) = true := rfl
theorem still_ustr (u : Nat) (x n : A) : K.still (.ustr u x n) = false := rfl
theorem still_mkNZ (ty : Nat) (x : A) : K.still (.mkNZ ty x) = false := rfl
theorem still_tass (ty : Nat) (z : V) (ok : Bool) (x : A) : K.still (.tass ty z ok x) = true := rfl
theorem still_inv (name : String) (x : A) (args : List A) : K.still (.inv name x args) = false := rfl
theorem XDQ_nil : XDQ P E ro L S Q h0 [] [] ρ h = X P E ro L S ρ h Q := by simp only [XDQ]
theorem XDQ_cons (dst : Option Nat) (k : AM.K) (g : Option (Nat × Bool)) (pre : Nat) (ns : List Nat) :
  XDQ P E ro L S Q h0 (f :: fs) (⟨dst,k,g,pre,ns⟩ :: r) ρ h = if wantV (toL L ρ) g then
   (if k.still then XSQ P E ro L S Q h0 fs dst r ρ h (evK P (toL L ρ) (if f then h else h0) k) else XAQ P E ro L S Q h0 fs dst r ρ h (evK P (toL L ρ) h k))
   else XDQ P E ro L S Q h0 fs r (upo ρ dst undefV) h := by
 simp only [XDQ]
 split
 ·split
  ·cases evK P (toL L ρ) (if f then h else h0) k with
   | none => rfl
   | some x => cases x <;> rfl
  ·cases evK P (toL L ρ) h k with
   | none => rfl
   | some x => cases x <;> rfl
 ·rfl
theorem XSQ_pur (dst : Option Nat) (v : V) : XSQ P E ro L S Q h0 fs dst r ρ h (some (.pur v)) = XDQ P E ro L S Q h0 fs r (upo ρ dst v) h := rfl
theorem XSQ_rd (dst : Option Nat) (v : V) : XSQ P E ro L S Q h0 fs dst r ρ h (some (.rd v)) = (v.nj = true ∧ XDQ P E ro L S Q h0 fs r (upo ρ dst v) h) := rfl
theorem XAQ_eff (dst : Option Nat) (v : V) (h' : H) : XAQ P E ro L S Q h0 fs dst r ρ h (some (.eff v h')) = (Kp h h' ∧ XDQ P E ro L S Q h0 fs r (upo ρ dst v) h') := rfl
theorem XAQ_call (dst : Option Nat) (g : V) (args : List V) : XAQ P E ro L S Q h0 fs dst r ρ h (some (.call g args)) = XCQ P E ro L S Q h0 fs g args dst r ρ h := rfl
theorem XCQ_of {g : V} {args : List V} {R : V → H → Prop} (s : Sp P E g args h R) {dst : Option Nat} (hk : ∀ v h',R v h' → Kp h h' ∧ XDQ P E ro L S Q h0 fs r (upo ρ dst v) h') : XCQ P E ro L S Q h0 fs g args dst r ρ h := by
 obtain ⟨v,h',e,q⟩ := s
 exact ⟨v,h',e,hk v h' q⟩
end
end Go.AM
namespace Go.AM
def byt (b : UInt8) : V := .int .u8 b.toNat
def bytes (s : List UInt8) : List V := s.map byt
theorem bytes_len (s : List UInt8) : (bytes s).length = s.length := by simp [bytes]
theorem bounds_hi {len cap : Nat} {k : IntKind} {a : Int} (h : 0 ≤ a ∧ a ≤ (cap : Int)) : boundsV len cap none (some (.int k a)) none = some (0,a.toNat,cap) := by
 unfold boundsV; simp only [boundV,h,and_self,if_true]
theorem bounds_lo {len cap : Nat} {k : IntKind} {a : Int} (h : 0 ≤ a ∧ a ≤ (len : Int)) : boundsV len cap (some (.int k a)) none none = some (a.toNat,len,cap) := by
 unfold boundsV; simp only [boundV,h,and_self,if_true]
theorem bounds_both {len cap : Nat} {k k' : IntKind} {a b : Int} (h : 0 ≤ b ∧ b ≤ (cap : Int)) (h' : 0 ≤ a ∧ a ≤ ((b.toNat : Nat) : Int)) : boundsV len cap (some (.int k a)) (some (.int k' b)) none = some (a.toNat,b.toNat,cap) := by
 unfold boundsV; simp only [boundV,h,h',and_self,if_true]
def Buf (h : H) (lo : Nat) (v : V) (s : List UInt8) : Prop :=
 (v = .slice none 0 0 false ∧ s = []) ∨ ∃ b r,v = .slice (some (b,0)) s.length (s.length + r.length) true ∧ (lo ≤ b ∧ 0 < s.length + r.length) ∧ h.get b = some (.cells (bytes s ++ r) 5 true false none)
theorem Buf.nil (h : H) (lo : Nat) : Buf h lo (.slice none 0 0 false) [] := .inl ⟨rfl,rfl⟩
theorem Buf.keep {h h' : H} {lo n : Nat} {v : V} {s : List UInt8} (a : Buf h lo v s) (hk : Kp h h') (hn : n ≤ lo) : Buf h' n v s := by
 rcases a with a | ⟨b,r,h1,h2,h3⟩
 ·exact .inl a
 ·exact .inr ⟨b,r,h1,⟨by omega,h2.2⟩,hk.of h3⟩
theorem Buf.other {h h' : H} {lo : Nat} {v : V} {s : List UInt8} (a : Buf h lo v s) (hk : ∀ b o ty r,h.get b = some (.cells r ty true o none) → h'.get b = h.get b) : Buf h' lo v s := by
 rcases a with a | ⟨b,r,h1,h2,h3⟩
 ·exact .inl a
 ·exact .inr ⟨b,r,h1,h2,by rw [hk _ _ _ _ h3]; exact h3⟩
def Frz (h h' : H) : Prop := ∀ i vs ty op ro f,h.get i = some (.cells vs ty op ro (some f)) → h'.get i = h.get i
theorem Frz.refl (h : H) : Frz h h := fun _ _ _ _ _ _ _ => rfl
theorem Frz.trans {a b c : H} (x : Frz a b) (y : Frz b c) : Frz a c := fun i vs ty op ro f hg => by
 have h1 := x i vs ty op ro f hg
 rw [y i vs ty op ro f (by rw [h1]; exact hg),h1]
theorem Frz.kp {h h' : H} (k : Kp h h') : Frz h h' := fun i vs ty op ro f hg => k.get i (H.get_lt hg)
theorem Frz.set {h : H} {b : Nat} {vs : List V} {ty : Nat} {op ro : Bool} (hg : h.get b = some (.cells vs ty op ro none)) (o : Obj) : Frz h (h.set b o) := fun i vs' ty' op' ro' f hi => by
 refine hset_other (H.get_lt hg) (fun e => ?_) o
 subst e; rw [hg] at hi; cases hi
theorem Buf.shape {h : H} {lo : Nat} {v : V} {s : List UInt8} (a : Buf h lo v s) : ∃ x c o,v = .slice x s.length c o := by
 rcases a with ⟨rfl,rfl⟩ | ⟨b,r,rfl,h2,h3⟩ <;> exact ⟨_,_,_,rfl⟩
theorem Buf.elems {h : H} {lo : Nat} {v : V} {s : List UInt8} (a : Buf h lo v s) : elemsV h 1 s.length v = some (bytes s) := by
 rcases a with ⟨rfl,rfl⟩ | ⟨b,r,rfl,h2,h3⟩
 ·simp [elemsV,bytes]
 ·cases s with
  | nil => simp [elemsV,bytes]
  | cons c s =>
   have h1 : ¬ (c :: s).length * 1 = 0 := by simp
   have h4 : 0 + (c :: s).length * 1 ≤ (bytes (c :: s) ++ r).length := by simp only [bytes_len,List.length_append]; omega
   simp only [elemsV,h1,if_false,h3,h4,if_true,Option.some.injEq]
   unfold getR
   rw [List.drop_zero,Nat.mul_one,List.take_left' (bytes_len _)]
theorem Buf.len {h : H} {lo : Nat} {v : V} {s : List UInt8} (a : Buf h lo v s) : lenV v = some s.length := by
 rcases a with ⟨rfl,rfl⟩ | ⟨b,r,rfl,h2,h3⟩ <;> rfl
def Bdv (h : H) (b : Nat) (v : V) (s : List UInt8) : Prop :=
 ∃ A,h.get b = some (.cells [A,v] 64 false false none) ∧ (A = .ptr none ∨ A = .ptr (some (b,0))) ∧ Buf h (b + 1) v s
def Bd (h : H) (b : Nat) (s : List UInt8) : Prop := ∃ v,Bdv h b v s
theorem Bdv.keep {h h' : H} {b : Nat} {v : V} {s : List UInt8} (a : Bdv h b v s) (hk : Kp h h') : Bdv h' b v s := by
 obtain ⟨A,h1,h2,h3⟩ := a
 exact ⟨A,hk.of h1,h2,h3.keep hk (Nat.le_refl _)⟩
theorem Bd.keep {h h' : H} {b : Nat} {s : List UInt8} (a : Bd h b s) (hk : Kp h h') : Bd h' b s := by
 obtain ⟨v,a⟩ := a
 exact ⟨v,a.keep hk⟩
theorem Bd.lt {h : H} {b : Nat} {s : List UInt8} (a : Bd h b s) : b < h.size := by
 obtain ⟨v,A,h1,h2,h3⟩ := a
 exact H.get_lt h1
theorem Bdv.new (h : H) : Bdv (h.psh (.cells [.ptr none,.slice none 0 0 false] 64 false false none)) h.size (.slice none 0 0 false) [] :=
 ⟨_,psh_same _ _,.inl rfl,.nil _ _⟩
section
variable (P : Program) (E : Env) (ro : Option Nat) (L : Nat) (S : List Fr) (Q : Po) (lo : Nat) (h0 : H)
def RdK (P : Program) (lo : Nat) (T : List V) (h : H) (k : AM.K) (v : V) : Prop := ∀ h',Keeps lo h h' → evK P T h' k = some (.rd v)
def XDK : List Bool → List O → (Nat → V) → H → Prop
 | f :: fs,o :: r,ρ,h =>
  if wantV (toL L ρ) o.guard then
   if o.op.still then match evK P (toL L ρ) (if f then h else h0) o.op with
    | some (.pur v) => XDK fs r (upo ρ o.dst v) h
    | some (.rd v) => v.nj = true ∧ RdK P lo (toL L ρ) (if f then h else h0) o.op v ∧ XDK fs r (upo ρ o.dst v) h
    | _ => False
   else match evK P (toL L ρ) h o.op with
    | some (.eff v h') => Keeps lo h h' ∧ XDK fs r (upo ρ o.dst v) h'
    | some (.call g args) => ∃ v h',AP P E g args h = some (v,h') ∧ Keeps lo h h' ∧ XDK fs r (upo ρ o.dst v) h'
    | _ => False
  else XDK fs r (upo ρ o.dst undefV) h
 | _,_,ρ,h => X P E ro L S ρ h Q
end
variable {P : Program} {E : Env} {ro : Option Nat} {L : Nat} {S : List Fr} {Q : Po} {lo : Nat} {h0 : H}
def EntsK (P : Program) (lo : Nat) (h0 : H) : List Bool → List O → List Ent → Prop
 | f :: fs,o :: r,e :: es => (e.act = true → Keeps lo e.h e.h') ∧ (e.rd = true → e.v.nj = true ∧ RdK P lo e.T (if f then e.h else h0) o.op e.v) ∧ EntsK P lo h0 fs r es
 | _,_,_ => True
theorem XDK_ents : ∀ (fs : List Bool) (ops : List O) (ρ : Nat → V) (h : H),fs.length = ops.length → Keeps lo h0 h → XDK P E ro L S Q lo h0 fs ops ρ h →
  ∃ es T' h',evDr P (AP P E) ops (toL L ρ) h = some (es,T',h') ∧ EntsK P lo h0 fs ops es ∧ XX P E ro S .nrm T' h' Q
 | [],[],ρ,h,_,_,hx => ⟨[],toL L ρ,h,rfl,trivial,by simpa only [XDK,X] using hx⟩
 | [],_ :: _,_,_,hl,_,_ => by simp at hl
 | _ :: _,[],_,_,hl,_,_ => by simp at hl
 | f :: fs,o :: r,ρ,h,hl,hk,hx => by
  have one : ∀ (ent : Ent) (v : V) (h1 : H),(ent.act = true → Keeps lo ent.h ent.h') → (ent.rd = true → ent.v.nj = true ∧ RdK P lo ent.T (if f then ent.h else h0) o.op ent.v) → Keeps lo h0 h1 → XDK P E ro L S Q lo h0 fs r (upo ρ o.dst v) h1 →
    ∃ es T' h',((evDr P (AP P E) r (putV (toL L ρ) o.dst v) h1).map fun x => (ent :: x.1,x.2)) = some (es,T',h') ∧ EntsK P lo h0 (f :: fs) (o :: r) es ∧ XX P E ro S .nrm T' h' Q := by
   intro ent v h1 a1 a2 a3 a4
   obtain ⟨es,T',h',e1,e2,e3⟩ := XDK_ents fs r _ h1 (by simpa using hl) a3 a4
   exact ⟨ent :: es,T',h',by rw [putV_upo,e1]; rfl,⟨a1,a2,e2⟩,e3⟩
  unfold XDK at hx
  simp only [evDr]
  split at hx
  ·rename_i hw
   simp only [hw,if_true]
   split at hx
   ·split at hx
    ·rename_i v he
     have he' : evK P (toL L ρ) h o.op = some (.pur v) := by
      cases f with
      | true => simpa using he
      | false => simp only [Bool.false_eq_true,if_false] at he; exact evK_pur he
     rw [he']
     exact one ⟨toL L ρ,h,h,v,false,false⟩ v h (by simp) (by simp) hk hx
    ·rename_i v he
     have he' : evK P (toL L ρ) h o.op = some (.rd v) := by
      cases f with
      | true => simpa using he
      | false => exact hx.2.1 h hk
     rw [he']
     exact one ⟨toL L ρ,h,h,v,false,true⟩ v h (by simp) (fun _ => ⟨hx.1,hx.2.1⟩) hk hx.2.2
    ·exact hx.elim
   ·split at hx
    ·rename_i v h' he
     rw [he]
     exact one ⟨toL L ρ,h,h',v,true,false⟩ v h' (fun _ => hx.1) (by simp) (hk.trans hx.1) hx.2
    ·rename_i g args he
     rw [he]
     obtain ⟨v,h',ha,hk2,hx⟩ := hx
     simp only [ha]
     exact one ⟨toL L ρ,h,h',v,true,false⟩ v h' (fun _ => hk2) (by simp) (hk.trans hk2) hx
    ·exact hx.elim
  ·rename_i hw
   simp only [hw]
   exact one ⟨toL L ρ,h,h,undefV,false,false⟩ undefV h (by simp) (by simp) hk hx
theorem EntsK_get : ∀ (fs : List Bool) (ops : List O) (es : List Ent),EntsK P lo h0 fs ops es → ∀ (i : Nat) f o e,fs[i]? = some f → ops[i]? = some o → es[i]? = some e →
  (e.act = true → Keeps lo e.h e.h') ∧ (e.rd = true → e.v.nj = true ∧ RdK P lo e.T (if f then e.h else h0) o.op e.v)
 | [],_,_,_,_,_,_,_,h,_,_ => by simp at h
 | _ :: _,[],_,_,_,_,_,_,_,h,_ => by simp at h
 | _ :: _,_ :: _,[],_,_,_,_,_,_,_,h => by simp at h
 | f :: fs,o :: ops,e :: es,hq,i,f',o',e',h1,h2,h3 => by
  cases i with
  | zero => simp at h1 h2 h3; subst h1 h2 h3; exact ⟨hq.1,hq.2.1⟩
  | succ i => exact EntsK_get fs ops es hq.2.2 i f' o' e' (by simpa using h1) (by simpa using h2) (by simpa using h3)
theorem readsK {o : O} {e : Ent} {i : Nat} (hpre : (∀ h,Keeps lo h0 h → sameAt P o e h = true) ∨ ((∀ h,Keeps lo e.h h → sameAt P o e h = true) ∧ True)) (hna : e.act = false) : ∀ (ops : List O) (es : List Ent) (j : Nat) (h : H),
  (∀ e0,es[0]? = some e0 → e0.h = h) → (∀ (k : Nat) a b,es[k]? = some a → es[k + 1]? = some b → b.h = a.h') → (∀ (k : Nat) a,es[k]? = some a → a.act = false → a.h' = a.h) → (∀ (k : Nat) a,es[k]? = some a → a.act = true → Keeps lo a.h a.h') → es.length = ops.length →
  Keeps lo h0 h → (j ≤ i → es[i - j]? = some e) → (i < j → Keeps lo e.h h) →
  ((∀ h,Keeps lo h0 h → sameAt P o e h = true) ∨ ∀ (k : Nat) a,es[k]? = some a → a.act = true → j + k < i → o.pre.testBit (j + k) = true) →
  readsOk P o e i h (actsOf ops es j) = true
 | [],[],j,h,_,_,_,_,_,hk,h4,h5,_ => by
  have hji : i < j := by
   rcases Nat.lt_or_ge i j with h | h
   ·exact h
   ·have := h4 h; simp at this
  simp only [actsOf,readsOk]
  rcases hpre with hp | hp
  ·exact hp h hk
  ·exact hp.1 h (h5 hji)
 | [],_ :: _,_,_,_,_,_,_,hl,_,_,_,_ => by simp at hl
 | _ :: _,[],_,_,_,_,_,_,hl,_,_,_,_ => by simp at hl
 | o1 :: ops,e1 :: es,j,h,h1,h2,h3,h3',hl,hk,h4,h5,h6 => by
  have e1h := h1 e1 rfl
  have nxt : ∀ h',e1.h' = h' → Keeps lo h0 h' → (i < j + 1 → Keeps lo e.h h') → readsOk P o e i h' (actsOf ops es (j + 1)) = true := by
   intro h' hh hk' hlast
   refine readsK hpre hna ops es (j + 1) h' (fun e0 he0 => ?_) (fun k a b ha hb => h2 (k + 1) a b (by simpa using ha) (by simpa using hb)) (fun k a ha => h3 (k + 1) a (by simpa using ha)) (fun k a ha => h3' (k + 1) a (by simpa using ha)) (by simpa using hl) hk'
    (fun hj => ?_) hlast ?_
   ·rw [← hh]; exact h2 0 e1 e0 rfl (by simpa using he0)
   ·have := h4 (by omega)
    rw [show i - j = (i - (j + 1)) + 1 by omega] at this
    simpa using this
   ·rcases h6 with h6 | h6
    ·exact .inl h6
    ·refine .inr fun k a ha hact hlt => ?_
     have := h6 (k + 1) a (by simpa using ha) hact (by omega)
     rwa [show j + (k + 1) = j + 1 + k by omega] at this
  have heq : ∀ {x},j = i → e1 = x → x = e → True := fun _ _ _ => trivial
  unfold actsOf
  by_cases ha : e1.act = true
  ·simp only [ha,if_true,readsOk]
   have hkk : Keeps lo h e1.h' := by rw [← e1h]; exact h3' 0 e1 rfl ha
   have hne : j ≠ i := by
    intro hji
    have := h4 (by omega)
    rw [hji,Nat.sub_self] at this
    simp at this; subst this
    rw [hna] at ha; cases ha
   rw [nxt e1.h' rfl (hk.trans hkk) (fun hh => (h5 (by omega)).trans hkk)]
   simp only [Bool.or_true,Bool.and_true,Bool.or_eq_true]
   rcases h6 with h6 | h6
   ·exact .inr (h6 h hk)
   ·rcases Nat.lt_or_ge j i with hlt | hge
    ·exact .inl (.inl (by simpa using h6 0 e1 rfl ha (by omega)))
    ·rcases hpre with hp | hp
     ·exact .inr (hp h hk)
     ·exact .inr (hp.1 h (h5 (by omega)))
  ·have ha' : e1.act = false := by simpa using ha
   simp only [ha',Bool.false_eq_true,if_false]
   have hh := h3 0 e1 rfl ha'
   refine nxt h (hh.trans e1h) hk fun hji => ?_
   rcases Nat.lt_or_ge i j with hlt | hge
   ·exact h5 hlt
   ·have hij : i = j := by omega
    have := h4 hge
    rw [hij,Nat.sub_self] at this
    simp at this; subst this
    rw [e1h]; exact Keeps.refl _ _
theorem XD_keeps {ops : List O} {fs : List Bool} {ρ : Nat → V} (hf : flagsFrom [] ops 0 = fs) (hc : (chained fs ops && fstat ops) = true) (hx : XDK P E ro L S Q lo h0 fs ops ρ h0) : XD P E ro L ops S ρ h0 Q := by
 have hlen : fs.length = ops.length := by
  rw [← hf]
  have : ∀ (ops : List O) (acts : List Nat) (j : Nat),(flagsFrom acts ops j).length = ops.length := by
   intro ops
   induction ops with
   | nil => intro _ _; rfl
   | cons o r ih => intro _ _; simp [flagsFrom,ih]
  exact this _ _ _
 obtain ⟨es,T',h',he,hq,hX⟩ := XDK_ents fs ops ρ h0 hlen (Keeps.refl _ _) hx
 obtain ⟨e1,e2,e3,e4,e5⟩ := evDr_ents ops (toL L ρ) h0 es T' h' he
 refine ⟨T',h',?_,hX⟩
 have fget : ∀ (i : Nat) o,ops[i]? = some o → ∃ f,fs[i]? = some f ∧ (f = true → ∀ (k : Nat) o',k < i → ops[k]? = some o' → o'.op.still = false → o.pre.testBit k = true) := fun i o hi => by
  obtain ⟨f,h1,h2⟩ := flags_get ops [] 0 i o hi
  rw [hf] at h1
  refine ⟨f,h1,fun hft k o' hk ho' hs => ?_⟩
  have := (h2 hft).2 k o' hk ho' hs
  simpa using this
 have hkp : ∀ (k : Nat) a,es[k]? = some a → a.act = true → Keeps lo a.h a.h' := fun k a ha hact => by
  have hkl : k < ops.length := by rw [← e1]; exact (List.getElem?_eq_some_iff.1 ha).1
  obtain ⟨f,hf1,_⟩ := fget k ops[k] (List.getElem?_eq_getElem hkl)
  exact (EntsK_get fs ops es hq k f ops[k] a hf1 (List.getElem?_eq_getElem hkl) ha).1 hact
 rw [Bool.and_eq_true] at hc
 obtain ⟨hc,hfs⟩ := hc
 have hfl : floatOk (actsF ops es 0) ops = true := fstat_ok hfs fun k o e a1 a2 a3 => (e2 k e o a2 a1).1 a3
 have hch : chainF (actsF ops es 0) = true := chain_ok ops es 0 fun k l o o' a b a1 a2 a3 a4 a5 a6 a7 => by
  have hs := (e2 k a o a3 a1).1 a5
  have hs' := (e2 l b o' a4 a2).1 a6
  obtain ⟨f,hf1,hf2⟩ := fget l o' a2
  rw [Nat.zero_add]
  exact (chained_get fs ops hc l f o' hf1 a2 hs').elim (fun hft => .inr (hf2 hft k o a7 a1 hs)) .inl
 have hheap : ∀ (k : Nat) a,es[k]? = some a → Keeps lo h0 a.h := by
  intro k
  induction k with
  | zero => intro a ha; rw [e3 a ha]; exact Keeps.refl _ _
  | succ k ih =>
   intro a ha
   have hkl : k < es.length := by have := (List.getElem?_eq_some_iff.1 ha).1; omega
   have hb := ih es[k] (List.getElem?_eq_getElem hkl)
   rw [e4 k es[k] a (List.getElem?_eq_getElem hkl) ha]
   cases hact : es[k].act with
   | true => exact hb.trans (hkp k es[k] (List.getElem?_eq_getElem hkl) hact)
   | false => rw [e5 k es[k] (List.getElem?_eq_getElem hkl) hact]; exact hb
 have hrd : rdsOk P (actsOf ops es 0) h0 ops es 0 = true := rds_ok ops es 0 fun k o e a1 a2 a3 => by
  rw [Nat.zero_add]
  obtain ⟨q1,q2⟩ := (e2 k e o a2 a1).2 a3
  obtain ⟨f,hf1,hf2⟩ := fget k o a1
  obtain ⟨hnj,hor⟩ := (EntsK_get fs ops es hq k f o e hf1 a1 a2).2 a3
  have hsame : ∀ hh,evK P e.T hh o.op = some (.rd e.v) → sameAt P o e hh = true := fun hh hv => by
   unfold sameAt; rw [hv]; exact V.beq_refl _ hnj
  cases f with
  | true =>
   simp only [if_true] at hor
   refine readsK (lo := lo) (h0 := h0) (.inr ⟨fun hh hk => hsame hh (hor hh hk),trivial⟩) q2 ops es 0 h0 e3 e4 e5 hkp e1 (Keeps.refl _ _) (fun _ => by simpa using a2) (fun hh => by omega) (.inr fun l a b1 b3 b4 => ?_)
   rw [Nat.zero_add] at b4 ⊢
   have hll : l < ops.length := by rw [← e1]; exact (List.getElem?_eq_some_iff.1 b1).1
   exact hf2 rfl l ops[l] b4 (List.getElem?_eq_getElem hll) ((e2 l a ops[l] b1 (List.getElem?_eq_getElem hll)).1 b3)
  | false =>
   simp only [Bool.false_eq_true,if_false] at hor
   have hall : ∀ hh,Keeps lo h0 hh → sameAt P o e hh = true := fun hh hk => hsame hh (hor hh hk)
   exact readsK (lo := lo) (.inl hall) q2 ops es 0 h0 e3 e4 e5 hkp e1 (Keeps.refl _ _) (fun _ => by simpa using a2) (fun hh => by omega) (.inl hall)
 unfold evDraw
 rw [he]
 simp only [hch,hrd,hfl,Bool.and_self,Bool.or_true,if_true]
section
variable {ρ : Nat → V} {h : H} {f : Bool} {fs : List Bool} {r : List O}
def XSK (P : Program) (E : Env) (ro : Option Nat) (L : Nat) (S : List Fr) (Q : Po) (lo : Nat) (h0 : H) (fs : List Bool) (dst : Option Nat) (r : List O) (ρ : Nat → V) (h : H) (hr : H) (k : AM.K) : Option Res → Prop
 | some (.pur v) => XDK P E ro L S Q lo h0 fs r (upo ρ dst v) h
 | some (.rd v) => v.nj = true ∧ RdK P lo (toL L ρ) hr k v ∧ XDK P E ro L S Q lo h0 fs r (upo ρ dst v) h
 | _ => False
def XCK (P : Program) (E : Env) (ro : Option Nat) (L : Nat) (S : List Fr) (Q : Po) (lo : Nat) (h0 : H) (fs : List Bool) (g : V) (args : List V) (dst : Option Nat) (r : List O) (ρ : Nat → V) (h : H) : Prop :=
 ∃ v h',AP P E g args h = some (v,h') ∧ Keeps lo h h' ∧ XDK P E ro L S Q lo h0 fs r (upo ρ dst v) h'
def XAK (P : Program) (E : Env) (ro : Option Nat) (L : Nat) (S : List Fr) (Q : Po) (lo : Nat) (h0 : H) (fs : List Bool) (dst : Option Nat) (r : List O) (ρ : Nat → V) (h : H) : Option Res → Prop
 | some (.eff v h') => Keeps lo h h' ∧ XDK P E ro L S Q lo h0 fs r (upo ρ dst v) h'
 | some (.call g args) => XCK P E ro L S Q lo h0 fs g args dst r ρ h
 | _ => False
theorem XDK_nil : XDK P E ro L S Q lo h0 [] [] ρ h = X P E ro L S ρ h Q := by simp only [XDK]
theorem XDK_cons (dst : Option Nat) (k : AM.K) (g : Option (Nat × Bool)) (pre : Nat) (ns : List Nat) :
  XDK P E ro L S Q lo h0 (f :: fs) (⟨dst,k,g,pre,ns⟩ :: r) ρ h = if wantV (toL L ρ) g then (if k.still then XSK P E ro L S Q lo h0 fs dst r ρ h (if f then h else h0) k (evK P (toL L ρ) (if f then h else h0) k) else XAK P E ro L S Q lo h0 fs dst r ρ h (evK P (toL L ρ) h k)) else XDK P E ro L S Q lo h0 fs r (upo ρ dst undefV) h := by
 simp only [XDK]
 congr 1
theorem XSK_pur (dst : Option Nat) (hr : H) (k : AM.K) (v : V) : XSK P E ro L S Q lo h0 fs dst r ρ h hr k (some (.pur v)) = XDK P E ro L S Q lo h0 fs r (upo ρ dst v) h := rfl
theorem XSK_rd (dst : Option Nat) (hr : H) (k : AM.K) (v : V) : XSK P E ro L S Q lo h0 fs dst r ρ h hr k (some (.rd v)) = (v.nj = true ∧ RdK P lo (toL L ρ) hr k v ∧ XDK P E ro L S Q lo h0 fs r (upo ρ dst v) h) := rfl
theorem XAK_eff (dst : Option Nat) (v : V) (h' : H) : XAK P E ro L S Q lo h0 fs dst r ρ h (some (.eff v h')) = (Keeps lo h h' ∧ XDK P E ro L S Q lo h0 fs r (upo ρ dst v) h') := rfl
theorem XAK_call (dst : Option Nat) (g : V) (args : List V) : XAK P E ro L S Q lo h0 fs dst r ρ h (some (.call g args)) = XCK P E ro L S Q lo h0 fs g args dst r ρ h := rfl
theorem XCK_of {g : V} {args : List V} {R : V → H → Prop} (s : Sp P E g args h R) {dst : Option Nat} (hk : ∀ v h',R v h' → Keeps lo h h' ∧ XDK P E ro L S Q lo h0 fs r (upo ρ dst v) h') : XCK P E ro L S Q lo h0 fs g args dst r ρ h := by
 obtain ⟨v,h',e,q⟩ := s
 exact ⟨v,h',e,(hk v h' q).1,(hk v h' q).2⟩
theorem RdK.load1 {T : List V} {a : A} {i o : Nat} {vs : List V} {ty : Nat} {op ro : Bool} {fz : Option Nat} {v : V} (ha : a.ev T = some (.ptr (some (i,o)))) (hi : i < lo) (hg : h.get i = some (.cells vs ty op ro fz)) (hv : vs[o]? = some v) : RdK P lo T h (.load1 a) v := by
 intro h' hk
 simp only [evK,ha,hk.get i hi,hg,hv,Option.map_some]
end
end Go.AM
namespace Go.AM
def ptrLt (lo : Nat) : Option V → Prop
 | some (.ptr (some (i,_))) => i < lo
 | _ => False
def rdLo (lo : Nat) (T : List V) : AM.K → Prop
 | .load1 a => ptrLt lo (a.ev T)
 | .loadN _ a => ptrLt lo (a.ev T)
 | _ => False
theorem ptrLt_mk (lo i o : Nat) : ptrLt lo (some (.ptr (some (i,o)))) = (i < lo) := rfl
theorem rdLo_load1 (lo : Nat) (T : List V) (a : A) : rdLo lo T (.load1 a) = ptrLt lo (a.ev T) := rfl
theorem rdLo_loadN (lo n : Nat) (T : List V) (a : A) : rdLo lo T (.loadN n a) = ptrLt lo (a.ev T) := rfl
section
variable (P : Program) (E : Env) (ro : Option Nat) (L : Nat) (S : List Fr) (Q : Po) (lo : Nat) (h0 : H)
def XDJ : List Bool → List O → (Nat → V) → H → Prop
 | f :: fs,o :: r,ρ,h =>
  if wantV (toL L ρ) o.guard then
   if o.op.still then match evK P (toL L ρ) (if f then h else h0) o.op with
    | some (.pur v) => XDJ fs r (upo ρ o.dst v) h
    | some (.rd v) => v.nj = true ∧ rdLo lo (toL L ρ) o.op ∧ XDJ fs r (upo ρ o.dst v) h
    | _ => False
   else match evK P (toL L ρ) h o.op with
    | some (.eff v h') => Keeps lo h h' ∧ XDJ fs r (upo ρ o.dst v) h'
    | some (.call g args) => ∃ v h',AP P E g args h = some (v,h') ∧ Keeps lo h h' ∧ XDJ fs r (upo ρ o.dst v) h'
    | _ => False
  else XDJ fs r (upo ρ o.dst undefV) h
 | _,_,ρ,h => X P E ro L S ρ h Q
end
variable {P : Program} {E : Env} {ro : Option Nat} {L : Nat} {S : List Fr} {Q : Po} {lo : Nat} {h0 : H}
section
variable {ρ : Nat → V} {h : H} {f : Bool} {fs : List Bool} {r : List O}
def XSJ (P : Program) (E : Env) (ro : Option Nat) (L : Nat) (S : List Fr) (Q : Po) (lo : Nat) (h0 : H) (fs : List Bool) (dst : Option Nat) (r : List O) (ρ : Nat → V) (h : H) (k : AM.K) : Option Res → Prop
 | some (.pur v) => XDJ P E ro L S Q lo h0 fs r (upo ρ dst v) h
 | some (.rd v) => v.nj = true ∧ rdLo lo (toL L ρ) k ∧ XDJ P E ro L S Q lo h0 fs r (upo ρ dst v) h
 | _ => False
def XCJ (P : Program) (E : Env) (ro : Option Nat) (L : Nat) (S : List Fr) (Q : Po) (lo : Nat) (h0 : H) (fs : List Bool) (g : V) (args : List V) (dst : Option Nat) (r : List O) (ρ : Nat → V) (h : H) : Prop :=
 ∃ v h',AP P E g args h = some (v,h') ∧ Keeps lo h h' ∧ XDJ P E ro L S Q lo h0 fs r (upo ρ dst v) h'
def XAJ (P : Program) (E : Env) (ro : Option Nat) (L : Nat) (S : List Fr) (Q : Po) (lo : Nat) (h0 : H) (fs : List Bool) (dst : Option Nat) (r : List O) (ρ : Nat → V) (h : H) : Option Res → Prop
 | some (.eff v h') => Keeps lo h h' ∧ XDJ P E ro L S Q lo h0 fs r (upo ρ dst v) h'
 | some (.call g args) => XCJ P E ro L S Q lo h0 fs g args dst r ρ h
 | _ => False
theorem XDJ_nil : XDJ P E ro L S Q lo h0 [] [] ρ h = X P E ro L S ρ h Q := by simp only [XDJ]
theorem XDJ_cons (dst : Option Nat) (k : AM.K) (g : Option (Nat × Bool)) (pre : Nat) (ns : List Nat) :
  XDJ P E ro L S Q lo h0 (f :: fs) (⟨dst,k,g,pre,ns⟩ :: r) ρ h = if wantV (toL L ρ) g then (if k.still then XSJ P E ro L S Q lo h0 fs dst r ρ h k (evK P (toL L ρ) (if f then h else h0) k) else XAJ P E ro L S Q lo h0 fs dst r ρ h (evK P (toL L ρ) h k)) else XDJ P E ro L S Q lo h0 fs r (upo ρ dst undefV) h := by
 simp only [XDJ]
 congr 1
theorem XSJ_pur (dst : Option Nat) (k : AM.K) (v : V) : XSJ P E ro L S Q lo h0 fs dst r ρ h k (some (.pur v)) = XDJ P E ro L S Q lo h0 fs r (upo ρ dst v) h := rfl
theorem XSJ_rd (dst : Option Nat) (k : AM.K) (v : V) : XSJ P E ro L S Q lo h0 fs dst r ρ h k (some (.rd v)) = (v.nj = true ∧ rdLo lo (toL L ρ) k ∧ XDJ P E ro L S Q lo h0 fs r (upo ρ dst v) h) := rfl
theorem XAJ_eff (dst : Option Nat) (v : V) (h' : H) : XAJ P E ro L S Q lo h0 fs dst r ρ h (some (.eff v h')) = (Keeps lo h h' ∧ XDJ P E ro L S Q lo h0 fs r (upo ρ dst v) h') := rfl
theorem XAJ_call (dst : Option Nat) (g : V) (args : List V) : XAJ P E ro L S Q lo h0 fs dst r ρ h (some (.call g args)) = XCJ P E ro L S Q lo h0 fs g args dst r ρ h := rfl
end
end Go.AM
namespace Go.AM
section
variable (P : Program) (E : Env) (ro : Option Nat) (L : Nat) (S : List Fr) (Q : Po)
def XDP : List Bool → List O → (Nat → V) → H → Prop
 | p :: ps,o :: r,ρ,h =>
  if wantV (toL L ρ) o.guard then
   if o.op.still then match evK P (toL L ρ) h o.op with
    | some (.pur v) => XDP ps r (upo ρ o.dst v) h
    | some (.rd v) => v.nj = true ∧ p = true ∧ XDP ps r (upo ρ o.dst v) h
    | _ => False
   else match evK P (toL L ρ) h o.op with
    | some (.eff v h') => XDP ps r (upo ρ o.dst v) h'
    | some (.call g args) => ∃ v h',AP P E g args h = some (v,h') ∧ XDP ps r (upo ρ o.dst v) h'
    | _ => False
  else XDP ps r (upo ρ o.dst undefV) h
 | _,_,ρ,h => X P E ro L S ρ h Q
end
variable {P : Program} {E : Env} {ro : Option Nat} {L : Nat} {S : List Fr} {Q : Po}
section
variable {ρ : Nat → V} {h : H} {p : Bool} {ps : List Bool} {r : List O}
def XSP (P : Program) (E : Env) (ro : Option Nat) (L : Nat) (S : List Fr) (Q : Po) (p : Bool) (ps : List Bool) (dst : Option Nat) (r : List O) (ρ : Nat → V) (h : H) : Option Res → Prop
 | some (.pur v) => XDP P E ro L S Q ps r (upo ρ dst v) h
 | some (.rd v) => v.nj = true ∧ p = true ∧ XDP P E ro L S Q ps r (upo ρ dst v) h
 | _ => False
def XCP (P : Program) (E : Env) (ro : Option Nat) (L : Nat) (S : List Fr) (Q : Po) (ps : List Bool) (g : V) (args : List V) (dst : Option Nat) (r : List O) (ρ : Nat → V) (h : H) : Prop :=
 ∃ v h',AP P E g args h = some (v,h') ∧ XDP P E ro L S Q ps r (upo ρ dst v) h'
def XAP (P : Program) (E : Env) (ro : Option Nat) (L : Nat) (S : List Fr) (Q : Po) (ps : List Bool) (dst : Option Nat) (r : List O) (ρ : Nat → V) (h : H) : Option Res → Prop
 | some (.eff v h') => XDP P E ro L S Q ps r (upo ρ dst v) h'
 | some (.call g args) => XCP P E ro L S Q ps g args dst r ρ h
 | _ => False
theorem XDP_nil : XDP P E ro L S Q [] [] ρ h = X P E ro L S ρ h Q := by simp only [XDP]
theorem XDP_cons (dst : Option Nat) (k : AM.K) (g : Option (Nat × Bool)) (pre : Nat) (ns : List Nat) :
  XDP P E ro L S Q (p :: ps) (⟨dst,k,g,pre,ns⟩ :: r) ρ h = if wantV (toL L ρ) g then (if k.still then XSP P E ro L S Q p ps dst r ρ h (evK P (toL L ρ) h k) else XAP P E ro L S Q ps dst r ρ h (evK P (toL L ρ) h k)) else XDP P E ro L S Q ps r (upo ρ dst undefV) h := by
 simp only [XDP]
 congr 1
theorem XSP_pur (p : Bool) (dst : Option Nat) (v : V) : XSP P E ro L S Q p ps dst r ρ h (some (.pur v)) = XDP P E ro L S Q ps r (upo ρ dst v) h := rfl
theorem XSP_rd (dst : Option Nat) (v : V) : XSP P E ro L S Q p ps dst r ρ h (some (.rd v)) = (v.nj = true ∧ p = true ∧ XDP P E ro L S Q ps r (upo ρ dst v) h) := rfl
theorem XAP_eff (dst : Option Nat) (v : V) (h' : H) : XAP P E ro L S Q ps dst r ρ h (some (.eff v h')) = XDP P E ro L S Q ps r (upo ρ dst v) h' := rfl
theorem XAP_call (dst : Option Nat) (g : V) (args : List V) : XAP P E ro L S Q ps dst r ρ h (some (.call g args)) = XCP P E ro L S Q ps g args dst r ρ h := rfl
end
end Go.AM
namespace Go.AM
variable {P : Program}
structure Grew (w w' : World) : Prop where
 heap : ∃ os : Array Go.Obj,w'.heap = w.heap ++ os
 os : w'.os = w.os
 output : w'.output = w.output
 tape : w'.tape = w.tape
 drawn : w.drawn ≤ w'.drawn
theorem Grew.of_grow (w : World) (k : Nat) (os : Array Go.Obj) : Grew w (Go.Sort.grow (w.drewN k) os) := ⟨⟨os,rfl⟩,rfl,rfl,rfl,Nat.le_add_right _ _⟩
theorem HR.grew {m : Mp} {h : H} {w w' : World} (hr : HR P m h w) (hg : Grew w w') : HR P m h w' ∧ Ext m h w m h w' := by
 obtain ⟨os,ho⟩ := hg.heap
 have hget : ∀ b,b < w.heap.size → w'.heap[b]? = w.heap[b]? := fun b hb => by
  rw [ho,Array.getElem?_append_left hb]
 have hws : w.heap.size ≤ w'.heap.size := by rw [ho]; simp
 refine ⟨⟨hr.ok,hr.dom,hr.glob,fun i r sh e hm => ?_,fun i o hg hl => ?_,hr.inj⟩,?_⟩
 ·have := hr.blk i r sh e hm; omega
 ·obtain ⟨r,sh,e,ob',h1,h2,h3⟩ := hr.obj i o hg hl
  exact ⟨r,sh,e,ob',h1,by rw [hget r (hr.blk i r sh e h1)]; exact h2,h3⟩
 ·exact ⟨Sub.refl m,Nat.le_refl _,hws,fun b hb _ => hget b hb,fun _ _ h => h,hg.os,hg.output,hg.tape,fun _ _ h => h⟩
theorem VRL_ints_eq {m : Mp} {k : IntKind} : ∀ {zs : List Int} {xs : List Value},VRL m (ints k zs) xs → xs = zs.map fun z => Value.int k z
 | [],xs,h => by
  cases xs with
  | nil => rfl
  | cons a b => cases h
 | z :: zs,xs,h => by
  obtain ⟨y,ys,h1,h2,h3⟩ := h
  cases h1
  subst h3
  rw [VRL_ints_eq (zs := zs) h2]; rfl
theorem tab_of_HR {m : Mp} {h : H} {w : World} {g ty : Nat} {k : IntKind} {zs : List Int} {name : String} (hr : HR P m h w) (hg : h.get g = some (.cells (ints k zs) ty false true none)) (hn : P.globalNamed name = some g) (hlt : g < P.globals.size) : Lib.TabIs P w name k zs := by
 obtain ⟨r,sh,e,ob,h1,h2,h3⟩ := hr.obj g _ hg rfl
 have := hr.glob g hlt
 rw [h1] at this
 cases this
 obtain ⟨c,fzr,rfl,h4,h5,_⟩ := h3
 simp only [Bool.false_eq_true,if_false] at h5
 have hc : c.toList = zs.map fun z => Value.int k z := by
  have hl : c.toList.length = (ints k zs).length := by rw [Array.length_toList]; exact h5.2.2
  rw [List.drop_zero,List.take_of_length_le (by omega)] at h4
  exact VRL_ints_eq h4
 unfold Lib.TabIs World.var?
 rw [hn]
 simp only [Option.bind_some,h2]
 rw [← hc,Array.toArray_toList]
def Tb (g ty : Nat) (h : H) : Prop := h.get g = some (.cells (ints .u64 Lib.pow10Tab) ty false true none)
theorem Tb.keep {g ty : Nat} (h h' : H) (t : Tb g ty h) (hk : Keeps h.size h h') : Tb g ty h' := Kp.of hk t
open Classical in
noncomputable def fmt10P (g ty : Nat) : List V → H → Option (V × H) := fun args h => match args with
 | [.int .i64 n,.int .i64 10] => if Tb g ty h ∧ -9223372036854775808 ≤ n ∧ n ≤ 9223372036854775807 then some (.str (Lib.itoa n),h) else none
 | _ => none
theorem post_str {m : Mp} {h : H} {w w' : World} {s : List UInt8} {e : Ending} (hr : HR P m h w) (he : e = .returned (.string ⟨s.toArray⟩)) (hg : Grew w w') : Post P m h w (.str s) h e w' := by
 obtain ⟨a,b⟩ := hr.grew hg
 exact ⟨m,_,he,rfl,a,b⟩
theorem fmt10_ok {g ty : Nat} {f : FuncId} (hn : P.globalNamed "internal/strconv.uint64pow10" = some g) (hlt : g < P.globals.size)
  (hc : ∀ (n : Int), -9223372036854775808 ≤ n → n ≤ 9223372036854775807 → ∀ w, Lib.TabIs P w "internal/strconv.uint64pow10" .u64 Lib.pow10Tab → Calls P f #[.int .i64 n, .int .i64 10] w fun e w' => e = .returned (.string ⟨(Lib.itoa n).toArray⟩) ∧ ∃ k os, w' = Go.Sort.grow (w.drewN k) os)
  {args : List V} {h : H} {v : V} {h' : H} {m : Mp} {w : World} {xs : List Value} (he : fmt10P g ty args h = some (v,h')) (hr : HR P m h w) (hx : VRL m args xs) (n : Nat) : CallsIn (FF none) n P f xs.toArray w (Post P m h w v h') := by
 unfold fmt10P at he
 split at he
 ·rename_i z
  split at he
  ·rename_i hc2
   cases he
   obtain ⟨y,ys,h1,⟨y2,ys2,h3,h4,rfl⟩,rfl⟩ := hx
   cases h1
   cases h3
   cases ys2 with
   | cons a b => cases h4
   | nil =>
    refine callsIn_wide.2 ((hc z hc2.2.1 hc2.2.2 w (tab_of_HR hr hc2.1 hn hlt)).mono fun e w' ⟨q1,k,os,q2⟩ => ?_)
    exact post_str hr q1 (by rw [q2]; exact Grew.of_grow _ _ _)
  ·cases he
 ·cases he
abbrev om (d s p : Nat) : O := ⟨some d,.mv (.t s),none,p,[d,s]⟩
abbrev og (d s g p : Nat) : O := ⟨some d,.mv (.t s),some (g,true),p,[d,g,s]⟩
abbrev oa (d n s p : Nat) : O := ⟨some d,.fadr n (.t s),none,p,[d,s]⟩
abbrev oag (d n s g p : Nat) : O := ⟨some d,.fadr n (.t s),some (g,true),p,[d,g,s]⟩
abbrev oaf (d n s g p : Nat) : O := ⟨some d,.fadr n (.t s),some (g,false),p,[d,g,s]⟩
abbrev ol (d s p : Nat) : O := ⟨some d,.load1 (.t s),none,p,[d,s]⟩
abbrev olg (d s g p : Nat) : O := ⟨some d,.load1 (.t s),some (g,true),p,[d,g,s]⟩
abbrev olf (d s g p : Nat) : O := ⟨some d,.load1 (.t s),some (g,false),p,[d,g,s]⟩
abbrev oN (d n s p : Nat) : O := ⟨some d,.loadN n (.t s),none,p,[d,s]⟩
abbrev oNg (d n s g p : Nat) : O := ⟨some d,.loadN n (.t s),some (g,true),p,[d,g,s]⟩
abbrev ox (d s i p : Nat) : O := ⟨some d,.extract (.t s) i,none,p,[d,s]⟩
abbrev oe (d s g p : Nat) : O := ⟨some d,.pick (.t g) (.t s) (.k (.bool false)),none,p,[d,g,s]⟩
abbrev oi (d n a i p : Nat) : O := ⟨some d,.iadrL n (.t a) (.t i),none,p,[d,a,i]⟩
abbrev oig (d n a i g p : Nat) : O := ⟨some d,.iadrL n (.t a) (.t i),some (g,true),p,[d,g,a,i]⟩
abbrev oL (d s p : Nat) : O := ⟨some d,.lenL (.t s),none,p,[d,s]⟩
abbrev oq (d a b g p : Nat) : O := ⟨some d,.bin .eql (some .int) false (.t a) (.t b),some (g,true),p,[d,g,a,b]⟩
abbrev op1 (d s p : Nat) : O := ⟨some d,.bin .add (some .int) true (.t s) (.k (.int .i64 1)),none,p,[d,s]⟩
abbrev olt (d a b p : Nat) : O := ⟨some d,.bin .lss (some .int) false (.t a) (.t b),none,p,[d,a,b]⟩
abbrev ono (d s p : Nat) : O := ⟨some d,.un .not (.t s),none,p,[d,s]⟩
abbrev ong (d s g p : Nat) : O := ⟨some d,.un .not (.t s),some (g,true),p,[d,g,s]⟩
abbrev ost (n a s p : Nat) : O := ⟨none,.store n (.t a) (.t s),none,p,[a,s]⟩
end Go.AM
