/- My own texts, laid for this claim. -/
import Derived.Test.YtelbgimbkfjabaaXJToXPrim4
set_option linter.unusedSimpArgs false
set_option linter.unusedVariables false
namespace Go.AM
variable {P : Program} {ap : Ap}
theorem ncR_mono {ops : List O} {s : St} {R R' : St → Prop} (hm : ∀ s,R s → R' s) (h : ncR P ap ops s R) : ncR P ap ops s R' := by
 unfold ncR at h ⊢
 split
 ·rename_i s' e
  rw [e] at h; exact hm _ h
 ·rename_i e
  rw [e] at h
  simp only at h
  split
  ·rename_i o rest
   simp only at h
   split
   ·rename_i x eop egd
    rw [eop,egd] at h
    simp only at h
    split
    ·rename_i l hl
     rw [hl] at h
     intro p hp
     have := h p hp
     split
     ·rename_i s' e'
      rw [e'] at this; exact hm _ this
     ·rename_i e'
      rw [e'] at this; exact this
    ·rename_i hl
     rw [hl] at h; exact h
   ·rename_i hne
    split at h
    ·rename_i x e1 e2
     exact (hne x e1 e2).elim
    ·exact h
  ·exact h
theorem nIter_mono {f : St → (Ex → St → Prop) → Prop} (hf : ∀ s R R',(∀ ex s,R ex s → R' ex s) → f s R → f s R') : ∀ (j : Nat) (s : St) (R R' : Ex → St → Prop),(∀ ex s,R ex s → R' ex s) → nIter f j s R → nIter f j s R'
 | 0,_,_,_,_,h => h
 | j + 1,s,R,R',hm,h => by
  unfold nIter at h ⊢
  refine hf s _ _ (fun ex s' hr => ?_) h
  cases ex with
  | nrm => exact nIter_mono hf j s' R R' hm hr
  | exit id => exact hm _ _ hr
  | ret => exact hm _ _ hr
theorem ncC_mono {k : Nat} {ro : Option Nat} : ∀ (c : C) (s : St) (R R' : Ex → St → Prop),(∀ ex s,R ex s → R' ex s) → ncC P ap k ro c s R → ncC P ap k ro c s R' := by
 intro c
 have det : ∀ (c : C) (s : St) (R R' : Ex → St → Prop),(∀ ex s,R ex s → R' ex s) → (match evC P ap k ro c s with | some (ex,s') => R ex s' | none => False) → (match evC P ap k ro c s with | some (ex,s') => R' ex s' | none => False) := by
  intro c s R R' hm h
  split at h
  ·exact hm _ _ h
  ·exact h
 induction c with
 | skip => exact det .skip
 | draw l => exact det (.draw l)
 | range f ps a b => exact det (.range f ps a b)
 | exit id => exact det (.exit id)
 | ret => exact det .ret
 | bad => exact det .bad
 | region l => intro s R R' hm h; exact ncR_mono (fun s => hm .nrm s) h
 | seq a b iha ihb =>
  intro s R R' hm h
  simp only [ncC] at h ⊢
  refine iha s _ _ (fun ex s' hr => ?_) h
  cases ex with
  | nrm => exact ihb s' R R' hm hr
  | exit id => exact hm _ _ hr
  | ret => exact hm _ _ hr
 | cond c a b iha ihb =>
  intro s R R' hm h
  simp only [ncC] at h ⊢
  split
  ·rename_i t e
   rw [e] at h
   simp only at h
   split
   ·rename_i ht
    rw [if_pos ht] at h
    exact iha s R R' hm h
   ·rename_i ht
    rw [if_neg ht] at h
    exact ihb s R R' hm h
  ·rename_i hne
   split at h
   ·rename_i t e; exact (hne _ e).elim
   ·exact h
 | block id b ih =>
  intro s R R' hm h
  simp only [ncC] at h ⊢
  refine ih s _ _ (fun ex s' hr => ?_) h
  cases ex with
  | nrm => exact hm _ _ hr
  | ret => exact hm _ _ hr
  | exit id' =>
   simp only at hr ⊢
   split
   ·rename_i hid
    rw [if_pos hid] at hr; exact hm _ _ hr
   ·rename_i hid
    rw [if_neg hid] at hr; exact hm _ _ hr
 | loop b ih =>
  intro s R R' hm h
  simp only [ncC] at h ⊢
  exact nIter_mono ih k s R R' hm h
def ncRB (P : Program) (ap : Ap) (ops : List O) (s : St) (R : St → Bool) : Bool := match evOs P ap ops s.1 s.2 with
 | some s' => R s'
 | none => match ops with
  | o :: rest => match o.op,o.guard with
   | .next false x,none => match nexts s.1 s.2 x with
    | some l => l.all fun p => match evOs P ap rest (putV s.1 o.dst p.1) p.2 with
     | some s' => R s'
     | none => false
    | none => false
   | _,_ => false
  | [] => false
def nIterB (f : St → (Ex → St → Bool) → Bool) : Nat → St → (Ex → St → Bool) → Bool
 | 0,_,_ => false
 | j + 1,s,R => f s fun ex s' => match ex with
  | .nrm => nIterB f j s' R
  | ex => R ex s'
def ncCB (P : Program) (ap : Ap) (k : Nat) (ro : Option Nat) : C → St → (Ex → St → Bool) → Bool
 | .seq a b,s,R => ncCB P ap k ro a s fun ex s' => match ex with
  | .nrm => ncCB P ap k ro b s' R
  | ex => R ex s'
 | .cond c a b,s,R => match c.ev s.1 with
  | some (.bool t) => if t then ncCB P ap k ro a s R else ncCB P ap k ro b s R
  | _ => false
 | .block id b,s,R => ncCB P ap k ro b s fun ex s' => match ex with
  | .exit id' => if id' = id then R .nrm s' else R (.exit id') s'
  | ex => R ex s'
 | .loop b,s,R => nIterB (ncCB P ap k ro b) k s R
 | .region ops,s,R => ncRB P ap ops s fun s' => R .nrm s'
 | c,s,R => match evC P ap k ro c s with
  | some (ex,s') => R ex s'
  | none => false
theorem ncRB_ok {ops : List O} {s : St} {R : St → Bool} (h : ncRB P ap ops s R = true) : ncR P ap ops s fun s => R s = true := by
 unfold ncRB at h
 unfold ncR
 split
 ·rename_i s' e
  rw [e] at h; exact h
 ·rename_i e
  rw [e] at h
  simp only at h
  split
  ·rename_i o rest
   simp only at h
   split
   ·rename_i x eop egd
    rw [eop,egd] at h
    simp only at h
    split
    ·rename_i l hl
     rw [hl] at h
     intro p hp
     have := List.all_eq_true.1 h p hp
     split
     ·rename_i s' e'
      rw [e'] at this; exact this
     ·rename_i e'
      rw [e'] at this; cases this
    ·rename_i hl
     rw [hl] at h; cases h
   ·rename_i hne
    split at h
    ·rename_i x e1 e2
     exact (hne x e1 e2).elim
    ·cases h
  ·cases h
theorem nIterB_ok {f : St → (Ex → St → Bool) → Bool} {g : St → (Ex → St → Prop) → Prop} (hf : ∀ s R,f s R = true → g s fun ex s => R ex s = true) (hg : ∀ s R R',(∀ ex s,R ex s → R' ex s) → g s R → g s R') :
  ∀ (j : Nat) (s : St) (R : Ex → St → Bool),nIterB f j s R = true → nIter g j s fun ex s => R ex s = true
 | 0,_,_,h => by cases h
 | j + 1,s,R,h => by
  unfold nIterB at h
  unfold nIter
  refine hg s _ _ (fun ex s' hr => ?_) (hf s _ h)
  cases ex with
  | nrm => exact nIterB_ok hf hg j s' R hr
  | exit id => exact hr
  | ret => exact hr
theorem ncCB_ok {k : Nat} {ro : Option Nat} : ∀ (c : C) (s : St) (R : Ex → St → Bool),ncCB P ap k ro c s R = true → ncC P ap k ro c s fun ex s => R ex s = true := by
 intro c
 have det : ∀ (c : C) (s : St) (R : Ex → St → Bool),(match evC P ap k ro c s with | some (ex,s') => R ex s' | none => false) = true → (match evC P ap k ro c s with | some (ex,s') => R ex s' = true | none => False) := by
  intro c s R h
  split at h
  ·exact h
  ·cases h
 induction c with
 | skip => exact det .skip
 | draw l => exact det (.draw l)
 | range f ps a b => exact det (.range f ps a b)
 | exit id => exact det (.exit id)
 | ret => exact det .ret
 | bad => exact det .bad
 | region l => intro s R h; exact ncRB_ok h
 | seq a b iha ihb =>
  intro s R h
  simp only [ncCB] at h
  simp only [ncC]
  refine ncC_mono a s _ _ (fun ex s' hr => ?_) (iha s _ h)
  cases ex with
  | nrm => exact ihb s' R hr
  | exit id => exact hr
  | ret => exact hr
 | cond c a b iha ihb =>
  intro s R h
  simp only [ncCB] at h
  simp only [ncC]
  split
  ·rename_i t e
   rw [e] at h
   simp only at h
   split
   ·rename_i ht
    rw [if_pos ht] at h
    exact iha s R h
   ·rename_i ht
    rw [if_neg ht] at h
    exact ihb s R h
  ·rename_i hne
   split at h
   ·rename_i t e; exact (hne _ e).elim
   ·cases h
 | block id b ih =>
  intro s R h
  simp only [ncCB] at h
  simp only [ncC]
  refine ncC_mono b s _ _ (fun ex s' hr => ?_) (ih s _ h)
  cases ex with
  | nrm => exact hr
  | ret => exact hr
  | exit id' =>
   simp only at hr ⊢
   split
   ·rename_i hid
    rw [if_pos hid] at hr; exact hr
   ·rename_i hid
    rw [if_neg hid] at hr; exact hr
 | loop b ih =>
  intro s R h
  simp only [ncCB] at h
  simp only [ncC]
  exact nIterB_ok ih (fun s R R' hm h => ncC_mono b s R R' hm h) k s R h
def ncFnB (P : Program) (ap : Ap) (k : Nat) (f : Fn) (args : List V) (h : H) (q : V → Bool) : Bool :=
 decide (args.length ≤ f.ntmps) && ncCB P ap k none f.body (args ++ List.replicate (f.ntmps - args.length) undefV,h) fun ex s' => (match ex with | .exit _ => false | _ => true) && match resVs s'.1 s'.2 f.results with
  | some vs => q (oneOr vs)
  | none => false
theorem ncFnB_ok {k : Nat} {f : Fn} {args : List V} {h : H} {q : V → Bool} (he : ncFnB P ap k f args h q = true) : ncFn P ap k f args h fun v _ => q v = true := by
 unfold ncFnB at he
 simp only [Bool.and_eq_true,decide_eq_true_eq] at he
 refine ⟨he.1,ncC_mono _ _ _ _ (fun ex s' hr => ?_) (ncCB_ok _ _ _ he.2)⟩
 simp only [Bool.and_eq_true] at hr
 obtain ⟨h1,h2⟩ := hr
 refine ⟨by cases ex <;> simp_all,?_⟩
 split at h2
 ·rename_i vs e
  rw [e]; exact h2
 ·cases h2
end Go.AM
