/- My own texts, laid for this claim. -/
import Derived.Test.YtelbgimbkfjabaaAu2ToAu3
set_option linter.unusedSimpArgs false
set_option linter.unusedVariables false
namespace Go.AM.Sc
open Go.AM
variable {P : Program} {E : Env}
set_option maxHeartbeats 1000000 in
theorem node43 (F : Fa E) {x y : TNode} {h : H} {d d' : DNode} (hx : NIn h x d) (hy : NIn h y d') :
  Sp P E (.func 43 [] []) [.agg x.cells,.agg y.cells] h fun r h' => r = .bool (decide (d = d')) ∧ Kp h h' := by
 have hg0 := psh_same h (.cells x.cells 67 false false none)
 have hk0 : Kp h (h.psh (.cells x.cells 67 false false none)) := Keeps.psh (Nat.le_refl _) _
 have hk1 : Kp (h.psh (.cells x.cells 67 false false none)) ((h.psh (.cells x.cells 67 false false none)).psh (.cells y.cells 67 false false none)) := Keeps.psh (Nat.le_refl _) _
 have gy := psh_same (h.psh (.cells x.cells 67 false false none)) (.cells y.cells 67 false false none)
 have gx := Kp.of hk1 hg0
 have kk := Kp.trans hk0 hk1
 refine Sp_fn F.f43 F.p43 (by simp [fn43]) ?_
 simp only [GR,evK,binV,intOp,strOp,shOp,unV,Nat.reduceLT,Nat.reduceEqDiff,Nat.reduceAdd,↓reduceIte,Nat.reduceLeDiff,reduceCtorEq,fn43,c43,r43_0]
 generalize (h.psh (.cells x.cells 67 false false none)).psh (.cells y.cells 67 false false none) = h2 at *
 generalize (h.psh (.cells x.cells 67 false false none)).size = B at *
 have sx := hx.attrs.keep kk
 have sy := hy.attrs.keep kk
 obtain ⟨a1,c1,o1,e1⟩ := sx.len
 obtain ⟨a2,c2,o2,e2⟩ := sy.len
 rw [List.length_map] at e1 e2
 have hl := hx.len
 have iff := dnode_iff hx hy
 by_cases n1 : x.node = y.node
 case neg =>
  have m1 : (x.node != y.node) = true := by simp [n1]
  simp only [GR,evK,binV,intOp,strOp,shOp,unV,Nat.reduceLT,Nat.reduceEqDiff,Nat.reduceAdd,↓reduceIte,Nat.reduceLeDiff,reduceCtorEq,r43_1,gx,gy,TNode.len,TNode.g0,TNode.g1,TNode.g2,TNode.g3,m1]
  exact ⟨by rw [decide_eq_false (fun e => n1 (iff.1 e).1)],kk⟩
 have m1 : (x.node != y.node) = false := by simp [n1]
 by_cases n2 : x.parent = y.parent
 case neg =>
  have m2 : (x.parent != y.parent) = true := by simp [n2]
  simp only [GR,evK,binV,intOp,strOp,shOp,unV,Nat.reduceLT,Nat.reduceEqDiff,Nat.reduceAdd,↓reduceIte,Nat.reduceLeDiff,reduceCtorEq,r43_1,gx,gy,TNode.len,TNode.g0,TNode.g1,TNode.g2,TNode.g3,m1,m2]
  exact ⟨by rw [decide_eq_false (fun e => n2 (iff.1 e).2.1)],kk⟩
 have m2 : (x.parent != y.parent) = false := by simp [n2]
 by_cases n3 : x.name = y.name
 case neg =>
  have m3 : (x.name != y.name) = true := by simp [n3]
  have m3' : (x.name == y.name) = false := by simp [n3]
  simp only [GR,evK,binV,intOp,strOp,shOp,unV,Nat.reduceLT,Nat.reduceEqDiff,Nat.reduceAdd,↓reduceIte,Nat.reduceLeDiff,reduceCtorEq,r43_1,gx,gy,TNode.len,TNode.g0,TNode.g1,TNode.g2,TNode.g3,m1,m2,m3,m3',Bool.not_false]
  exact ⟨by rw [decide_eq_false (fun e => n3 (iff.1 e).2.2.1)],kk⟩
 have m3 : (x.name != y.name) = false := by simp [n3]
 have m3' : (x.name == y.name) = true := by simp [n3]
 by_cases hlen : d.attrs.length = d'.attrs.length
 case neg =>
  have hd : decide (d.attrs.length = d'.attrs.length) = false := decide_eq_false hlen
  simp only [GR,evK,binV,intOp,strOp,shOp,unV,Nat.reduceLT,Nat.reduceEqDiff,Nat.reduceAdd,↓reduceIte,Nat.reduceLeDiff,reduceCtorEq,r43_1,gx,gy,TNode.len,TNode.g0,TNode.g1,TNode.g2,TNode.g3,m1,m2,m3,m3',Bool.not_true,e1,e2,eqlens,hd,Bool.not_false]
  exact ⟨by rw [decide_eq_false (fun e => hlen (by rw [e]))],kk⟩
 have hd : decide (d.attrs.length = d'.attrs.length) = true := decide_eq_true hlen
 have loop : ∀ (n k : Nat) (ρ : Nat → V),d.attrs.length - k = n → k ≤ d.attrs.length → ρ 2 = .ptr (some (h.size,0)) → ρ 3 = .ptr (some (B,0)) → ρ 5 = .int .i64 k → d.attrs.take k = d'.attrs.take k →
   XL P E none 52 b43_5 [.b 0,.c (.seq (.region [⟨some 4,.mv (.k (.bool true)),none,0,[4]⟩]) (.ret))] ρ h2 (Fin [.t 4] fun r h' => r = .bool (decide (d = d')) ∧ Kp h h') := by
  intro n
  induction n with
  | zero =>
   intro k ρ hn hk q2 q3 q5 ht
   have hke : ¬ k < d.attrs.length := by omega
   rw [List.take_of_length_le (by omega),List.take_of_length_le (by omega)] at ht
   rw [u43_5]
   simp only [GR,evK,binV,intOp,strOp,shOp,unV,Nat.reduceLT,Nat.reduceEqDiff,Nat.reduceAdd,↓reduceIte,Nat.reduceLeDiff,reduceCtorEq,r43_2,q2,q5,gx,TNode.len,TNode.g3,e1,Int.ofNat_lt,hke]
   exact ⟨by rw [decide_eq_true (iff.2 ⟨n1,n2,n3,ht⟩)],kk⟩
  | succ n ih =>
   intro k ρ hn hk q2 q3 q5 ht
   have hke : k < d.attrs.length := by omega
   have hky : k < d'.attrs.length := by omega
   obtain ⟨b,o,cap,opn,vs,ty,op,ro,fz,v1,hg,hll,he⟩ := sx.get (k := k) (x := d.attrs[k].cells) (by simp [hke])
   obtain ⟨b',o',cap',opn',vs',ty',op',ro',fz',w1,hg',hll',he'⟩ := sy.get (k := k) (x := d'.attrs[k].cells) (by simp [hky])
   rw [List.length_map] at v1 w1
   unfold getR at he he'
   have hw : IntKind.i64.wrap ((k : Int) + 1) = ((k + 1 : Nat) : Int) := wrap_nat (n := k + 1) (by omega)
   have heq := Attr.eqv h2 d.attrs[k] d'.attrs[k]
   by_cases hek : d.attrs[k] = d'.attrs[k]
   ·rw [decide_eq_true hek] at heq
    rw [u43_5]
    simp only [GR,evK,binV,intOp,strOp,shOp,unV,Nat.reduceLT,Nat.reduceEqDiff,Nat.reduceAdd,↓reduceIte,Nat.reduceLeDiff,reduceCtorEq,r43_2,q2,q5,gx,TNode.len,TNode.g3,v1,Int.ofNat_lt,hke]
    rw [X_draw,d43_3]
    simp only [GR,evK,binV,intOp,strOp,shOp,unV,Nat.reduceLT,Nat.reduceEqDiff,Nat.reduceAdd,↓reduceIte,Nat.reduceLeDiff,reduceCtorEq,r43_3,q2,q3,gx,gy,TNode.len,TNode.g3,v1,w1,q5,Int.ofNat_lt,hke,hky,hg,hg',hll,hll',he,he',Int.natCast_nonneg,Int.toNat_natCast,heq,Bool.not_true,r43_4,hw]
    exact ih (k + 1) _ (by omega) (by omega) q2 q3 rfl (take_succ hke hky ht hek)
   ·rw [decide_eq_false hek] at heq
    rw [u43_5]
    simp only [GR,evK,binV,intOp,strOp,shOp,unV,Nat.reduceLT,Nat.reduceEqDiff,Nat.reduceAdd,↓reduceIte,Nat.reduceLeDiff,reduceCtorEq,r43_2,q2,q5,gx,TNode.len,TNode.g3,v1,Int.ofNat_lt,hke]
    rw [X_draw,d43_3]
    simp only [GR,evK,binV,intOp,strOp,shOp,unV,Nat.reduceLT,Nat.reduceEqDiff,Nat.reduceAdd,↓reduceIte,Nat.reduceLeDiff,reduceCtorEq,r43_3,q2,q3,gx,gy,TNode.len,TNode.g3,v1,w1,q5,Int.ofNat_lt,hke,hky,hg,hg',hll,hll',he,he',Int.natCast_nonneg,Int.toNat_natCast,heq,Bool.not_false]
    exact ⟨by rw [decide_eq_false (fun e => by subst e; exact hek rfl)],kk⟩
 simp only [GR,evK,binV,intOp,strOp,shOp,unV,Nat.reduceLT,Nat.reduceEqDiff,Nat.reduceAdd,↓reduceIte,Nat.reduceLeDiff,reduceCtorEq,r43_1,gx,gy,TNode.len,TNode.g0,TNode.g1,TNode.g2,TNode.g3,m1,m2,m3,m3',Bool.not_true,e1,e2,eqlens,hd]
 exact loop _ 0 _ rfl (Nat.zero_le _) rfl rfl rfl rfl
set_option maxHeartbeats 1000000 in
theorem eql22 (F : Fa E) {v w : V} {xs ys : List (TNode × DNode)} {h0 : H} (hx : Sl h0 4 v (xs.map fun p => p.1.cells)) (hxd : ∀ p ∈ xs,NIn h0 p.1 p.2) (hy : Sl h0 4 w (ys.map fun p => p.1.cells)) (hyd : ∀ p ∈ ys,NIn h0 p.1 p.2) (hl : xs.length ≤ 1048576) :
  Sp P E (.func 22 [] []) [v,w] h0 fun r h' => r = .bool (decide (xs.map (·.2) = ys.map (·.2))) ∧ Kp h0 h' := by
 obtain ⟨a1,c1,o1,e1⟩ := hx.len
 obtain ⟨a2,c2,o2,e2⟩ := hy.len
 rw [List.length_map] at e1 e2
 refine Sp_fn F.f22 F.p22 (by simp [fn22]) ?_
 by_cases hlen : xs.length = ys.length
 ·have loop : ∀ (d k : Nat) (ρ : Nat → V) (h : H),xs.length - k = d → k ≤ xs.length → ρ 0 = v → ρ 1 = w → ρ 5 = .int .i64 k → (xs.map (·.2)).take k = (ys.map (·.2)).take k → Kp h0 h →
    XL P E none 27 b22_4 [.b 0,.c (.seq (.region [⟨some 4,.mv (.k (.bool true)),none,0,[4]⟩]) (.ret))] ρ h (Fin [.t 4] fun r h' => r = .bool (decide (xs.map (·.2) = ys.map (·.2))) ∧ Kp h0 h') := by
   intro d
   induction d with
   | zero =>
    intro k ρ h hd hk q0 q1 q5 ht hkp
    have hke : ¬ k < xs.length := by omega
    rw [List.take_of_length_le (by rw [List.length_map]; omega),List.take_of_length_le (by rw [List.length_map]; omega)] at ht
    rw [u22_4]
    simp only [GR,evK,binV,intOp,strOp,shOp,unV,Nat.reduceLT,Nat.reduceEqDiff,Nat.reduceAdd,↓reduceIte,Nat.reduceLeDiff,reduceCtorEq,r22_1,q0,e1,q5,Int.ofNat_lt,hke]
    simp [ht,hkp]
   | succ d ih =>
    intro k ρ h hd hk q0 q1 q5 ht hkp
    have hke : k < xs.length := by omega
    have hky : k < ys.length := by omega
    obtain ⟨b,o,cap,opn,vs,ty,op,ro,fz,v1,hg,hll,he⟩ := (hx.keep hkp).get (k := k) (x := xs[k].1.cells) (by simp [hke])
    obtain ⟨b',o',cap',opn',vs',ty',op',ro',fz',w1,hg',hll',he'⟩ := (hy.keep hkp).get (k := k) (x := ys[k].1.cells) (by simp [hky])
    rw [v1,List.length_map] at q0
    rw [w1,List.length_map] at q1
    have dx := (hxd _ (List.getElem_mem hke)).keep hkp
    have dy := (hyd _ (List.getElem_mem hky)).keep hkp
    unfold getR at he he'
    have hw : IntKind.i64.wrap ((k : Int) + 1) = ((k + 1 : Nat) : Int) := wrap_nat (n := k + 1) (by omega)
    have sp := node43 (P := P) F dx dy
    have njx := dx.nj
    have njy := dy.nj
    have hres : ∀ b,decide (xs[k].2 = ys[k].2) = b → b = false → xs.map (·.2) ≠ ys.map (·.2) := fun b hb hb2 e => by
     subst hb2
     have : (xs.map (·.2))[k]'(by simp [hke]) = (ys.map (·.2))[k]'(by simp [hky]) := by simp only [e]
     simp at this hb
     exact hb this
    generalize hxc : xs[k].1.cells = xc at *
    generalize hyc : ys[k].1.cells = yc at *
    rw [u22_4]
    simp only [GR,evK,binV,intOp,strOp,shOp,unV,Nat.reduceLT,Nat.reduceEqDiff,Nat.reduceAdd,↓reduceIte,Nat.reduceLeDiff,reduceCtorEq,r22_1,q5,q0,Int.ofNat_lt,hke]
    rw [X_draw]
    refine d22_2 ?_
    simp only [GR,evK,binV,intOp,strOp,shOp,unV,Nat.reduceLT,Nat.reduceEqDiff,Nat.reduceAdd,↓reduceIte,Nat.reduceLeDiff,reduceCtorEq,q0,q1,Int.ofNat_lt,hke,hky,r22_2,q5,hg,hg',hll,hll',he,he',Int.natCast_nonneg,Int.toNat_natCast,njx,njy]
    refine XCD_of sp ?_
    rintro _ h5 ⟨rfl,k5⟩
    by_cases hek : xs[k].2 = ys[k].2
    ·have hd2 : decide (xs[k].2 = ys[k].2) = true := decide_eq_true hek
     simp only [GR,evK,binV,intOp,strOp,shOp,unV,Nat.reduceLT,Nat.reduceEqDiff,Nat.reduceAdd,↓reduceIte,Nat.reduceLeDiff,reduceCtorEq,hd2,Bool.not_true,r22_3,q5,hw]
     refine ih (k + 1) _ h5 (by omega) (by omega) ?_ ?_ rfl (take_succ (by simp [hke]) (by simp [hky]) ht (by simp [hek])) (hkp.trans k5)
     ·rw [v1,List.length_map]; exact q0
     ·rw [w1,List.length_map]; exact q1
    ·have hd2 : decide (xs[k].2 = ys[k].2) = false := decide_eq_false hek
     have hne := hres _ hd2 rfl
     simp only [GR,evK,binV,intOp,strOp,shOp,unV,Nat.reduceLT,Nat.reduceEqDiff,Nat.reduceAdd,↓reduceIte,Nat.reduceLeDiff,reduceCtorEq,hd2,Bool.not_false]
     refine ⟨?_,hkp.trans k5⟩
     rw [decide_eq_false hne]
  have hd : decide (xs.length = ys.length) = true := decide_eq_true hlen
  simp only [GR,evK,binV,intOp,strOp,shOp,unV,Nat.reduceLT,Nat.reduceEqDiff,Nat.reduceAdd,↓reduceIte,Nat.reduceLeDiff,reduceCtorEq,fn22,c22,r22_0,e1,e2,eqlens,hd,Bool.not_true]
  exact loop _ 0 _ h0 rfl (Nat.zero_le _) e1.symm e2.symm rfl rfl (Keeps.refl _ _)
 ·have hne : xs.map (·.2) ≠ ys.map (·.2) := fun e => hlen (by have := congrArg List.length e; simpa using this)
  have hd : decide (xs.length = ys.length) = false := decide_eq_false hlen
  simp only [GR,evK,binV,intOp,strOp,shOp,unV,Nat.reduceLT,Nat.reduceEqDiff,Nat.reduceAdd,↓reduceIte,Nat.reduceLeDiff,reduceCtorEq,fn22,c22,r22_0,e1,e2,eqlens,hd,Bool.not_false]
  exact ⟨by rw [decide_eq_false hne],Keeps.refl _ _⟩
abbrev eqState (v w : WV) : Prop := v.x.booted = w.x.booted ∧ v.x.epoch = w.x.epoch ∧ v.x.clock = w.x.clock ∧ v.x.frontier = w.x.frontier ∧ v.x.vector = w.x.vector ∧ v.ns.map (·.2) = w.ns.map (·.2) ∧ v.rs = w.rs
set_option maxRecDepth 100000 in
theorem e40_all : r40_1 = a40_0 ++ (a40_1 ++ (a40_2 ++ (a40_3 ++ (a40_4 ++ (a40_5 ++ (a40_6)))))) := rfl
theorem s40_0 {P : Program} {E : Env} {K : List Fr} {Q : Po} {x y : View} {ρ : Nat → V} {h : H} {bx bz : Nat} {rest : List O} (hx : h.get bx = some (.cells x.cells 63 false false none)) (hy : h.get bz = some (.cells y.cells 63 false false none)) (h2 : ρ 2 = .ptr (some (bx,0))) (h3 : ρ 3 = .ptr (some (bz,0))) (hk : ∀ (ρ' : Nat → V),ρ' 2 = .ptr (some (bx,0)) → ρ' 3 = .ptr (some (bz,0)) → ρ' 10 = .bool (decide (x.booted = y.booted)) → XO P E none 52 rest K ρ' h Q) : XO P E none 52 (a40_0 ++ rest) K ρ h Q := by
 simp only [GR,evK,binV,intOp,strOp,shOp,unV,Nat.reduceLT,Nat.reduceEqDiff,Nat.reduceAdd,↓reduceIte,Nat.reduceLeDiff,reduceCtorEq,a40_0,h2,h3,hx,hy,View.len,View.g4,bool_step]
 exact hk _ h2 h3 (by first | rfl | (simp; done) | exact congrArg V.bool (beq_dec _ _))
theorem s40_1 {P : Program} {E : Env} {K : List Fr} {Q : Po} {x y : View} {ρ : Nat → V} {h : H} {bx bz : Nat} {rest : List O} {b : Bool} (hx : h.get bx = some (.cells x.cells 63 false false none)) (hy : h.get bz = some (.cells y.cells 63 false false none)) (h2 : ρ 2 = .ptr (some (bx,0))) (h3 : ρ 3 = .ptr (some (bz,0))) (hg : ρ 10 = .bool b) (hk : ∀ (ρ' : Nat → V),ρ' 2 = .ptr (some (bx,0)) → ρ' 3 = .ptr (some (bz,0)) → ρ' 17 = .bool (b && decide (x.epoch = y.epoch)) → XO P E none 52 rest K ρ' h Q) : XO P E none 52 (a40_1 ++ rest) K ρ h Q := by
 cases b with
 | false =>
  simp only [GR,evK,binV,intOp,strOp,shOp,unV,Nat.reduceLT,Nat.reduceEqDiff,Nat.reduceAdd,↓reduceIte,Nat.reduceLeDiff,reduceCtorEq,a40_1,hg]
  exact hk _ h2 h3 rfl
 | true =>
  simp only [GR,evK,binV,intOp,strOp,shOp,unV,Nat.reduceLT,Nat.reduceEqDiff,Nat.reduceAdd,↓reduceIte,Nat.reduceLeDiff,reduceCtorEq,a40_1,hg,h2,h3,hx,hy,View.len,View.g8]
  exact hk _ h2 h3 (by first | rfl | (simp; done) | exact congrArg V.bool (beq_dec _ _))
theorem s40_2 {P : Program} {E : Env} {K : List Fr} {Q : Po} {x y : View} {ρ : Nat → V} {h : H} {bx bz : Nat} {rest : List O} {b : Bool} (hx : h.get bx = some (.cells x.cells 63 false false none)) (hy : h.get bz = some (.cells y.cells 63 false false none)) (h2 : ρ 2 = .ptr (some (bx,0))) (h3 : ρ 3 = .ptr (some (bz,0))) (hg : ρ 17 = .bool b) (hk : ∀ (ρ' : Nat → V),ρ' 2 = .ptr (some (bx,0)) → ρ' 3 = .ptr (some (bz,0)) → ρ' 24 = .bool (b && decide (x.clock = y.clock)) → XO P E none 52 rest K ρ' h Q) : XO P E none 52 (a40_2 ++ rest) K ρ h Q := by
 cases b with
 | false =>
  simp only [GR,evK,binV,intOp,strOp,shOp,unV,Nat.reduceLT,Nat.reduceEqDiff,Nat.reduceAdd,↓reduceIte,Nat.reduceLeDiff,reduceCtorEq,a40_2,hg]
  exact hk _ h2 h3 rfl
 | true =>
  simp only [GR,evK,binV,intOp,strOp,shOp,unV,Nat.reduceLT,Nat.reduceEqDiff,Nat.reduceAdd,↓reduceIte,Nat.reduceLeDiff,reduceCtorEq,a40_2,hg,h2,h3,hx,hy,View.len,View.g9]
  exact hk _ h2 h3 (by first | rfl | (simp; done) | exact congrArg V.bool (beq_dec _ _))
theorem s40_3 {P : Program} {E : Env} {K : List Fr} {Q : Po} {x y : View} {ρ : Nat → V} {h : H} {bx bz : Nat} {rest : List O} {b : Bool} (hx : h.get bx = some (.cells x.cells 63 false false none)) (hy : h.get bz = some (.cells y.cells 63 false false none)) (h2 : ρ 2 = .ptr (some (bx,0))) (h3 : ρ 3 = .ptr (some (bz,0))) (hg : ρ 24 = .bool b) (hk : ∀ (ρ' : Nat → V),ρ' 2 = .ptr (some (bx,0)) → ρ' 3 = .ptr (some (bz,0)) → ρ' 31 = .bool (b && decide (x.frontier = y.frontier)) → XO P E none 52 rest K ρ' h Q) : XO P E none 52 (a40_3 ++ rest) K ρ h Q := by
 cases b with
 | false =>
  simp only [GR,evK,binV,intOp,strOp,shOp,unV,Nat.reduceLT,Nat.reduceEqDiff,Nat.reduceAdd,↓reduceIte,Nat.reduceLeDiff,reduceCtorEq,a40_3,hg]
  exact hk _ h2 h3 rfl
 | true =>
  simp only [GR,evK,binV,intOp,strOp,shOp,unV,Nat.reduceLT,Nat.reduceEqDiff,Nat.reduceAdd,↓reduceIte,Nat.reduceLeDiff,reduceCtorEq,a40_3,hg,h2,h3,hx,hy,View.len,View.g10]
  exact hk _ h2 h3 (by first | rfl | (simp; done) | exact congrArg V.bool (beq_dec _ _))
theorem s40_4 {P : Program} {E : Env} {K : List Fr} {Q : Po} {x y : View} {ρ : Nat → V} {h : H} {bx bz : Nat} {rest : List O} {b : Bool} (hx : h.get bx = some (.cells x.cells 63 false false none)) (hy : h.get bz = some (.cells y.cells 63 false false none)) (h2 : ρ 2 = .ptr (some (bx,0))) (h3 : ρ 3 = .ptr (some (bz,0))) (hg : ρ 31 = .bool b) (hk : ∀ (ρ' : Nat → V),ρ' 2 = .ptr (some (bx,0)) → ρ' 3 = .ptr (some (bz,0)) → ρ' 38 = .bool (b && decide (x.vector = y.vector)) → XO P E none 52 rest K ρ' h Q) : XO P E none 52 (a40_4 ++ rest) K ρ h Q := by
 have hpart : ∀ z : View,List.take 8 (List.drop 11 z.cells) = z.vector.cells := fun _ => rfl
 have heq := Vec.eqv h x.vector y.vector
 cases b with
 | false =>
  simp only [GR,evK,binV,intOp,strOp,shOp,unV,Nat.reduceLT,Nat.reduceEqDiff,Nat.reduceAdd,↓reduceIte,Nat.reduceLeDiff,reduceCtorEq,a40_4,hg]
  exact hk _ h2 h3 rfl
 | true =>
  simp only [GR,evK,binV,intOp,strOp,shOp,unV,Nat.reduceLT,Nat.reduceEqDiff,Nat.reduceAdd,↓reduceIte,Nat.reduceLeDiff,reduceCtorEq,a40_4,hg,h2,h3,hx,hy,View.len,hpart,heq]
  exact hk _ h2 h3 (by first | rfl | (simp; done) | exact congrArg V.bool (beq_dec _ _))
theorem s40_5 {P : Program} {E : Env} {K : List Fr} {Q : Po} {x y : View} {ρ : Nat → V} {h : H} {bx bz : Nat} {rest : List O} {b : Bool} (hx : h.get bx = some (.cells x.cells 63 false false none)) (hy : h.get bz = some (.cells y.cells 63 false false none)) (h2 : ρ 2 = .ptr (some (bx,0))) (h3 : ρ 3 = .ptr (some (bz,0))) (hg : ρ 38 = .bool b) {c : Bool} (hc : Sp P E (.func 62 [] []) [x.nodes,y.nodes] h fun v h' => v = .bool c ∧ Kp h h') (hk : ∀ (ρ' : Nat → V) (h' : H),Kp h h' → ρ' 2 = .ptr (some (bx,0)) → ρ' 3 = .ptr (some (bz,0)) → ρ' 45 = .bool (b && c) → XO P E none 52 rest K ρ' h' Q) : XO P E none 52 (a40_5 ++ rest) K ρ h Q := by
 cases b with
 | false =>
  simp only [GR,evK,binV,intOp,strOp,shOp,unV,Nat.reduceLT,Nat.reduceEqDiff,Nat.reduceAdd,↓reduceIte,Nat.reduceLeDiff,reduceCtorEq,a40_5,hg]
  exact hk _ _ (Keeps.refl _ _) h2 h3 rfl
 | true =>
  simp only [GR,evK,binV,intOp,strOp,shOp,unV,Nat.reduceLT,Nat.reduceEqDiff,Nat.reduceAdd,↓reduceIte,Nat.reduceLeDiff,reduceCtorEq,a40_5,hg,h2,h3,hx,hy,View.len,View.g19]
  refine XC_of hc ?_
  rintro _ h' ⟨rfl,k⟩
  simp only [GR,evK,binV,intOp,strOp,shOp,unV,Nat.reduceLT,Nat.reduceEqDiff,Nat.reduceAdd,↓reduceIte,Nat.reduceLeDiff,reduceCtorEq,hg]
  exact hk _ _ k h2 h3 rfl
theorem s40_6 {P : Program} {E : Env} {K : List Fr} {Q : Po} {x y : View} {ρ : Nat → V} {h : H} {bx bz : Nat} {rest : List O} {b : Bool} (hx : h.get bx = some (.cells x.cells 63 false false none)) (hy : h.get bz = some (.cells y.cells 63 false false none)) (h2 : ρ 2 = .ptr (some (bx,0))) (h3 : ρ 3 = .ptr (some (bz,0))) (hg : ρ 45 = .bool b) {c : Bool} (hc : Sp P E (.func 63 [] []) [x.rows,y.rows] h fun v h' => v = .bool c ∧ Kp h h') (hk : ∀ (ρ' : Nat → V) (h' : H),Kp h h' → ρ' 2 = .ptr (some (bx,0)) → ρ' 3 = .ptr (some (bz,0)) → ρ' 4 = .bool (b && c) → XO P E none 52 rest K ρ' h' Q) : XO P E none 52 (a40_6 ++ rest) K ρ h Q := by
 cases b with
 | false =>
  simp only [GR,evK,binV,intOp,strOp,shOp,unV,Nat.reduceLT,Nat.reduceEqDiff,Nat.reduceAdd,↓reduceIte,Nat.reduceLeDiff,reduceCtorEq,a40_6,hg]
  exact hk _ _ (Keeps.refl _ _) h2 h3 rfl
 | true =>
  simp only [GR,evK,binV,intOp,strOp,shOp,unV,Nat.reduceLT,Nat.reduceEqDiff,Nat.reduceAdd,↓reduceIte,Nat.reduceLeDiff,reduceCtorEq,a40_6,hg,h2,h3,hx,hy,View.len,View.g20]
  refine XC_of hc ?_
  rintro _ h' ⟨rfl,k⟩
  simp only [GR,evK,binV,intOp,strOp,shOp,unV,Nat.reduceLT,Nat.reduceEqDiff,Nat.reduceAdd,↓reduceIte,Nat.reduceLeDiff,reduceCtorEq,hg]
  exact hk _ _ k h2 h3 rfl
set_option maxRecDepth 100000 in
theorem state40 (F : Fa E) {x y : View} {h : H} {es es' : List (Entry × DEnt)} {ns ns' : List (TNode × DNode)} {rs rs' : List Row} (hx : VIn h ⟨x,es,ns,rs⟩) (hy : VIn h ⟨y,es',ns',rs'⟩) :
  Sp P E (.func 40 [] []) [.agg x.cells,.agg y.cells] h fun r h' => r = .bool (decide (eqState ⟨x,es,ns,rs⟩ ⟨y,es',ns',rs'⟩)) ∧ Kp h h' := by
 have hg0 := psh_same h (.cells x.cells 63 false false none)
 have hk0 : Kp h (h.psh (.cells x.cells 63 false false none)) := Keeps.psh (Nat.le_refl _) _
 have hk1 : Kp (h.psh (.cells x.cells 63 false false none)) ((h.psh (.cells x.cells 63 false false none)).psh (.cells y.cells 63 false false none)) := Keeps.psh (Nat.le_refl _) _
 have gy := psh_same (h.psh (.cells x.cells 63 false false none)) (.cells y.cells 63 false false none)
 have gx := Kp.of hk1 hg0
 have kk := Kp.trans hk0 hk1
 refine Sp_fn F.f40 F.p40 (by simp [fn40]) ?_
 simp only [GR,evK,binV,intOp,strOp,shOp,unV,Nat.reduceLT,Nat.reduceEqDiff,Nat.reduceAdd,↓reduceIte,Nat.reduceLeDiff,reduceCtorEq,fn40,c40,r40_0,e40_all]
 generalize (h.psh (.cells x.cells 63 false false none)).psh (.cells y.cells 63 false false none) = h2 at *
 generalize (h.psh (.cells x.cells 63 false false none)).size = B at *
 refine s40_0 gx gy rfl rfl fun ρ p q r => ?_
 refine s40_1 gx gy p q r fun ρ p q r => ?_
 refine s40_2 gx gy p q r fun ρ p q r => ?_
 refine s40_3 gx gy p q r fun ρ p q r => ?_
 refine s40_4 gx gy p q r fun ρ p q r => ?_
 refine s40_5 gx gy p q r (nodes62 F (hx.nodes.keep kk) (fun p hp => (hx.nds p hp).keep kk) (hy.nodes.keep kk) (fun p hp => (hy.nds p hp).keep kk) hx.nlen) fun ρ h3 k p q r => ?_
 have gx := Kp.of k gx
 have gy := Kp.of k gy
 have kk := Kp.trans kk k
 rw [← List.append_nil a40_6]
 refine s40_6 gx gy p q r (Sp.kp (eq63 F (hx.rows.keep kk) (hy.rows.keep kk) hx.rlen)) fun ρ h3 k p q r => ?_
 have gx := Kp.of k gx
 have gy := Kp.of k gy
 have kk := Kp.trans kk k
 simp only [GR,evK,binV,intOp,strOp,shOp,unV,Nat.reduceLT,Nat.reduceEqDiff,Nat.reduceAdd,↓reduceIte,Nat.reduceLeDiff,reduceCtorEq,r]
 refine ⟨?_,kk⟩
 congr 1
 rw [Bool.eq_iff_iff]
 refine Iff.trans ?_ decide_eq_true_iff.symm
 simp only [Bool.and_eq_true,decide_eq_true_eq,beq_iff_eq]
 simp only [and_assoc]
set_option maxRecDepth 100000 in
theorem e21_all : r21_1 = a21_0 ++ (a21_1 ++ (a21_2 ++ (a21_3 ++ (a21_4 ++ (a21_5 ++ (a21_6)))))) := rfl
theorem s21_0 {P : Program} {E : Env} {K : List Fr} {Q : Po} {x y : View} {ρ : Nat → V} {h : H} {bx bz : Nat} {rest : List O} (hx : h.get bx = some (.cells x.cells 63 false false none)) (hy : h.get bz = some (.cells y.cells 63 false false none)) (h2 : ρ 2 = .ptr (some (bx,0))) (h3 : ρ 3 = .ptr (some (bz,0))) (hk : ∀ (ρ' : Nat → V),ρ' 2 = .ptr (some (bx,0)) → ρ' 3 = .ptr (some (bz,0)) → ρ' 10 = .bool (decide (x.booted = y.booted)) → XO P E none 52 rest K ρ' h Q) : XO P E none 52 (a21_0 ++ rest) K ρ h Q := by
 simp only [GR,evK,binV,intOp,strOp,shOp,unV,Nat.reduceLT,Nat.reduceEqDiff,Nat.reduceAdd,↓reduceIte,Nat.reduceLeDiff,reduceCtorEq,a21_0,h2,h3,hx,hy,View.len,View.g4,bool_step]
 exact hk _ h2 h3 (by first | rfl | (simp; done) | exact congrArg V.bool (beq_dec _ _))
theorem s21_1 {P : Program} {E : Env} {K : List Fr} {Q : Po} {x y : View} {ρ : Nat → V} {h : H} {bx bz : Nat} {rest : List O} {b : Bool} (hx : h.get bx = some (.cells x.cells 63 false false none)) (hy : h.get bz = some (.cells y.cells 63 false false none)) (h2 : ρ 2 = .ptr (some (bx,0))) (h3 : ρ 3 = .ptr (some (bz,0))) (hg : ρ 10 = .bool b) (hk : ∀ (ρ' : Nat → V),ρ' 2 = .ptr (some (bx,0)) → ρ' 3 = .ptr (some (bz,0)) → ρ' 17 = .bool (b && decide (x.epoch = y.epoch)) → XO P E none 52 rest K ρ' h Q) : XO P E none 52 (a21_1 ++ rest) K ρ h Q := by
 cases b with
 | false =>
  simp only [GR,evK,binV,intOp,strOp,shOp,unV,Nat.reduceLT,Nat.reduceEqDiff,Nat.reduceAdd,↓reduceIte,Nat.reduceLeDiff,reduceCtorEq,a21_1,hg]
  exact hk _ h2 h3 rfl
 | true =>
  simp only [GR,evK,binV,intOp,strOp,shOp,unV,Nat.reduceLT,Nat.reduceEqDiff,Nat.reduceAdd,↓reduceIte,Nat.reduceLeDiff,reduceCtorEq,a21_1,hg,h2,h3,hx,hy,View.len,View.g8]
  exact hk _ h2 h3 (by first | rfl | (simp; done) | exact congrArg V.bool (beq_dec _ _))
theorem s21_2 {P : Program} {E : Env} {K : List Fr} {Q : Po} {x y : View} {ρ : Nat → V} {h : H} {bx bz : Nat} {rest : List O} {b : Bool} (hx : h.get bx = some (.cells x.cells 63 false false none)) (hy : h.get bz = some (.cells y.cells 63 false false none)) (h2 : ρ 2 = .ptr (some (bx,0))) (h3 : ρ 3 = .ptr (some (bz,0))) (hg : ρ 17 = .bool b) (hk : ∀ (ρ' : Nat → V),ρ' 2 = .ptr (some (bx,0)) → ρ' 3 = .ptr (some (bz,0)) → ρ' 24 = .bool (b && decide (x.clock = y.clock)) → XO P E none 52 rest K ρ' h Q) : XO P E none 52 (a21_2 ++ rest) K ρ h Q := by
 cases b with
 | false =>
  simp only [GR,evK,binV,intOp,strOp,shOp,unV,Nat.reduceLT,Nat.reduceEqDiff,Nat.reduceAdd,↓reduceIte,Nat.reduceLeDiff,reduceCtorEq,a21_2,hg]
  exact hk _ h2 h3 rfl
 | true =>
  simp only [GR,evK,binV,intOp,strOp,shOp,unV,Nat.reduceLT,Nat.reduceEqDiff,Nat.reduceAdd,↓reduceIte,Nat.reduceLeDiff,reduceCtorEq,a21_2,hg,h2,h3,hx,hy,View.len,View.g9]
  exact hk _ h2 h3 (by first | rfl | (simp; done) | exact congrArg V.bool (beq_dec _ _))
theorem s21_3 {P : Program} {E : Env} {K : List Fr} {Q : Po} {x y : View} {ρ : Nat → V} {h : H} {bx bz : Nat} {rest : List O} {b : Bool} (hx : h.get bx = some (.cells x.cells 63 false false none)) (hy : h.get bz = some (.cells y.cells 63 false false none)) (h2 : ρ 2 = .ptr (some (bx,0))) (h3 : ρ 3 = .ptr (some (bz,0))) (hg : ρ 24 = .bool b) (hk : ∀ (ρ' : Nat → V),ρ' 2 = .ptr (some (bx,0)) → ρ' 3 = .ptr (some (bz,0)) → ρ' 31 = .bool (b && decide (x.frontier = y.frontier)) → XO P E none 52 rest K ρ' h Q) : XO P E none 52 (a21_3 ++ rest) K ρ h Q := by
 cases b with
 | false =>
  simp only [GR,evK,binV,intOp,strOp,shOp,unV,Nat.reduceLT,Nat.reduceEqDiff,Nat.reduceAdd,↓reduceIte,Nat.reduceLeDiff,reduceCtorEq,a21_3,hg]
  exact hk _ h2 h3 rfl
 | true =>
  simp only [GR,evK,binV,intOp,strOp,shOp,unV,Nat.reduceLT,Nat.reduceEqDiff,Nat.reduceAdd,↓reduceIte,Nat.reduceLeDiff,reduceCtorEq,a21_3,hg,h2,h3,hx,hy,View.len,View.g10]
  exact hk _ h2 h3 (by first | rfl | (simp; done) | exact congrArg V.bool (beq_dec _ _))
theorem s21_4 {P : Program} {E : Env} {K : List Fr} {Q : Po} {x y : View} {ρ : Nat → V} {h : H} {bx bz : Nat} {rest : List O} {b : Bool} (hx : h.get bx = some (.cells x.cells 63 false false none)) (hy : h.get bz = some (.cells y.cells 63 false false none)) (h2 : ρ 2 = .ptr (some (bx,0))) (h3 : ρ 3 = .ptr (some (bz,0))) (hg : ρ 31 = .bool b) (hk : ∀ (ρ' : Nat → V),ρ' 2 = .ptr (some (bx,0)) → ρ' 3 = .ptr (some (bz,0)) → ρ' 38 = .bool (b && decide (x.vector = y.vector)) → XO P E none 52 rest K ρ' h Q) : XO P E none 52 (a21_4 ++ rest) K ρ h Q := by
 have hpart : ∀ z : View,List.take 8 (List.drop 11 z.cells) = z.vector.cells := fun _ => rfl
 have heq := Vec.eqv h x.vector y.vector
 cases b with
 | false =>
  simp only [GR,evK,binV,intOp,strOp,shOp,unV,Nat.reduceLT,Nat.reduceEqDiff,Nat.reduceAdd,↓reduceIte,Nat.reduceLeDiff,reduceCtorEq,a21_4,hg]
  exact hk _ h2 h3 rfl
 | true =>
  simp only [GR,evK,binV,intOp,strOp,shOp,unV,Nat.reduceLT,Nat.reduceEqDiff,Nat.reduceAdd,↓reduceIte,Nat.reduceLeDiff,reduceCtorEq,a21_4,hg,h2,h3,hx,hy,View.len,hpart,heq]
  exact hk _ h2 h3 (by first | rfl | (simp; done) | exact congrArg V.bool (beq_dec _ _))
theorem s21_5 {P : Program} {E : Env} {K : List Fr} {Q : Po} {x y : View} {ρ : Nat → V} {h : H} {bx bz : Nat} {rest : List O} {b : Bool} (hx : h.get bx = some (.cells x.cells 63 false false none)) (hy : h.get bz = some (.cells y.cells 63 false false none)) (h2 : ρ 2 = .ptr (some (bx,0))) (h3 : ρ 3 = .ptr (some (bz,0))) (hg : ρ 38 = .bool b) {c : Bool} (hc : Sp P E (.func 22 [] []) [x.nodes,y.nodes] h fun v h' => v = .bool c ∧ Kp h h') (hk : ∀ (ρ' : Nat → V) (h' : H),Kp h h' → ρ' 2 = .ptr (some (bx,0)) → ρ' 3 = .ptr (some (bz,0)) → ρ' 45 = .bool (b && c) → XO P E none 52 rest K ρ' h' Q) : XO P E none 52 (a21_5 ++ rest) K ρ h Q := by
 cases b with
 | false =>
  simp only [GR,evK,binV,intOp,strOp,shOp,unV,Nat.reduceLT,Nat.reduceEqDiff,Nat.reduceAdd,↓reduceIte,Nat.reduceLeDiff,reduceCtorEq,a21_5,hg]
  exact hk _ _ (Keeps.refl _ _) h2 h3 rfl
 | true =>
  simp only [GR,evK,binV,intOp,strOp,shOp,unV,Nat.reduceLT,Nat.reduceEqDiff,Nat.reduceAdd,↓reduceIte,Nat.reduceLeDiff,reduceCtorEq,a21_5,hg,h2,h3,hx,hy,View.len,View.g19]
  refine XC_of hc ?_
  rintro _ h' ⟨rfl,k⟩
  simp only [GR,evK,binV,intOp,strOp,shOp,unV,Nat.reduceLT,Nat.reduceEqDiff,Nat.reduceAdd,↓reduceIte,Nat.reduceLeDiff,reduceCtorEq,hg]
  exact hk _ _ k h2 h3 rfl
theorem s21_6 {P : Program} {E : Env} {K : List Fr} {Q : Po} {x y : View} {ρ : Nat → V} {h : H} {bx bz : Nat} {rest : List O} {b : Bool} (hx : h.get bx = some (.cells x.cells 63 false false none)) (hy : h.get bz = some (.cells y.cells 63 false false none)) (h2 : ρ 2 = .ptr (some (bx,0))) (h3 : ρ 3 = .ptr (some (bz,0))) (hg : ρ 45 = .bool b) {c : Bool} (hc : Sp P E (.func 42 [] []) [x.rows,y.rows] h fun v h' => v = .bool c ∧ Kp h h') (hk : ∀ (ρ' : Nat → V) (h' : H),Kp h h' → ρ' 2 = .ptr (some (bx,0)) → ρ' 3 = .ptr (some (bz,0)) → ρ' 4 = .bool (b && c) → XO P E none 52 rest K ρ' h' Q) : XO P E none 52 (a21_6 ++ rest) K ρ h Q := by
 cases b with
 | false =>
  simp only [GR,evK,binV,intOp,strOp,shOp,unV,Nat.reduceLT,Nat.reduceEqDiff,Nat.reduceAdd,↓reduceIte,Nat.reduceLeDiff,reduceCtorEq,a21_6,hg]
  exact hk _ _ (Keeps.refl _ _) h2 h3 rfl
 | true =>
  simp only [GR,evK,binV,intOp,strOp,shOp,unV,Nat.reduceLT,Nat.reduceEqDiff,Nat.reduceAdd,↓reduceIte,Nat.reduceLeDiff,reduceCtorEq,a21_6,hg,h2,h3,hx,hy,View.len,View.g20]
  refine XC_of hc ?_
  rintro _ h' ⟨rfl,k⟩
  simp only [GR,evK,binV,intOp,strOp,shOp,unV,Nat.reduceLT,Nat.reduceEqDiff,Nat.reduceAdd,↓reduceIte,Nat.reduceLeDiff,reduceCtorEq,hg]
  exact hk _ _ k h2 h3 rfl
set_option maxRecDepth 100000 in
theorem state21 (F : Fa E) {x y : View} {h : H} {es es' : List (Entry × DEnt)} {ns ns' : List (TNode × DNode)} {rs rs' : List Row} (hx : VIn h ⟨x,es,ns,rs⟩) (hy : VIn h ⟨y,es',ns',rs'⟩) :
  Sp P E (.func 21 [] []) [.agg x.cells,.agg y.cells] h fun r h' => r = .bool (decide (eqState ⟨x,es,ns,rs⟩ ⟨y,es',ns',rs'⟩)) ∧ Kp h h' := by
 have hg0 := psh_same h (.cells x.cells 63 false false none)
 have hk0 : Kp h (h.psh (.cells x.cells 63 false false none)) := Keeps.psh (Nat.le_refl _) _
 have hk1 : Kp (h.psh (.cells x.cells 63 false false none)) ((h.psh (.cells x.cells 63 false false none)).psh (.cells y.cells 63 false false none)) := Keeps.psh (Nat.le_refl _) _
 have gy := psh_same (h.psh (.cells x.cells 63 false false none)) (.cells y.cells 63 false false none)
 have gx := Kp.of hk1 hg0
 have kk := Kp.trans hk0 hk1
 refine Sp_fn F.f21 F.p21 (by simp [fn21]) ?_
 simp only [GR,evK,binV,intOp,strOp,shOp,unV,Nat.reduceLT,Nat.reduceEqDiff,Nat.reduceAdd,↓reduceIte,Nat.reduceLeDiff,reduceCtorEq,fn21,c21,r21_0,e21_all]
 generalize (h.psh (.cells x.cells 63 false false none)).psh (.cells y.cells 63 false false none) = h2 at *
 generalize (h.psh (.cells x.cells 63 false false none)).size = B at *
 refine s21_0 gx gy rfl rfl fun ρ p q r => ?_
 refine s21_1 gx gy p q r fun ρ p q r => ?_
 refine s21_2 gx gy p q r fun ρ p q r => ?_
 refine s21_3 gx gy p q r fun ρ p q r => ?_
 refine s21_4 gx gy p q r fun ρ p q r => ?_
 refine s21_5 gx gy p q r (eql22 F (hx.nodes.keep kk) (fun p hp => (hx.nds p hp).keep kk) (hy.nodes.keep kk) (fun p hp => (hy.nds p hp).keep kk) hx.nlen) fun ρ h3 k p q r => ?_
 have gx := Kp.of k gx
 have gy := Kp.of k gy
 have kk := Kp.trans kk k
 rw [← List.append_nil a21_6]
 refine s21_6 gx gy p q r (Sp.kp (eq42 F (hx.rows.keep kk) (hy.rows.keep kk) hx.rlen)) fun ρ h3 k p q r => ?_
 have gx := Kp.of k gx
 have gy := Kp.of k gy
 have kk := Kp.trans kk k
 simp only [GR,evK,binV,intOp,strOp,shOp,unV,Nat.reduceLT,Nat.reduceEqDiff,Nat.reduceAdd,↓reduceIte,Nat.reduceLeDiff,reduceCtorEq,r]
 refine ⟨?_,kk⟩
 congr 1
 rw [Bool.eq_iff_iff]
 refine Iff.trans ?_ decide_eq_true_iff.symm
 simp only [Bool.and_eq_true,decide_eq_true_eq,beq_iff_eq]
 simp only [and_assoc]
theorem _root_.Go.AM.Acc.sl {h : H} {lo ty sz : Nat} {v : V} {xs : List (List V)} (a : Acc h lo ty sz v xs) : Sl h sz v xs := by
 rcases a.shape with ⟨rfl,rfl⟩ | ⟨b,rfl,_,h3⟩
 ·exact .nil _ _ _
 ·refine .at b 0 _ _ xs _ _ _ _ _ h3 (by rw [flatten_length a.elem]; omega) fun k x hk => ?_
  have aux : ∀ (l : List (List V)) (k : Nat) (x : List V),(∀ y ∈ l,y.length = sz) → l[k]? = some x → (l.flatten.drop (k * sz)).take sz = x := by
   intro l
   induction l with
   | nil => intro k x _ hk; simp at hk
   | cons y l ih =>
    intro k x hl hk
    have hy := hl y List.mem_cons_self
    cases k with
    | zero =>
     simp only [List.getElem?_cons_zero,Option.some.injEq] at hk
     subst hk
     rw [Nat.zero_mul,List.drop_zero,List.flatten_cons,← hy,List.take_left']
     rfl
    | succ k =>
     simp only [List.getElem?_cons_succ] at hk
     have := ih k x (fun z hz => hl z (List.mem_cons_of_mem _ hz)) hk
     rw [List.flatten_cons,show (k + 1) * sz = y.length + k * sz by rw [Nat.add_mul,hy]; omega,← List.drop_drop,List.drop_left']
     ·exact this
     ·rfl
  unfold getR
  rw [Nat.zero_add]
  exact aux xs k x (fun y hy => (a.elem y hy).1) hk
theorem elems_psh {h : H} {cs : List V} {ty sz : Nat} (hl : cs.length = sz) (hp : 0 < sz) : elemsV (h.psh (.cells cs ty false false none)) sz [cs].length (.slice (some (h.size,0)) 1 1 false) = some [cs].flatten := by
 subst hl
 have h1 : ¬ 1 * cs.length = 0 := by omega
 simp only [elemsV,psh_same,getR,List.length_singleton,h1,if_false]
 rw [if_pos (by omega),Nat.one_mul,List.drop_zero,List.take_length]
 simp
theorem VIn.one {h : H} {w : WV} (a : VIn h w) : w.x.cells.all V.one = true := by
 obtain ⟨b,c,o,e1⟩ := a.chosen.len
 obtain ⟨b',c',o',e2⟩ := a.nodes.len
 obtain ⟨b2,c2,o2,e3⟩ := a.rows.len
 simp only [View.cells,List.all_cons,List.all_nil,V.one,e1,e2,e3,Bool.and_self]
theorem VIn.nj {h : H} {w : WV} (a : VIn h w) : V.njL w.x.cells = true := by
 obtain ⟨b,c,o,e1⟩ := a.chosen.len
 obtain ⟨b',c',o',e2⟩ := a.nodes.len
 obtain ⟨b2,c2,o2,e3⟩ := a.rows.len
 simp only [View.cells,V.njL,V.nj,e1,e2,e3,Bool.and_self]
structure VsIn (h : H) (v : V) (vs : List WV) : Prop where
 sl : Sl h 21 v (vs.map fun w => w.x.cells)
 ins : ∀ w ∈ vs,VIn h w
 len : vs.length ≤ 1048576
theorem VsIn.keep {h h' : H} {v : V} {vs : List WV} (a : VsIn h v vs) (hk : Kp h h') : VsIn h' v vs := ⟨a.sl.keep hk,fun w hw => (a.ins w hw).keep hk,a.len⟩
def View.zero : View := ⟨⟨0,0⟩,false,false,false,0,0,.slice none 0 0 false,0,0,0,⟨0,0,0,0,0,0,0,0⟩,.slice none 0 0 false,.slice none 0 0 false⟩

def allSame : List WV → Bool
 | [] => true
 | f :: r => (f :: r).all fun w => decide (w.x.vector = f.x.vector)
structure MsIn (h : H) (v : V) (ms : List Int) : Prop where
 sl : Sl h 1 v (ms.map fun n => [V.int .i64 n])
 len : ms.length ≤ 1048576
theorem MsIn.keep {h h' : H} {v : V} {ms : List Int} (a : MsIn h v ms) (hk : Kp h h') : MsIn h' v ms := ⟨a.sl.keep hk,a.len⟩
theorem _root_.Go.AM.Acc.one {h : H} {lo ty sz : Nat} {v : V} {xs : List (List V)} (a : Acc h lo ty sz v xs) : [v].all V.one = true := by
 rcases a.shape with ⟨_,rfl⟩ | ⟨b,rfl,_,_⟩ <;> rfl
theorem _root_.Go.AM.Acc.slice {h : H} {lo ty sz : Nat} {v : V} {xs : List (List V)} (a : Acc h lo ty sz v xs) : ∃ p n c o,v = .slice p n c o := by
 rcases a.shape with ⟨_,rfl⟩ | ⟨b,rfl,_,_⟩ <;> exact ⟨_,_,_,_,rfl⟩
theorem _root_.Go.AM.Acc.set {h : H} {lo ty sz b : Nat} {v : V} {xs : List (List V)} (a : Acc h lo ty sz v xs) (hb : b < lo) (hlt : b < h.size) (o : Obj) : Acc (h.set b o) lo ty sz v xs := by
 refine ⟨?_,a.elem⟩
 rcases a.shape with h1 | ⟨c,h1,h2,h3⟩
 ·exact .inl h1
 ·exact .inr ⟨c,h1,h2,by rw [hset_other hlt (by omega)]; exact h3⟩
theorem unlike {f a : WV} {r s : List WV} (h : a.x.vector ≠ f.x.vector) : allSame (f :: (r ++ a :: s)) = false := by
 rw [Bool.eq_false_iff]
 intro ht
 have := List.all_eq_true.1 ht a (by simp)
 exact h (by simpa using this)
theorem wrapU {n : Int} (h0 : 0 ≤ n) (h1 : n ≤ 9223372036854775807) : IntKind.u64.wrap n = n := by
 have : IntKind.u64.wrap n = n % 18446744073709551616 := by
  simp [IntKind.wrap,IntKind.signed,IntKind.bits]
 rw [this]; omega
theorem wrapI {n : Int} (h0 : -9223372036854775808 ≤ n) (h1 : n ≤ 9223372036854775807) : IntKind.i64.wrap n = n := by
 have : IntKind.i64.wrap n = (n + 9223372036854775808) % 18446744073709551616 - 9223372036854775808 := by
  simp [IntKind.wrap,IntKind.signed,IntKind.bits,IntKind.max]
  omega
 rw [this]; omega
def okF (n : Int) : Bool := decide (0 ≤ n) && decide (n ≤ 1099511627776)
theorem okF_iff {n : Int} : okF n = true ↔ 0 ≤ n ∧ n ≤ 1099511627776 := by simp [okF]
theorem count30 (F : Fa E) {n : Int} {h : H} : Sp P E (.func 30 [] []) [.int .i64 n] h fun r h' => r = .bool (okF n) ∧ h' = h := by
 refine Sp_fn F.f30 F.p30 (by simp [fn30]) ?_
 by_cases h0 : n ≥ 0
 ·by_cases h1 : n ≤ 1099511627776
  ·simp only [GR,evK,binV,intOp,strOp,shOp,unV,Nat.reduceLT,Nat.reduceEqDiff,Nat.reduceAdd,↓reduceIte,Nat.reduceLeDiff,reduceCtorEq,fn30,c30,r30_0,h0,h1]
   simp [okF,h0,h1]
  ·simp only [GR,evK,binV,intOp,strOp,shOp,unV,Nat.reduceLT,Nat.reduceEqDiff,Nat.reduceAdd,↓reduceIte,Nat.reduceLeDiff,reduceCtorEq,fn30,c30,r30_0,h0,h1]
   simp [okF,h1]
 ·simp only [GR,evK,binV,intOp,strOp,shOp,unV,Nat.reduceLT,Nat.reduceEqDiff,Nat.reduceAdd,↓reduceIte,Nat.reduceLeDiff,reduceCtorEq,fn30,c30,r30_0,h0]
  have : ¬ 0 ≤ n := h0
  simp [okF,this]
theorem starts27 (F : Fa E) {x : View} {h : H} : Sp P E (.func 27 [] []) [.agg x.cells] h fun r h' => r = .bool (okF x.first) ∧ Kp h h' := by
 have hk0 : Kp h (h.psh (.cells x.cells 63 false false none)) := Keeps.psh (Nat.le_refl _) _
 have gx := psh_same h (.cells x.cells 63 false false none)
 refine Sp_fn F.f27 F.p27 (by simp [fn27]) ?_
 by_cases h0 : x.first ≥ 0
 ·by_cases h1 : x.first ≤ 1099511627776
  ·simp only [GR,evK,binV,intOp,strOp,shOp,unV,Nat.reduceLT,Nat.reduceEqDiff,Nat.reduceAdd,↓reduceIte,Nat.reduceLeDiff,reduceCtorEq,fn27,c27,r27_0,r27_1,gx,View.len,View.g6,h0,h1]
   exact ⟨by simp [okF,h0,h1],hk0⟩
  ·simp only [GR,evK,binV,intOp,strOp,shOp,unV,Nat.reduceLT,Nat.reduceEqDiff,Nat.reduceAdd,↓reduceIte,Nat.reduceLeDiff,reduceCtorEq,fn27,c27,r27_0,r27_1,gx,View.len,View.g6,h0,h1]
   exact ⟨by simp [okF,h1],hk0⟩
 ·simp only [GR,evK,binV,intOp,strOp,shOp,unV,Nat.reduceLT,Nat.reduceEqDiff,Nat.reduceAdd,↓reduceIte,Nat.reduceLeDiff,reduceCtorEq,fn27,c27,r27_0,r27_1,gx,View.len,View.g6,h0]
  have : ¬ 0 ≤ x.first := h0
  exact ⟨by simp [okF,this],hk0⟩
def Entry.zero : Entry := ⟨0,0,0,⟨0,0,0,0,0,[],[],[]⟩,0,0,.slice none 0 0 false,⟨0,⟨0,0,0,0,0,0,0,0⟩,⟨0,0,0,0,0,0,0,0⟩,⟨0,0,0,0,0,0,0,0⟩⟩,0,⟨0,0,0,0,0,0,0,0⟩,0,⟨0,0,0,.slice none 0 0 false⟩,0,0,0⟩
def atW (w : WV) (s : Int) : Option (Entry × DEnt) := if w.x.first ≤ s then w.es[(s - w.x.first).toNat]? else none
def entOf : Option (Entry × DEnt) → Entry
 | some p => p.1
 | none => Entry.zero
set_option maxHeartbeats 2000000 in
theorem at31 (F : Fa E) {w : WV} {s : Int} {h : H} (hw : VIn h w) (hf : okF w.x.first = true) (hs0 : -9223372036854775808 ≤ s) (hs1 : s ≤ 9223372036854775807) :
  Sp P E (.func 31 [] []) [.agg w.x.cells,.int .i64 s] h fun r h' => r = .tup [.agg (entOf (atW w s)).cells,.bool (atW w s).isSome] ∧ Kp h h' := by
 obtain ⟨f0,f1⟩ := okF_iff.1 hf
 have hl := hw.elen
 have hk0 : Kp h (h.psh (.cells w.x.cells 63 false false none)) := Keeps.psh (Nat.le_refl _) _
 have gx0 := psh_same h (.cells w.x.cells 63 false false none)
 generalize hh1 : h.psh (.cells w.x.cells 63 false false none) = h1 at *
 have hk1 : Kp h1 (h1.psh (.cells Entry.zero.cells 49 false false none)) := Keeps.psh (Nat.le_refl _) _
 have gx := Kp.of hk1 gx0
 have ge := psh_same h1 (.cells Entry.zero.cells 49 false false none)
 generalize hh2 : h1.psh (.cells Entry.zero.cells 49 false false none) = h2 at *
 have fl : ∀ z : Entry,z.cells.length = 56 := fun _ => rfl
 have p0 : ∀ z : Entry,List.take 56 z.cells = z.cells := fun _ => rfl
 have hle : h.size ≤ h1.size := hk0.size
 obtain ⟨a1,c1,o1,e1⟩ := hw.chosen.len
 rw [List.length_map] at e1
 have none_case : atW w s = none → ∀ ρ : Nat → V,ρ 4 = .ptr (some (h1.size,0)) → XO P E none 32 r31_2 [.c .ret,.c (.seq (.region r31_3) (.ret))] ρ h2 (Fin [.c 4 56 true,.t 5] fun r h' => r = .tup [.agg (entOf (atW w s)).cells,.bool (atW w s).isSome] ∧ Kp h h') := by
  intro hn ρ q4
  rw [hn]
  obtain ⟨h3,e3,g3,k3,z3⟩ := put_ex (o := 0) (ws := Entry.zero.cells) ge (by rw [fl]; decide) (by decide) rfl
  have g3' : h3.get h1.size = some (.cells Entry.zero.cells 49 false false none) := g3
  have k3' : Kp h h3 := Keeps.trans (n := h.size) (hk0.trans hk1) (k3.mono hle)
  have fz := fl Entry.zero
  have pz := p0 Entry.zero
  generalize hzc : Entry.zero.cells = zc at *
  rw [← hzc] at e3
  simp only [Entry.zero,Entry.cells,Opr.cells,Epoch.cells,Vec.cells,Part.cells] at e3
  simp only [GR,evK,binV,intOp,strOp,shOp,unV,Nat.reduceLT,Nat.reduceEqDiff,Nat.reduceAdd,↓reduceIte,Nat.reduceLeDiff,reduceCtorEq,r31_2,q4,e3]
  rw [resVs_c (L := 32) (i := h1.size) (o := 0) (by decide) _ (by exact q4)]
  simp only [GR,evK,binV,intOp,strOp,shOp,unV,Nat.reduceLT,Nat.reduceEqDiff,Nat.reduceAdd,↓reduceIte,Nat.reduceLeDiff,reduceCtorEq,g3',fz,pz]
  exact ⟨by rw [← hzc]; rfl,k3'⟩
 refine Sp_fn F.f31 F.p31 (by simp [fn31]) ?_
 have hh2' := hh2
 simp only [Entry.zero,Entry.cells,Opr.cells,Epoch.cells,Vec.cells,Part.cells] at hh2'
 by_cases hlt : s < w.x.first
 ·have hn : atW w s = none := by unfold atW; rw [if_neg (by omega)]
  simp only [GR,evK,binV,intOp,strOp,shOp,unV,Nat.reduceLT,Nat.reduceEqDiff,Nat.reduceAdd,↓reduceIte,Nat.reduceLeDiff,reduceCtorEq,fn31,c31,r31_0,hh1,hh2',r31_1,gx,View.len,View.g6,hlt]
  exact none_case hn _ rfl
 ·have u1 : IntKind.u64.wrap s = s := wrapU (by omega) (by omega)
  have u2 : IntKind.u64.wrap w.x.first = w.x.first := wrapU f0 (by omega)
  have u3 : IntKind.u64.wrap (s - w.x.first) = s - w.x.first := wrapU (by omega) (by omega)
  have u4 : IntKind.u64.wrap (w.es.length : Int) = w.es.length := wrapU (by omega) (by omega)
  by_cases hge : s - w.x.first ≥ (w.es.length : Int)
  ·have hn : atW w s = none := by unfold atW; rw [if_pos (by omega)]; exact List.getElem?_eq_none (by omega)
   simp only [GR,evK,binV,intOp,strOp,shOp,unV,Nat.reduceLT,Nat.reduceEqDiff,Nat.reduceAdd,↓reduceIte,Nat.reduceLeDiff,reduceCtorEq,fn31,c31,r31_0,hh1,hh2',r31_1,gx,View.len,View.g6,View.g7,e1,hlt,u1,u2,u3,u4,hge]
   exact none_case hn _ rfl
  ·obtain ⟨j,hj⟩ : ∃ j : Nat,s - w.x.first = j := ⟨(s - w.x.first).toNat,by omega⟩
   have hjl : j < w.es.length := by omega
   have hn : atW w s = some w.es[j] := by unfold atW; rw [if_pos (by omega),hj,Int.toNat_natCast,List.getElem?_eq_getElem hjl]
   have dx := hw.ents _ (List.getElem_mem hjl)
   obtain ⟨b,o,cap,opn,cs,ty,op,ro,fz,v1,hg,hll,he⟩ := (hw.chosen.keep (hk0.trans hk1)).get (k := j) (x := w.es[j].1.cells) (by simp [hjl])
   rw [List.length_map] at v1
   unfold getR at he
   have i3 : IntKind.i64.wrap (s - w.x.first) = (j : Int) := by rw [wrapI (by omega) (by omega),hj]
   obtain ⟨h3,e3,g3,k3,z3⟩ := put_ex (o := 0) (ws := w.es[j].1.cells) ge (by rw [fl,fl]; decide) dx.one rfl
   have g3' : h3.get h1.size = some (.cells w.es[j].1.cells 49 false false none) := g3
   have k3' : Kp h h3 := Keeps.trans (n := h.size) (hk0.trans hk1) (k3.mono hle)
   have flx := fl w.es[j].1
   have p0x := p0 w.es[j].1
   rw [hn]
   generalize hxc : w.es[j].1.cells = xc at *
   simp only [GR,evK,binV,intOp,strOp,shOp,unV,Nat.reduceLT,Nat.reduceEqDiff,Nat.reduceAdd,↓reduceIte,Nat.reduceLeDiff,reduceCtorEq,fn31,c31,r31_0,hh1,hh2',r31_1,gx,View.len,View.g6,View.g7,e1,hlt,u1,u2,u3,u4,hge,r31_3]
   rw [← e1,v1]
   simp only [GR,evK,binV,intOp,strOp,shOp,unV,Nat.reduceLT,Nat.reduceEqDiff,Nat.reduceAdd,↓reduceIte,Nat.reduceLeDiff,reduceCtorEq,hge,i3,hg,Int.ofNat_lt,hjl,Int.natCast_nonneg,Int.toNat_natCast,hll,he,flx,p0x,e3]
   rw [resVs_c (L := 32) (i := h1.size) (o := 0) (by decide) _ (by rfl)]
   simp only [GR,evK,binV,intOp,strOp,shOp,unV,Nat.reduceLT,Nat.reduceEqDiff,Nat.reduceAdd,↓reduceIte,Nat.reduceLeDiff,reduceCtorEq,g3',flx,p0x]
   exact ⟨by rw [← hxc]; rfl,k3'⟩
def atR (w : WV) (s : Int) : Option (Entry × DEnt) := if okF w.x.first = true then atW w s else none
set_option maxHeartbeats 2000000 in
theorem at28 (F : Fa E) {w : WV} {s : Int} {h : H} (hw : VIn h w) (hs0 : -9223372036854775808 ≤ s) (hs1 : s ≤ 9223372036854775807) :
  Sp P E (.func 28 [] []) [.agg w.x.cells,.int .i64 s] h fun r h' => r = .tup [.agg (entOf (atR w s)).cells,.bool (atR w s).isSome] ∧ Kp h h' := by
 have hl := hw.elen
 have hk0 : Kp h (h.psh (.cells w.x.cells 63 false false none)) := Keeps.psh (Nat.le_refl _) _
 have gx0 := psh_same h (.cells w.x.cells 63 false false none)
 generalize hh1 : h.psh (.cells w.x.cells 63 false false none) = h1 at *
 have hk1 : Kp h1 (h1.psh (.cells Entry.zero.cells 49 false false none)) := Keeps.psh (Nat.le_refl _) _
 have gx1 := Kp.of hk1 gx0
 have ge1 := psh_same h1 (.cells Entry.zero.cells 49 false false none)
 generalize hh2 : h1.psh (.cells Entry.zero.cells 49 false false none) = h2 at *
 have fl : ∀ z : Entry,z.cells.length = 56 := fun _ => rfl
 have p0 : ∀ z : Entry,List.take 56 z.cells = z.cells := fun _ => rfl
 have p21 : ∀ z : View,List.take 21 z.cells = z.cells := fun _ => rfl
 have hle : h.size ≤ h1.size := hk0.size
 obtain ⟨a1,c1,o1,e1⟩ := hw.chosen.len
 rw [List.length_map] at e1
 refine Sp_fn F.f28 F.p28 (by simp [fn28]) ?_
 have hh2' := hh2
 simp only [Entry.zero,Entry.cells,Opr.cells,Epoch.cells,Vec.cells,Part.cells] at hh2'
 simp only [GR,evK,binV,intOp,strOp,shOp,unV,Nat.reduceLT,Nat.reduceEqDiff,Nat.reduceAdd,↓reduceIte,Nat.reduceLeDiff,reduceCtorEq,fn28,c28,r28_0,hh1,hh2',r28_1,gx1,View.len,p21]
 refine XC_of (starts27 F) ?_
 rintro _ h4 ⟨rfl,k4⟩
 have gx := Kp.of k4 gx1
 have ge := Kp.of k4 ge1
 have kk := (hk0.trans hk1).trans k4
 have none_case : atR w s = none → ∀ ρ : Nat → V,ρ 4 = .ptr (some (h1.size,0)) → XO P E none 34 r28_2 [.c .ret,.c (.seq (.region r28_3) (.ret))] ρ h4 (Fin [.c 4 56 true,.t 5] fun r h' => r = .tup [.agg (entOf (atR w s)).cells,.bool (atR w s).isSome] ∧ Kp h h') := by
  intro hn ρ q4
  rw [hn]
  obtain ⟨h3,e3,g3,k3,z3⟩ := put_ex (o := 0) (ws := Entry.zero.cells) ge (by rw [fl]; decide) (by decide) rfl
  have g3' : h3.get h1.size = some (.cells Entry.zero.cells 49 false false none) := g3
  have k3' : Kp h h3 := Keeps.trans (n := h.size) kk (k3.mono hle)
  have fz := fl Entry.zero
  have pz := p0 Entry.zero
  generalize hzc : Entry.zero.cells = zc at *
  rw [← hzc] at e3
  simp only [Entry.zero,Entry.cells,Opr.cells,Epoch.cells,Vec.cells,Part.cells] at e3
  simp only [GR,evK,binV,intOp,strOp,shOp,unV,Nat.reduceLT,Nat.reduceEqDiff,Nat.reduceAdd,↓reduceIte,Nat.reduceLeDiff,reduceCtorEq,r28_2,q4,e3]
  rw [resVs_c (L := 34) (i := h1.size) (o := 0) (by decide) _ (by exact q4)]
  simp only [GR,evK,binV,intOp,strOp,shOp,unV,Nat.reduceLT,Nat.reduceEqDiff,Nat.reduceAdd,↓reduceIte,Nat.reduceLeDiff,reduceCtorEq,g3',fz,pz]
  exact ⟨by rw [← hzc]; rfl,k3'⟩
 cases hf : okF w.x.first with
 | false =>
  have hn : atR w s = none := by unfold atR; rw [hf]; rfl
  simp only [GR,evK,binV,intOp,strOp,shOp,unV,Nat.reduceLT,Nat.reduceEqDiff,Nat.reduceAdd,↓reduceIte,Nat.reduceLeDiff,reduceCtorEq,Bool.not_false]
  exact none_case hn _ rfl
 | true =>
  obtain ⟨f0,f1⟩ := okF_iff.1 hf
  have hr : atR w s = atW w s := by unfold atR; rw [hf]; rfl
  by_cases hlt : s < w.x.first
  ·have hn : atR w s = none := by rw [hr]; unfold atW; rw [if_neg (by omega)]
   simp only [GR,evK,binV,intOp,strOp,shOp,unV,Nat.reduceLT,Nat.reduceEqDiff,Nat.reduceAdd,↓reduceIte,Nat.reduceLeDiff,reduceCtorEq,Bool.not_true,gx,View.len,View.g6,hlt]
   exact none_case hn _ rfl
  ·have i0 : IntKind.i64.wrap (s - w.x.first) = s - w.x.first := wrapI (by omega) (by omega)
   by_cases hge : s - w.x.first ≥ (w.es.length : Int)
   ·have hn : atR w s = none := by rw [hr]; unfold atW; rw [if_pos (by omega)]; exact List.getElem?_eq_none (by omega)
    simp only [GR,evK,binV,intOp,strOp,shOp,unV,Nat.reduceLT,Nat.reduceEqDiff,Nat.reduceAdd,↓reduceIte,Nat.reduceLeDiff,reduceCtorEq,Bool.not_true,gx,View.len,View.g6,View.g7,e1,hlt,i0,hge]
    exact none_case hn _ rfl
   ·obtain ⟨j,hj⟩ : ∃ j : Nat,s - w.x.first = j := ⟨(s - w.x.first).toNat,by omega⟩
    have hjl : j < w.es.length := by omega
    have hn : atR w s = some w.es[j] := by rw [hr]; unfold atW; rw [if_pos (by omega),hj,Int.toNat_natCast,List.getElem?_eq_getElem hjl]
    have dx := hw.ents _ (List.getElem_mem hjl)
    obtain ⟨b,o,cap,opn,cs,ty,op,ro,fz,v1,hg,hll,he⟩ := (hw.chosen.keep kk).get (k := j) (x := w.es[j].1.cells) (by simp [hjl])
    rw [List.length_map] at v1
    unfold getR at he
    have i3 : IntKind.i64.wrap (s - w.x.first) = (j : Int) := by rw [i0,hj]
    obtain ⟨h3,e3,g3,k3,z3⟩ := put_ex (o := 0) (ws := w.es[j].1.cells) ge (by rw [fl,fl]; decide) dx.one rfl
    have g3' : h3.get h1.size = some (.cells w.es[j].1.cells 49 false false none) := g3
    have k3' : Kp h h3 := Keeps.trans (n := h.size) kk (k3.mono hle)
    have flx := fl w.es[j].1
    have p0x := p0 w.es[j].1
    rw [hn]
    generalize hxc : w.es[j].1.cells = xc at *
    simp only [GR,evK,binV,intOp,strOp,shOp,unV,Nat.reduceLT,Nat.reduceEqDiff,Nat.reduceAdd,↓reduceIte,Nat.reduceLeDiff,reduceCtorEq,Bool.not_true,gx,View.len,View.g6,View.g7,e1,hlt,i0,hge,r28_3]
    rw [← e1,v1]
    rw [hj]
    simp only [GR,evK,binV,intOp,strOp,shOp,unV,Nat.reduceLT,Nat.reduceEqDiff,Nat.reduceAdd,↓reduceIte,Nat.reduceLeDiff,reduceCtorEq,hg,Int.ofNat_lt,hjl,Int.natCast_nonneg,Int.toNat_natCast,hll,he,flx,p0x,e3]
    rw [resVs_c (L := 34) (i := h1.size) (o := 0) (by decide) _ (by rfl)]
    simp only [GR,evK,binV,intOp,strOp,shOp,unV,Nat.reduceLT,Nat.reduceEqDiff,Nat.reduceAdd,↓reduceIte,Nat.reduceLeDiff,reduceCtorEq,g3',flx,p0x]
    exact ⟨by rw [← hxc]; rfl,k3'⟩
def KC (h h' : H) : Prop := ∀ i vs ty op ro fz,h.get i = some (.cells vs ty op ro fz) → h'.get i = some (.cells vs ty op ro fz)
theorem KC.refl (h : H) : KC h h := fun _ _ _ _ _ _ x => x
theorem KC.trans {a b c : H} (x : KC a b) (y : KC b c) : KC a c := fun i vs ty op ro fz h => y i vs ty op ro fz (x i vs ty op ro fz h)
theorem KC.kp {h h' : H} (k : Kp h h') : KC h h' := fun _ _ _ _ _ _ x => k.of x
theorem Sl.kc {h h' : H} {sz : Nat} {v : V} {xs : List (List V)} (s : Sl h sz v xs) (hk : KC h h') : Sl h' sz v xs := by
 cases s with
 | nil a cap opn => exact .nil a cap opn
 | «at» b o cap opn xs vs ty op ro fz hg hl he => exact .at b o cap opn xs vs ty op ro fz (hk _ _ _ _ _ _ hg) hl he
theorem Str.kc {h h' : H} {v : V} {s : List UInt8} (a : Str h v s) (hk : KC h h') : Str h' v s := by
 rcases a with a | ⟨p,n,c,o,cs,h1,h2,h3⟩
 ·exact .inl a
 ·refine .inr ⟨p,n,c,o,cs,h1,?_,h3⟩
  obtain ⟨i,q⟩ := p
  by_cases hn : n * 1 = 0
  ·simp only [elemsV,hn,if_true] at h2 ⊢; exact h2
  ·simp only [elemsV,hn,if_false] at h2 ⊢
   split at h2
   ·rename_i vs ty op ro fz hg
    rw [hk _ _ _ _ _ _ hg]
    exact h2
   ·cases h2
theorem EIn.kc {h h' : H} {x : Entry} {d : DEnt} (a : EIn h x d) (hk : KC h h') : EIn h' x d := ⟨a.flat,Sl.kc a.ops hk,a.len,Str.kc a.dat hk,a.dlen⟩
theorem Sl.elems {h : H} {sz : Nat} {v : V} {xs : List (List V)} (s : Sl h sz v xs) (hx : ∀ x ∈ xs,x.length = sz) : elemsV h sz xs.length v = some xs.flatten := by
 cases s with
 | nil a cap opn =>
  cases a with
  | none => simp [elemsV]
  | some p => obtain ⟨i,o⟩ := p; simp [elemsV]
 | «at» b o cap opn _ vs ty op ro fz hg hl he =>
  have key : ∀ m,m ≤ xs.length → getR vs o (m * sz) = (xs.take m).flatten := by
   intro m
   induction m with
   | zero => intro _; simp [getR]
   | succ m ih =>
    intro hm
    have h1 := ih (by omega)
    have h2 := he m xs[m] (by simp)
    rw [List.take_succ_eq_append_getElem (by omega),List.flatten_append,← h1]
    have : getR vs o ((m + 1) * sz) = getR vs o (m * sz) ++ getR vs (o + m * sz) sz := by
     unfold getR
     rw [show (m + 1) * sz = m * sz + sz by rw [Nat.add_mul,Nat.one_mul],List.take_add,List.drop_drop]
    rw [this,h2]
    simp
  have hk := key xs.length (Nat.le_refl _)
  rw [List.take_length] at hk
  simp only [elemsV,hg]
  by_cases h0 : xs.length * sz = 0
  ·rw [if_pos h0]
   rw [h0] at hk
   rw [← hk]; simp [getR]
  ·rw [if_neg h0,if_pos hl,hk]
def cutB (h : H) (b : Nat) : H := if b < h.size then h.set b .dead else h
theorem cutB_lt {h : H} {b : Nat} (hb : b < h.size) : cutB h b = h.set b .dead := if_pos hb
theorem cutB_kc (h : H) (b : Nat) : KC (cutB h b) h := by
 intro i vs ty op ro fz hg
 unfold cutB at hg
 split at hg
 ·rename_i hb
  by_cases hi : b = i
  ·subst hi; rw [hset_same hb] at hg; cases hg
  ·rw [hset_other hb hi] at hg; exact hg
 ·exact hg
def cutV (h : H) : V → H
 | .slice (some (b,_)) _ _ _ => cutB h b
 | _ => h
theorem cut_kc (h : H) (v : V) : KC (cutV h v) h := by
 unfold cutV
 split
 ·exact cutB_kc _ _
 ·exact KC.refl _
theorem Acc.lt {h : H} {lo ty sz : Nat} {v : V} {xs : List (List V)} (a : Acc h lo ty sz v xs) {b q n c : Nat} {o : Bool} (hv : v = .slice (some (b,q)) n c o) : b < h.size := by
 rcases a.shape with ⟨_,rfl⟩ | ⟨b',rfl,_,h3⟩
 ·cases hv
 ·cases hv; exact H.get_lt h3
theorem app_one {h : H} {lo ty sz bytes : Nat} {v x : V} {xs : List (List V)} {y : List V} (a : Acc h lo ty sz v xs) (hlo : lo ≤ h.size) (hl : lenV x = some 1) (he : elemsV h sz 1 x = some y)
  (hy : y.length = sz ∧ y.all V.one = true) (hb : xs.length + 1 ≤ 1099511627776 ∧ (2 * (xs.length + 1) + 1024) * bytes ≤ 281474976710656) :
  ∃ v' h',appV h ty sz bytes v x = some (.eff v' h') ∧ Acc h' lo ty sz v' (xs ++ [y]) ∧ Keeps lo h h' ∧ KC (cutV h v) (cutV h' v') := by
 have hall : ∀ z ∈ xs ++ [y],z.length = sz ∧ z.all V.one = true := fun z hz => (List.mem_append.1 hz).elim (a.elem z) fun hz => by rw [List.mem_singleton.1 hz]; exact hy
 have news : ∀ (h : H) (o : Obj),KC h (cutB (h.psh o) h.size) := by
  intro h o i vs ty op ro fz hg
  have hi := H.get_lt hg
  rw [cutB_lt (by rw [psh_size]; omega),hset_other (by rw [psh_size]; omega) (by omega),H.get_psh,if_neg (by omega)]
  exact hg
 rcases a.shape with ⟨rfl,rfl⟩ | ⟨b,rfl,h2,h3⟩
 ·refine ⟨.slice (some (h.size,0)) 1 1 true,h.psh (.cells y ty true false none),?_,⟨.inr ⟨h.size,by simp,hlo,by rw [psh_same]; simp⟩,hall⟩,Keeps.psh hlo _,news h _⟩
  simp only [List.length_nil,Nat.zero_add] at hb
  have h1 : ¬ (1 : Nat) ≤ 0 := by omega
  have hb2 : 2 * 1 + 1024 = 1026 := rfl
  unfold appV
  simp only [hl,he,Nat.zero_add,h1,if_false,hb,and_self,if_true,push_eq]
  simp [elemsV]
 ·have hbs := H.get_lt h3
  have hfl := flatten_length a.elem
  refine ⟨.slice (some (h.size,0)) (xs.length + 1) (xs.length + 1) true,(h.set b .dead).psh (.cells (xs.flatten ++ y) ty true false none),?_,⟨.inr ⟨h.size,by simp,hlo,?_⟩,hall⟩,?_,?_⟩
  ·have h1 : ¬ xs.length + 1 ≤ xs.length := by omega
   have h4 : 0 + xs.length * sz = xs.flatten.length := by rw [hfl]; omega
   unfold appV
   simp only [hl,he,h1,if_false,hb,and_self,if_true,h3,Nat.le_refl,h4,hy.2,fzFree]
   simp only [push_eq,Option.map_none]
   rw [getR_all (by rw [hfl])]
  ·have := psh_same (h.set b .dead) (.cells (xs.flatten ++ y) ty true false none)
   rw [H.set_size] at this
   rw [this]; simp
  ·exact (Keeps.set hbs h2 _).trans (Keeps.psh (by rw [H.set_size]; exact hlo) _)
  ·show KC (cutB h b) (cutB ((h.set b .dead).psh (.cells (xs.flatten ++ y) ty true false none)) h.size)
   rw [cutB_lt hbs]
   exact news (h.set b .dead) _
def KL (lo : Nat) (h h' : H) : Prop := ∀ i vs ty op ro fz,lo ≤ i → h.get i = some (.cells vs ty op ro fz) → h'.get i = some (.cells vs ty op ro fz)
theorem KL.kp {h h' : H} (k : Kp h h') (lo : Nat) : KL lo h h' := fun _ _ _ _ _ _ _ x => k.of x
theorem KL.set {lo b : Nat} {h : H} (hb : b < lo) (hlt : b < h.size) (o : Obj) : KL lo h (h.set b o) := fun i _ _ _ _ _ hi x => by rw [hset_other hlt (by omega)]; exact x
theorem KL.trans {lo : Nat} {a b c : H} (x : KL lo a b) (y : KL lo b c) : KL lo a c := fun i vs ty op ro fz hi h => y i vs ty op ro fz hi (x i vs ty op ro fz hi h)
theorem KL.cut {lo b : Nat} {h : H} (hb : b < lo) : KL lo h (cutB h b) := by
 unfold cutB
 split
 ·rename_i hlt; exact KL.set hb hlt _
 ·exact fun _ _ _ _ _ _ _ x => x
def SlF (lo : Nat) (h : H) (v : V) (sz : Nat) (xs : List (List V)) : Prop := (∃ a c o,v = .slice a 0 c o ∧ xs = []) ∨ ∃ b ty,lo ≤ b ∧ v = .slice (some (b,0)) xs.length xs.length true ∧ h.get b = some (.cells xs.flatten ty true false none)
def DFr (lo : Nat) (h : H) (v : V) (s : List UInt8) : Prop := (∃ a c o,v = .slice a 0 c o ∧ s = []) ∨ ∃ b ty cs,lo ≤ b ∧ v = .slice (some (b,0)) cs.length cs.length true ∧ h.get b = some (.cells cs ty true false none) ∧ bytesV cs = some s
theorem SlF.mv {lo : Nat} {h h' : H} {v : V} {sz : Nat} {xs : List (List V)} (a : SlF lo h v sz xs) (k : KL lo h h') : SlF lo h' v sz xs := by
 rcases a with a | ⟨b,ty,h1,h2,h3⟩
 ·exact .inl a
 ·exact .inr ⟨b,ty,h1,h2,k _ _ _ _ _ _ h1 h3⟩
theorem SlF.lo {lo lo' : Nat} {h : H} {v : V} {sz : Nat} {xs : List (List V)} (a : SlF lo h v sz xs) (k : lo' ≤ lo) : SlF lo' h v sz xs := by
 rcases a with a | ⟨b,ty,h1,h2,h3⟩
 ·exact .inl a
 ·exact .inr ⟨b,ty,Nat.le_trans k h1,h2,h3⟩
theorem DFr.mv {lo : Nat} {h h' : H} {v : V} {s : List UInt8} (a : DFr lo h v s) (k : KL lo h h') : DFr lo h' v s := by
 rcases a with a | ⟨b,ty,cs,h1,h2,h3,h4⟩
 ·exact .inl a
 ·exact .inr ⟨b,ty,cs,h1,h2,k _ _ _ _ _ _ h1 h3,h4⟩
theorem DFr.lo {lo lo' : Nat} {h : H} {v : V} {s : List UInt8} (a : DFr lo h v s) (k : lo' ≤ lo) : DFr lo' h v s := by
 rcases a with a | ⟨b,ty,cs,h1,h2,h3,h4⟩
 ·exact .inl a
 ·exact .inr ⟨b,ty,cs,Nat.le_trans k h1,h2,h3,h4⟩
theorem flat_get {sz : Nat} : ∀ (l : List (List V)) (k : Nat) (x : List V),(∀ y ∈ l,y.length = sz) → l[k]? = some x → (l.flatten.drop (k * sz)).take sz = x
 | [],k,x,_,hk => by simp at hk
 | y :: l,k,x,hl,hk => by
  have hy := hl y List.mem_cons_self
  cases k with
  | zero =>
   simp only [List.getElem?_cons_zero,Option.some.injEq] at hk
   subst hk
   rw [Nat.zero_mul,List.drop_zero,List.flatten_cons,← hy,List.take_left']
   rfl
  | succ k =>
   simp only [List.getElem?_cons_succ] at hk
   have := flat_get l k x (fun z hz => hl z (List.mem_cons_of_mem _ hz)) hk
   rw [List.flatten_cons,show (k + 1) * sz = y.length + k * sz by rw [Nat.add_mul,hy]; omega,← List.drop_drop,List.drop_left']
   ·exact this
   ·rfl
theorem flat_len {sz : Nat} : ∀ (l : List (List V)),(∀ y ∈ l,y.length = sz) → l.flatten.length = l.length * sz
 | [],_ => by simp
 | y :: l,h => by
  rw [List.flatten_cons,List.length_append,flat_len l fun z hz => h z (List.mem_cons_of_mem _ hz),h y List.mem_cons_self,List.length_cons,Nat.add_mul]; omega
theorem SlF.sl {lo : Nat} {h : H} {v : V} {sz : Nat} {xs : List (List V)} (a : SlF lo h v sz xs) (hx : ∀ x ∈ xs,x.length = sz) : Sl h sz v xs := by
 rcases a with ⟨a,c,o,rfl,rfl⟩ | ⟨b,ty,h1,rfl,h3⟩
 ·exact .nil _ _ _
 ·refine .at b 0 _ _ xs _ _ _ _ _ h3 (by rw [flat_len xs hx]; omega) fun k x hk => ?_
  unfold getR
  rw [Nat.zero_add]
  exact flat_get xs k x hx hk
theorem DFr.str {lo : Nat} {h : H} {v : V} {s : List UInt8} (a : DFr lo h v s) : Str h v s := by
 rcases a with ⟨a,c,o,rfl,rfl⟩ | ⟨b,ty,cs,h1,rfl,h3,h4⟩
 ·cases a with
  | none => exact .inl ⟨_,_,rfl,rfl⟩
  | some p =>
   obtain ⟨i,q⟩ := p
   exact .inr ⟨(i,q),0,c,o,[],rfl,by simp [elemsV],rfl⟩
 ·refine .inr ⟨(b,0),cs.length,cs.length,true,cs,rfl,?_,h4⟩
  simp only [elemsV,h3,Nat.mul_one,Nat.zero_add,Nat.le_refl,if_true]
  by_cases h0 : cs.length = 0
  ·rw [if_pos h0,List.eq_nil_of_length_eq_zero h0]
  ·rw [if_neg h0,getR_all rfl]
structure EFr (lo : Nat) (h : H) (x : Entry) (d : DEnt) : Prop where
 flat : flatOf x = d.flat
 ops : SlF lo h x.ops 8 (d.ops.map Opr.cells)
 len : d.ops.length ≤ 1048576
 dat : DFr lo h x.part.data d.data
 dlen : d.data.length ≤ 1048576
theorem opr_len {xs : List Opr} : ∀ x ∈ xs.map Opr.cells,x.length = 8 := by
 intro x hx
 obtain ⟨y,_,rfl⟩ := List.mem_map.1 hx
 rfl
theorem EFr.ein {lo : Nat} {h : H} {x : Entry} {d : DEnt} (a : EFr lo h x d) : EIn h x d := ⟨a.flat,a.ops.sl opr_len,a.len,a.dat.str,a.dlen⟩
theorem EFr.mv {lo : Nat} {h h' : H} {x : Entry} {d : DEnt} (a : EFr lo h x d) (k : KL lo h h') : EFr lo h' x d := ⟨a.flat,a.ops.mv k,a.len,a.dat.mv k,a.dlen⟩
theorem EFr.cut {lo b : Nat} {h : H} {x : Entry} {d : DEnt} (a : EFr lo h x d) (hb : b < lo) : EIn (cutB h b) x d := (a.mv (KL.cut hb)).ein
theorem app_mk {h : H} {ty sz bytes n : Nat} {base : Option (Nat × Nat)} {x : V} {ys : List V} (hl : lenV x = some n) (he : elemsV h sz n x = some ys) (hb : n ≤ 1099511627776 ∧ (2 * n + 1024) * bytes ≤ 281474976710656) :
  ∃ v' h',appV h ty sz bytes (.slice base 0 0 false) x = some (.eff v' h') ∧ Kp h h' ∧ ((n = 0 ∧ ∃ a,v' = .slice a 0 0 false) ∨ (0 < n ∧ v' = .slice (some (h.size,0)) n n true ∧ h'.get h.size = some (.cells ys ty true false none))) := by
 by_cases hn : n = 0
 ·subst hn
  have : ys = [] := by
   cases x with
   | slice a m c o =>
    cases a with
    | none => simp [elemsV] at he; exact he
    | some p => obtain ⟨i,q⟩ := p; simp [elemsV] at he; exact he
   | str s => simp [elemsV] at he; exact he.2
   | _ => simp [elemsV] at he
  subst this
  refine ⟨.slice base 0 0 false,h,?_,Keeps.refl _ _,.inl ⟨rfl,_,rfl⟩⟩
  unfold appV
  cases base with
  | none => simp [hl,he]
  | some p => obtain ⟨i,q⟩ := p; simp [hl,he,putCells]
 ·refine ⟨.slice (some (h.size,0)) n n true,h.psh (.cells ys ty true false none),?_,Keeps.psh (Nat.le_refl _) _,.inr ⟨by omega,rfl,psh_same _ _⟩⟩
  have h1 : ¬ n ≤ 0 := by omega
  unfold appV
  simp only [hl,he,Nat.zero_add,h1,if_false,hb,and_self,if_true,push_eq]
  cases base with
  | none => simp [elemsV]
  | some p => obtain ⟨i,q⟩ := p; simp [elemsV]
end Go.AM.Sc
