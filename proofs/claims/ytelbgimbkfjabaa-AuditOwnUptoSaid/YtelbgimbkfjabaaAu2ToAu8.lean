/- My own texts, laid for this claim. -/
import Derived.Test.YtelbgimbkfjabaaAuCodeToAu1
set_option linter.unusedSimpArgs false
set_option linter.unusedVariables false
namespace Go.AM.Sc
open Go.AM
variable {P : Program} {E : Env}
theorem bool_step (h : H) (a b : Bool) : eqV h .bool (.bool a) (.bool b) = some (decide (a = b)) := by
 simp only [eqV]
 congr 1
theorem beq_dec (a b : List UInt8) : (a == b) = decide (a = b) := by rw [Bool.eq_iff_iff]; simp
theorem Sp.kp {g : V} {args : List V} {h : H} {b : Bool} (s : Sp P E g args h fun r h' => r = .bool b ∧ h' = h) : Sp P E g args h fun r h' => r = .bool b ∧ Kp h h' := by
 obtain ⟨v,h',he,h1,rfl⟩ := s
 exact ⟨v,_,he,h1,Keeps.refl _ _⟩
set_option maxRecDepth 100000 in
theorem e34_all : r34_1 = a34_0 ++ (a34_1 ++ (a34_2 ++ (a34_3))) := rfl
theorem s34_0 {P : Program} {E : Env} {K : List Fr} {Q : Po} {x y : Part} {ρ : Nat → V} {h : H} {bx bz : Nat} {rest : List O} (hx : cC h bx x.cells 47) (hy : cC h bz y.cells 47) (h2 : ρ 2 = pP bx) (h3 : ρ 3 = pP bz) (hk : ∀ (ρ' : Nat → V),ρ' 2 = pP bx → ρ' 3 = pP bz → ρ' 10 = .bool (decide (x.snap = y.snap)) → XO P E none 33 rest K ρ' h Q) : XO P E none 33 (a34_0 ++ rest) K ρ h Q := by
 simp only [GR,evK,binV,intOp,strOp,shOp,unV,Nat.reduceLT,Nat.reduceEqDiff,Nat.reduceAdd,↓reduceIte,Nat.reduceLeDiff,reduceCtorEq,a34_0,h2,h3,hx,hy,Part.len,Part.g0]
 exact hk _ h2 h3 (by first | rfl | (simp; done) | exact congrArg V.bool (beq_dec _ _))
theorem s34_1 {P : Program} {E : Env} {K : List Fr} {Q : Po} {x y : Part} {ρ : Nat → V} {h : H} {bx bz : Nat} {rest : List O} {b : Bool} (hx : cC h bx x.cells 47) (hy : cC h bz y.cells 47) (h2 : ρ 2 = pP bx) (h3 : ρ 3 = pP bz) (hg : ρ 10 = .bool b) (hk : ∀ (ρ' : Nat → V),ρ' 2 = pP bx → ρ' 3 = pP bz → ρ' 17 = .bool (b && decide (x.index = y.index)) → XO P E none 33 rest K ρ' h Q) : XO P E none 33 (a34_1 ++ rest) K ρ h Q := by
 cases b with
 | false =>
  simp only [GR,evK,binV,intOp,strOp,shOp,unV,Nat.reduceLT,Nat.reduceEqDiff,Nat.reduceAdd,↓reduceIte,Nat.reduceLeDiff,reduceCtorEq,a34_1,hg]
  exact hk _ h2 h3 rfl
 | true =>
  simp only [GR,evK,binV,intOp,strOp,shOp,unV,Nat.reduceLT,Nat.reduceEqDiff,Nat.reduceAdd,↓reduceIte,Nat.reduceLeDiff,reduceCtorEq,a34_1,hg,h2,h3,hx,hy,Part.len,Part.g1]
  exact hk _ h2 h3 (by first | rfl | (simp; done) | exact congrArg V.bool (beq_dec _ _))
theorem s34_2 {P : Program} {E : Env} {K : List Fr} {Q : Po} {x y : Part} {ρ : Nat → V} {h : H} {bx bz : Nat} {rest : List O} {b : Bool} (hx : cC h bx x.cells 47) (hy : cC h bz y.cells 47) (h2 : ρ 2 = pP bx) (h3 : ρ 3 = pP bz) (hg : ρ 17 = .bool b) (hk : ∀ (ρ' : Nat → V),ρ' 2 = pP bx → ρ' 3 = pP bz → ρ' 24 = .bool (b && decide (x.many = y.many)) → XO P E none 33 rest K ρ' h Q) : XO P E none 33 (a34_2 ++ rest) K ρ h Q := by
 cases b with
 | false =>
  simp only [GR,evK,binV,intOp,strOp,shOp,unV,Nat.reduceLT,Nat.reduceEqDiff,Nat.reduceAdd,↓reduceIte,Nat.reduceLeDiff,reduceCtorEq,a34_2,hg]
  exact hk _ h2 h3 rfl
 | true =>
  simp only [GR,evK,binV,intOp,strOp,shOp,unV,Nat.reduceLT,Nat.reduceEqDiff,Nat.reduceAdd,↓reduceIte,Nat.reduceLeDiff,reduceCtorEq,a34_2,hg,h2,h3,hx,hy,Part.len,Part.g2]
  exact hk _ h2 h3 (by first | rfl | (simp; done) | exact congrArg V.bool (beq_dec _ _))
theorem s34_3 {P : Program} {E : Env} {K : List Fr} {Q : Po} {x y : Part} {ρ : Nat → V} {h : H} {bx bz : Nat} {rest : List O} {b : Bool} (hx : cC h bx x.cells 47) (hy : cC h bz y.cells 47) (h2 : ρ 2 = pP bx) (h3 : ρ 3 = pP bz) (hg : ρ 24 = .bool b) {c : Bool} {s s' : List UInt8} (hs : Str h x.data s) (hs' : Str h y.data s') (hcc : (s == s') = c) (hk : ∀ (ρ' : Nat → V),ρ' 2 = pP bx → ρ' 3 = pP bz → ρ' 4 = .bool (b && c) → XO P E none 33 rest K ρ' h Q) : XO P E none 33 (a34_3 ++ rest) K ρ h Q := by
 cases b with
 | false =>
  simp only [GR,evK,binV,intOp,strOp,shOp,unV,Nat.reduceLT,Nat.reduceEqDiff,Nat.reduceAdd,↓reduceIte,Nat.reduceLeDiff,reduceCtorEq,a34_3,hg]
  exact hk _ h2 h3 rfl
 | true =>
  subst hcc
  rcases hs with ⟨cx,ox,wx,rfl⟩ | ⟨px,nx,cx,ox,csx,wx,w1,w2⟩ <;> rcases hs' with ⟨cy,oy,wy,rfl⟩ | ⟨py,ny,cy,oy,csy,wy,z1,z2⟩
  ·simp only [GR,evK,binV,intOp,strOp,shOp,unV,Nat.reduceLT,Nat.reduceEqDiff,Nat.reduceAdd,↓reduceIte,Nat.reduceLeDiff,reduceCtorEq,a34_3,hg,h2,h3,hx,hy,Part.len,Part.g3,wx,wy,elems_none,Option.isNone_none,Option.isNone_some]
   exact hk _ h2 h3 (by first | rfl | (simp; done) | exact congrArg V.bool (beq_dec _ _))
  ·simp only [GR,evK,binV,intOp,strOp,shOp,unV,Nat.reduceLT,Nat.reduceEqDiff,Nat.reduceAdd,↓reduceIte,Nat.reduceLeDiff,reduceCtorEq,a34_3,hg,h2,h3,hx,hy,Part.len,Part.g3,z1,z2,wx,wy,elems_none,Option.isNone_none,Option.isNone_some]
   exact hk _ h2 h3 (by first | rfl | (simp; done) | exact congrArg V.bool (beq_dec _ _))
  ·simp only [GR,evK,binV,intOp,strOp,shOp,unV,Nat.reduceLT,Nat.reduceEqDiff,Nat.reduceAdd,↓reduceIte,Nat.reduceLeDiff,reduceCtorEq,a34_3,hg,h2,h3,hx,hy,Part.len,Part.g3,w1,w2,wx,wy,elems_none,Option.isNone_none,Option.isNone_some]
   exact hk _ h2 h3 (by first | rfl | (simp; done) | exact congrArg V.bool (beq_dec _ _))
  ·simp only [GR,evK,binV,intOp,strOp,shOp,unV,Nat.reduceLT,Nat.reduceEqDiff,Nat.reduceAdd,↓reduceIte,Nat.reduceLeDiff,reduceCtorEq,a34_3,hg,h2,h3,hx,hy,Part.len,Part.g3,w1,w2,z1,z2,wx,wy,elems_none,Option.isNone_none,Option.isNone_some]
   exact hk _ h2 h3 (by first | rfl | (simp; done) | exact congrArg V.bool (beq_dec _ _))
set_option maxRecDepth 100000 in
theorem part34 (F : Fa E) {x y : Part} {h : H} {s s' : List UInt8} (hs : Str h x.data s) (hs' : Str h y.data s') :
  Sp P E (.func 34 [] []) [.agg x.cells,.agg y.cells] h fun r h' => r = .bool (decide (x.snap = y.snap ∧ x.index = y.index ∧ x.many = y.many ∧ s = s')) ∧ Kp h h' := by
 have hg0 := psh_same h (.cells x.cells 47 false false none)
 have hk0 : Kp h (h.psh (.cells x.cells 47 false false none)) := Keeps.psh (Nat.le_refl _) _
 have hk1 : Kp (h.psh (.cells x.cells 47 false false none)) ((h.psh (.cells x.cells 47 false false none)).psh (.cells y.cells 47 false false none)) := Keeps.psh (Nat.le_refl _) _
 have gy := psh_same (h.psh (.cells x.cells 47 false false none)) (.cells y.cells 47 false false none)
 have gx := Kp.of hk1 hg0
 have kk := Kp.trans hk0 hk1
 refine Sp_fn F.f34 F.p34 (by simp [fn34]) ?_
 simp only [GR,evK,binV,intOp,strOp,shOp,unV,Nat.reduceLT,Nat.reduceEqDiff,Nat.reduceAdd,↓reduceIte,Nat.reduceLeDiff,reduceCtorEq,fn34,c34,r34_0,e34_all]
 generalize (h.psh (.cells x.cells 47 false false none)).psh (.cells y.cells 47 false false none) = h2 at *
 generalize (h.psh (.cells x.cells 47 false false none)).size = B at *
 refine s34_0 gx gy rfl rfl fun ρ p q r => ?_
 refine s34_1 gx gy p q r fun ρ p q r => ?_
 refine s34_2 gx gy p q r fun ρ p q r => ?_
 rw [← List.append_nil a34_3]
 refine s34_3 gx gy p q r (hs.keep kk) (hs'.keep kk) rfl fun ρ p q r => ?_
 simp only [GR,evK,binV,intOp,strOp,shOp,unV,Nat.reduceLT,Nat.reduceEqDiff,Nat.reduceAdd,↓reduceIte,Nat.reduceLeDiff,reduceCtorEq,r]
 refine ⟨?_,kk⟩
 congr 1
 rw [Bool.eq_iff_iff]
 refine Iff.trans ?_ decide_eq_true_iff.symm
 simp only [Bool.and_eq_true,decide_eq_true_eq,beq_iff_eq]
 simp only [and_assoc]
set_option maxRecDepth 100000 in
theorem e61_all : r61_1 = a61_0 ++ (a61_1 ++ (a61_2 ++ (a61_3))) := rfl
theorem s61_0 {P : Program} {E : Env} {K : List Fr} {Q : Po} {x y : Part} {ρ : Nat → V} {h : H} {bx bz : Nat} {rest : List O} (hx : cC h bx x.cells 47) (hy : cC h bz y.cells 47) (h2 : ρ 2 = pP bx) (h3 : ρ 3 = pP bz) (hk : ∀ (ρ' : Nat → V),ρ' 2 = pP bx → ρ' 3 = pP bz → ρ' 10 = .bool (decide (x.snap = y.snap)) → XO P E none 33 rest K ρ' h Q) : XO P E none 33 (a61_0 ++ rest) K ρ h Q := by
 simp only [GR,evK,binV,intOp,strOp,shOp,unV,Nat.reduceLT,Nat.reduceEqDiff,Nat.reduceAdd,↓reduceIte,Nat.reduceLeDiff,reduceCtorEq,a61_0,h2,h3,hx,hy,Part.len,Part.g0]
 exact hk _ h2 h3 (by first | rfl | (simp; done) | exact congrArg V.bool (beq_dec _ _))
theorem s61_1 {P : Program} {E : Env} {K : List Fr} {Q : Po} {x y : Part} {ρ : Nat → V} {h : H} {bx bz : Nat} {rest : List O} {b : Bool} (hx : cC h bx x.cells 47) (hy : cC h bz y.cells 47) (h2 : ρ 2 = pP bx) (h3 : ρ 3 = pP bz) (hg : ρ 10 = .bool b) (hk : ∀ (ρ' : Nat → V),ρ' 2 = pP bx → ρ' 3 = pP bz → ρ' 17 = .bool (b && decide (x.index = y.index)) → XO P E none 33 rest K ρ' h Q) : XO P E none 33 (a61_1 ++ rest) K ρ h Q := by
 cases b with
 | false =>
  simp only [GR,evK,binV,intOp,strOp,shOp,unV,Nat.reduceLT,Nat.reduceEqDiff,Nat.reduceAdd,↓reduceIte,Nat.reduceLeDiff,reduceCtorEq,a61_1,hg]
  exact hk _ h2 h3 rfl
 | true =>
  simp only [GR,evK,binV,intOp,strOp,shOp,unV,Nat.reduceLT,Nat.reduceEqDiff,Nat.reduceAdd,↓reduceIte,Nat.reduceLeDiff,reduceCtorEq,a61_1,hg,h2,h3,hx,hy,Part.len,Part.g1]
  exact hk _ h2 h3 (by first | rfl | (simp; done) | exact congrArg V.bool (beq_dec _ _))
theorem s61_2 {P : Program} {E : Env} {K : List Fr} {Q : Po} {x y : Part} {ρ : Nat → V} {h : H} {bx bz : Nat} {rest : List O} {b : Bool} (hx : cC h bx x.cells 47) (hy : cC h bz y.cells 47) (h2 : ρ 2 = pP bx) (h3 : ρ 3 = pP bz) (hg : ρ 17 = .bool b) (hk : ∀ (ρ' : Nat → V),ρ' 2 = pP bx → ρ' 3 = pP bz → ρ' 24 = .bool (b && decide (x.many = y.many)) → XO P E none 33 rest K ρ' h Q) : XO P E none 33 (a61_2 ++ rest) K ρ h Q := by
 cases b with
 | false =>
  simp only [GR,evK,binV,intOp,strOp,shOp,unV,Nat.reduceLT,Nat.reduceEqDiff,Nat.reduceAdd,↓reduceIte,Nat.reduceLeDiff,reduceCtorEq,a61_2,hg]
  exact hk _ h2 h3 rfl
 | true =>
  simp only [GR,evK,binV,intOp,strOp,shOp,unV,Nat.reduceLT,Nat.reduceEqDiff,Nat.reduceAdd,↓reduceIte,Nat.reduceLeDiff,reduceCtorEq,a61_2,hg,h2,h3,hx,hy,Part.len,Part.g2]
  exact hk _ h2 h3 (by first | rfl | (simp; done) | exact congrArg V.bool (beq_dec _ _))
theorem s61_3 {P : Program} {E : Env} {K : List Fr} {Q : Po} {x y : Part} {ρ : Nat → V} {h : H} {bx bz : Nat} {rest : List O} {b : Bool} (hx : cC h bx x.cells 47) (hy : cC h bz y.cells 47) (h2 : ρ 2 = pP bx) (h3 : ρ 3 = pP bz) (hg : ρ 24 = .bool b) {c : Bool} {s s' : List UInt8} (hs : Str h x.data s) (hs' : Str h y.data s') (hcc : (s == s') = c) (hk : ∀ (ρ' : Nat → V),ρ' 2 = pP bx → ρ' 3 = pP bz → ρ' 4 = .bool (b && c) → XO P E none 33 rest K ρ' h Q) : XO P E none 33 (a61_3 ++ rest) K ρ h Q := by
 cases b with
 | false =>
  simp only [GR,evK,binV,intOp,strOp,shOp,unV,Nat.reduceLT,Nat.reduceEqDiff,Nat.reduceAdd,↓reduceIte,Nat.reduceLeDiff,reduceCtorEq,a61_3,hg]
  exact hk _ h2 h3 rfl
 | true =>
  subst hcc
  rcases hs with ⟨cx,ox,wx,rfl⟩ | ⟨px,nx,cx,ox,csx,wx,w1,w2⟩ <;> rcases hs' with ⟨cy,oy,wy,rfl⟩ | ⟨py,ny,cy,oy,csy,wy,z1,z2⟩
  ·simp only [GR,evK,binV,intOp,strOp,shOp,unV,Nat.reduceLT,Nat.reduceEqDiff,Nat.reduceAdd,↓reduceIte,Nat.reduceLeDiff,reduceCtorEq,a61_3,hg,h2,h3,hx,hy,Part.len,Part.g3,wx,wy,elems_none,Option.isNone_none,Option.isNone_some]
   exact hk _ h2 h3 (by first | rfl | (simp; done) | exact congrArg V.bool (beq_dec _ _))
  ·simp only [GR,evK,binV,intOp,strOp,shOp,unV,Nat.reduceLT,Nat.reduceEqDiff,Nat.reduceAdd,↓reduceIte,Nat.reduceLeDiff,reduceCtorEq,a61_3,hg,h2,h3,hx,hy,Part.len,Part.g3,z1,z2,wx,wy,elems_none,Option.isNone_none,Option.isNone_some]
   exact hk _ h2 h3 (by first | rfl | (simp; done) | exact congrArg V.bool (beq_dec _ _))
  ·simp only [GR,evK,binV,intOp,strOp,shOp,unV,Nat.reduceLT,Nat.reduceEqDiff,Nat.reduceAdd,↓reduceIte,Nat.reduceLeDiff,reduceCtorEq,a61_3,hg,h2,h3,hx,hy,Part.len,Part.g3,w1,w2,wx,wy,elems_none,Option.isNone_none,Option.isNone_some]
   exact hk _ h2 h3 (by first | rfl | (simp; done) | exact congrArg V.bool (beq_dec _ _))
  ·simp only [GR,evK,binV,intOp,strOp,shOp,unV,Nat.reduceLT,Nat.reduceEqDiff,Nat.reduceAdd,↓reduceIte,Nat.reduceLeDiff,reduceCtorEq,a61_3,hg,h2,h3,hx,hy,Part.len,Part.g3,w1,w2,z1,z2,wx,wy,elems_none,Option.isNone_none,Option.isNone_some]
   exact hk _ h2 h3 (by first | rfl | (simp; done) | exact congrArg V.bool (beq_dec _ _))
set_option maxRecDepth 100000 in
theorem part61 (F : Fa E) {x y : Part} {h : H} {s s' : List UInt8} (hs : Str h x.data s) (hs' : Str h y.data s') :
  Sp P E (.func 61 [] []) [.agg x.cells,.agg y.cells] h fun r h' => r = .bool (decide (x.snap = y.snap ∧ x.index = y.index ∧ x.many = y.many ∧ s = s')) ∧ Kp h h' := by
 have hg0 := psh_same h (.cells x.cells 47 false false none)
 have hk0 : Kp h (h.psh (.cells x.cells 47 false false none)) := Keeps.psh (Nat.le_refl _) _
 have hk1 : Kp (h.psh (.cells x.cells 47 false false none)) ((h.psh (.cells x.cells 47 false false none)).psh (.cells y.cells 47 false false none)) := Keeps.psh (Nat.le_refl _) _
 have gy := psh_same (h.psh (.cells x.cells 47 false false none)) (.cells y.cells 47 false false none)
 have gx := Kp.of hk1 hg0
 have kk := Kp.trans hk0 hk1
 refine Sp_fn F.f61 F.p61 (by simp [fn61]) ?_
 simp only [GR,evK,binV,intOp,strOp,shOp,unV,Nat.reduceLT,Nat.reduceEqDiff,Nat.reduceAdd,↓reduceIte,Nat.reduceLeDiff,reduceCtorEq,fn61,c61,r61_0,e61_all]
 generalize (h.psh (.cells x.cells 47 false false none)).psh (.cells y.cells 47 false false none) = h2 at *
 generalize (h.psh (.cells x.cells 47 false false none)).size = B at *
 refine s61_0 gx gy rfl rfl fun ρ p q r => ?_
 refine s61_1 gx gy p q r fun ρ p q r => ?_
 refine s61_2 gx gy p q r fun ρ p q r => ?_
 rw [← List.append_nil a61_3]
 refine s61_3 gx gy p q r (hs.keep kk) (hs'.keep kk) rfl fun ρ p q r => ?_
 simp only [GR,evK,binV,intOp,strOp,shOp,unV,Nat.reduceLT,Nat.reduceEqDiff,Nat.reduceAdd,↓reduceIte,Nat.reduceLeDiff,reduceCtorEq,r]
 refine ⟨?_,kk⟩
 congr 1
 rw [Bool.eq_iff_iff]
 refine Iff.trans ?_ decide_eq_true_iff.symm
 simp only [Bool.and_eq_true,decide_eq_true_eq,beq_iff_eq]
 simp only [and_assoc]
theorem dent_iff {x y : Entry} {d d' : DEnt} (hx : flatOf x = d.flat) (hy : flatOf y = d'.flat) : d = d' ↔ flatOf x = flatOf y ∧ d.ops = d'.ops ∧ d.data = d'.data := by
 cases d; cases d'
 simp only at hx hy
 subst hx hy
 simp only [DEnt.mk.injEq]
set_option maxRecDepth 100000 in
theorem e11_all : r11_1 = a11_0 ++ (a11_1 ++ (a11_2 ++ (a11_3 ++ (a11_4 ++ (a11_5 ++ (a11_6 ++ (a11_7 ++ (a11_8 ++ (a11_9 ++ (a11_10 ++ (a11_11 ++ (a11_12 ++ (a11_13 ++ (a11_14)))))))))))))) := rfl
theorem s11_0 {P : Program} {E : Env} {K : List Fr} {Q : Po} {x y : Entry} {ρ : Nat → V} {h : H} {bx bz : Nat} {rest : List O} (hx : cC h bx x.cells 49) (hy : cC h bz y.cells 49) (h2 : ρ 2 = pP bx) (h3 : ρ 3 = pP bz) (hk : ∀ (ρ' : Nat → V),ρ' 2 = pP bx → ρ' 3 = pP bz → ρ' 10 = .bool (decide (x.kind = y.kind)) → XO P E none 108 rest K ρ' h Q) : XO P E none 108 (a11_0 ++ rest) K ρ h Q := by
 simp only [GR,evK,binV,intOp,strOp,shOp,unV,Nat.reduceLT,Nat.reduceEqDiff,Nat.reduceAdd,↓reduceIte,Nat.reduceLeDiff,reduceCtorEq,a11_0,h2,h3,hx,hy,Entry.len,Entry.g0]
 exact hk _ h2 h3 (by first | rfl | (simp; done) | exact congrArg V.bool (beq_dec _ _))
theorem s11_1 {P : Program} {E : Env} {K : List Fr} {Q : Po} {x y : Entry} {ρ : Nat → V} {h : H} {bx bz : Nat} {rest : List O} {b : Bool} (hx : cC h bx x.cells 49) (hy : cC h bz y.cells 49) (h2 : ρ 2 = pP bx) (h3 : ρ 3 = pP bz) (hg : ρ 10 = .bool b) (hk : ∀ (ρ' : Nat → V),ρ' 2 = pP bx → ρ' 3 = pP bz → ρ' 17 = .bool (b && decide (x.session = y.session)) → XO P E none 108 rest K ρ' h Q) : XO P E none 108 (a11_1 ++ rest) K ρ h Q := by
 cases b with
 | false =>
  simp only [GR,evK,binV,intOp,strOp,shOp,unV,Nat.reduceLT,Nat.reduceEqDiff,Nat.reduceAdd,↓reduceIte,Nat.reduceLeDiff,reduceCtorEq,a11_1,hg]
  exact hk _ h2 h3 rfl
 | true =>
  simp only [GR,evK,binV,intOp,strOp,shOp,unV,Nat.reduceLT,Nat.reduceEqDiff,Nat.reduceAdd,↓reduceIte,Nat.reduceLeDiff,reduceCtorEq,a11_1,hg,h2,h3,hx,hy,Entry.len,Entry.g1]
  exact hk _ h2 h3 (by first | rfl | (simp; done) | exact congrArg V.bool (beq_dec _ _))
theorem s11_2 {P : Program} {E : Env} {K : List Fr} {Q : Po} {x y : Entry} {ρ : Nat → V} {h : H} {bx bz : Nat} {rest : List O} {b : Bool} (hx : cC h bx x.cells 49) (hy : cC h bz y.cells 49) (h2 : ρ 2 = pP bx) (h3 : ρ 3 = pP bz) (hg : ρ 17 = .bool b) (hk : ∀ (ρ' : Nat → V),ρ' 2 = pP bx → ρ' 3 = pP bz → ρ' 24 = .bool (b && decide (x.request = y.request)) → XO P E none 108 rest K ρ' h Q) : XO P E none 108 (a11_2 ++ rest) K ρ h Q := by
 cases b with
 | false =>
  simp only [GR,evK,binV,intOp,strOp,shOp,unV,Nat.reduceLT,Nat.reduceEqDiff,Nat.reduceAdd,↓reduceIte,Nat.reduceLeDiff,reduceCtorEq,a11_2,hg]
  exact hk _ h2 h3 rfl
 | true =>
  simp only [GR,evK,binV,intOp,strOp,shOp,unV,Nat.reduceLT,Nat.reduceEqDiff,Nat.reduceAdd,↓reduceIte,Nat.reduceLeDiff,reduceCtorEq,a11_2,hg,h2,h3,hx,hy,Entry.len,Entry.g2]
  exact hk _ h2 h3 (by first | rfl | (simp; done) | exact congrArg V.bool (beq_dec _ _))
theorem s11_3 {P : Program} {E : Env} {K : List Fr} {Q : Po} {x y : Entry} {ρ : Nat → V} {h : H} {bx bz : Nat} {rest : List O} {b : Bool} (hx : cC h bx x.cells 49) (hy : cC h bz y.cells 49) (h2 : ρ 2 = pP bx) (h3 : ρ 3 = pP bz) (hg : ρ 24 = .bool b) (hk : ∀ (ρ' : Nat → V),ρ' 2 = pP bx → ρ' 3 = pP bz → ρ' 31 = .bool (b && decide (x.op = y.op)) → XO P E none 108 rest K ρ' h Q) : XO P E none 108 (a11_3 ++ rest) K ρ h Q := by
 have hpart : ∀ z : Entry,List.take 8 (List.drop 3 z.cells) = z.op.cells := fun _ => rfl
 have heq := Opr.eqv h x.op y.op
 cases b with
 | false =>
  simp only [GR,evK,binV,intOp,strOp,shOp,unV,Nat.reduceLT,Nat.reduceEqDiff,Nat.reduceAdd,↓reduceIte,Nat.reduceLeDiff,reduceCtorEq,a11_3,hg]
  exact hk _ h2 h3 rfl
 | true =>
  simp only [GR,evK,binV,intOp,strOp,shOp,unV,Nat.reduceLT,Nat.reduceEqDiff,Nat.reduceAdd,↓reduceIte,Nat.reduceLeDiff,reduceCtorEq,a11_3,hg,h2,h3,hx,hy,Entry.len,hpart,heq]
  exact hk _ h2 h3 (by first | rfl | (simp; done) | exact congrArg V.bool (beq_dec _ _))
theorem s11_4 {P : Program} {E : Env} {K : List Fr} {Q : Po} {x y : Entry} {ρ : Nat → V} {h : H} {bx bz : Nat} {rest : List O} {b : Bool} (hx : cC h bx x.cells 49) (hy : cC h bz y.cells 49) (h2 : ρ 2 = pP bx) (h3 : ρ 3 = pP bz) (hg : ρ 31 = .bool b) (hk : ∀ (ρ' : Nat → V),ρ' 2 = pP bx → ρ' 3 = pP bz → ρ' 38 = .bool (b && decide (x.origin = y.origin)) → XO P E none 108 rest K ρ' h Q) : XO P E none 108 (a11_4 ++ rest) K ρ h Q := by
 cases b with
 | false =>
  simp only [GR,evK,binV,intOp,strOp,shOp,unV,Nat.reduceLT,Nat.reduceEqDiff,Nat.reduceAdd,↓reduceIte,Nat.reduceLeDiff,reduceCtorEq,a11_4,hg]
  exact hk _ h2 h3 rfl
 | true =>
  simp only [GR,evK,binV,intOp,strOp,shOp,unV,Nat.reduceLT,Nat.reduceEqDiff,Nat.reduceAdd,↓reduceIte,Nat.reduceLeDiff,reduceCtorEq,a11_4,hg,h2,h3,hx,hy,Entry.len,Entry.g11]
  exact hk _ h2 h3 (by first | rfl | (simp; done) | exact congrArg V.bool (beq_dec _ _))
theorem s11_5 {P : Program} {E : Env} {K : List Fr} {Q : Po} {x y : Entry} {ρ : Nat → V} {h : H} {bx bz : Nat} {rest : List O} {b : Bool} (hx : cC h bx x.cells 49) (hy : cC h bz y.cells 49) (h2 : ρ 2 = pP bx) (h3 : ρ 3 = pP bz) (hg : ρ 38 = .bool b) (hk : ∀ (ρ' : Nat → V),ρ' 2 = pP bx → ρ' 3 = pP bz → ρ' 45 = .bool (b && decide (x.seq = y.seq)) → XO P E none 108 rest K ρ' h Q) : XO P E none 108 (a11_5 ++ rest) K ρ h Q := by
 cases b with
 | false =>
  simp only [GR,evK,binV,intOp,strOp,shOp,unV,Nat.reduceLT,Nat.reduceEqDiff,Nat.reduceAdd,↓reduceIte,Nat.reduceLeDiff,reduceCtorEq,a11_5,hg]
  exact hk _ h2 h3 rfl
 | true =>
  simp only [GR,evK,binV,intOp,strOp,shOp,unV,Nat.reduceLT,Nat.reduceEqDiff,Nat.reduceAdd,↓reduceIte,Nat.reduceLeDiff,reduceCtorEq,a11_5,hg,h2,h3,hx,hy,Entry.len,Entry.g12]
  exact hk _ h2 h3 (by first | rfl | (simp; done) | exact congrArg V.bool (beq_dec _ _))
theorem s11_6 {P : Program} {E : Env} {K : List Fr} {Q : Po} {x y : Entry} {ρ : Nat → V} {h : H} {bx bz : Nat} {rest : List O} {b : Bool} (hx : cC h bx x.cells 49) (hy : cC h bz y.cells 49) (h2 : ρ 2 = pP bx) (h3 : ρ 3 = pP bz) (hg : ρ 45 = .bool b) {c : Bool} (hc : Sp P E (.func 33 [] []) [x.ops,y.ops] h fun v h' => v = .bool c ∧ Kp h h') (hk : ∀ (ρ' : Nat → V) (h' : H),Kp h h' → ρ' 2 = pP bx → ρ' 3 = pP bz → ρ' 52 = .bool (b && c) → XO P E none 108 rest K ρ' h' Q) : XO P E none 108 (a11_6 ++ rest) K ρ h Q := by
 cases b with
 | false =>
  simp only [GR,evK,binV,intOp,strOp,shOp,unV,Nat.reduceLT,Nat.reduceEqDiff,Nat.reduceAdd,↓reduceIte,Nat.reduceLeDiff,reduceCtorEq,a11_6,hg]
  exact hk _ _ (Keeps.refl _ _) h2 h3 rfl
 | true =>
  simp only [GR,evK,binV,intOp,strOp,shOp,unV,Nat.reduceLT,Nat.reduceEqDiff,Nat.reduceAdd,↓reduceIte,Nat.reduceLeDiff,reduceCtorEq,a11_6,hg,h2,h3,hx,hy,Entry.len,Entry.g13]
  refine XC_of hc ?_
  rintro _ h' ⟨rfl,k⟩
  simp only [GR,evK,binV,intOp,strOp,shOp,unV,Nat.reduceLT,Nat.reduceEqDiff,Nat.reduceAdd,↓reduceIte,Nat.reduceLeDiff,reduceCtorEq,hg]
  exact hk _ _ k h2 h3 rfl
theorem s11_7 {P : Program} {E : Env} {K : List Fr} {Q : Po} {x y : Entry} {ρ : Nat → V} {h : H} {bx bz : Nat} {rest : List O} {b : Bool} (hx : cC h bx x.cells 49) (hy : cC h bz y.cells 49) (h2 : ρ 2 = pP bx) (h3 : ρ 3 = pP bz) (hg : ρ 52 = .bool b) (hk : ∀ (ρ' : Nat → V),ρ' 2 = pP bx → ρ' 3 = pP bz → ρ' 59 = .bool (b && decide (x.epoch = y.epoch)) → XO P E none 108 rest K ρ' h Q) : XO P E none 108 (a11_7 ++ rest) K ρ h Q := by
 have hpart : ∀ z : Entry,List.take 25 (List.drop 14 z.cells) = z.epoch.cells := fun _ => rfl
 have heq := Epoch.eqv h x.epoch y.epoch
 cases b with
 | false =>
  simp only [GR,evK,binV,intOp,strOp,shOp,unV,Nat.reduceLT,Nat.reduceEqDiff,Nat.reduceAdd,↓reduceIte,Nat.reduceLeDiff,reduceCtorEq,a11_7,hg]
  exact hk _ h2 h3 rfl
 | true =>
  simp only [GR,evK,binV,intOp,strOp,shOp,unV,Nat.reduceLT,Nat.reduceEqDiff,Nat.reduceAdd,↓reduceIte,Nat.reduceLeDiff,reduceCtorEq,a11_7,hg,h2,h3,hx,hy,Entry.len,hpart,heq]
  exact hk _ h2 h3 (by first | rfl | (simp; done) | exact congrArg V.bool (beq_dec _ _))
theorem s11_8 {P : Program} {E : Env} {K : List Fr} {Q : Po} {x y : Entry} {ρ : Nat → V} {h : H} {bx bz : Nat} {rest : List O} {b : Bool} (hx : cC h bx x.cells 49) (hy : cC h bz y.cells 49) (h2 : ρ 2 = pP bx) (h3 : ρ 3 = pP bz) (hg : ρ 59 = .bool b) (hk : ∀ (ρ' : Nat → V),ρ' 2 = pP bx → ρ' 3 = pP bz → ρ' 66 = .bool (b && decide (x.frm = y.frm)) → XO P E none 108 rest K ρ' h Q) : XO P E none 108 (a11_8 ++ rest) K ρ h Q := by
 cases b with
 | false =>
  simp only [GR,evK,binV,intOp,strOp,shOp,unV,Nat.reduceLT,Nat.reduceEqDiff,Nat.reduceAdd,↓reduceIte,Nat.reduceLeDiff,reduceCtorEq,a11_8,hg]
  exact hk _ h2 h3 rfl
 | true =>
  simp only [GR,evK,binV,intOp,strOp,shOp,unV,Nat.reduceLT,Nat.reduceEqDiff,Nat.reduceAdd,↓reduceIte,Nat.reduceLeDiff,reduceCtorEq,a11_8,hg,h2,h3,hx,hy,Entry.len,Entry.g39]
  exact hk _ h2 h3 (by first | rfl | (simp; done) | exact congrArg V.bool (beq_dec _ _))
theorem s11_9 {P : Program} {E : Env} {K : List Fr} {Q : Po} {x y : Entry} {ρ : Nat → V} {h : H} {bx bz : Nat} {rest : List O} {b : Bool} (hx : cC h bx x.cells 49) (hy : cC h bz y.cells 49) (h2 : ρ 2 = pP bx) (h3 : ρ 3 = pP bz) (hg : ρ 66 = .bool b) (hk : ∀ (ρ' : Nat → V),ρ' 2 = pP bx → ρ' 3 = pP bz → ρ' 73 = .bool (b && decide (x.vector = y.vector)) → XO P E none 108 rest K ρ' h Q) : XO P E none 108 (a11_9 ++ rest) K ρ h Q := by
 have hpart : ∀ z : Entry,List.take 8 (List.drop 40 z.cells) = z.vector.cells := fun _ => rfl
 have heq := Vec.eqv h x.vector y.vector
 cases b with
 | false =>
  simp only [GR,evK,binV,intOp,strOp,shOp,unV,Nat.reduceLT,Nat.reduceEqDiff,Nat.reduceAdd,↓reduceIte,Nat.reduceLeDiff,reduceCtorEq,a11_9,hg]
  exact hk _ h2 h3 rfl
 | true =>
  simp only [GR,evK,binV,intOp,strOp,shOp,unV,Nat.reduceLT,Nat.reduceEqDiff,Nat.reduceAdd,↓reduceIte,Nat.reduceLeDiff,reduceCtorEq,a11_9,hg,h2,h3,hx,hy,Entry.len,hpart,heq]
  exact hk _ h2 h3 (by first | rfl | (simp; done) | exact congrArg V.bool (beq_dec _ _))
theorem s11_10 {P : Program} {E : Env} {K : List Fr} {Q : Po} {x y : Entry} {ρ : Nat → V} {h : H} {bx bz : Nat} {rest : List O} {b : Bool} (hx : cC h bx x.cells 49) (hy : cC h bz y.cells 49) (h2 : ρ 2 = pP bx) (h3 : ρ 3 = pP bz) (hg : ρ 73 = .bool b) (hk : ∀ (ρ' : Nat → V),ρ' 2 = pP bx → ρ' 3 = pP bz → ρ' 80 = .bool (b && decide (x.clock = y.clock)) → XO P E none 108 rest K ρ' h Q) : XO P E none 108 (a11_10 ++ rest) K ρ h Q := by
 cases b with
 | false =>
  simp only [GR,evK,binV,intOp,strOp,shOp,unV,Nat.reduceLT,Nat.reduceEqDiff,Nat.reduceAdd,↓reduceIte,Nat.reduceLeDiff,reduceCtorEq,a11_10,hg]
  exact hk _ h2 h3 rfl
 | true =>
  simp only [GR,evK,binV,intOp,strOp,shOp,unV,Nat.reduceLT,Nat.reduceEqDiff,Nat.reduceAdd,↓reduceIte,Nat.reduceLeDiff,reduceCtorEq,a11_10,hg,h2,h3,hx,hy,Entry.len,Entry.g48]
  exact hk _ h2 h3 (by first | rfl | (simp; done) | exact congrArg V.bool (beq_dec _ _))
theorem s11_11 {P : Program} {E : Env} {K : List Fr} {Q : Po} {x y : Entry} {ρ : Nat → V} {h : H} {bx bz : Nat} {rest : List O} {b : Bool} (hx : cC h bx x.cells 49) (hy : cC h bz y.cells 49) (h2 : ρ 2 = pP bx) (h3 : ρ 3 = pP bz) (hg : ρ 80 = .bool b) {c : Bool} (hc : Sp P E (.func 34 [] []) [.agg x.part.cells,.agg y.part.cells] h fun v h' => v = .bool c ∧ Kp h h') (hk : ∀ (ρ' : Nat → V) (h' : H),Kp h h' → ρ' 2 = pP bx → ρ' 3 = pP bz → ρ' 87 = .bool (b && c) → XO P E none 108 rest K ρ' h' Q) : XO P E none 108 (a11_11 ++ rest) K ρ h Q := by
 have hpart : ∀ z : Entry,List.take 4 (List.drop 49 z.cells) = z.part.cells := fun _ => rfl
 cases b with
 | false =>
  simp only [GR,evK,binV,intOp,strOp,shOp,unV,Nat.reduceLT,Nat.reduceEqDiff,Nat.reduceAdd,↓reduceIte,Nat.reduceLeDiff,reduceCtorEq,a11_11,hg]
  exact hk _ _ (Keeps.refl _ _) h2 h3 rfl
 | true =>
  simp only [GR,evK,binV,intOp,strOp,shOp,unV,Nat.reduceLT,Nat.reduceEqDiff,Nat.reduceAdd,↓reduceIte,Nat.reduceLeDiff,reduceCtorEq,a11_11,hg,h2,h3,hx,hy,Entry.len,hpart]
  refine XC_of hc ?_
  rintro _ h' ⟨rfl,k⟩
  simp only [GR,evK,binV,intOp,strOp,shOp,unV,Nat.reduceLT,Nat.reduceEqDiff,Nat.reduceAdd,↓reduceIte,Nat.reduceLeDiff,reduceCtorEq,hg]
  exact hk _ _ k h2 h3 rfl
theorem s11_12 {P : Program} {E : Env} {K : List Fr} {Q : Po} {x y : Entry} {ρ : Nat → V} {h : H} {bx bz : Nat} {rest : List O} {b : Bool} (hx : cC h bx x.cells 49) (hy : cC h bz y.cells 49) (h2 : ρ 2 = pP bx) (h3 : ρ 3 = pP bz) (hg : ρ 87 = .bool b) (hk : ∀ (ρ' : Nat → V),ρ' 2 = pP bx → ρ' 3 = pP bz → ρ' 94 = .bool (b && decide (x.site = y.site)) → XO P E none 108 rest K ρ' h Q) : XO P E none 108 (a11_12 ++ rest) K ρ h Q := by
 cases b with
 | false =>
  simp only [GR,evK,binV,intOp,strOp,shOp,unV,Nat.reduceLT,Nat.reduceEqDiff,Nat.reduceAdd,↓reduceIte,Nat.reduceLeDiff,reduceCtorEq,a11_12,hg]
  exact hk _ h2 h3 rfl
 | true =>
  simp only [GR,evK,binV,intOp,strOp,shOp,unV,Nat.reduceLT,Nat.reduceEqDiff,Nat.reduceAdd,↓reduceIte,Nat.reduceLeDiff,reduceCtorEq,a11_12,hg,h2,h3,hx,hy,Entry.len,Entry.g53]
  exact hk _ h2 h3 (by first | rfl | (simp; done) | exact congrArg V.bool (beq_dec _ _))
theorem s11_13 {P : Program} {E : Env} {K : List Fr} {Q : Po} {x y : Entry} {ρ : Nat → V} {h : H} {bx bz : Nat} {rest : List O} {b : Bool} (hx : cC h bx x.cells 49) (hy : cC h bz y.cells 49) (h2 : ρ 2 = pP bx) (h3 : ρ 3 = pP bz) (hg : ρ 94 = .bool b) (hk : ∀ (ρ' : Nat → V),ρ' 2 = pP bx → ρ' 3 = pP bz → ρ' 101 = .bool (b && decide (x.sponsor = y.sponsor)) → XO P E none 108 rest K ρ' h Q) : XO P E none 108 (a11_13 ++ rest) K ρ h Q := by
 cases b with
 | false =>
  simp only [GR,evK,binV,intOp,strOp,shOp,unV,Nat.reduceLT,Nat.reduceEqDiff,Nat.reduceAdd,↓reduceIte,Nat.reduceLeDiff,reduceCtorEq,a11_13,hg]
  exact hk _ h2 h3 rfl
 | true =>
  simp only [GR,evK,binV,intOp,strOp,shOp,unV,Nat.reduceLT,Nat.reduceEqDiff,Nat.reduceAdd,↓reduceIte,Nat.reduceLeDiff,reduceCtorEq,a11_13,hg,h2,h3,hx,hy,Entry.len,Entry.g54]
  exact hk _ h2 h3 (by first | rfl | (simp; done) | exact congrArg V.bool (beq_dec _ _))
theorem s11_14 {P : Program} {E : Env} {K : List Fr} {Q : Po} {x y : Entry} {ρ : Nat → V} {h : H} {bx bz : Nat} {rest : List O} {b : Bool} (hx : cC h bx x.cells 49) (hy : cC h bz y.cells 49) (h2 : ρ 2 = pP bx) (h3 : ρ 3 = pP bz) (hg : ρ 101 = .bool b) (hk : ∀ (ρ' : Nat → V),ρ' 2 = pP bx → ρ' 3 = pP bz → ρ' 4 = .bool (b && decide (x.length = y.length)) → XO P E none 108 rest K ρ' h Q) : XO P E none 108 (a11_14 ++ rest) K ρ h Q := by
 cases b with
 | false =>
  simp only [GR,evK,binV,intOp,strOp,shOp,unV,Nat.reduceLT,Nat.reduceEqDiff,Nat.reduceAdd,↓reduceIte,Nat.reduceLeDiff,reduceCtorEq,a11_14,hg]
  exact hk _ h2 h3 rfl
 | true =>
  simp only [GR,evK,binV,intOp,strOp,shOp,unV,Nat.reduceLT,Nat.reduceEqDiff,Nat.reduceAdd,↓reduceIte,Nat.reduceLeDiff,reduceCtorEq,a11_14,hg,h2,h3,hx,hy,Entry.len,Entry.g55]
  exact hk _ h2 h3 (by first | rfl | (simp; done) | exact congrArg V.bool (beq_dec _ _))
set_option maxRecDepth 100000 in
theorem ent11 (F : Fa E) {x y : Entry} {h : H} {d d' : DEnt} (hx : EIn h x d) (hy : EIn h y d') :
  Sp P E (.func 11 [] []) [.agg x.cells,.agg y.cells] h fun r h' => r = .bool (decide (d = d')) ∧ Kp h h' := by
 have hg0 := psh_same h (.cells x.cells 49 false false none)
 have hk0 : Kp h (h.psh (.cells x.cells 49 false false none)) := Keeps.psh (Nat.le_refl _) _
 have hk1 : Kp (h.psh (.cells x.cells 49 false false none)) ((h.psh (.cells x.cells 49 false false none)).psh (.cells y.cells 49 false false none)) := Keeps.psh (Nat.le_refl _) _
 have gy := psh_same (h.psh (.cells x.cells 49 false false none)) (.cells y.cells 49 false false none)
 have gx := Kp.of hk1 hg0
 have kk := Kp.trans hk0 hk1
 refine Sp_fn F.f11 F.p11 (by simp [fn11]) ?_
 simp only [GR,evK,binV,intOp,strOp,shOp,unV,Nat.reduceLT,Nat.reduceEqDiff,Nat.reduceAdd,↓reduceIte,Nat.reduceLeDiff,reduceCtorEq,fn11,c11,r11_0,e11_all]
 generalize (h.psh (.cells x.cells 49 false false none)).psh (.cells y.cells 49 false false none) = h2 at *
 generalize (h.psh (.cells x.cells 49 false false none)).size = B at *
 refine s11_0 gx gy rfl rfl fun ρ p q r => ?_
 refine s11_1 gx gy p q r fun ρ p q r => ?_
 refine s11_2 gx gy p q r fun ρ p q r => ?_
 refine s11_3 gx gy p q r fun ρ p q r => ?_
 refine s11_4 gx gy p q r fun ρ p q r => ?_
 refine s11_5 gx gy p q r fun ρ p q r => ?_
 refine s11_6 gx gy p q r (Sp.kp (eq33 F (hx.ops.keep kk) (hy.ops.keep kk) hx.len)) fun ρ h3 k p q r => ?_
 have gx := Kp.of k gx
 have gy := Kp.of k gy
 have kk := Kp.trans kk k
 refine s11_7 gx gy p q r fun ρ p q r => ?_
 refine s11_8 gx gy p q r fun ρ p q r => ?_
 refine s11_9 gx gy p q r fun ρ p q r => ?_
 refine s11_10 gx gy p q r fun ρ p q r => ?_
 refine s11_11 gx gy p q r (part34 F (hx.dat.keep kk) (hy.dat.keep kk)) fun ρ h3 k p q r => ?_
 have gx := Kp.of k gx
 have gy := Kp.of k gy
 have kk := Kp.trans kk k
 refine s11_12 gx gy p q r fun ρ p q r => ?_
 refine s11_13 gx gy p q r fun ρ p q r => ?_
 rw [← List.append_nil a11_14]
 refine s11_14 gx gy p q r fun ρ p q r => ?_
 simp only [GR,evK,binV,intOp,strOp,shOp,unV,Nat.reduceLT,Nat.reduceEqDiff,Nat.reduceAdd,↓reduceIte,Nat.reduceLeDiff,reduceCtorEq,r]
 refine ⟨?_,kk⟩
 congr 1
 rw [Bool.eq_iff_iff]
 refine Iff.trans ?_ decide_eq_true_iff.symm
 simp only [Bool.and_eq_true,decide_eq_true_eq,beq_iff_eq]
 rw [dent_iff hx.flat hy.flat]
 simp only [flatOf,Flat.mk.injEq,and_assoc,and_comm,and_left_comm]
set_option maxRecDepth 100000 in
theorem e39_all : r39_1 = a39_0 ++ (a39_1 ++ (a39_2 ++ (a39_3 ++ (a39_4 ++ (a39_5 ++ (a39_6 ++ (a39_7 ++ (a39_8 ++ (a39_9 ++ (a39_10 ++ (a39_11 ++ (a39_12 ++ (a39_13 ++ (a39_14)))))))))))))) := rfl
theorem s39_0 {P : Program} {E : Env} {K : List Fr} {Q : Po} {x y : Entry} {ρ : Nat → V} {h : H} {bx bz : Nat} {rest : List O} (hx : cC h bx x.cells 49) (hy : cC h bz y.cells 49) (h2 : ρ 2 = pP bx) (h3 : ρ 3 = pP bz) (hk : ∀ (ρ' : Nat → V),ρ' 2 = pP bx → ρ' 3 = pP bz → ρ' 10 = .bool (decide (x.kind = y.kind)) → XO P E none 108 rest K ρ' h Q) : XO P E none 108 (a39_0 ++ rest) K ρ h Q := by
 simp only [GR,evK,binV,intOp,strOp,shOp,unV,Nat.reduceLT,Nat.reduceEqDiff,Nat.reduceAdd,↓reduceIte,Nat.reduceLeDiff,reduceCtorEq,a39_0,h2,h3,hx,hy,Entry.len,Entry.g0]
 exact hk _ h2 h3 (by first | rfl | (simp; done) | exact congrArg V.bool (beq_dec _ _))
theorem s39_1 {P : Program} {E : Env} {K : List Fr} {Q : Po} {x y : Entry} {ρ : Nat → V} {h : H} {bx bz : Nat} {rest : List O} {b : Bool} (hx : cC h bx x.cells 49) (hy : cC h bz y.cells 49) (h2 : ρ 2 = pP bx) (h3 : ρ 3 = pP bz) (hg : ρ 10 = .bool b) (hk : ∀ (ρ' : Nat → V),ρ' 2 = pP bx → ρ' 3 = pP bz → ρ' 17 = .bool (b && decide (x.session = y.session)) → XO P E none 108 rest K ρ' h Q) : XO P E none 108 (a39_1 ++ rest) K ρ h Q := by
 cases b with
 | false =>
  simp only [GR,evK,binV,intOp,strOp,shOp,unV,Nat.reduceLT,Nat.reduceEqDiff,Nat.reduceAdd,↓reduceIte,Nat.reduceLeDiff,reduceCtorEq,a39_1,hg]
  exact hk _ h2 h3 rfl
 | true =>
  simp only [GR,evK,binV,intOp,strOp,shOp,unV,Nat.reduceLT,Nat.reduceEqDiff,Nat.reduceAdd,↓reduceIte,Nat.reduceLeDiff,reduceCtorEq,a39_1,hg,h2,h3,hx,hy,Entry.len,Entry.g1]
  exact hk _ h2 h3 (by first | rfl | (simp; done) | exact congrArg V.bool (beq_dec _ _))
theorem s39_2 {P : Program} {E : Env} {K : List Fr} {Q : Po} {x y : Entry} {ρ : Nat → V} {h : H} {bx bz : Nat} {rest : List O} {b : Bool} (hx : cC h bx x.cells 49) (hy : cC h bz y.cells 49) (h2 : ρ 2 = pP bx) (h3 : ρ 3 = pP bz) (hg : ρ 17 = .bool b) (hk : ∀ (ρ' : Nat → V),ρ' 2 = pP bx → ρ' 3 = pP bz → ρ' 24 = .bool (b && decide (x.request = y.request)) → XO P E none 108 rest K ρ' h Q) : XO P E none 108 (a39_2 ++ rest) K ρ h Q := by
 cases b with
 | false =>
  simp only [GR,evK,binV,intOp,strOp,shOp,unV,Nat.reduceLT,Nat.reduceEqDiff,Nat.reduceAdd,↓reduceIte,Nat.reduceLeDiff,reduceCtorEq,a39_2,hg]
  exact hk _ h2 h3 rfl
 | true =>
  simp only [GR,evK,binV,intOp,strOp,shOp,unV,Nat.reduceLT,Nat.reduceEqDiff,Nat.reduceAdd,↓reduceIte,Nat.reduceLeDiff,reduceCtorEq,a39_2,hg,h2,h3,hx,hy,Entry.len,Entry.g2]
  exact hk _ h2 h3 (by first | rfl | (simp; done) | exact congrArg V.bool (beq_dec _ _))
theorem s39_3 {P : Program} {E : Env} {K : List Fr} {Q : Po} {x y : Entry} {ρ : Nat → V} {h : H} {bx bz : Nat} {rest : List O} {b : Bool} (hx : cC h bx x.cells 49) (hy : cC h bz y.cells 49) (h2 : ρ 2 = pP bx) (h3 : ρ 3 = pP bz) (hg : ρ 24 = .bool b) (hk : ∀ (ρ' : Nat → V),ρ' 2 = pP bx → ρ' 3 = pP bz → ρ' 31 = .bool (b && decide (x.op = y.op)) → XO P E none 108 rest K ρ' h Q) : XO P E none 108 (a39_3 ++ rest) K ρ h Q := by
 have hpart : ∀ z : Entry,List.take 8 (List.drop 3 z.cells) = z.op.cells := fun _ => rfl
 have heq := Opr.eqv h x.op y.op
 cases b with
 | false =>
  simp only [GR,evK,binV,intOp,strOp,shOp,unV,Nat.reduceLT,Nat.reduceEqDiff,Nat.reduceAdd,↓reduceIte,Nat.reduceLeDiff,reduceCtorEq,a39_3,hg]
  exact hk _ h2 h3 rfl
 | true =>
  simp only [GR,evK,binV,intOp,strOp,shOp,unV,Nat.reduceLT,Nat.reduceEqDiff,Nat.reduceAdd,↓reduceIte,Nat.reduceLeDiff,reduceCtorEq,a39_3,hg,h2,h3,hx,hy,Entry.len,hpart,heq]
  exact hk _ h2 h3 (by first | rfl | (simp; done) | exact congrArg V.bool (beq_dec _ _))
theorem s39_4 {P : Program} {E : Env} {K : List Fr} {Q : Po} {x y : Entry} {ρ : Nat → V} {h : H} {bx bz : Nat} {rest : List O} {b : Bool} (hx : cC h bx x.cells 49) (hy : cC h bz y.cells 49) (h2 : ρ 2 = pP bx) (h3 : ρ 3 = pP bz) (hg : ρ 31 = .bool b) (hk : ∀ (ρ' : Nat → V),ρ' 2 = pP bx → ρ' 3 = pP bz → ρ' 38 = .bool (b && decide (x.origin = y.origin)) → XO P E none 108 rest K ρ' h Q) : XO P E none 108 (a39_4 ++ rest) K ρ h Q := by
 cases b with
 | false =>
  simp only [GR,evK,binV,intOp,strOp,shOp,unV,Nat.reduceLT,Nat.reduceEqDiff,Nat.reduceAdd,↓reduceIte,Nat.reduceLeDiff,reduceCtorEq,a39_4,hg]
  exact hk _ h2 h3 rfl
 | true =>
  simp only [GR,evK,binV,intOp,strOp,shOp,unV,Nat.reduceLT,Nat.reduceEqDiff,Nat.reduceAdd,↓reduceIte,Nat.reduceLeDiff,reduceCtorEq,a39_4,hg,h2,h3,hx,hy,Entry.len,Entry.g11]
  exact hk _ h2 h3 (by first | rfl | (simp; done) | exact congrArg V.bool (beq_dec _ _))
theorem s39_5 {P : Program} {E : Env} {K : List Fr} {Q : Po} {x y : Entry} {ρ : Nat → V} {h : H} {bx bz : Nat} {rest : List O} {b : Bool} (hx : cC h bx x.cells 49) (hy : cC h bz y.cells 49) (h2 : ρ 2 = pP bx) (h3 : ρ 3 = pP bz) (hg : ρ 38 = .bool b) (hk : ∀ (ρ' : Nat → V),ρ' 2 = pP bx → ρ' 3 = pP bz → ρ' 45 = .bool (b && decide (x.seq = y.seq)) → XO P E none 108 rest K ρ' h Q) : XO P E none 108 (a39_5 ++ rest) K ρ h Q := by
 cases b with
 | false =>
  simp only [GR,evK,binV,intOp,strOp,shOp,unV,Nat.reduceLT,Nat.reduceEqDiff,Nat.reduceAdd,↓reduceIte,Nat.reduceLeDiff,reduceCtorEq,a39_5,hg]
  exact hk _ h2 h3 rfl
 | true =>
  simp only [GR,evK,binV,intOp,strOp,shOp,unV,Nat.reduceLT,Nat.reduceEqDiff,Nat.reduceAdd,↓reduceIte,Nat.reduceLeDiff,reduceCtorEq,a39_5,hg,h2,h3,hx,hy,Entry.len,Entry.g12]
  exact hk _ h2 h3 (by first | rfl | (simp; done) | exact congrArg V.bool (beq_dec _ _))
theorem s39_6 {P : Program} {E : Env} {K : List Fr} {Q : Po} {x y : Entry} {ρ : Nat → V} {h : H} {bx bz : Nat} {rest : List O} {b : Bool} (hx : cC h bx x.cells 49) (hy : cC h bz y.cells 49) (h2 : ρ 2 = pP bx) (h3 : ρ 3 = pP bz) (hg : ρ 45 = .bool b) {c : Bool} (hc : Sp P E (.func 60 [] []) [x.ops,y.ops] h fun v h' => v = .bool c ∧ Kp h h') (hk : ∀ (ρ' : Nat → V) (h' : H),Kp h h' → ρ' 2 = pP bx → ρ' 3 = pP bz → ρ' 52 = .bool (b && c) → XO P E none 108 rest K ρ' h' Q) : XO P E none 108 (a39_6 ++ rest) K ρ h Q := by
 cases b with
 | false =>
  simp only [GR,evK,binV,intOp,strOp,shOp,unV,Nat.reduceLT,Nat.reduceEqDiff,Nat.reduceAdd,↓reduceIte,Nat.reduceLeDiff,reduceCtorEq,a39_6,hg]
  exact hk _ _ (Keeps.refl _ _) h2 h3 rfl
 | true =>
  simp only [GR,evK,binV,intOp,strOp,shOp,unV,Nat.reduceLT,Nat.reduceEqDiff,Nat.reduceAdd,↓reduceIte,Nat.reduceLeDiff,reduceCtorEq,a39_6,hg,h2,h3,hx,hy,Entry.len,Entry.g13]
  refine XC_of hc ?_
  rintro _ h' ⟨rfl,k⟩
  simp only [GR,evK,binV,intOp,strOp,shOp,unV,Nat.reduceLT,Nat.reduceEqDiff,Nat.reduceAdd,↓reduceIte,Nat.reduceLeDiff,reduceCtorEq,hg]
  exact hk _ _ k h2 h3 rfl
theorem s39_7 {P : Program} {E : Env} {K : List Fr} {Q : Po} {x y : Entry} {ρ : Nat → V} {h : H} {bx bz : Nat} {rest : List O} {b : Bool} (hx : cC h bx x.cells 49) (hy : cC h bz y.cells 49) (h2 : ρ 2 = pP bx) (h3 : ρ 3 = pP bz) (hg : ρ 52 = .bool b) (hk : ∀ (ρ' : Nat → V),ρ' 2 = pP bx → ρ' 3 = pP bz → ρ' 59 = .bool (b && decide (x.epoch = y.epoch)) → XO P E none 108 rest K ρ' h Q) : XO P E none 108 (a39_7 ++ rest) K ρ h Q := by
 have hpart : ∀ z : Entry,List.take 25 (List.drop 14 z.cells) = z.epoch.cells := fun _ => rfl
 have heq := Epoch.eqv h x.epoch y.epoch
 cases b with
 | false =>
  simp only [GR,evK,binV,intOp,strOp,shOp,unV,Nat.reduceLT,Nat.reduceEqDiff,Nat.reduceAdd,↓reduceIte,Nat.reduceLeDiff,reduceCtorEq,a39_7,hg]
  exact hk _ h2 h3 rfl
 | true =>
  simp only [GR,evK,binV,intOp,strOp,shOp,unV,Nat.reduceLT,Nat.reduceEqDiff,Nat.reduceAdd,↓reduceIte,Nat.reduceLeDiff,reduceCtorEq,a39_7,hg,h2,h3,hx,hy,Entry.len,hpart,heq]
  exact hk _ h2 h3 (by first | rfl | (simp; done) | exact congrArg V.bool (beq_dec _ _))
theorem s39_8 {P : Program} {E : Env} {K : List Fr} {Q : Po} {x y : Entry} {ρ : Nat → V} {h : H} {bx bz : Nat} {rest : List O} {b : Bool} (hx : cC h bx x.cells 49) (hy : cC h bz y.cells 49) (h2 : ρ 2 = pP bx) (h3 : ρ 3 = pP bz) (hg : ρ 59 = .bool b) (hk : ∀ (ρ' : Nat → V),ρ' 2 = pP bx → ρ' 3 = pP bz → ρ' 66 = .bool (b && decide (x.frm = y.frm)) → XO P E none 108 rest K ρ' h Q) : XO P E none 108 (a39_8 ++ rest) K ρ h Q := by
 cases b with
 | false =>
  simp only [GR,evK,binV,intOp,strOp,shOp,unV,Nat.reduceLT,Nat.reduceEqDiff,Nat.reduceAdd,↓reduceIte,Nat.reduceLeDiff,reduceCtorEq,a39_8,hg]
  exact hk _ h2 h3 rfl
 | true =>
  simp only [GR,evK,binV,intOp,strOp,shOp,unV,Nat.reduceLT,Nat.reduceEqDiff,Nat.reduceAdd,↓reduceIte,Nat.reduceLeDiff,reduceCtorEq,a39_8,hg,h2,h3,hx,hy,Entry.len,Entry.g39]
  exact hk _ h2 h3 (by first | rfl | (simp; done) | exact congrArg V.bool (beq_dec _ _))
theorem s39_9 {P : Program} {E : Env} {K : List Fr} {Q : Po} {x y : Entry} {ρ : Nat → V} {h : H} {bx bz : Nat} {rest : List O} {b : Bool} (hx : cC h bx x.cells 49) (hy : cC h bz y.cells 49) (h2 : ρ 2 = pP bx) (h3 : ρ 3 = pP bz) (hg : ρ 66 = .bool b) (hk : ∀ (ρ' : Nat → V),ρ' 2 = pP bx → ρ' 3 = pP bz → ρ' 73 = .bool (b && decide (x.vector = y.vector)) → XO P E none 108 rest K ρ' h Q) : XO P E none 108 (a39_9 ++ rest) K ρ h Q := by
 have hpart : ∀ z : Entry,List.take 8 (List.drop 40 z.cells) = z.vector.cells := fun _ => rfl
 have heq := Vec.eqv h x.vector y.vector
 cases b with
 | false =>
  simp only [GR,evK,binV,intOp,strOp,shOp,unV,Nat.reduceLT,Nat.reduceEqDiff,Nat.reduceAdd,↓reduceIte,Nat.reduceLeDiff,reduceCtorEq,a39_9,hg]
  exact hk _ h2 h3 rfl
 | true =>
  simp only [GR,evK,binV,intOp,strOp,shOp,unV,Nat.reduceLT,Nat.reduceEqDiff,Nat.reduceAdd,↓reduceIte,Nat.reduceLeDiff,reduceCtorEq,a39_9,hg,h2,h3,hx,hy,Entry.len,hpart,heq]
  exact hk _ h2 h3 (by first | rfl | (simp; done) | exact congrArg V.bool (beq_dec _ _))
theorem s39_10 {P : Program} {E : Env} {K : List Fr} {Q : Po} {x y : Entry} {ρ : Nat → V} {h : H} {bx bz : Nat} {rest : List O} {b : Bool} (hx : cC h bx x.cells 49) (hy : cC h bz y.cells 49) (h2 : ρ 2 = pP bx) (h3 : ρ 3 = pP bz) (hg : ρ 73 = .bool b) (hk : ∀ (ρ' : Nat → V),ρ' 2 = pP bx → ρ' 3 = pP bz → ρ' 80 = .bool (b && decide (x.clock = y.clock)) → XO P E none 108 rest K ρ' h Q) : XO P E none 108 (a39_10 ++ rest) K ρ h Q := by
 cases b with
 | false =>
  simp only [GR,evK,binV,intOp,strOp,shOp,unV,Nat.reduceLT,Nat.reduceEqDiff,Nat.reduceAdd,↓reduceIte,Nat.reduceLeDiff,reduceCtorEq,a39_10,hg]
  exact hk _ h2 h3 rfl
 | true =>
  simp only [GR,evK,binV,intOp,strOp,shOp,unV,Nat.reduceLT,Nat.reduceEqDiff,Nat.reduceAdd,↓reduceIte,Nat.reduceLeDiff,reduceCtorEq,a39_10,hg,h2,h3,hx,hy,Entry.len,Entry.g48]
  exact hk _ h2 h3 (by first | rfl | (simp; done) | exact congrArg V.bool (beq_dec _ _))
theorem s39_11 {P : Program} {E : Env} {K : List Fr} {Q : Po} {x y : Entry} {ρ : Nat → V} {h : H} {bx bz : Nat} {rest : List O} {b : Bool} (hx : cC h bx x.cells 49) (hy : cC h bz y.cells 49) (h2 : ρ 2 = pP bx) (h3 : ρ 3 = pP bz) (hg : ρ 80 = .bool b) {c : Bool} (hc : Sp P E (.func 61 [] []) [.agg x.part.cells,.agg y.part.cells] h fun v h' => v = .bool c ∧ Kp h h') (hk : ∀ (ρ' : Nat → V) (h' : H),Kp h h' → ρ' 2 = pP bx → ρ' 3 = pP bz → ρ' 87 = .bool (b && c) → XO P E none 108 rest K ρ' h' Q) : XO P E none 108 (a39_11 ++ rest) K ρ h Q := by
 have hpart : ∀ z : Entry,List.take 4 (List.drop 49 z.cells) = z.part.cells := fun _ => rfl
 cases b with
 | false =>
  simp only [GR,evK,binV,intOp,strOp,shOp,unV,Nat.reduceLT,Nat.reduceEqDiff,Nat.reduceAdd,↓reduceIte,Nat.reduceLeDiff,reduceCtorEq,a39_11,hg]
  exact hk _ _ (Keeps.refl _ _) h2 h3 rfl
 | true =>
  simp only [GR,evK,binV,intOp,strOp,shOp,unV,Nat.reduceLT,Nat.reduceEqDiff,Nat.reduceAdd,↓reduceIte,Nat.reduceLeDiff,reduceCtorEq,a39_11,hg,h2,h3,hx,hy,Entry.len,hpart]
  refine XC_of hc ?_
  rintro _ h' ⟨rfl,k⟩
  simp only [GR,evK,binV,intOp,strOp,shOp,unV,Nat.reduceLT,Nat.reduceEqDiff,Nat.reduceAdd,↓reduceIte,Nat.reduceLeDiff,reduceCtorEq,hg]
  exact hk _ _ k h2 h3 rfl
theorem s39_12 {P : Program} {E : Env} {K : List Fr} {Q : Po} {x y : Entry} {ρ : Nat → V} {h : H} {bx bz : Nat} {rest : List O} {b : Bool} (hx : cC h bx x.cells 49) (hy : cC h bz y.cells 49) (h2 : ρ 2 = pP bx) (h3 : ρ 3 = pP bz) (hg : ρ 87 = .bool b) (hk : ∀ (ρ' : Nat → V),ρ' 2 = pP bx → ρ' 3 = pP bz → ρ' 94 = .bool (b && decide (x.site = y.site)) → XO P E none 108 rest K ρ' h Q) : XO P E none 108 (a39_12 ++ rest) K ρ h Q := by
 cases b with
 | false =>
  simp only [GR,evK,binV,intOp,strOp,shOp,unV,Nat.reduceLT,Nat.reduceEqDiff,Nat.reduceAdd,↓reduceIte,Nat.reduceLeDiff,reduceCtorEq,a39_12,hg]
  exact hk _ h2 h3 rfl
 | true =>
  simp only [GR,evK,binV,intOp,strOp,shOp,unV,Nat.reduceLT,Nat.reduceEqDiff,Nat.reduceAdd,↓reduceIte,Nat.reduceLeDiff,reduceCtorEq,a39_12,hg,h2,h3,hx,hy,Entry.len,Entry.g53]
  exact hk _ h2 h3 (by first | rfl | (simp; done) | exact congrArg V.bool (beq_dec _ _))
theorem s39_13 {P : Program} {E : Env} {K : List Fr} {Q : Po} {x y : Entry} {ρ : Nat → V} {h : H} {bx bz : Nat} {rest : List O} {b : Bool} (hx : cC h bx x.cells 49) (hy : cC h bz y.cells 49) (h2 : ρ 2 = pP bx) (h3 : ρ 3 = pP bz) (hg : ρ 94 = .bool b) (hk : ∀ (ρ' : Nat → V),ρ' 2 = pP bx → ρ' 3 = pP bz → ρ' 101 = .bool (b && decide (x.sponsor = y.sponsor)) → XO P E none 108 rest K ρ' h Q) : XO P E none 108 (a39_13 ++ rest) K ρ h Q := by
 cases b with
 | false =>
  simp only [GR,evK,binV,intOp,strOp,shOp,unV,Nat.reduceLT,Nat.reduceEqDiff,Nat.reduceAdd,↓reduceIte,Nat.reduceLeDiff,reduceCtorEq,a39_13,hg]
  exact hk _ h2 h3 rfl
 | true =>
  simp only [GR,evK,binV,intOp,strOp,shOp,unV,Nat.reduceLT,Nat.reduceEqDiff,Nat.reduceAdd,↓reduceIte,Nat.reduceLeDiff,reduceCtorEq,a39_13,hg,h2,h3,hx,hy,Entry.len,Entry.g54]
  exact hk _ h2 h3 (by first | rfl | (simp; done) | exact congrArg V.bool (beq_dec _ _))
theorem s39_14 {P : Program} {E : Env} {K : List Fr} {Q : Po} {x y : Entry} {ρ : Nat → V} {h : H} {bx bz : Nat} {rest : List O} {b : Bool} (hx : cC h bx x.cells 49) (hy : cC h bz y.cells 49) (h2 : ρ 2 = pP bx) (h3 : ρ 3 = pP bz) (hg : ρ 101 = .bool b) (hk : ∀ (ρ' : Nat → V),ρ' 2 = pP bx → ρ' 3 = pP bz → ρ' 4 = .bool (b && decide (x.length = y.length)) → XO P E none 108 rest K ρ' h Q) : XO P E none 108 (a39_14 ++ rest) K ρ h Q := by
 cases b with
 | false =>
  simp only [GR,evK,binV,intOp,strOp,shOp,unV,Nat.reduceLT,Nat.reduceEqDiff,Nat.reduceAdd,↓reduceIte,Nat.reduceLeDiff,reduceCtorEq,a39_14,hg]
  exact hk _ h2 h3 rfl
 | true =>
  simp only [GR,evK,binV,intOp,strOp,shOp,unV,Nat.reduceLT,Nat.reduceEqDiff,Nat.reduceAdd,↓reduceIte,Nat.reduceLeDiff,reduceCtorEq,a39_14,hg,h2,h3,hx,hy,Entry.len,Entry.g55]
  exact hk _ h2 h3 (by first | rfl | (simp; done) | exact congrArg V.bool (beq_dec _ _))
set_option maxRecDepth 100000 in
theorem ent39 (F : Fa E) {x y : Entry} {h : H} {d d' : DEnt} (hx : EIn h x d) (hy : EIn h y d') :
  Sp P E (.func 39 [] []) [.agg x.cells,.agg y.cells] h fun r h' => r = .bool (decide (d = d')) ∧ Kp h h' := by
 have hg0 := psh_same h (.cells x.cells 49 false false none)
 have hk0 : Kp h (h.psh (.cells x.cells 49 false false none)) := Keeps.psh (Nat.le_refl _) _
 have hk1 : Kp (h.psh (.cells x.cells 49 false false none)) ((h.psh (.cells x.cells 49 false false none)).psh (.cells y.cells 49 false false none)) := Keeps.psh (Nat.le_refl _) _
 have gy := psh_same (h.psh (.cells x.cells 49 false false none)) (.cells y.cells 49 false false none)
 have gx := Kp.of hk1 hg0
 have kk := Kp.trans hk0 hk1
 refine Sp_fn F.f39 F.p39 (by simp [fn39]) ?_
 simp only [GR,evK,binV,intOp,strOp,shOp,unV,Nat.reduceLT,Nat.reduceEqDiff,Nat.reduceAdd,↓reduceIte,Nat.reduceLeDiff,reduceCtorEq,fn39,c39,r39_0,e39_all]
 generalize (h.psh (.cells x.cells 49 false false none)).psh (.cells y.cells 49 false false none) = h2 at *
 generalize (h.psh (.cells x.cells 49 false false none)).size = B at *
 refine s39_0 gx gy rfl rfl fun ρ p q r => ?_
 refine s39_1 gx gy p q r fun ρ p q r => ?_
 refine s39_2 gx gy p q r fun ρ p q r => ?_
 refine s39_3 gx gy p q r fun ρ p q r => ?_
 refine s39_4 gx gy p q r fun ρ p q r => ?_
 refine s39_5 gx gy p q r fun ρ p q r => ?_
 refine s39_6 gx gy p q r (Sp.kp (eq60 F (hx.ops.keep kk) (hy.ops.keep kk) hx.len)) fun ρ h3 k p q r => ?_
 have gx := Kp.of k gx
 have gy := Kp.of k gy
 have kk := Kp.trans kk k
 refine s39_7 gx gy p q r fun ρ p q r => ?_
 refine s39_8 gx gy p q r fun ρ p q r => ?_
 refine s39_9 gx gy p q r fun ρ p q r => ?_
 refine s39_10 gx gy p q r fun ρ p q r => ?_
 refine s39_11 gx gy p q r (part61 F (hx.dat.keep kk) (hy.dat.keep kk)) fun ρ h3 k p q r => ?_
 have gx := Kp.of k gx
 have gy := Kp.of k gy
 have kk := Kp.trans kk k
 refine s39_12 gx gy p q r fun ρ p q r => ?_
 refine s39_13 gx gy p q r fun ρ p q r => ?_
 rw [← List.append_nil a39_14]
 refine s39_14 gx gy p q r fun ρ p q r => ?_
 simp only [GR,evK,binV,intOp,strOp,shOp,unV,Nat.reduceLT,Nat.reduceEqDiff,Nat.reduceAdd,↓reduceIte,Nat.reduceLeDiff,reduceCtorEq,r]
 refine ⟨?_,kk⟩
 congr 1
 rw [Bool.eq_iff_iff]
 refine Iff.trans ?_ decide_eq_true_iff.symm
 simp only [Bool.and_eq_true,decide_eq_true_eq,beq_iff_eq]
 rw [dent_iff hx.flat hy.flat]
 simp only [flatOf,Flat.mk.injEq,and_assoc,and_comm,and_left_comm]
theorem put_ex {h : H} {b o : Nat} {vs ws : List V} {ty : Nat} {op : Bool} (hg : h.get b = some (.cells vs ty op false none)) (hw : o + ws.length ≤ vs.length) (h1 : ws.all V.one = true) (hne : ws.isEmpty = false) :
  ∃ h',putCells h b o ws = some h' ∧ h'.get b = some (.cells (setR vs o ws) ty op false none) ∧ Keeps b h h' ∧ h'.size = h.size := by
 have hb := H.get_lt hg
 refine ⟨h.set b (.cells (setR vs o ws) ty op false none),?_,hset_same hb _,Keeps.set hb (Nat.le_refl _) _,rfl⟩
 unfold putCells
 simp only [hne,Bool.false_eq_true,if_false,hg,hw,h1,fzFree,and_self,if_true]
theorem Str.shape {h : H} {v : V} {s : List UInt8} (a : Str h v s) : ∃ x n c o,v = .slice x n c o := by
 rcases a with ⟨c,o,e,_⟩ | ⟨p,n,c,o,cs,e,_⟩
 ·exact ⟨_,_,_,_,e⟩
 ·exact ⟨_,_,_,_,e⟩
theorem EIn.one {h : H} {x : Entry} {d : DEnt} (a : EIn h x d) : x.cells.all V.one = true := by
 obtain ⟨b,c,o,e1⟩ := a.ops.len
 obtain ⟨b',n',c',o',e2⟩ := a.dat.shape
 simp only [Entry.cells,List.all_cons,List.all_nil,V.one,e1,e2,Bool.and_self]
theorem EIn.nj {h : H} {x : Entry} {d : DEnt} (a : EIn h x d) : V.njL x.cells = true := by
 obtain ⟨b,c,o,e1⟩ := a.ops.len
 obtain ⟨b',n',c',o',e2⟩ := a.dat.shape
 simp only [Entry.cells,V.njL,V.nj,e1,e2,Bool.and_self]
theorem NIn.one {h : H} {x : TNode} {d : DNode} (a : NIn h x d) : x.cells.all V.one = true := by
 obtain ⟨b,c,o,e1⟩ := a.attrs.len
 simp only [TNode.cells,List.all_cons,List.all_nil,V.one,e1,Bool.and_self]
theorem NIn.nj {h : H} {x : TNode} {d : DNode} (a : NIn h x d) : V.njL x.cells = true := by
 obtain ⟨b,c,o,e1⟩ := a.attrs.len
 simp only [TNode.cells,V.njL,V.nj,e1,Bool.and_self]
theorem dnode_iff {h : H} {x y : TNode} {d d' : DNode} (hx : NIn h x d) (hy : NIn h y d') : d = d' ↔ x.node = y.node ∧ x.parent = y.parent ∧ x.name = y.name ∧ d.attrs = d'.attrs := by
 rw [hx.node,hx.parent,hx.name,hy.node,hy.parent,hy.name]
 cases d; cases d'
 simp only [DNode.mk.injEq]
set_option maxRecDepth 100000 in
theorem e69_all : r69_1 = a69_0 ++ (a69_1 ++ (a69_2 ++ (a69_3))) := rfl
theorem s69_0 {P : Program} {E : Env} {K : List Fr} {Q : Po} {x y : TNode} {ρ : Nat → V} {h : H} {bx bz : Nat} {rest : List O} (hx : cC h bx x.cells 67) (hy : cC h bz y.cells 67) (h2 : ρ 2 = pP bx) (h3 : ρ 3 = pP bz) (hk : ∀ (ρ' : Nat → V),ρ' 2 = pP bx → ρ' 3 = pP bz → ρ' 10 = .bool (decide (x.node = y.node)) → XO P E none 31 rest K ρ' h Q) : XO P E none 31 (a69_0 ++ rest) K ρ h Q := by
 simp only [GR,evK,binV,intOp,strOp,unV,Nat.reduceLT,Nat.reduceEqDiff,↓reduceIte,a69_0,h2,h3,hx,hy,TNode.len,TNode.g0]
 exact hk _ h2 h3 (by first | rfl | (simp; done) | exact congrArg V.bool (beq_dec _ _))
theorem s69_1 {P : Program} {E : Env} {K : List Fr} {Q : Po} {x y : TNode} {ρ : Nat → V} {h : H} {bx bz : Nat} {rest : List O} {b : Bool} (hx : cC h bx x.cells 67) (hy : cC h bz y.cells 67) (h2 : ρ 2 = pP bx) (h3 : ρ 3 = pP bz) (hg : ρ 10 = .bool b) (hk : ∀ (ρ' : Nat → V),ρ' 2 = pP bx → ρ' 3 = pP bz → ρ' 17 = .bool (b && decide (x.parent = y.parent)) → XO P E none 31 rest K ρ' h Q) : XO P E none 31 (a69_1 ++ rest) K ρ h Q := by
 cases b with
 | false =>
  simp only [GR,evK,binV,intOp,strOp,unV,Nat.reduceLT,Nat.reduceEqDiff,↓reduceIte,a69_1,hg]
  exact hk _ h2 h3 rfl
 | true =>
  simp only [GR,evK,binV,intOp,strOp,unV,Nat.reduceLT,Nat.reduceEqDiff,↓reduceIte,a69_1,hg,h2,h3,hx,hy,TNode.len,TNode.g1]
  exact hk _ h2 h3 (by first | rfl | (simp; done) | exact congrArg V.bool (beq_dec _ _))
theorem s69_2 {P : Program} {E : Env} {K : List Fr} {Q : Po} {x y : TNode} {ρ : Nat → V} {h : H} {bx bz : Nat} {rest : List O} {b : Bool} (hx : cC h bx x.cells 67) (hy : cC h bz y.cells 67) (h2 : ρ 2 = pP bx) (h3 : ρ 3 = pP bz) (hg : ρ 17 = .bool b) (hk : ∀ (ρ' : Nat → V),ρ' 2 = pP bx → ρ' 3 = pP bz → ρ' 24 = .bool (b && decide (x.name = y.name)) → XO P E none 31 rest K ρ' h Q) : XO P E none 31 (a69_2 ++ rest) K ρ h Q := by
 cases b with
 | false =>
  simp only [GR,evK,binV,intOp,strOp,unV,Nat.reduceLT,Nat.reduceEqDiff,↓reduceIte,a69_2,hg]
  exact hk _ h2 h3 rfl
 | true =>
  simp only [GR,evK,binV,intOp,strOp,unV,Nat.reduceLT,Nat.reduceEqDiff,↓reduceIte,a69_2,hg,h2,h3,hx,hy,TNode.len,TNode.g2]
  exact hk _ h2 h3 (by first | rfl | (simp; done) | exact congrArg V.bool (beq_dec _ _))
theorem s69_3 {P : Program} {E : Env} {K : List Fr} {Q : Po} {x y : TNode} {ρ : Nat → V} {h : H} {bx bz : Nat} {rest : List O} {b : Bool} (hx : cC h bx x.cells 67) (hy : cC h bz y.cells 67) (h2 : ρ 2 = pP bx) (h3 : ρ 3 = pP bz) (hg : ρ 24 = .bool b) {c : Bool} (hc : Sp P E (.func 70 [] []) [x.attrs,y.attrs] h fun v h' => v = .bool c ∧ Kp h h') (hk : ∀ (ρ' : Nat → V) (h' : H),Kp h h' → ρ' 2 = pP bx → ρ' 3 = pP bz → ρ' 4 = .bool (b && c) → XO P E none 31 rest K ρ' h' Q) : XO P E none 31 (a69_3 ++ rest) K ρ h Q := by
 cases b with
 | false =>
  simp only [GR,evK,binV,intOp,strOp,unV,Nat.reduceLT,Nat.reduceEqDiff,↓reduceIte,a69_3,hg]
  exact hk _ _ (Keeps.refl _ _) h2 h3 rfl
 | true =>
  simp only [GR,evK,binV,intOp,strOp,unV,Nat.reduceLT,Nat.reduceEqDiff,↓reduceIte,a69_3,hg,h2,h3,hx,hy,TNode.len,TNode.g3]
  refine XC_of hc ?_
  rintro _ h' ⟨rfl,k⟩
  simp only [GR,evK,binV,intOp,strOp,unV,Nat.reduceLT,Nat.reduceEqDiff,↓reduceIte,hg]
  exact hk _ _ k h2 h3 rfl
set_option maxRecDepth 100000 in
theorem node69 (F : Fa E) {x y : TNode} {h : H} {d d' : DNode} (hx : NIn h x d) (hy : NIn h y d') :
  Sp P E (.func 69 [] []) [.agg x.cells,.agg y.cells] h fun r h' => r = .bool (decide (d = d')) ∧ Kp h h' := by
 have hg0 := psh_same h (.cells x.cells 67 false false none)
 have hk0 : Kp h (h.psh (.cells x.cells 67 false false none)) := Keeps.psh (Nat.le_refl _) _
 have hk1 : Kp (h.psh (.cells x.cells 67 false false none)) ((h.psh (.cells x.cells 67 false false none)).psh (.cells y.cells 67 false false none)) := Keeps.psh (Nat.le_refl _) _
 have gy := psh_same (h.psh (.cells x.cells 67 false false none)) (.cells y.cells 67 false false none)
 have gx := Kp.of hk1 hg0
 have kk := Kp.trans hk0 hk1
 refine Sp_fn F.f69 F.p69 (by simp [fn69]) ?_
 simp only [GR,evK,binV,intOp,strOp,unV,Nat.reduceLT,Nat.reduceEqDiff,↓reduceIte,fn69,c69,r69_0,e69_all]
 generalize (h.psh (.cells x.cells 67 false false none)).psh (.cells y.cells 67 false false none) = h2 at *
 generalize (h.psh (.cells x.cells 67 false false none)).size = B at *
 refine s69_0 gx gy rfl rfl fun ρ p q r => ?_
 refine s69_1 gx gy p q r fun ρ p q r => ?_
 refine s69_2 gx gy p q r fun ρ p q r => ?_
 rw [← List.append_nil a69_3]
 refine s69_3 gx gy p q r (Sp.kp (eq70 F (hx.attrs.keep kk) (hy.attrs.keep kk) hx.len)) fun ρ h3 k p q r => ?_
 have gx := Kp.of k gx
 have gy := Kp.of k gy
 have kk := Kp.trans kk k
 simp only [GR,evK,binV,intOp,strOp,unV,Nat.reduceLT,Nat.reduceEqDiff,↓reduceIte,r]
 refine ⟨?_,kk⟩
 congr 1
 rw [Bool.eq_iff_iff]
 refine Iff.trans ?_ decide_eq_true_iff.symm
 simp only [Bool.and_eq_true,decide_eq_true_eq,beq_iff_eq]
 rw [dnode_iff hx hy]
 simp only [and_assoc]
set_option maxHeartbeats 1000000 in
theorem eql68 (F : Fa E) {v w : V} {xs ys : List (TNode × DNode)} {h0 : H} (hx : Sl h0 4 v (xs.map fun p => p.1.cells)) (hxd : ∀ p ∈ xs,NIn h0 p.1 p.2) (hy : Sl h0 4 w (ys.map fun p => p.1.cells)) (hyd : ∀ p ∈ ys,NIn h0 p.1 p.2) (hl : xs.length ≤ 1048576) :
  Sp P E (.func 68 [] []) [v,w,.func 69 [] []] h0 fun r h' => r = .bool (decide (xs.map (·.2) = ys.map (·.2))) ∧ Kp h0 h' := by
 obtain ⟨a1,c1,o1,e1⟩ := hx.len
 obtain ⟨a2,c2,o2,e2⟩ := hy.len
 rw [List.length_map] at e1 e2
 refine Sp_fn F.f68 F.p68 (by simp [fn68]) ?_
 by_cases hlen : xs.length = ys.length
 ·have loop : ∀ (d k : Nat) (ρ : Nat → V) (h : H),xs.length - k = d → k ≤ xs.length → ρ 1 = w → ρ 2 = .func 69 [] [] → ρ 15 = v → ρ 16 = iI xs.length → ρ 17 = iI k → (xs.map (·.2)).take k = (ys.map (·.2)).take k → Kp h0 h →
    XL P E none 32 b68_6 [.b 0,.c (.seq (.region [⟨some 6,.mv (.k (.bool true)),none,0,[6]⟩]) (.ret))] ρ h (Fin [.t 6] fun r h' => r = .bool (decide (xs.map (·.2) = ys.map (·.2))) ∧ Kp h0 h') := by
   intro d
   induction d with
   | zero =>
    intro k ρ h hd hk q1 q2 q15 q16 q17 ht hkp
    have hke : ¬ k < xs.length := by omega
    rw [List.take_of_length_le (by rw [List.length_map]; omega),List.take_of_length_le (by rw [List.length_map]; omega)] at ht
    rw [u68_6]
    simp only [GR,evK,binV,intOp,strOp,unV,Nat.reduceLT,Nat.reduceEqDiff,↓reduceIte,q16,q17,Int.ofNat_lt,hke]
    simp [ht,hkp]
   | succ d ih =>
    intro k ρ h hd hk q1 q2 q15 q16 q17 ht hkp
    have hke : k < xs.length := by omega
    have hky : k < ys.length := by omega
    obtain ⟨b,o,cap,opn,vs,ty,op,ro,fz,v1,hg,hll,he⟩ := (hx.keep hkp).get (k := k) (x := xs[k].1.cells) (by simp [hke])
    rw [v1,List.length_map] at q15
    have dx := (hxd _ (List.getElem_mem hke)).keep hkp
    have dy := (hyd _ (List.getElem_mem hky)).keep hkp
    have fl : ∀ z : TNode,z.cells.length = 4 := fun _ => rfl
    have p0 : ∀ z : TNode,List.take 4 z.cells = z.cells := fun _ => rfl
    obtain ⟨h3,e3,g3,k3,z3⟩ := put_ex (o := 0) (ws := xs[k].1.cells) (psh_same h (.cells [iI 0,iI 0,.str [],sN] 67 false false none)) (by rw [fl]; decide) dx.one rfl
    have g3' : h3.get h.size = some (.cells xs[k].1.cells 67 false false none) := g3
    have k3' : Kp h h3 := Keeps.trans (Keeps.psh (Nat.le_refl _) _) k3
    obtain ⟨b',o',cap',opn',vs',ty',op',ro',fz',w1,hg',hll',he'⟩ := (hy.keep (hkp.trans k3')).get (k := k) (x := ys[k].1.cells) (by simp [hky])
    rw [w1,List.length_map] at q1
    obtain ⟨h4,e4,g4,k4,z4⟩ := put_ex (o := 0) (ws := ys[k].1.cells) (psh_same h3 (.cells [iI 0,iI 0,.str [],sN] 67 false false none)) (by rw [fl]; decide) dy.one rfl
    have g4' : h4.get h3.size = some (.cells ys[k].1.cells 67 false false none) := g4
    have k4' : Kp h3 h4 := Keeps.trans (Keeps.psh (Nat.le_refl _) _) k4
    have g34 := Kp.of k4' g3'
    have kk := hkp.trans (k3'.trans k4')
    unfold getR at he he'
    have hw : IntKind.i64.wrap ((k : Int) + 1) = ((k + 1 : Nat) : Int) := wrap_nat (n := k + 1) (by omega)
    have flx := fl xs[k].1
    have fly := fl ys[k].1
    have p0x := p0 xs[k].1
    have p0y := p0 ys[k].1
    have sp := node69 (P := P) F (dx.keep (k3'.trans k4')) (dy.keep (k3'.trans k4'))
    have hres : ∀ b,decide (xs[k].2 = ys[k].2) = b → b = false → xs.map (·.2) ≠ ys.map (·.2) := fun b hb hb2 e => by
     subst hb2
     have : (xs.map (·.2))[k]'(by simp [hke]) = (ys.map (·.2))[k]'(by simp [hky]) := by simp only [e]
     simp at this hb
     exact hb this
    generalize hxc : xs[k].1.cells = xc at *
    generalize hyc : ys[k].1.cells = yc at *
    rw [u68_6]
    simp only [GR,evK,binV,intOp,strOp,unV,Nat.reduceLT,Nat.reduceEqDiff,↓reduceIte,q16,q17,Int.ofNat_lt,hke,hky,r68_2,r68_3,r68_4,q15,q1,q2,hg,hg',hll,hll',he,he',Int.natCast_nonneg,Int.toNat_natCast,flx,fly,p0x,p0y,e3,e4,g4',g34]
    refine XC_of sp ?_
    rintro _ h5 ⟨rfl,k5⟩
    by_cases hek : xs[k].2 = ys[k].2
    ·have hd2 : decide (xs[k].2 = ys[k].2) = true := decide_eq_true hek
     simp only [GR,evK,binV,intOp,strOp,unV,Nat.reduceLT,Nat.reduceEqDiff,↓reduceIte,hd2,Bool.not_true,r68_5,q17,hw]
     refine ih (k + 1) _ h5 (by omega) (by omega) ?_ q2 ?_ q16 rfl (take_succ (by simp [hke]) (by simp [hky]) ht (by simp [hek])) (kk.trans k5)
     ·rw [w1,List.length_map]; exact q1
     ·rw [v1,List.length_map]; exact q15
    ·have hd2 : decide (xs[k].2 = ys[k].2) = false := decide_eq_false hek
     have hne := hres _ hd2 rfl
     simp only [GR,evK,binV,intOp,strOp,unV,Nat.reduceLT,Nat.reduceEqDiff,↓reduceIte,hd2,Bool.not_false]
     refine ⟨?_,kk.trans k5⟩
     rw [decide_eq_false hne]
  have hd : decide (xs.length = ys.length) = true := decide_eq_true hlen
  simp only [GR,evK,binV,intOp,strOp,unV,Nat.reduceLT,Nat.reduceEqDiff,↓reduceIte,fn68,c68,r68_0,r68_1,e1,e2,eqlens,hd,Bool.not_true]
  exact loop _ 0 _ h0 rfl (Nat.zero_le _) e2.symm rfl e1.symm rfl rfl rfl (Keeps.refl _ _)
 ·have hne : xs.map (·.2) ≠ ys.map (·.2) := fun e => hlen (by have := congrArg List.length e; simpa using this)
  have hd : decide (xs.length = ys.length) = false := decide_eq_false hlen
  simp only [GR,evK,binV,intOp,strOp,unV,Nat.reduceLT,Nat.reduceEqDiff,↓reduceIte,fn68,c68,r68_0,e1,e2,eqlens,hd,Bool.not_false]
  exact ⟨by rw [decide_eq_false hne],Keeps.refl _ _⟩
theorem nodes62 (F : Fa E) {v w : V} {xs ys : List (TNode × DNode)} {h0 : H} (hx : Sl h0 4 v (xs.map fun p => p.1.cells)) (hxd : ∀ p ∈ xs,NIn h0 p.1 p.2) (hy : Sl h0 4 w (ys.map fun p => p.1.cells)) (hyd : ∀ p ∈ ys,NIn h0 p.1 p.2) (hl : xs.length ≤ 1048576) :
  Sp P E (.func 62 [] []) [v,w] h0 fun r h' => r = .bool (decide (xs.map (·.2) = ys.map (·.2))) ∧ Kp h0 h' := by
 refine Sp_fn F.f62 F.p62 (by simp [fn62]) ?_
 simp only [GR,evK,binV,intOp,strOp,unV,Nat.reduceLT,Nat.reduceEqDiff,↓reduceIte,fn62,c62,r62_0]
 refine XC_of (eql68 F hx hxd hy hyd hl) ?_
 rintro _ h1 ⟨rfl,k1⟩
 simp only [GR,evK,binV,intOp,strOp,unV,Nat.reduceLT,Nat.reduceEqDiff,↓reduceIte]
 exact k1
set_option maxHeartbeats 1000000 in
theorem node43 (F : Fa E) {x y : TNode} {h : H} {d d' : DNode} (hx : NIn h x d) (hy : NIn h y d') :
  Sp P E (.func 43 [] []) [.agg x.cells,.agg y.cells] h fun r h' => r = .bool (decide (d = d')) ∧ Kp h h' := by
 have hg0 := psh_same h (.cells x.cells 67 false false none)
 have hk0 : Kp h (h.psh (.cells x.cells 67 false false none)) := Keeps.psh (Nat.le_refl _) _
 have hk1 : Kp (h.psh (.cells x.cells 67 false false none)) ((h.psh (.cells x.cells 67 false false none)).psh (.cells y.cells 67 false false none)) := Keeps.psh (Nat.le_refl _) _
 have gy := psh_same (h.psh (.cells x.cells 67 false false none)) (.cells y.cells 67 false false none)
 have gx := Kp.of hk1 hg0
 have kk := Kp.trans hk0 hk1
 refine Sp_fn F.f43 F.p43 (by simp [fn43]) ?_
 simp only [GR,evK,binV,intOp,strOp,unV,Nat.reduceLT,Nat.reduceEqDiff,↓reduceIte,fn43,c43,r43_0]
 generalize (h.psh (.cells x.cells 67 false false none)).psh (.cells y.cells 67 false false none) = h2 at *
 generalize (h.psh (.cells x.cells 67 false false none)).size = B at *
 have sx := hx.attrs.keep kk
 have sy := hy.attrs.keep kk
 obtain ⟨a1,c1,o1,e1⟩ := sx.len
 obtain ⟨a2,c2,o2,e2⟩ := sy.len
 rw [List.length_map] at e1 e2
 have hl := hx.len
 have iff := dnode_iff hx hy
 by_cases n1 : x.node = y.node
 case neg =>
  have m1 : (x.node != y.node) = true := by simp [n1]
  simp only [GR,evK,binV,intOp,strOp,unV,Nat.reduceLT,Nat.reduceEqDiff,↓reduceIte,r43_1,gx,gy,TNode.len,TNode.g0,TNode.g1,TNode.g2,TNode.g3,m1]
  exact ⟨by rw [decide_eq_false (fun e => n1 (iff.1 e).1)],kk⟩
 have m1 : (x.node != y.node) = false := by simp [n1]
 by_cases n2 : x.parent = y.parent
 case neg =>
  have m2 : (x.parent != y.parent) = true := by simp [n2]
  simp only [GR,evK,binV,intOp,strOp,unV,Nat.reduceLT,Nat.reduceEqDiff,↓reduceIte,r43_1,gx,gy,TNode.len,TNode.g0,TNode.g1,TNode.g2,TNode.g3,m1,m2]
  exact ⟨by rw [decide_eq_false (fun e => n2 (iff.1 e).2.1)],kk⟩
 have m2 : (x.parent != y.parent) = false := by simp [n2]
 by_cases n3 : x.name = y.name
 case neg =>
  have m3 : (x.name != y.name) = true := by simp [n3]
  have m3' : (x.name == y.name) = false := by simp [n3]
  simp only [GR,evK,binV,intOp,strOp,unV,Nat.reduceLT,Nat.reduceEqDiff,↓reduceIte,r43_1,gx,gy,TNode.len,TNode.g0,TNode.g1,TNode.g2,TNode.g3,m1,m2,m3,m3',Bool.not_false]
  exact ⟨by rw [decide_eq_false (fun e => n3 (iff.1 e).2.2.1)],kk⟩
 have m3 : (x.name != y.name) = false := by simp [n3]
 have m3' : (x.name == y.name) = true := by simp [n3]
 by_cases hlen : d.attrs.length = d'.attrs.length
 case neg =>
  have hd : decide (d.attrs.length = d'.attrs.length) = false := decide_eq_false hlen
  simp only [GR,evK,binV,intOp,strOp,unV,Nat.reduceLT,Nat.reduceEqDiff,↓reduceIte,r43_1,gx,gy,TNode.len,TNode.g0,TNode.g1,TNode.g2,TNode.g3,m1,m2,m3,m3',Bool.not_true,e1,e2,eqlens,hd,Bool.not_false]
  exact ⟨by rw [decide_eq_false (fun e => hlen (by rw [e]))],kk⟩
 have hd : decide (d.attrs.length = d'.attrs.length) = true := decide_eq_true hlen
 have loop : ∀ (n k : Nat) (ρ : Nat → V),d.attrs.length - k = n → k ≤ d.attrs.length → ρ 2 = pP h.size → ρ 3 = pP B → ρ 5 = iI k → d.attrs.take k = d'.attrs.take k →
   XL P E none 52 b43_5 [.b 0,.c (.seq (.region [⟨some 4,.mv (.k (.bool true)),none,0,[4]⟩]) (.ret))] ρ h2 (Fin [.t 4] fun r h' => r = .bool (decide (d = d')) ∧ Kp h h') := by
  intro n
  induction n with
  | zero =>
   intro k ρ hn hk q2 q3 q5 ht
   have hke : ¬ k < d.attrs.length := by omega
   rw [List.take_of_length_le (by omega),List.take_of_length_le (by omega)] at ht
   rw [u43_5]
   simp only [GR,evK,binV,intOp,strOp,unV,Nat.reduceLT,Nat.reduceEqDiff,↓reduceIte,r43_2,q2,q5,gx,TNode.len,TNode.g3,e1,Int.ofNat_lt,hke]
   exact ⟨by rw [decide_eq_true (iff.2 ⟨n1,n2,n3,ht⟩)],kk⟩
  | succ n ih =>
   intro k ρ hn hk q2 q3 q5 ht
   have hke : k < d.attrs.length := by omega
   have hky : k < d'.attrs.length := by omega
   obtain ⟨b,o,cap,opn,vs,ty,op,ro,fz,v1,hg,hll,he⟩ := sx.get (k := k) (x := d.attrs[k].cells) (by simp [hke])
   obtain ⟨b',o',cap',opn',vs',ty',op',ro',fz',w1,hg',hll',he'⟩ := sy.get (k := k) (x := d'.attrs[k].cells) (by simp [hky])
   rw [List.length_map] at v1 w1
   unfold getR at he he'
   have hw : IntKind.i64.wrap ((k : Int) + 1) = ((k + 1 : Nat) : Int) := wrap_nat (n := k + 1) (by omega)
   have heq := Attr.eqv h2 d.attrs[k] d'.attrs[k]
   by_cases hek : d.attrs[k] = d'.attrs[k]
   ·rw [decide_eq_true hek] at heq
    rw [u43_5]
    simp only [GR,evK,binV,intOp,strOp,unV,Nat.reduceLT,Nat.reduceEqDiff,↓reduceIte,r43_2,q2,q5,gx,TNode.len,TNode.g3,v1,Int.ofNat_lt,hke]
    rw [X_draw,d43_3]
    simp only [GR,evK,binV,intOp,strOp,unV,Nat.reduceLT,Nat.reduceEqDiff,↓reduceIte,r43_3,q2,q3,gx,gy,TNode.len,TNode.g3,v1,w1,q5,Int.ofNat_lt,hke,hky,hg,hg',hll,hll',he,he',Int.natCast_nonneg,Int.toNat_natCast,heq,Bool.not_true,r43_4,hw]
    exact ih (k + 1) _ (by omega) (by omega) q2 q3 rfl (take_succ hke hky ht hek)
   ·rw [decide_eq_false hek] at heq
    rw [u43_5]
    simp only [GR,evK,binV,intOp,strOp,unV,Nat.reduceLT,Nat.reduceEqDiff,↓reduceIte,r43_2,q2,q5,gx,TNode.len,TNode.g3,v1,Int.ofNat_lt,hke]
    rw [X_draw,d43_3]
    simp only [GR,evK,binV,intOp,strOp,unV,Nat.reduceLT,Nat.reduceEqDiff,↓reduceIte,r43_3,q2,q3,gx,gy,TNode.len,TNode.g3,v1,w1,q5,Int.ofNat_lt,hke,hky,hg,hg',hll,hll',he,he',Int.natCast_nonneg,Int.toNat_natCast,heq,Bool.not_false]
    exact ⟨by rw [decide_eq_false (fun e => by subst e; exact hek rfl)],kk⟩
 simp only [GR,evK,binV,intOp,strOp,unV,Nat.reduceLT,Nat.reduceEqDiff,↓reduceIte,r43_1,gx,gy,TNode.len,TNode.g0,TNode.g1,TNode.g2,TNode.g3,m1,m2,m3,m3',Bool.not_true,e1,e2,eqlens,hd]
 exact loop _ 0 _ rfl (Nat.zero_le _) rfl rfl rfl rfl
set_option maxHeartbeats 1000000 in
theorem eql22 (F : Fa E) {v w : V} {xs ys : List (TNode × DNode)} {h0 : H} (hx : Sl h0 4 v (xs.map fun p => p.1.cells)) (hxd : ∀ p ∈ xs,NIn h0 p.1 p.2) (hy : Sl h0 4 w (ys.map fun p => p.1.cells)) (hyd : ∀ p ∈ ys,NIn h0 p.1 p.2) (hl : xs.length ≤ 1048576) :
  Sp P E (.func 22 [] []) [v,w] h0 fun r h' => r = .bool (decide (xs.map (·.2) = ys.map (·.2))) ∧ Kp h0 h' := by
 obtain ⟨a1,c1,o1,e1⟩ := hx.len
 obtain ⟨a2,c2,o2,e2⟩ := hy.len
 rw [List.length_map] at e1 e2
 refine Sp_fn F.f22 F.p22 (by simp [fn22]) ?_
 by_cases hlen : xs.length = ys.length
 ·have loop : ∀ (d k : Nat) (ρ : Nat → V) (h : H),xs.length - k = d → k ≤ xs.length → ρ 0 = v → ρ 1 = w → ρ 5 = iI k → (xs.map (·.2)).take k = (ys.map (·.2)).take k → Kp h0 h →
    XL P E none 27 b22_4 [.b 0,.c (.seq (.region [⟨some 4,.mv (.k (.bool true)),none,0,[4]⟩]) (.ret))] ρ h (Fin [.t 4] fun r h' => r = .bool (decide (xs.map (·.2) = ys.map (·.2))) ∧ Kp h0 h') := by
   intro d
   induction d with
   | zero =>
    intro k ρ h hd hk q0 q1 q5 ht hkp
    have hke : ¬ k < xs.length := by omega
    rw [List.take_of_length_le (by rw [List.length_map]; omega),List.take_of_length_le (by rw [List.length_map]; omega)] at ht
    rw [u22_4]
    simp only [GR,evK,binV,intOp,strOp,unV,Nat.reduceLT,Nat.reduceEqDiff,↓reduceIte,r22_1,q0,e1,q5,Int.ofNat_lt,hke]
    simp [ht,hkp]
   | succ d ih =>
    intro k ρ h hd hk q0 q1 q5 ht hkp
    have hke : k < xs.length := by omega
    have hky : k < ys.length := by omega
    obtain ⟨b,o,cap,opn,vs,ty,op,ro,fz,v1,hg,hll,he⟩ := (hx.keep hkp).get (k := k) (x := xs[k].1.cells) (by simp [hke])
    obtain ⟨b',o',cap',opn',vs',ty',op',ro',fz',w1,hg',hll',he'⟩ := (hy.keep hkp).get (k := k) (x := ys[k].1.cells) (by simp [hky])
    rw [v1,List.length_map] at q0
    rw [w1,List.length_map] at q1
    have dx := (hxd _ (List.getElem_mem hke)).keep hkp
    have dy := (hyd _ (List.getElem_mem hky)).keep hkp
    unfold getR at he he'
    have hw : IntKind.i64.wrap ((k : Int) + 1) = ((k + 1 : Nat) : Int) := wrap_nat (n := k + 1) (by omega)
    have sp := node43 (P := P) F dx dy
    have njx := dx.nj
    have njy := dy.nj
    have hres : ∀ b,decide (xs[k].2 = ys[k].2) = b → b = false → xs.map (·.2) ≠ ys.map (·.2) := fun b hb hb2 e => by
     subst hb2
     have : (xs.map (·.2))[k]'(by simp [hke]) = (ys.map (·.2))[k]'(by simp [hky]) := by simp only [e]
     simp at this hb
     exact hb this
    generalize hxc : xs[k].1.cells = xc at *
    generalize hyc : ys[k].1.cells = yc at *
    rw [u22_4]
    simp only [GR,evK,binV,intOp,strOp,unV,Nat.reduceLT,Nat.reduceEqDiff,↓reduceIte,r22_1,q5,q0,Int.ofNat_lt,hke]
    rw [X_draw]
    refine d22_2 ?_
    simp only [GR,evK,binV,intOp,strOp,unV,Nat.reduceLT,Nat.reduceEqDiff,↓reduceIte,q0,q1,Int.ofNat_lt,hke,hky,r22_2,q5,hg,hg',hll,hll',he,he',Int.natCast_nonneg,Int.toNat_natCast,njx,njy]
    refine XCD_of sp ?_
    rintro _ h5 ⟨rfl,k5⟩
    by_cases hek : xs[k].2 = ys[k].2
    ·have hd2 : decide (xs[k].2 = ys[k].2) = true := decide_eq_true hek
     simp only [GR,evK,binV,intOp,strOp,unV,Nat.reduceLT,Nat.reduceEqDiff,↓reduceIte,hd2,Bool.not_true,r22_3,q5,hw]
     refine ih (k + 1) _ h5 (by omega) (by omega) ?_ ?_ rfl (take_succ (by simp [hke]) (by simp [hky]) ht (by simp [hek])) (hkp.trans k5)
     ·rw [v1,List.length_map]; exact q0
     ·rw [w1,List.length_map]; exact q1
    ·have hd2 : decide (xs[k].2 = ys[k].2) = false := decide_eq_false hek
     have hne := hres _ hd2 rfl
     simp only [GR,evK,binV,intOp,strOp,unV,Nat.reduceLT,Nat.reduceEqDiff,↓reduceIte,hd2,Bool.not_false]
     refine ⟨?_,hkp.trans k5⟩
     rw [decide_eq_false hne]
  have hd : decide (xs.length = ys.length) = true := decide_eq_true hlen
  simp only [GR,evK,binV,intOp,strOp,unV,Nat.reduceLT,Nat.reduceEqDiff,↓reduceIte,fn22,c22,r22_0,e1,e2,eqlens,hd,Bool.not_true]
  exact loop _ 0 _ h0 rfl (Nat.zero_le _) e1.symm e2.symm rfl rfl (Keeps.refl _ _)
 ·have hne : xs.map (·.2) ≠ ys.map (·.2) := fun e => hlen (by have := congrArg List.length e; simpa using this)
  have hd : decide (xs.length = ys.length) = false := decide_eq_false hlen
  simp only [GR,evK,binV,intOp,strOp,unV,Nat.reduceLT,Nat.reduceEqDiff,↓reduceIte,fn22,c22,r22_0,e1,e2,eqlens,hd,Bool.not_false]
  exact ⟨by rw [decide_eq_false hne],Keeps.refl _ _⟩
abbrev eqState (v w : WV) : Prop := v.x.booted = w.x.booted ∧ v.x.epoch = w.x.epoch ∧ v.x.clock = w.x.clock ∧ v.x.frontier = w.x.frontier ∧ v.x.vector = w.x.vector ∧ v.ns.map (·.2) = w.ns.map (·.2) ∧ v.rs = w.rs
set_option maxRecDepth 100000 in
theorem e40_all : r40_1 = a40_0 ++ (a40_1 ++ (a40_2 ++ (a40_3 ++ (a40_4 ++ (a40_5 ++ (a40_6)))))) := rfl
theorem s40_0 {P : Program} {E : Env} {K : List Fr} {Q : Po} {x y : View} {ρ : Nat → V} {h : H} {bx bz : Nat} {rest : List O} (hx : cC h bx x.cells 63) (hy : cC h bz y.cells 63) (h2 : ρ 2 = pP bx) (h3 : ρ 3 = pP bz) (hk : ∀ (ρ' : Nat → V),ρ' 2 = pP bx → ρ' 3 = pP bz → ρ' 10 = .bool (decide (x.booted = y.booted)) → XO P E none 52 rest K ρ' h Q) : XO P E none 52 (a40_0 ++ rest) K ρ h Q := by
 simp only [GR,evK,binV,intOp,strOp,shOp,unV,Nat.reduceLT,Nat.reduceEqDiff,Nat.reduceAdd,↓reduceIte,Nat.reduceLeDiff,reduceCtorEq,a40_0,h2,h3,hx,hy,View.len,View.g4,bool_step]
 exact hk _ h2 h3 (by first | rfl | (simp; done) | exact congrArg V.bool (beq_dec _ _))
theorem s40_1 {P : Program} {E : Env} {K : List Fr} {Q : Po} {x y : View} {ρ : Nat → V} {h : H} {bx bz : Nat} {rest : List O} {b : Bool} (hx : cC h bx x.cells 63) (hy : cC h bz y.cells 63) (h2 : ρ 2 = pP bx) (h3 : ρ 3 = pP bz) (hg : ρ 10 = .bool b) (hk : ∀ (ρ' : Nat → V),ρ' 2 = pP bx → ρ' 3 = pP bz → ρ' 17 = .bool (b && decide (x.epoch = y.epoch)) → XO P E none 52 rest K ρ' h Q) : XO P E none 52 (a40_1 ++ rest) K ρ h Q := by
 cases b with
 | false =>
  simp only [GR,evK,binV,intOp,strOp,shOp,unV,Nat.reduceLT,Nat.reduceEqDiff,Nat.reduceAdd,↓reduceIte,Nat.reduceLeDiff,reduceCtorEq,a40_1,hg]
  exact hk _ h2 h3 rfl
 | true =>
  simp only [GR,evK,binV,intOp,strOp,shOp,unV,Nat.reduceLT,Nat.reduceEqDiff,Nat.reduceAdd,↓reduceIte,Nat.reduceLeDiff,reduceCtorEq,a40_1,hg,h2,h3,hx,hy,View.len,View.g8]
  exact hk _ h2 h3 (by first | rfl | (simp; done) | exact congrArg V.bool (beq_dec _ _))
theorem s40_2 {P : Program} {E : Env} {K : List Fr} {Q : Po} {x y : View} {ρ : Nat → V} {h : H} {bx bz : Nat} {rest : List O} {b : Bool} (hx : cC h bx x.cells 63) (hy : cC h bz y.cells 63) (h2 : ρ 2 = pP bx) (h3 : ρ 3 = pP bz) (hg : ρ 17 = .bool b) (hk : ∀ (ρ' : Nat → V),ρ' 2 = pP bx → ρ' 3 = pP bz → ρ' 24 = .bool (b && decide (x.clock = y.clock)) → XO P E none 52 rest K ρ' h Q) : XO P E none 52 (a40_2 ++ rest) K ρ h Q := by
 cases b with
 | false =>
  simp only [GR,evK,binV,intOp,strOp,shOp,unV,Nat.reduceLT,Nat.reduceEqDiff,Nat.reduceAdd,↓reduceIte,Nat.reduceLeDiff,reduceCtorEq,a40_2,hg]
  exact hk _ h2 h3 rfl
 | true =>
  simp only [GR,evK,binV,intOp,strOp,shOp,unV,Nat.reduceLT,Nat.reduceEqDiff,Nat.reduceAdd,↓reduceIte,Nat.reduceLeDiff,reduceCtorEq,a40_2,hg,h2,h3,hx,hy,View.len,View.g9]
  exact hk _ h2 h3 (by first | rfl | (simp; done) | exact congrArg V.bool (beq_dec _ _))
theorem s40_3 {P : Program} {E : Env} {K : List Fr} {Q : Po} {x y : View} {ρ : Nat → V} {h : H} {bx bz : Nat} {rest : List O} {b : Bool} (hx : cC h bx x.cells 63) (hy : cC h bz y.cells 63) (h2 : ρ 2 = pP bx) (h3 : ρ 3 = pP bz) (hg : ρ 24 = .bool b) (hk : ∀ (ρ' : Nat → V),ρ' 2 = pP bx → ρ' 3 = pP bz → ρ' 31 = .bool (b && decide (x.frontier = y.frontier)) → XO P E none 52 rest K ρ' h Q) : XO P E none 52 (a40_3 ++ rest) K ρ h Q := by
 cases b with
 | false =>
  simp only [GR,evK,binV,intOp,strOp,shOp,unV,Nat.reduceLT,Nat.reduceEqDiff,Nat.reduceAdd,↓reduceIte,Nat.reduceLeDiff,reduceCtorEq,a40_3,hg]
  exact hk _ h2 h3 rfl
 | true =>
  simp only [GR,evK,binV,intOp,strOp,shOp,unV,Nat.reduceLT,Nat.reduceEqDiff,Nat.reduceAdd,↓reduceIte,Nat.reduceLeDiff,reduceCtorEq,a40_3,hg,h2,h3,hx,hy,View.len,View.g10]
  exact hk _ h2 h3 (by first | rfl | (simp; done) | exact congrArg V.bool (beq_dec _ _))
theorem s40_4 {P : Program} {E : Env} {K : List Fr} {Q : Po} {x y : View} {ρ : Nat → V} {h : H} {bx bz : Nat} {rest : List O} {b : Bool} (hx : cC h bx x.cells 63) (hy : cC h bz y.cells 63) (h2 : ρ 2 = pP bx) (h3 : ρ 3 = pP bz) (hg : ρ 31 = .bool b) (hk : ∀ (ρ' : Nat → V),ρ' 2 = pP bx → ρ' 3 = pP bz → ρ' 38 = .bool (b && decide (x.vector = y.vector)) → XO P E none 52 rest K ρ' h Q) : XO P E none 52 (a40_4 ++ rest) K ρ h Q := by
 have hpart : ∀ z : View,List.take 8 (List.drop 11 z.cells) = z.vector.cells := fun _ => rfl
 have heq := Vec.eqv h x.vector y.vector
 cases b with
 | false =>
  simp only [GR,evK,binV,intOp,strOp,shOp,unV,Nat.reduceLT,Nat.reduceEqDiff,Nat.reduceAdd,↓reduceIte,Nat.reduceLeDiff,reduceCtorEq,a40_4,hg]
  exact hk _ h2 h3 rfl
 | true =>
  simp only [GR,evK,binV,intOp,strOp,shOp,unV,Nat.reduceLT,Nat.reduceEqDiff,Nat.reduceAdd,↓reduceIte,Nat.reduceLeDiff,reduceCtorEq,a40_4,hg,h2,h3,hx,hy,View.len,hpart,heq]
  exact hk _ h2 h3 (by first | rfl | (simp; done) | exact congrArg V.bool (beq_dec _ _))
theorem s40_5 {P : Program} {E : Env} {K : List Fr} {Q : Po} {x y : View} {ρ : Nat → V} {h : H} {bx bz : Nat} {rest : List O} {b : Bool} (hx : cC h bx x.cells 63) (hy : cC h bz y.cells 63) (h2 : ρ 2 = pP bx) (h3 : ρ 3 = pP bz) (hg : ρ 38 = .bool b) {c : Bool} (hc : Sp P E (.func 62 [] []) [x.nodes,y.nodes] h fun v h' => v = .bool c ∧ Kp h h') (hk : ∀ (ρ' : Nat → V) (h' : H),Kp h h' → ρ' 2 = pP bx → ρ' 3 = pP bz → ρ' 45 = .bool (b && c) → XO P E none 52 rest K ρ' h' Q) : XO P E none 52 (a40_5 ++ rest) K ρ h Q := by
 cases b with
 | false =>
  simp only [GR,evK,binV,intOp,strOp,shOp,unV,Nat.reduceLT,Nat.reduceEqDiff,Nat.reduceAdd,↓reduceIte,Nat.reduceLeDiff,reduceCtorEq,a40_5,hg]
  exact hk _ _ (Keeps.refl _ _) h2 h3 rfl
 | true =>
  simp only [GR,evK,binV,intOp,strOp,shOp,unV,Nat.reduceLT,Nat.reduceEqDiff,Nat.reduceAdd,↓reduceIte,Nat.reduceLeDiff,reduceCtorEq,a40_5,hg,h2,h3,hx,hy,View.len,View.g19]
  refine XC_of hc ?_
  rintro _ h' ⟨rfl,k⟩
  simp only [GR,evK,binV,intOp,strOp,shOp,unV,Nat.reduceLT,Nat.reduceEqDiff,Nat.reduceAdd,↓reduceIte,Nat.reduceLeDiff,reduceCtorEq,hg]
  exact hk _ _ k h2 h3 rfl
theorem s40_6 {P : Program} {E : Env} {K : List Fr} {Q : Po} {x y : View} {ρ : Nat → V} {h : H} {bx bz : Nat} {rest : List O} {b : Bool} (hx : cC h bx x.cells 63) (hy : cC h bz y.cells 63) (h2 : ρ 2 = pP bx) (h3 : ρ 3 = pP bz) (hg : ρ 45 = .bool b) {c : Bool} (hc : Sp P E (.func 63 [] []) [x.rows,y.rows] h fun v h' => v = .bool c ∧ Kp h h') (hk : ∀ (ρ' : Nat → V) (h' : H),Kp h h' → ρ' 2 = pP bx → ρ' 3 = pP bz → ρ' 4 = .bool (b && c) → XO P E none 52 rest K ρ' h' Q) : XO P E none 52 (a40_6 ++ rest) K ρ h Q := by
 cases b with
 | false =>
  simp only [GR,evK,binV,intOp,strOp,shOp,unV,Nat.reduceLT,Nat.reduceEqDiff,Nat.reduceAdd,↓reduceIte,Nat.reduceLeDiff,reduceCtorEq,a40_6,hg]
  exact hk _ _ (Keeps.refl _ _) h2 h3 rfl
 | true =>
  simp only [GR,evK,binV,intOp,strOp,shOp,unV,Nat.reduceLT,Nat.reduceEqDiff,Nat.reduceAdd,↓reduceIte,Nat.reduceLeDiff,reduceCtorEq,a40_6,hg,h2,h3,hx,hy,View.len,View.g20]
  refine XC_of hc ?_
  rintro _ h' ⟨rfl,k⟩
  simp only [GR,evK,binV,intOp,strOp,shOp,unV,Nat.reduceLT,Nat.reduceEqDiff,Nat.reduceAdd,↓reduceIte,Nat.reduceLeDiff,reduceCtorEq,hg]
  exact hk _ _ k h2 h3 rfl
set_option maxRecDepth 100000 in
theorem state40 (F : Fa E) {x y : View} {h : H} {es es' : List (Entry × DEnt)} {ns ns' : List (TNode × DNode)} {rs rs' : List Row} (hx : VIn h ⟨x,es,ns,rs⟩) (hy : VIn h ⟨y,es',ns',rs'⟩) :
  Sp P E (.func 40 [] []) [.agg x.cells,.agg y.cells] h fun r h' => r = .bool (decide (eqState ⟨x,es,ns,rs⟩ ⟨y,es',ns',rs'⟩)) ∧ Kp h h' := by
 have hg0 := psh_same h (.cells x.cells 63 false false none)
 have hk0 : Kp h (h.psh (.cells x.cells 63 false false none)) := Keeps.psh (Nat.le_refl _) _
 have hk1 : Kp (h.psh (.cells x.cells 63 false false none)) ((h.psh (.cells x.cells 63 false false none)).psh (.cells y.cells 63 false false none)) := Keeps.psh (Nat.le_refl _) _
 have gy := psh_same (h.psh (.cells x.cells 63 false false none)) (.cells y.cells 63 false false none)
 have gx := Kp.of hk1 hg0
 have kk := Kp.trans hk0 hk1
 refine Sp_fn F.f40 F.p40 (by simp [fn40]) ?_
 simp only [GR,evK,binV,intOp,strOp,shOp,unV,Nat.reduceLT,Nat.reduceEqDiff,Nat.reduceAdd,↓reduceIte,Nat.reduceLeDiff,reduceCtorEq,fn40,c40,r40_0,e40_all]
 generalize (h.psh (.cells x.cells 63 false false none)).psh (.cells y.cells 63 false false none) = h2 at *
 generalize (h.psh (.cells x.cells 63 false false none)).size = B at *
 refine s40_0 gx gy rfl rfl fun ρ p q r => ?_
 refine s40_1 gx gy p q r fun ρ p q r => ?_
 refine s40_2 gx gy p q r fun ρ p q r => ?_
 refine s40_3 gx gy p q r fun ρ p q r => ?_
 refine s40_4 gx gy p q r fun ρ p q r => ?_
 refine s40_5 gx gy p q r (nodes62 F (hx.nodes.keep kk) (fun p hp => (hx.nds p hp).keep kk) (hy.nodes.keep kk) (fun p hp => (hy.nds p hp).keep kk) hx.nlen) fun ρ h3 k p q r => ?_
 have gx := Kp.of k gx
 have gy := Kp.of k gy
 have kk := Kp.trans kk k
 rw [← List.append_nil a40_6]
 refine s40_6 gx gy p q r (Sp.kp (eq63 F (hx.rows.keep kk) (hy.rows.keep kk) hx.rlen)) fun ρ h3 k p q r => ?_
 have gx := Kp.of k gx
 have gy := Kp.of k gy
 have kk := Kp.trans kk k
 simp only [GR,evK,binV,intOp,strOp,shOp,unV,Nat.reduceLT,Nat.reduceEqDiff,Nat.reduceAdd,↓reduceIte,Nat.reduceLeDiff,reduceCtorEq,r]
 refine ⟨?_,kk⟩
 congr 1
 rw [Bool.eq_iff_iff]
 refine Iff.trans ?_ decide_eq_true_iff.symm
 simp only [Bool.and_eq_true,decide_eq_true_eq,beq_iff_eq]
 simp only [and_assoc]
set_option maxRecDepth 100000 in
theorem e21_all : r21_1 = a21_0 ++ (a21_1 ++ (a21_2 ++ (a21_3 ++ (a21_4 ++ (a21_5 ++ (a21_6)))))) := rfl
theorem s21_0 {P : Program} {E : Env} {K : List Fr} {Q : Po} {x y : View} {ρ : Nat → V} {h : H} {bx bz : Nat} {rest : List O} (hx : cC h bx x.cells 63) (hy : cC h bz y.cells 63) (h2 : ρ 2 = pP bx) (h3 : ρ 3 = pP bz) (hk : ∀ (ρ' : Nat → V),ρ' 2 = pP bx → ρ' 3 = pP bz → ρ' 10 = .bool (decide (x.booted = y.booted)) → XO P E none 52 rest K ρ' h Q) : XO P E none 52 (a21_0 ++ rest) K ρ h Q := by
 simp only [GR,evK,binV,intOp,strOp,shOp,unV,Nat.reduceLT,Nat.reduceEqDiff,Nat.reduceAdd,↓reduceIte,Nat.reduceLeDiff,reduceCtorEq,a21_0,h2,h3,hx,hy,View.len,View.g4,bool_step]
 exact hk _ h2 h3 (by first | rfl | (simp; done) | exact congrArg V.bool (beq_dec _ _))
theorem s21_1 {P : Program} {E : Env} {K : List Fr} {Q : Po} {x y : View} {ρ : Nat → V} {h : H} {bx bz : Nat} {rest : List O} {b : Bool} (hx : cC h bx x.cells 63) (hy : cC h bz y.cells 63) (h2 : ρ 2 = pP bx) (h3 : ρ 3 = pP bz) (hg : ρ 10 = .bool b) (hk : ∀ (ρ' : Nat → V),ρ' 2 = pP bx → ρ' 3 = pP bz → ρ' 17 = .bool (b && decide (x.epoch = y.epoch)) → XO P E none 52 rest K ρ' h Q) : XO P E none 52 (a21_1 ++ rest) K ρ h Q := by
 cases b with
 | false =>
  simp only [GR,evK,binV,intOp,strOp,shOp,unV,Nat.reduceLT,Nat.reduceEqDiff,Nat.reduceAdd,↓reduceIte,Nat.reduceLeDiff,reduceCtorEq,a21_1,hg]
  exact hk _ h2 h3 rfl
 | true =>
  simp only [GR,evK,binV,intOp,strOp,shOp,unV,Nat.reduceLT,Nat.reduceEqDiff,Nat.reduceAdd,↓reduceIte,Nat.reduceLeDiff,reduceCtorEq,a21_1,hg,h2,h3,hx,hy,View.len,View.g8]
  exact hk _ h2 h3 (by first | rfl | (simp; done) | exact congrArg V.bool (beq_dec _ _))
theorem s21_2 {P : Program} {E : Env} {K : List Fr} {Q : Po} {x y : View} {ρ : Nat → V} {h : H} {bx bz : Nat} {rest : List O} {b : Bool} (hx : cC h bx x.cells 63) (hy : cC h bz y.cells 63) (h2 : ρ 2 = pP bx) (h3 : ρ 3 = pP bz) (hg : ρ 17 = .bool b) (hk : ∀ (ρ' : Nat → V),ρ' 2 = pP bx → ρ' 3 = pP bz → ρ' 24 = .bool (b && decide (x.clock = y.clock)) → XO P E none 52 rest K ρ' h Q) : XO P E none 52 (a21_2 ++ rest) K ρ h Q := by
 cases b with
 | false =>
  simp only [GR,evK,binV,intOp,strOp,shOp,unV,Nat.reduceLT,Nat.reduceEqDiff,Nat.reduceAdd,↓reduceIte,Nat.reduceLeDiff,reduceCtorEq,a21_2,hg]
  exact hk _ h2 h3 rfl
 | true =>
  simp only [GR,evK,binV,intOp,strOp,shOp,unV,Nat.reduceLT,Nat.reduceEqDiff,Nat.reduceAdd,↓reduceIte,Nat.reduceLeDiff,reduceCtorEq,a21_2,hg,h2,h3,hx,hy,View.len,View.g9]
  exact hk _ h2 h3 (by first | rfl | (simp; done) | exact congrArg V.bool (beq_dec _ _))
theorem s21_3 {P : Program} {E : Env} {K : List Fr} {Q : Po} {x y : View} {ρ : Nat → V} {h : H} {bx bz : Nat} {rest : List O} {b : Bool} (hx : cC h bx x.cells 63) (hy : cC h bz y.cells 63) (h2 : ρ 2 = pP bx) (h3 : ρ 3 = pP bz) (hg : ρ 24 = .bool b) (hk : ∀ (ρ' : Nat → V),ρ' 2 = pP bx → ρ' 3 = pP bz → ρ' 31 = .bool (b && decide (x.frontier = y.frontier)) → XO P E none 52 rest K ρ' h Q) : XO P E none 52 (a21_3 ++ rest) K ρ h Q := by
 cases b with
 | false =>
  simp only [GR,evK,binV,intOp,strOp,shOp,unV,Nat.reduceLT,Nat.reduceEqDiff,Nat.reduceAdd,↓reduceIte,Nat.reduceLeDiff,reduceCtorEq,a21_3,hg]
  exact hk _ h2 h3 rfl
 | true =>
  simp only [GR,evK,binV,intOp,strOp,shOp,unV,Nat.reduceLT,Nat.reduceEqDiff,Nat.reduceAdd,↓reduceIte,Nat.reduceLeDiff,reduceCtorEq,a21_3,hg,h2,h3,hx,hy,View.len,View.g10]
  exact hk _ h2 h3 (by first | rfl | (simp; done) | exact congrArg V.bool (beq_dec _ _))
theorem s21_4 {P : Program} {E : Env} {K : List Fr} {Q : Po} {x y : View} {ρ : Nat → V} {h : H} {bx bz : Nat} {rest : List O} {b : Bool} (hx : cC h bx x.cells 63) (hy : cC h bz y.cells 63) (h2 : ρ 2 = pP bx) (h3 : ρ 3 = pP bz) (hg : ρ 31 = .bool b) (hk : ∀ (ρ' : Nat → V),ρ' 2 = pP bx → ρ' 3 = pP bz → ρ' 38 = .bool (b && decide (x.vector = y.vector)) → XO P E none 52 rest K ρ' h Q) : XO P E none 52 (a21_4 ++ rest) K ρ h Q := by
 have hpart : ∀ z : View,List.take 8 (List.drop 11 z.cells) = z.vector.cells := fun _ => rfl
 have heq := Vec.eqv h x.vector y.vector
 cases b with
 | false =>
  simp only [GR,evK,binV,intOp,strOp,shOp,unV,Nat.reduceLT,Nat.reduceEqDiff,Nat.reduceAdd,↓reduceIte,Nat.reduceLeDiff,reduceCtorEq,a21_4,hg]
  exact hk _ h2 h3 rfl
 | true =>
  simp only [GR,evK,binV,intOp,strOp,shOp,unV,Nat.reduceLT,Nat.reduceEqDiff,Nat.reduceAdd,↓reduceIte,Nat.reduceLeDiff,reduceCtorEq,a21_4,hg,h2,h3,hx,hy,View.len,hpart,heq]
  exact hk _ h2 h3 (by first | rfl | (simp; done) | exact congrArg V.bool (beq_dec _ _))
theorem s21_5 {P : Program} {E : Env} {K : List Fr} {Q : Po} {x y : View} {ρ : Nat → V} {h : H} {bx bz : Nat} {rest : List O} {b : Bool} (hx : cC h bx x.cells 63) (hy : cC h bz y.cells 63) (h2 : ρ 2 = pP bx) (h3 : ρ 3 = pP bz) (hg : ρ 38 = .bool b) {c : Bool} (hc : Sp P E (.func 22 [] []) [x.nodes,y.nodes] h fun v h' => v = .bool c ∧ Kp h h') (hk : ∀ (ρ' : Nat → V) (h' : H),Kp h h' → ρ' 2 = pP bx → ρ' 3 = pP bz → ρ' 45 = .bool (b && c) → XO P E none 52 rest K ρ' h' Q) : XO P E none 52 (a21_5 ++ rest) K ρ h Q := by
 cases b with
 | false =>
  simp only [GR,evK,binV,intOp,strOp,shOp,unV,Nat.reduceLT,Nat.reduceEqDiff,Nat.reduceAdd,↓reduceIte,Nat.reduceLeDiff,reduceCtorEq,a21_5,hg]
  exact hk _ _ (Keeps.refl _ _) h2 h3 rfl
 | true =>
  simp only [GR,evK,binV,intOp,strOp,shOp,unV,Nat.reduceLT,Nat.reduceEqDiff,Nat.reduceAdd,↓reduceIte,Nat.reduceLeDiff,reduceCtorEq,a21_5,hg,h2,h3,hx,hy,View.len,View.g19]
  refine XC_of hc ?_
  rintro _ h' ⟨rfl,k⟩
  simp only [GR,evK,binV,intOp,strOp,shOp,unV,Nat.reduceLT,Nat.reduceEqDiff,Nat.reduceAdd,↓reduceIte,Nat.reduceLeDiff,reduceCtorEq,hg]
  exact hk _ _ k h2 h3 rfl
theorem s21_6 {P : Program} {E : Env} {K : List Fr} {Q : Po} {x y : View} {ρ : Nat → V} {h : H} {bx bz : Nat} {rest : List O} {b : Bool} (hx : cC h bx x.cells 63) (hy : cC h bz y.cells 63) (h2 : ρ 2 = pP bx) (h3 : ρ 3 = pP bz) (hg : ρ 45 = .bool b) {c : Bool} (hc : Sp P E (.func 42 [] []) [x.rows,y.rows] h fun v h' => v = .bool c ∧ Kp h h') (hk : ∀ (ρ' : Nat → V) (h' : H),Kp h h' → ρ' 2 = pP bx → ρ' 3 = pP bz → ρ' 4 = .bool (b && c) → XO P E none 52 rest K ρ' h' Q) : XO P E none 52 (a21_6 ++ rest) K ρ h Q := by
 cases b with
 | false =>
  simp only [GR,evK,binV,intOp,strOp,shOp,unV,Nat.reduceLT,Nat.reduceEqDiff,Nat.reduceAdd,↓reduceIte,Nat.reduceLeDiff,reduceCtorEq,a21_6,hg]
  exact hk _ _ (Keeps.refl _ _) h2 h3 rfl
 | true =>
  simp only [GR,evK,binV,intOp,strOp,shOp,unV,Nat.reduceLT,Nat.reduceEqDiff,Nat.reduceAdd,↓reduceIte,Nat.reduceLeDiff,reduceCtorEq,a21_6,hg,h2,h3,hx,hy,View.len,View.g20]
  refine XC_of hc ?_
  rintro _ h' ⟨rfl,k⟩
  simp only [GR,evK,binV,intOp,strOp,shOp,unV,Nat.reduceLT,Nat.reduceEqDiff,Nat.reduceAdd,↓reduceIte,Nat.reduceLeDiff,reduceCtorEq,hg]
  exact hk _ _ k h2 h3 rfl
set_option maxRecDepth 100000 in
theorem state21 (F : Fa E) {x y : View} {h : H} {es es' : List (Entry × DEnt)} {ns ns' : List (TNode × DNode)} {rs rs' : List Row} (hx : VIn h ⟨x,es,ns,rs⟩) (hy : VIn h ⟨y,es',ns',rs'⟩) :
  Sp P E (.func 21 [] []) [.agg x.cells,.agg y.cells] h fun r h' => r = .bool (decide (eqState ⟨x,es,ns,rs⟩ ⟨y,es',ns',rs'⟩)) ∧ Kp h h' := by
 have hg0 := psh_same h (.cells x.cells 63 false false none)
 have hk0 : Kp h (h.psh (.cells x.cells 63 false false none)) := Keeps.psh (Nat.le_refl _) _
 have hk1 : Kp (h.psh (.cells x.cells 63 false false none)) ((h.psh (.cells x.cells 63 false false none)).psh (.cells y.cells 63 false false none)) := Keeps.psh (Nat.le_refl _) _
 have gy := psh_same (h.psh (.cells x.cells 63 false false none)) (.cells y.cells 63 false false none)
 have gx := Kp.of hk1 hg0
 have kk := Kp.trans hk0 hk1
 refine Sp_fn F.f21 F.p21 (by simp [fn21]) ?_
 simp only [GR,evK,binV,intOp,strOp,shOp,unV,Nat.reduceLT,Nat.reduceEqDiff,Nat.reduceAdd,↓reduceIte,Nat.reduceLeDiff,reduceCtorEq,fn21,c21,r21_0,e21_all]
 generalize (h.psh (.cells x.cells 63 false false none)).psh (.cells y.cells 63 false false none) = h2 at *
 generalize (h.psh (.cells x.cells 63 false false none)).size = B at *
 refine s21_0 gx gy rfl rfl fun ρ p q r => ?_
 refine s21_1 gx gy p q r fun ρ p q r => ?_
 refine s21_2 gx gy p q r fun ρ p q r => ?_
 refine s21_3 gx gy p q r fun ρ p q r => ?_
 refine s21_4 gx gy p q r fun ρ p q r => ?_
 refine s21_5 gx gy p q r (eql22 F (hx.nodes.keep kk) (fun p hp => (hx.nds p hp).keep kk) (hy.nodes.keep kk) (fun p hp => (hy.nds p hp).keep kk) hx.nlen) fun ρ h3 k p q r => ?_
 have gx := Kp.of k gx
 have gy := Kp.of k gy
 have kk := Kp.trans kk k
 rw [← List.append_nil a21_6]
 refine s21_6 gx gy p q r (Sp.kp (eq42 F (hx.rows.keep kk) (hy.rows.keep kk) hx.rlen)) fun ρ h3 k p q r => ?_
 have gx := Kp.of k gx
 have gy := Kp.of k gy
 have kk := Kp.trans kk k
 simp only [GR,evK,binV,intOp,strOp,shOp,unV,Nat.reduceLT,Nat.reduceEqDiff,Nat.reduceAdd,↓reduceIte,Nat.reduceLeDiff,reduceCtorEq,r]
 refine ⟨?_,kk⟩
 congr 1
 rw [Bool.eq_iff_iff]
 refine Iff.trans ?_ decide_eq_true_iff.symm
 simp only [Bool.and_eq_true,decide_eq_true_eq,beq_iff_eq]
 simp only [and_assoc]
theorem _root_.Go.AM.Acc.sl {h : H} {lo ty sz : Nat} {v : V} {xs : List (List V)} (a : Acc h lo ty sz v xs) : Sl h sz v xs := by
 rcases a.shape with ⟨rfl,rfl⟩ | ⟨b,rfl,_,h3⟩
 ·exact .nil _ _ _
 ·refine .at b 0 _ _ xs _ _ _ _ _ h3 (by rw [flatten_length a.elem]; omega) fun k x hk => ?_
  have aux : ∀ (l : List (List V)) (k : Nat) (x : List V),(∀ y ∈ l,y.length = sz) → l[k]? = some x → (l.flatten.drop (k * sz)).take sz = x := by
   intro l
   induction l with
   | nil => intro k x _ hk; simp at hk
   | cons y l ih =>
    intro k x hl hk
    have hy := hl y List.mem_cons_self
    cases k with
    | zero =>
     simp only [List.getElem?_cons_zero,Option.some.injEq] at hk
     subst hk
     rw [Nat.zero_mul,List.drop_zero,List.flatten_cons,← hy,List.take_left']
     rfl
    | succ k =>
     simp only [List.getElem?_cons_succ] at hk
     have := ih k x (fun z hz => hl z (List.mem_cons_of_mem _ hz)) hk
     rw [List.flatten_cons,show (k + 1) * sz = y.length + k * sz by rw [Nat.add_mul,hy]; omega,← List.drop_drop,List.drop_left']
     ·exact this
     ·rfl
  unfold getR
  rw [Nat.zero_add]
  exact aux xs k x (fun y hy => (a.elem y hy).1) hk
theorem elems_psh {h : H} {cs : List V} {ty sz : Nat} (hl : cs.length = sz) (hp : 0 < sz) : elemsV (h.psh (.cells cs ty false false none)) sz [cs].length (.slice (some (h.size,0)) 1 1 false) = some [cs].flatten := by
 subst hl
 have h1 : ¬ 1 * cs.length = 0 := by omega
 simp only [elemsV,psh_same,getR,List.length_singleton,h1,if_false]
 rw [if_pos (by omega),Nat.one_mul,List.drop_zero,List.take_length]
 simp
theorem cell_get {cs xs : List V} {o n : Nat} (he : getR cs o n = xs) (hl : o + n ≤ cs.length) (i : Nat) (v : V) (hi : i < n) (hx : xs[i]? = some v) : cs[o + i]? = some v := by
 subst he
 unfold getR at hx
 rw [List.getElem?_take,if_pos hi,List.getElem?_drop] at hx
 exact hx
theorem VIn.one {h : H} {w : WV} (a : VIn h w) : w.x.cells.all V.one = true := by
 obtain ⟨b,c,o,e1⟩ := a.chosen.len
 obtain ⟨b',c',o',e2⟩ := a.nodes.len
 obtain ⟨b2,c2,o2,e3⟩ := a.rows.len
 simp only [View.cells,List.all_cons,List.all_nil,V.one,e1,e2,e3,Bool.and_self]
theorem VIn.nj {h : H} {w : WV} (a : VIn h w) : V.njL w.x.cells = true := by
 obtain ⟨b,c,o,e1⟩ := a.chosen.len
 obtain ⟨b',c',o',e2⟩ := a.nodes.len
 obtain ⟨b2,c2,o2,e3⟩ := a.rows.len
 simp only [View.cells,V.njL,V.nj,e1,e2,e3,Bool.and_self]
structure VsIn (h : H) (v : V) (vs : List WV) : Prop where
 sl : Sl h 21 v (vs.map fun w => w.x.cells)
 ins : ∀ w ∈ vs,VIn h w
 len : vs.length ≤ 1048576
theorem VsIn.keep {h h' : H} {v : V} {vs : List WV} (a : VsIn h v vs) (hk : Kp h h') : VsIn h' v vs := ⟨a.sl.keep hk,fun w hw => (a.ins w hw).keep hk,a.len⟩
def View.zero : View := ⟨⟨0,0⟩,false,false,false,0,0,sN,0,0,0,⟨0,0,0,0,0,0,0,0⟩,sN,sN⟩
def allSame : List WV → Bool
 | [] => true
 | f :: r => (f :: r).all fun w => decide (w.x.vector = f.x.vector)
structure MsIn (h : H) (v : V) (ms : List Int) : Prop where
 sl : Sl h 1 v (ms.map fun n => [iI n])
 len : ms.length ≤ 1048576
theorem MsIn.keep {h h' : H} {v : V} {ms : List Int} (a : MsIn h v ms) (hk : Kp h h') : MsIn h' v ms := ⟨a.sl.keep hk,a.len⟩
theorem _root_.Go.AM.Acc.one {h : H} {lo ty sz : Nat} {v : V} {xs : List (List V)} (a : Acc h lo ty sz v xs) : [v].all V.one = true := by
 rcases a.shape with ⟨_,rfl⟩ | ⟨b,rfl,_,_⟩ <;> rfl
theorem _root_.Go.AM.Acc.slice {h : H} {lo ty sz : Nat} {v : V} {xs : List (List V)} (a : Acc h lo ty sz v xs) : ∃ p n c o,v = .slice p n c o := by
 rcases a.shape with ⟨_,rfl⟩ | ⟨b,rfl,_,_⟩ <;> exact ⟨_,_,_,_,rfl⟩
theorem _root_.Go.AM.Acc.set {h : H} {lo ty sz b : Nat} {v : V} {xs : List (List V)} (a : Acc h lo ty sz v xs) (hb : b < lo) (hlt : b < h.size) (o : Obj) : Acc (h.set b o) lo ty sz v xs := by
 refine ⟨?_,a.elem⟩
 rcases a.shape with h1 | ⟨c,h1,h2,h3⟩
 ·exact .inl h1
 ·exact .inr ⟨c,h1,h2,by rw [hset_other hlt (by omega)]; exact h3⟩
theorem unlike {f a : WV} {r s : List WV} (h : a.x.vector ≠ f.x.vector) : allSame (f :: (r ++ a :: s)) = false := by
 rw [Bool.eq_false_iff]
 intro ht
 have := List.all_eq_true.1 ht a (by simp)
 exact h (by simpa using this)
end Go.AM.Sc
