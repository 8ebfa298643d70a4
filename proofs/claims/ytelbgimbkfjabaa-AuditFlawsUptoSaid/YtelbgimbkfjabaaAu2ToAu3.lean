/- My own texts, laid for this claim. -/
import Derived.Test.YtelbgimbkfjabaaTf11ToAu1
set_option linter.unusedSimpArgs false
set_option linter.unusedVariables false
namespace Go.AM.Sc
open Go.AM
variable {P : Program} {E : Env}
theorem bool_step (h : H) (a b : Bool) : eqV h .bool (.bool a) (.bool b) = some (decide (a = b)) := by
 simp only [eqV]
 congr 1
theorem beq_dec (a b : List UInt8) : (a == b) = decide (a = b) := by rw [Bool.eq_iff_iff]; simp
theorem Sp.kp {g : V} {args : List V} {h : H} {b : Bool} (s : Sp P E g args h fun r h' => r = .bool b ∧ h' = h) : Sp P E g args h fun r h' => r = .bool b ∧ Kp h h' := by
 obtain ⟨v,h',he,h1,rfl⟩ := s
 exact ⟨v,_,he,h1,Keeps.refl _ _⟩
set_option maxRecDepth 100000 in
theorem e34_all : r34_1 = a34_0 ++ (a34_1 ++ (a34_2 ++ (a34_3))) := rfl
theorem s34_0 {P : Program} {E : Env} {K : List Fr} {Q : Po} {x y : Part} {ρ : Nat → V} {h : H} {bx bz : Nat} {rest : List O} (hx : h.get bx = some (.cells x.cells 47 false false none)) (hy : h.get bz = some (.cells y.cells 47 false false none)) (h2 : ρ 2 = .ptr (some (bx,0))) (h3 : ρ 3 = .ptr (some (bz,0))) (hk : ∀ (ρ' : Nat → V),ρ' 2 = .ptr (some (bx,0)) → ρ' 3 = .ptr (some (bz,0)) → ρ' 10 = .bool (decide (x.snap = y.snap)) → XO P E none 33 rest K ρ' h Q) : XO P E none 33 (a34_0 ++ rest) K ρ h Q := by
 simp only [GR,evK,binV,intOp,strOp,shOp,unV,Nat.reduceLT,Nat.reduceEqDiff,Nat.reduceAdd,↓reduceIte,Nat.reduceLeDiff,reduceCtorEq,a34_0,h2,h3,hx,hy,Part.len,Part.g0]
 exact hk _ h2 h3 (by first | rfl | (simp; done) | exact congrArg V.bool (beq_dec _ _))
theorem s34_1 {P : Program} {E : Env} {K : List Fr} {Q : Po} {x y : Part} {ρ : Nat → V} {h : H} {bx bz : Nat} {rest : List O} {b : Bool} (hx : h.get bx = some (.cells x.cells 47 false false none)) (hy : h.get bz = some (.cells y.cells 47 false false none)) (h2 : ρ 2 = .ptr (some (bx,0))) (h3 : ρ 3 = .ptr (some (bz,0))) (hg : ρ 10 = .bool b) (hk : ∀ (ρ' : Nat → V),ρ' 2 = .ptr (some (bx,0)) → ρ' 3 = .ptr (some (bz,0)) → ρ' 17 = .bool (b && decide (x.index = y.index)) → XO P E none 33 rest K ρ' h Q) : XO P E none 33 (a34_1 ++ rest) K ρ h Q := by
 cases b with
 | false =>
  simp only [GR,evK,binV,intOp,strOp,shOp,unV,Nat.reduceLT,Nat.reduceEqDiff,Nat.reduceAdd,↓reduceIte,Nat.reduceLeDiff,reduceCtorEq,a34_1,hg]
  exact hk _ h2 h3 rfl
 | true =>
  simp only [GR,evK,binV,intOp,strOp,shOp,unV,Nat.reduceLT,Nat.reduceEqDiff,Nat.reduceAdd,↓reduceIte,Nat.reduceLeDiff,reduceCtorEq,a34_1,hg,h2,h3,hx,hy,Part.len,Part.g1]
  exact hk _ h2 h3 (by first | rfl | (simp; done) | exact congrArg V.bool (beq_dec _ _))
theorem s34_2 {P : Program} {E : Env} {K : List Fr} {Q : Po} {x y : Part} {ρ : Nat → V} {h : H} {bx bz : Nat} {rest : List O} {b : Bool} (hx : h.get bx = some (.cells x.cells 47 false false none)) (hy : h.get bz = some (.cells y.cells 47 false false none)) (h2 : ρ 2 = .ptr (some (bx,0))) (h3 : ρ 3 = .ptr (some (bz,0))) (hg : ρ 17 = .bool b) (hk : ∀ (ρ' : Nat → V),ρ' 2 = .ptr (some (bx,0)) → ρ' 3 = .ptr (some (bz,0)) → ρ' 24 = .bool (b && decide (x.many = y.many)) → XO P E none 33 rest K ρ' h Q) : XO P E none 33 (a34_2 ++ rest) K ρ h Q := by
 cases b with
 | false =>
  simp only [GR,evK,binV,intOp,strOp,shOp,unV,Nat.reduceLT,Nat.reduceEqDiff,Nat.reduceAdd,↓reduceIte,Nat.reduceLeDiff,reduceCtorEq,a34_2,hg]
  exact hk _ h2 h3 rfl
 | true =>
  simp only [GR,evK,binV,intOp,strOp,shOp,unV,Nat.reduceLT,Nat.reduceEqDiff,Nat.reduceAdd,↓reduceIte,Nat.reduceLeDiff,reduceCtorEq,a34_2,hg,h2,h3,hx,hy,Part.len,Part.g2]
  exact hk _ h2 h3 (by first | rfl | (simp; done) | exact congrArg V.bool (beq_dec _ _))
theorem s34_3 {P : Program} {E : Env} {K : List Fr} {Q : Po} {x y : Part} {ρ : Nat → V} {h : H} {bx bz : Nat} {rest : List O} {b : Bool} (hx : h.get bx = some (.cells x.cells 47 false false none)) (hy : h.get bz = some (.cells y.cells 47 false false none)) (h2 : ρ 2 = .ptr (some (bx,0))) (h3 : ρ 3 = .ptr (some (bz,0))) (hg : ρ 24 = .bool b) {c : Bool} {s s' : List UInt8} (hs : Str h x.data s) (hs' : Str h y.data s') (hcc : (s == s') = c) (hk : ∀ (ρ' : Nat → V),ρ' 2 = .ptr (some (bx,0)) → ρ' 3 = .ptr (some (bz,0)) → ρ' 4 = .bool (b && c) → XO P E none 33 rest K ρ' h Q) : XO P E none 33 (a34_3 ++ rest) K ρ h Q := by
 cases b with
 | false =>
  simp only [GR,evK,binV,intOp,strOp,shOp,unV,Nat.reduceLT,Nat.reduceEqDiff,Nat.reduceAdd,↓reduceIte,Nat.reduceLeDiff,reduceCtorEq,a34_3,hg]
  exact hk _ h2 h3 rfl
 | true =>
  subst hcc
  rcases hs with ⟨cx,ox,wx,rfl⟩ | ⟨px,nx,cx,ox,csx,wx,w1,w2⟩ <;> rcases hs' with ⟨cy,oy,wy,rfl⟩ | ⟨py,ny,cy,oy,csy,wy,z1,z2⟩
  ·simp only [GR,evK,binV,intOp,strOp,shOp,unV,Nat.reduceLT,Nat.reduceEqDiff,Nat.reduceAdd,↓reduceIte,Nat.reduceLeDiff,reduceCtorEq,a34_3,hg,h2,h3,hx,hy,Part.len,Part.g3,wx,wy,elems_none,Option.isNone_none,Option.isNone_some]
   exact hk _ h2 h3 (by first | rfl | (simp; done) | exact congrArg V.bool (beq_dec _ _))
  ·simp only [GR,evK,binV,intOp,strOp,shOp,unV,Nat.reduceLT,Nat.reduceEqDiff,Nat.reduceAdd,↓reduceIte,Nat.reduceLeDiff,reduceCtorEq,a34_3,hg,h2,h3,hx,hy,Part.len,Part.g3,z1,z2,wx,wy,elems_none,Option.isNone_none,Option.isNone_some]
   exact hk _ h2 h3 (by first | rfl | (simp; done) | exact congrArg V.bool (beq_dec _ _))
  ·simp only [GR,evK,binV,intOp,strOp,shOp,unV,Nat.reduceLT,Nat.reduceEqDiff,Nat.reduceAdd,↓reduceIte,Nat.reduceLeDiff,reduceCtorEq,a34_3,hg,h2,h3,hx,hy,Part.len,Part.g3,w1,w2,wx,wy,elems_none,Option.isNone_none,Option.isNone_some]
   exact hk _ h2 h3 (by first | rfl | (simp; done) | exact congrArg V.bool (beq_dec _ _))
  ·simp only [GR,evK,binV,intOp,strOp,shOp,unV,Nat.reduceLT,Nat.reduceEqDiff,Nat.reduceAdd,↓reduceIte,Nat.reduceLeDiff,reduceCtorEq,a34_3,hg,h2,h3,hx,hy,Part.len,Part.g3,w1,w2,z1,z2,wx,wy,elems_none,Option.isNone_none,Option.isNone_some]
   exact hk _ h2 h3 (by first | rfl | (simp; done) | exact congrArg V.bool (beq_dec _ _))
set_option maxRecDepth 100000 in
theorem part34 (F : Fa E) {x y : Part} {h : H} {s s' : List UInt8} (hs : Str h x.data s) (hs' : Str h y.data s') :
  Sp P E (.func 34 [] []) [.agg x.cells,.agg y.cells] h fun r h' => r = .bool (decide (x.snap = y.snap ∧ x.index = y.index ∧ x.many = y.many ∧ s = s')) ∧ Kp h h' := by
 have hg0 := psh_same h (.cells x.cells 47 false false none)
 have hk0 : Kp h (h.psh (.cells x.cells 47 false false none)) := Keeps.psh (Nat.le_refl _) _
 have hk1 : Kp (h.psh (.cells x.cells 47 false false none)) ((h.psh (.cells x.cells 47 false false none)).psh (.cells y.cells 47 false false none)) := Keeps.psh (Nat.le_refl _) _
 have gy := psh_same (h.psh (.cells x.cells 47 false false none)) (.cells y.cells 47 false false none)
 have gx := Kp.of hk1 hg0
 have kk := Kp.trans hk0 hk1
 refine Sp_fn F.f34 F.p34 (by simp [fn34]) ?_
 simp only [GR,evK,binV,intOp,strOp,shOp,unV,Nat.reduceLT,Nat.reduceEqDiff,Nat.reduceAdd,↓reduceIte,Nat.reduceLeDiff,reduceCtorEq,fn34,c34,r34_0,e34_all]
 generalize (h.psh (.cells x.cells 47 false false none)).psh (.cells y.cells 47 false false none) = h2 at *
 generalize (h.psh (.cells x.cells 47 false false none)).size = B at *
 refine s34_0 gx gy rfl rfl fun ρ p q r => ?_
 refine s34_1 gx gy p q r fun ρ p q r => ?_
 refine s34_2 gx gy p q r fun ρ p q r => ?_
 rw [← List.append_nil a34_3]
 refine s34_3 gx gy p q r (hs.keep kk) (hs'.keep kk) rfl fun ρ p q r => ?_
 simp only [GR,evK,binV,intOp,strOp,shOp,unV,Nat.reduceLT,Nat.reduceEqDiff,Nat.reduceAdd,↓reduceIte,Nat.reduceLeDiff,reduceCtorEq,r]
 refine ⟨?_,kk⟩
 congr 1
 rw [Bool.eq_iff_iff]
 refine Iff.trans ?_ decide_eq_true_iff.symm
 simp only [Bool.and_eq_true,decide_eq_true_eq,beq_iff_eq]
 simp only [and_assoc]
set_option maxRecDepth 100000 in
theorem e61_all : r61_1 = a61_0 ++ (a61_1 ++ (a61_2 ++ (a61_3))) := rfl
theorem s61_0 {P : Program} {E : Env} {K : List Fr} {Q : Po} {x y : Part} {ρ : Nat → V} {h : H} {bx bz : Nat} {rest : List O} (hx : h.get bx = some (.cells x.cells 47 false false none)) (hy : h.get bz = some (.cells y.cells 47 false false none)) (h2 : ρ 2 = .ptr (some (bx,0))) (h3 : ρ 3 = .ptr (some (bz,0))) (hk : ∀ (ρ' : Nat → V),ρ' 2 = .ptr (some (bx,0)) → ρ' 3 = .ptr (some (bz,0)) → ρ' 10 = .bool (decide (x.snap = y.snap)) → XO P E none 33 rest K ρ' h Q) : XO P E none 33 (a61_0 ++ rest) K ρ h Q := by
 simp only [GR,evK,binV,intOp,strOp,shOp,unV,Nat.reduceLT,Nat.reduceEqDiff,Nat.reduceAdd,↓reduceIte,Nat.reduceLeDiff,reduceCtorEq,a61_0,h2,h3,hx,hy,Part.len,Part.g0]
 exact hk _ h2 h3 (by first | rfl | (simp; done) | exact congrArg V.bool (beq_dec _ _))
theorem s61_1 {P : Program} {E : Env} {K : List Fr} {Q : Po} {x y : Part} {ρ : Nat → V} {h : H} {bx bz : Nat} {rest : List O} {b : Bool} (hx : h.get bx = some (.cells x.cells 47 false false none)) (hy : h.get bz = some (.cells y.cells 47 false false none)) (h2 : ρ 2 = .ptr (some (bx,0))) (h3 : ρ 3 = .ptr (some (bz,0))) (hg : ρ 10 = .bool b) (hk : ∀ (ρ' : Nat → V),ρ' 2 = .ptr (some (bx,0)) → ρ' 3 = .ptr (some (bz,0)) → ρ' 17 = .bool (b && decide (x.index = y.index)) → XO P E none 33 rest K ρ' h Q) : XO P E none 33 (a61_1 ++ rest) K ρ h Q := by
 cases b with
 | false =>
  simp only [GR,evK,binV,intOp,strOp,shOp,unV,Nat.reduceLT,Nat.reduceEqDiff,Nat.reduceAdd,↓reduceIte,Nat.reduceLeDiff,reduceCtorEq,a61_1,hg]
  exact hk _ h2 h3 rfl
 | true =>
  simp only [GR,evK,binV,intOp,strOp,shOp,unV,Nat.reduceLT,Nat.reduceEqDiff,Nat.reduceAdd,↓reduceIte,Nat.reduceLeDiff,reduceCtorEq,a61_1,hg,h2,h3,hx,hy,Part.len,Part.g1]
  exact hk _ h2 h3 (by first | rfl | (simp; done) | exact congrArg V.bool (beq_dec _ _))
theorem s61_2 {P : Program} {E : Env} {K : List Fr} {Q : Po} {x y : Part} {ρ : Nat → V} {h : H} {bx bz : Nat} {rest : List O} {b : Bool} (hx : h.get bx = some (.cells x.cells 47 false false none)) (hy : h.get bz = some (.cells y.cells 47 false false none)) (h2 : ρ 2 = .ptr (some (bx,0))) (h3 : ρ 3 = .ptr (some (bz,0))) (hg : ρ 17 = .bool b) (hk : ∀ (ρ' : Nat → V),ρ' 2 = .ptr (some (bx,0)) → ρ' 3 = .ptr (some (bz,0)) → ρ' 24 = .bool (b && decide (x.many = y.many)) → XO P E none 33 rest K ρ' h Q) : XO P E none 33 (a61_2 ++ rest) K ρ h Q := by
 cases b with
 | false =>
  simp only [GR,evK,binV,intOp,strOp,shOp,unV,Nat.reduceLT,Nat.reduceEqDiff,Nat.reduceAdd,↓reduceIte,Nat.reduceLeDiff,reduceCtorEq,a61_2,hg]
  exact hk _ h2 h3 rfl
 | true =>
  simp only [GR,evK,binV,intOp,strOp,shOp,unV,Nat.reduceLT,Nat.reduceEqDiff,Nat.reduceAdd,↓reduceIte,Nat.reduceLeDiff,reduceCtorEq,a61_2,hg,h2,h3,hx,hy,Part.len,Part.g2]
  exact hk _ h2 h3 (by first | rfl | (simp; done) | exact congrArg V.bool (beq_dec _ _))
theorem s61_3 {P : Program} {E : Env} {K : List Fr} {Q : Po} {x y : Part} {ρ : Nat → V} {h : H} {bx bz : Nat} {rest : List O} {b : Bool} (hx : h.get bx = some (.cells x.cells 47 false false none)) (hy : h.get bz = some (.cells y.cells 47 false false none)) (h2 : ρ 2 = .ptr (some (bx,0))) (h3 : ρ 3 = .ptr (some (bz,0))) (hg : ρ 24 = .bool b) {c : Bool} {s s' : List UInt8} (hs : Str h x.data s) (hs' : Str h y.data s') (hcc : (s == s') = c) (hk : ∀ (ρ' : Nat → V),ρ' 2 = .ptr (some (bx,0)) → ρ' 3 = .ptr (some (bz,0)) → ρ' 4 = .bool (b && c) → XO P E none 33 rest K ρ' h Q) : XO P E none 33 (a61_3 ++ rest) K ρ h Q := by
 cases b with
 | false =>
  simp only [GR,evK,binV,intOp,strOp,shOp,unV,Nat.reduceLT,Nat.reduceEqDiff,Nat.reduceAdd,↓reduceIte,Nat.reduceLeDiff,reduceCtorEq,a61_3,hg]
  exact hk _ h2 h3 rfl
 | true =>
  subst hcc
  rcases hs with ⟨cx,ox,wx,rfl⟩ | ⟨px,nx,cx,ox,csx,wx,w1,w2⟩ <;> rcases hs' with ⟨cy,oy,wy,rfl⟩ | ⟨py,ny,cy,oy,csy,wy,z1,z2⟩
  ·simp only [GR,evK,binV,intOp,strOp,shOp,unV,Nat.reduceLT,Nat.reduceEqDiff,Nat.reduceAdd,↓reduceIte,Nat.reduceLeDiff,reduceCtorEq,a61_3,hg,h2,h3,hx,hy,Part.len,Part.g3,wx,wy,elems_none,Option.isNone_none,Option.isNone_some]
   exact hk _ h2 h3 (by first | rfl | (simp; done) | exact congrArg V.bool (beq_dec _ _))
  ·simp only [GR,evK,binV,intOp,strOp,shOp,unV,Nat.reduceLT,Nat.reduceEqDiff,Nat.reduceAdd,↓reduceIte,Nat.reduceLeDiff,reduceCtorEq,a61_3,hg,h2,h3,hx,hy,Part.len,Part.g3,z1,z2,wx,wy,elems_none,Option.isNone_none,Option.isNone_some]
   exact hk _ h2 h3 (by first | rfl | (simp; done) | exact congrArg V.bool (beq_dec _ _))
  ·simp only [GR,evK,binV,intOp,strOp,shOp,unV,Nat.reduceLT,Nat.reduceEqDiff,Nat.reduceAdd,↓reduceIte,Nat.reduceLeDiff,reduceCtorEq,a61_3,hg,h2,h3,hx,hy,Part.len,Part.g3,w1,w2,wx,wy,elems_none,Option.isNone_none,Option.isNone_some]
   exact hk _ h2 h3 (by first | rfl | (simp; done) | exact congrArg V.bool (beq_dec _ _))
  ·simp only [GR,evK,binV,intOp,strOp,shOp,unV,Nat.reduceLT,Nat.reduceEqDiff,Nat.reduceAdd,↓reduceIte,Nat.reduceLeDiff,reduceCtorEq,a61_3,hg,h2,h3,hx,hy,Part.len,Part.g3,w1,w2,z1,z2,wx,wy,elems_none,Option.isNone_none,Option.isNone_some]
   exact hk _ h2 h3 (by first | rfl | (simp; done) | exact congrArg V.bool (beq_dec _ _))
set_option maxRecDepth 100000 in
theorem part61 (F : Fa E) {x y : Part} {h : H} {s s' : List UInt8} (hs : Str h x.data s) (hs' : Str h y.data s') :
  Sp P E (.func 61 [] []) [.agg x.cells,.agg y.cells] h fun r h' => r = .bool (decide (x.snap = y.snap ∧ x.index = y.index ∧ x.many = y.many ∧ s = s')) ∧ Kp h h' := by
 have hg0 := psh_same h (.cells x.cells 47 false false none)
 have hk0 : Kp h (h.psh (.cells x.cells 47 false false none)) := Keeps.psh (Nat.le_refl _) _
 have hk1 : Kp (h.psh (.cells x.cells 47 false false none)) ((h.psh (.cells x.cells 47 false false none)).psh (.cells y.cells 47 false false none)) := Keeps.psh (Nat.le_refl _) _
 have gy := psh_same (h.psh (.cells x.cells 47 false false none)) (.cells y.cells 47 false false none)
 have gx := Kp.of hk1 hg0
 have kk := Kp.trans hk0 hk1
 refine Sp_fn F.f61 F.p61 (by simp [fn61]) ?_
 simp only [GR,evK,binV,intOp,strOp,shOp,unV,Nat.reduceLT,Nat.reduceEqDiff,Nat.reduceAdd,↓reduceIte,Nat.reduceLeDiff,reduceCtorEq,fn61,c61,r61_0,e61_all]
 generalize (h.psh (.cells x.cells 47 false false none)).psh (.cells y.cells 47 false false none) = h2 at *
 generalize (h.psh (.cells x.cells 47 false false none)).size = B at *
 refine s61_0 gx gy rfl rfl fun ρ p q r => ?_
 refine s61_1 gx gy p q r fun ρ p q r => ?_
 refine s61_2 gx gy p q r fun ρ p q r => ?_
 rw [← List.append_nil a61_3]
 refine s61_3 gx gy p q r (hs.keep kk) (hs'.keep kk) rfl fun ρ p q r => ?_
 simp only [GR,evK,binV,intOp,strOp,shOp,unV,Nat.reduceLT,Nat.reduceEqDiff,Nat.reduceAdd,↓reduceIte,Nat.reduceLeDiff,reduceCtorEq,r]
 refine ⟨?_,kk⟩
 congr 1
 rw [Bool.eq_iff_iff]
 refine Iff.trans ?_ decide_eq_true_iff.symm
 simp only [Bool.and_eq_true,decide_eq_true_eq,beq_iff_eq]
 simp only [and_assoc]
theorem dent_iff {x y : Entry} {d d' : DEnt} (hx : flatOf x = d.flat) (hy : flatOf y = d'.flat) : d = d' ↔ flatOf x = flatOf y ∧ d.ops = d'.ops ∧ d.data = d'.data := by
 cases d; cases d'
 simp only at hx hy
 subst hx hy
 simp only [DEnt.mk.injEq]
set_option maxRecDepth 100000 in
theorem e11_all : r11_1 = a11_0 ++ (a11_1 ++ (a11_2 ++ (a11_3 ++ (a11_4 ++ (a11_5 ++ (a11_6 ++ (a11_7 ++ (a11_8 ++ (a11_9 ++ (a11_10 ++ (a11_11 ++ (a11_12 ++ (a11_13 ++ (a11_14)))))))))))))) := rfl
theorem s11_0 {P : Program} {E : Env} {K : List Fr} {Q : Po} {x y : Entry} {ρ : Nat → V} {h : H} {bx bz : Nat} {rest : List O} (hx : h.get bx = some (.cells x.cells 49 false false none)) (hy : h.get bz = some (.cells y.cells 49 false false none)) (h2 : ρ 2 = .ptr (some (bx,0))) (h3 : ρ 3 = .ptr (some (bz,0))) (hk : ∀ (ρ' : Nat → V),ρ' 2 = .ptr (some (bx,0)) → ρ' 3 = .ptr (some (bz,0)) → ρ' 10 = .bool (decide (x.kind = y.kind)) → XO P E none 108 rest K ρ' h Q) : XO P E none 108 (a11_0 ++ rest) K ρ h Q := by
 simp only [GR,evK,binV,intOp,strOp,shOp,unV,Nat.reduceLT,Nat.reduceEqDiff,Nat.reduceAdd,↓reduceIte,Nat.reduceLeDiff,reduceCtorEq,a11_0,h2,h3,hx,hy,Entry.len,Entry.g0]
 exact hk _ h2 h3 (by first | rfl | (simp; done) | exact congrArg V.bool (beq_dec _ _))
theorem s11_1 {P : Program} {E : Env} {K : List Fr} {Q : Po} {x y : Entry} {ρ : Nat → V} {h : H} {bx bz : Nat} {rest : List O} {b : Bool} (hx : h.get bx = some (.cells x.cells 49 false false none)) (hy : h.get bz = some (.cells y.cells 49 false false none)) (h2 : ρ 2 = .ptr (some (bx,0))) (h3 : ρ 3 = .ptr (some (bz,0))) (hg : ρ 10 = .bool b) (hk : ∀ (ρ' : Nat → V),ρ' 2 = .ptr (some (bx,0)) → ρ' 3 = .ptr (some (bz,0)) → ρ' 17 = .bool (b && decide (x.session = y.session)) → XO P E none 108 rest K ρ' h Q) : XO P E none 108 (a11_1 ++ rest) K ρ h Q := by
 cases b with
 | false =>
  simp only [GR,evK,binV,intOp,strOp,shOp,unV,Nat.reduceLT,Nat.reduceEqDiff,Nat.reduceAdd,↓reduceIte,Nat.reduceLeDiff,reduceCtorEq,a11_1,hg]
  exact hk _ h2 h3 rfl
 | true =>
  simp only [GR,evK,binV,intOp,strOp,shOp,unV,Nat.reduceLT,Nat.reduceEqDiff,Nat.reduceAdd,↓reduceIte,Nat.reduceLeDiff,reduceCtorEq,a11_1,hg,h2,h3,hx,hy,Entry.len,Entry.g1]
  exact hk _ h2 h3 (by first | rfl | (simp; done) | exact congrArg V.bool (beq_dec _ _))
theorem s11_2 {P : Program} {E : Env} {K : List Fr} {Q : Po} {x y : Entry} {ρ : Nat → V} {h : H} {bx bz : Nat} {rest : List O} {b : Bool} (hx : h.get bx = some (.cells x.cells 49 false false none)) (hy : h.get bz = some (.cells y.cells 49 false false none)) (h2 : ρ 2 = .ptr (some (bx,0))) (h3 : ρ 3 = .ptr (some (bz,0))) (hg : ρ 17 = .bool b) (hk : ∀ (ρ' : Nat → V),ρ' 2 = .ptr (some (bx,0)) → ρ' 3 = .ptr (some (bz,0)) → ρ' 24 = .bool (b && decide (x.request = y.request)) → XO P E none 108 rest K ρ' h Q) : XO P E none 108 (a11_2 ++ rest) K ρ h Q := by
 cases b with
 | false =>
  simp only [GR,evK,binV,intOp,strOp,shOp,unV,Nat.reduceLT,Nat.reduceEqDiff,Nat.reduceAdd,↓reduceIte,Nat.reduceLeDiff,reduceCtorEq,a11_2,hg]
  exact hk _ h2 h3 rfl
 | true =>
  simp only [GR,evK,binV,intOp,strOp,shOp,unV,Nat.reduceLT,Nat.reduceEqDiff,Nat.reduceAdd,↓reduceIte,Nat.reduceLeDiff,reduceCtorEq,a11_2,hg,h2,h3,hx,hy,Entry.len,Entry.g2]
  exact hk _ h2 h3 (by first | rfl | (simp; done) | exact congrArg V.bool (beq_dec _ _))
theorem s11_3 {P : Program} {E : Env} {K : List Fr} {Q : Po} {x y : Entry} {ρ : Nat → V} {h : H} {bx bz : Nat} {rest : List O} {b : Bool} (hx : h.get bx = some (.cells x.cells 49 false false none)) (hy : h.get bz = some (.cells y.cells 49 false false none)) (h2 : ρ 2 = .ptr (some (bx,0))) (h3 : ρ 3 = .ptr (some (bz,0))) (hg : ρ 24 = .bool b) (hk : ∀ (ρ' : Nat → V),ρ' 2 = .ptr (some (bx,0)) → ρ' 3 = .ptr (some (bz,0)) → ρ' 31 = .bool (b && decide (x.op = y.op)) → XO P E none 108 rest K ρ' h Q) : XO P E none 108 (a11_3 ++ rest) K ρ h Q := by
 have hpart : ∀ z : Entry,List.take 8 (List.drop 3 z.cells) = z.op.cells := fun _ => rfl
 have heq := Opr.eqv h x.op y.op
 cases b with
 | false =>
  simp only [GR,evK,binV,intOp,strOp,shOp,unV,Nat.reduceLT,Nat.reduceEqDiff,Nat.reduceAdd,↓reduceIte,Nat.reduceLeDiff,reduceCtorEq,a11_3,hg]
  exact hk _ h2 h3 rfl
 | true =>
  simp only [GR,evK,binV,intOp,strOp,shOp,unV,Nat.reduceLT,Nat.reduceEqDiff,Nat.reduceAdd,↓reduceIte,Nat.reduceLeDiff,reduceCtorEq,a11_3,hg,h2,h3,hx,hy,Entry.len,hpart,heq]
  exact hk _ h2 h3 (by first | rfl | (simp; done) | exact congrArg V.bool (beq_dec _ _))
theorem s11_4 {P : Program} {E : Env} {K : List Fr} {Q : Po} {x y : Entry} {ρ : Nat → V} {h : H} {bx bz : Nat} {rest : List O} {b : Bool} (hx : h.get bx = some (.cells x.cells 49 false false none)) (hy : h.get bz = some (.cells y.cells 49 false false none)) (h2 : ρ 2 = .ptr (some (bx,0))) (h3 : ρ 3 = .ptr (some (bz,0))) (hg : ρ 31 = .bool b) (hk : ∀ (ρ' : Nat → V),ρ' 2 = .ptr (some (bx,0)) → ρ' 3 = .ptr (some (bz,0)) → ρ' 38 = .bool (b && decide (x.origin = y.origin)) → XO P E none 108 rest K ρ' h Q) : XO P E none 108 (a11_4 ++ rest) K ρ h Q := by
 cases b with
 | false =>
  simp only [GR,evK,binV,intOp,strOp,shOp,unV,Nat.reduceLT,Nat.reduceEqDiff,Nat.reduceAdd,↓reduceIte,Nat.reduceLeDiff,reduceCtorEq,a11_4,hg]
  exact hk _ h2 h3 rfl
 | true =>
  simp only [GR,evK,binV,intOp,strOp,shOp,unV,Nat.reduceLT,Nat.reduceEqDiff,Nat.reduceAdd,↓reduceIte,Nat.reduceLeDiff,reduceCtorEq,a11_4,hg,h2,h3,hx,hy,Entry.len,Entry.g11]
  exact hk _ h2 h3 (by first | rfl | (simp; done) | exact congrArg V.bool (beq_dec _ _))
theorem s11_5 {P : Program} {E : Env} {K : List Fr} {Q : Po} {x y : Entry} {ρ : Nat → V} {h : H} {bx bz : Nat} {rest : List O} {b : Bool} (hx : h.get bx = some (.cells x.cells 49 false false none)) (hy : h.get bz = some (.cells y.cells 49 false false none)) (h2 : ρ 2 = .ptr (some (bx,0))) (h3 : ρ 3 = .ptr (some (bz,0))) (hg : ρ 38 = .bool b) (hk : ∀ (ρ' : Nat → V),ρ' 2 = .ptr (some (bx,0)) → ρ' 3 = .ptr (some (bz,0)) → ρ' 45 = .bool (b && decide (x.seq = y.seq)) → XO P E none 108 rest K ρ' h Q) : XO P E none 108 (a11_5 ++ rest) K ρ h Q := by
 cases b with
 | false =>
  simp only [GR,evK,binV,intOp,strOp,shOp,unV,Nat.reduceLT,Nat.reduceEqDiff,Nat.reduceAdd,↓reduceIte,Nat.reduceLeDiff,reduceCtorEq,a11_5,hg]
  exact hk _ h2 h3 rfl
 | true =>
  simp only [GR,evK,binV,intOp,strOp,shOp,unV,Nat.reduceLT,Nat.reduceEqDiff,Nat.reduceAdd,↓reduceIte,Nat.reduceLeDiff,reduceCtorEq,a11_5,hg,h2,h3,hx,hy,Entry.len,Entry.g12]
  exact hk _ h2 h3 (by first | rfl | (simp; done) | exact congrArg V.bool (beq_dec _ _))
theorem s11_6 {P : Program} {E : Env} {K : List Fr} {Q : Po} {x y : Entry} {ρ : Nat → V} {h : H} {bx bz : Nat} {rest : List O} {b : Bool} (hx : h.get bx = some (.cells x.cells 49 false false none)) (hy : h.get bz = some (.cells y.cells 49 false false none)) (h2 : ρ 2 = .ptr (some (bx,0))) (h3 : ρ 3 = .ptr (some (bz,0))) (hg : ρ 45 = .bool b) {c : Bool} (hc : Sp P E (.func 33 [] []) [x.ops,y.ops] h fun v h' => v = .bool c ∧ Kp h h') (hk : ∀ (ρ' : Nat → V) (h' : H),Kp h h' → ρ' 2 = .ptr (some (bx,0)) → ρ' 3 = .ptr (some (bz,0)) → ρ' 52 = .bool (b && c) → XO P E none 108 rest K ρ' h' Q) : XO P E none 108 (a11_6 ++ rest) K ρ h Q := by
 cases b with
 | false =>
  simp only [GR,evK,binV,intOp,strOp,shOp,unV,Nat.reduceLT,Nat.reduceEqDiff,Nat.reduceAdd,↓reduceIte,Nat.reduceLeDiff,reduceCtorEq,a11_6,hg]
  exact hk _ _ (Keeps.refl _ _) h2 h3 rfl
 | true =>
  simp only [GR,evK,binV,intOp,strOp,shOp,unV,Nat.reduceLT,Nat.reduceEqDiff,Nat.reduceAdd,↓reduceIte,Nat.reduceLeDiff,reduceCtorEq,a11_6,hg,h2,h3,hx,hy,Entry.len,Entry.g13]
  refine XC_of hc ?_
  rintro _ h' ⟨rfl,k⟩
  simp only [GR,evK,binV,intOp,strOp,shOp,unV,Nat.reduceLT,Nat.reduceEqDiff,Nat.reduceAdd,↓reduceIte,Nat.reduceLeDiff,reduceCtorEq,hg]
  exact hk _ _ k h2 h3 rfl
theorem s11_7 {P : Program} {E : Env} {K : List Fr} {Q : Po} {x y : Entry} {ρ : Nat → V} {h : H} {bx bz : Nat} {rest : List O} {b : Bool} (hx : h.get bx = some (.cells x.cells 49 false false none)) (hy : h.get bz = some (.cells y.cells 49 false false none)) (h2 : ρ 2 = .ptr (some (bx,0))) (h3 : ρ 3 = .ptr (some (bz,0))) (hg : ρ 52 = .bool b) (hk : ∀ (ρ' : Nat → V),ρ' 2 = .ptr (some (bx,0)) → ρ' 3 = .ptr (some (bz,0)) → ρ' 59 = .bool (b && decide (x.epoch = y.epoch)) → XO P E none 108 rest K ρ' h Q) : XO P E none 108 (a11_7 ++ rest) K ρ h Q := by
 have hpart : ∀ z : Entry,List.take 25 (List.drop 14 z.cells) = z.epoch.cells := fun _ => rfl
 have heq := Epoch.eqv h x.epoch y.epoch
 cases b with
 | false =>
  simp only [GR,evK,binV,intOp,strOp,shOp,unV,Nat.reduceLT,Nat.reduceEqDiff,Nat.reduceAdd,↓reduceIte,Nat.reduceLeDiff,reduceCtorEq,a11_7,hg]
  exact hk _ h2 h3 rfl
 | true =>
  simp only [GR,evK,binV,intOp,strOp,shOp,unV,Nat.reduceLT,Nat.reduceEqDiff,Nat.reduceAdd,↓reduceIte,Nat.reduceLeDiff,reduceCtorEq,a11_7,hg,h2,h3,hx,hy,Entry.len,hpart,heq]
  exact hk _ h2 h3 (by first | rfl | (simp; done) | exact congrArg V.bool (beq_dec _ _))
theorem s11_8 {P : Program} {E : Env} {K : List Fr} {Q : Po} {x y : Entry} {ρ : Nat → V} {h : H} {bx bz : Nat} {rest : List O} {b : Bool} (hx : h.get bx = some (.cells x.cells 49 false false none)) (hy : h.get bz = some (.cells y.cells 49 false false none)) (h2 : ρ 2 = .ptr (some (bx,0))) (h3 : ρ 3 = .ptr (some (bz,0))) (hg : ρ 59 = .bool b) (hk : ∀ (ρ' : Nat → V),ρ' 2 = .ptr (some (bx,0)) → ρ' 3 = .ptr (some (bz,0)) → ρ' 66 = .bool (b && decide (x.frm = y.frm)) → XO P E none 108 rest K ρ' h Q) : XO P E none 108 (a11_8 ++ rest) K ρ h Q := by
 cases b with
 | false =>
  simp only [GR,evK,binV,intOp,strOp,shOp,unV,Nat.reduceLT,Nat.reduceEqDiff,Nat.reduceAdd,↓reduceIte,Nat.reduceLeDiff,reduceCtorEq,a11_8,hg]
  exact hk _ h2 h3 rfl
 | true =>
  simp only [GR,evK,binV,intOp,strOp,shOp,unV,Nat.reduceLT,Nat.reduceEqDiff,Nat.reduceAdd,↓reduceIte,Nat.reduceLeDiff,reduceCtorEq,a11_8,hg,h2,h3,hx,hy,Entry.len,Entry.g39]
  exact hk _ h2 h3 (by first | rfl | (simp; done) | exact congrArg V.bool (beq_dec _ _))
theorem s11_9 {P : Program} {E : Env} {K : List Fr} {Q : Po} {x y : Entry} {ρ : Nat → V} {h : H} {bx bz : Nat} {rest : List O} {b : Bool} (hx : h.get bx = some (.cells x.cells 49 false false none)) (hy : h.get bz = some (.cells y.cells 49 false false none)) (h2 : ρ 2 = .ptr (some (bx,0))) (h3 : ρ 3 = .ptr (some (bz,0))) (hg : ρ 66 = .bool b) (hk : ∀ (ρ' : Nat → V),ρ' 2 = .ptr (some (bx,0)) → ρ' 3 = .ptr (some (bz,0)) → ρ' 73 = .bool (b && decide (x.vector = y.vector)) → XO P E none 108 rest K ρ' h Q) : XO P E none 108 (a11_9 ++ rest) K ρ h Q := by
 have hpart : ∀ z : Entry,List.take 8 (List.drop 40 z.cells) = z.vector.cells := fun _ => rfl
 have heq := Vec.eqv h x.vector y.vector
 cases b with
 | false =>
  simp only [GR,evK,binV,intOp,strOp,shOp,unV,Nat.reduceLT,Nat.reduceEqDiff,Nat.reduceAdd,↓reduceIte,Nat.reduceLeDiff,reduceCtorEq,a11_9,hg]
  exact hk _ h2 h3 rfl
 | true =>
  simp only [GR,evK,binV,intOp,strOp,shOp,unV,Nat.reduceLT,Nat.reduceEqDiff,Nat.reduceAdd,↓reduceIte,Nat.reduceLeDiff,reduceCtorEq,a11_9,hg,h2,h3,hx,hy,Entry.len,hpart,heq]
  exact hk _ h2 h3 (by first | rfl | (simp; done) | exact congrArg V.bool (beq_dec _ _))
theorem s11_10 {P : Program} {E : Env} {K : List Fr} {Q : Po} {x y : Entry} {ρ : Nat → V} {h : H} {bx bz : Nat} {rest : List O} {b : Bool} (hx : h.get bx = some (.cells x.cells 49 false false none)) (hy : h.get bz = some (.cells y.cells 49 false false none)) (h2 : ρ 2 = .ptr (some (bx,0))) (h3 : ρ 3 = .ptr (some (bz,0))) (hg : ρ 73 = .bool b) (hk : ∀ (ρ' : Nat → V),ρ' 2 = .ptr (some (bx,0)) → ρ' 3 = .ptr (some (bz,0)) → ρ' 80 = .bool (b && decide (x.clock = y.clock)) → XO P E none 108 rest K ρ' h Q) : XO P E none 108 (a11_10 ++ rest) K ρ h Q := by
 cases b with
 | false =>
  simp only [GR,evK,binV,intOp,strOp,shOp,unV,Nat.reduceLT,Nat.reduceEqDiff,Nat.reduceAdd,↓reduceIte,Nat.reduceLeDiff,reduceCtorEq,a11_10,hg]
  exact hk _ h2 h3 rfl
 | true =>
  simp only [GR,evK,binV,intOp,strOp,shOp,unV,Nat.reduceLT,Nat.reduceEqDiff,Nat.reduceAdd,↓reduceIte,Nat.reduceLeDiff,reduceCtorEq,a11_10,hg,h2,h3,hx,hy,Entry.len,Entry.g48]
  exact hk _ h2 h3 (by first | rfl | (simp; done) | exact congrArg V.bool (beq_dec _ _))
theorem s11_11 {P : Program} {E : Env} {K : List Fr} {Q : Po} {x y : Entry} {ρ : Nat → V} {h : H} {bx bz : Nat} {rest : List O} {b : Bool} (hx : h.get bx = some (.cells x.cells 49 false false none)) (hy : h.get bz = some (.cells y.cells 49 false false none)) (h2 : ρ 2 = .ptr (some (bx,0))) (h3 : ρ 3 = .ptr (some (bz,0))) (hg : ρ 80 = .bool b) {c : Bool} (hc : Sp P E (.func 34 [] []) [.agg x.part.cells,.agg y.part.cells] h fun v h' => v = .bool c ∧ Kp h h') (hk : ∀ (ρ' : Nat → V) (h' : H),Kp h h' → ρ' 2 = .ptr (some (bx,0)) → ρ' 3 = .ptr (some (bz,0)) → ρ' 87 = .bool (b && c) → XO P E none 108 rest K ρ' h' Q) : XO P E none 108 (a11_11 ++ rest) K ρ h Q := by
 have hpart : ∀ z : Entry,List.take 4 (List.drop 49 z.cells) = z.part.cells := fun _ => rfl
 cases b with
 | false =>
  simp only [GR,evK,binV,intOp,strOp,shOp,unV,Nat.reduceLT,Nat.reduceEqDiff,Nat.reduceAdd,↓reduceIte,Nat.reduceLeDiff,reduceCtorEq,a11_11,hg]
  exact hk _ _ (Keeps.refl _ _) h2 h3 rfl
 | true =>
  simp only [GR,evK,binV,intOp,strOp,shOp,unV,Nat.reduceLT,Nat.reduceEqDiff,Nat.reduceAdd,↓reduceIte,Nat.reduceLeDiff,reduceCtorEq,a11_11,hg,h2,h3,hx,hy,Entry.len,hpart]
  refine XC_of hc ?_
  rintro _ h' ⟨rfl,k⟩
  simp only [GR,evK,binV,intOp,strOp,shOp,unV,Nat.reduceLT,Nat.reduceEqDiff,Nat.reduceAdd,↓reduceIte,Nat.reduceLeDiff,reduceCtorEq,hg]
  exact hk _ _ k h2 h3 rfl
theorem s11_12 {P : Program} {E : Env} {K : List Fr} {Q : Po} {x y : Entry} {ρ : Nat → V} {h : H} {bx bz : Nat} {rest : List O} {b : Bool} (hx : h.get bx = some (.cells x.cells 49 false false none)) (hy : h.get bz = some (.cells y.cells 49 false false none)) (h2 : ρ 2 = .ptr (some (bx,0))) (h3 : ρ 3 = .ptr (some (bz,0))) (hg : ρ 87 = .bool b) (hk : ∀ (ρ' : Nat → V),ρ' 2 = .ptr (some (bx,0)) → ρ' 3 = .ptr (some (bz,0)) → ρ' 94 = .bool (b && decide (x.site = y.site)) → XO P E none 108 rest K ρ' h Q) : XO P E none 108 (a11_12 ++ rest) K ρ h Q := by
 cases b with
 | false =>
  simp only [GR,evK,binV,intOp,strOp,shOp,unV,Nat.reduceLT,Nat.reduceEqDiff,Nat.reduceAdd,↓reduceIte,Nat.reduceLeDiff,reduceCtorEq,a11_12,hg]
  exact hk _ h2 h3 rfl
 | true =>
  simp only [GR,evK,binV,intOp,strOp,shOp,unV,Nat.reduceLT,Nat.reduceEqDiff,Nat.reduceAdd,↓reduceIte,Nat.reduceLeDiff,reduceCtorEq,a11_12,hg,h2,h3,hx,hy,Entry.len,Entry.g53]
  exact hk _ h2 h3 (by first | rfl | (simp; done) | exact congrArg V.bool (beq_dec _ _))
theorem s11_13 {P : Program} {E : Env} {K : List Fr} {Q : Po} {x y : Entry} {ρ : Nat → V} {h : H} {bx bz : Nat} {rest : List O} {b : Bool} (hx : h.get bx = some (.cells x.cells 49 false false none)) (hy : h.get bz = some (.cells y.cells 49 false false none)) (h2 : ρ 2 = .ptr (some (bx,0))) (h3 : ρ 3 = .ptr (some (bz,0))) (hg : ρ 94 = .bool b) (hk : ∀ (ρ' : Nat → V),ρ' 2 = .ptr (some (bx,0)) → ρ' 3 = .ptr (some (bz,0)) → ρ' 101 = .bool (b && decide (x.sponsor = y.sponsor)) → XO P E none 108 rest K ρ' h Q) : XO P E none 108 (a11_13 ++ rest) K ρ h Q := by
 cases b with
 | false =>
  simp only [GR,evK,binV,intOp,strOp,shOp,unV,Nat.reduceLT,Nat.reduceEqDiff,Nat.reduceAdd,↓reduceIte,Nat.reduceLeDiff,reduceCtorEq,a11_13,hg]
  exact hk _ h2 h3 rfl
 | true =>
  simp only [GR,evK,binV,intOp,strOp,shOp,unV,Nat.reduceLT,Nat.reduceEqDiff,Nat.reduceAdd,↓reduceIte,Nat.reduceLeDiff,reduceCtorEq,a11_13,hg,h2,h3,hx,hy,Entry.len,Entry.g54]
  exact hk _ h2 h3 (by first | rfl | (simp; done) | exact congrArg V.bool (beq_dec _ _))
theorem s11_14 {P : Program} {E : Env} {K : List Fr} {Q : Po} {x y : Entry} {ρ : Nat → V} {h : H} {bx bz : Nat} {rest : List O} {b : Bool} (hx : h.get bx = some (.cells x.cells 49 false false none)) (hy : h.get bz = some (.cells y.cells 49 false false none)) (h2 : ρ 2 = .ptr (some (bx,0))) (h3 : ρ 3 = .ptr (some (bz,0))) (hg : ρ 101 = .bool b) (hk : ∀ (ρ' : Nat → V),ρ' 2 = .ptr (some (bx,0)) → ρ' 3 = .ptr (some (bz,0)) → ρ' 4 = .bool (b && decide (x.length = y.length)) → XO P E none 108 rest K ρ' h Q) : XO P E none 108 (a11_14 ++ rest) K ρ h Q := by
 cases b with
 | false =>
  simp only [GR,evK,binV,intOp,strOp,shOp,unV,Nat.reduceLT,Nat.reduceEqDiff,Nat.reduceAdd,↓reduceIte,Nat.reduceLeDiff,reduceCtorEq,a11_14,hg]
  exact hk _ h2 h3 rfl
 | true =>
  simp only [GR,evK,binV,intOp,strOp,shOp,unV,Nat.reduceLT,Nat.reduceEqDiff,Nat.reduceAdd,↓reduceIte,Nat.reduceLeDiff,reduceCtorEq,a11_14,hg,h2,h3,hx,hy,Entry.len,Entry.g55]
  exact hk _ h2 h3 (by first | rfl | (simp; done) | exact congrArg V.bool (beq_dec _ _))
set_option maxRecDepth 100000 in
theorem ent11 (F : Fa E) {x y : Entry} {h : H} {d d' : DEnt} (hx : EIn h x d) (hy : EIn h y d') :
  Sp P E (.func 11 [] []) [.agg x.cells,.agg y.cells] h fun r h' => r = .bool (decide (d = d')) ∧ Kp h h' := by
 have hg0 := psh_same h (.cells x.cells 49 false false none)
 have hk0 : Kp h (h.psh (.cells x.cells 49 false false none)) := Keeps.psh (Nat.le_refl _) _
 have hk1 : Kp (h.psh (.cells x.cells 49 false false none)) ((h.psh (.cells x.cells 49 false false none)).psh (.cells y.cells 49 false false none)) := Keeps.psh (Nat.le_refl _) _
 have gy := psh_same (h.psh (.cells x.cells 49 false false none)) (.cells y.cells 49 false false none)
 have gx := Kp.of hk1 hg0
 have kk := Kp.trans hk0 hk1
 refine Sp_fn F.f11 F.p11 (by simp [fn11]) ?_
 simp only [GR,evK,binV,intOp,strOp,shOp,unV,Nat.reduceLT,Nat.reduceEqDiff,Nat.reduceAdd,↓reduceIte,Nat.reduceLeDiff,reduceCtorEq,fn11,c11,r11_0,e11_all]
 generalize (h.psh (.cells x.cells 49 false false none)).psh (.cells y.cells 49 false false none) = h2 at *
 generalize (h.psh (.cells x.cells 49 false false none)).size = B at *
 refine s11_0 gx gy rfl rfl fun ρ p q r => ?_
 refine s11_1 gx gy p q r fun ρ p q r => ?_
 refine s11_2 gx gy p q r fun ρ p q r => ?_
 refine s11_3 gx gy p q r fun ρ p q r => ?_
 refine s11_4 gx gy p q r fun ρ p q r => ?_
 refine s11_5 gx gy p q r fun ρ p q r => ?_
 refine s11_6 gx gy p q r (Sp.kp (eq33 F (hx.ops.keep kk) (hy.ops.keep kk) hx.len)) fun ρ h3 k p q r => ?_
 have gx := Kp.of k gx
 have gy := Kp.of k gy
 have kk := Kp.trans kk k
 refine s11_7 gx gy p q r fun ρ p q r => ?_
 refine s11_8 gx gy p q r fun ρ p q r => ?_
 refine s11_9 gx gy p q r fun ρ p q r => ?_
 refine s11_10 gx gy p q r fun ρ p q r => ?_
 refine s11_11 gx gy p q r (part34 F (hx.dat.keep kk) (hy.dat.keep kk)) fun ρ h3 k p q r => ?_
 have gx := Kp.of k gx
 have gy := Kp.of k gy
 have kk := Kp.trans kk k
 refine s11_12 gx gy p q r fun ρ p q r => ?_
 refine s11_13 gx gy p q r fun ρ p q r => ?_
 rw [← List.append_nil a11_14]
 refine s11_14 gx gy p q r fun ρ p q r => ?_
 simp only [GR,evK,binV,intOp,strOp,shOp,unV,Nat.reduceLT,Nat.reduceEqDiff,Nat.reduceAdd,↓reduceIte,Nat.reduceLeDiff,reduceCtorEq,r]
 refine ⟨?_,kk⟩
 congr 1
 rw [Bool.eq_iff_iff]
 refine Iff.trans ?_ decide_eq_true_iff.symm
 simp only [Bool.and_eq_true,decide_eq_true_eq,beq_iff_eq]
 rw [dent_iff hx.flat hy.flat]
 simp only [flatOf,Flat.mk.injEq,and_assoc,and_comm,and_left_comm]
set_option maxRecDepth 100000 in
theorem e39_all : r39_1 = a39_0 ++ (a39_1 ++ (a39_2 ++ (a39_3 ++ (a39_4 ++ (a39_5 ++ (a39_6 ++ (a39_7 ++ (a39_8 ++ (a39_9 ++ (a39_10 ++ (a39_11 ++ (a39_12 ++ (a39_13 ++ (a39_14)))))))))))))) := rfl
theorem s39_0 {P : Program} {E : Env} {K : List Fr} {Q : Po} {x y : Entry} {ρ : Nat → V} {h : H} {bx bz : Nat} {rest : List O} (hx : h.get bx = some (.cells x.cells 49 false false none)) (hy : h.get bz = some (.cells y.cells 49 false false none)) (h2 : ρ 2 = .ptr (some (bx,0))) (h3 : ρ 3 = .ptr (some (bz,0))) (hk : ∀ (ρ' : Nat → V),ρ' 2 = .ptr (some (bx,0)) → ρ' 3 = .ptr (some (bz,0)) → ρ' 10 = .bool (decide (x.kind = y.kind)) → XO P E none 108 rest K ρ' h Q) : XO P E none 108 (a39_0 ++ rest) K ρ h Q := by
 simp only [GR,evK,binV,intOp,strOp,shOp,unV,Nat.reduceLT,Nat.reduceEqDiff,Nat.reduceAdd,↓reduceIte,Nat.reduceLeDiff,reduceCtorEq,a39_0,h2,h3,hx,hy,Entry.len,Entry.g0]
 exact hk _ h2 h3 (by first | rfl | (simp; done) | exact congrArg V.bool (beq_dec _ _))
theorem s39_1 {P : Program} {E : Env} {K : List Fr} {Q : Po} {x y : Entry} {ρ : Nat → V} {h : H} {bx bz : Nat} {rest : List O} {b : Bool} (hx : h.get bx = some (.cells x.cells 49 false false none)) (hy : h.get bz = some (.cells y.cells 49 false false none)) (h2 : ρ 2 = .ptr (some (bx,0))) (h3 : ρ 3 = .ptr (some (bz,0))) (hg : ρ 10 = .bool b) (hk : ∀ (ρ' : Nat → V),ρ' 2 = .ptr (some (bx,0)) → ρ' 3 = .ptr (some (bz,0)) → ρ' 17 = .bool (b && decide (x.session = y.session)) → XO P E none 108 rest K ρ' h Q) : XO P E none 108 (a39_1 ++ rest) K ρ h Q := by
 cases b with
 | false =>
  simp only [GR,evK,binV,intOp,strOp,shOp,unV,Nat.reduceLT,Nat.reduceEqDiff,Nat.reduceAdd,↓reduceIte,Nat.reduceLeDiff,reduceCtorEq,a39_1,hg]
  exact hk _ h2 h3 rfl
 | true =>
  simp only [GR,evK,binV,intOp,strOp,shOp,unV,Nat.reduceLT,Nat.reduceEqDiff,Nat.reduceAdd,↓reduceIte,Nat.reduceLeDiff,reduceCtorEq,a39_1,hg,h2,h3,hx,hy,Entry.len,Entry.g1]
  exact hk _ h2 h3 (by first | rfl | (simp; done) | exact congrArg V.bool (beq_dec _ _))
theorem s39_2 {P : Program} {E : Env} {K : List Fr} {Q : Po} {x y : Entry} {ρ : Nat → V} {h : H} {bx bz : Nat} {rest : List O} {b : Bool} (hx : h.get bx = some (.cells x.cells 49 false false none)) (hy : h.get bz = some (.cells y.cells 49 false false none)) (h2 : ρ 2 = .ptr (some (bx,0))) (h3 : ρ 3 = .ptr (some (bz,0))) (hg : ρ 17 = .bool b) (hk : ∀ (ρ' : Nat → V),ρ' 2 = .ptr (some (bx,0)) → ρ' 3 = .ptr (some (bz,0)) → ρ' 24 = .bool (b && decide (x.request = y.request)) → XO P E none 108 rest K ρ' h Q) : XO P E none 108 (a39_2 ++ rest) K ρ h Q := by
 cases b with
 | false =>
  simp only [GR,evK,binV,intOp,strOp,shOp,unV,Nat.reduceLT,Nat.reduceEqDiff,Nat.reduceAdd,↓reduceIte,Nat.reduceLeDiff,reduceCtorEq,a39_2,hg]
  exact hk _ h2 h3 rfl
 | true =>
  simp only [GR,evK,binV,intOp,strOp,shOp,unV,Nat.reduceLT,Nat.reduceEqDiff,Nat.reduceAdd,↓reduceIte,Nat.reduceLeDiff,reduceCtorEq,a39_2,hg,h2,h3,hx,hy,Entry.len,Entry.g2]
  exact hk _ h2 h3 (by first | rfl | (simp; done) | exact congrArg V.bool (beq_dec _ _))
theorem s39_3 {P : Program} {E : Env} {K : List Fr} {Q : Po} {x y : Entry} {ρ : Nat → V} {h : H} {bx bz : Nat} {rest : List O} {b : Bool} (hx : h.get bx = some (.cells x.cells 49 false false none)) (hy : h.get bz = some (.cells y.cells 49 false false none)) (h2 : ρ 2 = .ptr (some (bx,0))) (h3 : ρ 3 = .ptr (some (bz,0))) (hg : ρ 24 = .bool b) (hk : ∀ (ρ' : Nat → V),ρ' 2 = .ptr (some (bx,0)) → ρ' 3 = .ptr (some (bz,0)) → ρ' 31 = .bool (b && decide (x.op = y.op)) → XO P E none 108 rest K ρ' h Q) : XO P E none 108 (a39_3 ++ rest) K ρ h Q := by
 have hpart : ∀ z : Entry,List.take 8 (List.drop 3 z.cells) = z.op.cells := fun _ => rfl
 have heq := Opr.eqv h x.op y.op
 cases b with
 | false =>
  simp only [GR,evK,binV,intOp,strOp,shOp,unV,Nat.reduceLT,Nat.reduceEqDiff,Nat.reduceAdd,↓reduceIte,Nat.reduceLeDiff,reduceCtorEq,a39_3,hg]
  exact hk _ h2 h3 rfl
 | true =>
  simp only [GR,evK,binV,intOp,strOp,shOp,unV,Nat.reduceLT,Nat.reduceEqDiff,Nat.reduceAdd,↓reduceIte,Nat.reduceLeDiff,reduceCtorEq,a39_3,hg,h2,h3,hx,hy,Entry.len,hpart,heq]
  exact hk _ h2 h3 (by first | rfl | (simp; done) | exact congrArg V.bool (beq_dec _ _))
theorem s39_4 {P : Program} {E : Env} {K : List Fr} {Q : Po} {x y : Entry} {ρ : Nat → V} {h : H} {bx bz : Nat} {rest : List O} {b : Bool} (hx : h.get bx = some (.cells x.cells 49 false false none)) (hy : h.get bz = some (.cells y.cells 49 false false none)) (h2 : ρ 2 = .ptr (some (bx,0))) (h3 : ρ 3 = .ptr (some (bz,0))) (hg : ρ 31 = .bool b) (hk : ∀ (ρ' : Nat → V),ρ' 2 = .ptr (some (bx,0)) → ρ' 3 = .ptr (some (bz,0)) → ρ' 38 = .bool (b && decide (x.origin = y.origin)) → XO P E none 108 rest K ρ' h Q) : XO P E none 108 (a39_4 ++ rest) K ρ h Q := by
 cases b with
 | false =>
  simp only [GR,evK,binV,intOp,strOp,shOp,unV,Nat.reduceLT,Nat.reduceEqDiff,Nat.reduceAdd,↓reduceIte,Nat.reduceLeDiff,reduceCtorEq,a39_4,hg]
  exact hk _ h2 h3 rfl
 | true =>
  simp only [GR,evK,binV,intOp,strOp,shOp,unV,Nat.reduceLT,Nat.reduceEqDiff,Nat.reduceAdd,↓reduceIte,Nat.reduceLeDiff,reduceCtorEq,a39_4,hg,h2,h3,hx,hy,Entry.len,Entry.g11]
  exact hk _ h2 h3 (by first | rfl | (simp; done) | exact congrArg V.bool (beq_dec _ _))
theorem s39_5 {P : Program} {E : Env} {K : List Fr} {Q : Po} {x y : Entry} {ρ : Nat → V} {h : H} {bx bz : Nat} {rest : List O} {b : Bool} (hx : h.get bx = some (.cells x.cells 49 false false none)) (hy : h.get bz = some (.cells y.cells 49 false false none)) (h2 : ρ 2 = .ptr (some (bx,0))) (h3 : ρ 3 = .ptr (some (bz,0))) (hg : ρ 38 = .bool b) (hk : ∀ (ρ' : Nat → V),ρ' 2 = .ptr (some (bx,0)) → ρ' 3 = .ptr (some (bz,0)) → ρ' 45 = .bool (b && decide (x.seq = y.seq)) → XO P E none 108 rest K ρ' h Q) : XO P E none 108 (a39_5 ++ rest) K ρ h Q := by
 cases b with
 | false =>
  simp only [GR,evK,binV,intOp,strOp,shOp,unV,Nat.reduceLT,Nat.reduceEqDiff,Nat.reduceAdd,↓reduceIte,Nat.reduceLeDiff,reduceCtorEq,a39_5,hg]
  exact hk _ h2 h3 rfl
 | true =>
  simp only [GR,evK,binV,intOp,strOp,shOp,unV,Nat.reduceLT,Nat.reduceEqDiff,Nat.reduceAdd,↓reduceIte,Nat.reduceLeDiff,reduceCtorEq,a39_5,hg,h2,h3,hx,hy,Entry.len,Entry.g12]
  exact hk _ h2 h3 (by first | rfl | (simp; done) | exact congrArg V.bool (beq_dec _ _))
theorem s39_6 {P : Program} {E : Env} {K : List Fr} {Q : Po} {x y : Entry} {ρ : Nat → V} {h : H} {bx bz : Nat} {rest : List O} {b : Bool} (hx : h.get bx = some (.cells x.cells 49 false false none)) (hy : h.get bz = some (.cells y.cells 49 false false none)) (h2 : ρ 2 = .ptr (some (bx,0))) (h3 : ρ 3 = .ptr (some (bz,0))) (hg : ρ 45 = .bool b) {c : Bool} (hc : Sp P E (.func 60 [] []) [x.ops,y.ops] h fun v h' => v = .bool c ∧ Kp h h') (hk : ∀ (ρ' : Nat → V) (h' : H),Kp h h' → ρ' 2 = .ptr (some (bx,0)) → ρ' 3 = .ptr (some (bz,0)) → ρ' 52 = .bool (b && c) → XO P E none 108 rest K ρ' h' Q) : XO P E none 108 (a39_6 ++ rest) K ρ h Q := by
 cases b with
 | false =>
  simp only [GR,evK,binV,intOp,strOp,shOp,unV,Nat.reduceLT,Nat.reduceEqDiff,Nat.reduceAdd,↓reduceIte,Nat.reduceLeDiff,reduceCtorEq,a39_6,hg]
  exact hk _ _ (Keeps.refl _ _) h2 h3 rfl
 | true =>
  simp only [GR,evK,binV,intOp,strOp,shOp,unV,Nat.reduceLT,Nat.reduceEqDiff,Nat.reduceAdd,↓reduceIte,Nat.reduceLeDiff,reduceCtorEq,a39_6,hg,h2,h3,hx,hy,Entry.len,Entry.g13]
  refine XC_of hc ?_
  rintro _ h' ⟨rfl,k⟩
  simp only [GR,evK,binV,intOp,strOp,shOp,unV,Nat.reduceLT,Nat.reduceEqDiff,Nat.reduceAdd,↓reduceIte,Nat.reduceLeDiff,reduceCtorEq,hg]
  exact hk _ _ k h2 h3 rfl
theorem s39_7 {P : Program} {E : Env} {K : List Fr} {Q : Po} {x y : Entry} {ρ : Nat → V} {h : H} {bx bz : Nat} {rest : List O} {b : Bool} (hx : h.get bx = some (.cells x.cells 49 false false none)) (hy : h.get bz = some (.cells y.cells 49 false false none)) (h2 : ρ 2 = .ptr (some (bx,0))) (h3 : ρ 3 = .ptr (some (bz,0))) (hg : ρ 52 = .bool b) (hk : ∀ (ρ' : Nat → V),ρ' 2 = .ptr (some (bx,0)) → ρ' 3 = .ptr (some (bz,0)) → ρ' 59 = .bool (b && decide (x.epoch = y.epoch)) → XO P E none 108 rest K ρ' h Q) : XO P E none 108 (a39_7 ++ rest) K ρ h Q := by
 have hpart : ∀ z : Entry,List.take 25 (List.drop 14 z.cells) = z.epoch.cells := fun _ => rfl
 have heq := Epoch.eqv h x.epoch y.epoch
 cases b with
 | false =>
  simp only [GR,evK,binV,intOp,strOp,shOp,unV,Nat.reduceLT,Nat.reduceEqDiff,Nat.reduceAdd,↓reduceIte,Nat.reduceLeDiff,reduceCtorEq,a39_7,hg]
  exact hk _ h2 h3 rfl
 | true =>
  simp only [GR,evK,binV,intOp,strOp,shOp,unV,Nat.reduceLT,Nat.reduceEqDiff,Nat.reduceAdd,↓reduceIte,Nat.reduceLeDiff,reduceCtorEq,a39_7,hg,h2,h3,hx,hy,Entry.len,hpart,heq]
  exact hk _ h2 h3 (by first | rfl | (simp; done) | exact congrArg V.bool (beq_dec _ _))
theorem s39_8 {P : Program} {E : Env} {K : List Fr} {Q : Po} {x y : Entry} {ρ : Nat → V} {h : H} {bx bz : Nat} {rest : List O} {b : Bool} (hx : h.get bx = some (.cells x.cells 49 false false none)) (hy : h.get bz = some (.cells y.cells 49 false false none)) (h2 : ρ 2 = .ptr (some (bx,0))) (h3 : ρ 3 = .ptr (some (bz,0))) (hg : ρ 59 = .bool b) (hk : ∀ (ρ' : Nat → V),ρ' 2 = .ptr (some (bx,0)) → ρ' 3 = .ptr (some (bz,0)) → ρ' 66 = .bool (b && decide (x.frm = y.frm)) → XO P E none 108 rest K ρ' h Q) : XO P E none 108 (a39_8 ++ rest) K ρ h Q := by
 cases b with
 | false =>
  simp only [GR,evK,binV,intOp,strOp,shOp,unV,Nat.reduceLT,Nat.reduceEqDiff,Nat.reduceAdd,↓reduceIte,Nat.reduceLeDiff,reduceCtorEq,a39_8,hg]
  exact hk _ h2 h3 rfl
 | true =>
  simp only [GR,evK,binV,intOp,strOp,shOp,unV,Nat.reduceLT,Nat.reduceEqDiff,Nat.reduceAdd,↓reduceIte,Nat.reduceLeDiff,reduceCtorEq,a39_8,hg,h2,h3,hx,hy,Entry.len,Entry.g39]
  exact hk _ h2 h3 (by first | rfl | (simp; done) | exact congrArg V.bool (beq_dec _ _))
theorem s39_9 {P : Program} {E : Env} {K : List Fr} {Q : Po} {x y : Entry} {ρ : Nat → V} {h : H} {bx bz : Nat} {rest : List O} {b : Bool} (hx : h.get bx = some (.cells x.cells 49 false false none)) (hy : h.get bz = some (.cells y.cells 49 false false none)) (h2 : ρ 2 = .ptr (some (bx,0))) (h3 : ρ 3 = .ptr (some (bz,0))) (hg : ρ 66 = .bool b) (hk : ∀ (ρ' : Nat → V),ρ' 2 = .ptr (some (bx,0)) → ρ' 3 = .ptr (some (bz,0)) → ρ' 73 = .bool (b && decide (x.vector = y.vector)) → XO P E none 108 rest K ρ' h Q) : XO P E none 108 (a39_9 ++ rest) K ρ h Q := by
 have hpart : ∀ z : Entry,List.take 8 (List.drop 40 z.cells) = z.vector.cells := fun _ => rfl
 have heq := Vec.eqv h x.vector y.vector
 cases b with
 | false =>
  simp only [GR,evK,binV,intOp,strOp,shOp,unV,Nat.reduceLT,Nat.reduceEqDiff,Nat.reduceAdd,↓reduceIte,Nat.reduceLeDiff,reduceCtorEq,a39_9,hg]
  exact hk _ h2 h3 rfl
 | true =>
  simp only [GR,evK,binV,intOp,strOp,shOp,unV,Nat.reduceLT,Nat.reduceEqDiff,Nat.reduceAdd,↓reduceIte,Nat.reduceLeDiff,reduceCtorEq,a39_9,hg,h2,h3,hx,hy,Entry.len,hpart,heq]
  exact hk _ h2 h3 (by first | rfl | (simp; done) | exact congrArg V.bool (beq_dec _ _))
theorem s39_10 {P : Program} {E : Env} {K : List Fr} {Q : Po} {x y : Entry} {ρ : Nat → V} {h : H} {bx bz : Nat} {rest : List O} {b : Bool} (hx : h.get bx = some (.cells x.cells 49 false false none)) (hy : h.get bz = some (.cells y.cells 49 false false none)) (h2 : ρ 2 = .ptr (some (bx,0))) (h3 : ρ 3 = .ptr (some (bz,0))) (hg : ρ 73 = .bool b) (hk : ∀ (ρ' : Nat → V),ρ' 2 = .ptr (some (bx,0)) → ρ' 3 = .ptr (some (bz,0)) → ρ' 80 = .bool (b && decide (x.clock = y.clock)) → XO P E none 108 rest K ρ' h Q) : XO P E none 108 (a39_10 ++ rest) K ρ h Q := by
 cases b with
 | false =>
  simp only [GR,evK,binV,intOp,strOp,shOp,unV,Nat.reduceLT,Nat.reduceEqDiff,Nat.reduceAdd,↓reduceIte,Nat.reduceLeDiff,reduceCtorEq,a39_10,hg]
  exact hk _ h2 h3 rfl
 | true =>
  simp only [GR,evK,binV,intOp,strOp,shOp,unV,Nat.reduceLT,Nat.reduceEqDiff,Nat.reduceAdd,↓reduceIte,Nat.reduceLeDiff,reduceCtorEq,a39_10,hg,h2,h3,hx,hy,Entry.len,Entry.g48]
  exact hk _ h2 h3 (by first | rfl | (simp; done) | exact congrArg V.bool (beq_dec _ _))
theorem s39_11 {P : Program} {E : Env} {K : List Fr} {Q : Po} {x y : Entry} {ρ : Nat → V} {h : H} {bx bz : Nat} {rest : List O} {b : Bool} (hx : h.get bx = some (.cells x.cells 49 false false none)) (hy : h.get bz = some (.cells y.cells 49 false false none)) (h2 : ρ 2 = .ptr (some (bx,0))) (h3 : ρ 3 = .ptr (some (bz,0))) (hg : ρ 80 = .bool b) {c : Bool} (hc : Sp P E (.func 61 [] []) [.agg x.part.cells,.agg y.part.cells] h fun v h' => v = .bool c ∧ Kp h h') (hk : ∀ (ρ' : Nat → V) (h' : H),Kp h h' → ρ' 2 = .ptr (some (bx,0)) → ρ' 3 = .ptr (some (bz,0)) → ρ' 87 = .bool (b && c) → XO P E none 108 rest K ρ' h' Q) : XO P E none 108 (a39_11 ++ rest) K ρ h Q := by
 have hpart : ∀ z : Entry,List.take 4 (List.drop 49 z.cells) = z.part.cells := fun _ => rfl
 cases b with
 | false =>
  simp only [GR,evK,binV,intOp,strOp,shOp,unV,Nat.reduceLT,Nat.reduceEqDiff,Nat.reduceAdd,↓reduceIte,Nat.reduceLeDiff,reduceCtorEq,a39_11,hg]
  exact hk _ _ (Keeps.refl _ _) h2 h3 rfl
 | true =>
  simp only [GR,evK,binV,intOp,strOp,shOp,unV,Nat.reduceLT,Nat.reduceEqDiff,Nat.reduceAdd,↓reduceIte,Nat.reduceLeDiff,reduceCtorEq,a39_11,hg,h2,h3,hx,hy,Entry.len,hpart]
  refine XC_of hc ?_
  rintro _ h' ⟨rfl,k⟩
  simp only [GR,evK,binV,intOp,strOp,shOp,unV,Nat.reduceLT,Nat.reduceEqDiff,Nat.reduceAdd,↓reduceIte,Nat.reduceLeDiff,reduceCtorEq,hg]
  exact hk _ _ k h2 h3 rfl
theorem s39_12 {P : Program} {E : Env} {K : List Fr} {Q : Po} {x y : Entry} {ρ : Nat → V} {h : H} {bx bz : Nat} {rest : List O} {b : Bool} (hx : h.get bx = some (.cells x.cells 49 false false none)) (hy : h.get bz = some (.cells y.cells 49 false false none)) (h2 : ρ 2 = .ptr (some (bx,0))) (h3 : ρ 3 = .ptr (some (bz,0))) (hg : ρ 87 = .bool b) (hk : ∀ (ρ' : Nat → V),ρ' 2 = .ptr (some (bx,0)) → ρ' 3 = .ptr (some (bz,0)) → ρ' 94 = .bool (b && decide (x.site = y.site)) → XO P E none 108 rest K ρ' h Q) : XO P E none 108 (a39_12 ++ rest) K ρ h Q := by
 cases b with
 | false =>
  simp only [GR,evK,binV,intOp,strOp,shOp,unV,Nat.reduceLT,Nat.reduceEqDiff,Nat.reduceAdd,↓reduceIte,Nat.reduceLeDiff,reduceCtorEq,a39_12,hg]
  exact hk _ h2 h3 rfl
 | true =>
  simp only [GR,evK,binV,intOp,strOp,shOp,unV,Nat.reduceLT,Nat.reduceEqDiff,Nat.reduceAdd,↓reduceIte,Nat.reduceLeDiff,reduceCtorEq,a39_12,hg,h2,h3,hx,hy,Entry.len,Entry.g53]
  exact hk _ h2 h3 (by first | rfl | (simp; done) | exact congrArg V.bool (beq_dec _ _))
theorem s39_13 {P : Program} {E : Env} {K : List Fr} {Q : Po} {x y : Entry} {ρ : Nat → V} {h : H} {bx bz : Nat} {rest : List O} {b : Bool} (hx : h.get bx = some (.cells x.cells 49 false false none)) (hy : h.get bz = some (.cells y.cells 49 false false none)) (h2 : ρ 2 = .ptr (some (bx,0))) (h3 : ρ 3 = .ptr (some (bz,0))) (hg : ρ 94 = .bool b) (hk : ∀ (ρ' : Nat → V),ρ' 2 = .ptr (some (bx,0)) → ρ' 3 = .ptr (some (bz,0)) → ρ' 101 = .bool (b && decide (x.sponsor = y.sponsor)) → XO P E none 108 rest K ρ' h Q) : XO P E none 108 (a39_13 ++ rest) K ρ h Q := by
 cases b with
 | false =>
  simp only [GR,evK,binV,intOp,strOp,shOp,unV,Nat.reduceLT,Nat.reduceEqDiff,Nat.reduceAdd,↓reduceIte,Nat.reduceLeDiff,reduceCtorEq,a39_13,hg]
  exact hk _ h2 h3 rfl
 | true =>
  simp only [GR,evK,binV,intOp,strOp,shOp,unV,Nat.reduceLT,Nat.reduceEqDiff,Nat.reduceAdd,↓reduceIte,Nat.reduceLeDiff,reduceCtorEq,a39_13,hg,h2,h3,hx,hy,Entry.len,Entry.g54]
  exact hk _ h2 h3 (by first | rfl | (simp; done) | exact congrArg V.bool (beq_dec _ _))
theorem s39_14 {P : Program} {E : Env} {K : List Fr} {Q : Po} {x y : Entry} {ρ : Nat → V} {h : H} {bx bz : Nat} {rest : List O} {b : Bool} (hx : h.get bx = some (.cells x.cells 49 false false none)) (hy : h.get bz = some (.cells y.cells 49 false false none)) (h2 : ρ 2 = .ptr (some (bx,0))) (h3 : ρ 3 = .ptr (some (bz,0))) (hg : ρ 101 = .bool b) (hk : ∀ (ρ' : Nat → V),ρ' 2 = .ptr (some (bx,0)) → ρ' 3 = .ptr (some (bz,0)) → ρ' 4 = .bool (b && decide (x.length = y.length)) → XO P E none 108 rest K ρ' h Q) : XO P E none 108 (a39_14 ++ rest) K ρ h Q := by
 cases b with
 | false =>
  simp only [GR,evK,binV,intOp,strOp,shOp,unV,Nat.reduceLT,Nat.reduceEqDiff,Nat.reduceAdd,↓reduceIte,Nat.reduceLeDiff,reduceCtorEq,a39_14,hg]
  exact hk _ h2 h3 rfl
 | true =>
  simp only [GR,evK,binV,intOp,strOp,shOp,unV,Nat.reduceLT,Nat.reduceEqDiff,Nat.reduceAdd,↓reduceIte,Nat.reduceLeDiff,reduceCtorEq,a39_14,hg,h2,h3,hx,hy,Entry.len,Entry.g55]
  exact hk _ h2 h3 (by first | rfl | (simp; done) | exact congrArg V.bool (beq_dec _ _))
set_option maxRecDepth 100000 in
theorem ent39 (F : Fa E) {x y : Entry} {h : H} {d d' : DEnt} (hx : EIn h x d) (hy : EIn h y d') :
  Sp P E (.func 39 [] []) [.agg x.cells,.agg y.cells] h fun r h' => r = .bool (decide (d = d')) ∧ Kp h h' := by
 have hg0 := psh_same h (.cells x.cells 49 false false none)
 have hk0 : Kp h (h.psh (.cells x.cells 49 false false none)) := Keeps.psh (Nat.le_refl _) _
 have hk1 : Kp (h.psh (.cells x.cells 49 false false none)) ((h.psh (.cells x.cells 49 false false none)).psh (.cells y.cells 49 false false none)) := Keeps.psh (Nat.le_refl _) _
 have gy := psh_same (h.psh (.cells x.cells 49 false false none)) (.cells y.cells 49 false false none)
 have gx := Kp.of hk1 hg0
 have kk := Kp.trans hk0 hk1
 refine Sp_fn F.f39 F.p39 (by simp [fn39]) ?_
 simp only [GR,evK,binV,intOp,strOp,shOp,unV,Nat.reduceLT,Nat.reduceEqDiff,Nat.reduceAdd,↓reduceIte,Nat.reduceLeDiff,reduceCtorEq,fn39,c39,r39_0,e39_all]
 generalize (h.psh (.cells x.cells 49 false false none)).psh (.cells y.cells 49 false false none) = h2 at *
 generalize (h.psh (.cells x.cells 49 false false none)).size = B at *
 refine s39_0 gx gy rfl rfl fun ρ p q r => ?_
 refine s39_1 gx gy p q r fun ρ p q r => ?_
 refine s39_2 gx gy p q r fun ρ p q r => ?_
 refine s39_3 gx gy p q r fun ρ p q r => ?_
 refine s39_4 gx gy p q r fun ρ p q r => ?_
 refine s39_5 gx gy p q r fun ρ p q r => ?_
 refine s39_6 gx gy p q r (Sp.kp (eq60 F (hx.ops.keep kk) (hy.ops.keep kk) hx.len)) fun ρ h3 k p q r => ?_
 have gx := Kp.of k gx
 have gy := Kp.of k gy
 have kk := Kp.trans kk k
 refine s39_7 gx gy p q r fun ρ p q r => ?_
 refine s39_8 gx gy p q r fun ρ p q r => ?_
 refine s39_9 gx gy p q r fun ρ p q r => ?_
 refine s39_10 gx gy p q r fun ρ p q r => ?_
 refine s39_11 gx gy p q r (part61 F (hx.dat.keep kk) (hy.dat.keep kk)) fun ρ h3 k p q r => ?_
 have gx := Kp.of k gx
 have gy := Kp.of k gy
 have kk := Kp.trans kk k
 refine s39_12 gx gy p q r fun ρ p q r => ?_
 refine s39_13 gx gy p q r fun ρ p q r => ?_
 rw [← List.append_nil a39_14]
 refine s39_14 gx gy p q r fun ρ p q r => ?_
 simp only [GR,evK,binV,intOp,strOp,shOp,unV,Nat.reduceLT,Nat.reduceEqDiff,Nat.reduceAdd,↓reduceIte,Nat.reduceLeDiff,reduceCtorEq,r]
 refine ⟨?_,kk⟩
 congr 1
 rw [Bool.eq_iff_iff]
 refine Iff.trans ?_ decide_eq_true_iff.symm
 simp only [Bool.and_eq_true,decide_eq_true_eq,beq_iff_eq]
 rw [dent_iff hx.flat hy.flat]
 simp only [flatOf,Flat.mk.injEq,and_assoc,and_comm,and_left_comm]
theorem put_ex {h : H} {b o : Nat} {vs ws : List V} {ty : Nat} {op : Bool} (hg : h.get b = some (.cells vs ty op false none)) (hw : o + ws.length ≤ vs.length) (h1 : ws.all V.one = true) (hne : ws.isEmpty = false) :
  ∃ h',putCells h b o ws = some h' ∧ h'.get b = some (.cells (setR vs o ws) ty op false none) ∧ Keeps b h h' ∧ h'.size = h.size := by
 have hb := H.get_lt hg
 refine ⟨h.set b (.cells (setR vs o ws) ty op false none),?_,hset_same hb _,Keeps.set hb (Nat.le_refl _) _,rfl⟩
 unfold putCells
 simp only [hne,Bool.false_eq_true,if_false,hg,hw,h1,fzFree,and_self,if_true]
theorem Str.shape {h : H} {v : V} {s : List UInt8} (a : Str h v s) : ∃ x n c o,v = .slice x n c o := by
 rcases a with ⟨c,o,e,_⟩ | ⟨p,n,c,o,cs,e,_⟩
 ·exact ⟨_,_,_,_,e⟩
 ·exact ⟨_,_,_,_,e⟩
theorem EIn.one {h : H} {x : Entry} {d : DEnt} (a : EIn h x d) : x.cells.all V.one = true := by
 obtain ⟨b,c,o,e1⟩ := a.ops.len
 obtain ⟨b',n',c',o',e2⟩ := a.dat.shape
 simp only [Entry.cells,List.all_cons,List.all_nil,V.one,e1,e2,Bool.and_self]
theorem EIn.nj {h : H} {x : Entry} {d : DEnt} (a : EIn h x d) : V.njL x.cells = true := by
 obtain ⟨b,c,o,e1⟩ := a.ops.len
 obtain ⟨b',n',c',o',e2⟩ := a.dat.shape
 simp only [Entry.cells,V.njL,V.nj,e1,e2,Bool.and_self]
theorem NIn.one {h : H} {x : TNode} {d : DNode} (a : NIn h x d) : x.cells.all V.one = true := by
 obtain ⟨b,c,o,e1⟩ := a.attrs.len
 simp only [TNode.cells,List.all_cons,List.all_nil,V.one,e1,Bool.and_self]
theorem NIn.nj {h : H} {x : TNode} {d : DNode} (a : NIn h x d) : V.njL x.cells = true := by
 obtain ⟨b,c,o,e1⟩ := a.attrs.len
 simp only [TNode.cells,V.njL,V.nj,e1,Bool.and_self]
theorem dnode_iff {h : H} {x y : TNode} {d d' : DNode} (hx : NIn h x d) (hy : NIn h y d') : d = d' ↔ x.node = y.node ∧ x.parent = y.parent ∧ x.name = y.name ∧ d.attrs = d'.attrs := by
 rw [hx.node,hx.parent,hx.name,hy.node,hy.parent,hy.name]
 cases d; cases d'
 simp only [DNode.mk.injEq]
set_option maxRecDepth 100000 in
theorem e69_all : r69_1 = a69_0 ++ (a69_1 ++ (a69_2 ++ (a69_3))) := rfl
theorem s69_0 {P : Program} {E : Env} {K : List Fr} {Q : Po} {x y : TNode} {ρ : Nat → V} {h : H} {bx bz : Nat} {rest : List O} (hx : h.get bx = some (.cells x.cells 67 false false none)) (hy : h.get bz = some (.cells y.cells 67 false false none)) (h2 : ρ 2 = .ptr (some (bx,0))) (h3 : ρ 3 = .ptr (some (bz,0))) (hk : ∀ (ρ' : Nat → V),ρ' 2 = .ptr (some (bx,0)) → ρ' 3 = .ptr (some (bz,0)) → ρ' 10 = .bool (decide (x.node = y.node)) → XO P E none 31 rest K ρ' h Q) : XO P E none 31 (a69_0 ++ rest) K ρ h Q := by
 simp only [GR,evK,binV,intOp,strOp,shOp,unV,Nat.reduceLT,Nat.reduceEqDiff,Nat.reduceAdd,↓reduceIte,Nat.reduceLeDiff,reduceCtorEq,a69_0,h2,h3,hx,hy,TNode.len,TNode.g0]
 exact hk _ h2 h3 (by first | rfl | (simp; done) | exact congrArg V.bool (beq_dec _ _))
theorem s69_1 {P : Program} {E : Env} {K : List Fr} {Q : Po} {x y : TNode} {ρ : Nat → V} {h : H} {bx bz : Nat} {rest : List O} {b : Bool} (hx : h.get bx = some (.cells x.cells 67 false false none)) (hy : h.get bz = some (.cells y.cells 67 false false none)) (h2 : ρ 2 = .ptr (some (bx,0))) (h3 : ρ 3 = .ptr (some (bz,0))) (hg : ρ 10 = .bool b) (hk : ∀ (ρ' : Nat → V),ρ' 2 = .ptr (some (bx,0)) → ρ' 3 = .ptr (some (bz,0)) → ρ' 17 = .bool (b && decide (x.parent = y.parent)) → XO P E none 31 rest K ρ' h Q) : XO P E none 31 (a69_1 ++ rest) K ρ h Q := by
 cases b with
 | false =>
  simp only [GR,evK,binV,intOp,strOp,shOp,unV,Nat.reduceLT,Nat.reduceEqDiff,Nat.reduceAdd,↓reduceIte,Nat.reduceLeDiff,reduceCtorEq,a69_1,hg]
  exact hk _ h2 h3 rfl
 | true =>
  simp only [GR,evK,binV,intOp,strOp,shOp,unV,Nat.reduceLT,Nat.reduceEqDiff,Nat.reduceAdd,↓reduceIte,Nat.reduceLeDiff,reduceCtorEq,a69_1,hg,h2,h3,hx,hy,TNode.len,TNode.g1]
  exact hk _ h2 h3 (by first | rfl | (simp; done) | exact congrArg V.bool (beq_dec _ _))
theorem s69_2 {P : Program} {E : Env} {K : List Fr} {Q : Po} {x y : TNode} {ρ : Nat → V} {h : H} {bx bz : Nat} {rest : List O} {b : Bool} (hx : h.get bx = some (.cells x.cells 67 false false none)) (hy : h.get bz = some (.cells y.cells 67 false false none)) (h2 : ρ 2 = .ptr (some (bx,0))) (h3 : ρ 3 = .ptr (some (bz,0))) (hg : ρ 17 = .bool b) (hk : ∀ (ρ' : Nat → V),ρ' 2 = .ptr (some (bx,0)) → ρ' 3 = .ptr (some (bz,0)) → ρ' 24 = .bool (b && decide (x.name = y.name)) → XO P E none 31 rest K ρ' h Q) : XO P E none 31 (a69_2 ++ rest) K ρ h Q := by
 cases b with
 | false =>
  simp only [GR,evK,binV,intOp,strOp,shOp,unV,Nat.reduceLT,Nat.reduceEqDiff,Nat.reduceAdd,↓reduceIte,Nat.reduceLeDiff,reduceCtorEq,a69_2,hg]
  exact hk _ h2 h3 rfl
 | true =>
  simp only [GR,evK,binV,intOp,strOp,shOp,unV,Nat.reduceLT,Nat.reduceEqDiff,Nat.reduceAdd,↓reduceIte,Nat.reduceLeDiff,reduceCtorEq,a69_2,hg,h2,h3,hx,hy,TNode.len,TNode.g2]
  exact hk _ h2 h3 (by first | rfl | (simp; done) | exact congrArg V.bool (beq_dec _ _))
theorem s69_3 {P : Program} {E : Env} {K : List Fr} {Q : Po} {x y : TNode} {ρ : Nat → V} {h : H} {bx bz : Nat} {rest : List O} {b : Bool} (hx : h.get bx = some (.cells x.cells 67 false false none)) (hy : h.get bz = some (.cells y.cells 67 false false none)) (h2 : ρ 2 = .ptr (some (bx,0))) (h3 : ρ 3 = .ptr (some (bz,0))) (hg : ρ 24 = .bool b) {c : Bool} (hc : Sp P E (.func 70 [] []) [x.attrs,y.attrs] h fun v h' => v = .bool c ∧ Kp h h') (hk : ∀ (ρ' : Nat → V) (h' : H),Kp h h' → ρ' 2 = .ptr (some (bx,0)) → ρ' 3 = .ptr (some (bz,0)) → ρ' 4 = .bool (b && c) → XO P E none 31 rest K ρ' h' Q) : XO P E none 31 (a69_3 ++ rest) K ρ h Q := by
 cases b with
 | false =>
  simp only [GR,evK,binV,intOp,strOp,shOp,unV,Nat.reduceLT,Nat.reduceEqDiff,Nat.reduceAdd,↓reduceIte,Nat.reduceLeDiff,reduceCtorEq,a69_3,hg]
  exact hk _ _ (Keeps.refl _ _) h2 h3 rfl
 | true =>
  simp only [GR,evK,binV,intOp,strOp,shOp,unV,Nat.reduceLT,Nat.reduceEqDiff,Nat.reduceAdd,↓reduceIte,Nat.reduceLeDiff,reduceCtorEq,a69_3,hg,h2,h3,hx,hy,TNode.len,TNode.g3]
  refine XC_of hc ?_
  rintro _ h' ⟨rfl,k⟩
  simp only [GR,evK,binV,intOp,strOp,shOp,unV,Nat.reduceLT,Nat.reduceEqDiff,Nat.reduceAdd,↓reduceIte,Nat.reduceLeDiff,reduceCtorEq,hg]
  exact hk _ _ k h2 h3 rfl
set_option maxRecDepth 100000 in
theorem node69 (F : Fa E) {x y : TNode} {h : H} {d d' : DNode} (hx : NIn h x d) (hy : NIn h y d') :
  Sp P E (.func 69 [] []) [.agg x.cells,.agg y.cells] h fun r h' => r = .bool (decide (d = d')) ∧ Kp h h' := by
 have hg0 := psh_same h (.cells x.cells 67 false false none)
 have hk0 : Kp h (h.psh (.cells x.cells 67 false false none)) := Keeps.psh (Nat.le_refl _) _
 have hk1 : Kp (h.psh (.cells x.cells 67 false false none)) ((h.psh (.cells x.cells 67 false false none)).psh (.cells y.cells 67 false false none)) := Keeps.psh (Nat.le_refl _) _
 have gy := psh_same (h.psh (.cells x.cells 67 false false none)) (.cells y.cells 67 false false none)
 have gx := Kp.of hk1 hg0
 have kk := Kp.trans hk0 hk1
 refine Sp_fn F.f69 F.p69 (by simp [fn69]) ?_
 simp only [GR,evK,binV,intOp,strOp,shOp,unV,Nat.reduceLT,Nat.reduceEqDiff,Nat.reduceAdd,↓reduceIte,Nat.reduceLeDiff,reduceCtorEq,fn69,c69,r69_0,e69_all]
 generalize (h.psh (.cells x.cells 67 false false none)).psh (.cells y.cells 67 false false none) = h2 at *
 generalize (h.psh (.cells x.cells 67 false false none)).size = B at *
 refine s69_0 gx gy rfl rfl fun ρ p q r => ?_
 refine s69_1 gx gy p q r fun ρ p q r => ?_
 refine s69_2 gx gy p q r fun ρ p q r => ?_
 rw [← List.append_nil a69_3]
 refine s69_3 gx gy p q r (Sp.kp (eq70 F (hx.attrs.keep kk) (hy.attrs.keep kk) hx.len)) fun ρ h3 k p q r => ?_
 have gx := Kp.of k gx
 have gy := Kp.of k gy
 have kk := Kp.trans kk k
 simp only [GR,evK,binV,intOp,strOp,shOp,unV,Nat.reduceLT,Nat.reduceEqDiff,Nat.reduceAdd,↓reduceIte,Nat.reduceLeDiff,reduceCtorEq,r]
 refine ⟨?_,kk⟩
 congr 1
 rw [Bool.eq_iff_iff]
 refine Iff.trans ?_ decide_eq_true_iff.symm
 simp only [Bool.and_eq_true,decide_eq_true_eq,beq_iff_eq]
 rw [dnode_iff hx hy]
 simp only [and_assoc]
set_option maxHeartbeats 1000000 in
theorem eql68 (F : Fa E) {v w : V} {xs ys : List (TNode × DNode)} {h0 : H} (hx : Sl h0 4 v (xs.map fun p => p.1.cells)) (hxd : ∀ p ∈ xs,NIn h0 p.1 p.2) (hy : Sl h0 4 w (ys.map fun p => p.1.cells)) (hyd : ∀ p ∈ ys,NIn h0 p.1 p.2) (hl : xs.length ≤ 1048576) :
  Sp P E (.func 68 [] []) [v,w,.func 69 [] []] h0 fun r h' => r = .bool (decide (xs.map (·.2) = ys.map (·.2))) ∧ Kp h0 h' := by
 obtain ⟨a1,c1,o1,e1⟩ := hx.len
 obtain ⟨a2,c2,o2,e2⟩ := hy.len
 rw [List.length_map] at e1 e2
 refine Sp_fn F.f68 F.p68 (by simp [fn68]) ?_
 by_cases hlen : xs.length = ys.length
 ·have loop : ∀ (d k : Nat) (ρ : Nat → V) (h : H),xs.length - k = d → k ≤ xs.length → ρ 1 = w → ρ 2 = .func 69 [] [] → ρ 15 = v → ρ 16 = .int .i64 xs.length → ρ 17 = .int .i64 k → (xs.map (·.2)).take k = (ys.map (·.2)).take k → Kp h0 h →
    XL P E none 32 b68_6 [.b 0,.c (.seq (.region [⟨some 6,.mv (.k (.bool true)),none,0,[6]⟩]) (.ret))] ρ h (Fin [.t 6] fun r h' => r = .bool (decide (xs.map (·.2) = ys.map (·.2))) ∧ Kp h0 h') := by
   intro d
   induction d with
   | zero =>
    intro k ρ h hd hk q1 q2 q15 q16 q17 ht hkp
    have hke : ¬ k < xs.length := by omega
    rw [List.take_of_length_le (by rw [List.length_map]; omega),List.take_of_length_le (by rw [List.length_map]; omega)] at ht
    rw [u68_6]
    simp only [GR,evK,binV,intOp,strOp,shOp,unV,Nat.reduceLT,Nat.reduceEqDiff,Nat.reduceAdd,↓reduceIte,Nat.reduceLeDiff,reduceCtorEq,q16,q17,Int.ofNat_lt,hke]
    simp [ht,hkp]
   | succ d ih =>
    intro k ρ h hd hk q1 q2 q15 q16 q17 ht hkp
    have hke : k < xs.length := by omega
    have hky : k < ys.length := by omega
    obtain ⟨b,o,cap,opn,vs,ty,op,ro,fz,v1,hg,hll,he⟩ := (hx.keep hkp).get (k := k) (x := xs[k].1.cells) (by simp [hke])
    rw [v1,List.length_map] at q15
    have dx := (hxd _ (List.getElem_mem hke)).keep hkp
    have dy := (hyd _ (List.getElem_mem hky)).keep hkp
    have fl : ∀ z : TNode,z.cells.length = 4 := fun _ => rfl
    have p0 : ∀ z : TNode,List.take 4 z.cells = z.cells := fun _ => rfl
    obtain ⟨h3,e3,g3,k3,z3⟩ := put_ex (o := 0) (ws := xs[k].1.cells) (psh_same h (.cells [.int .i64 0,.int .i64 0,.str [],.slice none 0 0 false] 67 false false none)) (by rw [fl]; decide) dx.one rfl
    have g3' : h3.get h.size = some (.cells xs[k].1.cells 67 false false none) := g3
    have k3' : Kp h h3 := Keeps.trans (Keeps.psh (Nat.le_refl _) _) k3
    obtain ⟨b',o',cap',opn',vs',ty',op',ro',fz',w1,hg',hll',he'⟩ := (hy.keep (hkp.trans k3')).get (k := k) (x := ys[k].1.cells) (by simp [hky])
    rw [w1,List.length_map] at q1
    obtain ⟨h4,e4,g4,k4,z4⟩ := put_ex (o := 0) (ws := ys[k].1.cells) (psh_same h3 (.cells [.int .i64 0,.int .i64 0,.str [],.slice none 0 0 false] 67 false false none)) (by rw [fl]; decide) dy.one rfl
    have g4' : h4.get h3.size = some (.cells ys[k].1.cells 67 false false none) := g4
    have k4' : Kp h3 h4 := Keeps.trans (Keeps.psh (Nat.le_refl _) _) k4
    have g34 := Kp.of k4' g3'
    have kk := hkp.trans (k3'.trans k4')
    unfold getR at he he'
    have hw : IntKind.i64.wrap ((k : Int) + 1) = ((k + 1 : Nat) : Int) := wrap_nat (n := k + 1) (by omega)
    have flx := fl xs[k].1
    have fly := fl ys[k].1
    have p0x := p0 xs[k].1
    have p0y := p0 ys[k].1
    have sp := node69 (P := P) F (dx.keep (k3'.trans k4')) (dy.keep (k3'.trans k4'))
    have hres : ∀ b,decide (xs[k].2 = ys[k].2) = b → b = false → xs.map (·.2) ≠ ys.map (·.2) := fun b hb hb2 e => by
     subst hb2
     have : (xs.map (·.2))[k]'(by simp [hke]) = (ys.map (·.2))[k]'(by simp [hky]) := by simp only [e]
     simp at this hb
     exact hb this
    generalize hxc : xs[k].1.cells = xc at *
    generalize hyc : ys[k].1.cells = yc at *
    rw [u68_6]
    simp only [GR,evK,binV,intOp,strOp,shOp,unV,Nat.reduceLT,Nat.reduceEqDiff,Nat.reduceAdd,↓reduceIte,Nat.reduceLeDiff,reduceCtorEq,q16,q17,Int.ofNat_lt,hke,hky,r68_2,r68_3,r68_4,q15,q1,q2,hg,hg',hll,hll',he,he',Int.natCast_nonneg,Int.toNat_natCast,flx,fly,p0x,p0y,e3,e4,g4',g34]
    refine XC_of sp ?_
    rintro _ h5 ⟨rfl,k5⟩
    by_cases hek : xs[k].2 = ys[k].2
    ·have hd2 : decide (xs[k].2 = ys[k].2) = true := decide_eq_true hek
     simp only [GR,evK,binV,intOp,strOp,shOp,unV,Nat.reduceLT,Nat.reduceEqDiff,Nat.reduceAdd,↓reduceIte,Nat.reduceLeDiff,reduceCtorEq,hd2,Bool.not_true,r68_5,q17,hw]
     refine ih (k + 1) _ h5 (by omega) (by omega) ?_ q2 ?_ q16 rfl (take_succ (by simp [hke]) (by simp [hky]) ht (by simp [hek])) (kk.trans k5)
     ·rw [w1,List.length_map]; exact q1
     ·rw [v1,List.length_map]; exact q15
    ·have hd2 : decide (xs[k].2 = ys[k].2) = false := decide_eq_false hek
     have hne := hres _ hd2 rfl
     simp only [GR,evK,binV,intOp,strOp,shOp,unV,Nat.reduceLT,Nat.reduceEqDiff,Nat.reduceAdd,↓reduceIte,Nat.reduceLeDiff,reduceCtorEq,hd2,Bool.not_false]
     refine ⟨?_,kk.trans k5⟩
     rw [decide_eq_false hne]
  have hd : decide (xs.length = ys.length) = true := decide_eq_true hlen
  simp only [GR,evK,binV,intOp,strOp,shOp,unV,Nat.reduceLT,Nat.reduceEqDiff,Nat.reduceAdd,↓reduceIte,Nat.reduceLeDiff,reduceCtorEq,fn68,c68,r68_0,r68_1,e1,e2,eqlens,hd,Bool.not_true]
  exact loop _ 0 _ h0 rfl (Nat.zero_le _) e2.symm rfl e1.symm rfl rfl rfl (Keeps.refl _ _)
 ·have hne : xs.map (·.2) ≠ ys.map (·.2) := fun e => hlen (by have := congrArg List.length e; simpa using this)
  have hd : decide (xs.length = ys.length) = false := decide_eq_false hlen
  simp only [GR,evK,binV,intOp,strOp,shOp,unV,Nat.reduceLT,Nat.reduceEqDiff,Nat.reduceAdd,↓reduceIte,Nat.reduceLeDiff,reduceCtorEq,fn68,c68,r68_0,e1,e2,eqlens,hd,Bool.not_false]
  exact ⟨by rw [decide_eq_false hne],Keeps.refl _ _⟩
theorem nodes62 (F : Fa E) {v w : V} {xs ys : List (TNode × DNode)} {h0 : H} (hx : Sl h0 4 v (xs.map fun p => p.1.cells)) (hxd : ∀ p ∈ xs,NIn h0 p.1 p.2) (hy : Sl h0 4 w (ys.map fun p => p.1.cells)) (hyd : ∀ p ∈ ys,NIn h0 p.1 p.2) (hl : xs.length ≤ 1048576) :
  Sp P E (.func 62 [] []) [v,w] h0 fun r h' => r = .bool (decide (xs.map (·.2) = ys.map (·.2))) ∧ Kp h0 h' := by
 refine Sp_fn F.f62 F.p62 (by simp [fn62]) ?_
 simp only [GR,evK,binV,intOp,strOp,shOp,unV,Nat.reduceLT,Nat.reduceEqDiff,Nat.reduceAdd,↓reduceIte,Nat.reduceLeDiff,reduceCtorEq,fn62,c62,r62_0]
 refine XC_of (eql68 F hx hxd hy hyd hl) ?_
 rintro _ h1 ⟨rfl,k1⟩
 simp only [GR,evK,binV,intOp,strOp,shOp,unV,Nat.reduceLT,Nat.reduceEqDiff,Nat.reduceAdd,↓reduceIte,Nat.reduceLeDiff,reduceCtorEq]
 exact k1
end Go.AM.Sc
