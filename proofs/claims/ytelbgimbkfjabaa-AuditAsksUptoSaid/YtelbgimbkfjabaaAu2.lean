/- My own texts of the evaluator, its soundness and its symbolic runs, laid for this claim. -/
import Derived.Test.YtelbgimbkfjabaaAu1
set_option linter.unusedSimpArgs false
set_option linter.unusedVariables false
/-! Parts and entries, compared. -/
namespace Go.AM.Sc
open Go.AM
variable {P : Program} {E : Env}
theorem bool_step (h : H) (a b : Bool) : eqV h .bool (.bool a) (.bool b) = some (decide (a = b)) := by
  simp only [eqV]
  congr 1
theorem beq_dec (a b : List UInt8) : (a == b) = decide (a = b) := by rw [Bool.eq_iff_iff]; simp
theorem Sp.kp {g : V} {args : List V} {h : H} {b : Bool} (s : Sp P E g args h fun r h' => r = .bool b ∧ h' = h) : Sp P E g args h fun r h' => r = .bool b ∧ Kp h h' := by
  obtain ⟨v, h', he, h1, rfl⟩ := s
  exact ⟨v, _, he, h1, Keeps.refl _ _⟩
def a34_0 : List O := [⟨some 5,.fadr 0 (.t 2),none,0,[5,2]⟩,⟨some 6,.load1 (.t 5),none,1,[6,5]⟩,⟨some 7,.fadr 0 (.t 3),none,0,[7,3]⟩,⟨some 8,.load1 (.t 7),none,4,[8,7]⟩,⟨some 9,.bin .eql (some .int) false (.t 6) (.t 8),none,15,[9,6,8]⟩,⟨some 10,.mv (.t 9),none,31,[10,9]⟩]
def a34_1 : List O := [⟨some 11,.fadr 1 (.t 2),some (10,true),63,[11,10,2]⟩,⟨some 12,.load1 (.t 11),some (10,true),127,[12,10,11]⟩,⟨some 13,.fadr 1 (.t 3),some (10,true),63,[13,10,3]⟩,⟨some 14,.load1 (.t 13),some (10,true),319,[14,10,13]⟩,⟨some 15,.bin .eql (some .int) false (.t 12) (.t 14),some (10,true),1023,[15,10,12,14]⟩,⟨some 16,.pick (.t 10) (.t 15) (.k (.bool false)),none,2047,[16,10,15]⟩,⟨some 17,.mv (.t 16),none,4095,[17,16]⟩]
def a34_2 : List O := [⟨some 18,.fadr 2 (.t 2),some (17,true),8191,[18,17,2]⟩,⟨some 19,.load1 (.t 18),some (17,true),16383,[19,17,18]⟩,⟨some 20,.fadr 2 (.t 3),some (17,true),8191,[20,17,3]⟩,⟨some 21,.load1 (.t 20),some (17,true),40959,[21,17,20]⟩,⟨some 22,.bin .eql (some .int) false (.t 19) (.t 21),some (17,true),131071,[22,17,19,21]⟩,⟨some 23,.pick (.t 17) (.t 22) (.k (.bool false)),none,262143,[23,17,22]⟩,⟨some 24,.mv (.t 23),none,524287,[24,23]⟩]
def a34_3 : List O := [⟨some 25,.fadr 3 (.t 2),some (24,true),1048575,[25,24,2]⟩,⟨some 26,.load1 (.t 25),some (24,true),2097151,[26,24,25]⟩,⟨some 27,.b2s (.t 26),some (24,true),4194303,[27,24,26]⟩,⟨some 28,.fadr 3 (.t 3),some (24,true),1048575,[28,24,3]⟩,⟨some 29,.load1 (.t 28),some (24,true),9437183,[29,24,28]⟩,⟨some 30,.b2s (.t 29),some (24,true),26214399,[30,24,29]⟩,⟨some 31,.bin .eql (some .str) false (.t 27) (.t 30),some (24,true),67108863,[31,24,27,30]⟩,⟨some 32,.pick (.t 24) (.t 31) (.k (.bool false)),none,134217727,[32,24,31]⟩,⟨some 4,.mv (.t 32),none,268435455,[4,32]⟩]
set_option maxRecDepth 100000 in
theorem e34_all : r34_1 = a34_0 ++ (a34_1 ++ (a34_2 ++ (a34_3))) := rfl
theorem s34_0 {P : Program} {E : Env} {K : List Fr} {Q : Po} {x y : Part} {ρ : Nat → V} {h : H} {bx bz : Nat} {rest : List O} (hx : h.get bx = some (.cells x.cells 47 false false none)) (hy : h.get bz = some (.cells y.cells 47 false false none)) (h2 : ρ 2 = .ptr (some (bx, 0))) (h3 : ρ 3 = .ptr (some (bz, 0))) (hk : ∀ (ρ' : Nat → V), ρ' 2 = .ptr (some (bx, 0)) → ρ' 3 = .ptr (some (bz, 0)) → ρ' 10 = .bool (decide (x.snap = y.snap)) → XO P E none 33 rest K ρ' h Q) : XO P E none 33 (a34_0 ++ rest) K ρ h Q := by
  simp (maxSteps := 2000000) only [GO,GO2,evK,fillV,setR,binV,intOp,strOp,shOp,unV,getR,lenV,partV,V.nj,V.njL,V.cells,Nat.reduceLT,Nat.reduceEqDiff,Nat.reduceAdd,↓reduceIte,Nat.reduceLeDiff,reduceCtorEq,a34_0,h2,h3,hx,hy,Part.len,Part.g0]
  exact hk _ h2 h3 (by first | rfl | (simp; done) | exact congrArg V.bool (beq_dec _ _))
theorem s34_1 {P : Program} {E : Env} {K : List Fr} {Q : Po} {x y : Part} {ρ : Nat → V} {h : H} {bx bz : Nat} {rest : List O} {b : Bool} (hx : h.get bx = some (.cells x.cells 47 false false none)) (hy : h.get bz = some (.cells y.cells 47 false false none)) (h2 : ρ 2 = .ptr (some (bx, 0))) (h3 : ρ 3 = .ptr (some (bz, 0))) (hg : ρ 10 = .bool b) (hk : ∀ (ρ' : Nat → V), ρ' 2 = .ptr (some (bx, 0)) → ρ' 3 = .ptr (some (bz, 0)) → ρ' 17 = .bool (b && decide (x.index = y.index)) → XO P E none 33 rest K ρ' h Q) : XO P E none 33 (a34_1 ++ rest) K ρ h Q := by
  cases b with
  | false =>
    simp (maxSteps := 2000000) only [GO,GO2,evK,fillV,setR,binV,intOp,strOp,shOp,unV,getR,lenV,partV,V.nj,V.njL,V.cells,Nat.reduceLT,Nat.reduceEqDiff,Nat.reduceAdd,↓reduceIte,Nat.reduceLeDiff,reduceCtorEq,a34_1,hg]
    exact hk _ h2 h3 rfl
  | true =>
    simp (maxSteps := 2000000) only [GO,GO2,evK,fillV,setR,binV,intOp,strOp,shOp,unV,getR,lenV,partV,V.nj,V.njL,V.cells,Nat.reduceLT,Nat.reduceEqDiff,Nat.reduceAdd,↓reduceIte,Nat.reduceLeDiff,reduceCtorEq,a34_1,hg,h2,h3,hx,hy,Part.len,Part.g1]
    exact hk _ h2 h3 (by first | rfl | (simp; done) | exact congrArg V.bool (beq_dec _ _))
theorem s34_2 {P : Program} {E : Env} {K : List Fr} {Q : Po} {x y : Part} {ρ : Nat → V} {h : H} {bx bz : Nat} {rest : List O} {b : Bool} (hx : h.get bx = some (.cells x.cells 47 false false none)) (hy : h.get bz = some (.cells y.cells 47 false false none)) (h2 : ρ 2 = .ptr (some (bx, 0))) (h3 : ρ 3 = .ptr (some (bz, 0))) (hg : ρ 17 = .bool b) (hk : ∀ (ρ' : Nat → V), ρ' 2 = .ptr (some (bx, 0)) → ρ' 3 = .ptr (some (bz, 0)) → ρ' 24 = .bool (b && decide (x.many = y.many)) → XO P E none 33 rest K ρ' h Q) : XO P E none 33 (a34_2 ++ rest) K ρ h Q := by
  cases b with
  | false =>
    simp (maxSteps := 2000000) only [GO,GO2,evK,fillV,setR,binV,intOp,strOp,shOp,unV,getR,lenV,partV,V.nj,V.njL,V.cells,Nat.reduceLT,Nat.reduceEqDiff,Nat.reduceAdd,↓reduceIte,Nat.reduceLeDiff,reduceCtorEq,a34_2,hg]
    exact hk _ h2 h3 rfl
  | true =>
    simp (maxSteps := 2000000) only [GO,GO2,evK,fillV,setR,binV,intOp,strOp,shOp,unV,getR,lenV,partV,V.nj,V.njL,V.cells,Nat.reduceLT,Nat.reduceEqDiff,Nat.reduceAdd,↓reduceIte,Nat.reduceLeDiff,reduceCtorEq,a34_2,hg,h2,h3,hx,hy,Part.len,Part.g2]
    exact hk _ h2 h3 (by first | rfl | (simp; done) | exact congrArg V.bool (beq_dec _ _))
theorem s34_3 {P : Program} {E : Env} {K : List Fr} {Q : Po} {x y : Part} {ρ : Nat → V} {h : H} {bx bz : Nat} {rest : List O} {b : Bool} (hx : h.get bx = some (.cells x.cells 47 false false none)) (hy : h.get bz = some (.cells y.cells 47 false false none)) (h2 : ρ 2 = .ptr (some (bx, 0))) (h3 : ρ 3 = .ptr (some (bz, 0))) (hg : ρ 24 = .bool b) {c : Bool} {s s' : List UInt8} (hs : Str h x.data s) (hs' : Str h y.data s') (hcc : (s == s') = c) (hk : ∀ (ρ' : Nat → V), ρ' 2 = .ptr (some (bx, 0)) → ρ' 3 = .ptr (some (bz, 0)) → ρ' 4 = .bool (b && c) → XO P E none 33 rest K ρ' h Q) : XO P E none 33 (a34_3 ++ rest) K ρ h Q := by
  cases b with
  | false =>
    simp (maxSteps := 2000000) only [GO,GO2,evK,fillV,setR,binV,intOp,strOp,shOp,unV,getR,lenV,partV,V.nj,V.njL,V.cells,Nat.reduceLT,Nat.reduceEqDiff,Nat.reduceAdd,↓reduceIte,Nat.reduceLeDiff,reduceCtorEq,a34_3,hg]
    exact hk _ h2 h3 rfl
  | true =>
    subst hcc
    rcases hs with ⟨cx, ox, wx, rfl⟩ | ⟨px, nx, cx, ox, csx, wx, w1, w2⟩ <;> rcases hs' with ⟨cy, oy, wy, rfl⟩ | ⟨py, ny, cy, oy, csy, wy, z1, z2⟩
    · simp (maxSteps := 2000000) only [GO,GO2,evK,fillV,setR,binV,intOp,strOp,shOp,unV,getR,lenV,partV,V.nj,V.njL,V.cells,Nat.reduceLT,Nat.reduceEqDiff,Nat.reduceAdd,↓reduceIte,Nat.reduceLeDiff,reduceCtorEq,a34_3,hg,h2,h3,hx,hy,Part.len,Part.g3,wx,wy,elems_none,Option.isNone_none,Option.isNone_some]
      exact hk _ h2 h3 (by first | rfl | (simp; done) | exact congrArg V.bool (beq_dec _ _))
    · simp (maxSteps := 2000000) only [GO,GO2,evK,fillV,setR,binV,intOp,strOp,shOp,unV,getR,lenV,partV,V.nj,V.njL,V.cells,Nat.reduceLT,Nat.reduceEqDiff,Nat.reduceAdd,↓reduceIte,Nat.reduceLeDiff,reduceCtorEq,a34_3,hg,h2,h3,hx,hy,Part.len,Part.g3,z1,z2,wx,wy,elems_none,Option.isNone_none,Option.isNone_some]
      exact hk _ h2 h3 (by first | rfl | (simp; done) | exact congrArg V.bool (beq_dec _ _))
    · simp (maxSteps := 2000000) only [GO,GO2,evK,fillV,setR,binV,intOp,strOp,shOp,unV,getR,lenV,partV,V.nj,V.njL,V.cells,Nat.reduceLT,Nat.reduceEqDiff,Nat.reduceAdd,↓reduceIte,Nat.reduceLeDiff,reduceCtorEq,a34_3,hg,h2,h3,hx,hy,Part.len,Part.g3,w1,w2,wx,wy,elems_none,Option.isNone_none,Option.isNone_some]
      exact hk _ h2 h3 (by first | rfl | (simp; done) | exact congrArg V.bool (beq_dec _ _))
    · simp (maxSteps := 2000000) only [GO,GO2,evK,fillV,setR,binV,intOp,strOp,shOp,unV,getR,lenV,partV,V.nj,V.njL,V.cells,Nat.reduceLT,Nat.reduceEqDiff,Nat.reduceAdd,↓reduceIte,Nat.reduceLeDiff,reduceCtorEq,a34_3,hg,h2,h3,hx,hy,Part.len,Part.g3,w1,w2,z1,z2,wx,wy,elems_none,Option.isNone_none,Option.isNone_some]
      exact hk _ h2 h3 (by first | rfl | (simp; done) | exact congrArg V.bool (beq_dec _ _))
set_option maxRecDepth 100000 in
theorem part34 (F : Fa E) {x y : Part} {h : H} {s s' : List UInt8} (hs : Str h x.data s) (hs' : Str h y.data s') :
    Sp P E (.func 34 [] []) [.agg x.cells, .agg y.cells] h fun r h' => r = .bool (decide (x.snap = y.snap ∧ x.index = y.index ∧ x.many = y.many ∧ s = s')) ∧ Kp h h' := by
  have hg0 := psh_same h (.cells x.cells 47 false false none)
  have hk0 : Kp h (h.psh (.cells x.cells 47 false false none)) := Keeps.psh (Nat.le_refl _) _
  have hk1 : Kp (h.psh (.cells x.cells 47 false false none)) ((h.psh (.cells x.cells 47 false false none)).psh (.cells y.cells 47 false false none)) := Keeps.psh (Nat.le_refl _) _
  have gy := psh_same (h.psh (.cells x.cells 47 false false none)) (.cells y.cells 47 false false none)
  have gx := Kp.of hk1 hg0
  have kk := Kp.trans hk0 hk1
  refine Sp_fn F.f34 F.p34 (by simp [fn34]) ?_
  simp (maxSteps := 2000000) only [GO,GO2,evK,fillV,setR,binV,intOp,strOp,shOp,unV,getR,lenV,partV,V.nj,V.njL,V.cells,Nat.reduceLT,Nat.reduceEqDiff,Nat.reduceAdd,↓reduceIte,Nat.reduceLeDiff,reduceCtorEq,fn34,c34,r34_0,e34_all]
  generalize (h.psh (.cells x.cells 47 false false none)).psh (.cells y.cells 47 false false none) = h2 at *
  generalize (h.psh (.cells x.cells 47 false false none)).size = B at *
  refine s34_0 gx gy rfl rfl fun ρ p q r => ?_
  refine s34_1 gx gy p q r fun ρ p q r => ?_
  refine s34_2 gx gy p q r fun ρ p q r => ?_
  rw [← List.append_nil a34_3]
  refine s34_3 gx gy p q r (hs.keep kk) (hs'.keep kk) rfl fun ρ p q r => ?_
  simp (maxSteps := 2000000) only [GO,GO2,evK,fillV,setR,binV,intOp,strOp,shOp,unV,getR,lenV,partV,V.nj,V.njL,V.cells,Nat.reduceLT,Nat.reduceEqDiff,Nat.reduceAdd,↓reduceIte,Nat.reduceLeDiff,reduceCtorEq,r]
  refine ⟨?_, kk⟩
  congr 1
  rw [Bool.eq_iff_iff]
  refine Iff.trans ?_ decide_eq_true_iff.symm
  simp only [Bool.and_eq_true, decide_eq_true_eq, beq_iff_eq]
  simp only [and_assoc]
def a61_0 : List O := [⟨some 5,.fadr 0 (.t 2),none,0,[5,2]⟩,⟨some 6,.load1 (.t 5),none,1,[6,5]⟩,⟨some 7,.fadr 0 (.t 3),none,0,[7,3]⟩,⟨some 8,.load1 (.t 7),none,4,[8,7]⟩,⟨some 9,.bin .eql (some .int) false (.t 6) (.t 8),none,15,[9,6,8]⟩,⟨some 10,.mv (.t 9),none,31,[10,9]⟩]
def a61_1 : List O := [⟨some 11,.fadr 1 (.t 2),some (10,true),63,[11,10,2]⟩,⟨some 12,.load1 (.t 11),some (10,true),127,[12,10,11]⟩,⟨some 13,.fadr 1 (.t 3),some (10,true),63,[13,10,3]⟩,⟨some 14,.load1 (.t 13),some (10,true),319,[14,10,13]⟩,⟨some 15,.bin .eql (some .int) false (.t 12) (.t 14),some (10,true),1023,[15,10,12,14]⟩,⟨some 16,.pick (.t 10) (.t 15) (.k (.bool false)),none,2047,[16,10,15]⟩,⟨some 17,.mv (.t 16),none,4095,[17,16]⟩]
def a61_2 : List O := [⟨some 18,.fadr 2 (.t 2),some (17,true),8191,[18,17,2]⟩,⟨some 19,.load1 (.t 18),some (17,true),16383,[19,17,18]⟩,⟨some 20,.fadr 2 (.t 3),some (17,true),8191,[20,17,3]⟩,⟨some 21,.load1 (.t 20),some (17,true),40959,[21,17,20]⟩,⟨some 22,.bin .eql (some .int) false (.t 19) (.t 21),some (17,true),131071,[22,17,19,21]⟩,⟨some 23,.pick (.t 17) (.t 22) (.k (.bool false)),none,262143,[23,17,22]⟩,⟨some 24,.mv (.t 23),none,524287,[24,23]⟩]
def a61_3 : List O := [⟨some 25,.fadr 3 (.t 2),some (24,true),1048575,[25,24,2]⟩,⟨some 26,.load1 (.t 25),some (24,true),2097151,[26,24,25]⟩,⟨some 27,.b2s (.t 26),some (24,true),4194303,[27,24,26]⟩,⟨some 28,.fadr 3 (.t 3),some (24,true),1048575,[28,24,3]⟩,⟨some 29,.load1 (.t 28),some (24,true),9437183,[29,24,28]⟩,⟨some 30,.b2s (.t 29),some (24,true),26214399,[30,24,29]⟩,⟨some 31,.bin .eql (some .str) false (.t 27) (.t 30),some (24,true),67108863,[31,24,27,30]⟩,⟨some 32,.pick (.t 24) (.t 31) (.k (.bool false)),none,134217727,[32,24,31]⟩,⟨some 4,.mv (.t 32),none,268435455,[4,32]⟩]
set_option maxRecDepth 100000 in
theorem e61_all : r61_1 = a61_0 ++ (a61_1 ++ (a61_2 ++ (a61_3))) := rfl
theorem s61_0 {P : Program} {E : Env} {K : List Fr} {Q : Po} {x y : Part} {ρ : Nat → V} {h : H} {bx bz : Nat} {rest : List O} (hx : h.get bx = some (.cells x.cells 47 false false none)) (hy : h.get bz = some (.cells y.cells 47 false false none)) (h2 : ρ 2 = .ptr (some (bx, 0))) (h3 : ρ 3 = .ptr (some (bz, 0))) (hk : ∀ (ρ' : Nat → V), ρ' 2 = .ptr (some (bx, 0)) → ρ' 3 = .ptr (some (bz, 0)) → ρ' 10 = .bool (decide (x.snap = y.snap)) → XO P E none 33 rest K ρ' h Q) : XO P E none 33 (a61_0 ++ rest) K ρ h Q := by
  simp (maxSteps := 2000000) only [GO,GO2,evK,fillV,setR,binV,intOp,strOp,shOp,unV,getR,lenV,partV,V.nj,V.njL,V.cells,Nat.reduceLT,Nat.reduceEqDiff,Nat.reduceAdd,↓reduceIte,Nat.reduceLeDiff,reduceCtorEq,a61_0,h2,h3,hx,hy,Part.len,Part.g0]
  exact hk _ h2 h3 (by first | rfl | (simp; done) | exact congrArg V.bool (beq_dec _ _))
theorem s61_1 {P : Program} {E : Env} {K : List Fr} {Q : Po} {x y : Part} {ρ : Nat → V} {h : H} {bx bz : Nat} {rest : List O} {b : Bool} (hx : h.get bx = some (.cells x.cells 47 false false none)) (hy : h.get bz = some (.cells y.cells 47 false false none)) (h2 : ρ 2 = .ptr (some (bx, 0))) (h3 : ρ 3 = .ptr (some (bz, 0))) (hg : ρ 10 = .bool b) (hk : ∀ (ρ' : Nat → V), ρ' 2 = .ptr (some (bx, 0)) → ρ' 3 = .ptr (some (bz, 0)) → ρ' 17 = .bool (b && decide (x.index = y.index)) → XO P E none 33 rest K ρ' h Q) : XO P E none 33 (a61_1 ++ rest) K ρ h Q := by
  cases b with
  | false =>
    simp (maxSteps := 2000000) only [GO,GO2,evK,fillV,setR,binV,intOp,strOp,shOp,unV,getR,lenV,partV,V.nj,V.njL,V.cells,Nat.reduceLT,Nat.reduceEqDiff,Nat.reduceAdd,↓reduceIte,Nat.reduceLeDiff,reduceCtorEq,a61_1,hg]
    exact hk _ h2 h3 rfl
  | true =>
    simp (maxSteps := 2000000) only [GO,GO2,evK,fillV,setR,binV,intOp,strOp,shOp,unV,getR,lenV,partV,V.nj,V.njL,V.cells,Nat.reduceLT,Nat.reduceEqDiff,Nat.reduceAdd,↓reduceIte,Nat.reduceLeDiff,reduceCtorEq,a61_1,hg,h2,h3,hx,hy,Part.len,Part.g1]
    exact hk _ h2 h3 (by first | rfl | (simp; done) | exact congrArg V.bool (beq_dec _ _))
theorem s61_2 {P : Program} {E : Env} {K : List Fr} {Q : Po} {x y : Part} {ρ : Nat → V} {h : H} {bx bz : Nat} {rest : List O} {b : Bool} (hx : h.get bx = some (.cells x.cells 47 false false none)) (hy : h.get bz = some (.cells y.cells 47 false false none)) (h2 : ρ 2 = .ptr (some (bx, 0))) (h3 : ρ 3 = .ptr (some (bz, 0))) (hg : ρ 17 = .bool b) (hk : ∀ (ρ' : Nat → V), ρ' 2 = .ptr (some (bx, 0)) → ρ' 3 = .ptr (some (bz, 0)) → ρ' 24 = .bool (b && decide (x.many = y.many)) → XO P E none 33 rest K ρ' h Q) : XO P E none 33 (a61_2 ++ rest) K ρ h Q := by
  cases b with
  | false =>
    simp (maxSteps := 2000000) only [GO,GO2,evK,fillV,setR,binV,intOp,strOp,shOp,unV,getR,lenV,partV,V.nj,V.njL,V.cells,Nat.reduceLT,Nat.reduceEqDiff,Nat.reduceAdd,↓reduceIte,Nat.reduceLeDiff,reduceCtorEq,a61_2,hg]
    exact hk _ h2 h3 rfl
  | true =>
    simp (maxSteps := 2000000) only [GO,GO2,evK,fillV,setR,binV,intOp,strOp,shOp,unV,getR,lenV,partV,V.nj,V.njL,V.cells,Nat.reduceLT,Nat.reduceEqDiff,Nat.reduceAdd,↓reduceIte,Nat.reduceLeDiff,reduceCtorEq,a61_2,hg,h2,h3,hx,hy,Part.len,Part.g2]
    exact hk _ h2 h3 (by first | rfl | (simp; done) | exact congrArg V.bool (beq_dec _ _))
theorem s61_3 {P : Program} {E : Env} {K : List Fr} {Q : Po} {x y : Part} {ρ : Nat → V} {h : H} {bx bz : Nat} {rest : List O} {b : Bool} (hx : h.get bx = some (.cells x.cells 47 false false none)) (hy : h.get bz = some (.cells y.cells 47 false false none)) (h2 : ρ 2 = .ptr (some (bx, 0))) (h3 : ρ 3 = .ptr (some (bz, 0))) (hg : ρ 24 = .bool b) {c : Bool} {s s' : List UInt8} (hs : Str h x.data s) (hs' : Str h y.data s') (hcc : (s == s') = c) (hk : ∀ (ρ' : Nat → V), ρ' 2 = .ptr (some (bx, 0)) → ρ' 3 = .ptr (some (bz, 0)) → ρ' 4 = .bool (b && c) → XO P E none 33 rest K ρ' h Q) : XO P E none 33 (a61_3 ++ rest) K ρ h Q := by
  cases b with
  | false =>
    simp (maxSteps := 2000000) only [GO,GO2,evK,fillV,setR,binV,intOp,strOp,shOp,unV,getR,lenV,partV,V.nj,V.njL,V.cells,Nat.reduceLT,Nat.reduceEqDiff,Nat.reduceAdd,↓reduceIte,Nat.reduceLeDiff,reduceCtorEq,a61_3,hg]
    exact hk _ h2 h3 rfl
  | true =>
    subst hcc
    rcases hs with ⟨cx, ox, wx, rfl⟩ | ⟨px, nx, cx, ox, csx, wx, w1, w2⟩ <;> rcases hs' with ⟨cy, oy, wy, rfl⟩ | ⟨py, ny, cy, oy, csy, wy, z1, z2⟩
    · simp (maxSteps := 2000000) only [GO,GO2,evK,fillV,setR,binV,intOp,strOp,shOp,unV,getR,lenV,partV,V.nj,V.njL,V.cells,Nat.reduceLT,Nat.reduceEqDiff,Nat.reduceAdd,↓reduceIte,Nat.reduceLeDiff,reduceCtorEq,a61_3,hg,h2,h3,hx,hy,Part.len,Part.g3,wx,wy,elems_none,Option.isNone_none,Option.isNone_some]
      exact hk _ h2 h3 (by first | rfl | (simp; done) | exact congrArg V.bool (beq_dec _ _))
    · simp (maxSteps := 2000000) only [GO,GO2,evK,fillV,setR,binV,intOp,strOp,shOp,unV,getR,lenV,partV,V.nj,V.njL,V.cells,Nat.reduceLT,Nat.reduceEqDiff,Nat.reduceAdd,↓reduceIte,Nat.reduceLeDiff,reduceCtorEq,a61_3,hg,h2,h3,hx,hy,Part.len,Part.g3,z1,z2,wx,wy,elems_none,Option.isNone_none,Option.isNone_some]
      exact hk _ h2 h3 (by first | rfl | (simp; done) | exact congrArg V.bool (beq_dec _ _))
    · simp (maxSteps := 2000000) only [GO,GO2,evK,fillV,setR,binV,intOp,strOp,shOp,unV,getR,lenV,partV,V.nj,V.njL,V.cells,Nat.reduceLT,Nat.reduceEqDiff,Nat.reduceAdd,↓reduceIte,Nat.reduceLeDiff,reduceCtorEq,a61_3,hg,h2,h3,hx,hy,Part.len,Part.g3,w1,w2,wx,wy,elems_none,Option.isNone_none,Option.isNone_some]
      exact hk _ h2 h3 (by first | rfl | (simp; done) | exact congrArg V.bool (beq_dec _ _))
    · simp (maxSteps := 2000000) only [GO,GO2,evK,fillV,setR,binV,intOp,strOp,shOp,unV,getR,lenV,partV,V.nj,V.njL,V.cells,Nat.reduceLT,Nat.reduceEqDiff,Nat.reduceAdd,↓reduceIte,Nat.reduceLeDiff,reduceCtorEq,a61_3,hg,h2,h3,hx,hy,Part.len,Part.g3,w1,w2,z1,z2,wx,wy,elems_none,Option.isNone_none,Option.isNone_some]
      exact hk _ h2 h3 (by first | rfl | (simp; done) | exact congrArg V.bool (beq_dec _ _))
set_option maxRecDepth 100000 in
theorem part61 (F : Fa E) {x y : Part} {h : H} {s s' : List UInt8} (hs : Str h x.data s) (hs' : Str h y.data s') :
    Sp P E (.func 61 [] []) [.agg x.cells, .agg y.cells] h fun r h' => r = .bool (decide (x.snap = y.snap ∧ x.index = y.index ∧ x.many = y.many ∧ s = s')) ∧ Kp h h' := by
  have hg0 := psh_same h (.cells x.cells 47 false false none)
  have hk0 : Kp h (h.psh (.cells x.cells 47 false false none)) := Keeps.psh (Nat.le_refl _) _
  have hk1 : Kp (h.psh (.cells x.cells 47 false false none)) ((h.psh (.cells x.cells 47 false false none)).psh (.cells y.cells 47 false false none)) := Keeps.psh (Nat.le_refl _) _
  have gy := psh_same (h.psh (.cells x.cells 47 false false none)) (.cells y.cells 47 false false none)
  have gx := Kp.of hk1 hg0
  have kk := Kp.trans hk0 hk1
  refine Sp_fn F.f61 F.p61 (by simp [fn61]) ?_
  simp (maxSteps := 2000000) only [GO,GO2,evK,fillV,setR,binV,intOp,strOp,shOp,unV,getR,lenV,partV,V.nj,V.njL,V.cells,Nat.reduceLT,Nat.reduceEqDiff,Nat.reduceAdd,↓reduceIte,Nat.reduceLeDiff,reduceCtorEq,fn61,c61,r61_0,e61_all]
  generalize (h.psh (.cells x.cells 47 false false none)).psh (.cells y.cells 47 false false none) = h2 at *
  generalize (h.psh (.cells x.cells 47 false false none)).size = B at *
  refine s61_0 gx gy rfl rfl fun ρ p q r => ?_
  refine s61_1 gx gy p q r fun ρ p q r => ?_
  refine s61_2 gx gy p q r fun ρ p q r => ?_
  rw [← List.append_nil a61_3]
  refine s61_3 gx gy p q r (hs.keep kk) (hs'.keep kk) rfl fun ρ p q r => ?_
  simp (maxSteps := 2000000) only [GO,GO2,evK,fillV,setR,binV,intOp,strOp,shOp,unV,getR,lenV,partV,V.nj,V.njL,V.cells,Nat.reduceLT,Nat.reduceEqDiff,Nat.reduceAdd,↓reduceIte,Nat.reduceLeDiff,reduceCtorEq,r]
  refine ⟨?_, kk⟩
  congr 1
  rw [Bool.eq_iff_iff]
  refine Iff.trans ?_ decide_eq_true_iff.symm
  simp only [Bool.and_eq_true, decide_eq_true_eq, beq_iff_eq]
  simp only [and_assoc]

theorem dent_iff {x y : Entry} {d d' : DEnt} (hx : flatOf x = d.flat) (hy : flatOf y = d'.flat) : d = d' ↔ flatOf x = flatOf y ∧ d.ops = d'.ops ∧ d.data = d'.data := by
  cases d; cases d'
  simp only at hx hy
  subst hx hy
  simp only [DEnt.mk.injEq]
def a11_0 : List O := [⟨some 5,.fadr 0 (.t 2),none,0,[5,2]⟩,⟨some 6,.load1 (.t 5),none,1,[6,5]⟩,⟨some 7,.fadr 0 (.t 3),none,0,[7,3]⟩,⟨some 8,.load1 (.t 7),none,4,[8,7]⟩,⟨some 9,.bin .eql (some .int) false (.t 6) (.t 8),none,15,[9,6,8]⟩,⟨some 10,.mv (.t 9),none,31,[10,9]⟩]
def a11_1 : List O := [⟨some 11,.fadr 1 (.t 2),some (10,true),63,[11,10,2]⟩,⟨some 12,.load1 (.t 11),some (10,true),127,[12,10,11]⟩,⟨some 13,.fadr 1 (.t 3),some (10,true),63,[13,10,3]⟩,⟨some 14,.load1 (.t 13),some (10,true),319,[14,10,13]⟩,⟨some 15,.bin .eql (some .int) false (.t 12) (.t 14),some (10,true),1023,[15,10,12,14]⟩,⟨some 16,.pick (.t 10) (.t 15) (.k (.bool false)),none,2047,[16,10,15]⟩,⟨some 17,.mv (.t 16),none,4095,[17,16]⟩]
def a11_2 : List O := [⟨some 18,.fadr 2 (.t 2),some (17,true),8191,[18,17,2]⟩,⟨some 19,.load1 (.t 18),some (17,true),16383,[19,17,18]⟩,⟨some 20,.fadr 2 (.t 3),some (17,true),8191,[20,17,3]⟩,⟨some 21,.load1 (.t 20),some (17,true),40959,[21,17,20]⟩,⟨some 22,.bin .eql (some .int) false (.t 19) (.t 21),some (17,true),131071,[22,17,19,21]⟩,⟨some 23,.pick (.t 17) (.t 22) (.k (.bool false)),none,262143,[23,17,22]⟩,⟨some 24,.mv (.t 23),none,524287,[24,23]⟩]
def a11_3 : List O := [⟨some 25,.fadr 3 (.t 2),some (24,true),1048575,[25,24,2]⟩,⟨some 26,.loadN 8 (.t 25),some (24,true),2097151,[26,24,25]⟩,⟨some 27,.fadr 3 (.t 3),some (24,true),1048575,[27,24,3]⟩,⟨some 28,.loadN 8 (.t 27),some (24,true),5242879,[28,24,27]⟩,⟨some 29,.bin .eql (some (.fcons 0 2 true (.fcons 0 1 false .int (.fcons 1 1 false .int .fnil)) (.fcons 2 1 false .int (.fcons 3 1 false .int (.fcons 4 1 false .int (.fcons 5 1 false .str (.fcons 6 1 false .str (.fcons 7 1 false .str .fnil)))))))) false (.t 26) (.t 28),some (24,true),16777215,[29,24,26,28]⟩,⟨some 30,.pick (.t 24) (.t 29) (.k (.bool false)),none,33554431,[30,24,29]⟩,⟨some 31,.mv (.t 30),none,67108863,[31,30]⟩]
def a11_4 : List O := [⟨some 32,.fadr 11 (.t 2),some (31,true),134217727,[32,31,2]⟩,⟨some 33,.load1 (.t 32),some (31,true),268435455,[33,31,32]⟩,⟨some 34,.fadr 11 (.t 3),some (31,true),134217727,[34,31,3]⟩,⟨some 35,.load1 (.t 34),some (31,true),671088639,[35,31,34]⟩,⟨some 36,.bin .eql (some .int) false (.t 33) (.t 35),some (31,true),2147483647,[36,31,33,35]⟩,⟨some 37,.pick (.t 31) (.t 36) (.k (.bool false)),none,4294967295,[37,31,36]⟩,⟨some 38,.mv (.t 37),none,8589934591,[38,37]⟩]
def a11_5 : List O := [⟨some 39,.fadr 12 (.t 2),some (38,true),17179869183,[39,38,2]⟩,⟨some 40,.load1 (.t 39),some (38,true),34359738367,[40,38,39]⟩,⟨some 41,.fadr 12 (.t 3),some (38,true),17179869183,[41,38,3]⟩,⟨some 42,.load1 (.t 41),some (38,true),85899345919,[42,38,41]⟩,⟨some 43,.bin .eql (some .int) false (.t 40) (.t 42),some (38,true),274877906943,[43,38,40,42]⟩,⟨some 44,.pick (.t 38) (.t 43) (.k (.bool false)),none,549755813887,[44,38,43]⟩,⟨some 45,.mv (.t 44),none,1099511627775,[45,44]⟩]
def a11_6 : List O := [⟨some 46,.fadr 13 (.t 2),some (45,true),2199023255551,[46,45,2]⟩,⟨some 47,.load1 (.t 46),some (45,true),4398046511103,[47,45,46]⟩,⟨some 48,.fadr 13 (.t 3),some (45,true),2199023255551,[48,45,3]⟩,⟨some 49,.load1 (.t 48),some (45,true),10995116277759,[49,45,48]⟩,⟨some 50,.call (.k (.func 33 [] [])) [(.t 47),(.t 49)],some (45,true),35184372088831,[50,45,47,49]⟩,⟨some 51,.pick (.t 45) (.t 50) (.k (.bool false)),none,70368744177663,[51,45,50]⟩,⟨some 52,.mv (.t 51),none,140737488355327,[52,51]⟩]
def a11_7 : List O := [⟨some 53,.fadr 14 (.t 2),some (52,true),281474976710655,[53,52,2]⟩,⟨some 54,.loadN 25 (.t 53),some (52,true),562949953421311,[54,52,53]⟩,⟨some 55,.fadr 14 (.t 3),some (52,true),281474976710655,[55,52,3]⟩,⟨some 56,.loadN 25 (.t 55),some (52,true),1407374883553279,[56,52,55]⟩,⟨some 57,.bin .eql (some (.fcons 0 1 false .int (.fcons 1 8 true (.ar 8 1 false .int) (.fcons 9 8 true (.ar 8 1 false .int) (.fcons 17 8 true (.ar 8 1 false .int) .fnil))))) false (.t 54) (.t 56),some (52,true),4503599627370495,[57,52,54,56]⟩,⟨some 58,.pick (.t 52) (.t 57) (.k (.bool false)),none,9007199254740991,[58,52,57]⟩,⟨some 59,.mv (.t 58),none,18014398509481983,[59,58]⟩]
def a11_8 : List O := [⟨some 60,.fadr 39 (.t 2),some (59,true),36028797018963967,[60,59,2]⟩,⟨some 61,.load1 (.t 60),some (59,true),72057594037927935,[61,59,60]⟩,⟨some 62,.fadr 39 (.t 3),some (59,true),36028797018963967,[62,59,3]⟩,⟨some 63,.load1 (.t 62),some (59,true),180143985094819839,[63,59,62]⟩,⟨some 64,.bin .eql (some .int) false (.t 61) (.t 63),some (59,true),576460752303423487,[64,59,61,63]⟩,⟨some 65,.pick (.t 59) (.t 64) (.k (.bool false)),none,1152921504606846975,[65,59,64]⟩,⟨some 66,.mv (.t 65),none,2305843009213693951,[66,65]⟩]
def a11_9 : List O := [⟨some 67,.fadr 40 (.t 2),some (66,true),4611686018427387903,[67,66,2]⟩,⟨some 68,.loadN 8 (.t 67),some (66,true),9223372036854775807,[68,66,67]⟩,⟨some 69,.fadr 40 (.t 3),some (66,true),4611686018427387903,[69,66,3]⟩,⟨some 70,.loadN 8 (.t 69),some (66,true),23058430092136939519,[70,66,69]⟩,⟨some 71,.bin .eql (some (.ar 8 1 false .int)) false (.t 68) (.t 70),some (66,true),73786976294838206463,[71,66,68,70]⟩,⟨some 72,.pick (.t 66) (.t 71) (.k (.bool false)),none,147573952589676412927,[72,66,71]⟩,⟨some 73,.mv (.t 72),none,295147905179352825855,[73,72]⟩]
def a11_10 : List O := [⟨some 74,.fadr 48 (.t 2),some (73,true),590295810358705651711,[74,73,2]⟩,⟨some 75,.load1 (.t 74),some (73,true),1180591620717411303423,[75,73,74]⟩,⟨some 76,.fadr 48 (.t 3),some (73,true),590295810358705651711,[76,73,3]⟩,⟨some 77,.load1 (.t 76),some (73,true),2951479051793528258559,[77,73,76]⟩,⟨some 78,.bin .eql (some .int) false (.t 75) (.t 77),some (73,true),9444732965739290427391,[78,73,75,77]⟩,⟨some 79,.pick (.t 73) (.t 78) (.k (.bool false)),none,18889465931478580854783,[79,73,78]⟩,⟨some 80,.mv (.t 79),none,37778931862957161709567,[80,79]⟩]
def a11_11 : List O := [⟨some 81,.fadr 49 (.t 2),some (80,true),75557863725914323419135,[81,80,2]⟩,⟨some 82,.loadN 4 (.t 81),some (80,true),151115727451828646838271,[82,80,81]⟩,⟨some 83,.fadr 49 (.t 3),some (80,true),75557863725914323419135,[83,80,3]⟩,⟨some 84,.loadN 4 (.t 83),some (80,true),377789318629571617095679,[84,80,83]⟩,⟨some 85,.call (.k (.func 34 [] [])) [(.t 82),(.t 84)],some (80,true),1208925819614629174706175,[85,80,82,84]⟩,⟨some 86,.pick (.t 80) (.t 85) (.k (.bool false)),none,2417851639229258349412351,[86,80,85]⟩,⟨some 87,.mv (.t 86),none,4835703278458516698824703,[87,86]⟩]
def a11_12 : List O := [⟨some 88,.fadr 53 (.t 2),some (87,true),9671406556917033397649407,[88,87,2]⟩,⟨some 89,.load1 (.t 88),some (87,true),19342813113834066795298815,[89,87,88]⟩,⟨some 90,.fadr 53 (.t 3),some (87,true),9671406556917033397649407,[90,87,3]⟩,⟨some 91,.load1 (.t 90),some (87,true),48357032784585166988247039,[91,87,90]⟩,⟨some 92,.bin .eql (some .int) false (.t 89) (.t 91),some (87,true),154742504910672534362390527,[92,87,89,91]⟩,⟨some 93,.pick (.t 87) (.t 92) (.k (.bool false)),none,309485009821345068724781055,[93,87,92]⟩,⟨some 94,.mv (.t 93),none,618970019642690137449562111,[94,93]⟩]
def a11_13 : List O := [⟨some 95,.fadr 54 (.t 2),some (94,true),1237940039285380274899124223,[95,94,2]⟩,⟨some 96,.load1 (.t 95),some (94,true),2475880078570760549798248447,[96,94,95]⟩,⟨some 97,.fadr 54 (.t 3),some (94,true),1237940039285380274899124223,[97,94,3]⟩,⟨some 98,.load1 (.t 97),some (94,true),6189700196426901374495621119,[98,94,97]⟩,⟨some 99,.bin .eql (some .int) false (.t 96) (.t 98),some (94,true),19807040628566084398385987583,[99,94,96,98]⟩,⟨some 100,.pick (.t 94) (.t 99) (.k (.bool false)),none,39614081257132168796771975167,[100,94,99]⟩,⟨some 101,.mv (.t 100),none,79228162514264337593543950335,[101,100]⟩]
def a11_14 : List O := [⟨some 102,.fadr 55 (.t 2),some (101,true),158456325028528675187087900671,[102,101,2]⟩,⟨some 103,.load1 (.t 102),some (101,true),316912650057057350374175801343,[103,101,102]⟩,⟨some 104,.fadr 55 (.t 3),some (101,true),158456325028528675187087900671,[104,101,3]⟩,⟨some 105,.load1 (.t 104),some (101,true),792281625142643375935439503359,[105,101,104]⟩,⟨some 106,.bin .eql (some .int) false (.t 103) (.t 105),some (101,true),2535301200456458802993406410751,[106,101,103,105]⟩,⟨some 107,.pick (.t 101) (.t 106) (.k (.bool false)),none,5070602400912917605986812821503,[107,101,106]⟩,⟨some 4,.mv (.t 107),none,10141204801825835211973625643007,[4,107]⟩]
set_option maxRecDepth 100000 in
theorem e11_all : r11_1 = a11_0 ++ (a11_1 ++ (a11_2 ++ (a11_3 ++ (a11_4 ++ (a11_5 ++ (a11_6 ++ (a11_7 ++ (a11_8 ++ (a11_9 ++ (a11_10 ++ (a11_11 ++ (a11_12 ++ (a11_13 ++ (a11_14)))))))))))))) := rfl
theorem s11_0 {P : Program} {E : Env} {K : List Fr} {Q : Po} {x y : Entry} {ρ : Nat → V} {h : H} {bx bz : Nat} {rest : List O} (hx : h.get bx = some (.cells x.cells 49 false false none)) (hy : h.get bz = some (.cells y.cells 49 false false none)) (h2 : ρ 2 = .ptr (some (bx, 0))) (h3 : ρ 3 = .ptr (some (bz, 0))) (hk : ∀ (ρ' : Nat → V), ρ' 2 = .ptr (some (bx, 0)) → ρ' 3 = .ptr (some (bz, 0)) → ρ' 10 = .bool (decide (x.kind = y.kind)) → XO P E none 108 rest K ρ' h Q) : XO P E none 108 (a11_0 ++ rest) K ρ h Q := by
  simp (maxSteps := 2000000) only [GO,GO2,evK,fillV,setR,binV,intOp,strOp,shOp,unV,getR,lenV,partV,V.nj,V.njL,V.cells,Nat.reduceLT,Nat.reduceEqDiff,Nat.reduceAdd,↓reduceIte,Nat.reduceLeDiff,reduceCtorEq,a11_0,h2,h3,hx,hy,Entry.len,Entry.g0]
  exact hk _ h2 h3 (by first | rfl | (simp; done) | exact congrArg V.bool (beq_dec _ _))
theorem s11_1 {P : Program} {E : Env} {K : List Fr} {Q : Po} {x y : Entry} {ρ : Nat → V} {h : H} {bx bz : Nat} {rest : List O} {b : Bool} (hx : h.get bx = some (.cells x.cells 49 false false none)) (hy : h.get bz = some (.cells y.cells 49 false false none)) (h2 : ρ 2 = .ptr (some (bx, 0))) (h3 : ρ 3 = .ptr (some (bz, 0))) (hg : ρ 10 = .bool b) (hk : ∀ (ρ' : Nat → V), ρ' 2 = .ptr (some (bx, 0)) → ρ' 3 = .ptr (some (bz, 0)) → ρ' 17 = .bool (b && decide (x.session = y.session)) → XO P E none 108 rest K ρ' h Q) : XO P E none 108 (a11_1 ++ rest) K ρ h Q := by
  cases b with
  | false =>
    simp (maxSteps := 2000000) only [GO,GO2,evK,fillV,setR,binV,intOp,strOp,shOp,unV,getR,lenV,partV,V.nj,V.njL,V.cells,Nat.reduceLT,Nat.reduceEqDiff,Nat.reduceAdd,↓reduceIte,Nat.reduceLeDiff,reduceCtorEq,a11_1,hg]
    exact hk _ h2 h3 rfl
  | true =>
    simp (maxSteps := 2000000) only [GO,GO2,evK,fillV,setR,binV,intOp,strOp,shOp,unV,getR,lenV,partV,V.nj,V.njL,V.cells,Nat.reduceLT,Nat.reduceEqDiff,Nat.reduceAdd,↓reduceIte,Nat.reduceLeDiff,reduceCtorEq,a11_1,hg,h2,h3,hx,hy,Entry.len,Entry.g1]
    exact hk _ h2 h3 (by first | rfl | (simp; done) | exact congrArg V.bool (beq_dec _ _))
theorem s11_2 {P : Program} {E : Env} {K : List Fr} {Q : Po} {x y : Entry} {ρ : Nat → V} {h : H} {bx bz : Nat} {rest : List O} {b : Bool} (hx : h.get bx = some (.cells x.cells 49 false false none)) (hy : h.get bz = some (.cells y.cells 49 false false none)) (h2 : ρ 2 = .ptr (some (bx, 0))) (h3 : ρ 3 = .ptr (some (bz, 0))) (hg : ρ 17 = .bool b) (hk : ∀ (ρ' : Nat → V), ρ' 2 = .ptr (some (bx, 0)) → ρ' 3 = .ptr (some (bz, 0)) → ρ' 24 = .bool (b && decide (x.request = y.request)) → XO P E none 108 rest K ρ' h Q) : XO P E none 108 (a11_2 ++ rest) K ρ h Q := by
  cases b with
  | false =>
    simp (maxSteps := 2000000) only [GO,GO2,evK,fillV,setR,binV,intOp,strOp,shOp,unV,getR,lenV,partV,V.nj,V.njL,V.cells,Nat.reduceLT,Nat.reduceEqDiff,Nat.reduceAdd,↓reduceIte,Nat.reduceLeDiff,reduceCtorEq,a11_2,hg]
    exact hk _ h2 h3 rfl
  | true =>
    simp (maxSteps := 2000000) only [GO,GO2,evK,fillV,setR,binV,intOp,strOp,shOp,unV,getR,lenV,partV,V.nj,V.njL,V.cells,Nat.reduceLT,Nat.reduceEqDiff,Nat.reduceAdd,↓reduceIte,Nat.reduceLeDiff,reduceCtorEq,a11_2,hg,h2,h3,hx,hy,Entry.len,Entry.g2]
    exact hk _ h2 h3 (by first | rfl | (simp; done) | exact congrArg V.bool (beq_dec _ _))
theorem s11_3 {P : Program} {E : Env} {K : List Fr} {Q : Po} {x y : Entry} {ρ : Nat → V} {h : H} {bx bz : Nat} {rest : List O} {b : Bool} (hx : h.get bx = some (.cells x.cells 49 false false none)) (hy : h.get bz = some (.cells y.cells 49 false false none)) (h2 : ρ 2 = .ptr (some (bx, 0))) (h3 : ρ 3 = .ptr (some (bz, 0))) (hg : ρ 24 = .bool b) (hk : ∀ (ρ' : Nat → V), ρ' 2 = .ptr (some (bx, 0)) → ρ' 3 = .ptr (some (bz, 0)) → ρ' 31 = .bool (b && decide (x.op = y.op)) → XO P E none 108 rest K ρ' h Q) : XO P E none 108 (a11_3 ++ rest) K ρ h Q := by
  have hpart : ∀ z : Entry, List.take 8 (List.drop 3 z.cells) = z.op.cells := fun _ => rfl
  have heq := Opr.eqv h x.op y.op
  cases b with
  | false =>
    simp (maxSteps := 2000000) only [GO,GO2,evK,fillV,setR,binV,intOp,strOp,shOp,unV,getR,lenV,partV,V.nj,V.njL,V.cells,Nat.reduceLT,Nat.reduceEqDiff,Nat.reduceAdd,↓reduceIte,Nat.reduceLeDiff,reduceCtorEq,a11_3,hg]
    exact hk _ h2 h3 rfl
  | true =>
    simp (maxSteps := 2000000) only [GO,GO2,evK,fillV,setR,binV,intOp,strOp,shOp,unV,getR,lenV,partV,V.nj,V.njL,V.cells,Nat.reduceLT,Nat.reduceEqDiff,Nat.reduceAdd,↓reduceIte,Nat.reduceLeDiff,reduceCtorEq,a11_3,hg,h2,h3,hx,hy,Entry.len,hpart,heq]
    exact hk _ h2 h3 (by first | rfl | (simp; done) | exact congrArg V.bool (beq_dec _ _))
theorem s11_4 {P : Program} {E : Env} {K : List Fr} {Q : Po} {x y : Entry} {ρ : Nat → V} {h : H} {bx bz : Nat} {rest : List O} {b : Bool} (hx : h.get bx = some (.cells x.cells 49 false false none)) (hy : h.get bz = some (.cells y.cells 49 false false none)) (h2 : ρ 2 = .ptr (some (bx, 0))) (h3 : ρ 3 = .ptr (some (bz, 0))) (hg : ρ 31 = .bool b) (hk : ∀ (ρ' : Nat → V), ρ' 2 = .ptr (some (bx, 0)) → ρ' 3 = .ptr (some (bz, 0)) → ρ' 38 = .bool (b && decide (x.origin = y.origin)) → XO P E none 108 rest K ρ' h Q) : XO P E none 108 (a11_4 ++ rest) K ρ h Q := by
  cases b with
  | false =>
    simp (maxSteps := 2000000) only [GO,GO2,evK,fillV,setR,binV,intOp,strOp,shOp,unV,getR,lenV,partV,V.nj,V.njL,V.cells,Nat.reduceLT,Nat.reduceEqDiff,Nat.reduceAdd,↓reduceIte,Nat.reduceLeDiff,reduceCtorEq,a11_4,hg]
    exact hk _ h2 h3 rfl
  | true =>
    simp (maxSteps := 2000000) only [GO,GO2,evK,fillV,setR,binV,intOp,strOp,shOp,unV,getR,lenV,partV,V.nj,V.njL,V.cells,Nat.reduceLT,Nat.reduceEqDiff,Nat.reduceAdd,↓reduceIte,Nat.reduceLeDiff,reduceCtorEq,a11_4,hg,h2,h3,hx,hy,Entry.len,Entry.g11]
    exact hk _ h2 h3 (by first | rfl | (simp; done) | exact congrArg V.bool (beq_dec _ _))
theorem s11_5 {P : Program} {E : Env} {K : List Fr} {Q : Po} {x y : Entry} {ρ : Nat → V} {h : H} {bx bz : Nat} {rest : List O} {b : Bool} (hx : h.get bx = some (.cells x.cells 49 false false none)) (hy : h.get bz = some (.cells y.cells 49 false false none)) (h2 : ρ 2 = .ptr (some (bx, 0))) (h3 : ρ 3 = .ptr (some (bz, 0))) (hg : ρ 38 = .bool b) (hk : ∀ (ρ' : Nat → V), ρ' 2 = .ptr (some (bx, 0)) → ρ' 3 = .ptr (some (bz, 0)) → ρ' 45 = .bool (b && decide (x.seq = y.seq)) → XO P E none 108 rest K ρ' h Q) : XO P E none 108 (a11_5 ++ rest) K ρ h Q := by
  cases b with
  | false =>
    simp (maxSteps := 2000000) only [GO,GO2,evK,fillV,setR,binV,intOp,strOp,shOp,unV,getR,lenV,partV,V.nj,V.njL,V.cells,Nat.reduceLT,Nat.reduceEqDiff,Nat.reduceAdd,↓reduceIte,Nat.reduceLeDiff,reduceCtorEq,a11_5,hg]
    exact hk _ h2 h3 rfl
  | true =>
    simp (maxSteps := 2000000) only [GO,GO2,evK,fillV,setR,binV,intOp,strOp,shOp,unV,getR,lenV,partV,V.nj,V.njL,V.cells,Nat.reduceLT,Nat.reduceEqDiff,Nat.reduceAdd,↓reduceIte,Nat.reduceLeDiff,reduceCtorEq,a11_5,hg,h2,h3,hx,hy,Entry.len,Entry.g12]
    exact hk _ h2 h3 (by first | rfl | (simp; done) | exact congrArg V.bool (beq_dec _ _))
theorem s11_6 {P : Program} {E : Env} {K : List Fr} {Q : Po} {x y : Entry} {ρ : Nat → V} {h : H} {bx bz : Nat} {rest : List O} {b : Bool} (hx : h.get bx = some (.cells x.cells 49 false false none)) (hy : h.get bz = some (.cells y.cells 49 false false none)) (h2 : ρ 2 = .ptr (some (bx, 0))) (h3 : ρ 3 = .ptr (some (bz, 0))) (hg : ρ 45 = .bool b) {c : Bool} (hc : Sp P E (.func 33 [] []) [x.ops, y.ops] h fun v h' => v = .bool c ∧ Kp h h') (hk : ∀ (ρ' : Nat → V) (h' : H), Kp h h' → ρ' 2 = .ptr (some (bx, 0)) → ρ' 3 = .ptr (some (bz, 0)) → ρ' 52 = .bool (b && c) → XO P E none 108 rest K ρ' h' Q) : XO P E none 108 (a11_6 ++ rest) K ρ h Q := by
  cases b with
  | false =>
    simp (maxSteps := 2000000) only [GO,GO2,evK,fillV,setR,binV,intOp,strOp,shOp,unV,getR,lenV,partV,V.nj,V.njL,V.cells,Nat.reduceLT,Nat.reduceEqDiff,Nat.reduceAdd,↓reduceIte,Nat.reduceLeDiff,reduceCtorEq,a11_6,hg]
    exact hk _ _ (Keeps.refl _ _) h2 h3 rfl
  | true =>
    simp (maxSteps := 2000000) only [GO,GO2,evK,fillV,setR,binV,intOp,strOp,shOp,unV,getR,lenV,partV,V.nj,V.njL,V.cells,Nat.reduceLT,Nat.reduceEqDiff,Nat.reduceAdd,↓reduceIte,Nat.reduceLeDiff,reduceCtorEq,a11_6,hg,h2,h3,hx,hy,Entry.len,Entry.g13]
    refine XC_of hc ?_
    rintro _ h' ⟨rfl, k⟩
    simp (maxSteps := 2000000) only [GO,GO2,evK,fillV,setR,binV,intOp,strOp,shOp,unV,getR,lenV,partV,V.nj,V.njL,V.cells,Nat.reduceLT,Nat.reduceEqDiff,Nat.reduceAdd,↓reduceIte,Nat.reduceLeDiff,reduceCtorEq,hg]
    exact hk _ _ k h2 h3 rfl
theorem s11_7 {P : Program} {E : Env} {K : List Fr} {Q : Po} {x y : Entry} {ρ : Nat → V} {h : H} {bx bz : Nat} {rest : List O} {b : Bool} (hx : h.get bx = some (.cells x.cells 49 false false none)) (hy : h.get bz = some (.cells y.cells 49 false false none)) (h2 : ρ 2 = .ptr (some (bx, 0))) (h3 : ρ 3 = .ptr (some (bz, 0))) (hg : ρ 52 = .bool b) (hk : ∀ (ρ' : Nat → V), ρ' 2 = .ptr (some (bx, 0)) → ρ' 3 = .ptr (some (bz, 0)) → ρ' 59 = .bool (b && decide (x.epoch = y.epoch)) → XO P E none 108 rest K ρ' h Q) : XO P E none 108 (a11_7 ++ rest) K ρ h Q := by
  have hpart : ∀ z : Entry, List.take 25 (List.drop 14 z.cells) = z.epoch.cells := fun _ => rfl
  have heq := Epoch.eqv h x.epoch y.epoch
  cases b with
  | false =>
    simp (maxSteps := 2000000) only [GO,GO2,evK,fillV,setR,binV,intOp,strOp,shOp,unV,getR,lenV,partV,V.nj,V.njL,V.cells,Nat.reduceLT,Nat.reduceEqDiff,Nat.reduceAdd,↓reduceIte,Nat.reduceLeDiff,reduceCtorEq,a11_7,hg]
    exact hk _ h2 h3 rfl
  | true =>
    simp (maxSteps := 2000000) only [GO,GO2,evK,fillV,setR,binV,intOp,strOp,shOp,unV,getR,lenV,partV,V.nj,V.njL,V.cells,Nat.reduceLT,Nat.reduceEqDiff,Nat.reduceAdd,↓reduceIte,Nat.reduceLeDiff,reduceCtorEq,a11_7,hg,h2,h3,hx,hy,Entry.len,hpart,heq]
    exact hk _ h2 h3 (by first | rfl | (simp; done) | exact congrArg V.bool (beq_dec _ _))
theorem s11_8 {P : Program} {E : Env} {K : List Fr} {Q : Po} {x y : Entry} {ρ : Nat → V} {h : H} {bx bz : Nat} {rest : List O} {b : Bool} (hx : h.get bx = some (.cells x.cells 49 false false none)) (hy : h.get bz = some (.cells y.cells 49 false false none)) (h2 : ρ 2 = .ptr (some (bx, 0))) (h3 : ρ 3 = .ptr (some (bz, 0))) (hg : ρ 59 = .bool b) (hk : ∀ (ρ' : Nat → V), ρ' 2 = .ptr (some (bx, 0)) → ρ' 3 = .ptr (some (bz, 0)) → ρ' 66 = .bool (b && decide (x.frm = y.frm)) → XO P E none 108 rest K ρ' h Q) : XO P E none 108 (a11_8 ++ rest) K ρ h Q := by
  cases b with
  | false =>
    simp (maxSteps := 2000000) only [GO,GO2,evK,fillV,setR,binV,intOp,strOp,shOp,unV,getR,lenV,partV,V.nj,V.njL,V.cells,Nat.reduceLT,Nat.reduceEqDiff,Nat.reduceAdd,↓reduceIte,Nat.reduceLeDiff,reduceCtorEq,a11_8,hg]
    exact hk _ h2 h3 rfl
  | true =>
    simp (maxSteps := 2000000) only [GO,GO2,evK,fillV,setR,binV,intOp,strOp,shOp,unV,getR,lenV,partV,V.nj,V.njL,V.cells,Nat.reduceLT,Nat.reduceEqDiff,Nat.reduceAdd,↓reduceIte,Nat.reduceLeDiff,reduceCtorEq,a11_8,hg,h2,h3,hx,hy,Entry.len,Entry.g39]
    exact hk _ h2 h3 (by first | rfl | (simp; done) | exact congrArg V.bool (beq_dec _ _))
theorem s11_9 {P : Program} {E : Env} {K : List Fr} {Q : Po} {x y : Entry} {ρ : Nat → V} {h : H} {bx bz : Nat} {rest : List O} {b : Bool} (hx : h.get bx = some (.cells x.cells 49 false false none)) (hy : h.get bz = some (.cells y.cells 49 false false none)) (h2 : ρ 2 = .ptr (some (bx, 0))) (h3 : ρ 3 = .ptr (some (bz, 0))) (hg : ρ 66 = .bool b) (hk : ∀ (ρ' : Nat → V), ρ' 2 = .ptr (some (bx, 0)) → ρ' 3 = .ptr (some (bz, 0)) → ρ' 73 = .bool (b && decide (x.vector = y.vector)) → XO P E none 108 rest K ρ' h Q) : XO P E none 108 (a11_9 ++ rest) K ρ h Q := by
  have hpart : ∀ z : Entry, List.take 8 (List.drop 40 z.cells) = z.vector.cells := fun _ => rfl
  have heq := Vec.eqv h x.vector y.vector
  cases b with
  | false =>
    simp (maxSteps := 2000000) only [GO,GO2,evK,fillV,setR,binV,intOp,strOp,shOp,unV,getR,lenV,partV,V.nj,V.njL,V.cells,Nat.reduceLT,Nat.reduceEqDiff,Nat.reduceAdd,↓reduceIte,Nat.reduceLeDiff,reduceCtorEq,a11_9,hg]
    exact hk _ h2 h3 rfl
  | true =>
    simp (maxSteps := 2000000) only [GO,GO2,evK,fillV,setR,binV,intOp,strOp,shOp,unV,getR,lenV,partV,V.nj,V.njL,V.cells,Nat.reduceLT,Nat.reduceEqDiff,Nat.reduceAdd,↓reduceIte,Nat.reduceLeDiff,reduceCtorEq,a11_9,hg,h2,h3,hx,hy,Entry.len,hpart,heq]
    exact hk _ h2 h3 (by first | rfl | (simp; done) | exact congrArg V.bool (beq_dec _ _))
theorem s11_10 {P : Program} {E : Env} {K : List Fr} {Q : Po} {x y : Entry} {ρ : Nat → V} {h : H} {bx bz : Nat} {rest : List O} {b : Bool} (hx : h.get bx = some (.cells x.cells 49 false false none)) (hy : h.get bz = some (.cells y.cells 49 false false none)) (h2 : ρ 2 = .ptr (some (bx, 0))) (h3 : ρ 3 = .ptr (some (bz, 0))) (hg : ρ 73 = .bool b) (hk : ∀ (ρ' : Nat → V), ρ' 2 = .ptr (some (bx, 0)) → ρ' 3 = .ptr (some (bz, 0)) → ρ' 80 = .bool (b && decide (x.clock = y.clock)) → XO P E none 108 rest K ρ' h Q) : XO P E none 108 (a11_10 ++ rest) K ρ h Q := by
  cases b with
  | false =>
    simp (maxSteps := 2000000) only [GO,GO2,evK,fillV,setR,binV,intOp,strOp,shOp,unV,getR,lenV,partV,V.nj,V.njL,V.cells,Nat.reduceLT,Nat.reduceEqDiff,Nat.reduceAdd,↓reduceIte,Nat.reduceLeDiff,reduceCtorEq,a11_10,hg]
    exact hk _ h2 h3 rfl
  | true =>
    simp (maxSteps := 2000000) only [GO,GO2,evK,fillV,setR,binV,intOp,strOp,shOp,unV,getR,lenV,partV,V.nj,V.njL,V.cells,Nat.reduceLT,Nat.reduceEqDiff,Nat.reduceAdd,↓reduceIte,Nat.reduceLeDiff,reduceCtorEq,a11_10,hg,h2,h3,hx,hy,Entry.len,Entry.g48]
    exact hk _ h2 h3 (by first | rfl | (simp; done) | exact congrArg V.bool (beq_dec _ _))
theorem s11_11 {P : Program} {E : Env} {K : List Fr} {Q : Po} {x y : Entry} {ρ : Nat → V} {h : H} {bx bz : Nat} {rest : List O} {b : Bool} (hx : h.get bx = some (.cells x.cells 49 false false none)) (hy : h.get bz = some (.cells y.cells 49 false false none)) (h2 : ρ 2 = .ptr (some (bx, 0))) (h3 : ρ 3 = .ptr (some (bz, 0))) (hg : ρ 80 = .bool b) {c : Bool} (hc : Sp P E (.func 34 [] []) [.agg x.part.cells, .agg y.part.cells] h fun v h' => v = .bool c ∧ Kp h h') (hk : ∀ (ρ' : Nat → V) (h' : H), Kp h h' → ρ' 2 = .ptr (some (bx, 0)) → ρ' 3 = .ptr (some (bz, 0)) → ρ' 87 = .bool (b && c) → XO P E none 108 rest K ρ' h' Q) : XO P E none 108 (a11_11 ++ rest) K ρ h Q := by
  have hpart : ∀ z : Entry, List.take 4 (List.drop 49 z.cells) = z.part.cells := fun _ => rfl
  cases b with
  | false =>
    simp (maxSteps := 2000000) only [GO,GO2,evK,fillV,setR,binV,intOp,strOp,shOp,unV,getR,lenV,partV,V.nj,V.njL,V.cells,Nat.reduceLT,Nat.reduceEqDiff,Nat.reduceAdd,↓reduceIte,Nat.reduceLeDiff,reduceCtorEq,a11_11,hg]
    exact hk _ _ (Keeps.refl _ _) h2 h3 rfl
  | true =>
    simp (maxSteps := 2000000) only [GO,GO2,evK,fillV,setR,binV,intOp,strOp,shOp,unV,getR,lenV,partV,V.nj,V.njL,V.cells,Nat.reduceLT,Nat.reduceEqDiff,Nat.reduceAdd,↓reduceIte,Nat.reduceLeDiff,reduceCtorEq,a11_11,hg,h2,h3,hx,hy,Entry.len,hpart]
    refine XC_of hc ?_
    rintro _ h' ⟨rfl, k⟩
    simp (maxSteps := 2000000) only [GO,GO2,evK,fillV,setR,binV,intOp,strOp,shOp,unV,getR,lenV,partV,V.nj,V.njL,V.cells,Nat.reduceLT,Nat.reduceEqDiff,Nat.reduceAdd,↓reduceIte,Nat.reduceLeDiff,reduceCtorEq,hg]
    exact hk _ _ k h2 h3 rfl
theorem s11_12 {P : Program} {E : Env} {K : List Fr} {Q : Po} {x y : Entry} {ρ : Nat → V} {h : H} {bx bz : Nat} {rest : List O} {b : Bool} (hx : h.get bx = some (.cells x.cells 49 false false none)) (hy : h.get bz = some (.cells y.cells 49 false false none)) (h2 : ρ 2 = .ptr (some (bx, 0))) (h3 : ρ 3 = .ptr (some (bz, 0))) (hg : ρ 87 = .bool b) (hk : ∀ (ρ' : Nat → V), ρ' 2 = .ptr (some (bx, 0)) → ρ' 3 = .ptr (some (bz, 0)) → ρ' 94 = .bool (b && decide (x.site = y.site)) → XO P E none 108 rest K ρ' h Q) : XO P E none 108 (a11_12 ++ rest) K ρ h Q := by
  cases b with
  | false =>
    simp (maxSteps := 2000000) only [GO,GO2,evK,fillV,setR,binV,intOp,strOp,shOp,unV,getR,lenV,partV,V.nj,V.njL,V.cells,Nat.reduceLT,Nat.reduceEqDiff,Nat.reduceAdd,↓reduceIte,Nat.reduceLeDiff,reduceCtorEq,a11_12,hg]
    exact hk _ h2 h3 rfl
  | true =>
    simp (maxSteps := 2000000) only [GO,GO2,evK,fillV,setR,binV,intOp,strOp,shOp,unV,getR,lenV,partV,V.nj,V.njL,V.cells,Nat.reduceLT,Nat.reduceEqDiff,Nat.reduceAdd,↓reduceIte,Nat.reduceLeDiff,reduceCtorEq,a11_12,hg,h2,h3,hx,hy,Entry.len,Entry.g53]
    exact hk _ h2 h3 (by first | rfl | (simp; done) | exact congrArg V.bool (beq_dec _ _))
theorem s11_13 {P : Program} {E : Env} {K : List Fr} {Q : Po} {x y : Entry} {ρ : Nat → V} {h : H} {bx bz : Nat} {rest : List O} {b : Bool} (hx : h.get bx = some (.cells x.cells 49 false false none)) (hy : h.get bz = some (.cells y.cells 49 false false none)) (h2 : ρ 2 = .ptr (some (bx, 0))) (h3 : ρ 3 = .ptr (some (bz, 0))) (hg : ρ 94 = .bool b) (hk : ∀ (ρ' : Nat → V), ρ' 2 = .ptr (some (bx, 0)) → ρ' 3 = .ptr (some (bz, 0)) → ρ' 101 = .bool (b && decide (x.sponsor = y.sponsor)) → XO P E none 108 rest K ρ' h Q) : XO P E none 108 (a11_13 ++ rest) K ρ h Q := by
  cases b with
  | false =>
    simp (maxSteps := 2000000) only [GO,GO2,evK,fillV,setR,binV,intOp,strOp,shOp,unV,getR,lenV,partV,V.nj,V.njL,V.cells,Nat.reduceLT,Nat.reduceEqDiff,Nat.reduceAdd,↓reduceIte,Nat.reduceLeDiff,reduceCtorEq,a11_13,hg]
    exact hk _ h2 h3 rfl
  | true =>
    simp (maxSteps := 2000000) only [GO,GO2,evK,fillV,setR,binV,intOp,strOp,shOp,unV,getR,lenV,partV,V.nj,V.njL,V.cells,Nat.reduceLT,Nat.reduceEqDiff,Nat.reduceAdd,↓reduceIte,Nat.reduceLeDiff,reduceCtorEq,a11_13,hg,h2,h3,hx,hy,Entry.len,Entry.g54]
    exact hk _ h2 h3 (by first | rfl | (simp; done) | exact congrArg V.bool (beq_dec _ _))
theorem s11_14 {P : Program} {E : Env} {K : List Fr} {Q : Po} {x y : Entry} {ρ : Nat → V} {h : H} {bx bz : Nat} {rest : List O} {b : Bool} (hx : h.get bx = some (.cells x.cells 49 false false none)) (hy : h.get bz = some (.cells y.cells 49 false false none)) (h2 : ρ 2 = .ptr (some (bx, 0))) (h3 : ρ 3 = .ptr (some (bz, 0))) (hg : ρ 101 = .bool b) (hk : ∀ (ρ' : Nat → V), ρ' 2 = .ptr (some (bx, 0)) → ρ' 3 = .ptr (some (bz, 0)) → ρ' 4 = .bool (b && decide (x.length = y.length)) → XO P E none 108 rest K ρ' h Q) : XO P E none 108 (a11_14 ++ rest) K ρ h Q := by
  cases b with
  | false =>
    simp (maxSteps := 2000000) only [GO,GO2,evK,fillV,setR,binV,intOp,strOp,shOp,unV,getR,lenV,partV,V.nj,V.njL,V.cells,Nat.reduceLT,Nat.reduceEqDiff,Nat.reduceAdd,↓reduceIte,Nat.reduceLeDiff,reduceCtorEq,a11_14,hg]
    exact hk _ h2 h3 rfl
  | true =>
    simp (maxSteps := 2000000) only [GO,GO2,evK,fillV,setR,binV,intOp,strOp,shOp,unV,getR,lenV,partV,V.nj,V.njL,V.cells,Nat.reduceLT,Nat.reduceEqDiff,Nat.reduceAdd,↓reduceIte,Nat.reduceLeDiff,reduceCtorEq,a11_14,hg,h2,h3,hx,hy,Entry.len,Entry.g55]
    exact hk _ h2 h3 (by first | rfl | (simp; done) | exact congrArg V.bool (beq_dec _ _))
set_option maxRecDepth 100000 in
theorem ent11 (F : Fa E) {x y : Entry} {h : H} {d d' : DEnt} (hx : EIn h x d) (hy : EIn h y d') :
    Sp P E (.func 11 [] []) [.agg x.cells, .agg y.cells] h fun r h' => r = .bool (decide (d = d')) ∧ Kp h h' := by
  have hg0 := psh_same h (.cells x.cells 49 false false none)
  have hk0 : Kp h (h.psh (.cells x.cells 49 false false none)) := Keeps.psh (Nat.le_refl _) _
  have hk1 : Kp (h.psh (.cells x.cells 49 false false none)) ((h.psh (.cells x.cells 49 false false none)).psh (.cells y.cells 49 false false none)) := Keeps.psh (Nat.le_refl _) _
  have gy := psh_same (h.psh (.cells x.cells 49 false false none)) (.cells y.cells 49 false false none)
  have gx := Kp.of hk1 hg0
  have kk := Kp.trans hk0 hk1
  refine Sp_fn F.f11 F.p11 (by simp [fn11]) ?_
  simp (maxSteps := 2000000) only [GO,GO2,evK,fillV,setR,binV,intOp,strOp,shOp,unV,getR,lenV,partV,V.nj,V.njL,V.cells,Nat.reduceLT,Nat.reduceEqDiff,Nat.reduceAdd,↓reduceIte,Nat.reduceLeDiff,reduceCtorEq,fn11,c11,r11_0,e11_all]
  generalize (h.psh (.cells x.cells 49 false false none)).psh (.cells y.cells 49 false false none) = h2 at *
  generalize (h.psh (.cells x.cells 49 false false none)).size = B at *
  refine s11_0 gx gy rfl rfl fun ρ p q r => ?_
  refine s11_1 gx gy p q r fun ρ p q r => ?_
  refine s11_2 gx gy p q r fun ρ p q r => ?_
  refine s11_3 gx gy p q r fun ρ p q r => ?_
  refine s11_4 gx gy p q r fun ρ p q r => ?_
  refine s11_5 gx gy p q r fun ρ p q r => ?_
  refine s11_6 gx gy p q r (Sp.kp (eq33 F (hx.ops.keep kk) (hy.ops.keep kk) hx.len)) fun ρ h3 k p q r => ?_
  have gx := Kp.of k gx
  have gy := Kp.of k gy
  have kk := Kp.trans kk k
  refine s11_7 gx gy p q r fun ρ p q r => ?_
  refine s11_8 gx gy p q r fun ρ p q r => ?_
  refine s11_9 gx gy p q r fun ρ p q r => ?_
  refine s11_10 gx gy p q r fun ρ p q r => ?_
  refine s11_11 gx gy p q r (part34 F (hx.dat.keep kk) (hy.dat.keep kk)) fun ρ h3 k p q r => ?_
  have gx := Kp.of k gx
  have gy := Kp.of k gy
  have kk := Kp.trans kk k
  refine s11_12 gx gy p q r fun ρ p q r => ?_
  refine s11_13 gx gy p q r fun ρ p q r => ?_
  rw [← List.append_nil a11_14]
  refine s11_14 gx gy p q r fun ρ p q r => ?_
  simp (maxSteps := 2000000) only [GO,GO2,evK,fillV,setR,binV,intOp,strOp,shOp,unV,getR,lenV,partV,V.nj,V.njL,V.cells,Nat.reduceLT,Nat.reduceEqDiff,Nat.reduceAdd,↓reduceIte,Nat.reduceLeDiff,reduceCtorEq,r]
  refine ⟨?_, kk⟩
  congr 1
  rw [Bool.eq_iff_iff]
  refine Iff.trans ?_ decide_eq_true_iff.symm
  simp only [Bool.and_eq_true, decide_eq_true_eq, beq_iff_eq]
  rw [dent_iff hx.flat hy.flat]
  simp only [flatOf, Flat.mk.injEq, and_assoc, and_comm, and_left_comm]
def a39_0 : List O := [⟨some 5,.fadr 0 (.t 2),none,0,[5,2]⟩,⟨some 6,.load1 (.t 5),none,1,[6,5]⟩,⟨some 7,.fadr 0 (.t 3),none,0,[7,3]⟩,⟨some 8,.load1 (.t 7),none,4,[8,7]⟩,⟨some 9,.bin .eql (some .int) false (.t 6) (.t 8),none,15,[9,6,8]⟩,⟨some 10,.mv (.t 9),none,31,[10,9]⟩]
def a39_1 : List O := [⟨some 11,.fadr 1 (.t 2),some (10,true),63,[11,10,2]⟩,⟨some 12,.load1 (.t 11),some (10,true),127,[12,10,11]⟩,⟨some 13,.fadr 1 (.t 3),some (10,true),63,[13,10,3]⟩,⟨some 14,.load1 (.t 13),some (10,true),319,[14,10,13]⟩,⟨some 15,.bin .eql (some .int) false (.t 12) (.t 14),some (10,true),1023,[15,10,12,14]⟩,⟨some 16,.pick (.t 10) (.t 15) (.k (.bool false)),none,2047,[16,10,15]⟩,⟨some 17,.mv (.t 16),none,4095,[17,16]⟩]
def a39_2 : List O := [⟨some 18,.fadr 2 (.t 2),some (17,true),8191,[18,17,2]⟩,⟨some 19,.load1 (.t 18),some (17,true),16383,[19,17,18]⟩,⟨some 20,.fadr 2 (.t 3),some (17,true),8191,[20,17,3]⟩,⟨some 21,.load1 (.t 20),some (17,true),40959,[21,17,20]⟩,⟨some 22,.bin .eql (some .int) false (.t 19) (.t 21),some (17,true),131071,[22,17,19,21]⟩,⟨some 23,.pick (.t 17) (.t 22) (.k (.bool false)),none,262143,[23,17,22]⟩,⟨some 24,.mv (.t 23),none,524287,[24,23]⟩]
def a39_3 : List O := [⟨some 25,.fadr 3 (.t 2),some (24,true),1048575,[25,24,2]⟩,⟨some 26,.loadN 8 (.t 25),some (24,true),2097151,[26,24,25]⟩,⟨some 27,.fadr 3 (.t 3),some (24,true),1048575,[27,24,3]⟩,⟨some 28,.loadN 8 (.t 27),some (24,true),5242879,[28,24,27]⟩,⟨some 29,.bin .eql (some (.fcons 0 2 true (.fcons 0 1 false .int (.fcons 1 1 false .int .fnil)) (.fcons 2 1 false .int (.fcons 3 1 false .int (.fcons 4 1 false .int (.fcons 5 1 false .str (.fcons 6 1 false .str (.fcons 7 1 false .str .fnil)))))))) false (.t 26) (.t 28),some (24,true),16777215,[29,24,26,28]⟩,⟨some 30,.pick (.t 24) (.t 29) (.k (.bool false)),none,33554431,[30,24,29]⟩,⟨some 31,.mv (.t 30),none,67108863,[31,30]⟩]
def a39_4 : List O := [⟨some 32,.fadr 11 (.t 2),some (31,true),134217727,[32,31,2]⟩,⟨some 33,.load1 (.t 32),some (31,true),268435455,[33,31,32]⟩,⟨some 34,.fadr 11 (.t 3),some (31,true),134217727,[34,31,3]⟩,⟨some 35,.load1 (.t 34),some (31,true),671088639,[35,31,34]⟩,⟨some 36,.bin .eql (some .int) false (.t 33) (.t 35),some (31,true),2147483647,[36,31,33,35]⟩,⟨some 37,.pick (.t 31) (.t 36) (.k (.bool false)),none,4294967295,[37,31,36]⟩,⟨some 38,.mv (.t 37),none,8589934591,[38,37]⟩]
def a39_5 : List O := [⟨some 39,.fadr 12 (.t 2),some (38,true),17179869183,[39,38,2]⟩,⟨some 40,.load1 (.t 39),some (38,true),34359738367,[40,38,39]⟩,⟨some 41,.fadr 12 (.t 3),some (38,true),17179869183,[41,38,3]⟩,⟨some 42,.load1 (.t 41),some (38,true),85899345919,[42,38,41]⟩,⟨some 43,.bin .eql (some .int) false (.t 40) (.t 42),some (38,true),274877906943,[43,38,40,42]⟩,⟨some 44,.pick (.t 38) (.t 43) (.k (.bool false)),none,549755813887,[44,38,43]⟩,⟨some 45,.mv (.t 44),none,1099511627775,[45,44]⟩]
def a39_6 : List O := [⟨some 46,.fadr 13 (.t 2),some (45,true),2199023255551,[46,45,2]⟩,⟨some 47,.load1 (.t 46),some (45,true),4398046511103,[47,45,46]⟩,⟨some 48,.fadr 13 (.t 3),some (45,true),2199023255551,[48,45,3]⟩,⟨some 49,.load1 (.t 48),some (45,true),10995116277759,[49,45,48]⟩,⟨some 50,.call (.k (.func 60 [] [])) [(.t 47),(.t 49)],some (45,true),35184372088831,[50,45,47,49]⟩,⟨some 51,.pick (.t 45) (.t 50) (.k (.bool false)),none,70368744177663,[51,45,50]⟩,⟨some 52,.mv (.t 51),none,140737488355327,[52,51]⟩]
def a39_7 : List O := [⟨some 53,.fadr 14 (.t 2),some (52,true),281474976710655,[53,52,2]⟩,⟨some 54,.loadN 25 (.t 53),some (52,true),562949953421311,[54,52,53]⟩,⟨some 55,.fadr 14 (.t 3),some (52,true),281474976710655,[55,52,3]⟩,⟨some 56,.loadN 25 (.t 55),some (52,true),1407374883553279,[56,52,55]⟩,⟨some 57,.bin .eql (some (.fcons 0 1 false .int (.fcons 1 8 true (.ar 8 1 false .int) (.fcons 9 8 true (.ar 8 1 false .int) (.fcons 17 8 true (.ar 8 1 false .int) .fnil))))) false (.t 54) (.t 56),some (52,true),4503599627370495,[57,52,54,56]⟩,⟨some 58,.pick (.t 52) (.t 57) (.k (.bool false)),none,9007199254740991,[58,52,57]⟩,⟨some 59,.mv (.t 58),none,18014398509481983,[59,58]⟩]
def a39_8 : List O := [⟨some 60,.fadr 39 (.t 2),some (59,true),36028797018963967,[60,59,2]⟩,⟨some 61,.load1 (.t 60),some (59,true),72057594037927935,[61,59,60]⟩,⟨some 62,.fadr 39 (.t 3),some (59,true),36028797018963967,[62,59,3]⟩,⟨some 63,.load1 (.t 62),some (59,true),180143985094819839,[63,59,62]⟩,⟨some 64,.bin .eql (some .int) false (.t 61) (.t 63),some (59,true),576460752303423487,[64,59,61,63]⟩,⟨some 65,.pick (.t 59) (.t 64) (.k (.bool false)),none,1152921504606846975,[65,59,64]⟩,⟨some 66,.mv (.t 65),none,2305843009213693951,[66,65]⟩]
def a39_9 : List O := [⟨some 67,.fadr 40 (.t 2),some (66,true),4611686018427387903,[67,66,2]⟩,⟨some 68,.loadN 8 (.t 67),some (66,true),9223372036854775807,[68,66,67]⟩,⟨some 69,.fadr 40 (.t 3),some (66,true),4611686018427387903,[69,66,3]⟩,⟨some 70,.loadN 8 (.t 69),some (66,true),23058430092136939519,[70,66,69]⟩,⟨some 71,.bin .eql (some (.ar 8 1 false .int)) false (.t 68) (.t 70),some (66,true),73786976294838206463,[71,66,68,70]⟩,⟨some 72,.pick (.t 66) (.t 71) (.k (.bool false)),none,147573952589676412927,[72,66,71]⟩,⟨some 73,.mv (.t 72),none,295147905179352825855,[73,72]⟩]
def a39_10 : List O := [⟨some 74,.fadr 48 (.t 2),some (73,true),590295810358705651711,[74,73,2]⟩,⟨some 75,.load1 (.t 74),some (73,true),1180591620717411303423,[75,73,74]⟩,⟨some 76,.fadr 48 (.t 3),some (73,true),590295810358705651711,[76,73,3]⟩,⟨some 77,.load1 (.t 76),some (73,true),2951479051793528258559,[77,73,76]⟩,⟨some 78,.bin .eql (some .int) false (.t 75) (.t 77),some (73,true),9444732965739290427391,[78,73,75,77]⟩,⟨some 79,.pick (.t 73) (.t 78) (.k (.bool false)),none,18889465931478580854783,[79,73,78]⟩,⟨some 80,.mv (.t 79),none,37778931862957161709567,[80,79]⟩]
def a39_11 : List O := [⟨some 81,.fadr 49 (.t 2),some (80,true),75557863725914323419135,[81,80,2]⟩,⟨some 82,.loadN 4 (.t 81),some (80,true),151115727451828646838271,[82,80,81]⟩,⟨some 83,.fadr 49 (.t 3),some (80,true),75557863725914323419135,[83,80,3]⟩,⟨some 84,.loadN 4 (.t 83),some (80,true),377789318629571617095679,[84,80,83]⟩,⟨some 85,.call (.k (.func 61 [] [])) [(.t 82),(.t 84)],some (80,true),1208925819614629174706175,[85,80,82,84]⟩,⟨some 86,.pick (.t 80) (.t 85) (.k (.bool false)),none,2417851639229258349412351,[86,80,85]⟩,⟨some 87,.mv (.t 86),none,4835703278458516698824703,[87,86]⟩]
def a39_12 : List O := [⟨some 88,.fadr 53 (.t 2),some (87,true),9671406556917033397649407,[88,87,2]⟩,⟨some 89,.load1 (.t 88),some (87,true),19342813113834066795298815,[89,87,88]⟩,⟨some 90,.fadr 53 (.t 3),some (87,true),9671406556917033397649407,[90,87,3]⟩,⟨some 91,.load1 (.t 90),some (87,true),48357032784585166988247039,[91,87,90]⟩,⟨some 92,.bin .eql (some .int) false (.t 89) (.t 91),some (87,true),154742504910672534362390527,[92,87,89,91]⟩,⟨some 93,.pick (.t 87) (.t 92) (.k (.bool false)),none,309485009821345068724781055,[93,87,92]⟩,⟨some 94,.mv (.t 93),none,618970019642690137449562111,[94,93]⟩]
def a39_13 : List O := [⟨some 95,.fadr 54 (.t 2),some (94,true),1237940039285380274899124223,[95,94,2]⟩,⟨some 96,.load1 (.t 95),some (94,true),2475880078570760549798248447,[96,94,95]⟩,⟨some 97,.fadr 54 (.t 3),some (94,true),1237940039285380274899124223,[97,94,3]⟩,⟨some 98,.load1 (.t 97),some (94,true),6189700196426901374495621119,[98,94,97]⟩,⟨some 99,.bin .eql (some .int) false (.t 96) (.t 98),some (94,true),19807040628566084398385987583,[99,94,96,98]⟩,⟨some 100,.pick (.t 94) (.t 99) (.k (.bool false)),none,39614081257132168796771975167,[100,94,99]⟩,⟨some 101,.mv (.t 100),none,79228162514264337593543950335,[101,100]⟩]
def a39_14 : List O := [⟨some 102,.fadr 55 (.t 2),some (101,true),158456325028528675187087900671,[102,101,2]⟩,⟨some 103,.load1 (.t 102),some (101,true),316912650057057350374175801343,[103,101,102]⟩,⟨some 104,.fadr 55 (.t 3),some (101,true),158456325028528675187087900671,[104,101,3]⟩,⟨some 105,.load1 (.t 104),some (101,true),792281625142643375935439503359,[105,101,104]⟩,⟨some 106,.bin .eql (some .int) false (.t 103) (.t 105),some (101,true),2535301200456458802993406410751,[106,101,103,105]⟩,⟨some 107,.pick (.t 101) (.t 106) (.k (.bool false)),none,5070602400912917605986812821503,[107,101,106]⟩,⟨some 4,.mv (.t 107),none,10141204801825835211973625643007,[4,107]⟩]
set_option maxRecDepth 100000 in
theorem e39_all : r39_1 = a39_0 ++ (a39_1 ++ (a39_2 ++ (a39_3 ++ (a39_4 ++ (a39_5 ++ (a39_6 ++ (a39_7 ++ (a39_8 ++ (a39_9 ++ (a39_10 ++ (a39_11 ++ (a39_12 ++ (a39_13 ++ (a39_14)))))))))))))) := rfl
theorem s39_0 {P : Program} {E : Env} {K : List Fr} {Q : Po} {x y : Entry} {ρ : Nat → V} {h : H} {bx bz : Nat} {rest : List O} (hx : h.get bx = some (.cells x.cells 49 false false none)) (hy : h.get bz = some (.cells y.cells 49 false false none)) (h2 : ρ 2 = .ptr (some (bx, 0))) (h3 : ρ 3 = .ptr (some (bz, 0))) (hk : ∀ (ρ' : Nat → V), ρ' 2 = .ptr (some (bx, 0)) → ρ' 3 = .ptr (some (bz, 0)) → ρ' 10 = .bool (decide (x.kind = y.kind)) → XO P E none 108 rest K ρ' h Q) : XO P E none 108 (a39_0 ++ rest) K ρ h Q := by
  simp (maxSteps := 2000000) only [GO,GO2,evK,fillV,setR,binV,intOp,strOp,shOp,unV,getR,lenV,partV,V.nj,V.njL,V.cells,Nat.reduceLT,Nat.reduceEqDiff,Nat.reduceAdd,↓reduceIte,Nat.reduceLeDiff,reduceCtorEq,a39_0,h2,h3,hx,hy,Entry.len,Entry.g0]
  exact hk _ h2 h3 (by first | rfl | (simp; done) | exact congrArg V.bool (beq_dec _ _))
theorem s39_1 {P : Program} {E : Env} {K : List Fr} {Q : Po} {x y : Entry} {ρ : Nat → V} {h : H} {bx bz : Nat} {rest : List O} {b : Bool} (hx : h.get bx = some (.cells x.cells 49 false false none)) (hy : h.get bz = some (.cells y.cells 49 false false none)) (h2 : ρ 2 = .ptr (some (bx, 0))) (h3 : ρ 3 = .ptr (some (bz, 0))) (hg : ρ 10 = .bool b) (hk : ∀ (ρ' : Nat → V), ρ' 2 = .ptr (some (bx, 0)) → ρ' 3 = .ptr (some (bz, 0)) → ρ' 17 = .bool (b && decide (x.session = y.session)) → XO P E none 108 rest K ρ' h Q) : XO P E none 108 (a39_1 ++ rest) K ρ h Q := by
  cases b with
  | false =>
    simp (maxSteps := 2000000) only [GO,GO2,evK,fillV,setR,binV,intOp,strOp,shOp,unV,getR,lenV,partV,V.nj,V.njL,V.cells,Nat.reduceLT,Nat.reduceEqDiff,Nat.reduceAdd,↓reduceIte,Nat.reduceLeDiff,reduceCtorEq,a39_1,hg]
    exact hk _ h2 h3 rfl
  | true =>
    simp (maxSteps := 2000000) only [GO,GO2,evK,fillV,setR,binV,intOp,strOp,shOp,unV,getR,lenV,partV,V.nj,V.njL,V.cells,Nat.reduceLT,Nat.reduceEqDiff,Nat.reduceAdd,↓reduceIte,Nat.reduceLeDiff,reduceCtorEq,a39_1,hg,h2,h3,hx,hy,Entry.len,Entry.g1]
    exact hk _ h2 h3 (by first | rfl | (simp; done) | exact congrArg V.bool (beq_dec _ _))
theorem s39_2 {P : Program} {E : Env} {K : List Fr} {Q : Po} {x y : Entry} {ρ : Nat → V} {h : H} {bx bz : Nat} {rest : List O} {b : Bool} (hx : h.get bx = some (.cells x.cells 49 false false none)) (hy : h.get bz = some (.cells y.cells 49 false false none)) (h2 : ρ 2 = .ptr (some (bx, 0))) (h3 : ρ 3 = .ptr (some (bz, 0))) (hg : ρ 17 = .bool b) (hk : ∀ (ρ' : Nat → V), ρ' 2 = .ptr (some (bx, 0)) → ρ' 3 = .ptr (some (bz, 0)) → ρ' 24 = .bool (b && decide (x.request = y.request)) → XO P E none 108 rest K ρ' h Q) : XO P E none 108 (a39_2 ++ rest) K ρ h Q := by
  cases b with
  | false =>
    simp (maxSteps := 2000000) only [GO,GO2,evK,fillV,setR,binV,intOp,strOp,shOp,unV,getR,lenV,partV,V.nj,V.njL,V.cells,Nat.reduceLT,Nat.reduceEqDiff,Nat.reduceAdd,↓reduceIte,Nat.reduceLeDiff,reduceCtorEq,a39_2,hg]
    exact hk _ h2 h3 rfl
  | true =>
    simp (maxSteps := 2000000) only [GO,GO2,evK,fillV,setR,binV,intOp,strOp,shOp,unV,getR,lenV,partV,V.nj,V.njL,V.cells,Nat.reduceLT,Nat.reduceEqDiff,Nat.reduceAdd,↓reduceIte,Nat.reduceLeDiff,reduceCtorEq,a39_2,hg,h2,h3,hx,hy,Entry.len,Entry.g2]
    exact hk _ h2 h3 (by first | rfl | (simp; done) | exact congrArg V.bool (beq_dec _ _))
theorem s39_3 {P : Program} {E : Env} {K : List Fr} {Q : Po} {x y : Entry} {ρ : Nat → V} {h : H} {bx bz : Nat} {rest : List O} {b : Bool} (hx : h.get bx = some (.cells x.cells 49 false false none)) (hy : h.get bz = some (.cells y.cells 49 false false none)) (h2 : ρ 2 = .ptr (some (bx, 0))) (h3 : ρ 3 = .ptr (some (bz, 0))) (hg : ρ 24 = .bool b) (hk : ∀ (ρ' : Nat → V), ρ' 2 = .ptr (some (bx, 0)) → ρ' 3 = .ptr (some (bz, 0)) → ρ' 31 = .bool (b && decide (x.op = y.op)) → XO P E none 108 rest K ρ' h Q) : XO P E none 108 (a39_3 ++ rest) K ρ h Q := by
  have hpart : ∀ z : Entry, List.take 8 (List.drop 3 z.cells) = z.op.cells := fun _ => rfl
  have heq := Opr.eqv h x.op y.op
  cases b with
  | false =>
    simp (maxSteps := 2000000) only [GO,GO2,evK,fillV,setR,binV,intOp,strOp,shOp,unV,getR,lenV,partV,V.nj,V.njL,V.cells,Nat.reduceLT,Nat.reduceEqDiff,Nat.reduceAdd,↓reduceIte,Nat.reduceLeDiff,reduceCtorEq,a39_3,hg]
    exact hk _ h2 h3 rfl
  | true =>
    simp (maxSteps := 2000000) only [GO,GO2,evK,fillV,setR,binV,intOp,strOp,shOp,unV,getR,lenV,partV,V.nj,V.njL,V.cells,Nat.reduceLT,Nat.reduceEqDiff,Nat.reduceAdd,↓reduceIte,Nat.reduceLeDiff,reduceCtorEq,a39_3,hg,h2,h3,hx,hy,Entry.len,hpart,heq]
    exact hk _ h2 h3 (by first | rfl | (simp; done) | exact congrArg V.bool (beq_dec _ _))
theorem s39_4 {P : Program} {E : Env} {K : List Fr} {Q : Po} {x y : Entry} {ρ : Nat → V} {h : H} {bx bz : Nat} {rest : List O} {b : Bool} (hx : h.get bx = some (.cells x.cells 49 false false none)) (hy : h.get bz = some (.cells y.cells 49 false false none)) (h2 : ρ 2 = .ptr (some (bx, 0))) (h3 : ρ 3 = .ptr (some (bz, 0))) (hg : ρ 31 = .bool b) (hk : ∀ (ρ' : Nat → V), ρ' 2 = .ptr (some (bx, 0)) → ρ' 3 = .ptr (some (bz, 0)) → ρ' 38 = .bool (b && decide (x.origin = y.origin)) → XO P E none 108 rest K ρ' h Q) : XO P E none 108 (a39_4 ++ rest) K ρ h Q := by
  cases b with
  | false =>
    simp (maxSteps := 2000000) only [GO,GO2,evK,fillV,setR,binV,intOp,strOp,shOp,unV,getR,lenV,partV,V.nj,V.njL,V.cells,Nat.reduceLT,Nat.reduceEqDiff,Nat.reduceAdd,↓reduceIte,Nat.reduceLeDiff,reduceCtorEq,a39_4,hg]
    exact hk _ h2 h3 rfl
  | true =>
    simp (maxSteps := 2000000) only [GO,GO2,evK,fillV,setR,binV,intOp,strOp,shOp,unV,getR,lenV,partV,V.nj,V.njL,V.cells,Nat.reduceLT,Nat.reduceEqDiff,Nat.reduceAdd,↓reduceIte,Nat.reduceLeDiff,reduceCtorEq,a39_4,hg,h2,h3,hx,hy,Entry.len,Entry.g11]
    exact hk _ h2 h3 (by first | rfl | (simp; done) | exact congrArg V.bool (beq_dec _ _))
theorem s39_5 {P : Program} {E : Env} {K : List Fr} {Q : Po} {x y : Entry} {ρ : Nat → V} {h : H} {bx bz : Nat} {rest : List O} {b : Bool} (hx : h.get bx = some (.cells x.cells 49 false false none)) (hy : h.get bz = some (.cells y.cells 49 false false none)) (h2 : ρ 2 = .ptr (some (bx, 0))) (h3 : ρ 3 = .ptr (some (bz, 0))) (hg : ρ 38 = .bool b) (hk : ∀ (ρ' : Nat → V), ρ' 2 = .ptr (some (bx, 0)) → ρ' 3 = .ptr (some (bz, 0)) → ρ' 45 = .bool (b && decide (x.seq = y.seq)) → XO P E none 108 rest K ρ' h Q) : XO P E none 108 (a39_5 ++ rest) K ρ h Q := by
  cases b with
  | false =>
    simp (maxSteps := 2000000) only [GO,GO2,evK,fillV,setR,binV,intOp,strOp,shOp,unV,getR,lenV,partV,V.nj,V.njL,V.cells,Nat.reduceLT,Nat.reduceEqDiff,Nat.reduceAdd,↓reduceIte,Nat.reduceLeDiff,reduceCtorEq,a39_5,hg]
    exact hk _ h2 h3 rfl
  | true =>
    simp (maxSteps := 2000000) only [GO,GO2,evK,fillV,setR,binV,intOp,strOp,shOp,unV,getR,lenV,partV,V.nj,V.njL,V.cells,Nat.reduceLT,Nat.reduceEqDiff,Nat.reduceAdd,↓reduceIte,Nat.reduceLeDiff,reduceCtorEq,a39_5,hg,h2,h3,hx,hy,Entry.len,Entry.g12]
    exact hk _ h2 h3 (by first | rfl | (simp; done) | exact congrArg V.bool (beq_dec _ _))
theorem s39_6 {P : Program} {E : Env} {K : List Fr} {Q : Po} {x y : Entry} {ρ : Nat → V} {h : H} {bx bz : Nat} {rest : List O} {b : Bool} (hx : h.get bx = some (.cells x.cells 49 false false none)) (hy : h.get bz = some (.cells y.cells 49 false false none)) (h2 : ρ 2 = .ptr (some (bx, 0))) (h3 : ρ 3 = .ptr (some (bz, 0))) (hg : ρ 45 = .bool b) {c : Bool} (hc : Sp P E (.func 60 [] []) [x.ops, y.ops] h fun v h' => v = .bool c ∧ Kp h h') (hk : ∀ (ρ' : Nat → V) (h' : H), Kp h h' → ρ' 2 = .ptr (some (bx, 0)) → ρ' 3 = .ptr (some (bz, 0)) → ρ' 52 = .bool (b && c) → XO P E none 108 rest K ρ' h' Q) : XO P E none 108 (a39_6 ++ rest) K ρ h Q := by
  cases b with
  | false =>
    simp (maxSteps := 2000000) only [GO,GO2,evK,fillV,setR,binV,intOp,strOp,shOp,unV,getR,lenV,partV,V.nj,V.njL,V.cells,Nat.reduceLT,Nat.reduceEqDiff,Nat.reduceAdd,↓reduceIte,Nat.reduceLeDiff,reduceCtorEq,a39_6,hg]
    exact hk _ _ (Keeps.refl _ _) h2 h3 rfl
  | true =>
    simp (maxSteps := 2000000) only [GO,GO2,evK,fillV,setR,binV,intOp,strOp,shOp,unV,getR,lenV,partV,V.nj,V.njL,V.cells,Nat.reduceLT,Nat.reduceEqDiff,Nat.reduceAdd,↓reduceIte,Nat.reduceLeDiff,reduceCtorEq,a39_6,hg,h2,h3,hx,hy,Entry.len,Entry.g13]
    refine XC_of hc ?_
    rintro _ h' ⟨rfl, k⟩
    simp (maxSteps := 2000000) only [GO,GO2,evK,fillV,setR,binV,intOp,strOp,shOp,unV,getR,lenV,partV,V.nj,V.njL,V.cells,Nat.reduceLT,Nat.reduceEqDiff,Nat.reduceAdd,↓reduceIte,Nat.reduceLeDiff,reduceCtorEq,hg]
    exact hk _ _ k h2 h3 rfl
theorem s39_7 {P : Program} {E : Env} {K : List Fr} {Q : Po} {x y : Entry} {ρ : Nat → V} {h : H} {bx bz : Nat} {rest : List O} {b : Bool} (hx : h.get bx = some (.cells x.cells 49 false false none)) (hy : h.get bz = some (.cells y.cells 49 false false none)) (h2 : ρ 2 = .ptr (some (bx, 0))) (h3 : ρ 3 = .ptr (some (bz, 0))) (hg : ρ 52 = .bool b) (hk : ∀ (ρ' : Nat → V), ρ' 2 = .ptr (some (bx, 0)) → ρ' 3 = .ptr (some (bz, 0)) → ρ' 59 = .bool (b && decide (x.epoch = y.epoch)) → XO P E none 108 rest K ρ' h Q) : XO P E none 108 (a39_7 ++ rest) K ρ h Q := by
  have hpart : ∀ z : Entry, List.take 25 (List.drop 14 z.cells) = z.epoch.cells := fun _ => rfl
  have heq := Epoch.eqv h x.epoch y.epoch
  cases b with
  | false =>
    simp (maxSteps := 2000000) only [GO,GO2,evK,fillV,setR,binV,intOp,strOp,shOp,unV,getR,lenV,partV,V.nj,V.njL,V.cells,Nat.reduceLT,Nat.reduceEqDiff,Nat.reduceAdd,↓reduceIte,Nat.reduceLeDiff,reduceCtorEq,a39_7,hg]
    exact hk _ h2 h3 rfl
  | true =>
    simp (maxSteps := 2000000) only [GO,GO2,evK,fillV,setR,binV,intOp,strOp,shOp,unV,getR,lenV,partV,V.nj,V.njL,V.cells,Nat.reduceLT,Nat.reduceEqDiff,Nat.reduceAdd,↓reduceIte,Nat.reduceLeDiff,reduceCtorEq,a39_7,hg,h2,h3,hx,hy,Entry.len,hpart,heq]
    exact hk _ h2 h3 (by first | rfl | (simp; done) | exact congrArg V.bool (beq_dec _ _))
theorem s39_8 {P : Program} {E : Env} {K : List Fr} {Q : Po} {x y : Entry} {ρ : Nat → V} {h : H} {bx bz : Nat} {rest : List O} {b : Bool} (hx : h.get bx = some (.cells x.cells 49 false false none)) (hy : h.get bz = some (.cells y.cells 49 false false none)) (h2 : ρ 2 = .ptr (some (bx, 0))) (h3 : ρ 3 = .ptr (some (bz, 0))) (hg : ρ 59 = .bool b) (hk : ∀ (ρ' : Nat → V), ρ' 2 = .ptr (some (bx, 0)) → ρ' 3 = .ptr (some (bz, 0)) → ρ' 66 = .bool (b && decide (x.frm = y.frm)) → XO P E none 108 rest K ρ' h Q) : XO P E none 108 (a39_8 ++ rest) K ρ h Q := by
  cases b with
  | false =>
    simp (maxSteps := 2000000) only [GO,GO2,evK,fillV,setR,binV,intOp,strOp,shOp,unV,getR,lenV,partV,V.nj,V.njL,V.cells,Nat.reduceLT,Nat.reduceEqDiff,Nat.reduceAdd,↓reduceIte,Nat.reduceLeDiff,reduceCtorEq,a39_8,hg]
    exact hk _ h2 h3 rfl
  | true =>
    simp (maxSteps := 2000000) only [GO,GO2,evK,fillV,setR,binV,intOp,strOp,shOp,unV,getR,lenV,partV,V.nj,V.njL,V.cells,Nat.reduceLT,Nat.reduceEqDiff,Nat.reduceAdd,↓reduceIte,Nat.reduceLeDiff,reduceCtorEq,a39_8,hg,h2,h3,hx,hy,Entry.len,Entry.g39]
    exact hk _ h2 h3 (by first | rfl | (simp; done) | exact congrArg V.bool (beq_dec _ _))
theorem s39_9 {P : Program} {E : Env} {K : List Fr} {Q : Po} {x y : Entry} {ρ : Nat → V} {h : H} {bx bz : Nat} {rest : List O} {b : Bool} (hx : h.get bx = some (.cells x.cells 49 false false none)) (hy : h.get bz = some (.cells y.cells 49 false false none)) (h2 : ρ 2 = .ptr (some (bx, 0))) (h3 : ρ 3 = .ptr (some (bz, 0))) (hg : ρ 66 = .bool b) (hk : ∀ (ρ' : Nat → V), ρ' 2 = .ptr (some (bx, 0)) → ρ' 3 = .ptr (some (bz, 0)) → ρ' 73 = .bool (b && decide (x.vector = y.vector)) → XO P E none 108 rest K ρ' h Q) : XO P E none 108 (a39_9 ++ rest) K ρ h Q := by
  have hpart : ∀ z : Entry, List.take 8 (List.drop 40 z.cells) = z.vector.cells := fun _ => rfl
  have heq := Vec.eqv h x.vector y.vector
  cases b with
  | false =>
    simp (maxSteps := 2000000) only [GO,GO2,evK,fillV,setR,binV,intOp,strOp,shOp,unV,getR,lenV,partV,V.nj,V.njL,V.cells,Nat.reduceLT,Nat.reduceEqDiff,Nat.reduceAdd,↓reduceIte,Nat.reduceLeDiff,reduceCtorEq,a39_9,hg]
    exact hk _ h2 h3 rfl
  | true =>
    simp (maxSteps := 2000000) only [GO,GO2,evK,fillV,setR,binV,intOp,strOp,shOp,unV,getR,lenV,partV,V.nj,V.njL,V.cells,Nat.reduceLT,Nat.reduceEqDiff,Nat.reduceAdd,↓reduceIte,Nat.reduceLeDiff,reduceCtorEq,a39_9,hg,h2,h3,hx,hy,Entry.len,hpart,heq]
    exact hk _ h2 h3 (by first | rfl | (simp; done) | exact congrArg V.bool (beq_dec _ _))
theorem s39_10 {P : Program} {E : Env} {K : List Fr} {Q : Po} {x y : Entry} {ρ : Nat → V} {h : H} {bx bz : Nat} {rest : List O} {b : Bool} (hx : h.get bx = some (.cells x.cells 49 false false none)) (hy : h.get bz = some (.cells y.cells 49 false false none)) (h2 : ρ 2 = .ptr (some (bx, 0))) (h3 : ρ 3 = .ptr (some (bz, 0))) (hg : ρ 73 = .bool b) (hk : ∀ (ρ' : Nat → V), ρ' 2 = .ptr (some (bx, 0)) → ρ' 3 = .ptr (some (bz, 0)) → ρ' 80 = .bool (b && decide (x.clock = y.clock)) → XO P E none 108 rest K ρ' h Q) : XO P E none 108 (a39_10 ++ rest) K ρ h Q := by
  cases b with
  | false =>
    simp (maxSteps := 2000000) only [GO,GO2,evK,fillV,setR,binV,intOp,strOp,shOp,unV,getR,lenV,partV,V.nj,V.njL,V.cells,Nat.reduceLT,Nat.reduceEqDiff,Nat.reduceAdd,↓reduceIte,Nat.reduceLeDiff,reduceCtorEq,a39_10,hg]
    exact hk _ h2 h3 rfl
  | true =>
    simp (maxSteps := 2000000) only [GO,GO2,evK,fillV,setR,binV,intOp,strOp,shOp,unV,getR,lenV,partV,V.nj,V.njL,V.cells,Nat.reduceLT,Nat.reduceEqDiff,Nat.reduceAdd,↓reduceIte,Nat.reduceLeDiff,reduceCtorEq,a39_10,hg,h2,h3,hx,hy,Entry.len,Entry.g48]
    exact hk _ h2 h3 (by first | rfl | (simp; done) | exact congrArg V.bool (beq_dec _ _))
theorem s39_11 {P : Program} {E : Env} {K : List Fr} {Q : Po} {x y : Entry} {ρ : Nat → V} {h : H} {bx bz : Nat} {rest : List O} {b : Bool} (hx : h.get bx = some (.cells x.cells 49 false false none)) (hy : h.get bz = some (.cells y.cells 49 false false none)) (h2 : ρ 2 = .ptr (some (bx, 0))) (h3 : ρ 3 = .ptr (some (bz, 0))) (hg : ρ 80 = .bool b) {c : Bool} (hc : Sp P E (.func 61 [] []) [.agg x.part.cells, .agg y.part.cells] h fun v h' => v = .bool c ∧ Kp h h') (hk : ∀ (ρ' : Nat → V) (h' : H), Kp h h' → ρ' 2 = .ptr (some (bx, 0)) → ρ' 3 = .ptr (some (bz, 0)) → ρ' 87 = .bool (b && c) → XO P E none 108 rest K ρ' h' Q) : XO P E none 108 (a39_11 ++ rest) K ρ h Q := by
  have hpart : ∀ z : Entry, List.take 4 (List.drop 49 z.cells) = z.part.cells := fun _ => rfl
  cases b with
  | false =>
    simp (maxSteps := 2000000) only [GO,GO2,evK,fillV,setR,binV,intOp,strOp,shOp,unV,getR,lenV,partV,V.nj,V.njL,V.cells,Nat.reduceLT,Nat.reduceEqDiff,Nat.reduceAdd,↓reduceIte,Nat.reduceLeDiff,reduceCtorEq,a39_11,hg]
    exact hk _ _ (Keeps.refl _ _) h2 h3 rfl
  | true =>
    simp (maxSteps := 2000000) only [GO,GO2,evK,fillV,setR,binV,intOp,strOp,shOp,unV,getR,lenV,partV,V.nj,V.njL,V.cells,Nat.reduceLT,Nat.reduceEqDiff,Nat.reduceAdd,↓reduceIte,Nat.reduceLeDiff,reduceCtorEq,a39_11,hg,h2,h3,hx,hy,Entry.len,hpart]
    refine XC_of hc ?_
    rintro _ h' ⟨rfl, k⟩
    simp (maxSteps := 2000000) only [GO,GO2,evK,fillV,setR,binV,intOp,strOp,shOp,unV,getR,lenV,partV,V.nj,V.njL,V.cells,Nat.reduceLT,Nat.reduceEqDiff,Nat.reduceAdd,↓reduceIte,Nat.reduceLeDiff,reduceCtorEq,hg]
    exact hk _ _ k h2 h3 rfl
theorem s39_12 {P : Program} {E : Env} {K : List Fr} {Q : Po} {x y : Entry} {ρ : Nat → V} {h : H} {bx bz : Nat} {rest : List O} {b : Bool} (hx : h.get bx = some (.cells x.cells 49 false false none)) (hy : h.get bz = some (.cells y.cells 49 false false none)) (h2 : ρ 2 = .ptr (some (bx, 0))) (h3 : ρ 3 = .ptr (some (bz, 0))) (hg : ρ 87 = .bool b) (hk : ∀ (ρ' : Nat → V), ρ' 2 = .ptr (some (bx, 0)) → ρ' 3 = .ptr (some (bz, 0)) → ρ' 94 = .bool (b && decide (x.site = y.site)) → XO P E none 108 rest K ρ' h Q) : XO P E none 108 (a39_12 ++ rest) K ρ h Q := by
  cases b with
  | false =>
    simp (maxSteps := 2000000) only [GO,GO2,evK,fillV,setR,binV,intOp,strOp,shOp,unV,getR,lenV,partV,V.nj,V.njL,V.cells,Nat.reduceLT,Nat.reduceEqDiff,Nat.reduceAdd,↓reduceIte,Nat.reduceLeDiff,reduceCtorEq,a39_12,hg]
    exact hk _ h2 h3 rfl
  | true =>
    simp (maxSteps := 2000000) only [GO,GO2,evK,fillV,setR,binV,intOp,strOp,shOp,unV,getR,lenV,partV,V.nj,V.njL,V.cells,Nat.reduceLT,Nat.reduceEqDiff,Nat.reduceAdd,↓reduceIte,Nat.reduceLeDiff,reduceCtorEq,a39_12,hg,h2,h3,hx,hy,Entry.len,Entry.g53]
    exact hk _ h2 h3 (by first | rfl | (simp; done) | exact congrArg V.bool (beq_dec _ _))
theorem s39_13 {P : Program} {E : Env} {K : List Fr} {Q : Po} {x y : Entry} {ρ : Nat → V} {h : H} {bx bz : Nat} {rest : List O} {b : Bool} (hx : h.get bx = some (.cells x.cells 49 false false none)) (hy : h.get bz = some (.cells y.cells 49 false false none)) (h2 : ρ 2 = .ptr (some (bx, 0))) (h3 : ρ 3 = .ptr (some (bz, 0))) (hg : ρ 94 = .bool b) (hk : ∀ (ρ' : Nat → V), ρ' 2 = .ptr (some (bx, 0)) → ρ' 3 = .ptr (some (bz, 0)) → ρ' 101 = .bool (b && decide (x.sponsor = y.sponsor)) → XO P E none 108 rest K ρ' h Q) : XO P E none 108 (a39_13 ++ rest) K ρ h Q := by
  cases b with
  | false =>
    simp (maxSteps := 2000000) only [GO,GO2,evK,fillV,setR,binV,intOp,strOp,shOp,unV,getR,lenV,partV,V.nj,V.njL,V.cells,Nat.reduceLT,Nat.reduceEqDiff,Nat.reduceAdd,↓reduceIte,Nat.reduceLeDiff,reduceCtorEq,a39_13,hg]
    exact hk _ h2 h3 rfl
  | true =>
    simp (maxSteps := 2000000) only [GO,GO2,evK,fillV,setR,binV,intOp,strOp,shOp,unV,getR,lenV,partV,V.nj,V.njL,V.cells,Nat.reduceLT,Nat.reduceEqDiff,Nat.reduceAdd,↓reduceIte,Nat.reduceLeDiff,reduceCtorEq,a39_13,hg,h2,h3,hx,hy,Entry.len,Entry.g54]
    exact hk _ h2 h3 (by first | rfl | (simp; done) | exact congrArg V.bool (beq_dec _ _))
theorem s39_14 {P : Program} {E : Env} {K : List Fr} {Q : Po} {x y : Entry} {ρ : Nat → V} {h : H} {bx bz : Nat} {rest : List O} {b : Bool} (hx : h.get bx = some (.cells x.cells 49 false false none)) (hy : h.get bz = some (.cells y.cells 49 false false none)) (h2 : ρ 2 = .ptr (some (bx, 0))) (h3 : ρ 3 = .ptr (some (bz, 0))) (hg : ρ 101 = .bool b) (hk : ∀ (ρ' : Nat → V), ρ' 2 = .ptr (some (bx, 0)) → ρ' 3 = .ptr (some (bz, 0)) → ρ' 4 = .bool (b && decide (x.length = y.length)) → XO P E none 108 rest K ρ' h Q) : XO P E none 108 (a39_14 ++ rest) K ρ h Q := by
  cases b with
  | false =>
    simp (maxSteps := 2000000) only [GO,GO2,evK,fillV,setR,binV,intOp,strOp,shOp,unV,getR,lenV,partV,V.nj,V.njL,V.cells,Nat.reduceLT,Nat.reduceEqDiff,Nat.reduceAdd,↓reduceIte,Nat.reduceLeDiff,reduceCtorEq,a39_14,hg]
    exact hk _ h2 h3 rfl
  | true =>
    simp (maxSteps := 2000000) only [GO,GO2,evK,fillV,setR,binV,intOp,strOp,shOp,unV,getR,lenV,partV,V.nj,V.njL,V.cells,Nat.reduceLT,Nat.reduceEqDiff,Nat.reduceAdd,↓reduceIte,Nat.reduceLeDiff,reduceCtorEq,a39_14,hg,h2,h3,hx,hy,Entry.len,Entry.g55]
    exact hk _ h2 h3 (by first | rfl | (simp; done) | exact congrArg V.bool (beq_dec _ _))
set_option maxRecDepth 100000 in
theorem ent39 (F : Fa E) {x y : Entry} {h : H} {d d' : DEnt} (hx : EIn h x d) (hy : EIn h y d') :
    Sp P E (.func 39 [] []) [.agg x.cells, .agg y.cells] h fun r h' => r = .bool (decide (d = d')) ∧ Kp h h' := by
  have hg0 := psh_same h (.cells x.cells 49 false false none)
  have hk0 : Kp h (h.psh (.cells x.cells 49 false false none)) := Keeps.psh (Nat.le_refl _) _
  have hk1 : Kp (h.psh (.cells x.cells 49 false false none)) ((h.psh (.cells x.cells 49 false false none)).psh (.cells y.cells 49 false false none)) := Keeps.psh (Nat.le_refl _) _
  have gy := psh_same (h.psh (.cells x.cells 49 false false none)) (.cells y.cells 49 false false none)
  have gx := Kp.of hk1 hg0
  have kk := Kp.trans hk0 hk1
  refine Sp_fn F.f39 F.p39 (by simp [fn39]) ?_
  simp (maxSteps := 2000000) only [GO,GO2,evK,fillV,setR,binV,intOp,strOp,shOp,unV,getR,lenV,partV,V.nj,V.njL,V.cells,Nat.reduceLT,Nat.reduceEqDiff,Nat.reduceAdd,↓reduceIte,Nat.reduceLeDiff,reduceCtorEq,fn39,c39,r39_0,e39_all]
  generalize (h.psh (.cells x.cells 49 false false none)).psh (.cells y.cells 49 false false none) = h2 at *
  generalize (h.psh (.cells x.cells 49 false false none)).size = B at *
  refine s39_0 gx gy rfl rfl fun ρ p q r => ?_
  refine s39_1 gx gy p q r fun ρ p q r => ?_
  refine s39_2 gx gy p q r fun ρ p q r => ?_
  refine s39_3 gx gy p q r fun ρ p q r => ?_
  refine s39_4 gx gy p q r fun ρ p q r => ?_
  refine s39_5 gx gy p q r fun ρ p q r => ?_
  refine s39_6 gx gy p q r (Sp.kp (eq60 F (hx.ops.keep kk) (hy.ops.keep kk) hx.len)) fun ρ h3 k p q r => ?_
  have gx := Kp.of k gx
  have gy := Kp.of k gy
  have kk := Kp.trans kk k
  refine s39_7 gx gy p q r fun ρ p q r => ?_
  refine s39_8 gx gy p q r fun ρ p q r => ?_
  refine s39_9 gx gy p q r fun ρ p q r => ?_
  refine s39_10 gx gy p q r fun ρ p q r => ?_
  refine s39_11 gx gy p q r (part61 F (hx.dat.keep kk) (hy.dat.keep kk)) fun ρ h3 k p q r => ?_
  have gx := Kp.of k gx
  have gy := Kp.of k gy
  have kk := Kp.trans kk k
  refine s39_12 gx gy p q r fun ρ p q r => ?_
  refine s39_13 gx gy p q r fun ρ p q r => ?_
  rw [← List.append_nil a39_14]
  refine s39_14 gx gy p q r fun ρ p q r => ?_
  simp (maxSteps := 2000000) only [GO,GO2,evK,fillV,setR,binV,intOp,strOp,shOp,unV,getR,lenV,partV,V.nj,V.njL,V.cells,Nat.reduceLT,Nat.reduceEqDiff,Nat.reduceAdd,↓reduceIte,Nat.reduceLeDiff,reduceCtorEq,r]
  refine ⟨?_, kk⟩
  congr 1
  rw [Bool.eq_iff_iff]
  refine Iff.trans ?_ decide_eq_true_iff.symm
  simp only [Bool.and_eq_true, decide_eq_true_eq, beq_iff_eq]
  rw [dent_iff hx.flat hy.flat]
  simp only [flatOf, Flat.mk.injEq, and_assoc, and_comm, and_left_comm]
end Go.AM.Sc
