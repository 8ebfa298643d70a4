/- My own texts of the evaluator, its soundness and its symbolic runs, laid for this claim. -/
import Derived.Test.YtelbgimbkfjabaaAu3Au3b
set_option linter.unusedSimpArgs false
set_option linter.unusedVariables false
/-! Views, compared. -/
namespace Go.AM.Sc
open Go.AM
variable {P : Program} {E : Env}
abbrev eqState (v w : WV) : Prop := v.x.booted = w.x.booted ∧ v.x.epoch = w.x.epoch ∧ v.x.clock = w.x.clock ∧ v.x.frontier = w.x.frontier ∧ v.x.vector = w.x.vector ∧ v.ns.map (·.2) = w.ns.map (·.2) ∧ v.rs = w.rs
abbrev eqView (v w : WV) : Prop := v.x.at_ = w.x.at_ ∧ v.x.up = w.x.up ∧ v.x.leads = w.x.leads ∧ v.x.told = w.x.told ∧ v.x.first = w.x.first ∧ v.es.map (·.2) = w.es.map (·.2) ∧ eqState v w
def a40_0 : List O := [⟨some 5,.fadr 4 (.t 2),none,0,[5,2]⟩,⟨some 6,.load1 (.t 5),none,1,[6,5]⟩,⟨some 7,.fadr 4 (.t 3),none,0,[7,3]⟩,⟨some 8,.load1 (.t 7),none,4,[8,7]⟩,⟨some 9,.bin .eql (some .bool) false (.t 6) (.t 8),none,15,[9,6,8]⟩,⟨some 10,.mv (.t 9),none,31,[10,9]⟩]
def a40_1 : List O := [⟨some 11,.fadr 8 (.t 2),some (10,true),63,[11,10,2]⟩,⟨some 12,.load1 (.t 11),some (10,true),127,[12,10,11]⟩,⟨some 13,.fadr 8 (.t 3),some (10,true),63,[13,10,3]⟩,⟨some 14,.load1 (.t 13),some (10,true),319,[14,10,13]⟩,⟨some 15,.bin .eql (some .int) false (.t 12) (.t 14),some (10,true),1023,[15,10,12,14]⟩,⟨some 16,.pick (.t 10) (.t 15) (.k (.bool false)),none,2047,[16,10,15]⟩,⟨some 17,.mv (.t 16),none,4095,[17,16]⟩]
def a40_2 : List O := [⟨some 18,.fadr 9 (.t 2),some (17,true),8191,[18,17,2]⟩,⟨some 19,.load1 (.t 18),some (17,true),16383,[19,17,18]⟩,⟨some 20,.fadr 9 (.t 3),some (17,true),8191,[20,17,3]⟩,⟨some 21,.load1 (.t 20),some (17,true),40959,[21,17,20]⟩,⟨some 22,.bin .eql (some .int) false (.t 19) (.t 21),some (17,true),131071,[22,17,19,21]⟩,⟨some 23,.pick (.t 17) (.t 22) (.k (.bool false)),none,262143,[23,17,22]⟩,⟨some 24,.mv (.t 23),none,524287,[24,23]⟩]
def a40_3 : List O := [⟨some 25,.fadr 10 (.t 2),some (24,true),1048575,[25,24,2]⟩,⟨some 26,.load1 (.t 25),some (24,true),2097151,[26,24,25]⟩,⟨some 27,.fadr 10 (.t 3),some (24,true),1048575,[27,24,3]⟩,⟨some 28,.load1 (.t 27),some (24,true),5242879,[28,24,27]⟩,⟨some 29,.bin .eql (some .int) false (.t 26) (.t 28),some (24,true),16777215,[29,24,26,28]⟩,⟨some 30,.pick (.t 24) (.t 29) (.k (.bool false)),none,33554431,[30,24,29]⟩,⟨some 31,.mv (.t 30),none,67108863,[31,30]⟩]
def a40_4 : List O := [⟨some 32,.fadr 11 (.t 2),some (31,true),134217727,[32,31,2]⟩,⟨some 33,.loadN 8 (.t 32),some (31,true),268435455,[33,31,32]⟩,⟨some 34,.fadr 11 (.t 3),some (31,true),134217727,[34,31,3]⟩,⟨some 35,.loadN 8 (.t 34),some (31,true),671088639,[35,31,34]⟩,⟨some 36,.bin .eql (some (.ar 8 1 false .int)) false (.t 33) (.t 35),some (31,true),2147483647,[36,31,33,35]⟩,⟨some 37,.pick (.t 31) (.t 36) (.k (.bool false)),none,4294967295,[37,31,36]⟩,⟨some 38,.mv (.t 37),none,8589934591,[38,37]⟩]
def a40_5 : List O := [⟨some 39,.fadr 19 (.t 2),some (38,true),17179869183,[39,38,2]⟩,⟨some 40,.load1 (.t 39),some (38,true),34359738367,[40,38,39]⟩,⟨some 41,.fadr 19 (.t 3),some (38,true),17179869183,[41,38,3]⟩,⟨some 42,.load1 (.t 41),some (38,true),85899345919,[42,38,41]⟩,⟨some 43,.call (.k (.func 62 [] [])) [(.t 40),(.t 42)],some (38,true),274877906943,[43,38,40,42]⟩,⟨some 44,.pick (.t 38) (.t 43) (.k (.bool false)),none,549755813887,[44,38,43]⟩,⟨some 45,.mv (.t 44),none,1099511627775,[45,44]⟩]
def a40_6 : List O := [⟨some 46,.fadr 20 (.t 2),some (45,true),2199023255551,[46,45,2]⟩,⟨some 47,.load1 (.t 46),some (45,true),4398046511103,[47,45,46]⟩,⟨some 48,.fadr 20 (.t 3),some (45,true),2199023255551,[48,45,3]⟩,⟨some 49,.load1 (.t 48),some (45,true),10995116277759,[49,45,48]⟩,⟨some 50,.call (.k (.func 63 [] [])) [(.t 47),(.t 49)],some (45,true),35184372088831,[50,45,47,49]⟩,⟨some 51,.pick (.t 45) (.t 50) (.k (.bool false)),none,70368744177663,[51,45,50]⟩,⟨some 4,.mv (.t 51),none,140737488355327,[4,51]⟩]
set_option maxRecDepth 100000 in
theorem e40_all : r40_1 = a40_0 ++ (a40_1 ++ (a40_2 ++ (a40_3 ++ (a40_4 ++ (a40_5 ++ (a40_6)))))) := rfl
theorem s40_0 {P : Program} {E : Env} {K : List Fr} {Q : Po} {x y : View} {ρ : Nat → V} {h : H} {bx bz : Nat} {rest : List O} (hx : h.get bx = some (.cells x.cells 63 false false none)) (hy : h.get bz = some (.cells y.cells 63 false false none)) (h2 : ρ 2 = .ptr (some (bx, 0))) (h3 : ρ 3 = .ptr (some (bz, 0))) (hk : ∀ (ρ' : Nat → V), ρ' 2 = .ptr (some (bx, 0)) → ρ' 3 = .ptr (some (bz, 0)) → ρ' 10 = .bool (decide (x.booted = y.booted)) → XO P E none 52 rest K ρ' h Q) : XO P E none 52 (a40_0 ++ rest) K ρ h Q := by
  simp (maxSteps := 2000000) only [GO,GO2,evK,fillV,setR,binV,intOp,strOp,shOp,unV,getR,lenV,partV,V.nj,V.njL,V.cells,Nat.reduceLT,Nat.reduceEqDiff,Nat.reduceAdd,↓reduceIte,Nat.reduceLeDiff,reduceCtorEq,a40_0,h2,h3,hx,hy,View.len,View.g4,bool_step]
  exact hk _ h2 h3 (by first | rfl | (simp; done) | exact congrArg V.bool (beq_dec _ _))
theorem s40_1 {P : Program} {E : Env} {K : List Fr} {Q : Po} {x y : View} {ρ : Nat → V} {h : H} {bx bz : Nat} {rest : List O} {b : Bool} (hx : h.get bx = some (.cells x.cells 63 false false none)) (hy : h.get bz = some (.cells y.cells 63 false false none)) (h2 : ρ 2 = .ptr (some (bx, 0))) (h3 : ρ 3 = .ptr (some (bz, 0))) (hg : ρ 10 = .bool b) (hk : ∀ (ρ' : Nat → V), ρ' 2 = .ptr (some (bx, 0)) → ρ' 3 = .ptr (some (bz, 0)) → ρ' 17 = .bool (b && decide (x.epoch = y.epoch)) → XO P E none 52 rest K ρ' h Q) : XO P E none 52 (a40_1 ++ rest) K ρ h Q := by
  cases b with
  | false =>
    simp (maxSteps := 2000000) only [GO,GO2,evK,fillV,setR,binV,intOp,strOp,shOp,unV,getR,lenV,partV,V.nj,V.njL,V.cells,Nat.reduceLT,Nat.reduceEqDiff,Nat.reduceAdd,↓reduceIte,Nat.reduceLeDiff,reduceCtorEq,a40_1,hg]
    exact hk _ h2 h3 rfl
  | true =>
    simp (maxSteps := 2000000) only [GO,GO2,evK,fillV,setR,binV,intOp,strOp,shOp,unV,getR,lenV,partV,V.nj,V.njL,V.cells,Nat.reduceLT,Nat.reduceEqDiff,Nat.reduceAdd,↓reduceIte,Nat.reduceLeDiff,reduceCtorEq,a40_1,hg,h2,h3,hx,hy,View.len,View.g8]
    exact hk _ h2 h3 (by first | rfl | (simp; done) | exact congrArg V.bool (beq_dec _ _))
theorem s40_2 {P : Program} {E : Env} {K : List Fr} {Q : Po} {x y : View} {ρ : Nat → V} {h : H} {bx bz : Nat} {rest : List O} {b : Bool} (hx : h.get bx = some (.cells x.cells 63 false false none)) (hy : h.get bz = some (.cells y.cells 63 false false none)) (h2 : ρ 2 = .ptr (some (bx, 0))) (h3 : ρ 3 = .ptr (some (bz, 0))) (hg : ρ 17 = .bool b) (hk : ∀ (ρ' : Nat → V), ρ' 2 = .ptr (some (bx, 0)) → ρ' 3 = .ptr (some (bz, 0)) → ρ' 24 = .bool (b && decide (x.clock = y.clock)) → XO P E none 52 rest K ρ' h Q) : XO P E none 52 (a40_2 ++ rest) K ρ h Q := by
  cases b with
  | false =>
    simp (maxSteps := 2000000) only [GO,GO2,evK,fillV,setR,binV,intOp,strOp,shOp,unV,getR,lenV,partV,V.nj,V.njL,V.cells,Nat.reduceLT,Nat.reduceEqDiff,Nat.reduceAdd,↓reduceIte,Nat.reduceLeDiff,reduceCtorEq,a40_2,hg]
    exact hk _ h2 h3 rfl
  | true =>
    simp (maxSteps := 2000000) only [GO,GO2,evK,fillV,setR,binV,intOp,strOp,shOp,unV,getR,lenV,partV,V.nj,V.njL,V.cells,Nat.reduceLT,Nat.reduceEqDiff,Nat.reduceAdd,↓reduceIte,Nat.reduceLeDiff,reduceCtorEq,a40_2,hg,h2,h3,hx,hy,View.len,View.g9]
    exact hk _ h2 h3 (by first | rfl | (simp; done) | exact congrArg V.bool (beq_dec _ _))
theorem s40_3 {P : Program} {E : Env} {K : List Fr} {Q : Po} {x y : View} {ρ : Nat → V} {h : H} {bx bz : Nat} {rest : List O} {b : Bool} (hx : h.get bx = some (.cells x.cells 63 false false none)) (hy : h.get bz = some (.cells y.cells 63 false false none)) (h2 : ρ 2 = .ptr (some (bx, 0))) (h3 : ρ 3 = .ptr (some (bz, 0))) (hg : ρ 24 = .bool b) (hk : ∀ (ρ' : Nat → V), ρ' 2 = .ptr (some (bx, 0)) → ρ' 3 = .ptr (some (bz, 0)) → ρ' 31 = .bool (b && decide (x.frontier = y.frontier)) → XO P E none 52 rest K ρ' h Q) : XO P E none 52 (a40_3 ++ rest) K ρ h Q := by
  cases b with
  | false =>
    simp (maxSteps := 2000000) only [GO,GO2,evK,fillV,setR,binV,intOp,strOp,shOp,unV,getR,lenV,partV,V.nj,V.njL,V.cells,Nat.reduceLT,Nat.reduceEqDiff,Nat.reduceAdd,↓reduceIte,Nat.reduceLeDiff,reduceCtorEq,a40_3,hg]
    exact hk _ h2 h3 rfl
  | true =>
    simp (maxSteps := 2000000) only [GO,GO2,evK,fillV,setR,binV,intOp,strOp,shOp,unV,getR,lenV,partV,V.nj,V.njL,V.cells,Nat.reduceLT,Nat.reduceEqDiff,Nat.reduceAdd,↓reduceIte,Nat.reduceLeDiff,reduceCtorEq,a40_3,hg,h2,h3,hx,hy,View.len,View.g10]
    exact hk _ h2 h3 (by first | rfl | (simp; done) | exact congrArg V.bool (beq_dec _ _))
theorem s40_4 {P : Program} {E : Env} {K : List Fr} {Q : Po} {x y : View} {ρ : Nat → V} {h : H} {bx bz : Nat} {rest : List O} {b : Bool} (hx : h.get bx = some (.cells x.cells 63 false false none)) (hy : h.get bz = some (.cells y.cells 63 false false none)) (h2 : ρ 2 = .ptr (some (bx, 0))) (h3 : ρ 3 = .ptr (some (bz, 0))) (hg : ρ 31 = .bool b) (hk : ∀ (ρ' : Nat → V), ρ' 2 = .ptr (some (bx, 0)) → ρ' 3 = .ptr (some (bz, 0)) → ρ' 38 = .bool (b && decide (x.vector = y.vector)) → XO P E none 52 rest K ρ' h Q) : XO P E none 52 (a40_4 ++ rest) K ρ h Q := by
  have hpart : ∀ z : View, List.take 8 (List.drop 11 z.cells) = z.vector.cells := fun _ => rfl
  have heq := Vec.eqv h x.vector y.vector
  cases b with
  | false =>
    simp (maxSteps := 2000000) only [GO,GO2,evK,fillV,setR,binV,intOp,strOp,shOp,unV,getR,lenV,partV,V.nj,V.njL,V.cells,Nat.reduceLT,Nat.reduceEqDiff,Nat.reduceAdd,↓reduceIte,Nat.reduceLeDiff,reduceCtorEq,a40_4,hg]
    exact hk _ h2 h3 rfl
  | true =>
    simp (maxSteps := 2000000) only [GO,GO2,evK,fillV,setR,binV,intOp,strOp,shOp,unV,getR,lenV,partV,V.nj,V.njL,V.cells,Nat.reduceLT,Nat.reduceEqDiff,Nat.reduceAdd,↓reduceIte,Nat.reduceLeDiff,reduceCtorEq,a40_4,hg,h2,h3,hx,hy,View.len,hpart,heq]
    exact hk _ h2 h3 (by first | rfl | (simp; done) | exact congrArg V.bool (beq_dec _ _))
theorem s40_5 {P : Program} {E : Env} {K : List Fr} {Q : Po} {x y : View} {ρ : Nat → V} {h : H} {bx bz : Nat} {rest : List O} {b : Bool} (hx : h.get bx = some (.cells x.cells 63 false false none)) (hy : h.get bz = some (.cells y.cells 63 false false none)) (h2 : ρ 2 = .ptr (some (bx, 0))) (h3 : ρ 3 = .ptr (some (bz, 0))) (hg : ρ 38 = .bool b) {c : Bool} (hc : Sp P E (.func 62 [] []) [x.nodes, y.nodes] h fun v h' => v = .bool c ∧ Kp h h') (hk : ∀ (ρ' : Nat → V) (h' : H), Kp h h' → ρ' 2 = .ptr (some (bx, 0)) → ρ' 3 = .ptr (some (bz, 0)) → ρ' 45 = .bool (b && c) → XO P E none 52 rest K ρ' h' Q) : XO P E none 52 (a40_5 ++ rest) K ρ h Q := by
  cases b with
  | false =>
    simp (maxSteps := 2000000) only [GO,GO2,evK,fillV,setR,binV,intOp,strOp,shOp,unV,getR,lenV,partV,V.nj,V.njL,V.cells,Nat.reduceLT,Nat.reduceEqDiff,Nat.reduceAdd,↓reduceIte,Nat.reduceLeDiff,reduceCtorEq,a40_5,hg]
    exact hk _ _ (Keeps.refl _ _) h2 h3 rfl
  | true =>
    simp (maxSteps := 2000000) only [GO,GO2,evK,fillV,setR,binV,intOp,strOp,shOp,unV,getR,lenV,partV,V.nj,V.njL,V.cells,Nat.reduceLT,Nat.reduceEqDiff,Nat.reduceAdd,↓reduceIte,Nat.reduceLeDiff,reduceCtorEq,a40_5,hg,h2,h3,hx,hy,View.len,View.g19]
    refine XC_of hc ?_
    rintro _ h' ⟨rfl, k⟩
    simp (maxSteps := 2000000) only [GO,GO2,evK,fillV,setR,binV,intOp,strOp,shOp,unV,getR,lenV,partV,V.nj,V.njL,V.cells,Nat.reduceLT,Nat.reduceEqDiff,Nat.reduceAdd,↓reduceIte,Nat.reduceLeDiff,reduceCtorEq,hg]
    exact hk _ _ k h2 h3 rfl
theorem s40_6 {P : Program} {E : Env} {K : List Fr} {Q : Po} {x y : View} {ρ : Nat → V} {h : H} {bx bz : Nat} {rest : List O} {b : Bool} (hx : h.get bx = some (.cells x.cells 63 false false none)) (hy : h.get bz = some (.cells y.cells 63 false false none)) (h2 : ρ 2 = .ptr (some (bx, 0))) (h3 : ρ 3 = .ptr (some (bz, 0))) (hg : ρ 45 = .bool b) {c : Bool} (hc : Sp P E (.func 63 [] []) [x.rows, y.rows] h fun v h' => v = .bool c ∧ Kp h h') (hk : ∀ (ρ' : Nat → V) (h' : H), Kp h h' → ρ' 2 = .ptr (some (bx, 0)) → ρ' 3 = .ptr (some (bz, 0)) → ρ' 4 = .bool (b && c) → XO P E none 52 rest K ρ' h' Q) : XO P E none 52 (a40_6 ++ rest) K ρ h Q := by
  cases b with
  | false =>
    simp (maxSteps := 2000000) only [GO,GO2,evK,fillV,setR,binV,intOp,strOp,shOp,unV,getR,lenV,partV,V.nj,V.njL,V.cells,Nat.reduceLT,Nat.reduceEqDiff,Nat.reduceAdd,↓reduceIte,Nat.reduceLeDiff,reduceCtorEq,a40_6,hg]
    exact hk _ _ (Keeps.refl _ _) h2 h3 rfl
  | true =>
    simp (maxSteps := 2000000) only [GO,GO2,evK,fillV,setR,binV,intOp,strOp,shOp,unV,getR,lenV,partV,V.nj,V.njL,V.cells,Nat.reduceLT,Nat.reduceEqDiff,Nat.reduceAdd,↓reduceIte,Nat.reduceLeDiff,reduceCtorEq,a40_6,hg,h2,h3,hx,hy,View.len,View.g20]
    refine XC_of hc ?_
    rintro _ h' ⟨rfl, k⟩
    simp (maxSteps := 2000000) only [GO,GO2,evK,fillV,setR,binV,intOp,strOp,shOp,unV,getR,lenV,partV,V.nj,V.njL,V.cells,Nat.reduceLT,Nat.reduceEqDiff,Nat.reduceAdd,↓reduceIte,Nat.reduceLeDiff,reduceCtorEq,hg]
    exact hk _ _ k h2 h3 rfl
set_option maxRecDepth 100000 in
theorem state40 (F : Fa E) {x y : View} {h : H} {es es' : List (Entry × DEnt)} {ns ns' : List (TNode × DNode)} {rs rs' : List Row} (hx : VIn h ⟨x, es, ns, rs⟩) (hy : VIn h ⟨y, es', ns', rs'⟩) :
    Sp P E (.func 40 [] []) [.agg x.cells, .agg y.cells] h fun r h' => r = .bool (decide (eqState ⟨x, es, ns, rs⟩ ⟨y, es', ns', rs'⟩)) ∧ Kp h h' := by
  have hg0 := psh_same h (.cells x.cells 63 false false none)
  have hk0 : Kp h (h.psh (.cells x.cells 63 false false none)) := Keeps.psh (Nat.le_refl _) _
  have hk1 : Kp (h.psh (.cells x.cells 63 false false none)) ((h.psh (.cells x.cells 63 false false none)).psh (.cells y.cells 63 false false none)) := Keeps.psh (Nat.le_refl _) _
  have gy := psh_same (h.psh (.cells x.cells 63 false false none)) (.cells y.cells 63 false false none)
  have gx := Kp.of hk1 hg0
  have kk := Kp.trans hk0 hk1
  refine Sp_fn F.f40 F.p40 (by simp [fn40]) ?_
  simp (maxSteps := 2000000) only [GO,GO2,evK,fillV,setR,binV,intOp,strOp,shOp,unV,getR,lenV,partV,V.nj,V.njL,V.cells,Nat.reduceLT,Nat.reduceEqDiff,Nat.reduceAdd,↓reduceIte,Nat.reduceLeDiff,reduceCtorEq,fn40,c40,r40_0,e40_all]
  generalize (h.psh (.cells x.cells 63 false false none)).psh (.cells y.cells 63 false false none) = h2 at *
  generalize (h.psh (.cells x.cells 63 false false none)).size = B at *
  refine s40_0 gx gy rfl rfl fun ρ p q r => ?_
  refine s40_1 gx gy p q r fun ρ p q r => ?_
  refine s40_2 gx gy p q r fun ρ p q r => ?_
  refine s40_3 gx gy p q r fun ρ p q r => ?_
  refine s40_4 gx gy p q r fun ρ p q r => ?_
  refine s40_5 gx gy p q r (nodes62 F (hx.nodes.keep kk) (fun p hp => (hx.nds p hp).keep kk) (hy.nodes.keep kk) (fun p hp => (hy.nds p hp).keep kk) hx.nlen) fun ρ h3 k p q r => ?_
  have gx := Kp.of k gx
  have gy := Kp.of k gy
  have kk := Kp.trans kk k
  rw [← List.append_nil a40_6]
  refine s40_6 gx gy p q r (Sp.kp (eq63 F (hx.rows.keep kk) (hy.rows.keep kk) hx.rlen)) fun ρ h3 k p q r => ?_
  have gx := Kp.of k gx
  have gy := Kp.of k gy
  have kk := Kp.trans kk k
  simp (maxSteps := 2000000) only [GO,GO2,evK,fillV,setR,binV,intOp,strOp,shOp,unV,getR,lenV,partV,V.nj,V.njL,V.cells,Nat.reduceLT,Nat.reduceEqDiff,Nat.reduceAdd,↓reduceIte,Nat.reduceLeDiff,reduceCtorEq,r]
  refine ⟨?_, kk⟩
  congr 1
  rw [Bool.eq_iff_iff]
  refine Iff.trans ?_ decide_eq_true_iff.symm
  simp only [Bool.and_eq_true, decide_eq_true_eq, beq_iff_eq]
  simp only [and_assoc]
def a21_0 : List O := [⟨some 5,.fadr 4 (.t 2),none,0,[5,2]⟩,⟨some 6,.load1 (.t 5),none,1,[6,5]⟩,⟨some 7,.fadr 4 (.t 3),none,0,[7,3]⟩,⟨some 8,.load1 (.t 7),none,4,[8,7]⟩,⟨some 9,.bin .eql (some .bool) false (.t 6) (.t 8),none,15,[9,6,8]⟩,⟨some 10,.mv (.t 9),none,31,[10,9]⟩]
def a21_1 : List O := [⟨some 11,.fadr 8 (.t 2),some (10,true),63,[11,10,2]⟩,⟨some 12,.load1 (.t 11),some (10,true),127,[12,10,11]⟩,⟨some 13,.fadr 8 (.t 3),some (10,true),63,[13,10,3]⟩,⟨some 14,.load1 (.t 13),some (10,true),319,[14,10,13]⟩,⟨some 15,.bin .eql (some .int) false (.t 12) (.t 14),some (10,true),1023,[15,10,12,14]⟩,⟨some 16,.pick (.t 10) (.t 15) (.k (.bool false)),none,2047,[16,10,15]⟩,⟨some 17,.mv (.t 16),none,4095,[17,16]⟩]
def a21_2 : List O := [⟨some 18,.fadr 9 (.t 2),some (17,true),8191,[18,17,2]⟩,⟨some 19,.load1 (.t 18),some (17,true),16383,[19,17,18]⟩,⟨some 20,.fadr 9 (.t 3),some (17,true),8191,[20,17,3]⟩,⟨some 21,.load1 (.t 20),some (17,true),40959,[21,17,20]⟩,⟨some 22,.bin .eql (some .int) false (.t 19) (.t 21),some (17,true),131071,[22,17,19,21]⟩,⟨some 23,.pick (.t 17) (.t 22) (.k (.bool false)),none,262143,[23,17,22]⟩,⟨some 24,.mv (.t 23),none,524287,[24,23]⟩]
def a21_3 : List O := [⟨some 25,.fadr 10 (.t 2),some (24,true),1048575,[25,24,2]⟩,⟨some 26,.load1 (.t 25),some (24,true),2097151,[26,24,25]⟩,⟨some 27,.fadr 10 (.t 3),some (24,true),1048575,[27,24,3]⟩,⟨some 28,.load1 (.t 27),some (24,true),5242879,[28,24,27]⟩,⟨some 29,.bin .eql (some .int) false (.t 26) (.t 28),some (24,true),16777215,[29,24,26,28]⟩,⟨some 30,.pick (.t 24) (.t 29) (.k (.bool false)),none,33554431,[30,24,29]⟩,⟨some 31,.mv (.t 30),none,67108863,[31,30]⟩]
def a21_4 : List O := [⟨some 32,.fadr 11 (.t 2),some (31,true),134217727,[32,31,2]⟩,⟨some 33,.loadN 8 (.t 32),some (31,true),268435455,[33,31,32]⟩,⟨some 34,.fadr 11 (.t 3),some (31,true),134217727,[34,31,3]⟩,⟨some 35,.loadN 8 (.t 34),some (31,true),671088639,[35,31,34]⟩,⟨some 36,.bin .eql (some (.ar 8 1 false .int)) false (.t 33) (.t 35),some (31,true),2147483647,[36,31,33,35]⟩,⟨some 37,.pick (.t 31) (.t 36) (.k (.bool false)),none,4294967295,[37,31,36]⟩,⟨some 38,.mv (.t 37),none,8589934591,[38,37]⟩]
def a21_5 : List O := [⟨some 39,.fadr 19 (.t 2),some (38,true),17179869183,[39,38,2]⟩,⟨some 40,.load1 (.t 39),some (38,true),34359738367,[40,38,39]⟩,⟨some 41,.fadr 19 (.t 3),some (38,true),17179869183,[41,38,3]⟩,⟨some 42,.load1 (.t 41),some (38,true),85899345919,[42,38,41]⟩,⟨some 43,.call (.k (.func 22 [] [])) [(.t 40),(.t 42)],some (38,true),274877906943,[43,38,40,42]⟩,⟨some 44,.pick (.t 38) (.t 43) (.k (.bool false)),none,549755813887,[44,38,43]⟩,⟨some 45,.mv (.t 44),none,1099511627775,[45,44]⟩]
def a21_6 : List O := [⟨some 46,.fadr 20 (.t 2),some (45,true),2199023255551,[46,45,2]⟩,⟨some 47,.load1 (.t 46),some (45,true),4398046511103,[47,45,46]⟩,⟨some 48,.fadr 20 (.t 3),some (45,true),2199023255551,[48,45,3]⟩,⟨some 49,.load1 (.t 48),some (45,true),10995116277759,[49,45,48]⟩,⟨some 50,.call (.k (.func 42 [] [])) [(.t 47),(.t 49)],some (45,true),35184372088831,[50,45,47,49]⟩,⟨some 51,.pick (.t 45) (.t 50) (.k (.bool false)),none,70368744177663,[51,45,50]⟩,⟨some 4,.mv (.t 51),none,140737488355327,[4,51]⟩]
set_option maxRecDepth 100000 in
theorem e21_all : r21_1 = a21_0 ++ (a21_1 ++ (a21_2 ++ (a21_3 ++ (a21_4 ++ (a21_5 ++ (a21_6)))))) := rfl
theorem s21_0 {P : Program} {E : Env} {K : List Fr} {Q : Po} {x y : View} {ρ : Nat → V} {h : H} {bx bz : Nat} {rest : List O} (hx : h.get bx = some (.cells x.cells 63 false false none)) (hy : h.get bz = some (.cells y.cells 63 false false none)) (h2 : ρ 2 = .ptr (some (bx, 0))) (h3 : ρ 3 = .ptr (some (bz, 0))) (hk : ∀ (ρ' : Nat → V), ρ' 2 = .ptr (some (bx, 0)) → ρ' 3 = .ptr (some (bz, 0)) → ρ' 10 = .bool (decide (x.booted = y.booted)) → XO P E none 52 rest K ρ' h Q) : XO P E none 52 (a21_0 ++ rest) K ρ h Q := by
  simp (maxSteps := 2000000) only [GO,GO2,evK,fillV,setR,binV,intOp,strOp,shOp,unV,getR,lenV,partV,V.nj,V.njL,V.cells,Nat.reduceLT,Nat.reduceEqDiff,Nat.reduceAdd,↓reduceIte,Nat.reduceLeDiff,reduceCtorEq,a21_0,h2,h3,hx,hy,View.len,View.g4,bool_step]
  exact hk _ h2 h3 (by first | rfl | (simp; done) | exact congrArg V.bool (beq_dec _ _))
theorem s21_1 {P : Program} {E : Env} {K : List Fr} {Q : Po} {x y : View} {ρ : Nat → V} {h : H} {bx bz : Nat} {rest : List O} {b : Bool} (hx : h.get bx = some (.cells x.cells 63 false false none)) (hy : h.get bz = some (.cells y.cells 63 false false none)) (h2 : ρ 2 = .ptr (some (bx, 0))) (h3 : ρ 3 = .ptr (some (bz, 0))) (hg : ρ 10 = .bool b) (hk : ∀ (ρ' : Nat → V), ρ' 2 = .ptr (some (bx, 0)) → ρ' 3 = .ptr (some (bz, 0)) → ρ' 17 = .bool (b && decide (x.epoch = y.epoch)) → XO P E none 52 rest K ρ' h Q) : XO P E none 52 (a21_1 ++ rest) K ρ h Q := by
  cases b with
  | false =>
    simp (maxSteps := 2000000) only [GO,GO2,evK,fillV,setR,binV,intOp,strOp,shOp,unV,getR,lenV,partV,V.nj,V.njL,V.cells,Nat.reduceLT,Nat.reduceEqDiff,Nat.reduceAdd,↓reduceIte,Nat.reduceLeDiff,reduceCtorEq,a21_1,hg]
    exact hk _ h2 h3 rfl
  | true =>
    simp (maxSteps := 2000000) only [GO,GO2,evK,fillV,setR,binV,intOp,strOp,shOp,unV,getR,lenV,partV,V.nj,V.njL,V.cells,Nat.reduceLT,Nat.reduceEqDiff,Nat.reduceAdd,↓reduceIte,Nat.reduceLeDiff,reduceCtorEq,a21_1,hg,h2,h3,hx,hy,View.len,View.g8]
    exact hk _ h2 h3 (by first | rfl | (simp; done) | exact congrArg V.bool (beq_dec _ _))
theorem s21_2 {P : Program} {E : Env} {K : List Fr} {Q : Po} {x y : View} {ρ : Nat → V} {h : H} {bx bz : Nat} {rest : List O} {b : Bool} (hx : h.get bx = some (.cells x.cells 63 false false none)) (hy : h.get bz = some (.cells y.cells 63 false false none)) (h2 : ρ 2 = .ptr (some (bx, 0))) (h3 : ρ 3 = .ptr (some (bz, 0))) (hg : ρ 17 = .bool b) (hk : ∀ (ρ' : Nat → V), ρ' 2 = .ptr (some (bx, 0)) → ρ' 3 = .ptr (some (bz, 0)) → ρ' 24 = .bool (b && decide (x.clock = y.clock)) → XO P E none 52 rest K ρ' h Q) : XO P E none 52 (a21_2 ++ rest) K ρ h Q := by
  cases b with
  | false =>
    simp (maxSteps := 2000000) only [GO,GO2,evK,fillV,setR,binV,intOp,strOp,shOp,unV,getR,lenV,partV,V.nj,V.njL,V.cells,Nat.reduceLT,Nat.reduceEqDiff,Nat.reduceAdd,↓reduceIte,Nat.reduceLeDiff,reduceCtorEq,a21_2,hg]
    exact hk _ h2 h3 rfl
  | true =>
    simp (maxSteps := 2000000) only [GO,GO2,evK,fillV,setR,binV,intOp,strOp,shOp,unV,getR,lenV,partV,V.nj,V.njL,V.cells,Nat.reduceLT,Nat.reduceEqDiff,Nat.reduceAdd,↓reduceIte,Nat.reduceLeDiff,reduceCtorEq,a21_2,hg,h2,h3,hx,hy,View.len,View.g9]
    exact hk _ h2 h3 (by first | rfl | (simp; done) | exact congrArg V.bool (beq_dec _ _))
theorem s21_3 {P : Program} {E : Env} {K : List Fr} {Q : Po} {x y : View} {ρ : Nat → V} {h : H} {bx bz : Nat} {rest : List O} {b : Bool} (hx : h.get bx = some (.cells x.cells 63 false false none)) (hy : h.get bz = some (.cells y.cells 63 false false none)) (h2 : ρ 2 = .ptr (some (bx, 0))) (h3 : ρ 3 = .ptr (some (bz, 0))) (hg : ρ 24 = .bool b) (hk : ∀ (ρ' : Nat → V), ρ' 2 = .ptr (some (bx, 0)) → ρ' 3 = .ptr (some (bz, 0)) → ρ' 31 = .bool (b && decide (x.frontier = y.frontier)) → XO P E none 52 rest K ρ' h Q) : XO P E none 52 (a21_3 ++ rest) K ρ h Q := by
  cases b with
  | false =>
    simp (maxSteps := 2000000) only [GO,GO2,evK,fillV,setR,binV,intOp,strOp,shOp,unV,getR,lenV,partV,V.nj,V.njL,V.cells,Nat.reduceLT,Nat.reduceEqDiff,Nat.reduceAdd,↓reduceIte,Nat.reduceLeDiff,reduceCtorEq,a21_3,hg]
    exact hk _ h2 h3 rfl
  | true =>
    simp (maxSteps := 2000000) only [GO,GO2,evK,fillV,setR,binV,intOp,strOp,shOp,unV,getR,lenV,partV,V.nj,V.njL,V.cells,Nat.reduceLT,Nat.reduceEqDiff,Nat.reduceAdd,↓reduceIte,Nat.reduceLeDiff,reduceCtorEq,a21_3,hg,h2,h3,hx,hy,View.len,View.g10]
    exact hk _ h2 h3 (by first | rfl | (simp; done) | exact congrArg V.bool (beq_dec _ _))
theorem s21_4 {P : Program} {E : Env} {K : List Fr} {Q : Po} {x y : View} {ρ : Nat → V} {h : H} {bx bz : Nat} {rest : List O} {b : Bool} (hx : h.get bx = some (.cells x.cells 63 false false none)) (hy : h.get bz = some (.cells y.cells 63 false false none)) (h2 : ρ 2 = .ptr (some (bx, 0))) (h3 : ρ 3 = .ptr (some (bz, 0))) (hg : ρ 31 = .bool b) (hk : ∀ (ρ' : Nat → V), ρ' 2 = .ptr (some (bx, 0)) → ρ' 3 = .ptr (some (bz, 0)) → ρ' 38 = .bool (b && decide (x.vector = y.vector)) → XO P E none 52 rest K ρ' h Q) : XO P E none 52 (a21_4 ++ rest) K ρ h Q := by
  have hpart : ∀ z : View, List.take 8 (List.drop 11 z.cells) = z.vector.cells := fun _ => rfl
  have heq := Vec.eqv h x.vector y.vector
  cases b with
  | false =>
    simp (maxSteps := 2000000) only [GO,GO2,evK,fillV,setR,binV,intOp,strOp,shOp,unV,getR,lenV,partV,V.nj,V.njL,V.cells,Nat.reduceLT,Nat.reduceEqDiff,Nat.reduceAdd,↓reduceIte,Nat.reduceLeDiff,reduceCtorEq,a21_4,hg]
    exact hk _ h2 h3 rfl
  | true =>
    simp (maxSteps := 2000000) only [GO,GO2,evK,fillV,setR,binV,intOp,strOp,shOp,unV,getR,lenV,partV,V.nj,V.njL,V.cells,Nat.reduceLT,Nat.reduceEqDiff,Nat.reduceAdd,↓reduceIte,Nat.reduceLeDiff,reduceCtorEq,a21_4,hg,h2,h3,hx,hy,View.len,hpart,heq]
    exact hk _ h2 h3 (by first | rfl | (simp; done) | exact congrArg V.bool (beq_dec _ _))
theorem s21_5 {P : Program} {E : Env} {K : List Fr} {Q : Po} {x y : View} {ρ : Nat → V} {h : H} {bx bz : Nat} {rest : List O} {b : Bool} (hx : h.get bx = some (.cells x.cells 63 false false none)) (hy : h.get bz = some (.cells y.cells 63 false false none)) (h2 : ρ 2 = .ptr (some (bx, 0))) (h3 : ρ 3 = .ptr (some (bz, 0))) (hg : ρ 38 = .bool b) {c : Bool} (hc : Sp P E (.func 22 [] []) [x.nodes, y.nodes] h fun v h' => v = .bool c ∧ Kp h h') (hk : ∀ (ρ' : Nat → V) (h' : H), Kp h h' → ρ' 2 = .ptr (some (bx, 0)) → ρ' 3 = .ptr (some (bz, 0)) → ρ' 45 = .bool (b && c) → XO P E none 52 rest K ρ' h' Q) : XO P E none 52 (a21_5 ++ rest) K ρ h Q := by
  cases b with
  | false =>
    simp (maxSteps := 2000000) only [GO,GO2,evK,fillV,setR,binV,intOp,strOp,shOp,unV,getR,lenV,partV,V.nj,V.njL,V.cells,Nat.reduceLT,Nat.reduceEqDiff,Nat.reduceAdd,↓reduceIte,Nat.reduceLeDiff,reduceCtorEq,a21_5,hg]
    exact hk _ _ (Keeps.refl _ _) h2 h3 rfl
  | true =>
    simp (maxSteps := 2000000) only [GO,GO2,evK,fillV,setR,binV,intOp,strOp,shOp,unV,getR,lenV,partV,V.nj,V.njL,V.cells,Nat.reduceLT,Nat.reduceEqDiff,Nat.reduceAdd,↓reduceIte,Nat.reduceLeDiff,reduceCtorEq,a21_5,hg,h2,h3,hx,hy,View.len,View.g19]
    refine XC_of hc ?_
    rintro _ h' ⟨rfl, k⟩
    simp (maxSteps := 2000000) only [GO,GO2,evK,fillV,setR,binV,intOp,strOp,shOp,unV,getR,lenV,partV,V.nj,V.njL,V.cells,Nat.reduceLT,Nat.reduceEqDiff,Nat.reduceAdd,↓reduceIte,Nat.reduceLeDiff,reduceCtorEq,hg]
    exact hk _ _ k h2 h3 rfl
theorem s21_6 {P : Program} {E : Env} {K : List Fr} {Q : Po} {x y : View} {ρ : Nat → V} {h : H} {bx bz : Nat} {rest : List O} {b : Bool} (hx : h.get bx = some (.cells x.cells 63 false false none)) (hy : h.get bz = some (.cells y.cells 63 false false none)) (h2 : ρ 2 = .ptr (some (bx, 0))) (h3 : ρ 3 = .ptr (some (bz, 0))) (hg : ρ 45 = .bool b) {c : Bool} (hc : Sp P E (.func 42 [] []) [x.rows, y.rows] h fun v h' => v = .bool c ∧ Kp h h') (hk : ∀ (ρ' : Nat → V) (h' : H), Kp h h' → ρ' 2 = .ptr (some (bx, 0)) → ρ' 3 = .ptr (some (bz, 0)) → ρ' 4 = .bool (b && c) → XO P E none 52 rest K ρ' h' Q) : XO P E none 52 (a21_6 ++ rest) K ρ h Q := by
  cases b with
  | false =>
    simp (maxSteps := 2000000) only [GO,GO2,evK,fillV,setR,binV,intOp,strOp,shOp,unV,getR,lenV,partV,V.nj,V.njL,V.cells,Nat.reduceLT,Nat.reduceEqDiff,Nat.reduceAdd,↓reduceIte,Nat.reduceLeDiff,reduceCtorEq,a21_6,hg]
    exact hk _ _ (Keeps.refl _ _) h2 h3 rfl
  | true =>
    simp (maxSteps := 2000000) only [GO,GO2,evK,fillV,setR,binV,intOp,strOp,shOp,unV,getR,lenV,partV,V.nj,V.njL,V.cells,Nat.reduceLT,Nat.reduceEqDiff,Nat.reduceAdd,↓reduceIte,Nat.reduceLeDiff,reduceCtorEq,a21_6,hg,h2,h3,hx,hy,View.len,View.g20]
    refine XC_of hc ?_
    rintro _ h' ⟨rfl, k⟩
    simp (maxSteps := 2000000) only [GO,GO2,evK,fillV,setR,binV,intOp,strOp,shOp,unV,getR,lenV,partV,V.nj,V.njL,V.cells,Nat.reduceLT,Nat.reduceEqDiff,Nat.reduceAdd,↓reduceIte,Nat.reduceLeDiff,reduceCtorEq,hg]
    exact hk _ _ k h2 h3 rfl
set_option maxRecDepth 100000 in
theorem state21 (F : Fa E) {x y : View} {h : H} {es es' : List (Entry × DEnt)} {ns ns' : List (TNode × DNode)} {rs rs' : List Row} (hx : VIn h ⟨x, es, ns, rs⟩) (hy : VIn h ⟨y, es', ns', rs'⟩) :
    Sp P E (.func 21 [] []) [.agg x.cells, .agg y.cells] h fun r h' => r = .bool (decide (eqState ⟨x, es, ns, rs⟩ ⟨y, es', ns', rs'⟩)) ∧ Kp h h' := by
  have hg0 := psh_same h (.cells x.cells 63 false false none)
  have hk0 : Kp h (h.psh (.cells x.cells 63 false false none)) := Keeps.psh (Nat.le_refl _) _
  have hk1 : Kp (h.psh (.cells x.cells 63 false false none)) ((h.psh (.cells x.cells 63 false false none)).psh (.cells y.cells 63 false false none)) := Keeps.psh (Nat.le_refl _) _
  have gy := psh_same (h.psh (.cells x.cells 63 false false none)) (.cells y.cells 63 false false none)
  have gx := Kp.of hk1 hg0
  have kk := Kp.trans hk0 hk1
  refine Sp_fn F.f21 F.p21 (by simp [fn21]) ?_
  simp (maxSteps := 2000000) only [GO,GO2,evK,fillV,setR,binV,intOp,strOp,shOp,unV,getR,lenV,partV,V.nj,V.njL,V.cells,Nat.reduceLT,Nat.reduceEqDiff,Nat.reduceAdd,↓reduceIte,Nat.reduceLeDiff,reduceCtorEq,fn21,c21,r21_0,e21_all]
  generalize (h.psh (.cells x.cells 63 false false none)).psh (.cells y.cells 63 false false none) = h2 at *
  generalize (h.psh (.cells x.cells 63 false false none)).size = B at *
  refine s21_0 gx gy rfl rfl fun ρ p q r => ?_
  refine s21_1 gx gy p q r fun ρ p q r => ?_
  refine s21_2 gx gy p q r fun ρ p q r => ?_
  refine s21_3 gx gy p q r fun ρ p q r => ?_
  refine s21_4 gx gy p q r fun ρ p q r => ?_
  refine s21_5 gx gy p q r (eql22 F (hx.nodes.keep kk) (fun p hp => (hx.nds p hp).keep kk) (hy.nodes.keep kk) (fun p hp => (hy.nds p hp).keep kk) hx.nlen) fun ρ h3 k p q r => ?_
  have gx := Kp.of k gx
  have gy := Kp.of k gy
  have kk := Kp.trans kk k
  rw [← List.append_nil a21_6]
  refine s21_6 gx gy p q r (Sp.kp (eq42 F (hx.rows.keep kk) (hy.rows.keep kk) hx.rlen)) fun ρ h3 k p q r => ?_
  have gx := Kp.of k gx
  have gy := Kp.of k gy
  have kk := Kp.trans kk k
  simp (maxSteps := 2000000) only [GO,GO2,evK,fillV,setR,binV,intOp,strOp,shOp,unV,getR,lenV,partV,V.nj,V.njL,V.cells,Nat.reduceLT,Nat.reduceEqDiff,Nat.reduceAdd,↓reduceIte,Nat.reduceLeDiff,reduceCtorEq,r]
  refine ⟨?_, kk⟩
  congr 1
  rw [Bool.eq_iff_iff]
  refine Iff.trans ?_ decide_eq_true_iff.symm
  simp only [Bool.and_eq_true, decide_eq_true_eq, beq_iff_eq]
  simp only [and_assoc]
def a17_0 : List O := [⟨some 5,.fadr 0 (.t 2),none,0,[5,2]⟩,⟨some 6,.loadN 2 (.t 5),none,1,[6,5]⟩,⟨some 7,.fadr 0 (.t 3),none,0,[7,3]⟩,⟨some 8,.loadN 2 (.t 7),none,4,[8,7]⟩,⟨some 9,.bin .eql (some (.fcons 0 1 false .int (.fcons 1 1 false .int .fnil))) false (.t 6) (.t 8),none,15,[9,6,8]⟩,⟨some 10,.mv (.t 9),none,31,[10,9]⟩]
def a17_1 : List O := [⟨some 11,.fadr 2 (.t 2),some (10,true),63,[11,10,2]⟩,⟨some 12,.load1 (.t 11),some (10,true),127,[12,10,11]⟩,⟨some 13,.fadr 2 (.t 3),some (10,true),63,[13,10,3]⟩,⟨some 14,.load1 (.t 13),some (10,true),319,[14,10,13]⟩,⟨some 15,.bin .eql (some .bool) false (.t 12) (.t 14),some (10,true),1023,[15,10,12,14]⟩,⟨some 16,.pick (.t 10) (.t 15) (.k (.bool false)),none,2047,[16,10,15]⟩,⟨some 17,.mv (.t 16),none,4095,[17,16]⟩]
def a17_2 : List O := [⟨some 18,.fadr 3 (.t 2),some (17,true),8191,[18,17,2]⟩,⟨some 19,.load1 (.t 18),some (17,true),16383,[19,17,18]⟩,⟨some 20,.fadr 3 (.t 3),some (17,true),8191,[20,17,3]⟩,⟨some 21,.load1 (.t 20),some (17,true),40959,[21,17,20]⟩,⟨some 22,.bin .eql (some .bool) false (.t 19) (.t 21),some (17,true),131071,[22,17,19,21]⟩,⟨some 23,.pick (.t 17) (.t 22) (.k (.bool false)),none,262143,[23,17,22]⟩,⟨some 24,.mv (.t 23),none,524287,[24,23]⟩]
def a17_3 : List O := [⟨some 25,.fadr 5 (.t 2),some (24,true),1048575,[25,24,2]⟩,⟨some 26,.load1 (.t 25),some (24,true),2097151,[26,24,25]⟩,⟨some 27,.fadr 5 (.t 3),some (24,true),1048575,[27,24,3]⟩,⟨some 28,.load1 (.t 27),some (24,true),5242879,[28,24,27]⟩,⟨some 29,.bin .eql (some .int) false (.t 26) (.t 28),some (24,true),16777215,[29,24,26,28]⟩,⟨some 30,.pick (.t 24) (.t 29) (.k (.bool false)),none,33554431,[30,24,29]⟩,⟨some 31,.mv (.t 30),none,67108863,[31,30]⟩]
def a17_4 : List O := [⟨some 32,.fadr 6 (.t 2),some (31,true),134217727,[32,31,2]⟩,⟨some 33,.load1 (.t 32),some (31,true),268435455,[33,31,32]⟩,⟨some 34,.fadr 6 (.t 3),some (31,true),134217727,[34,31,3]⟩,⟨some 35,.load1 (.t 34),some (31,true),671088639,[35,31,34]⟩,⟨some 36,.bin .eql (some .int) false (.t 33) (.t 35),some (31,true),2147483647,[36,31,33,35]⟩,⟨some 37,.pick (.t 31) (.t 36) (.k (.bool false)),none,4294967295,[37,31,36]⟩,⟨some 38,.mv (.t 37),none,8589934591,[38,37]⟩]
def a17_5 : List O := [⟨some 39,.fadr 7 (.t 2),some (38,true),17179869183,[39,38,2]⟩,⟨some 40,.load1 (.t 39),some (38,true),34359738367,[40,38,39]⟩,⟨some 41,.fadr 7 (.t 3),some (38,true),17179869183,[41,38,3]⟩,⟨some 42,.load1 (.t 41),some (38,true),85899345919,[42,38,41]⟩,⟨some 43,.call (.k (.func 38 [] [])) [(.t 40),(.t 42),(.k (.func 39 [] []))],some (38,true),274877906943,[43,38,40,42]⟩,⟨some 44,.pick (.t 38) (.t 43) (.k (.bool false)),none,549755813887,[44,38,43]⟩,⟨some 45,.mv (.t 44),none,1099511627775,[45,44]⟩]
def a17_6 : List O := [⟨some 46,.loadN 21 (.t 2),some (45,true),2199023255551,[46,45,2]⟩,⟨some 47,.loadN 21 (.t 3),some (45,true),2199023255551,[47,45,3]⟩,⟨some 48,.call (.k (.func 40 [] [])) [(.t 46),(.t 47)],some (45,true),8796093022207,[48,45,46,47]⟩,⟨some 49,.pick (.t 45) (.t 48) (.k (.bool false)),none,17592186044415,[49,45,48]⟩,⟨some 4,.mv (.t 49),none,35184372088831,[4,49]⟩]
set_option maxRecDepth 100000 in
theorem e17_all : r17_1 = a17_0 ++ (a17_1 ++ (a17_2 ++ (a17_3 ++ (a17_4 ++ (a17_5 ++ (a17_6)))))) := rfl
theorem s17_0 {P : Program} {E : Env} {K : List Fr} {Q : Po} {x y : View} {ρ : Nat → V} {h : H} {bx bz : Nat} {rest : List O} (hx : h.get bx = some (.cells x.cells 63 false false none)) (hy : h.get bz = some (.cells y.cells 63 false false none)) (h2 : ρ 2 = .ptr (some (bx, 0))) (h3 : ρ 3 = .ptr (some (bz, 0))) (hk : ∀ (ρ' : Nat → V), ρ' 2 = .ptr (some (bx, 0)) → ρ' 3 = .ptr (some (bz, 0)) → ρ' 10 = .bool (decide (x.at_ = y.at_)) → XO P E none 50 rest K ρ' h Q) : XO P E none 50 (a17_0 ++ rest) K ρ h Q := by
  have hpart : ∀ z : View, List.take 2 (List.drop 0 z.cells) = z.at_.cells := fun _ => rfl
  have hpart0 : ∀ z : View, List.take 2 z.cells = z.at_.cells := fun _ => rfl
  have heq := Addr.eqv h x.at_ y.at_
  simp (maxSteps := 2000000) only [GO,GO2,evK,fillV,setR,binV,intOp,strOp,shOp,unV,getR,lenV,partV,V.nj,V.njL,V.cells,Nat.reduceLT,Nat.reduceEqDiff,Nat.reduceAdd,↓reduceIte,Nat.reduceLeDiff,reduceCtorEq,a17_0,h2,h3,hx,hy,View.len,hpart,hpart0,heq]
  exact hk _ h2 h3 (by first | rfl | (simp; done) | exact congrArg V.bool (beq_dec _ _))
theorem s17_1 {P : Program} {E : Env} {K : List Fr} {Q : Po} {x y : View} {ρ : Nat → V} {h : H} {bx bz : Nat} {rest : List O} {b : Bool} (hx : h.get bx = some (.cells x.cells 63 false false none)) (hy : h.get bz = some (.cells y.cells 63 false false none)) (h2 : ρ 2 = .ptr (some (bx, 0))) (h3 : ρ 3 = .ptr (some (bz, 0))) (hg : ρ 10 = .bool b) (hk : ∀ (ρ' : Nat → V), ρ' 2 = .ptr (some (bx, 0)) → ρ' 3 = .ptr (some (bz, 0)) → ρ' 17 = .bool (b && decide (x.up = y.up)) → XO P E none 50 rest K ρ' h Q) : XO P E none 50 (a17_1 ++ rest) K ρ h Q := by
  cases b with
  | false =>
    simp (maxSteps := 2000000) only [GO,GO2,evK,fillV,setR,binV,intOp,strOp,shOp,unV,getR,lenV,partV,V.nj,V.njL,V.cells,Nat.reduceLT,Nat.reduceEqDiff,Nat.reduceAdd,↓reduceIte,Nat.reduceLeDiff,reduceCtorEq,a17_1,hg]
    exact hk _ h2 h3 rfl
  | true =>
    simp (maxSteps := 2000000) only [GO,GO2,evK,fillV,setR,binV,intOp,strOp,shOp,unV,getR,lenV,partV,V.nj,V.njL,V.cells,Nat.reduceLT,Nat.reduceEqDiff,Nat.reduceAdd,↓reduceIte,Nat.reduceLeDiff,reduceCtorEq,a17_1,hg,h2,h3,hx,hy,View.len,View.g2,bool_step]
    exact hk _ h2 h3 (by first | rfl | (simp; done) | exact congrArg V.bool (beq_dec _ _))
theorem s17_2 {P : Program} {E : Env} {K : List Fr} {Q : Po} {x y : View} {ρ : Nat → V} {h : H} {bx bz : Nat} {rest : List O} {b : Bool} (hx : h.get bx = some (.cells x.cells 63 false false none)) (hy : h.get bz = some (.cells y.cells 63 false false none)) (h2 : ρ 2 = .ptr (some (bx, 0))) (h3 : ρ 3 = .ptr (some (bz, 0))) (hg : ρ 17 = .bool b) (hk : ∀ (ρ' : Nat → V), ρ' 2 = .ptr (some (bx, 0)) → ρ' 3 = .ptr (some (bz, 0)) → ρ' 24 = .bool (b && decide (x.leads = y.leads)) → XO P E none 50 rest K ρ' h Q) : XO P E none 50 (a17_2 ++ rest) K ρ h Q := by
  cases b with
  | false =>
    simp (maxSteps := 2000000) only [GO,GO2,evK,fillV,setR,binV,intOp,strOp,shOp,unV,getR,lenV,partV,V.nj,V.njL,V.cells,Nat.reduceLT,Nat.reduceEqDiff,Nat.reduceAdd,↓reduceIte,Nat.reduceLeDiff,reduceCtorEq,a17_2,hg]
    exact hk _ h2 h3 rfl
  | true =>
    simp (maxSteps := 2000000) only [GO,GO2,evK,fillV,setR,binV,intOp,strOp,shOp,unV,getR,lenV,partV,V.nj,V.njL,V.cells,Nat.reduceLT,Nat.reduceEqDiff,Nat.reduceAdd,↓reduceIte,Nat.reduceLeDiff,reduceCtorEq,a17_2,hg,h2,h3,hx,hy,View.len,View.g3,bool_step]
    exact hk _ h2 h3 (by first | rfl | (simp; done) | exact congrArg V.bool (beq_dec _ _))
theorem s17_3 {P : Program} {E : Env} {K : List Fr} {Q : Po} {x y : View} {ρ : Nat → V} {h : H} {bx bz : Nat} {rest : List O} {b : Bool} (hx : h.get bx = some (.cells x.cells 63 false false none)) (hy : h.get bz = some (.cells y.cells 63 false false none)) (h2 : ρ 2 = .ptr (some (bx, 0))) (h3 : ρ 3 = .ptr (some (bz, 0))) (hg : ρ 24 = .bool b) (hk : ∀ (ρ' : Nat → V), ρ' 2 = .ptr (some (bx, 0)) → ρ' 3 = .ptr (some (bz, 0)) → ρ' 31 = .bool (b && decide (x.told = y.told)) → XO P E none 50 rest K ρ' h Q) : XO P E none 50 (a17_3 ++ rest) K ρ h Q := by
  cases b with
  | false =>
    simp (maxSteps := 2000000) only [GO,GO2,evK,fillV,setR,binV,intOp,strOp,shOp,unV,getR,lenV,partV,V.nj,V.njL,V.cells,Nat.reduceLT,Nat.reduceEqDiff,Nat.reduceAdd,↓reduceIte,Nat.reduceLeDiff,reduceCtorEq,a17_3,hg]
    exact hk _ h2 h3 rfl
  | true =>
    simp (maxSteps := 2000000) only [GO,GO2,evK,fillV,setR,binV,intOp,strOp,shOp,unV,getR,lenV,partV,V.nj,V.njL,V.cells,Nat.reduceLT,Nat.reduceEqDiff,Nat.reduceAdd,↓reduceIte,Nat.reduceLeDiff,reduceCtorEq,a17_3,hg,h2,h3,hx,hy,View.len,View.g5]
    exact hk _ h2 h3 (by first | rfl | (simp; done) | exact congrArg V.bool (beq_dec _ _))
theorem s17_4 {P : Program} {E : Env} {K : List Fr} {Q : Po} {x y : View} {ρ : Nat → V} {h : H} {bx bz : Nat} {rest : List O} {b : Bool} (hx : h.get bx = some (.cells x.cells 63 false false none)) (hy : h.get bz = some (.cells y.cells 63 false false none)) (h2 : ρ 2 = .ptr (some (bx, 0))) (h3 : ρ 3 = .ptr (some (bz, 0))) (hg : ρ 31 = .bool b) (hk : ∀ (ρ' : Nat → V), ρ' 2 = .ptr (some (bx, 0)) → ρ' 3 = .ptr (some (bz, 0)) → ρ' 38 = .bool (b && decide (x.first = y.first)) → XO P E none 50 rest K ρ' h Q) : XO P E none 50 (a17_4 ++ rest) K ρ h Q := by
  cases b with
  | false =>
    simp (maxSteps := 2000000) only [GO,GO2,evK,fillV,setR,binV,intOp,strOp,shOp,unV,getR,lenV,partV,V.nj,V.njL,V.cells,Nat.reduceLT,Nat.reduceEqDiff,Nat.reduceAdd,↓reduceIte,Nat.reduceLeDiff,reduceCtorEq,a17_4,hg]
    exact hk _ h2 h3 rfl
  | true =>
    simp (maxSteps := 2000000) only [GO,GO2,evK,fillV,setR,binV,intOp,strOp,shOp,unV,getR,lenV,partV,V.nj,V.njL,V.cells,Nat.reduceLT,Nat.reduceEqDiff,Nat.reduceAdd,↓reduceIte,Nat.reduceLeDiff,reduceCtorEq,a17_4,hg,h2,h3,hx,hy,View.len,View.g6]
    exact hk _ h2 h3 (by first | rfl | (simp; done) | exact congrArg V.bool (beq_dec _ _))
theorem s17_5 {P : Program} {E : Env} {K : List Fr} {Q : Po} {x y : View} {ρ : Nat → V} {h : H} {bx bz : Nat} {rest : List O} {b : Bool} (hx : h.get bx = some (.cells x.cells 63 false false none)) (hy : h.get bz = some (.cells y.cells 63 false false none)) (h2 : ρ 2 = .ptr (some (bx, 0))) (h3 : ρ 3 = .ptr (some (bz, 0))) (hg : ρ 38 = .bool b) {c : Bool} (hc : Sp P E (.func 38 [] []) [x.chosen, y.chosen, (.func 39 [] [])] h fun v h' => v = .bool c ∧ Kp h h') (hk : ∀ (ρ' : Nat → V) (h' : H), Kp h h' → ρ' 2 = .ptr (some (bx, 0)) → ρ' 3 = .ptr (some (bz, 0)) → ρ' 45 = .bool (b && c) → XO P E none 50 rest K ρ' h' Q) : XO P E none 50 (a17_5 ++ rest) K ρ h Q := by
  cases b with
  | false =>
    simp (maxSteps := 2000000) only [GO,GO2,evK,fillV,setR,binV,intOp,strOp,shOp,unV,getR,lenV,partV,V.nj,V.njL,V.cells,Nat.reduceLT,Nat.reduceEqDiff,Nat.reduceAdd,↓reduceIte,Nat.reduceLeDiff,reduceCtorEq,a17_5,hg]
    exact hk _ _ (Keeps.refl _ _) h2 h3 rfl
  | true =>
    simp (maxSteps := 2000000) only [GO,GO2,evK,fillV,setR,binV,intOp,strOp,shOp,unV,getR,lenV,partV,V.nj,V.njL,V.cells,Nat.reduceLT,Nat.reduceEqDiff,Nat.reduceAdd,↓reduceIte,Nat.reduceLeDiff,reduceCtorEq,a17_5,hg,h2,h3,hx,hy,View.len,View.g7]
    refine XC_of hc ?_
    rintro _ h' ⟨rfl, k⟩
    simp (maxSteps := 2000000) only [GO,GO2,evK,fillV,setR,binV,intOp,strOp,shOp,unV,getR,lenV,partV,V.nj,V.njL,V.cells,Nat.reduceLT,Nat.reduceEqDiff,Nat.reduceAdd,↓reduceIte,Nat.reduceLeDiff,reduceCtorEq,hg]
    exact hk _ _ k h2 h3 rfl
theorem s17_6 {P : Program} {E : Env} {K : List Fr} {Q : Po} {x y : View} {ρ : Nat → V} {h : H} {bx bz : Nat} {rest : List O} {b : Bool} (hx : h.get bx = some (.cells x.cells 63 false false none)) (hy : h.get bz = some (.cells y.cells 63 false false none)) (h2 : ρ 2 = .ptr (some (bx, 0))) (h3 : ρ 3 = .ptr (some (bz, 0))) (hg : ρ 45 = .bool b) {c : Bool} (hc : Sp P E (.func 40 [] []) [.agg x.cells, .agg y.cells] h fun v h' => v = .bool c ∧ Kp h h') (hk : ∀ (ρ' : Nat → V) (h' : H), Kp h h' → ρ' 2 = .ptr (some (bx, 0)) → ρ' 3 = .ptr (some (bz, 0)) → ρ' 4 = .bool (b && c) → XO P E none 50 rest K ρ' h' Q) : XO P E none 50 (a17_6 ++ rest) K ρ h Q := by
  have hpart : ∀ z : View, List.take 21 z.cells = z.cells := fun _ => rfl
  cases b with
  | false =>
    simp (maxSteps := 2000000) only [GO,GO2,evK,fillV,setR,binV,intOp,strOp,shOp,unV,getR,lenV,partV,V.nj,V.njL,V.cells,Nat.reduceLT,Nat.reduceEqDiff,Nat.reduceAdd,↓reduceIte,Nat.reduceLeDiff,reduceCtorEq,a17_6,hg]
    exact hk _ _ (Keeps.refl _ _) h2 h3 rfl
  | true =>
    simp (maxSteps := 2000000) only [GO,GO2,evK,fillV,setR,binV,intOp,strOp,shOp,unV,getR,lenV,partV,V.nj,V.njL,V.cells,Nat.reduceLT,Nat.reduceEqDiff,Nat.reduceAdd,↓reduceIte,Nat.reduceLeDiff,reduceCtorEq,a17_6,hg,h2,h3,hx,hy,View.len,hpart]
    refine XC_of hc ?_
    rintro _ h' ⟨rfl, k⟩
    simp (maxSteps := 2000000) only [GO,GO2,evK,fillV,setR,binV,intOp,strOp,shOp,unV,getR,lenV,partV,V.nj,V.njL,V.cells,Nat.reduceLT,Nat.reduceEqDiff,Nat.reduceAdd,↓reduceIte,Nat.reduceLeDiff,reduceCtorEq,hg]
    exact hk _ _ k h2 h3 rfl
set_option maxRecDepth 100000 in
theorem same17 (F : Fa E) {x y : View} {h : H} {es es' : List (Entry × DEnt)} {ns ns' : List (TNode × DNode)} {rs rs' : List Row} (hx : VIn h ⟨x, es, ns, rs⟩) (hy : VIn h ⟨y, es', ns', rs'⟩) :
    Sp P E (.func 17 [] []) [.agg x.cells, .agg y.cells] h fun r h' => r = .bool (decide (eqView ⟨x, es, ns, rs⟩ ⟨y, es', ns', rs'⟩)) ∧ Kp h h' := by
  have hg0 := psh_same h (.cells x.cells 63 false false none)
  have hk0 : Kp h (h.psh (.cells x.cells 63 false false none)) := Keeps.psh (Nat.le_refl _) _
  have hk1 : Kp (h.psh (.cells x.cells 63 false false none)) ((h.psh (.cells x.cells 63 false false none)).psh (.cells y.cells 63 false false none)) := Keeps.psh (Nat.le_refl _) _
  have gy := psh_same (h.psh (.cells x.cells 63 false false none)) (.cells y.cells 63 false false none)
  have gx := Kp.of hk1 hg0
  have kk := Kp.trans hk0 hk1
  refine Sp_fn F.f17 F.p17 (by simp [fn17]) ?_
  simp (maxSteps := 2000000) only [GO,GO2,evK,fillV,setR,binV,intOp,strOp,shOp,unV,getR,lenV,partV,V.nj,V.njL,V.cells,Nat.reduceLT,Nat.reduceEqDiff,Nat.reduceAdd,↓reduceIte,Nat.reduceLeDiff,reduceCtorEq,fn17,c17,r17_0,e17_all]
  generalize (h.psh (.cells x.cells 63 false false none)).psh (.cells y.cells 63 false false none) = h2 at *
  generalize (h.psh (.cells x.cells 63 false false none)).size = B at *
  refine s17_0 gx gy rfl rfl fun ρ p q r => ?_
  refine s17_1 gx gy p q r fun ρ p q r => ?_
  refine s17_2 gx gy p q r fun ρ p q r => ?_
  refine s17_3 gx gy p q r fun ρ p q r => ?_
  refine s17_4 gx gy p q r fun ρ p q r => ?_
  refine s17_5 gx gy p q r (eql38 F (hx.chosen.keep kk) (fun p hp => (hx.ents p hp).keep kk) (hy.chosen.keep kk) (fun p hp => (hy.ents p hp).keep kk) hx.elen) fun ρ h3 k p q r => ?_
  have gx := Kp.of k gx
  have gy := Kp.of k gy
  have kk := Kp.trans kk k
  rw [← List.append_nil a17_6]
  refine s17_6 gx gy p q r (state40 F (hx.keep kk) (hy.keep kk)) fun ρ h3 k p q r => ?_
  have gx := Kp.of k gx
  have gy := Kp.of k gy
  have kk := Kp.trans kk k
  simp (maxSteps := 2000000) only [GO,GO2,evK,fillV,setR,binV,intOp,strOp,shOp,unV,getR,lenV,partV,V.nj,V.njL,V.cells,Nat.reduceLT,Nat.reduceEqDiff,Nat.reduceAdd,↓reduceIte,Nat.reduceLeDiff,reduceCtorEq,r]
  refine ⟨?_, kk⟩
  congr 1
  rw [Bool.eq_iff_iff]
  refine Iff.trans ?_ decide_eq_true_iff.symm
  simp only [Bool.and_eq_true, decide_eq_true_eq, beq_iff_eq]
  simp only [and_assoc]
def a18_0 : List O := [⟨some 5,.fadr 0 (.t 2),none,0,[5,2]⟩,⟨some 6,.loadN 2 (.t 5),none,1,[6,5]⟩,⟨some 7,.fadr 0 (.t 3),none,0,[7,3]⟩,⟨some 8,.loadN 2 (.t 7),none,4,[8,7]⟩,⟨some 9,.bin .eql (some (.fcons 0 1 false .int (.fcons 1 1 false .int .fnil))) false (.t 6) (.t 8),none,15,[9,6,8]⟩,⟨some 10,.mv (.t 9),none,31,[10,9]⟩]
def a18_1 : List O := [⟨some 11,.fadr 2 (.t 2),some (10,true),63,[11,10,2]⟩,⟨some 12,.load1 (.t 11),some (10,true),127,[12,10,11]⟩,⟨some 13,.fadr 2 (.t 3),some (10,true),63,[13,10,3]⟩,⟨some 14,.load1 (.t 13),some (10,true),319,[14,10,13]⟩,⟨some 15,.bin .eql (some .bool) false (.t 12) (.t 14),some (10,true),1023,[15,10,12,14]⟩,⟨some 16,.pick (.t 10) (.t 15) (.k (.bool false)),none,2047,[16,10,15]⟩,⟨some 17,.mv (.t 16),none,4095,[17,16]⟩]
def a18_2 : List O := [⟨some 18,.fadr 3 (.t 2),some (17,true),8191,[18,17,2]⟩,⟨some 19,.load1 (.t 18),some (17,true),16383,[19,17,18]⟩,⟨some 20,.fadr 3 (.t 3),some (17,true),8191,[20,17,3]⟩,⟨some 21,.load1 (.t 20),some (17,true),40959,[21,17,20]⟩,⟨some 22,.bin .eql (some .bool) false (.t 19) (.t 21),some (17,true),131071,[22,17,19,21]⟩,⟨some 23,.pick (.t 17) (.t 22) (.k (.bool false)),none,262143,[23,17,22]⟩,⟨some 24,.mv (.t 23),none,524287,[24,23]⟩]
def a18_3 : List O := [⟨some 25,.fadr 5 (.t 2),some (24,true),1048575,[25,24,2]⟩,⟨some 26,.load1 (.t 25),some (24,true),2097151,[26,24,25]⟩,⟨some 27,.fadr 5 (.t 3),some (24,true),1048575,[27,24,3]⟩,⟨some 28,.load1 (.t 27),some (24,true),5242879,[28,24,27]⟩,⟨some 29,.bin .eql (some .int) false (.t 26) (.t 28),some (24,true),16777215,[29,24,26,28]⟩,⟨some 30,.pick (.t 24) (.t 29) (.k (.bool false)),none,33554431,[30,24,29]⟩,⟨some 31,.mv (.t 30),none,67108863,[31,30]⟩]
def a18_4 : List O := [⟨some 32,.fadr 6 (.t 2),some (31,true),134217727,[32,31,2]⟩,⟨some 33,.load1 (.t 32),some (31,true),268435455,[33,31,32]⟩,⟨some 34,.fadr 6 (.t 3),some (31,true),134217727,[34,31,3]⟩,⟨some 35,.load1 (.t 34),some (31,true),671088639,[35,31,34]⟩,⟨some 36,.bin .eql (some .int) false (.t 33) (.t 35),some (31,true),2147483647,[36,31,33,35]⟩,⟨some 37,.pick (.t 31) (.t 36) (.k (.bool false)),none,4294967295,[37,31,36]⟩,⟨some 38,.mv (.t 37),none,8589934591,[38,37]⟩]
def a18_5 : List O := [⟨some 39,.fadr 7 (.t 2),some (38,true),17179869183,[39,38,2]⟩,⟨some 40,.load1 (.t 39),some (38,true),34359738367,[40,38,39]⟩,⟨some 41,.fadr 7 (.t 3),some (38,true),17179869183,[41,38,3]⟩,⟨some 42,.load1 (.t 41),some (38,true),85899345919,[42,38,41]⟩,⟨some 43,.call (.k (.func 41 [] [])) [(.t 40),(.t 42)],some (38,true),274877906943,[43,38,40,42]⟩,⟨some 44,.pick (.t 38) (.t 43) (.k (.bool false)),none,549755813887,[44,38,43]⟩,⟨some 45,.mv (.t 44),none,1099511627775,[45,44]⟩]
def a18_6 : List O := [⟨some 46,.loadN 21 (.t 2),some (45,true),2199023255551,[46,45,2]⟩,⟨some 47,.loadN 21 (.t 3),some (45,true),2199023255551,[47,45,3]⟩,⟨some 48,.call (.k (.func 21 [] [])) [(.t 46),(.t 47)],some (45,true),8796093022207,[48,45,46,47]⟩,⟨some 49,.pick (.t 45) (.t 48) (.k (.bool false)),none,17592186044415,[49,45,48]⟩,⟨some 4,.mv (.t 49),none,35184372088831,[4,49]⟩]
set_option maxRecDepth 100000 in
theorem e18_all : r18_1 = a18_0 ++ (a18_1 ++ (a18_2 ++ (a18_3 ++ (a18_4 ++ (a18_5 ++ (a18_6)))))) := rfl
theorem s18_0 {P : Program} {E : Env} {K : List Fr} {Q : Po} {x y : View} {ρ : Nat → V} {h : H} {bx bz : Nat} {rest : List O} (hx : h.get bx = some (.cells x.cells 63 false false none)) (hy : h.get bz = some (.cells y.cells 63 false false none)) (h2 : ρ 2 = .ptr (some (bx, 0))) (h3 : ρ 3 = .ptr (some (bz, 0))) (hk : ∀ (ρ' : Nat → V), ρ' 2 = .ptr (some (bx, 0)) → ρ' 3 = .ptr (some (bz, 0)) → ρ' 10 = .bool (decide (x.at_ = y.at_)) → XO P E none 50 rest K ρ' h Q) : XO P E none 50 (a18_0 ++ rest) K ρ h Q := by
  have hpart : ∀ z : View, List.take 2 (List.drop 0 z.cells) = z.at_.cells := fun _ => rfl
  have hpart0 : ∀ z : View, List.take 2 z.cells = z.at_.cells := fun _ => rfl
  have heq := Addr.eqv h x.at_ y.at_
  simp (maxSteps := 2000000) only [GO,GO2,evK,fillV,setR,binV,intOp,strOp,shOp,unV,getR,lenV,partV,V.nj,V.njL,V.cells,Nat.reduceLT,Nat.reduceEqDiff,Nat.reduceAdd,↓reduceIte,Nat.reduceLeDiff,reduceCtorEq,a18_0,h2,h3,hx,hy,View.len,hpart,hpart0,heq]
  exact hk _ h2 h3 (by first | rfl | (simp; done) | exact congrArg V.bool (beq_dec _ _))
theorem s18_1 {P : Program} {E : Env} {K : List Fr} {Q : Po} {x y : View} {ρ : Nat → V} {h : H} {bx bz : Nat} {rest : List O} {b : Bool} (hx : h.get bx = some (.cells x.cells 63 false false none)) (hy : h.get bz = some (.cells y.cells 63 false false none)) (h2 : ρ 2 = .ptr (some (bx, 0))) (h3 : ρ 3 = .ptr (some (bz, 0))) (hg : ρ 10 = .bool b) (hk : ∀ (ρ' : Nat → V), ρ' 2 = .ptr (some (bx, 0)) → ρ' 3 = .ptr (some (bz, 0)) → ρ' 17 = .bool (b && decide (x.up = y.up)) → XO P E none 50 rest K ρ' h Q) : XO P E none 50 (a18_1 ++ rest) K ρ h Q := by
  cases b with
  | false =>
    simp (maxSteps := 2000000) only [GO,GO2,evK,fillV,setR,binV,intOp,strOp,shOp,unV,getR,lenV,partV,V.nj,V.njL,V.cells,Nat.reduceLT,Nat.reduceEqDiff,Nat.reduceAdd,↓reduceIte,Nat.reduceLeDiff,reduceCtorEq,a18_1,hg]
    exact hk _ h2 h3 rfl
  | true =>
    simp (maxSteps := 2000000) only [GO,GO2,evK,fillV,setR,binV,intOp,strOp,shOp,unV,getR,lenV,partV,V.nj,V.njL,V.cells,Nat.reduceLT,Nat.reduceEqDiff,Nat.reduceAdd,↓reduceIte,Nat.reduceLeDiff,reduceCtorEq,a18_1,hg,h2,h3,hx,hy,View.len,View.g2,bool_step]
    exact hk _ h2 h3 (by first | rfl | (simp; done) | exact congrArg V.bool (beq_dec _ _))
theorem s18_2 {P : Program} {E : Env} {K : List Fr} {Q : Po} {x y : View} {ρ : Nat → V} {h : H} {bx bz : Nat} {rest : List O} {b : Bool} (hx : h.get bx = some (.cells x.cells 63 false false none)) (hy : h.get bz = some (.cells y.cells 63 false false none)) (h2 : ρ 2 = .ptr (some (bx, 0))) (h3 : ρ 3 = .ptr (some (bz, 0))) (hg : ρ 17 = .bool b) (hk : ∀ (ρ' : Nat → V), ρ' 2 = .ptr (some (bx, 0)) → ρ' 3 = .ptr (some (bz, 0)) → ρ' 24 = .bool (b && decide (x.leads = y.leads)) → XO P E none 50 rest K ρ' h Q) : XO P E none 50 (a18_2 ++ rest) K ρ h Q := by
  cases b with
  | false =>
    simp (maxSteps := 2000000) only [GO,GO2,evK,fillV,setR,binV,intOp,strOp,shOp,unV,getR,lenV,partV,V.nj,V.njL,V.cells,Nat.reduceLT,Nat.reduceEqDiff,Nat.reduceAdd,↓reduceIte,Nat.reduceLeDiff,reduceCtorEq,a18_2,hg]
    exact hk _ h2 h3 rfl
  | true =>
    simp (maxSteps := 2000000) only [GO,GO2,evK,fillV,setR,binV,intOp,strOp,shOp,unV,getR,lenV,partV,V.nj,V.njL,V.cells,Nat.reduceLT,Nat.reduceEqDiff,Nat.reduceAdd,↓reduceIte,Nat.reduceLeDiff,reduceCtorEq,a18_2,hg,h2,h3,hx,hy,View.len,View.g3,bool_step]
    exact hk _ h2 h3 (by first | rfl | (simp; done) | exact congrArg V.bool (beq_dec _ _))
theorem s18_3 {P : Program} {E : Env} {K : List Fr} {Q : Po} {x y : View} {ρ : Nat → V} {h : H} {bx bz : Nat} {rest : List O} {b : Bool} (hx : h.get bx = some (.cells x.cells 63 false false none)) (hy : h.get bz = some (.cells y.cells 63 false false none)) (h2 : ρ 2 = .ptr (some (bx, 0))) (h3 : ρ 3 = .ptr (some (bz, 0))) (hg : ρ 24 = .bool b) (hk : ∀ (ρ' : Nat → V), ρ' 2 = .ptr (some (bx, 0)) → ρ' 3 = .ptr (some (bz, 0)) → ρ' 31 = .bool (b && decide (x.told = y.told)) → XO P E none 50 rest K ρ' h Q) : XO P E none 50 (a18_3 ++ rest) K ρ h Q := by
  cases b with
  | false =>
    simp (maxSteps := 2000000) only [GO,GO2,evK,fillV,setR,binV,intOp,strOp,shOp,unV,getR,lenV,partV,V.nj,V.njL,V.cells,Nat.reduceLT,Nat.reduceEqDiff,Nat.reduceAdd,↓reduceIte,Nat.reduceLeDiff,reduceCtorEq,a18_3,hg]
    exact hk _ h2 h3 rfl
  | true =>
    simp (maxSteps := 2000000) only [GO,GO2,evK,fillV,setR,binV,intOp,strOp,shOp,unV,getR,lenV,partV,V.nj,V.njL,V.cells,Nat.reduceLT,Nat.reduceEqDiff,Nat.reduceAdd,↓reduceIte,Nat.reduceLeDiff,reduceCtorEq,a18_3,hg,h2,h3,hx,hy,View.len,View.g5]
    exact hk _ h2 h3 (by first | rfl | (simp; done) | exact congrArg V.bool (beq_dec _ _))
theorem s18_4 {P : Program} {E : Env} {K : List Fr} {Q : Po} {x y : View} {ρ : Nat → V} {h : H} {bx bz : Nat} {rest : List O} {b : Bool} (hx : h.get bx = some (.cells x.cells 63 false false none)) (hy : h.get bz = some (.cells y.cells 63 false false none)) (h2 : ρ 2 = .ptr (some (bx, 0))) (h3 : ρ 3 = .ptr (some (bz, 0))) (hg : ρ 31 = .bool b) (hk : ∀ (ρ' : Nat → V), ρ' 2 = .ptr (some (bx, 0)) → ρ' 3 = .ptr (some (bz, 0)) → ρ' 38 = .bool (b && decide (x.first = y.first)) → XO P E none 50 rest K ρ' h Q) : XO P E none 50 (a18_4 ++ rest) K ρ h Q := by
  cases b with
  | false =>
    simp (maxSteps := 2000000) only [GO,GO2,evK,fillV,setR,binV,intOp,strOp,shOp,unV,getR,lenV,partV,V.nj,V.njL,V.cells,Nat.reduceLT,Nat.reduceEqDiff,Nat.reduceAdd,↓reduceIte,Nat.reduceLeDiff,reduceCtorEq,a18_4,hg]
    exact hk _ h2 h3 rfl
  | true =>
    simp (maxSteps := 2000000) only [GO,GO2,evK,fillV,setR,binV,intOp,strOp,shOp,unV,getR,lenV,partV,V.nj,V.njL,V.cells,Nat.reduceLT,Nat.reduceEqDiff,Nat.reduceAdd,↓reduceIte,Nat.reduceLeDiff,reduceCtorEq,a18_4,hg,h2,h3,hx,hy,View.len,View.g6]
    exact hk _ h2 h3 (by first | rfl | (simp; done) | exact congrArg V.bool (beq_dec _ _))
theorem s18_5 {P : Program} {E : Env} {K : List Fr} {Q : Po} {x y : View} {ρ : Nat → V} {h : H} {bx bz : Nat} {rest : List O} {b : Bool} (hx : h.get bx = some (.cells x.cells 63 false false none)) (hy : h.get bz = some (.cells y.cells 63 false false none)) (h2 : ρ 2 = .ptr (some (bx, 0))) (h3 : ρ 3 = .ptr (some (bz, 0))) (hg : ρ 38 = .bool b) {c : Bool} (hc : Sp P E (.func 41 [] []) [x.chosen, y.chosen] h fun v h' => v = .bool c ∧ Kp h h') (hk : ∀ (ρ' : Nat → V) (h' : H), Kp h h' → ρ' 2 = .ptr (some (bx, 0)) → ρ' 3 = .ptr (some (bz, 0)) → ρ' 45 = .bool (b && c) → XO P E none 50 rest K ρ' h' Q) : XO P E none 50 (a18_5 ++ rest) K ρ h Q := by
  cases b with
  | false =>
    simp (maxSteps := 2000000) only [GO,GO2,evK,fillV,setR,binV,intOp,strOp,shOp,unV,getR,lenV,partV,V.nj,V.njL,V.cells,Nat.reduceLT,Nat.reduceEqDiff,Nat.reduceAdd,↓reduceIte,Nat.reduceLeDiff,reduceCtorEq,a18_5,hg]
    exact hk _ _ (Keeps.refl _ _) h2 h3 rfl
  | true =>
    simp (maxSteps := 2000000) only [GO,GO2,evK,fillV,setR,binV,intOp,strOp,shOp,unV,getR,lenV,partV,V.nj,V.njL,V.cells,Nat.reduceLT,Nat.reduceEqDiff,Nat.reduceAdd,↓reduceIte,Nat.reduceLeDiff,reduceCtorEq,a18_5,hg,h2,h3,hx,hy,View.len,View.g7]
    refine XC_of hc ?_
    rintro _ h' ⟨rfl, k⟩
    simp (maxSteps := 2000000) only [GO,GO2,evK,fillV,setR,binV,intOp,strOp,shOp,unV,getR,lenV,partV,V.nj,V.njL,V.cells,Nat.reduceLT,Nat.reduceEqDiff,Nat.reduceAdd,↓reduceIte,Nat.reduceLeDiff,reduceCtorEq,hg]
    exact hk _ _ k h2 h3 rfl
theorem s18_6 {P : Program} {E : Env} {K : List Fr} {Q : Po} {x y : View} {ρ : Nat → V} {h : H} {bx bz : Nat} {rest : List O} {b : Bool} (hx : h.get bx = some (.cells x.cells 63 false false none)) (hy : h.get bz = some (.cells y.cells 63 false false none)) (h2 : ρ 2 = .ptr (some (bx, 0))) (h3 : ρ 3 = .ptr (some (bz, 0))) (hg : ρ 45 = .bool b) {c : Bool} (hc : Sp P E (.func 21 [] []) [.agg x.cells, .agg y.cells] h fun v h' => v = .bool c ∧ Kp h h') (hk : ∀ (ρ' : Nat → V) (h' : H), Kp h h' → ρ' 2 = .ptr (some (bx, 0)) → ρ' 3 = .ptr (some (bz, 0)) → ρ' 4 = .bool (b && c) → XO P E none 50 rest K ρ' h' Q) : XO P E none 50 (a18_6 ++ rest) K ρ h Q := by
  have hpart : ∀ z : View, List.take 21 z.cells = z.cells := fun _ => rfl
  cases b with
  | false =>
    simp (maxSteps := 2000000) only [GO,GO2,evK,fillV,setR,binV,intOp,strOp,shOp,unV,getR,lenV,partV,V.nj,V.njL,V.cells,Nat.reduceLT,Nat.reduceEqDiff,Nat.reduceAdd,↓reduceIte,Nat.reduceLeDiff,reduceCtorEq,a18_6,hg]
    exact hk _ _ (Keeps.refl _ _) h2 h3 rfl
  | true =>
    simp (maxSteps := 2000000) only [GO,GO2,evK,fillV,setR,binV,intOp,strOp,shOp,unV,getR,lenV,partV,V.nj,V.njL,V.cells,Nat.reduceLT,Nat.reduceEqDiff,Nat.reduceAdd,↓reduceIte,Nat.reduceLeDiff,reduceCtorEq,a18_6,hg,h2,h3,hx,hy,View.len,hpart]
    refine XC_of hc ?_
    rintro _ h' ⟨rfl, k⟩
    simp (maxSteps := 2000000) only [GO,GO2,evK,fillV,setR,binV,intOp,strOp,shOp,unV,getR,lenV,partV,V.nj,V.njL,V.cells,Nat.reduceLT,Nat.reduceEqDiff,Nat.reduceAdd,↓reduceIte,Nat.reduceLeDiff,reduceCtorEq,hg]
    exact hk _ _ k h2 h3 rfl
set_option maxRecDepth 100000 in
theorem same18 (F : Fa E) {x y : View} {h : H} {es es' : List (Entry × DEnt)} {ns ns' : List (TNode × DNode)} {rs rs' : List Row} (hx : VIn h ⟨x, es, ns, rs⟩) (hy : VIn h ⟨y, es', ns', rs'⟩) :
    Sp P E (.func 18 [] []) [.agg x.cells, .agg y.cells] h fun r h' => r = .bool (decide (eqView ⟨x, es, ns, rs⟩ ⟨y, es', ns', rs'⟩)) ∧ Kp h h' := by
  have hg0 := psh_same h (.cells x.cells 63 false false none)
  have hk0 : Kp h (h.psh (.cells x.cells 63 false false none)) := Keeps.psh (Nat.le_refl _) _
  have hk1 : Kp (h.psh (.cells x.cells 63 false false none)) ((h.psh (.cells x.cells 63 false false none)).psh (.cells y.cells 63 false false none)) := Keeps.psh (Nat.le_refl _) _
  have gy := psh_same (h.psh (.cells x.cells 63 false false none)) (.cells y.cells 63 false false none)
  have gx := Kp.of hk1 hg0
  have kk := Kp.trans hk0 hk1
  refine Sp_fn F.f18 F.p18 (by simp [fn18]) ?_
  simp (maxSteps := 2000000) only [GO,GO2,evK,fillV,setR,binV,intOp,strOp,shOp,unV,getR,lenV,partV,V.nj,V.njL,V.cells,Nat.reduceLT,Nat.reduceEqDiff,Nat.reduceAdd,↓reduceIte,Nat.reduceLeDiff,reduceCtorEq,fn18,c18,r18_0,e18_all]
  generalize (h.psh (.cells x.cells 63 false false none)).psh (.cells y.cells 63 false false none) = h2 at *
  generalize (h.psh (.cells x.cells 63 false false none)).size = B at *
  refine s18_0 gx gy rfl rfl fun ρ p q r => ?_
  refine s18_1 gx gy p q r fun ρ p q r => ?_
  refine s18_2 gx gy p q r fun ρ p q r => ?_
  refine s18_3 gx gy p q r fun ρ p q r => ?_
  refine s18_4 gx gy p q r fun ρ p q r => ?_
  refine s18_5 gx gy p q r (eql41 F (hx.chosen.keep kk) (fun p hp => (hx.ents p hp).keep kk) (hy.chosen.keep kk) (fun p hp => (hy.ents p hp).keep kk) hx.elen) fun ρ h3 k p q r => ?_
  have gx := Kp.of k gx
  have gy := Kp.of k gy
  have kk := Kp.trans kk k
  rw [← List.append_nil a18_6]
  refine s18_6 gx gy p q r (state21 F (hx.keep kk) (hy.keep kk)) fun ρ h3 k p q r => ?_
  have gx := Kp.of k gx
  have gy := Kp.of k gy
  have kk := Kp.trans kk k
  simp (maxSteps := 2000000) only [GO,GO2,evK,fillV,setR,binV,intOp,strOp,shOp,unV,getR,lenV,partV,V.nj,V.njL,V.cells,Nat.reduceLT,Nat.reduceEqDiff,Nat.reduceAdd,↓reduceIte,Nat.reduceLeDiff,reduceCtorEq,r]
  refine ⟨?_, kk⟩
  congr 1
  rw [Bool.eq_iff_iff]
  refine Iff.trans ?_ decide_eq_true_iff.symm
  simp only [Bool.and_eq_true, decide_eq_true_eq, beq_iff_eq]
  simp only [and_assoc]
end Go.AM.Sc
