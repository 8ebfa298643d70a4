/- My own texts of the evaluator, its soundness and its symbolic runs, laid for this claim. -/
import Derived.Test.YtpijmjmbjoopaaaDoorScOToScO3
set_option linter.unusedSimpArgs false
set_option linter.unusedVariables false
namespace Go.AM.Sc
open Go.AM
open Go.Lib (itoa)
variable {P : Program} {E : Env} {T : H → Prop}
def a29_0 : List O := [⟨some 5,.fadr 0 (.t 2),none,0,[5,2]⟩,⟨some 6,.load1 (.t 5),none,1,[6,5]⟩,⟨some 7,.fadr 0 (.t 3),none,0,[7,3]⟩,⟨some 8,.load1 (.t 7),none,4,[8,7]⟩,⟨some 9,.bin .eql (some .int) false (.t 6) (.t 8),none,15,[9,6,8]⟩,⟨some 10,.mv (.t 9),none,31,[10,9]⟩]
def a29_1 : List O := [⟨some 11,.fadr 1 (.t 2),some (10,true),63,[11,10,2]⟩,⟨some 12,.loadN 2 (.t 11),some (10,true),127,[12,10,11]⟩,⟨some 13,.fadr 1 (.t 3),some (10,true),63,[13,10,3]⟩,⟨some 14,.loadN 2 (.t 13),some (10,true),319,[14,10,13]⟩,⟨some 15,.bin .eql (some (.fcons 0 1 false .int (.fcons 1 1 false .int .fnil))) false (.t 12) (.t 14),some (10,true),1023,[15,10,12,14]⟩,⟨some 16,.pick (.t 10) (.t 15) (.k (.bool false)),none,2047,[16,10,15]⟩,⟨some 17,.mv (.t 16),none,4095,[17,16]⟩]
def a29_2 : List O := [⟨some 18,.fadr 3 (.t 2),some (17,true),8191,[18,17,2]⟩,⟨some 19,.load1 (.t 18),some (17,true),16383,[19,17,18]⟩,⟨some 20,.fadr 3 (.t 3),some (17,true),8191,[20,17,3]⟩,⟨some 21,.load1 (.t 20),some (17,true),40959,[21,17,20]⟩,⟨some 22,.bin .eql (some .int) false (.t 19) (.t 21),some (17,true),131071,[22,17,19,21]⟩,⟨some 23,.pick (.t 17) (.t 22) (.k (.bool false)),none,262143,[23,17,22]⟩,⟨some 24,.mv (.t 23),none,524287,[24,23]⟩]
def a29_3 : List O := [⟨some 25,.fadr 4 (.t 2),some (24,true),1048575,[25,24,2]⟩,⟨some 26,.loadN 8 (.t 25),some (24,true),2097151,[26,24,25]⟩,⟨some 27,.fadr 4 (.t 3),some (24,true),1048575,[27,24,3]⟩,⟨some 28,.loadN 8 (.t 27),some (24,true),5242879,[28,24,27]⟩,⟨some 29,.bin .eql (some (.fcons 0 2 true (.fcons 0 1 false .int (.fcons 1 1 false .int .fnil)) (.fcons 2 1 false .int (.fcons 3 1 false .int (.fcons 4 1 false .int (.fcons 5 1 false .str (.fcons 6 1 false .str (.fcons 7 1 false .str .fnil)))))))) false (.t 26) (.t 28),some (24,true),16777215,[29,24,26,28]⟩,⟨some 30,.pick (.t 24) (.t 29) (.k (.bool false)),none,33554431,[30,24,29]⟩,⟨some 31,.mv (.t 30),none,67108863,[31,30]⟩]
def a29_4 : List O := [⟨some 32,.fadr 12 (.t 2),some (31,true),134217727,[32,31,2]⟩,⟨some 33,.loadN 3 (.t 32),some (31,true),268435455,[33,31,32]⟩,⟨some 34,.fadr 12 (.t 3),some (31,true),134217727,[34,31,3]⟩,⟨some 35,.loadN 3 (.t 34),some (31,true),671088639,[35,31,34]⟩,⟨some 36,.bin .eql (some (.fcons 0 1 false .int (.fcons 1 1 false .str (.fcons 2 1 false .int .fnil)))) false (.t 33) (.t 35),some (31,true),2147483647,[36,31,33,35]⟩,⟨some 37,.pick (.t 31) (.t 36) (.k (.bool false)),none,4294967295,[37,31,36]⟩,⟨some 38,.mv (.t 37),none,8589934591,[38,37]⟩]
def a29_5 : List O := [⟨some 39,.fadr 71 (.t 2),some (38,true),17179869183,[39,38,2]⟩,⟨some 40,.load1 (.t 39),some (38,true),34359738367,[40,38,39]⟩,⟨some 41,.fadr 71 (.t 3),some (38,true),17179869183,[41,38,3]⟩,⟨some 42,.load1 (.t 41),some (38,true),85899345919,[42,38,41]⟩,⟨some 43,.bin .eql (some .int) false (.t 40) (.t 42),some (38,true),274877906943,[43,38,40,42]⟩,⟨some 44,.pick (.t 38) (.t 43) (.k (.bool false)),none,549755813887,[44,38,43]⟩,⟨some 45,.mv (.t 44),none,1099511627775,[45,44]⟩]
def a29_6 : List O := [⟨some 46,.fadr 72 (.t 2),some (45,true),2199023255551,[46,45,2]⟩,⟨some 47,.load1 (.t 46),some (45,true),4398046511103,[47,45,46]⟩,⟨some 48,.fadr 72 (.t 3),some (45,true),2199023255551,[48,45,3]⟩,⟨some 49,.load1 (.t 48),some (45,true),10995116277759,[49,45,48]⟩,⟨some 50,.bin .eql (some .int) false (.t 47) (.t 49),some (45,true),35184372088831,[50,45,47,49]⟩,⟨some 51,.pick (.t 45) (.t 50) (.k (.bool false)),none,70368744177663,[51,45,50]⟩,⟨some 52,.mv (.t 51),none,140737488355327,[52,51]⟩]
def a29_7 : List O := [⟨some 53,.fadr 73 (.t 2),some (52,true),281474976710655,[53,52,2]⟩,⟨some 54,.load1 (.t 53),some (52,true),562949953421311,[54,52,53]⟩,⟨some 55,.fadr 73 (.t 3),some (52,true),281474976710655,[55,52,3]⟩,⟨some 56,.load1 (.t 55),some (52,true),1407374883553279,[56,52,55]⟩,⟨some 57,.bin .eql (some .int) false (.t 54) (.t 56),some (52,true),4503599627370495,[57,52,54,56]⟩,⟨some 58,.pick (.t 52) (.t 57) (.k (.bool false)),none,9007199254740991,[58,52,57]⟩,⟨some 59,.mv (.t 58),none,18014398509481983,[59,58]⟩]
def a29_8 : List O := [⟨some 60,.fadr 74 (.t 2),some (59,true),36028797018963967,[60,59,2]⟩,⟨some 61,.load1 (.t 60),some (59,true),72057594037927935,[61,59,60]⟩,⟨some 62,.fadr 74 (.t 3),some (59,true),36028797018963967,[62,59,3]⟩,⟨some 63,.load1 (.t 62),some (59,true),180143985094819839,[63,59,62]⟩,⟨some 64,.bin .eql (some .int) false (.t 61) (.t 63),some (59,true),576460752303423487,[64,59,61,63]⟩,⟨some 65,.pick (.t 59) (.t 64) (.k (.bool false)),none,1152921504606846975,[65,59,64]⟩,⟨some 66,.mv (.t 65),none,2305843009213693951,[66,65]⟩]
def a29_9 : List O := [⟨some 67,.fadr 75 (.t 2),some (66,true),4611686018427387903,[67,66,2]⟩,⟨some 68,.load1 (.t 67),some (66,true),9223372036854775807,[68,66,67]⟩,⟨some 69,.fadr 75 (.t 3),some (66,true),4611686018427387903,[69,66,3]⟩,⟨some 70,.load1 (.t 69),some (66,true),23058430092136939519,[70,66,69]⟩,⟨some 71,.bin .eql (some .int) false (.t 68) (.t 70),some (66,true),73786976294838206463,[71,66,68,70]⟩,⟨some 72,.pick (.t 66) (.t 71) (.k (.bool false)),none,147573952589676412927,[72,66,71]⟩,⟨some 4,.mv (.t 72),none,295147905179352825855,[4,72]⟩]
theorem e29_all : r29_1 = a29_0 ++ (a29_1 ++ (a29_2 ++ (a29_3 ++ (a29_4 ++ (a29_5 ++ (a29_6 ++ (a29_7 ++ (a29_8 ++ (a29_9))))))))) := rfl
theorem s29_0 {P : Program} {E : Env} {K : List Fr} {Q : Po} {x y : WStep} {ρ : Nat → V} {h : H} {bx bz : Nat} {rest : List O} (hx : h.get bx = some (.cells x.cells 52 false false none)) (hy : h.get bz = some (.cells y.cells 52 false false none)) (h2 : ρ 2 = .ptr (some (bx,0))) (h3 : ρ 3 = .ptr (some (bz,0))) (hk : ∀ (ρ' : Nat → V),ρ' 2 = .ptr (some (bx,0)) → ρ' 3 = .ptr (some (bz,0)) → ρ' 10 = .bool (decide (x.kind = y.kind)) → XO P E none 73 rest K ρ' h Q) : XO P E none 73 (a29_0 ++ rest) K ρ h Q := by
  simp (maxSteps := 2000000) only [GO,GO2,evK,fillV,setR,binV,intOp,strOp,shOp,unV,getR,lenV,partV,V.nj,V.njL,V.cells,Nat.reduceLT,Nat.reduceEqDiff,Nat.reduceAdd,↓reduceIte,Nat.reduceLeDiff,reduceCtorEq,a29_0,h2,h3,hx,hy,WStep.len,WStep.g0]
  exact hk _ h2 h3 (by first | rfl | simp)
theorem s29_1 {P : Program} {E : Env} {K : List Fr} {Q : Po} {x y : WStep} {ρ : Nat → V} {h : H} {bx bz : Nat} {rest : List O} {b : Bool} (hx : h.get bx = some (.cells x.cells 52 false false none)) (hy : h.get bz = some (.cells y.cells 52 false false none)) (h2 : ρ 2 = .ptr (some (bx,0))) (h3 : ρ 3 = .ptr (some (bz,0))) (hg : ρ 10 = .bool b) (hk : ∀ (ρ' : Nat → V),ρ' 2 = .ptr (some (bx,0)) → ρ' 3 = .ptr (some (bz,0)) → ρ' 17 = .bool (b && decide (x.at_ = y.at_)) → XO P E none 73 rest K ρ' h Q) : XO P E none 73 (a29_1 ++ rest) K ρ h Q := by
  have hpart : ∀ z : WStep,List.take 2 (List.drop 1 z.cells) = z.at_.cells := fun _ => rfl
  have heq := Addr.eqv h x.at_ y.at_
  cases b with
  | false =>
    simp (maxSteps := 2000000) only [GO,GO2,evK,fillV,setR,binV,intOp,strOp,shOp,unV,getR,lenV,partV,V.nj,V.njL,V.cells,Nat.reduceLT,Nat.reduceEqDiff,Nat.reduceAdd,↓reduceIte,Nat.reduceLeDiff,reduceCtorEq,a29_1,hg]
    exact hk _ h2 h3 rfl
  | true =>
    simp (maxSteps := 2000000) only [GO,GO2,evK,fillV,setR,binV,intOp,strOp,shOp,unV,getR,lenV,partV,V.nj,V.njL,V.cells,Nat.reduceLT,Nat.reduceEqDiff,Nat.reduceAdd,↓reduceIte,Nat.reduceLeDiff,reduceCtorEq,a29_1,hg,h2,h3,hx,hy,WStep.len,hpart,heq]
    exact hk _ h2 h3 (by first | rfl | simp)
theorem s29_2 {P : Program} {E : Env} {K : List Fr} {Q : Po} {x y : WStep} {ρ : Nat → V} {h : H} {bx bz : Nat} {rest : List O} {b : Bool} (hx : h.get bx = some (.cells x.cells 52 false false none)) (hy : h.get bz = some (.cells y.cells 52 false false none)) (h2 : ρ 2 = .ptr (some (bx,0))) (h3 : ρ 3 = .ptr (some (bz,0))) (hg : ρ 17 = .bool b) (hk : ∀ (ρ' : Nat → V),ρ' 2 = .ptr (some (bx,0)) → ρ' 3 = .ptr (some (bz,0)) → ρ' 24 = .bool (b && decide (x.client = y.client)) → XO P E none 73 rest K ρ' h Q) : XO P E none 73 (a29_2 ++ rest) K ρ h Q := by
  cases b with
  | false =>
    simp (maxSteps := 2000000) only [GO,GO2,evK,fillV,setR,binV,intOp,strOp,shOp,unV,getR,lenV,partV,V.nj,V.njL,V.cells,Nat.reduceLT,Nat.reduceEqDiff,Nat.reduceAdd,↓reduceIte,Nat.reduceLeDiff,reduceCtorEq,a29_2,hg]
    exact hk _ h2 h3 rfl
  | true =>
    simp (maxSteps := 2000000) only [GO,GO2,evK,fillV,setR,binV,intOp,strOp,shOp,unV,getR,lenV,partV,V.nj,V.njL,V.cells,Nat.reduceLT,Nat.reduceEqDiff,Nat.reduceAdd,↓reduceIte,Nat.reduceLeDiff,reduceCtorEq,a29_2,hg,h2,h3,hx,hy,WStep.len,WStep.g3]
    exact hk _ h2 h3 (by first | rfl | simp)
theorem s29_3 {P : Program} {E : Env} {K : List Fr} {Q : Po} {x y : WStep} {ρ : Nat → V} {h : H} {bx bz : Nat} {rest : List O} {b : Bool} (hx : h.get bx = some (.cells x.cells 52 false false none)) (hy : h.get bz = some (.cells y.cells 52 false false none)) (h2 : ρ 2 = .ptr (some (bx,0))) (h3 : ρ 3 = .ptr (some (bz,0))) (hg : ρ 24 = .bool b) (hk : ∀ (ρ' : Nat → V),ρ' 2 = .ptr (some (bx,0)) → ρ' 3 = .ptr (some (bz,0)) → ρ' 31 = .bool (b && decide (x.op = y.op)) → XO P E none 73 rest K ρ' h Q) : XO P E none 73 (a29_3 ++ rest) K ρ h Q := by
  have hpart : ∀ z : WStep,List.take 8 (List.drop 4 z.cells) = z.op.cells := fun _ => rfl
  have heq := Opr.eqv h x.op y.op
  cases b with
  | false =>
    simp (maxSteps := 2000000) only [GO,GO2,evK,fillV,setR,binV,intOp,strOp,shOp,unV,getR,lenV,partV,V.nj,V.njL,V.cells,Nat.reduceLT,Nat.reduceEqDiff,Nat.reduceAdd,↓reduceIte,Nat.reduceLeDiff,reduceCtorEq,a29_3,hg]
    exact hk _ h2 h3 rfl
  | true =>
    simp (maxSteps := 2000000) only [GO,GO2,evK,fillV,setR,binV,intOp,strOp,shOp,unV,getR,lenV,partV,V.nj,V.njL,V.cells,Nat.reduceLT,Nat.reduceEqDiff,Nat.reduceAdd,↓reduceIte,Nat.reduceLeDiff,reduceCtorEq,a29_3,hg,h2,h3,hx,hy,WStep.len,hpart,heq]
    exact hk _ h2 h3 (by first | rfl | simp)
theorem s29_4 {P : Program} {E : Env} {K : List Fr} {Q : Po} {x y : WStep} {ρ : Nat → V} {h : H} {bx bz : Nat} {rest : List O} {b : Bool} (hx : h.get bx = some (.cells x.cells 52 false false none)) (hy : h.get bz = some (.cells y.cells 52 false false none)) (h2 : ρ 2 = .ptr (some (bx,0))) (h3 : ρ 3 = .ptr (some (bz,0))) (hg : ρ 31 = .bool b) (hk : ∀ (ρ' : Nat → V),ρ' 2 = .ptr (some (bx,0)) → ρ' 3 = .ptr (some (bz,0)) → ρ' 38 = .bool (b && decide (x.query = y.query)) → XO P E none 73 rest K ρ' h Q) : XO P E none 73 (a29_4 ++ rest) K ρ h Q := by
  have hpart : ∀ z : WStep,List.take 3 (List.drop 12 z.cells) = z.query.cells := fun _ => rfl
  have heq := Query.eqv h x.query y.query
  cases b with
  | false =>
    simp (maxSteps := 2000000) only [GO,GO2,evK,fillV,setR,binV,intOp,strOp,shOp,unV,getR,lenV,partV,V.nj,V.njL,V.cells,Nat.reduceLT,Nat.reduceEqDiff,Nat.reduceAdd,↓reduceIte,Nat.reduceLeDiff,reduceCtorEq,a29_4,hg]
    exact hk _ h2 h3 rfl
  | true =>
    simp (maxSteps := 2000000) only [GO,GO2,evK,fillV,setR,binV,intOp,strOp,shOp,unV,getR,lenV,partV,V.nj,V.njL,V.cells,Nat.reduceLT,Nat.reduceEqDiff,Nat.reduceAdd,↓reduceIte,Nat.reduceLeDiff,reduceCtorEq,a29_4,hg,h2,h3,hx,hy,WStep.len,hpart,heq]
    exact hk _ h2 h3 (by first | rfl | simp)
theorem s29_5 {P : Program} {E : Env} {K : List Fr} {Q : Po} {x y : WStep} {ρ : Nat → V} {h : H} {bx bz : Nat} {rest : List O} {b : Bool} (hx : h.get bx = some (.cells x.cells 52 false false none)) (hy : h.get bz = some (.cells y.cells 52 false false none)) (h2 : ρ 2 = .ptr (some (bx,0))) (h3 : ρ 3 = .ptr (some (bz,0))) (hg : ρ 38 = .bool b) (hk : ∀ (ρ' : Nat → V),ρ' 2 = .ptr (some (bx,0)) → ρ' 3 = .ptr (some (bz,0)) → ρ' 45 = .bool (b && decide (x.number = y.number)) → XO P E none 73 rest K ρ' h Q) : XO P E none 73 (a29_5 ++ rest) K ρ h Q := by
  cases b with
  | false =>
    simp (maxSteps := 2000000) only [GO,GO2,evK,fillV,setR,binV,intOp,strOp,shOp,unV,getR,lenV,partV,V.nj,V.njL,V.cells,Nat.reduceLT,Nat.reduceEqDiff,Nat.reduceAdd,↓reduceIte,Nat.reduceLeDiff,reduceCtorEq,a29_5,hg]
    exact hk _ h2 h3 rfl
  | true =>
    simp (maxSteps := 2000000) only [GO,GO2,evK,fillV,setR,binV,intOp,strOp,shOp,unV,getR,lenV,partV,V.nj,V.njL,V.cells,Nat.reduceLT,Nat.reduceEqDiff,Nat.reduceAdd,↓reduceIte,Nat.reduceLeDiff,reduceCtorEq,a29_5,hg,h2,h3,hx,hy,WStep.len,WStep.g71]
    exact hk _ h2 h3 (by first | rfl | simp)
theorem s29_6 {P : Program} {E : Env} {K : List Fr} {Q : Po} {x y : WStep} {ρ : Nat → V} {h : H} {bx bz : Nat} {rest : List O} {b : Bool} (hx : h.get bx = some (.cells x.cells 52 false false none)) (hy : h.get bz = some (.cells y.cells 52 false false none)) (h2 : ρ 2 = .ptr (some (bx,0))) (h3 : ρ 3 = .ptr (some (bz,0))) (hg : ρ 45 = .bool b) (hk : ∀ (ρ' : Nat → V),ρ' 2 = .ptr (some (bx,0)) → ρ' 3 = .ptr (some (bz,0)) → ρ' 52 = .bool (b && decide (x.place = y.place)) → XO P E none 73 rest K ρ' h Q) : XO P E none 73 (a29_6 ++ rest) K ρ h Q := by
  cases b with
  | false =>
    simp (maxSteps := 2000000) only [GO,GO2,evK,fillV,setR,binV,intOp,strOp,shOp,unV,getR,lenV,partV,V.nj,V.njL,V.cells,Nat.reduceLT,Nat.reduceEqDiff,Nat.reduceAdd,↓reduceIte,Nat.reduceLeDiff,reduceCtorEq,a29_6,hg]
    exact hk _ h2 h3 rfl
  | true =>
    simp (maxSteps := 2000000) only [GO,GO2,evK,fillV,setR,binV,intOp,strOp,shOp,unV,getR,lenV,partV,V.nj,V.njL,V.cells,Nat.reduceLT,Nat.reduceEqDiff,Nat.reduceAdd,↓reduceIte,Nat.reduceLeDiff,reduceCtorEq,a29_6,hg,h2,h3,hx,hy,WStep.len,WStep.g72]
    exact hk _ h2 h3 (by first | rfl | simp)
theorem s29_7 {P : Program} {E : Env} {K : List Fr} {Q : Po} {x y : WStep} {ρ : Nat → V} {h : H} {bx bz : Nat} {rest : List O} {b : Bool} (hx : h.get bx = some (.cells x.cells 52 false false none)) (hy : h.get bz = some (.cells y.cells 52 false false none)) (h2 : ρ 2 = .ptr (some (bx,0))) (h3 : ρ 3 = .ptr (some (bz,0))) (hg : ρ 52 = .bool b) (hk : ∀ (ρ' : Nat → V),ρ' 2 = .ptr (some (bx,0)) → ρ' 3 = .ptr (some (bz,0)) → ρ' 59 = .bool (b && decide (x.wth = y.wth)) → XO P E none 73 rest K ρ' h Q) : XO P E none 73 (a29_7 ++ rest) K ρ h Q := by
  cases b with
  | false =>
    simp (maxSteps := 2000000) only [GO,GO2,evK,fillV,setR,binV,intOp,strOp,shOp,unV,getR,lenV,partV,V.nj,V.njL,V.cells,Nat.reduceLT,Nat.reduceEqDiff,Nat.reduceAdd,↓reduceIte,Nat.reduceLeDiff,reduceCtorEq,a29_7,hg]
    exact hk _ h2 h3 rfl
  | true =>
    simp (maxSteps := 2000000) only [GO,GO2,evK,fillV,setR,binV,intOp,strOp,shOp,unV,getR,lenV,partV,V.nj,V.njL,V.cells,Nat.reduceLT,Nat.reduceEqDiff,Nat.reduceAdd,↓reduceIte,Nat.reduceLeDiff,reduceCtorEq,a29_7,hg,h2,h3,hx,hy,WStep.len,WStep.g73]
    exact hk _ h2 h3 (by first | rfl | simp)
theorem s29_8 {P : Program} {E : Env} {K : List Fr} {Q : Po} {x y : WStep} {ρ : Nat → V} {h : H} {bx bz : Nat} {rest : List O} {b : Bool} (hx : h.get bx = some (.cells x.cells 52 false false none)) (hy : h.get bz = some (.cells y.cells 52 false false none)) (h2 : ρ 2 = .ptr (some (bx,0))) (h3 : ρ 3 = .ptr (some (bz,0))) (hg : ρ 59 = .bool b) (hk : ∀ (ρ' : Nat → V),ρ' 2 = .ptr (some (bx,0)) → ρ' 3 = .ptr (some (bz,0)) → ρ' 66 = .bool (b && decide (x.count = y.count)) → XO P E none 73 rest K ρ' h Q) : XO P E none 73 (a29_8 ++ rest) K ρ h Q := by
  cases b with
  | false =>
    simp (maxSteps := 2000000) only [GO,GO2,evK,fillV,setR,binV,intOp,strOp,shOp,unV,getR,lenV,partV,V.nj,V.njL,V.cells,Nat.reduceLT,Nat.reduceEqDiff,Nat.reduceAdd,↓reduceIte,Nat.reduceLeDiff,reduceCtorEq,a29_8,hg]
    exact hk _ h2 h3 rfl
  | true =>
    simp (maxSteps := 2000000) only [GO,GO2,evK,fillV,setR,binV,intOp,strOp,shOp,unV,getR,lenV,partV,V.nj,V.njL,V.cells,Nat.reduceLT,Nat.reduceEqDiff,Nat.reduceAdd,↓reduceIte,Nat.reduceLeDiff,reduceCtorEq,a29_8,hg,h2,h3,hx,hy,WStep.len,WStep.g74]
    exact hk _ h2 h3 (by first | rfl | simp)
theorem s29_9 {P : Program} {E : Env} {K : List Fr} {Q : Po} {x y : WStep} {ρ : Nat → V} {h : H} {bx bz : Nat} {rest : List O} {b : Bool} (hx : h.get bx = some (.cells x.cells 52 false false none)) (hy : h.get bz = some (.cells y.cells 52 false false none)) (h2 : ρ 2 = .ptr (some (bx,0))) (h3 : ρ 3 = .ptr (some (bz,0))) (hg : ρ 66 = .bool b) (hk : ∀ (ρ' : Nat → V),ρ' 2 = .ptr (some (bx,0)) → ρ' 3 = .ptr (some (bz,0)) → ρ' 4 = .bool (b && decide (x.keep = y.keep)) → XO P E none 73 rest K ρ' h Q) : XO P E none 73 (a29_9 ++ rest) K ρ h Q := by
  cases b with
  | false =>
    simp (maxSteps := 2000000) only [GO,GO2,evK,fillV,setR,binV,intOp,strOp,shOp,unV,getR,lenV,partV,V.nj,V.njL,V.cells,Nat.reduceLT,Nat.reduceEqDiff,Nat.reduceAdd,↓reduceIte,Nat.reduceLeDiff,reduceCtorEq,a29_9,hg]
    exact hk _ h2 h3 rfl
  | true =>
    simp (maxSteps := 2000000) only [GO,GO2,evK,fillV,setR,binV,intOp,strOp,shOp,unV,getR,lenV,partV,V.nj,V.njL,V.cells,Nat.reduceLT,Nat.reduceEqDiff,Nat.reduceAdd,↓reduceIte,Nat.reduceLeDiff,reduceCtorEq,a29_9,hg,h2,h3,hx,hy,WStep.len,WStep.g75]
    exact hk _ h2 h3 (by first | rfl | simp)
def alikeP (x y : WStep) : Prop := x.kind = y.kind ∧ x.at_ = y.at_ ∧ x.client = y.client ∧ x.op = y.op ∧ x.query = y.query ∧ x.number = y.number ∧ x.place = y.place ∧ x.wth = y.wth ∧ x.count = y.count ∧ x.keep = y.keep
instance (x y : WStep) : Decidable (alikeP x y) := by unfold alikeP; infer_instance
theorem alike29 (F : Fns P E T) {x y : WStep} {h : H} : Sp P E (.func 29 [] []) [.agg x.cells,.agg y.cells] h fun v h' => v = .bool (decide (alikeP x y)) ∧ Kp h h' := by
  have hg0 := psh_same h (.cells x.cells 52 false false none)
  have hk0 : Kp h (h.psh (.cells x.cells 52 false false none)) := Keeps.psh (Nat.le_refl _) _
  have hk1 : Kp (h.psh (.cells x.cells 52 false false none)) ((h.psh (.cells x.cells 52 false false none)).psh (.cells y.cells 52 false false none)) := Keeps.psh (Nat.le_refl _) _
  have gy := psh_same (h.psh (.cells x.cells 52 false false none)) (.cells y.cells 52 false false none)
  have gx := Kp.of hk1 hg0
  have kk := Kp.trans hk0 hk1
  refine Sp_fn F.f29 F.p29 (by simp [fn29]) ?_
  simp (maxSteps := 2000000) only [GO,GO2,evK,fillV,setR,binV,intOp,strOp,shOp,unV,getR,lenV,partV,V.nj,V.njL,V.cells,Nat.reduceLT,Nat.reduceEqDiff,Nat.reduceAdd,↓reduceIte,Nat.reduceLeDiff,reduceCtorEq,fn29,c29,r29_0,e29_all]
  refine s29_0 gx gy rfl rfl fun ρ p q r => ?_
  refine s29_1 gx gy p q r fun ρ p q r => ?_
  refine s29_2 gx gy p q r fun ρ p q r => ?_
  refine s29_3 gx gy p q r fun ρ p q r => ?_
  refine s29_4 gx gy p q r fun ρ p q r => ?_
  refine s29_5 gx gy p q r fun ρ p q r => ?_
  refine s29_6 gx gy p q r fun ρ p q r => ?_
  refine s29_7 gx gy p q r fun ρ p q r => ?_
  refine s29_8 gx gy p q r fun ρ p q r => ?_
  rw [← List.append_nil a29_9]
  refine s29_9 gx gy p q r fun ρ p q r => ?_
  simp (maxSteps := 2000000) only [GO,GO2,evK,fillV,setR,binV,intOp,strOp,shOp,unV,getR,lenV,partV,V.nj,V.njL,V.cells,Nat.reduceLT,Nat.reduceEqDiff,Nat.reduceAdd,↓reduceIte,Nat.reduceLeDiff,reduceCtorEq,r]
  refine ⟨?_,kk⟩
  congr 1
  rw [Bool.eq_iff_iff]
  refine Iff.trans ?_ (decide_eq_true_iff (p := alikeP x y)).symm
  simp only [Bool.and_eq_true,decide_eq_true_eq,and_assoc]
  exact Iff.rfl
end Go.AM.Sc
namespace Go.AM.Sc
open Go.AM
open Go.Lib (itoa)
variable {P : Program} {E : Env} {T : H → Prop}
def Str (h : H) (v : V) (s : List UInt8) : Prop :=
  (∃ c o,v = .slice none 0 c o ∧ s = []) ∨ ∃ p n c o cs,v = .slice (some p) n c o ∧ elemsV h 1 n (.slice (some p) n c o) = some cs ∧ bytesV cs = some s
theorem elems_none (h : H) (c : Nat) (o : Bool) : elemsV h 1 0 (.slice none 0 c o) = some [] := rfl
theorem Str.keep {h h' : H} {v : V} {s : List UInt8} (a : Str h v s) (hk : Kp h h') : Str h' v s := by
  rcases a with a | ⟨p,n,c,o,cs,h1,h2,h3⟩
  · exact .inl a
  · refine .inr ⟨p,n,c,o,cs,h1,?_,h3⟩
    obtain ⟨i,q⟩ := p
    rw [← h2]
    simp only [elemsV]
    cases hg : h.get i with
    | none =>
      rw [elemsV] at h2
      simp [hg] at h2
      simp [h2.1]
    | some ob => rw [hk.of hg]
def a47_0 : List O := [⟨some 5,.fadr 0 (.t 2),none,0,[5,2]⟩,⟨some 6,.load1 (.t 5),none,1,[6,5]⟩,⟨some 7,.fadr 0 (.t 3),none,0,[7,3]⟩,⟨some 8,.load1 (.t 7),none,4,[8,7]⟩,⟨some 9,.bin .eql (some .int) false (.t 6) (.t 8),none,15,[9,6,8]⟩,⟨some 10,.mv (.t 9),none,31,[10,9]⟩]
def a47_1 : List O := [⟨some 11,.fadr 1 (.t 2),some (10,true),63,[11,10,2]⟩,⟨some 12,.load1 (.t 11),some (10,true),127,[12,10,11]⟩,⟨some 13,.fadr 1 (.t 3),some (10,true),63,[13,10,3]⟩,⟨some 14,.load1 (.t 13),some (10,true),319,[14,10,13]⟩,⟨some 15,.bin .eql (some .int) false (.t 12) (.t 14),some (10,true),1023,[15,10,12,14]⟩,⟨some 16,.pick (.t 10) (.t 15) (.k (.bool false)),none,2047,[16,10,15]⟩,⟨some 17,.mv (.t 16),none,4095,[17,16]⟩]
def a47_2 : List O := [⟨some 18,.fadr 2 (.t 2),some (17,true),8191,[18,17,2]⟩,⟨some 19,.load1 (.t 18),some (17,true),16383,[19,17,18]⟩,⟨some 20,.fadr 2 (.t 3),some (17,true),8191,[20,17,3]⟩,⟨some 21,.load1 (.t 20),some (17,true),40959,[21,17,20]⟩,⟨some 22,.bin .eql (some .int) false (.t 19) (.t 21),some (17,true),131071,[22,17,19,21]⟩,⟨some 23,.pick (.t 17) (.t 22) (.k (.bool false)),none,262143,[23,17,22]⟩,⟨some 24,.mv (.t 23),none,524287,[24,23]⟩]
def a47_3 : List O := [⟨some 25,.fadr 3 (.t 2),some (24,true),1048575,[25,24,2]⟩,⟨some 26,.load1 (.t 25),some (24,true),2097151,[26,24,25]⟩,⟨some 27,.b2s (.t 26),some (24,true),4194303,[27,24,26]⟩,⟨some 28,.fadr 3 (.t 3),some (24,true),1048575,[28,24,3]⟩,⟨some 29,.load1 (.t 28),some (24,true),9437183,[29,24,28]⟩,⟨some 30,.b2s (.t 29),some (24,true),26214399,[30,24,29]⟩,⟨some 31,.bin .eql (some .str) false (.t 27) (.t 30),some (24,true),67108863,[31,24,27,30]⟩,⟨some 32,.pick (.t 24) (.t 31) (.k (.bool false)),none,134217727,[32,24,31]⟩,⟨some 4,.mv (.t 32),none,268435455,[4,32]⟩]
set_option maxRecDepth 100000 in
theorem e47_all : r47_1 = a47_0 ++ (a47_1 ++ (a47_2 ++ (a47_3))) := rfl
theorem s47_0 {P : Program} {E : Env} {K : List Fr} {Q : Po} {x y : Part} {ρ : Nat → V} {h : H} {bx bz : Nat} {rest : List O} (hx : h.get bx = some (.cells x.cells 48 false false none)) (hy : h.get bz = some (.cells y.cells 48 false false none)) (h2 : ρ 2 = .ptr (some (bx,0))) (h3 : ρ 3 = .ptr (some (bz,0))) (hk : ∀ (ρ' : Nat → V),ρ' 2 = .ptr (some (bx,0)) → ρ' 3 = .ptr (some (bz,0)) → ρ' 10 = .bool (decide (x.snap = y.snap)) → XO P E none 33 rest K ρ' h Q) : XO P E none 33 (a47_0 ++ rest) K ρ h Q := by
  simp (maxSteps := 2000000) only [GO,GO2,evK,fillV,setR,binV,intOp,strOp,shOp,unV,getR,lenV,partV,V.nj,V.njL,V.cells,Nat.reduceLT,Nat.reduceEqDiff,Nat.reduceAdd,↓reduceIte,Nat.reduceLeDiff,reduceCtorEq,a47_0,h2,h3,hx,hy,Part.len,Part.g0]
  exact hk _ h2 h3 (by first | rfl | simp)
theorem s47_1 {P : Program} {E : Env} {K : List Fr} {Q : Po} {x y : Part} {ρ : Nat → V} {h : H} {bx bz : Nat} {rest : List O} {b : Bool} (hx : h.get bx = some (.cells x.cells 48 false false none)) (hy : h.get bz = some (.cells y.cells 48 false false none)) (h2 : ρ 2 = .ptr (some (bx,0))) (h3 : ρ 3 = .ptr (some (bz,0))) (hg : ρ 10 = .bool b) (hk : ∀ (ρ' : Nat → V),ρ' 2 = .ptr (some (bx,0)) → ρ' 3 = .ptr (some (bz,0)) → ρ' 17 = .bool (b && decide (x.index = y.index)) → XO P E none 33 rest K ρ' h Q) : XO P E none 33 (a47_1 ++ rest) K ρ h Q := by
  cases b with
  | false =>
    simp (maxSteps := 2000000) only [GO,GO2,evK,fillV,setR,binV,intOp,strOp,shOp,unV,getR,lenV,partV,V.nj,V.njL,V.cells,Nat.reduceLT,Nat.reduceEqDiff,Nat.reduceAdd,↓reduceIte,Nat.reduceLeDiff,reduceCtorEq,a47_1,hg]
    exact hk _ h2 h3 rfl
  | true =>
    simp (maxSteps := 2000000) only [GO,GO2,evK,fillV,setR,binV,intOp,strOp,shOp,unV,getR,lenV,partV,V.nj,V.njL,V.cells,Nat.reduceLT,Nat.reduceEqDiff,Nat.reduceAdd,↓reduceIte,Nat.reduceLeDiff,reduceCtorEq,a47_1,hg,h2,h3,hx,hy,Part.len,Part.g1]
    exact hk _ h2 h3 (by first | rfl | simp)
theorem s47_2 {P : Program} {E : Env} {K : List Fr} {Q : Po} {x y : Part} {ρ : Nat → V} {h : H} {bx bz : Nat} {rest : List O} {b : Bool} (hx : h.get bx = some (.cells x.cells 48 false false none)) (hy : h.get bz = some (.cells y.cells 48 false false none)) (h2 : ρ 2 = .ptr (some (bx,0))) (h3 : ρ 3 = .ptr (some (bz,0))) (hg : ρ 17 = .bool b) (hk : ∀ (ρ' : Nat → V),ρ' 2 = .ptr (some (bx,0)) → ρ' 3 = .ptr (some (bz,0)) → ρ' 24 = .bool (b && decide (x.many = y.many)) → XO P E none 33 rest K ρ' h Q) : XO P E none 33 (a47_2 ++ rest) K ρ h Q := by
  cases b with
  | false =>
    simp (maxSteps := 2000000) only [GO,GO2,evK,fillV,setR,binV,intOp,strOp,shOp,unV,getR,lenV,partV,V.nj,V.njL,V.cells,Nat.reduceLT,Nat.reduceEqDiff,Nat.reduceAdd,↓reduceIte,Nat.reduceLeDiff,reduceCtorEq,a47_2,hg]
    exact hk _ h2 h3 rfl
  | true =>
    simp (maxSteps := 2000000) only [GO,GO2,evK,fillV,setR,binV,intOp,strOp,shOp,unV,getR,lenV,partV,V.nj,V.njL,V.cells,Nat.reduceLT,Nat.reduceEqDiff,Nat.reduceAdd,↓reduceIte,Nat.reduceLeDiff,reduceCtorEq,a47_2,hg,h2,h3,hx,hy,Part.len,Part.g2]
    exact hk _ h2 h3 (by first | rfl | simp)
theorem s47_3 {P : Program} {E : Env} {K : List Fr} {Q : Po} {x y : Part} {ρ : Nat → V} {h : H} {bx bz : Nat} {rest : List O} {b : Bool} (hx : h.get bx = some (.cells x.cells 48 false false none)) (hy : h.get bz = some (.cells y.cells 48 false false none)) (h2 : ρ 2 = .ptr (some (bx,0))) (h3 : ρ 3 = .ptr (some (bz,0))) (hg : ρ 24 = .bool b) {c : Bool} {s s' : List UInt8} (hs : Str h x.data s) (hs' : Str h y.data s') (hcc : (s == s') = c) (hk : ∀ (ρ' : Nat → V),ρ' 2 = .ptr (some (bx,0)) → ρ' 3 = .ptr (some (bz,0)) → ρ' 4 = .bool (b && c) → XO P E none 33 rest K ρ' h Q) : XO P E none 33 (a47_3 ++ rest) K ρ h Q := by
  cases b with
  | false =>
    simp (maxSteps := 2000000) only [GO,GO2,evK,fillV,setR,binV,intOp,strOp,shOp,unV,getR,lenV,partV,V.nj,V.njL,V.cells,Nat.reduceLT,Nat.reduceEqDiff,Nat.reduceAdd,↓reduceIte,Nat.reduceLeDiff,reduceCtorEq,a47_3,hg]
    exact hk _ h2 h3 rfl
  | true =>
    subst hcc
    rcases hs with ⟨cx,ox,wx,rfl⟩ | ⟨px,nx,cx,ox,csx,wx,w1,w2⟩ <;> rcases hs' with ⟨cy,oy,wy,rfl⟩ | ⟨py,ny,cy,oy,csy,wy,z1,z2⟩
    · simp (maxSteps := 2000000) only [GO,GO2,evK,fillV,setR,binV,intOp,strOp,shOp,unV,getR,lenV,partV,V.nj,V.njL,V.cells,Nat.reduceLT,Nat.reduceEqDiff,Nat.reduceAdd,↓reduceIte,Nat.reduceLeDiff,reduceCtorEq,a47_3,hg,h2,h3,hx,hy,Part.len,Part.g3,wx,wy,elems_none,Option.isNone_none,Option.isNone_some]
      exact hk _ h2 h3 (by first | rfl | simp)
    · simp (maxSteps := 2000000) only [GO,GO2,evK,fillV,setR,binV,intOp,strOp,shOp,unV,getR,lenV,partV,V.nj,V.njL,V.cells,Nat.reduceLT,Nat.reduceEqDiff,Nat.reduceAdd,↓reduceIte,Nat.reduceLeDiff,reduceCtorEq,a47_3,hg,h2,h3,hx,hy,Part.len,Part.g3,z1,z2,wx,wy,elems_none,Option.isNone_none,Option.isNone_some]
      exact hk _ h2 h3 (by first | rfl | simp)
    · simp (maxSteps := 2000000) only [GO,GO2,evK,fillV,setR,binV,intOp,strOp,shOp,unV,getR,lenV,partV,V.nj,V.njL,V.cells,Nat.reduceLT,Nat.reduceEqDiff,Nat.reduceAdd,↓reduceIte,Nat.reduceLeDiff,reduceCtorEq,a47_3,hg,h2,h3,hx,hy,Part.len,Part.g3,w1,w2,wx,wy,elems_none,Option.isNone_none,Option.isNone_some]
      exact hk _ h2 h3 (by first | rfl | simp)
    · simp (maxSteps := 2000000) only [GO,GO2,evK,fillV,setR,binV,intOp,strOp,shOp,unV,getR,lenV,partV,V.nj,V.njL,V.cells,Nat.reduceLT,Nat.reduceEqDiff,Nat.reduceAdd,↓reduceIte,Nat.reduceLeDiff,reduceCtorEq,a47_3,hg,h2,h3,hx,hy,Part.len,Part.g3,w1,w2,z1,z2,wx,wy,elems_none,Option.isNone_none,Option.isNone_some]
      exact hk _ h2 h3 (by first | rfl | simp)
theorem part47 (F : Fns P E T) {x y : Part} {h : H} {s s' : List UInt8} (hs : Str h x.data s) (hs' : Str h y.data s') :
    Sp P E (.func 47 [] []) [.agg x.cells,.agg y.cells] h fun v h' => v = .bool (decide (x.snap = y.snap) && decide (x.index = y.index) && decide (x.many = y.many) && (s == s')) ∧ Kp h h' := by
  have hg0 := psh_same h (.cells x.cells 48 false false none)
  have hk0 : Kp h (h.psh (.cells x.cells 48 false false none)) := Keeps.psh (Nat.le_refl _) _
  have hk1 : Kp (h.psh (.cells x.cells 48 false false none)) ((h.psh (.cells x.cells 48 false false none)).psh (.cells y.cells 48 false false none)) := Keeps.psh (Nat.le_refl _) _
  have gy := psh_same (h.psh (.cells x.cells 48 false false none)) (.cells y.cells 48 false false none)
  have gx := Kp.of hk1 hg0
  have kk := Kp.trans hk0 hk1
  refine Sp_fn F.f47 F.p47 (by simp [fn47]) ?_
  simp (maxSteps := 2000000) only [GO,GO2,evK,fillV,setR,binV,intOp,strOp,shOp,unV,getR,lenV,partV,V.nj,V.njL,V.cells,Nat.reduceLT,Nat.reduceEqDiff,Nat.reduceAdd,↓reduceIte,Nat.reduceLeDiff,reduceCtorEq,fn47,c47,r47_0,e47_all]
  generalize (h.psh (.cells x.cells 48 false false none)).psh (.cells y.cells 48 false false none) = h2 at *
  generalize (h.psh (.cells x.cells 48 false false none)).size = B at *
  refine s47_0 gx gy rfl rfl fun ρ p q r => ?_
  refine s47_1 gx gy p q r fun ρ p q r => ?_
  refine s47_2 gx gy p q r fun ρ p q r => ?_
  rw [← List.append_nil a47_3]
  refine s47_3 gx gy p q r (hs.keep kk) (hs'.keep kk) rfl fun ρ p q r => ?_
  simp (maxSteps := 2000000) only [GO,GO2,evK,fillV,setR,binV,intOp,strOp,shOp,unV,getR,lenV,partV,V.nj,V.njL,V.cells,Nat.reduceLT,Nat.reduceEqDiff,Nat.reduceAdd,↓reduceIte,Nat.reduceLeDiff,reduceCtorEq,r]
  exact kk
theorem ops46 (F : Fns P E T) {h : H} {a a' : Option (Nat × Nat)} {n c c' : Nat} {o o' : Bool} : Sp P E (.func 46 [] []) [.slice a 0 c o,.slice a' n c' o'] h fun v h' => v = .bool (decide (n = 0)) ∧ Kp h h' := by
  refine Sp_fn F.f46 F.p46 (by simp [fn46]) ?_
  by_cases hn : n = 0
  · subst hn
    have e1 : (((0 : Nat) : Int) == ((0 : Nat) : Int)) = true := rfl
    have e2 : ¬ ((0 : Int) < ((0 : Nat) : Int)) := by decide
    simp (maxSteps := 2000000) only [GO,GO2,evK,fillV,setR,binV,intOp,strOp,shOp,unV,getR,lenV,partV,V.nj,V.njL,V.cells,Nat.reduceLT,Nat.reduceEqDiff,Nat.reduceAdd,↓reduceIte,Nat.reduceLeDiff,reduceCtorEq,fn46,c46,r46_0,e1]
    rw [u46_4]
    simp (maxSteps := 2000000) only [GO,GO2,evK,fillV,setR,binV,intOp,strOp,shOp,unV,getR,lenV,partV,V.nj,V.njL,V.cells,Nat.reduceLT,Nat.reduceEqDiff,Nat.reduceAdd,↓reduceIte,Nat.reduceLeDiff,reduceCtorEq,r46_1,e2]
    exact Keeps.refl _ _
  · have e1 : (((0 : Nat) : Int) != (n : Int)) = true := by simp; omega
    simp (maxSteps := 2000000) only [GO,GO2,evK,fillV,setR,binV,intOp,strOp,shOp,unV,getR,lenV,partV,V.nj,V.njL,V.cells,Nat.reduceLT,Nat.reduceEqDiff,Nat.reduceAdd,↓reduceIte,Nat.reduceLeDiff,reduceCtorEq,fn46,c46,r46_0,e1]
    exact ⟨by simp [hn],Keeps.refl _ _⟩
def a35_0 : List O := [⟨some 5,.fadr 0 (.t 2),none,0,[5,2]⟩,⟨some 6,.load1 (.t 5),none,1,[6,5]⟩,⟨some 7,.fadr 0 (.t 3),none,0,[7,3]⟩,⟨some 8,.load1 (.t 7),none,4,[8,7]⟩,⟨some 9,.bin .eql (some .int) false (.t 6) (.t 8),none,15,[9,6,8]⟩,⟨some 10,.mv (.t 9),none,31,[10,9]⟩]
def a35_1 : List O := [⟨some 11,.fadr 1 (.t 2),some (10,true),63,[11,10,2]⟩,⟨some 12,.load1 (.t 11),some (10,true),127,[12,10,11]⟩,⟨some 13,.fadr 1 (.t 3),some (10,true),63,[13,10,3]⟩,⟨some 14,.load1 (.t 13),some (10,true),319,[14,10,13]⟩,⟨some 15,.bin .eql (some .int) false (.t 12) (.t 14),some (10,true),1023,[15,10,12,14]⟩,⟨some 16,.pick (.t 10) (.t 15) (.k (.bool false)),none,2047,[16,10,15]⟩,⟨some 17,.mv (.t 16),none,4095,[17,16]⟩]
def a35_2 : List O := [⟨some 18,.fadr 2 (.t 2),some (17,true),8191,[18,17,2]⟩,⟨some 19,.load1 (.t 18),some (17,true),16383,[19,17,18]⟩,⟨some 20,.fadr 2 (.t 3),some (17,true),8191,[20,17,3]⟩,⟨some 21,.load1 (.t 20),some (17,true),40959,[21,17,20]⟩,⟨some 22,.bin .eql (some .int) false (.t 19) (.t 21),some (17,true),131071,[22,17,19,21]⟩,⟨some 23,.pick (.t 17) (.t 22) (.k (.bool false)),none,262143,[23,17,22]⟩,⟨some 24,.mv (.t 23),none,524287,[24,23]⟩]
def a35_3 : List O := [⟨some 25,.fadr 3 (.t 2),some (24,true),1048575,[25,24,2]⟩,⟨some 26,.loadN 8 (.t 25),some (24,true),2097151,[26,24,25]⟩,⟨some 27,.fadr 3 (.t 3),some (24,true),1048575,[27,24,3]⟩,⟨some 28,.loadN 8 (.t 27),some (24,true),5242879,[28,24,27]⟩,⟨some 29,.bin .eql (some (.fcons 0 2 true (.fcons 0 1 false .int (.fcons 1 1 false .int .fnil)) (.fcons 2 1 false .int (.fcons 3 1 false .int (.fcons 4 1 false .int (.fcons 5 1 false .str (.fcons 6 1 false .str (.fcons 7 1 false .str .fnil)))))))) false (.t 26) (.t 28),some (24,true),16777215,[29,24,26,28]⟩,⟨some 30,.pick (.t 24) (.t 29) (.k (.bool false)),none,33554431,[30,24,29]⟩,⟨some 31,.mv (.t 30),none,67108863,[31,30]⟩]
def a35_4 : List O := [⟨some 32,.fadr 11 (.t 2),some (31,true),134217727,[32,31,2]⟩,⟨some 33,.load1 (.t 32),some (31,true),268435455,[33,31,32]⟩,⟨some 34,.fadr 11 (.t 3),some (31,true),134217727,[34,31,3]⟩,⟨some 35,.load1 (.t 34),some (31,true),671088639,[35,31,34]⟩,⟨some 36,.bin .eql (some .int) false (.t 33) (.t 35),some (31,true),2147483647,[36,31,33,35]⟩,⟨some 37,.pick (.t 31) (.t 36) (.k (.bool false)),none,4294967295,[37,31,36]⟩,⟨some 38,.mv (.t 37),none,8589934591,[38,37]⟩]
def a35_5 : List O := [⟨some 39,.fadr 12 (.t 2),some (38,true),17179869183,[39,38,2]⟩,⟨some 40,.load1 (.t 39),some (38,true),34359738367,[40,38,39]⟩,⟨some 41,.fadr 12 (.t 3),some (38,true),17179869183,[41,38,3]⟩,⟨some 42,.load1 (.t 41),some (38,true),85899345919,[42,38,41]⟩,⟨some 43,.bin .eql (some .int) false (.t 40) (.t 42),some (38,true),274877906943,[43,38,40,42]⟩,⟨some 44,.pick (.t 38) (.t 43) (.k (.bool false)),none,549755813887,[44,38,43]⟩,⟨some 45,.mv (.t 44),none,1099511627775,[45,44]⟩]
def a35_6 : List O := [⟨some 46,.fadr 13 (.t 2),some (45,true),2199023255551,[46,45,2]⟩,⟨some 47,.load1 (.t 46),some (45,true),4398046511103,[47,45,46]⟩,⟨some 48,.fadr 13 (.t 3),some (45,true),2199023255551,[48,45,3]⟩,⟨some 49,.load1 (.t 48),some (45,true),10995116277759,[49,45,48]⟩,⟨some 50,.call (.k (.func 46 [] [])) [(.t 47),(.t 49)],some (45,true),35184372088831,[50,45,47,49]⟩,⟨some 51,.pick (.t 45) (.t 50) (.k (.bool false)),none,70368744177663,[51,45,50]⟩,⟨some 52,.mv (.t 51),none,140737488355327,[52,51]⟩]
def a35_7 : List O := [⟨some 53,.fadr 14 (.t 2),some (52,true),281474976710655,[53,52,2]⟩,⟨some 54,.loadN 25 (.t 53),some (52,true),562949953421311,[54,52,53]⟩,⟨some 55,.fadr 14 (.t 3),some (52,true),281474976710655,[55,52,3]⟩,⟨some 56,.loadN 25 (.t 55),some (52,true),1407374883553279,[56,52,55]⟩,⟨some 57,.bin .eql (some (.fcons 0 1 false .int (.fcons 1 8 true (.ar 8 1 false .int) (.fcons 9 8 true (.ar 8 1 false .int) (.fcons 17 8 true (.ar 8 1 false .int) .fnil))))) false (.t 54) (.t 56),some (52,true),4503599627370495,[57,52,54,56]⟩,⟨some 58,.pick (.t 52) (.t 57) (.k (.bool false)),none,9007199254740991,[58,52,57]⟩,⟨some 59,.mv (.t 58),none,18014398509481983,[59,58]⟩]
def a35_8 : List O := [⟨some 60,.fadr 39 (.t 2),some (59,true),36028797018963967,[60,59,2]⟩,⟨some 61,.load1 (.t 60),some (59,true),72057594037927935,[61,59,60]⟩,⟨some 62,.fadr 39 (.t 3),some (59,true),36028797018963967,[62,59,3]⟩,⟨some 63,.load1 (.t 62),some (59,true),180143985094819839,[63,59,62]⟩,⟨some 64,.bin .eql (some .int) false (.t 61) (.t 63),some (59,true),576460752303423487,[64,59,61,63]⟩,⟨some 65,.pick (.t 59) (.t 64) (.k (.bool false)),none,1152921504606846975,[65,59,64]⟩,⟨some 66,.mv (.t 65),none,2305843009213693951,[66,65]⟩]
def a35_9 : List O := [⟨some 67,.fadr 40 (.t 2),some (66,true),4611686018427387903,[67,66,2]⟩,⟨some 68,.loadN 8 (.t 67),some (66,true),9223372036854775807,[68,66,67]⟩,⟨some 69,.fadr 40 (.t 3),some (66,true),4611686018427387903,[69,66,3]⟩,⟨some 70,.loadN 8 (.t 69),some (66,true),23058430092136939519,[70,66,69]⟩,⟨some 71,.bin .eql (some (.ar 8 1 false .int)) false (.t 68) (.t 70),some (66,true),73786976294838206463,[71,66,68,70]⟩,⟨some 72,.pick (.t 66) (.t 71) (.k (.bool false)),none,147573952589676412927,[72,66,71]⟩,⟨some 73,.mv (.t 72),none,295147905179352825855,[73,72]⟩]
def a35_10 : List O := [⟨some 74,.fadr 48 (.t 2),some (73,true),590295810358705651711,[74,73,2]⟩,⟨some 75,.load1 (.t 74),some (73,true),1180591620717411303423,[75,73,74]⟩,⟨some 76,.fadr 48 (.t 3),some (73,true),590295810358705651711,[76,73,3]⟩,⟨some 77,.load1 (.t 76),some (73,true),2951479051793528258559,[77,73,76]⟩,⟨some 78,.bin .eql (some .int) false (.t 75) (.t 77),some (73,true),9444732965739290427391,[78,73,75,77]⟩,⟨some 79,.pick (.t 73) (.t 78) (.k (.bool false)),none,18889465931478580854783,[79,73,78]⟩,⟨some 80,.mv (.t 79),none,37778931862957161709567,[80,79]⟩]
def a35_11 : List O := [⟨some 81,.fadr 49 (.t 2),some (80,true),75557863725914323419135,[81,80,2]⟩,⟨some 82,.loadN 4 (.t 81),some (80,true),151115727451828646838271,[82,80,81]⟩,⟨some 83,.fadr 49 (.t 3),some (80,true),75557863725914323419135,[83,80,3]⟩,⟨some 84,.loadN 4 (.t 83),some (80,true),377789318629571617095679,[84,80,83]⟩,⟨some 85,.call (.k (.func 47 [] [])) [(.t 82),(.t 84)],some (80,true),1208925819614629174706175,[85,80,82,84]⟩,⟨some 86,.pick (.t 80) (.t 85) (.k (.bool false)),none,2417851639229258349412351,[86,80,85]⟩,⟨some 87,.mv (.t 86),none,4835703278458516698824703,[87,86]⟩]
def a35_12 : List O := [⟨some 88,.fadr 53 (.t 2),some (87,true),9671406556917033397649407,[88,87,2]⟩,⟨some 89,.load1 (.t 88),some (87,true),19342813113834066795298815,[89,87,88]⟩,⟨some 90,.fadr 53 (.t 3),some (87,true),9671406556917033397649407,[90,87,3]⟩,⟨some 91,.load1 (.t 90),some (87,true),48357032784585166988247039,[91,87,90]⟩,⟨some 92,.bin .eql (some .int) false (.t 89) (.t 91),some (87,true),154742504910672534362390527,[92,87,89,91]⟩,⟨some 93,.pick (.t 87) (.t 92) (.k (.bool false)),none,309485009821345068724781055,[93,87,92]⟩,⟨some 94,.mv (.t 93),none,618970019642690137449562111,[94,93]⟩]
def a35_13 : List O := [⟨some 95,.fadr 54 (.t 2),some (94,true),1237940039285380274899124223,[95,94,2]⟩,⟨some 96,.load1 (.t 95),some (94,true),2475880078570760549798248447,[96,94,95]⟩,⟨some 97,.fadr 54 (.t 3),some (94,true),1237940039285380274899124223,[97,94,3]⟩,⟨some 98,.load1 (.t 97),some (94,true),6189700196426901374495621119,[98,94,97]⟩,⟨some 99,.bin .eql (some .int) false (.t 96) (.t 98),some (94,true),19807040628566084398385987583,[99,94,96,98]⟩,⟨some 100,.pick (.t 94) (.t 99) (.k (.bool false)),none,39614081257132168796771975167,[100,94,99]⟩,⟨some 101,.mv (.t 100),none,79228162514264337593543950335,[101,100]⟩]
def a35_14 : List O := [⟨some 102,.fadr 55 (.t 2),some (101,true),158456325028528675187087900671,[102,101,2]⟩,⟨some 103,.load1 (.t 102),some (101,true),316912650057057350374175801343,[103,101,102]⟩,⟨some 104,.fadr 55 (.t 3),some (101,true),158456325028528675187087900671,[104,101,3]⟩,⟨some 105,.load1 (.t 104),some (101,true),792281625142643375935439503359,[105,101,104]⟩,⟨some 106,.bin .eql (some .int) false (.t 103) (.t 105),some (101,true),2535301200456458802993406410751,[106,101,103,105]⟩,⟨some 107,.pick (.t 101) (.t 106) (.k (.bool false)),none,5070602400912917605986812821503,[107,101,106]⟩,⟨some 4,.mv (.t 107),none,10141204801825835211973625643007,[4,107]⟩]
set_option maxRecDepth 100000 in
theorem e35_all : r35_1 = a35_0 ++ (a35_1 ++ (a35_2 ++ (a35_3 ++ (a35_4 ++ (a35_5 ++ (a35_6 ++ (a35_7 ++ (a35_8 ++ (a35_9 ++ (a35_10 ++ (a35_11 ++ (a35_12 ++ (a35_13 ++ (a35_14)))))))))))))) := rfl
theorem s35_0 {P : Program} {E : Env} {K : List Fr} {Q : Po} {x y : Entry} {ρ : Nat → V} {h : H} {bx bz : Nat} {rest : List O} (hx : h.get bx = some (.cells x.cells 50 false false none)) (hy : h.get bz = some (.cells y.cells 50 false false none)) (h2 : ρ 2 = .ptr (some (bx,0))) (h3 : ρ 3 = .ptr (some (bz,0))) (hk : ∀ (ρ' : Nat → V),ρ' 2 = .ptr (some (bx,0)) → ρ' 3 = .ptr (some (bz,0)) → ρ' 10 = .bool (decide (x.kind = y.kind)) → XO P E none 108 rest K ρ' h Q) : XO P E none 108 (a35_0 ++ rest) K ρ h Q := by
  simp (maxSteps := 2000000) only [GO,GO2,evK,fillV,setR,binV,intOp,strOp,shOp,unV,getR,lenV,partV,V.nj,V.njL,V.cells,Nat.reduceLT,Nat.reduceEqDiff,Nat.reduceAdd,↓reduceIte,Nat.reduceLeDiff,reduceCtorEq,a35_0,h2,h3,hx,hy,Entry.len,Entry.g0]
  exact hk _ h2 h3 (by first | rfl | simp)
theorem s35_1 {P : Program} {E : Env} {K : List Fr} {Q : Po} {x y : Entry} {ρ : Nat → V} {h : H} {bx bz : Nat} {rest : List O} {b : Bool} (hx : h.get bx = some (.cells x.cells 50 false false none)) (hy : h.get bz = some (.cells y.cells 50 false false none)) (h2 : ρ 2 = .ptr (some (bx,0))) (h3 : ρ 3 = .ptr (some (bz,0))) (hg : ρ 10 = .bool b) (hk : ∀ (ρ' : Nat → V),ρ' 2 = .ptr (some (bx,0)) → ρ' 3 = .ptr (some (bz,0)) → ρ' 17 = .bool (b && decide (x.session = y.session)) → XO P E none 108 rest K ρ' h Q) : XO P E none 108 (a35_1 ++ rest) K ρ h Q := by
  cases b with
  | false =>
    simp (maxSteps := 2000000) only [GO,GO2,evK,fillV,setR,binV,intOp,strOp,shOp,unV,getR,lenV,partV,V.nj,V.njL,V.cells,Nat.reduceLT,Nat.reduceEqDiff,Nat.reduceAdd,↓reduceIte,Nat.reduceLeDiff,reduceCtorEq,a35_1,hg]
    exact hk _ h2 h3 rfl
  | true =>
    simp (maxSteps := 2000000) only [GO,GO2,evK,fillV,setR,binV,intOp,strOp,shOp,unV,getR,lenV,partV,V.nj,V.njL,V.cells,Nat.reduceLT,Nat.reduceEqDiff,Nat.reduceAdd,↓reduceIte,Nat.reduceLeDiff,reduceCtorEq,a35_1,hg,h2,h3,hx,hy,Entry.len,Entry.g1]
    exact hk _ h2 h3 (by first | rfl | simp)
theorem s35_2 {P : Program} {E : Env} {K : List Fr} {Q : Po} {x y : Entry} {ρ : Nat → V} {h : H} {bx bz : Nat} {rest : List O} {b : Bool} (hx : h.get bx = some (.cells x.cells 50 false false none)) (hy : h.get bz = some (.cells y.cells 50 false false none)) (h2 : ρ 2 = .ptr (some (bx,0))) (h3 : ρ 3 = .ptr (some (bz,0))) (hg : ρ 17 = .bool b) (hk : ∀ (ρ' : Nat → V),ρ' 2 = .ptr (some (bx,0)) → ρ' 3 = .ptr (some (bz,0)) → ρ' 24 = .bool (b && decide (x.request = y.request)) → XO P E none 108 rest K ρ' h Q) : XO P E none 108 (a35_2 ++ rest) K ρ h Q := by
  cases b with
  | false =>
    simp (maxSteps := 2000000) only [GO,GO2,evK,fillV,setR,binV,intOp,strOp,shOp,unV,getR,lenV,partV,V.nj,V.njL,V.cells,Nat.reduceLT,Nat.reduceEqDiff,Nat.reduceAdd,↓reduceIte,Nat.reduceLeDiff,reduceCtorEq,a35_2,hg]
    exact hk _ h2 h3 rfl
  | true =>
    simp (maxSteps := 2000000) only [GO,GO2,evK,fillV,setR,binV,intOp,strOp,shOp,unV,getR,lenV,partV,V.nj,V.njL,V.cells,Nat.reduceLT,Nat.reduceEqDiff,Nat.reduceAdd,↓reduceIte,Nat.reduceLeDiff,reduceCtorEq,a35_2,hg,h2,h3,hx,hy,Entry.len,Entry.g2]
    exact hk _ h2 h3 (by first | rfl | simp)
theorem s35_3 {P : Program} {E : Env} {K : List Fr} {Q : Po} {x y : Entry} {ρ : Nat → V} {h : H} {bx bz : Nat} {rest : List O} {b : Bool} (hx : h.get bx = some (.cells x.cells 50 false false none)) (hy : h.get bz = some (.cells y.cells 50 false false none)) (h2 : ρ 2 = .ptr (some (bx,0))) (h3 : ρ 3 = .ptr (some (bz,0))) (hg : ρ 24 = .bool b) (hk : ∀ (ρ' : Nat → V),ρ' 2 = .ptr (some (bx,0)) → ρ' 3 = .ptr (some (bz,0)) → ρ' 31 = .bool (b && decide (x.op = y.op)) → XO P E none 108 rest K ρ' h Q) : XO P E none 108 (a35_3 ++ rest) K ρ h Q := by
  have hpart : ∀ z : Entry,List.take 8 (List.drop 3 z.cells) = z.op.cells := fun _ => rfl
  have heq := Opr.eqv h x.op y.op
  cases b with
  | false =>
    simp (maxSteps := 2000000) only [GO,GO2,evK,fillV,setR,binV,intOp,strOp,shOp,unV,getR,lenV,partV,V.nj,V.njL,V.cells,Nat.reduceLT,Nat.reduceEqDiff,Nat.reduceAdd,↓reduceIte,Nat.reduceLeDiff,reduceCtorEq,a35_3,hg]
    exact hk _ h2 h3 rfl
  | true =>
    simp (maxSteps := 2000000) only [GO,GO2,evK,fillV,setR,binV,intOp,strOp,shOp,unV,getR,lenV,partV,V.nj,V.njL,V.cells,Nat.reduceLT,Nat.reduceEqDiff,Nat.reduceAdd,↓reduceIte,Nat.reduceLeDiff,reduceCtorEq,a35_3,hg,h2,h3,hx,hy,Entry.len,hpart,heq]
    exact hk _ h2 h3 (by first | rfl | simp)
theorem s35_4 {P : Program} {E : Env} {K : List Fr} {Q : Po} {x y : Entry} {ρ : Nat → V} {h : H} {bx bz : Nat} {rest : List O} {b : Bool} (hx : h.get bx = some (.cells x.cells 50 false false none)) (hy : h.get bz = some (.cells y.cells 50 false false none)) (h2 : ρ 2 = .ptr (some (bx,0))) (h3 : ρ 3 = .ptr (some (bz,0))) (hg : ρ 31 = .bool b) (hk : ∀ (ρ' : Nat → V),ρ' 2 = .ptr (some (bx,0)) → ρ' 3 = .ptr (some (bz,0)) → ρ' 38 = .bool (b && decide (x.origin = y.origin)) → XO P E none 108 rest K ρ' h Q) : XO P E none 108 (a35_4 ++ rest) K ρ h Q := by
  cases b with
  | false =>
    simp (maxSteps := 2000000) only [GO,GO2,evK,fillV,setR,binV,intOp,strOp,shOp,unV,getR,lenV,partV,V.nj,V.njL,V.cells,Nat.reduceLT,Nat.reduceEqDiff,Nat.reduceAdd,↓reduceIte,Nat.reduceLeDiff,reduceCtorEq,a35_4,hg]
    exact hk _ h2 h3 rfl
  | true =>
    simp (maxSteps := 2000000) only [GO,GO2,evK,fillV,setR,binV,intOp,strOp,shOp,unV,getR,lenV,partV,V.nj,V.njL,V.cells,Nat.reduceLT,Nat.reduceEqDiff,Nat.reduceAdd,↓reduceIte,Nat.reduceLeDiff,reduceCtorEq,a35_4,hg,h2,h3,hx,hy,Entry.len,Entry.g11]
    exact hk _ h2 h3 (by first | rfl | simp)
theorem s35_5 {P : Program} {E : Env} {K : List Fr} {Q : Po} {x y : Entry} {ρ : Nat → V} {h : H} {bx bz : Nat} {rest : List O} {b : Bool} (hx : h.get bx = some (.cells x.cells 50 false false none)) (hy : h.get bz = some (.cells y.cells 50 false false none)) (h2 : ρ 2 = .ptr (some (bx,0))) (h3 : ρ 3 = .ptr (some (bz,0))) (hg : ρ 38 = .bool b) (hk : ∀ (ρ' : Nat → V),ρ' 2 = .ptr (some (bx,0)) → ρ' 3 = .ptr (some (bz,0)) → ρ' 45 = .bool (b && decide (x.seq = y.seq)) → XO P E none 108 rest K ρ' h Q) : XO P E none 108 (a35_5 ++ rest) K ρ h Q := by
  cases b with
  | false =>
    simp (maxSteps := 2000000) only [GO,GO2,evK,fillV,setR,binV,intOp,strOp,shOp,unV,getR,lenV,partV,V.nj,V.njL,V.cells,Nat.reduceLT,Nat.reduceEqDiff,Nat.reduceAdd,↓reduceIte,Nat.reduceLeDiff,reduceCtorEq,a35_5,hg]
    exact hk _ h2 h3 rfl
  | true =>
    simp (maxSteps := 2000000) only [GO,GO2,evK,fillV,setR,binV,intOp,strOp,shOp,unV,getR,lenV,partV,V.nj,V.njL,V.cells,Nat.reduceLT,Nat.reduceEqDiff,Nat.reduceAdd,↓reduceIte,Nat.reduceLeDiff,reduceCtorEq,a35_5,hg,h2,h3,hx,hy,Entry.len,Entry.g12]
    exact hk _ h2 h3 (by first | rfl | simp)
theorem s35_6 {P : Program} {E : Env} {K : List Fr} {Q : Po} {x y : Entry} {ρ : Nat → V} {h : H} {bx bz : Nat} {rest : List O} {b : Bool} (hx : h.get bx = some (.cells x.cells 50 false false none)) (hy : h.get bz = some (.cells y.cells 50 false false none)) (h2 : ρ 2 = .ptr (some (bx,0))) (h3 : ρ 3 = .ptr (some (bz,0))) (hg : ρ 45 = .bool b) {c : Bool} (hc : Sp P E (.func 46 [] []) [x.ops,y.ops] h fun v h' => v = .bool c ∧ Kp h h') (hk : ∀ (ρ' : Nat → V) (h' : H),Kp h h' → ρ' 2 = .ptr (some (bx,0)) → ρ' 3 = .ptr (some (bz,0)) → ρ' 52 = .bool (b && c) → XO P E none 108 rest K ρ' h' Q) : XO P E none 108 (a35_6 ++ rest) K ρ h Q := by
  cases b with
  | false =>
    simp (maxSteps := 2000000) only [GO,GO2,evK,fillV,setR,binV,intOp,strOp,shOp,unV,getR,lenV,partV,V.nj,V.njL,V.cells,Nat.reduceLT,Nat.reduceEqDiff,Nat.reduceAdd,↓reduceIte,Nat.reduceLeDiff,reduceCtorEq,a35_6,hg]
    exact hk _ _ (Keeps.refl _ _) h2 h3 rfl
  | true =>
    simp (maxSteps := 2000000) only [GO,GO2,evK,fillV,setR,binV,intOp,strOp,shOp,unV,getR,lenV,partV,V.nj,V.njL,V.cells,Nat.reduceLT,Nat.reduceEqDiff,Nat.reduceAdd,↓reduceIte,Nat.reduceLeDiff,reduceCtorEq,a35_6,hg,h2,h3,hx,hy,Entry.len,Entry.g13]
    refine XC_of hc ?_
    rintro _ h' ⟨rfl,k⟩
    simp (maxSteps := 2000000) only [GO,GO2,evK,fillV,setR,binV,intOp,strOp,shOp,unV,getR,lenV,partV,V.nj,V.njL,V.cells,Nat.reduceLT,Nat.reduceEqDiff,Nat.reduceAdd,↓reduceIte,Nat.reduceLeDiff,reduceCtorEq,hg]
    exact hk _ _ k h2 h3 rfl
theorem s35_7 {P : Program} {E : Env} {K : List Fr} {Q : Po} {x y : Entry} {ρ : Nat → V} {h : H} {bx bz : Nat} {rest : List O} {b : Bool} (hx : h.get bx = some (.cells x.cells 50 false false none)) (hy : h.get bz = some (.cells y.cells 50 false false none)) (h2 : ρ 2 = .ptr (some (bx,0))) (h3 : ρ 3 = .ptr (some (bz,0))) (hg : ρ 52 = .bool b) (hk : ∀ (ρ' : Nat → V),ρ' 2 = .ptr (some (bx,0)) → ρ' 3 = .ptr (some (bz,0)) → ρ' 59 = .bool (b && decide (x.epoch = y.epoch)) → XO P E none 108 rest K ρ' h Q) : XO P E none 108 (a35_7 ++ rest) K ρ h Q := by
  have hpart : ∀ z : Entry,List.take 25 (List.drop 14 z.cells) = z.epoch.cells := fun _ => rfl
  have heq := Epoch.eqv h x.epoch y.epoch
  cases b with
  | false =>
    simp (maxSteps := 2000000) only [GO,GO2,evK,fillV,setR,binV,intOp,strOp,shOp,unV,getR,lenV,partV,V.nj,V.njL,V.cells,Nat.reduceLT,Nat.reduceEqDiff,Nat.reduceAdd,↓reduceIte,Nat.reduceLeDiff,reduceCtorEq,a35_7,hg]
    exact hk _ h2 h3 rfl
  | true =>
    simp (maxSteps := 2000000) only [GO,GO2,evK,fillV,setR,binV,intOp,strOp,shOp,unV,getR,lenV,partV,V.nj,V.njL,V.cells,Nat.reduceLT,Nat.reduceEqDiff,Nat.reduceAdd,↓reduceIte,Nat.reduceLeDiff,reduceCtorEq,a35_7,hg,h2,h3,hx,hy,Entry.len,hpart,heq]
    exact hk _ h2 h3 (by first | rfl | simp)
theorem s35_8 {P : Program} {E : Env} {K : List Fr} {Q : Po} {x y : Entry} {ρ : Nat → V} {h : H} {bx bz : Nat} {rest : List O} {b : Bool} (hx : h.get bx = some (.cells x.cells 50 false false none)) (hy : h.get bz = some (.cells y.cells 50 false false none)) (h2 : ρ 2 = .ptr (some (bx,0))) (h3 : ρ 3 = .ptr (some (bz,0))) (hg : ρ 59 = .bool b) (hk : ∀ (ρ' : Nat → V),ρ' 2 = .ptr (some (bx,0)) → ρ' 3 = .ptr (some (bz,0)) → ρ' 66 = .bool (b && decide (x.frm = y.frm)) → XO P E none 108 rest K ρ' h Q) : XO P E none 108 (a35_8 ++ rest) K ρ h Q := by
  cases b with
  | false =>
    simp (maxSteps := 2000000) only [GO,GO2,evK,fillV,setR,binV,intOp,strOp,shOp,unV,getR,lenV,partV,V.nj,V.njL,V.cells,Nat.reduceLT,Nat.reduceEqDiff,Nat.reduceAdd,↓reduceIte,Nat.reduceLeDiff,reduceCtorEq,a35_8,hg]
    exact hk _ h2 h3 rfl
  | true =>
    simp (maxSteps := 2000000) only [GO,GO2,evK,fillV,setR,binV,intOp,strOp,shOp,unV,getR,lenV,partV,V.nj,V.njL,V.cells,Nat.reduceLT,Nat.reduceEqDiff,Nat.reduceAdd,↓reduceIte,Nat.reduceLeDiff,reduceCtorEq,a35_8,hg,h2,h3,hx,hy,Entry.len,Entry.g39]
    exact hk _ h2 h3 (by first | rfl | simp)
theorem s35_9 {P : Program} {E : Env} {K : List Fr} {Q : Po} {x y : Entry} {ρ : Nat → V} {h : H} {bx bz : Nat} {rest : List O} {b : Bool} (hx : h.get bx = some (.cells x.cells 50 false false none)) (hy : h.get bz = some (.cells y.cells 50 false false none)) (h2 : ρ 2 = .ptr (some (bx,0))) (h3 : ρ 3 = .ptr (some (bz,0))) (hg : ρ 66 = .bool b) (hk : ∀ (ρ' : Nat → V),ρ' 2 = .ptr (some (bx,0)) → ρ' 3 = .ptr (some (bz,0)) → ρ' 73 = .bool (b && decide (x.vector = y.vector)) → XO P E none 108 rest K ρ' h Q) : XO P E none 108 (a35_9 ++ rest) K ρ h Q := by
  have hpart : ∀ z : Entry,List.take 8 (List.drop 40 z.cells) = z.vector.cells := fun _ => rfl
  have heq := Vec.eqv h x.vector y.vector
  cases b with
  | false =>
    simp (maxSteps := 2000000) only [GO,GO2,evK,fillV,setR,binV,intOp,strOp,shOp,unV,getR,lenV,partV,V.nj,V.njL,V.cells,Nat.reduceLT,Nat.reduceEqDiff,Nat.reduceAdd,↓reduceIte,Nat.reduceLeDiff,reduceCtorEq,a35_9,hg]
    exact hk _ h2 h3 rfl
  | true =>
    simp (maxSteps := 2000000) only [GO,GO2,evK,fillV,setR,binV,intOp,strOp,shOp,unV,getR,lenV,partV,V.nj,V.njL,V.cells,Nat.reduceLT,Nat.reduceEqDiff,Nat.reduceAdd,↓reduceIte,Nat.reduceLeDiff,reduceCtorEq,a35_9,hg,h2,h3,hx,hy,Entry.len,hpart,heq]
    exact hk _ h2 h3 (by first | rfl | simp)
theorem s35_10 {P : Program} {E : Env} {K : List Fr} {Q : Po} {x y : Entry} {ρ : Nat → V} {h : H} {bx bz : Nat} {rest : List O} {b : Bool} (hx : h.get bx = some (.cells x.cells 50 false false none)) (hy : h.get bz = some (.cells y.cells 50 false false none)) (h2 : ρ 2 = .ptr (some (bx,0))) (h3 : ρ 3 = .ptr (some (bz,0))) (hg : ρ 73 = .bool b) (hk : ∀ (ρ' : Nat → V),ρ' 2 = .ptr (some (bx,0)) → ρ' 3 = .ptr (some (bz,0)) → ρ' 80 = .bool (b && decide (x.clock = y.clock)) → XO P E none 108 rest K ρ' h Q) : XO P E none 108 (a35_10 ++ rest) K ρ h Q := by
  cases b with
  | false =>
    simp (maxSteps := 2000000) only [GO,GO2,evK,fillV,setR,binV,intOp,strOp,shOp,unV,getR,lenV,partV,V.nj,V.njL,V.cells,Nat.reduceLT,Nat.reduceEqDiff,Nat.reduceAdd,↓reduceIte,Nat.reduceLeDiff,reduceCtorEq,a35_10,hg]
    exact hk _ h2 h3 rfl
  | true =>
    simp (maxSteps := 2000000) only [GO,GO2,evK,fillV,setR,binV,intOp,strOp,shOp,unV,getR,lenV,partV,V.nj,V.njL,V.cells,Nat.reduceLT,Nat.reduceEqDiff,Nat.reduceAdd,↓reduceIte,Nat.reduceLeDiff,reduceCtorEq,a35_10,hg,h2,h3,hx,hy,Entry.len,Entry.g48]
    exact hk _ h2 h3 (by first | rfl | simp)
theorem s35_11 {P : Program} {E : Env} {K : List Fr} {Q : Po} {x y : Entry} {ρ : Nat → V} {h : H} {bx bz : Nat} {rest : List O} {b : Bool} (hx : h.get bx = some (.cells x.cells 50 false false none)) (hy : h.get bz = some (.cells y.cells 50 false false none)) (h2 : ρ 2 = .ptr (some (bx,0))) (h3 : ρ 3 = .ptr (some (bz,0))) (hg : ρ 80 = .bool b) {c : Bool} (hc : Sp P E (.func 47 [] []) [.agg x.part.cells,.agg y.part.cells] h fun v h' => v = .bool c ∧ Kp h h') (hk : ∀ (ρ' : Nat → V) (h' : H),Kp h h' → ρ' 2 = .ptr (some (bx,0)) → ρ' 3 = .ptr (some (bz,0)) → ρ' 87 = .bool (b && c) → XO P E none 108 rest K ρ' h' Q) : XO P E none 108 (a35_11 ++ rest) K ρ h Q := by
  have hpart : ∀ z : Entry,List.take 4 (List.drop 49 z.cells) = z.part.cells := fun _ => rfl
  cases b with
  | false =>
    simp (maxSteps := 2000000) only [GO,GO2,evK,fillV,setR,binV,intOp,strOp,shOp,unV,getR,lenV,partV,V.nj,V.njL,V.cells,Nat.reduceLT,Nat.reduceEqDiff,Nat.reduceAdd,↓reduceIte,Nat.reduceLeDiff,reduceCtorEq,a35_11,hg]
    exact hk _ _ (Keeps.refl _ _) h2 h3 rfl
  | true =>
    simp (maxSteps := 2000000) only [GO,GO2,evK,fillV,setR,binV,intOp,strOp,shOp,unV,getR,lenV,partV,V.nj,V.njL,V.cells,Nat.reduceLT,Nat.reduceEqDiff,Nat.reduceAdd,↓reduceIte,Nat.reduceLeDiff,reduceCtorEq,a35_11,hg,h2,h3,hx,hy,Entry.len,hpart]
    refine XC_of hc ?_
    rintro _ h' ⟨rfl,k⟩
    simp (maxSteps := 2000000) only [GO,GO2,evK,fillV,setR,binV,intOp,strOp,shOp,unV,getR,lenV,partV,V.nj,V.njL,V.cells,Nat.reduceLT,Nat.reduceEqDiff,Nat.reduceAdd,↓reduceIte,Nat.reduceLeDiff,reduceCtorEq,hg]
    exact hk _ _ k h2 h3 rfl
theorem s35_12 {P : Program} {E : Env} {K : List Fr} {Q : Po} {x y : Entry} {ρ : Nat → V} {h : H} {bx bz : Nat} {rest : List O} {b : Bool} (hx : h.get bx = some (.cells x.cells 50 false false none)) (hy : h.get bz = some (.cells y.cells 50 false false none)) (h2 : ρ 2 = .ptr (some (bx,0))) (h3 : ρ 3 = .ptr (some (bz,0))) (hg : ρ 87 = .bool b) (hk : ∀ (ρ' : Nat → V),ρ' 2 = .ptr (some (bx,0)) → ρ' 3 = .ptr (some (bz,0)) → ρ' 94 = .bool (b && decide (x.site = y.site)) → XO P E none 108 rest K ρ' h Q) : XO P E none 108 (a35_12 ++ rest) K ρ h Q := by
  cases b with
  | false =>
    simp (maxSteps := 2000000) only [GO,GO2,evK,fillV,setR,binV,intOp,strOp,shOp,unV,getR,lenV,partV,V.nj,V.njL,V.cells,Nat.reduceLT,Nat.reduceEqDiff,Nat.reduceAdd,↓reduceIte,Nat.reduceLeDiff,reduceCtorEq,a35_12,hg]
    exact hk _ h2 h3 rfl
  | true =>
    simp (maxSteps := 2000000) only [GO,GO2,evK,fillV,setR,binV,intOp,strOp,shOp,unV,getR,lenV,partV,V.nj,V.njL,V.cells,Nat.reduceLT,Nat.reduceEqDiff,Nat.reduceAdd,↓reduceIte,Nat.reduceLeDiff,reduceCtorEq,a35_12,hg,h2,h3,hx,hy,Entry.len,Entry.g53]
    exact hk _ h2 h3 (by first | rfl | simp)
theorem s35_13 {P : Program} {E : Env} {K : List Fr} {Q : Po} {x y : Entry} {ρ : Nat → V} {h : H} {bx bz : Nat} {rest : List O} {b : Bool} (hx : h.get bx = some (.cells x.cells 50 false false none)) (hy : h.get bz = some (.cells y.cells 50 false false none)) (h2 : ρ 2 = .ptr (some (bx,0))) (h3 : ρ 3 = .ptr (some (bz,0))) (hg : ρ 94 = .bool b) (hk : ∀ (ρ' : Nat → V),ρ' 2 = .ptr (some (bx,0)) → ρ' 3 = .ptr (some (bz,0)) → ρ' 101 = .bool (b && decide (x.sponsor = y.sponsor)) → XO P E none 108 rest K ρ' h Q) : XO P E none 108 (a35_13 ++ rest) K ρ h Q := by
  cases b with
  | false =>
    simp (maxSteps := 2000000) only [GO,GO2,evK,fillV,setR,binV,intOp,strOp,shOp,unV,getR,lenV,partV,V.nj,V.njL,V.cells,Nat.reduceLT,Nat.reduceEqDiff,Nat.reduceAdd,↓reduceIte,Nat.reduceLeDiff,reduceCtorEq,a35_13,hg]
    exact hk _ h2 h3 rfl
  | true =>
    simp (maxSteps := 2000000) only [GO,GO2,evK,fillV,setR,binV,intOp,strOp,shOp,unV,getR,lenV,partV,V.nj,V.njL,V.cells,Nat.reduceLT,Nat.reduceEqDiff,Nat.reduceAdd,↓reduceIte,Nat.reduceLeDiff,reduceCtorEq,a35_13,hg,h2,h3,hx,hy,Entry.len,Entry.g54]
    exact hk _ h2 h3 (by first | rfl | simp)
theorem s35_14 {P : Program} {E : Env} {K : List Fr} {Q : Po} {x y : Entry} {ρ : Nat → V} {h : H} {bx bz : Nat} {rest : List O} {b : Bool} (hx : h.get bx = some (.cells x.cells 50 false false none)) (hy : h.get bz = some (.cells y.cells 50 false false none)) (h2 : ρ 2 = .ptr (some (bx,0))) (h3 : ρ 3 = .ptr (some (bz,0))) (hg : ρ 101 = .bool b) (hk : ∀ (ρ' : Nat → V),ρ' 2 = .ptr (some (bx,0)) → ρ' 3 = .ptr (some (bz,0)) → ρ' 4 = .bool (b && decide (x.length = y.length)) → XO P E none 108 rest K ρ' h Q) : XO P E none 108 (a35_14 ++ rest) K ρ h Q := by
  cases b with
  | false =>
    simp (maxSteps := 2000000) only [GO,GO2,evK,fillV,setR,binV,intOp,strOp,shOp,unV,getR,lenV,partV,V.nj,V.njL,V.cells,Nat.reduceLT,Nat.reduceEqDiff,Nat.reduceAdd,↓reduceIte,Nat.reduceLeDiff,reduceCtorEq,a35_14,hg]
    exact hk _ h2 h3 rfl
  | true =>
    simp (maxSteps := 2000000) only [GO,GO2,evK,fillV,setR,binV,intOp,strOp,shOp,unV,getR,lenV,partV,V.nj,V.njL,V.cells,Nat.reduceLT,Nat.reduceEqDiff,Nat.reduceAdd,↓reduceIte,Nat.reduceLeDiff,reduceCtorEq,a35_14,hg,h2,h3,hx,hy,Entry.len,Entry.g55]
    exact hk _ h2 h3 (by first | rfl | simp)
def flatOf (x : Entry) : Flat := ⟨x.kind,x.session,x.request,x.op,x.origin,x.seq,x.epoch,x.frm,x.vector,x.clock,x.part.snap,x.part.index,x.part.many,x.site,x.sponsor,x.length⟩
def lenOf : V → Nat
  | .slice _ n _ _ => n
  | _ => 0
structure EIn (h : H) (x : Entry) (s : List UInt8) : Prop where
  ops : ∃ a n c o,x.ops = .slice a n c o
  dat : Str h x.part.data s
theorem EIn.keep {h h' : H} {x : Entry} {s : List UInt8} (a : EIn h x s) (hk : Kp h h') : EIn h' x s := ⟨a.ops,a.dat.keep hk⟩
set_option maxRecDepth 100000 in
theorem same35 (F : Fns P E T) {x y : Entry} {h : H} {s s' : List UInt8} (hx : EIn h x s) (hy : EIn h y s') (h0 : lenOf x.ops = 0) :
    Sp P E (.func 35 [] []) [.agg x.cells,.agg y.cells] h fun v h' => v = .bool (decide (flatOf x = flatOf y ∧ lenOf y.ops = 0 ∧ s = s')) ∧ Kp h h' := by
  obtain ⟨a,n,c,o,hox⟩ := hx.ops
  obtain ⟨a',n',c',o',hoy⟩ := hy.ops
  rw [hox] at h0
  have h0' : n = 0 := h0
  subst h0'
  have hg0 := psh_same h (.cells x.cells 50 false false none)
  have hk0 : Kp h (h.psh (.cells x.cells 50 false false none)) := Keeps.psh (Nat.le_refl _) _
  have hk1 : Kp (h.psh (.cells x.cells 50 false false none)) ((h.psh (.cells x.cells 50 false false none)).psh (.cells y.cells 50 false false none)) := Keeps.psh (Nat.le_refl _) _
  have gy := psh_same (h.psh (.cells x.cells 50 false false none)) (.cells y.cells 50 false false none)
  have gx := Kp.of hk1 hg0
  have kk := Kp.trans hk0 hk1
  refine Sp_fn F.f35 F.p35 (by simp [fn35]) ?_
  simp (maxSteps := 2000000) only [GO,GO2,evK,fillV,setR,binV,intOp,strOp,shOp,unV,getR,lenV,partV,V.nj,V.njL,V.cells,Nat.reduceLT,Nat.reduceEqDiff,Nat.reduceAdd,↓reduceIte,Nat.reduceLeDiff,reduceCtorEq,fn35,c35,r35_0,e35_all]
  generalize (h.psh (.cells x.cells 50 false false none)).psh (.cells y.cells 50 false false none) = h2 at *
  generalize (h.psh (.cells x.cells 50 false false none)).size = B at *
  refine s35_0 gx gy rfl rfl fun ρ p q r => ?_
  refine s35_1 gx gy p q r fun ρ p q r => ?_
  refine s35_2 gx gy p q r fun ρ p q r => ?_
  refine s35_3 gx gy p q r fun ρ p q r => ?_
  refine s35_4 gx gy p q r fun ρ p q r => ?_
  refine s35_5 gx gy p q r fun ρ p q r => ?_
  refine s35_6 gx gy p q r (by rw [hox,hoy]; exact ops46 F) fun ρ h3 k p q r => ?_
  have gx := Kp.of k gx
  have gy := Kp.of k gy
  have kk := Kp.trans kk k
  refine s35_7 gx gy p q r fun ρ p q r => ?_
  refine s35_8 gx gy p q r fun ρ p q r => ?_
  refine s35_9 gx gy p q r fun ρ p q r => ?_
  refine s35_10 gx gy p q r fun ρ p q r => ?_
  refine s35_11 gx gy p q r (part47 F (hx.dat.keep kk) (hy.dat.keep kk)) fun ρ h4 k p q r => ?_
  have gx := Kp.of k gx
  have gy := Kp.of k gy
  have kk := Kp.trans kk k
  refine s35_12 gx gy p q r fun ρ p q r => ?_
  refine s35_13 gx gy p q r fun ρ p q r => ?_
  rw [← List.append_nil a35_14]
  refine s35_14 gx gy p q r fun ρ p q r => ?_
  simp (maxSteps := 2000000) only [GO,GO2,evK,fillV,setR,binV,intOp,strOp,shOp,unV,getR,lenV,partV,V.nj,V.njL,V.cells,Nat.reduceLT,Nat.reduceEqDiff,Nat.reduceAdd,↓reduceIte,Nat.reduceLeDiff,reduceCtorEq,r]
  refine ⟨?_,kk⟩
  congr 1
  rw [Bool.eq_iff_iff]
  refine Iff.trans ?_ decide_eq_true_iff.symm
  simp only [Bool.and_eq_true,decide_eq_true_eq,and_assoc,hoy,lenOf,flatOf,Flat.mk.injEq,beq_iff_eq]
  constructor
  · rintro ⟨a1,a2,a3,a4,a5,a6,a7,a8,a9,a10,a11,a12,a13,a14,a15,a16,a17,a18⟩
    exact ⟨a1,a2,a3,a4,a5,a6,a8,a9,a10,a11,a12,a13,a14,a16,a17,a18,a7,a15⟩
  · rintro ⟨a1,a2,a3,a4,a5,a6,a8,a9,a10,a11,a12,a13,a14,a16,a17,a18,a7,a15⟩
    exact ⟨a1,a2,a3,a4,a5,a6,a7,a8,a9,a10,a11,a12,a13,a14,a15,a16,a17,a18⟩
end Go.AM.Sc
namespace Go.AM.Sc
open Go.AM
open Go.Lib (itoa)
variable {P : Program} {E : Env} {T : H → Prop}
def a33_0 : List O := [⟨some 5,.fadr 0 (.t 2),none,0,[5,2]⟩,⟨some 6,.load1 (.t 5),none,1,[6,5]⟩,⟨some 7,.fadr 0 (.t 3),none,0,[7,3]⟩,⟨some 8,.load1 (.t 7),none,4,[8,7]⟩,⟨some 9,.bin .eql (some .int) false (.t 6) (.t 8),none,15,[9,6,8]⟩,⟨some 10,.mv (.t 9),none,31,[10,9]⟩]
def a33_1 : List O := [⟨some 11,.fadr 1 (.t 2),some (10,true),63,[11,10,2]⟩,⟨some 12,.loadN 2 (.t 11),some (10,true),127,[12,10,11]⟩,⟨some 13,.fadr 1 (.t 3),some (10,true),63,[13,10,3]⟩,⟨some 14,.loadN 2 (.t 13),some (10,true),319,[14,10,13]⟩,⟨some 15,.bin .eql (some (.fcons 0 1 false .int (.fcons 1 1 false .int .fnil))) false (.t 12) (.t 14),some (10,true),1023,[15,10,12,14]⟩,⟨some 16,.pick (.t 10) (.t 15) (.k (.bool false)),none,2047,[16,10,15]⟩,⟨some 17,.mv (.t 16),none,4095,[17,16]⟩]
def a33_2 : List O := [⟨some 18,.fadr 3 (.t 2),some (17,true),8191,[18,17,2]⟩,⟨some 19,.load1 (.t 18),some (17,true),16383,[19,17,18]⟩,⟨some 20,.fadr 3 (.t 3),some (17,true),8191,[20,17,3]⟩,⟨some 21,.load1 (.t 20),some (17,true),40959,[21,17,20]⟩,⟨some 22,.bin .eql (some .int) false (.t 19) (.t 21),some (17,true),131071,[22,17,19,21]⟩,⟨some 23,.pick (.t 17) (.t 22) (.k (.bool false)),none,262143,[23,17,22]⟩,⟨some 24,.mv (.t 23),none,524287,[24,23]⟩]
def a33_3 : List O := [⟨some 25,.fadr 4 (.t 2),some (24,true),1048575,[25,24,2]⟩,⟨some 26,.loadN 8 (.t 25),some (24,true),2097151,[26,24,25]⟩,⟨some 27,.fadr 4 (.t 3),some (24,true),1048575,[27,24,3]⟩,⟨some 28,.loadN 8 (.t 27),some (24,true),5242879,[28,24,27]⟩,⟨some 29,.bin .eql (some (.fcons 0 2 true (.fcons 0 1 false .int (.fcons 1 1 false .int .fnil)) (.fcons 2 1 false .int (.fcons 3 1 false .int (.fcons 4 1 false .int (.fcons 5 1 false .str (.fcons 6 1 false .str (.fcons 7 1 false .str .fnil)))))))) false (.t 26) (.t 28),some (24,true),16777215,[29,24,26,28]⟩,⟨some 30,.pick (.t 24) (.t 29) (.k (.bool false)),none,33554431,[30,24,29]⟩,⟨some 31,.mv (.t 30),none,67108863,[31,30]⟩]
def a33_4 : List O := [⟨some 32,.fadr 12 (.t 2),some (31,true),134217727,[32,31,2]⟩,⟨some 33,.loadN 3 (.t 32),some (31,true),268435455,[33,31,32]⟩,⟨some 34,.fadr 12 (.t 3),some (31,true),134217727,[34,31,3]⟩,⟨some 35,.loadN 3 (.t 34),some (31,true),671088639,[35,31,34]⟩,⟨some 36,.bin .eql (some (.fcons 0 1 false .int (.fcons 1 1 false .str (.fcons 2 1 false .int .fnil)))) false (.t 33) (.t 35),some (31,true),2147483647,[36,31,33,35]⟩,⟨some 37,.pick (.t 31) (.t 36) (.k (.bool false)),none,4294967295,[37,31,36]⟩,⟨some 38,.mv (.t 37),none,8589934591,[38,37]⟩]
def a33_5 : List O := [⟨some 39,.fadr 15 (.t 2),some (38,true),17179869183,[39,38,2]⟩,⟨some 40,.loadN 56 (.t 39),some (38,true),34359738367,[40,38,39]⟩,⟨some 41,.fadr 15 (.t 3),some (38,true),17179869183,[41,38,3]⟩,⟨some 42,.loadN 56 (.t 41),some (38,true),85899345919,[42,38,41]⟩,⟨some 43,.call (.k (.func 35 [] [])) [(.t 40),(.t 42)],some (38,true),274877906943,[43,38,40,42]⟩,⟨some 44,.pick (.t 38) (.t 43) (.k (.bool false)),none,549755813887,[44,38,43]⟩,⟨some 45,.mv (.t 44),none,1099511627775,[45,44]⟩]
def a33_6 : List O := [⟨some 46,.fadr 71 (.t 2),some (45,true),2199023255551,[46,45,2]⟩,⟨some 47,.load1 (.t 46),some (45,true),4398046511103,[47,45,46]⟩,⟨some 48,.fadr 71 (.t 3),some (45,true),2199023255551,[48,45,3]⟩,⟨some 49,.load1 (.t 48),some (45,true),10995116277759,[49,45,48]⟩,⟨some 50,.bin .eql (some .int) false (.t 47) (.t 49),some (45,true),35184372088831,[50,45,47,49]⟩,⟨some 51,.pick (.t 45) (.t 50) (.k (.bool false)),none,70368744177663,[51,45,50]⟩,⟨some 52,.mv (.t 51),none,140737488355327,[52,51]⟩]
def a33_7 : List O := [⟨some 53,.fadr 72 (.t 2),some (52,true),281474976710655,[53,52,2]⟩,⟨some 54,.load1 (.t 53),some (52,true),562949953421311,[54,52,53]⟩,⟨some 55,.fadr 72 (.t 3),some (52,true),281474976710655,[55,52,3]⟩,⟨some 56,.load1 (.t 55),some (52,true),1407374883553279,[56,52,55]⟩,⟨some 57,.bin .eql (some .int) false (.t 54) (.t 56),some (52,true),4503599627370495,[57,52,54,56]⟩,⟨some 58,.pick (.t 52) (.t 57) (.k (.bool false)),none,9007199254740991,[58,52,57]⟩,⟨some 59,.mv (.t 58),none,18014398509481983,[59,58]⟩]
def a33_8 : List O := [⟨some 60,.fadr 73 (.t 2),some (59,true),36028797018963967,[60,59,2]⟩,⟨some 61,.load1 (.t 60),some (59,true),72057594037927935,[61,59,60]⟩,⟨some 62,.fadr 73 (.t 3),some (59,true),36028797018963967,[62,59,3]⟩,⟨some 63,.load1 (.t 62),some (59,true),180143985094819839,[63,59,62]⟩,⟨some 64,.bin .eql (some .int) false (.t 61) (.t 63),some (59,true),576460752303423487,[64,59,61,63]⟩,⟨some 65,.pick (.t 59) (.t 64) (.k (.bool false)),none,1152921504606846975,[65,59,64]⟩,⟨some 66,.mv (.t 65),none,2305843009213693951,[66,65]⟩]
def a33_9 : List O := [⟨some 67,.fadr 74 (.t 2),some (66,true),4611686018427387903,[67,66,2]⟩,⟨some 68,.load1 (.t 67),some (66,true),9223372036854775807,[68,66,67]⟩,⟨some 69,.fadr 74 (.t 3),some (66,true),4611686018427387903,[69,66,3]⟩,⟨some 70,.load1 (.t 69),some (66,true),23058430092136939519,[70,66,69]⟩,⟨some 71,.bin .eql (some .int) false (.t 68) (.t 70),some (66,true),73786976294838206463,[71,66,68,70]⟩,⟨some 72,.pick (.t 66) (.t 71) (.k (.bool false)),none,147573952589676412927,[72,66,71]⟩,⟨some 73,.mv (.t 72),none,295147905179352825855,[73,72]⟩]
def a33_10 : List O := [⟨some 74,.fadr 75 (.t 2),some (73,true),590295810358705651711,[74,73,2]⟩,⟨some 75,.load1 (.t 74),some (73,true),1180591620717411303423,[75,73,74]⟩,⟨some 76,.fadr 75 (.t 3),some (73,true),590295810358705651711,[76,73,3]⟩,⟨some 77,.load1 (.t 76),some (73,true),2951479051793528258559,[77,73,76]⟩,⟨some 78,.bin .eql (some .int) false (.t 75) (.t 77),some (73,true),9444732965739290427391,[78,73,75,77]⟩,⟨some 79,.pick (.t 73) (.t 78) (.k (.bool false)),none,18889465931478580854783,[79,73,78]⟩,⟨some 4,.mv (.t 79),none,37778931862957161709567,[4,79]⟩]
set_option maxRecDepth 100000 in
theorem e33_all : r33_1 = a33_0 ++ (a33_1 ++ (a33_2 ++ (a33_3 ++ (a33_4 ++ (a33_5 ++ (a33_6 ++ (a33_7 ++ (a33_8 ++ (a33_9 ++ (a33_10)))))))))) := rfl
theorem s33_0 {P : Program} {E : Env} {K : List Fr} {Q : Po} {x y : WStep} {ρ : Nat → V} {h : H} {bx bz : Nat} {rest : List O} (hx : h.get bx = some (.cells x.cells 52 false false none)) (hy : h.get bz = some (.cells y.cells 52 false false none)) (h2 : ρ 2 = .ptr (some (bx,0))) (h3 : ρ 3 = .ptr (some (bz,0))) (hk : ∀ (ρ' : Nat → V),ρ' 2 = .ptr (some (bx,0)) → ρ' 3 = .ptr (some (bz,0)) → ρ' 10 = .bool (decide (x.kind = y.kind)) → XO P E none 80 rest K ρ' h Q) : XO P E none 80 (a33_0 ++ rest) K ρ h Q := by
  simp (maxSteps := 2000000) only [GO,GO2,evK,fillV,setR,binV,intOp,strOp,shOp,unV,getR,lenV,partV,V.nj,V.njL,V.cells,Nat.reduceLT,Nat.reduceEqDiff,Nat.reduceAdd,↓reduceIte,Nat.reduceLeDiff,reduceCtorEq,a33_0,h2,h3,hx,hy,WStep.len,WStep.g0]
  exact hk _ h2 h3 (by first | rfl | simp)
theorem s33_1 {P : Program} {E : Env} {K : List Fr} {Q : Po} {x y : WStep} {ρ : Nat → V} {h : H} {bx bz : Nat} {rest : List O} {b : Bool} (hx : h.get bx = some (.cells x.cells 52 false false none)) (hy : h.get bz = some (.cells y.cells 52 false false none)) (h2 : ρ 2 = .ptr (some (bx,0))) (h3 : ρ 3 = .ptr (some (bz,0))) (hg : ρ 10 = .bool b) (hk : ∀ (ρ' : Nat → V),ρ' 2 = .ptr (some (bx,0)) → ρ' 3 = .ptr (some (bz,0)) → ρ' 17 = .bool (b && decide (x.at_ = y.at_)) → XO P E none 80 rest K ρ' h Q) : XO P E none 80 (a33_1 ++ rest) K ρ h Q := by
  have hpart : ∀ z : WStep,List.take 2 (List.drop 1 z.cells) = z.at_.cells := fun _ => rfl
  have heq := Addr.eqv h x.at_ y.at_
  cases b with
  | false =>
    simp (maxSteps := 2000000) only [GO,GO2,evK,fillV,setR,binV,intOp,strOp,shOp,unV,getR,lenV,partV,V.nj,V.njL,V.cells,Nat.reduceLT,Nat.reduceEqDiff,Nat.reduceAdd,↓reduceIte,Nat.reduceLeDiff,reduceCtorEq,a33_1,hg]
    exact hk _ h2 h3 rfl
  | true =>
    simp (maxSteps := 2000000) only [GO,GO2,evK,fillV,setR,binV,intOp,strOp,shOp,unV,getR,lenV,partV,V.nj,V.njL,V.cells,Nat.reduceLT,Nat.reduceEqDiff,Nat.reduceAdd,↓reduceIte,Nat.reduceLeDiff,reduceCtorEq,a33_1,hg,h2,h3,hx,hy,WStep.len,hpart,heq]
    exact hk _ h2 h3 (by first | rfl | simp)
theorem s33_2 {P : Program} {E : Env} {K : List Fr} {Q : Po} {x y : WStep} {ρ : Nat → V} {h : H} {bx bz : Nat} {rest : List O} {b : Bool} (hx : h.get bx = some (.cells x.cells 52 false false none)) (hy : h.get bz = some (.cells y.cells 52 false false none)) (h2 : ρ 2 = .ptr (some (bx,0))) (h3 : ρ 3 = .ptr (some (bz,0))) (hg : ρ 17 = .bool b) (hk : ∀ (ρ' : Nat → V),ρ' 2 = .ptr (some (bx,0)) → ρ' 3 = .ptr (some (bz,0)) → ρ' 24 = .bool (b && decide (x.client = y.client)) → XO P E none 80 rest K ρ' h Q) : XO P E none 80 (a33_2 ++ rest) K ρ h Q := by
  cases b with
  | false =>
    simp (maxSteps := 2000000) only [GO,GO2,evK,fillV,setR,binV,intOp,strOp,shOp,unV,getR,lenV,partV,V.nj,V.njL,V.cells,Nat.reduceLT,Nat.reduceEqDiff,Nat.reduceAdd,↓reduceIte,Nat.reduceLeDiff,reduceCtorEq,a33_2,hg]
    exact hk _ h2 h3 rfl
  | true =>
    simp (maxSteps := 2000000) only [GO,GO2,evK,fillV,setR,binV,intOp,strOp,shOp,unV,getR,lenV,partV,V.nj,V.njL,V.cells,Nat.reduceLT,Nat.reduceEqDiff,Nat.reduceAdd,↓reduceIte,Nat.reduceLeDiff,reduceCtorEq,a33_2,hg,h2,h3,hx,hy,WStep.len,WStep.g3]
    exact hk _ h2 h3 (by first | rfl | simp)
theorem s33_3 {P : Program} {E : Env} {K : List Fr} {Q : Po} {x y : WStep} {ρ : Nat → V} {h : H} {bx bz : Nat} {rest : List O} {b : Bool} (hx : h.get bx = some (.cells x.cells 52 false false none)) (hy : h.get bz = some (.cells y.cells 52 false false none)) (h2 : ρ 2 = .ptr (some (bx,0))) (h3 : ρ 3 = .ptr (some (bz,0))) (hg : ρ 24 = .bool b) (hk : ∀ (ρ' : Nat → V),ρ' 2 = .ptr (some (bx,0)) → ρ' 3 = .ptr (some (bz,0)) → ρ' 31 = .bool (b && decide (x.op = y.op)) → XO P E none 80 rest K ρ' h Q) : XO P E none 80 (a33_3 ++ rest) K ρ h Q := by
  have hpart : ∀ z : WStep,List.take 8 (List.drop 4 z.cells) = z.op.cells := fun _ => rfl
  have heq := Opr.eqv h x.op y.op
  cases b with
  | false =>
    simp (maxSteps := 2000000) only [GO,GO2,evK,fillV,setR,binV,intOp,strOp,shOp,unV,getR,lenV,partV,V.nj,V.njL,V.cells,Nat.reduceLT,Nat.reduceEqDiff,Nat.reduceAdd,↓reduceIte,Nat.reduceLeDiff,reduceCtorEq,a33_3,hg]
    exact hk _ h2 h3 rfl
  | true =>
    simp (maxSteps := 2000000) only [GO,GO2,evK,fillV,setR,binV,intOp,strOp,shOp,unV,getR,lenV,partV,V.nj,V.njL,V.cells,Nat.reduceLT,Nat.reduceEqDiff,Nat.reduceAdd,↓reduceIte,Nat.reduceLeDiff,reduceCtorEq,a33_3,hg,h2,h3,hx,hy,WStep.len,hpart,heq]
    exact hk _ h2 h3 (by first | rfl | simp)
theorem s33_4 {P : Program} {E : Env} {K : List Fr} {Q : Po} {x y : WStep} {ρ : Nat → V} {h : H} {bx bz : Nat} {rest : List O} {b : Bool} (hx : h.get bx = some (.cells x.cells 52 false false none)) (hy : h.get bz = some (.cells y.cells 52 false false none)) (h2 : ρ 2 = .ptr (some (bx,0))) (h3 : ρ 3 = .ptr (some (bz,0))) (hg : ρ 31 = .bool b) (hk : ∀ (ρ' : Nat → V),ρ' 2 = .ptr (some (bx,0)) → ρ' 3 = .ptr (some (bz,0)) → ρ' 38 = .bool (b && decide (x.query = y.query)) → XO P E none 80 rest K ρ' h Q) : XO P E none 80 (a33_4 ++ rest) K ρ h Q := by
  have hpart : ∀ z : WStep,List.take 3 (List.drop 12 z.cells) = z.query.cells := fun _ => rfl
  have heq := Query.eqv h x.query y.query
  cases b with
  | false =>
    simp (maxSteps := 2000000) only [GO,GO2,evK,fillV,setR,binV,intOp,strOp,shOp,unV,getR,lenV,partV,V.nj,V.njL,V.cells,Nat.reduceLT,Nat.reduceEqDiff,Nat.reduceAdd,↓reduceIte,Nat.reduceLeDiff,reduceCtorEq,a33_4,hg]
    exact hk _ h2 h3 rfl
  | true =>
    simp (maxSteps := 2000000) only [GO,GO2,evK,fillV,setR,binV,intOp,strOp,shOp,unV,getR,lenV,partV,V.nj,V.njL,V.cells,Nat.reduceLT,Nat.reduceEqDiff,Nat.reduceAdd,↓reduceIte,Nat.reduceLeDiff,reduceCtorEq,a33_4,hg,h2,h3,hx,hy,WStep.len,hpart,heq]
    exact hk _ h2 h3 (by first | rfl | simp)
theorem s33_5 {P : Program} {E : Env} {K : List Fr} {Q : Po} {x y : WStep} {ρ : Nat → V} {h : H} {bx bz : Nat} {rest : List O} {b : Bool} (hx : h.get bx = some (.cells x.cells 52 false false none)) (hy : h.get bz = some (.cells y.cells 52 false false none)) (h2 : ρ 2 = .ptr (some (bx,0))) (h3 : ρ 3 = .ptr (some (bz,0))) (hg : ρ 38 = .bool b) {c : Bool} (hc : Sp P E (.func 35 [] []) [.agg x.entry.cells,.agg y.entry.cells] h fun v h' => v = .bool c ∧ Kp h h') (hk : ∀ (ρ' : Nat → V) (h' : H),Kp h h' → ρ' 2 = .ptr (some (bx,0)) → ρ' 3 = .ptr (some (bz,0)) → ρ' 45 = .bool (b && c) → XO P E none 80 rest K ρ' h' Q) : XO P E none 80 (a33_5 ++ rest) K ρ h Q := by
  have hpart : ∀ z : WStep,List.take 56 (List.drop 15 z.cells) = z.entry.cells := fun _ => rfl
  cases b with
  | false =>
    simp (maxSteps := 2000000) only [GO,GO2,evK,fillV,setR,binV,intOp,strOp,shOp,unV,getR,lenV,partV,V.nj,V.njL,V.cells,Nat.reduceLT,Nat.reduceEqDiff,Nat.reduceAdd,↓reduceIte,Nat.reduceLeDiff,reduceCtorEq,a33_5,hg]
    exact hk _ _ (Keeps.refl _ _) h2 h3 rfl
  | true =>
    simp (maxSteps := 2000000) only [GO,GO2,evK,fillV,setR,binV,intOp,strOp,shOp,unV,getR,lenV,partV,V.nj,V.njL,V.cells,Nat.reduceLT,Nat.reduceEqDiff,Nat.reduceAdd,↓reduceIte,Nat.reduceLeDiff,reduceCtorEq,a33_5,hg,h2,h3,hx,hy,WStep.len,hpart]
    refine XC_of hc ?_
    rintro _ h' ⟨rfl,k⟩
    simp (maxSteps := 2000000) only [GO,GO2,evK,fillV,setR,binV,intOp,strOp,shOp,unV,getR,lenV,partV,V.nj,V.njL,V.cells,Nat.reduceLT,Nat.reduceEqDiff,Nat.reduceAdd,↓reduceIte,Nat.reduceLeDiff,reduceCtorEq,hg]
    exact hk _ _ k h2 h3 rfl
theorem s33_6 {P : Program} {E : Env} {K : List Fr} {Q : Po} {x y : WStep} {ρ : Nat → V} {h : H} {bx bz : Nat} {rest : List O} {b : Bool} (hx : h.get bx = some (.cells x.cells 52 false false none)) (hy : h.get bz = some (.cells y.cells 52 false false none)) (h2 : ρ 2 = .ptr (some (bx,0))) (h3 : ρ 3 = .ptr (some (bz,0))) (hg : ρ 45 = .bool b) (hk : ∀ (ρ' : Nat → V),ρ' 2 = .ptr (some (bx,0)) → ρ' 3 = .ptr (some (bz,0)) → ρ' 52 = .bool (b && decide (x.number = y.number)) → XO P E none 80 rest K ρ' h Q) : XO P E none 80 (a33_6 ++ rest) K ρ h Q := by
  cases b with
  | false =>
    simp (maxSteps := 2000000) only [GO,GO2,evK,fillV,setR,binV,intOp,strOp,shOp,unV,getR,lenV,partV,V.nj,V.njL,V.cells,Nat.reduceLT,Nat.reduceEqDiff,Nat.reduceAdd,↓reduceIte,Nat.reduceLeDiff,reduceCtorEq,a33_6,hg]
    exact hk _ h2 h3 rfl
  | true =>
    simp (maxSteps := 2000000) only [GO,GO2,evK,fillV,setR,binV,intOp,strOp,shOp,unV,getR,lenV,partV,V.nj,V.njL,V.cells,Nat.reduceLT,Nat.reduceEqDiff,Nat.reduceAdd,↓reduceIte,Nat.reduceLeDiff,reduceCtorEq,a33_6,hg,h2,h3,hx,hy,WStep.len,WStep.g71]
    exact hk _ h2 h3 (by first | rfl | simp)
theorem s33_7 {P : Program} {E : Env} {K : List Fr} {Q : Po} {x y : WStep} {ρ : Nat → V} {h : H} {bx bz : Nat} {rest : List O} {b : Bool} (hx : h.get bx = some (.cells x.cells 52 false false none)) (hy : h.get bz = some (.cells y.cells 52 false false none)) (h2 : ρ 2 = .ptr (some (bx,0))) (h3 : ρ 3 = .ptr (some (bz,0))) (hg : ρ 52 = .bool b) (hk : ∀ (ρ' : Nat → V),ρ' 2 = .ptr (some (bx,0)) → ρ' 3 = .ptr (some (bz,0)) → ρ' 59 = .bool (b && decide (x.place = y.place)) → XO P E none 80 rest K ρ' h Q) : XO P E none 80 (a33_7 ++ rest) K ρ h Q := by
  cases b with
  | false =>
    simp (maxSteps := 2000000) only [GO,GO2,evK,fillV,setR,binV,intOp,strOp,shOp,unV,getR,lenV,partV,V.nj,V.njL,V.cells,Nat.reduceLT,Nat.reduceEqDiff,Nat.reduceAdd,↓reduceIte,Nat.reduceLeDiff,reduceCtorEq,a33_7,hg]
    exact hk _ h2 h3 rfl
  | true =>
    simp (maxSteps := 2000000) only [GO,GO2,evK,fillV,setR,binV,intOp,strOp,shOp,unV,getR,lenV,partV,V.nj,V.njL,V.cells,Nat.reduceLT,Nat.reduceEqDiff,Nat.reduceAdd,↓reduceIte,Nat.reduceLeDiff,reduceCtorEq,a33_7,hg,h2,h3,hx,hy,WStep.len,WStep.g72]
    exact hk _ h2 h3 (by first | rfl | simp)
theorem s33_8 {P : Program} {E : Env} {K : List Fr} {Q : Po} {x y : WStep} {ρ : Nat → V} {h : H} {bx bz : Nat} {rest : List O} {b : Bool} (hx : h.get bx = some (.cells x.cells 52 false false none)) (hy : h.get bz = some (.cells y.cells 52 false false none)) (h2 : ρ 2 = .ptr (some (bx,0))) (h3 : ρ 3 = .ptr (some (bz,0))) (hg : ρ 59 = .bool b) (hk : ∀ (ρ' : Nat → V),ρ' 2 = .ptr (some (bx,0)) → ρ' 3 = .ptr (some (bz,0)) → ρ' 66 = .bool (b && decide (x.wth = y.wth)) → XO P E none 80 rest K ρ' h Q) : XO P E none 80 (a33_8 ++ rest) K ρ h Q := by
  cases b with
  | false =>
    simp (maxSteps := 2000000) only [GO,GO2,evK,fillV,setR,binV,intOp,strOp,shOp,unV,getR,lenV,partV,V.nj,V.njL,V.cells,Nat.reduceLT,Nat.reduceEqDiff,Nat.reduceAdd,↓reduceIte,Nat.reduceLeDiff,reduceCtorEq,a33_8,hg]
    exact hk _ h2 h3 rfl
  | true =>
    simp (maxSteps := 2000000) only [GO,GO2,evK,fillV,setR,binV,intOp,strOp,shOp,unV,getR,lenV,partV,V.nj,V.njL,V.cells,Nat.reduceLT,Nat.reduceEqDiff,Nat.reduceAdd,↓reduceIte,Nat.reduceLeDiff,reduceCtorEq,a33_8,hg,h2,h3,hx,hy,WStep.len,WStep.g73]
    exact hk _ h2 h3 (by first | rfl | simp)
theorem s33_9 {P : Program} {E : Env} {K : List Fr} {Q : Po} {x y : WStep} {ρ : Nat → V} {h : H} {bx bz : Nat} {rest : List O} {b : Bool} (hx : h.get bx = some (.cells x.cells 52 false false none)) (hy : h.get bz = some (.cells y.cells 52 false false none)) (h2 : ρ 2 = .ptr (some (bx,0))) (h3 : ρ 3 = .ptr (some (bz,0))) (hg : ρ 66 = .bool b) (hk : ∀ (ρ' : Nat → V),ρ' 2 = .ptr (some (bx,0)) → ρ' 3 = .ptr (some (bz,0)) → ρ' 73 = .bool (b && decide (x.count = y.count)) → XO P E none 80 rest K ρ' h Q) : XO P E none 80 (a33_9 ++ rest) K ρ h Q := by
  cases b with
  | false =>
    simp (maxSteps := 2000000) only [GO,GO2,evK,fillV,setR,binV,intOp,strOp,shOp,unV,getR,lenV,partV,V.nj,V.njL,V.cells,Nat.reduceLT,Nat.reduceEqDiff,Nat.reduceAdd,↓reduceIte,Nat.reduceLeDiff,reduceCtorEq,a33_9,hg]
    exact hk _ h2 h3 rfl
  | true =>
    simp (maxSteps := 2000000) only [GO,GO2,evK,fillV,setR,binV,intOp,strOp,shOp,unV,getR,lenV,partV,V.nj,V.njL,V.cells,Nat.reduceLT,Nat.reduceEqDiff,Nat.reduceAdd,↓reduceIte,Nat.reduceLeDiff,reduceCtorEq,a33_9,hg,h2,h3,hx,hy,WStep.len,WStep.g74]
    exact hk _ h2 h3 (by first | rfl | simp)
theorem s33_10 {P : Program} {E : Env} {K : List Fr} {Q : Po} {x y : WStep} {ρ : Nat → V} {h : H} {bx bz : Nat} {rest : List O} {b : Bool} (hx : h.get bx = some (.cells x.cells 52 false false none)) (hy : h.get bz = some (.cells y.cells 52 false false none)) (h2 : ρ 2 = .ptr (some (bx,0))) (h3 : ρ 3 = .ptr (some (bz,0))) (hg : ρ 73 = .bool b) (hk : ∀ (ρ' : Nat → V),ρ' 2 = .ptr (some (bx,0)) → ρ' 3 = .ptr (some (bz,0)) → ρ' 4 = .bool (b && decide (x.keep = y.keep)) → XO P E none 80 rest K ρ' h Q) : XO P E none 80 (a33_10 ++ rest) K ρ h Q := by
  cases b with
  | false =>
    simp (maxSteps := 2000000) only [GO,GO2,evK,fillV,setR,binV,intOp,strOp,shOp,unV,getR,lenV,partV,V.nj,V.njL,V.cells,Nat.reduceLT,Nat.reduceEqDiff,Nat.reduceAdd,↓reduceIte,Nat.reduceLeDiff,reduceCtorEq,a33_10,hg]
    exact hk _ h2 h3 rfl
  | true =>
    simp (maxSteps := 2000000) only [GO,GO2,evK,fillV,setR,binV,intOp,strOp,shOp,unV,getR,lenV,partV,V.nj,V.njL,V.cells,Nat.reduceLT,Nat.reduceEqDiff,Nat.reduceAdd,↓reduceIte,Nat.reduceLeDiff,reduceCtorEq,a33_10,hg,h2,h3,hx,hy,WStep.len,WStep.g75]
    exact hk _ h2 h3 (by first | rfl | simp)
set_option maxRecDepth 100000 in
theorem same33 (F : Fns P E T) {x y : WStep} {h : H} {s s' : List UInt8} (hx : EIn h x.entry s) (hy : EIn h y.entry s') (h0 : lenOf x.entry.ops = 0) :
    Sp P E (.func 33 [] []) [.agg x.cells,.agg y.cells] h fun v h' => v = .bool (decide (alikeP x y ∧ flatOf x.entry = flatOf y.entry ∧ lenOf y.entry.ops = 0 ∧ s = s')) ∧ Kp h h' := by
  have hg0 := psh_same h (.cells x.cells 52 false false none)
  have hk0 : Kp h (h.psh (.cells x.cells 52 false false none)) := Keeps.psh (Nat.le_refl _) _
  have hk1 : Kp (h.psh (.cells x.cells 52 false false none)) ((h.psh (.cells x.cells 52 false false none)).psh (.cells y.cells 52 false false none)) := Keeps.psh (Nat.le_refl _) _
  have gy := psh_same (h.psh (.cells x.cells 52 false false none)) (.cells y.cells 52 false false none)
  have gx := Kp.of hk1 hg0
  have kk := Kp.trans hk0 hk1
  refine Sp_fn F.f33 F.p33 (by simp [fn33]) ?_
  simp (maxSteps := 2000000) only [GO,GO2,evK,fillV,setR,binV,intOp,strOp,shOp,unV,getR,lenV,partV,V.nj,V.njL,V.cells,Nat.reduceLT,Nat.reduceEqDiff,Nat.reduceAdd,↓reduceIte,Nat.reduceLeDiff,reduceCtorEq,fn33,c33,r33_0,e33_all]
  generalize (h.psh (.cells x.cells 52 false false none)).psh (.cells y.cells 52 false false none) = h2 at *
  generalize (h.psh (.cells x.cells 52 false false none)).size = B at *
  refine s33_0 gx gy rfl rfl fun ρ p q r => ?_
  refine s33_1 gx gy p q r fun ρ p q r => ?_
  refine s33_2 gx gy p q r fun ρ p q r => ?_
  refine s33_3 gx gy p q r fun ρ p q r => ?_
  refine s33_4 gx gy p q r fun ρ p q r => ?_
  refine s33_5 gx gy p q r (same35 F (hx.keep kk) (hy.keep kk) h0) fun ρ h3 k p q r => ?_
  have gx := Kp.of k gx
  have gy := Kp.of k gy
  have kk := Kp.trans kk k
  refine s33_6 gx gy p q r fun ρ p q r => ?_
  refine s33_7 gx gy p q r fun ρ p q r => ?_
  refine s33_8 gx gy p q r fun ρ p q r => ?_
  refine s33_9 gx gy p q r fun ρ p q r => ?_
  rw [← List.append_nil a33_10]
  refine s33_10 gx gy p q r fun ρ p q r => ?_
  simp (maxSteps := 2000000) only [GO,GO2,evK,fillV,setR,binV,intOp,strOp,shOp,unV,getR,lenV,partV,V.nj,V.njL,V.cells,Nat.reduceLT,Nat.reduceEqDiff,Nat.reduceAdd,↓reduceIte,Nat.reduceLeDiff,reduceCtorEq,r]
  refine ⟨?_,kk⟩
  congr 1
  rw [Bool.eq_iff_iff]
  refine Iff.trans ?_ decide_eq_true_iff.symm
  simp only [Bool.and_eq_true,decide_eq_true_eq,and_assoc,alikeP]
  constructor
  · rintro ⟨a1,a2,a3,a4,a5,a6,a7,a8,a9,a10,a11,a12,a13⟩
    exact ⟨a1,a2,a3,a4,a5,a9,a10,a11,a12,a13,a6,a7,a8⟩
  · rintro ⟨a1,a2,a3,a4,a5,a9,a10,a11,a12,a13,a6,a7,a8⟩
    exact ⟨a1,a2,a3,a4,a5,a6,a7,a8,a9,a10,a11,a12,a13⟩
set_option maxRecDepth 100000 in
set_option maxHeartbeats 4000000 in
theorem flatten34 (F : Fns P E T) {x : Entry} {h : H} {s : List UInt8} (hx : EIn h x s) :
    Sp P E (.func 34 [] []) [.agg x.cells] h fun v h' => v = .tup [.agg (flatOf x).cells,.bool (decide (lenOf x.ops = 0 ∧ lenOf x.part.data = 0))] ∧ Kp h h' := by
  obtain ⟨a,n,c,o,hox⟩ := hx.ops
  obtain ⟨a',n',c',o',hdx⟩ : ∃ a n c o,x.part.data = .slice a n c o := by
    rcases hx.dat with ⟨c,o,e,_⟩ | ⟨p,n,c,o,cs,e,_⟩
    · exact ⟨_,_,_,_,e⟩
    · exact ⟨_,_,_,_,e⟩
  have hg0 := psh_same h (.cells x.cells 50 false false none)
  have hk0 : Kp h (h.psh (.cells x.cells 50 false false none)) := Keeps.psh (Nat.le_refl _) _
  obtain ⟨h3,e3,g3,k3,z3⟩ := put_ex (o := 0) (ws := (flatOf x).cells) (psh_same (h.psh (.cells x.cells 50 false false none)) (.cells [.int .i64 0,.int .i64 0,.int .i64 0,.int .i64 0,.int .i64 0,.int .i64 0,.int .i64 0,.int .i64 0,.str [],.str [],.str [],.int .i64 0,.int .i64 0,.int .i64 0,.int .i64 0,.int .i64 0,.int .i64 0,.int .i64 0,.int .i64 0,.int .i64 0,.int .i64 0,.int .i64 0,.int .i64 0,.int .i64 0,.int .i64 0,.int .i64 0,.int .i64 0,.int .i64 0,.int .i64 0,.int .i64 0,.int .i64 0,.int .i64 0,.int .i64 0,.int .i64 0,.int .i64 0,.int .i64 0,.int .i64 0,.int .i64 0,.int .i64 0,.int .i64 0,.int .i64 0,.int .i64 0,.int .i64 0,.int .i64 0,.int .i64 0,.int .i64 0,.int .i64 0,.int .i64 0,.int .i64 0,.int .i64 0,.int .i64 0,.int .i64 0,.int .i64 0,.int .i64 0] 81 false false none)) (Nat.le_refl _) rfl rfl
  have k3' : Keeps (h.psh (.cells x.cells 50 false false none)).size (h.psh (.cells x.cells 50 false false none)) h3 := Keeps.trans (Keeps.psh (Nat.le_refl _) _) k3
  have kk3 : Kp h h3 := Kp.trans hk0 k3'
  have gx : ((h.psh (.cells x.cells 50 false false none)).psh (.cells [.int .i64 0,.int .i64 0,.int .i64 0,.int .i64 0,.int .i64 0,.int .i64 0,.int .i64 0,.int .i64 0,.str [],.str [],.str [],.int .i64 0,.int .i64 0,.int .i64 0,.int .i64 0,.int .i64 0,.int .i64 0,.int .i64 0,.int .i64 0,.int .i64 0,.int .i64 0,.int .i64 0,.int .i64 0,.int .i64 0,.int .i64 0,.int .i64 0,.int .i64 0,.int .i64 0,.int .i64 0,.int .i64 0,.int .i64 0,.int .i64 0,.int .i64 0,.int .i64 0,.int .i64 0,.int .i64 0,.int .i64 0,.int .i64 0,.int .i64 0,.int .i64 0,.int .i64 0,.int .i64 0,.int .i64 0,.int .i64 0,.int .i64 0,.int .i64 0,.int .i64 0,.int .i64 0,.int .i64 0,.int .i64 0,.int .i64 0,.int .i64 0,.int .i64 0,.int .i64 0] 81 false false none)).get h.size = some (.cells x.cells 50 false false none) := Kp.of (Keeps.psh (Nat.le_refl _) _) hg0
  have hlt : h.size < (h.psh (.cells x.cells 50 false false none)).size := Nat.lt_succ_self _
  refine Sp_fn F.f34 F.p34 (by simp [fn34]) ?_
  simp (maxSteps := 2000000) only [GO,GO2,evK,fillV,setR,binV,intOp,strOp,shOp,unV,getR,lenV,partV,V.nj,V.njL,V.cells,Nat.reduceLT,Nat.reduceEqDiff,Nat.reduceAdd,↓reduceIte,Nat.reduceLeDiff,reduceCtorEq,fn34,c34,r34_0]
  generalize hB : (h.psh (.cells x.cells 50 false false none)).size = B at *
  generalize (h.psh (.cells x.cells 50 false false none)).psh (.cells [.int .i64 0,.int .i64 0,.int .i64 0,.int .i64 0,.int .i64 0,.int .i64 0,.int .i64 0,.int .i64 0,.str [],.str [],.str [],.int .i64 0,.int .i64 0,.int .i64 0,.int .i64 0,.int .i64 0,.int .i64 0,.int .i64 0,.int .i64 0,.int .i64 0,.int .i64 0,.int .i64 0,.int .i64 0,.int .i64 0,.int .i64 0,.int .i64 0,.int .i64 0,.int .i64 0,.int .i64 0,.int .i64 0,.int .i64 0,.int .i64 0,.int .i64 0,.int .i64 0,.int .i64 0,.int .i64 0,.int .i64 0,.int .i64 0,.int .i64 0,.int .i64 0,.int .i64 0,.int .i64 0,.int .i64 0,.int .i64 0,.int .i64 0,.int .i64 0,.int .i64 0,.int .i64 0,.int .i64 0,.int .i64 0,.int .i64 0,.int .i64 0,.int .i64 0,.int .i64 0] 81 false false none) = h2 at *
  rw [X_draw]
  refine k34_1 B (XDJ_XDK ?_)
  have p3 : List.take 8 (List.drop 3 x.cells) = x.op.cells := rfl
  have p14 : List.take 25 (List.drop 14 x.cells) = x.epoch.cells := rfl
  have p40 : List.take 8 (List.drop 40 x.cells) = x.vector.cells := rfl
  have g3' : h3.get B = some (.cells (flatOf x).cells 81 false false none) := g3
  have e3' := e3
  simp only [flatOf,Flat.cells] at e3'
  have fl : 54 ≤ (flatOf x).cells.length := Nat.le_refl _
  have fl2 : List.take 54 (flatOf x).cells = (flatOf x).cells := rfl
  by_cases hn : n = 0
  · have hn' : (((n : Nat) : Int) == 0) = true := by simp [hn]
    simp (maxSteps := 2000000) only [GO,GO2,evK,fillV,setR,binV,intOp,strOp,shOp,unV,getR,lenV,partV,V.nj,V.njL,V.cells,Nat.reduceLT,Nat.reduceEqDiff,Nat.reduceAdd,↓reduceIte,Nat.reduceLeDiff,reduceCtorEq,r34_1,gx,Entry.len,Entry.g0,Entry.g1,Entry.g2,Entry.g11,Entry.g12,Entry.g13,Entry.g39,Entry.g48,Entry.g49,Entry.g50,Entry.g51,Entry.g52,Entry.g53,Entry.g54,Entry.g55,p3,p14,p40,hox,hdx,hn',hlt,Opr.cells,Epoch.cells,Vec.cells,Nat.add_zero,Nat.reduceLeDiff,Bool.and_true,e3']
    have hnn : (((n' : Nat) : Int) == 0) = decide (n' = 0) := by rw [Bool.eq_iff_iff]; simp
    refine ⟨k3,?_⟩
    rw [resVs_c (i := B) (o := 0) (by decide) _ rfl]
    simp (maxSteps := 2000000) only [GO,GO2,evK,fillV,setR,binV,intOp,strOp,shOp,unV,getR,lenV,partV,V.nj,V.njL,V.cells,Nat.reduceLT,Nat.reduceEqDiff,Nat.reduceAdd,↓reduceIte,Nat.reduceLeDiff,reduceCtorEq,g3',fl,fl2]
    exact ⟨by simp [lenOf,hn,hnn],kk3⟩
  · have hn' : (((n : Nat) : Int) == 0) = false := by simp [hn]
    simp (maxSteps := 2000000) only [GO,GO2,evK,fillV,setR,binV,intOp,strOp,shOp,unV,getR,lenV,partV,V.nj,V.njL,V.cells,Nat.reduceLT,Nat.reduceEqDiff,Nat.reduceAdd,↓reduceIte,Nat.reduceLeDiff,reduceCtorEq,r34_1,gx,Entry.len,Entry.g0,Entry.g1,Entry.g2,Entry.g11,Entry.g12,Entry.g13,Entry.g39,Entry.g48,Entry.g49,Entry.g50,Entry.g51,Entry.g52,Entry.g53,Entry.g54,Entry.g55,p3,p14,p40,hox,hdx,hn',hlt,Opr.cells,Epoch.cells,Vec.cells,Nat.add_zero,Nat.reduceLeDiff,Bool.and_true,e3']
    refine ⟨k3,?_⟩
    rw [resVs_c (i := B) (o := 0) (by decide) _ rfl]
    simp (maxSteps := 2000000) only [GO,GO2,evK,fillV,setR,binV,intOp,strOp,shOp,unV,getR,lenV,partV,V.nj,V.njL,V.cells,Nat.reduceLT,Nat.reduceEqDiff,Nat.reduceAdd,↓reduceIte,Nat.reduceLeDiff,reduceCtorEq,g3',fl,fl2]
    exact ⟨by simp [lenOf,hn],kk3⟩
def Vec.zero : Vec := ⟨0,0,0,0,0,0,0,0⟩
def Opr.zero : Opr := ⟨0,0,0,0,0,[],[],[]⟩
def Epoch.zero : Epoch := ⟨0,Vec.zero,Vec.zero,Vec.zero⟩
def Flat.zero : Flat := ⟨0,0,0,Opr.zero,0,0,Epoch.zero,0,Vec.zero,0,0,0,0,0,0,0⟩
set_option maxRecDepth 100000 in
set_option maxHeartbeats 4000000 in
theorem zeroEntry28 (F : Fns P E T) {x : Entry} {h : H} {s : List UInt8} (hx : EIn h x s) :
    Sp P E (.func 28 [] []) [.agg x.cells] h fun v h' => v = .bool (decide ((lenOf x.ops = 0 ∧ lenOf x.part.data = 0) ∧ flatOf x = Flat.zero)) ∧ Kp h h' := by
  have hk0 : Kp h (h.psh (.cells x.cells 50 false false none)) := Keeps.psh (Nat.le_refl _) _
  have gx := psh_same h (.cells x.cells 50 false false none)
  have p0 : List.take 56 x.cells = x.cells := rfl
  refine Sp_fn F.f28 F.p28 (by simp [fn28]) ?_
  simp (maxSteps := 2000000) only [GO,GO2,evK,fillV,setR,binV,intOp,strOp,shOp,unV,getR,lenV,partV,V.nj,V.njL,V.cells,Nat.reduceLT,Nat.reduceEqDiff,Nat.reduceAdd,↓reduceIte,Nat.reduceLeDiff,reduceCtorEq,fn28,c28,r28_0,r28_1,gx,Entry.len,p0]
  refine XC_of (flatten34 F (hx.keep hk0)) ?_
  rintro _ h2 ⟨rfl,k2⟩
  generalize (h.psh (.cells x.cells 50 false false none)) = h1 at *
  obtain ⟨h3,e3,g3,k3,z3⟩ := put_ex (o := 0) (ws := (flatOf x).cells) (psh_same h2 (.cells Flat.zero.cells 81 false false none)) (Nat.le_refl _) rfl rfl
  have g3' : h3.get h2.size = some (.cells (flatOf x).cells 81 false false none) := g3
  have k3' : Kp h2 h3 := Keeps.trans (Keeps.psh (Nat.le_refl _) _) k3
  have kk := Kp.trans (Kp.trans hk0 k2) k3'
  have fl : 54 ≤ (flatOf x).cells.length := Nat.le_refl _
  have fl2 : List.take 54 (flatOf x).cells = (flatOf x).cells := rfl
  have fl3 : (flatOf x).cells.length = 54 := rfl
  have heq := Flat.eqv h3 (flatOf x) Flat.zero
  generalize (flatOf x).cells = cc at *
  simp only [Flat.cells,Flat.zero,Opr.zero,Epoch.zero,Vec.zero] at e3 heq
  simp (maxSteps := 2000000) only [GO,GO2,evK,fillV,setR,binV,intOp,strOp,shOp,unV,getR,lenV,partV,V.nj,V.njL,V.cells,Nat.reduceLT,Nat.reduceEqDiff,Nat.reduceAdd,↓reduceIte,Nat.reduceLeDiff,reduceCtorEq,e3,fl3]
  by_cases hp : lenOf x.ops = 0 ∧ lenOf x.part.data = 0
  · have hp' : decide (lenOf x.ops = 0 ∧ lenOf x.part.data = 0) = true := by simpa using hp
    simp (maxSteps := 2000000) only [GO,GO2,evK,fillV,setR,binV,intOp,strOp,shOp,unV,getR,lenV,partV,V.nj,V.njL,V.cells,Nat.reduceLT,Nat.reduceEqDiff,Nat.reduceAdd,↓reduceIte,Nat.reduceLeDiff,reduceCtorEq,r28_2,hp',g3',fl,fl2,heq]
    refine ⟨congrArg V.bool ?_,kk⟩
    rw [Bool.eq_iff_iff]
    exact Iff.trans (decide_eq_true_iff (p := flatOf x = Flat.zero)) (Iff.trans ⟨fun e => ⟨hp,e⟩,fun e => e.2⟩ decide_eq_true_iff.symm)
  · have hp' : decide (lenOf x.ops = 0 ∧ lenOf x.part.data = 0) = false := by simpa using hp
    simp (maxSteps := 2000000) only [GO,GO2,evK,fillV,setR,binV,intOp,strOp,shOp,unV,getR,lenV,partV,V.nj,V.njL,V.cells,Nat.reduceLT,Nat.reduceEqDiff,Nat.reduceAdd,↓reduceIte,Nat.reduceLeDiff,reduceCtorEq,r28_2,hp',g3',fl,fl2,heq]
    exact ⟨by simp [hp],kk⟩
end Go.AM.Sc
