/- My own texts, laid for this claim. -/
import Derived.Test.YtpfoofcallfjjaaGreatDoorWe14ToWe19
import Derived.Sort.Walk0
set_option linter.unusedSimpArgs false
set_option linter.unusedVariables false
namespace Go.AM.Wc
open Go.AM Go.AM.Wd Go.AM.We
variable {P : Program} {E : Env} {T : H → Prop}
theorem new7x (F : Fw P E T) {h : H} {R : Nat} : Sp P E (.func 7 [] []) [.int .i64 R] h fun r h' => ∃ bd bm,r = .tup [.ptr (some (bd,0)),.int .i64 0] ∧ Ow h.size h' (dkX R bd bm 0 []) ∧ Kp h h' := by
 have c1 : ¬ (R : Int) < 0 := by omega
 have k1 : Kp h (h.psh (.map [] 0)) := Keeps.psh (Nat.le_refl _) _
 have k2 : Kp (h.psh (.map [] 0)) ((h.psh (.map [] 0)).psh (.cells [.map (some h.size),.int .i64 0,.int .i64 0,.int .i64 R,.bool false] 63 false false none)) := Keeps.psh (Nat.le_refl _) _
 have a1 := (Ow.nil h.size h).push (Nat.le_refl _) (.map [] 0)
 have a2 := a1.push k1.size (.cells [.map (some h.size),.int .i64 0,.int .i64 0,.int .i64 R,.bool false] 63 false false none)
 refine Sp_fn F.f7 F.p7 (by simp [fn7]) ?_
 simp only [GR,evK,binV,intOp,strOp,shOp,unV,Nat.reduceLT,Nat.reduceEqDiff,Nat.reduceAdd,↓reduceIte,Nat.reduceLeDiff,reduceCtorEq,fn7,c7,r7_0,r7_1,c1,r7_3]
 exact ⟨_,_,rfl,a2,Kp.trans k1 k2⟩
theorem down25x (F : Fw P E T) {h : H} {R bd bm : Nat} (gd : h.get bd = some (.cells (diskX R bm) 63 false false none)) : Sp P E (.func 25 [] []) [.ptr (some (bd,0))] h fun v h' => v = .bool false ∧ h' = h := by
 refine Sp_fn F.f25 F.p25 (by simp [fn25]) ?_
 simp only [GR,evK,binV,intOp,strOp,shOp,unV,Nat.reduceLT,Nat.reduceEqDiff,Nat.reduceAdd,↓reduceIte,Nat.reduceLeDiff,reduceCtorEq,fn25,c25,r25_0]
 refine XC_of (none55x F gd) ?_
 rintro _ hx ⟨rfl,e2⟩
 rw [e2]
 clear e2 hx
 unfold diskX at gd
 simp only [GR,evK,binV,intOp,strOp,shOp,unV,Nat.reduceLT,Nat.reduceEqDiff,Nat.reduceAdd,↓reduceIte,Nat.reduceLeDiff,reduceCtorEq,Bool.not_false,gd]
theorem clone26x (F : Fw P E T) (f26 : E.fns 26 = some fn26) (p26 : E.prim 26 = none) {h : H} {R bd bm : Nat} (gd : h.get bd = some (.cells (diskX R bm) 63 false false none)) (gm : h.get bm = some (.map [] 0)) : Sp P E (.func 26 [] []) [.ptr (some (bd,0))] h fun v h' => (∃ b,v = .ptr (some b)) ∧ Kp h h' := by
 refine Sp_fn f26 p26 (by simp [fn26]) ?_
 simp only [GR,evK,binV,intOp,strOp,shOp,unV,Nat.reduceLT,Nat.reduceEqDiff,Nat.reduceAdd,↓reduceIte,Nat.reduceLeDiff,reduceCtorEq,fn26,c26,r26_0]
 refine XC_of (none55x F gd) ?_
 rintro _ hx ⟨rfl,e2⟩
 rw [e2]
 clear e2 hx
 unfold diskX at gd
 simp only [GR,evK,binV,intOp,strOp,shOp,unV,Nat.reduceLT,Nat.reduceEqDiff,Nat.reduceAdd,↓reduceIte,Nat.reduceLeDiff,reduceCtorEq]
 rw [X_draw]
 refine d26_1 ?_
 simp only [GR,evK,binV,intOp,strOp,shOp,unV,Nat.reduceLT,Nat.reduceEqDiff,Nat.reduceAdd,↓reduceIte,Nat.reduceLeDiff,reduceCtorEq,r26_1,gd]
 have k1 : Kp h (h.psh (.map [] 0)) := Keeps.psh (Nat.le_refl _) _
 have k2 : Kp (h.psh (.map [] 0)) ((h.psh (.map [] 0)).psh (.cells [.map (some h.size),.int .i64 0,.int .i64 0,.int .i64 R,.bool false] 63 false false none)) := Keeps.psh (Nat.le_refl _) _
 refine ⟨k1,rfl,k2,?_⟩
 have k12 := Kp.trans k1 k2
 have gd2 := k12.of gd
 have gm2 := k12.of gm
 generalize (h.psh (.map [] 0)).psh (.cells [.map (some h.size),.int .i64 0,.int .i64 0,.int .i64 R,.bool false] 63 false false none) = h2 at *
 have k3 : Kp h2 (h2.psh (.mapIter (some bm) 0 [] 0)) := Keeps.psh (Nat.le_refl _) _
 have g3 := psh_same h2 (.mapIter (some bm) 0 [] 0)
 have gm3 := k3.of gm2
 simp only [GR,evK,binV,intOp,strOp,shOp,unV,Nat.reduceLT,Nat.reduceEqDiff,Nat.reduceAdd,↓reduceIte,Nat.reduceLeDiff,reduceCtorEq,r26_2,gd2,gm2]
 generalize h2.psh (.mapIter (some bm) 0 [] 0) = h3 at *
 rw [u26_6]
 simp only [GR,evK,binV,intOp,strOp,shOp,unV,Nat.reduceLT,Nat.reduceEqDiff,Nat.reduceAdd,↓reduceIte,Nat.reduceLeDiff,reduceCtorEq,r26_3,g3,gm3,List.isEmpty_nil,Bool.not_true,Bool.false_and,List.filter_nil,Bool.false_eq_true,List.getElem?_cons_zero,r26_7]
 exact ⟨⟨_,rfl⟩,Kp.trans k12 k3⟩
set_option maxHeartbeats 1000000 in
theorem open8x (F : Fw P E T) (f26 : E.fns 26 = some fn26) (p26 : E.prim 26 = none) {R : Nat} (num : ∀ h bd bm,T h → h.get bm = some (.map [] 0) → h.get bd = some (.cells (diskX R bm) 63 false false none) → Sp P E (.func 27 [] []) [.ptr (some (bd,0)),.str logN] h fun v h' => (∃ p c o,v = .slice p 0 c o) ∧ Kp h h')
  {lo : Nat} {h : H} {bd bm : Nat} {m2 : List Cell} (ow : Ow lo h (dkX R bd bm 0 [] ++ m2)) (hlo : lo ≤ h.size) (ht : T h) : Sp P E (.func 8 [] []) [.ptr (some (bd,0)),.str logN] h fun r h' => ∃ lb,r = .tup [.ptr (some (lb,0)),.int .i64 0] ∧ Ow lo h' (dkX R bd bm 0 [] ++ (lgX lb bd none [] [] 0 0 false ++ m2)) ∧ h.size ≤ lb ∧ Kp h h' := by
 refine Sp_fn F.f8 F.p8 (by simp [fn8]) ?_
 simp only [GR,evK,binV,intOp,strOp,shOp,unV,Nat.reduceLT,Nat.reduceEqDiff,Nat.reduceAdd,↓reduceIte,Nat.reduceLeDiff,reduceCtorEq,fn8,c8,r8_0,r8_1]
 refine XC_of (named24 F (by decide)) ?_
 rintro _ h1 ⟨rfl,e1⟩
 have k1 : Kp h h1 := by rw [e1]; exact Keeps.psh (Nat.le_refl _) _
 have hnm : isName logN = true := by decide
 have ow1 := ow.kp k1
 clear e1
 have gd1 := ow1.at (i := bd) (o := .cells (diskX R bm) 63 false false none) (by simp [dkX])
 have gm1 : h1.get bm = some (.map [] 0) := ow1.at (i := bm) (o := mok 0 (([] : List Fl).map fun f => entU f.fu)) (by simp [dkX])
 simp only [GR,evK,binV,intOp,strOp,shOp,unV,Nat.reduceLT,Nat.reduceEqDiff,Nat.reduceAdd,↓reduceIte,Nat.reduceLeDiff,reduceCtorEq,hnm,Bool.not_true,r8_3]
 refine XC_of (down25x F gd1) ?_
 rintro _ hx ⟨rfl,e2⟩
 rw [e2]
 clear e2 hx
 simp only [GR,evK,binV,intOp,strOp,shOp,unV,Nat.reduceLT,Nat.reduceEqDiff,Nat.reduceAdd,↓reduceIte,Nat.reduceLeDiff,reduceCtorEq,r8_5]
 refine XC_of (clone26x F f26 p26 gd1 gm1) ?_
 rintro _ h2 ⟨⟨b,rfl⟩,k2⟩
 have ow2 := ow1.kp k2
 have k12 := Kp.trans k1 k2
 have hl2 : lo ≤ h2.size := Nat.le_trans hlo k12.size
 have k3 : Kp h2 (h2.psh (lgO bd (.slice none 0 0 false) 0 0 false)) := Keeps.psh (Nat.le_refl _) _
 have g3 := psh_same h2 (lgO bd (.slice none 0 0 false) 0 0 false)
 have ow3 := Ow.pushM (m1 := dkX R bd bm 0 []) (m2 := m2) ow2 hl2 (lgO bd (.slice none 0 0 false) 0 0 false)
 have k13 := Kp.trans k12 k3
 simp only [GR,evK,binV,intOp,strOp,shOp,unV,Nat.reduceLT,Nat.reduceEqDiff,Nat.reduceAdd,↓reduceIte,Nat.reduceLeDiff,reduceCtorEq,eq_pn,r8_7]
 unfold lgO lgC at g3
 unfold lgO lgC at ow3 k3 k13
 generalize h2.psh (.cells [.ptr (some (bd,0)),.str logN,.slice none 0 0 false,.int .i64 0,.int .i64 0,.bool false] 68 false false none) = h3 at *
 simp only [GR,evK,binV,intOp,strOp,shOp,unV,Nat.reduceLT,Nat.reduceEqDiff,Nat.reduceAdd,↓reduceIte,Nat.reduceLeDiff,reduceCtorEq,r8_8]
 have gd3 := ow3.at (i := bd) (o := .cells (diskX R bm) 63 false false none) (by simp [dkX])
 have gm3 : h3.get bm = some (.map [] 0) := ow3.at (i := bm) (o := mok 0 (([] : List Fl).map fun f => entU f.fu)) (by simp [dkX])
 refine XC_of (num h3 bd bm (F.tkeep ht k13) gm3 gd3) ?_
 rintro _ h4 ⟨⟨p,c,o,rfl⟩,k4⟩
 have c0 : ¬ (0 : Int) < ((0 : Nat) : Int) := by decide
 simp only [GR,evK,binV,intOp,strOp,shOp,unV,Nat.reduceLT,Nat.reduceEqDiff,Nat.reduceAdd,↓reduceIte,Nat.reduceLeDiff,reduceCtorEq,r8_9]
 rw [u8_26]
 have g4 := k4.of g3
 simp only [GR,evK,binV,intOp,strOp,shOp,unV,Nat.reduceLT,Nat.reduceEqDiff,Nat.reduceAdd,↓reduceIte,Nat.reduceLeDiff,reduceCtorEq,c0,r8_27,g4]
 rw [u8_35]
 have e4 := put_at (ws := [.int .i64 0]) (o := 4) g4 (by simp) rfl rfl
 have hset : setR [V.ptr (some (bd,0)),V.str logN,V.slice none 0 0 false,V.int .i64 0,V.int .i64 0,V.bool false] 4 [.int .i64 0] = [V.ptr (some (bd,0)),V.str logN,V.slice none 0 0 false,V.int .i64 0,V.int .i64 0,V.bool false] := rfl
 rw [hset] at e4
 obtain ⟨ow5,k5⟩ := (ow3.kp k4).setM (.cells [V.ptr (some (bd,0)),V.str logN,V.slice none 0 0 false,V.int .i64 0,V.int .i64 0,V.bool false] 68 false false none)
 have hz : h.size ≤ h2.size := k12.size
 have k6 : Kp h (h4.set h2.size (.cells [V.ptr (some (bd,0)),V.str logN,V.slice none 0 0 false,V.int .i64 0,V.int .i64 0,V.bool false] 68 false false none)) := Keeps.trans (n := h.size) (Kp.trans k13 k4) (Keeps.set (H.get_lt g4) hz _)
 simp only [GR,evK,binV,intOp,strOp,shOp,unV,Nat.reduceLT,Nat.reduceEqDiff,Nat.reduceAdd,↓reduceIte,Nat.reduceLeDiff,reduceCtorEq,c0,r8_36,g4,e4,r8_37]
 exact ⟨h2.size,rfl,by simpa [lgX,lgO,lgC,fpt,vlo,dkX] using ow5,hz,k6⟩
theorem restart21 (F : Fw P E T) (D : Fd P E) {h : H} {R bd bm : Nat} (gd : h.get bd = some (.cells (diskX R bm) 63 false false none)) : Sp P E (.func 21 [] []) [.ptr (some (bd,0))] h fun v h' => v = .int .i64 1 ∧ h' = h := by
 refine Sp_fn D.f21 D.p21 (by simp [fn21]) ?_
 simp only [GR,evK,binV,intOp,strOp,shOp,unV,Nat.reduceLT,Nat.reduceEqDiff,Nat.reduceAdd,↓reduceIte,Nat.reduceLeDiff,reduceCtorEq,fn21,c21,r21_0]
 refine XC_of (none55x F gd) ?_
 rintro _ hx ⟨rfl,e2⟩
 rw [e2]
 clear e2 hx
 unfold diskX at gd
 simp only [GR,evK,binV,intOp,strOp,shOp,unV,Nat.reduceLT,Nat.reduceEqDiff,Nat.reduceAdd,↓reduceIte,Nat.reduceLeDiff,reduceCtorEq,r21_1,gd,Bool.not_false]
theorem new43 (D : Fd P E) {h : H} {R : Nat} : Sp P E (.func 43 [] []) [.int .i64 R] h fun r h' => r = .tup [.ptr (some (h.size,0)),.int .i64 0] ∧ h' = h.psh (rdO R (.slice none 0 0 false)) := by
 have c1 : ¬ (R : Int) < 0 := by omega
 refine Sp_fn D.f43 D.p43 (by simp [fn43]) ?_
 simp only [GR,evK,binV,intOp,strOp,shOp,unV,Nat.reduceLT,Nat.reduceEqDiff,Nat.reduceAdd,↓reduceIte,Nat.reduceLeDiff,reduceCtorEq,fn43,c43,r43_0,r43_1,c1,r43_3]
 rfl
set_option maxHeartbeats 1000000 in
theorem open71 (D : Fd P E) {lo : Nat} {h : H} {R rd : Nat} {m1 m2 : List Cell} (ow : Ow lo h (m1 ++ (rdX R rd none [] ++ m2))) (hlo : lo ≤ h.size) : Sp P E (.func 71 [] []) [.ptr (some (rd,0)),.str logN] h fun r h' => ∃ lr,r = .tup [.ptr (some (lr,0)),.int .i64 0] ∧ Ow lo h' (m1 ++ (rdX R rd none [] ++ (lqX lr rd none [] 0 false ++ m2))) ∧ h.size ≤ lr ∧ Kp h h' := by
 have rh := RdH.of ow (by simp)
 have hnm : isName logN = true := by decide
 have k1 : Kp h (h.psh (lqO rd (.slice none 0 0 false) 0 false)) := Keeps.psh (Nat.le_refl _) _
 have g1 := psh_same h (lqO rd (.slice none 0 0 false) 0 false)
 have ow1 := Ow.pushM (m1 := m1 ++ rdX R rd none []) (m2 := m2) (by simpa using ow) hlo (lqO rd (.slice none 0 0 false) 0 false)
 refine Sp_fn D.f71 D.p71 (by simp [fn71]) ?_
 simp only [GR,evK,binV,intOp,strOp,shOp,unV,Nat.reduceLT,Nat.reduceEqDiff,Nat.reduceAdd,↓reduceIte,Nat.reduceLeDiff,reduceCtorEq,fn71,c71,r71_0,r71_1]
 refine XC_of (name75 D (by decide)) ?_
 rintro _ hx ⟨rfl,e2⟩
 rw [e2]
 clear e2 hx
 simp only [GR,evK,binV,intOp,strOp,shOp,unV,Nat.reduceLT,Nat.reduceEqDiff,Nat.reduceAdd,↓reduceIte,Nat.reduceLeDiff,reduceCtorEq,hnm,Bool.not_true,r71_3]
 refine XC_of (down83 D rh.gd) ?_
 rintro _ hx ⟨rfl,e2⟩
 rw [e2]
 clear e2 hx
 simp only [GR,evK,binV,intOp,strOp,shOp,unV,Nat.reduceLT,Nat.reduceEqDiff,Nat.reduceAdd,↓reduceIte,Nat.reduceLeDiff,reduceCtorEq,r71_5]
 unfold lqO lqC at g1 k1 ow1
 generalize h.psh (.cells [.ptr (some (rd,0)),.str logN,.slice none 0 0 false,.int .i64 0,.int .i64 0,.bool false] 92 false false none) = h1 at *
 simp only [GR,evK,binV,intOp,strOp,shOp,unV,Nat.reduceLT,Nat.reduceEqDiff,Nat.reduceAdd,↓reduceIte,Nat.reduceLeDiff,reduceCtorEq,r71_6]
 refine XC_of (names82 D (rh.kp k1) (by simp)) ?_
 rintro _ h2 ⟨⟨b,rfl,_,_⟩,k2⟩
 have hz : vl b ([] : List Rq).length = vl b 0 := rfl
 obtain ⟨p,c,o,hv⟩ := vl_shape b 0 (fun _ => rfl)
 rw [hz,hv]
 have c0 : ¬ (0 : Int) < ((0 : Nat) : Int) := by decide
 simp only [GR,evK,binV,intOp,strOp,shOp,unV,Nat.reduceLT,Nat.reduceEqDiff,Nat.reduceAdd,↓reduceIte,Nat.reduceLeDiff,reduceCtorEq]
 rw [u71_11]
 simp only [GR,evK,binV,intOp,strOp,shOp,unV,Nat.reduceLT,Nat.reduceEqDiff,Nat.reduceAdd,↓reduceIte,Nat.reduceLeDiff,reduceCtorEq,r71_7,c0]
 rw [u71_29]
 simp only [GR,evK,binV,intOp,strOp,shOp,unV,Nat.reduceLT,Nat.reduceEqDiff,Nat.reduceAdd,↓reduceIte,Nat.reduceLeDiff,reduceCtorEq,r71_12,c0]
 rw [u71_38]
 have g2 := k2.of g1
 have e4 := put_at (ws := [.int .i64 0]) (o := 4) g2 (by simp) rfl rfl
 have hset : setR [V.ptr (some (rd,0)),V.str logN,V.slice none 0 0 false,V.int .i64 0,V.int .i64 0,V.bool false] 4 [.int .i64 0] = [V.ptr (some (rd,0)),V.str logN,V.slice none 0 0 false,V.int .i64 0,V.int .i64 0,V.bool false] := rfl
 rw [hset] at e4
 obtain ⟨ow3,k3⟩ := (ow1.kp k2).setM (.cells [V.ptr (some (rd,0)),V.str logN,V.slice none 0 0 false,V.int .i64 0,V.int .i64 0,V.bool false] 92 false false none)
 have k6 : Kp h (h2.set h.size (.cells [V.ptr (some (rd,0)),V.str logN,V.slice none 0 0 false,V.int .i64 0,V.int .i64 0,V.bool false] 92 false false none)) := Keeps.trans (n := h.size) (Kp.trans k1 k2) (Keeps.set (H.get_lt g2) (Nat.le_refl _) _)
 simp only [GR,evK,binV,intOp,strOp,shOp,unV,Nat.reduceLT,Nat.reduceEqDiff,Nat.reduceAdd,↓reduceIte,Nat.reduceLeDiff,reduceCtorEq,r71_30,g2,c0,r71_39,e4,r71_40]
 refine ⟨h.size,rfl,?_,Nat.le_refl _,k6⟩
 simpa [lqX,lqO,lqC,fpt,vl] using ow3
end Go.AM.Wc
namespace Go.AM.Wc
open Go.AM Go.AM.Wd Go.AM.We
variable {P : Program} {E : Env} {T : H → Prop}
theorem eq_bb (h : H) (a b : Bool) : eqV h .bool (.bool a) (.bool b) = some (a == b) := by simp [eqV]
def prO (bd rd : Nat) (l r : V) : Obj := .cells [.ptr (some (bd,0)),l,.ptr (some (rd,0)),r] 49 false false none
def allX (R bd bm lb bp rd lr : Nat) (fs : List Fl) (sb : Option Nat) (gc : List V) (sgs : List Sg) (nx : Nat) (br : Bool) (fb : Option Nat) (qs : List Rq) (qb : Option Nat) (ss : List Sq) (nq : Nat) (sp : Bool) (m2 : List Cell) : List Cell :=
 dkX R bd bm 0 fs ++ (lgX lb bd sb gc sgs nx 0 br ++ ((bp,prO bd rd (.ptr (some (lb,0))) (.ptr (some (lr,0)))) :: (rdX R rd fb qs ++ (lqX lr rd qb ss nq sp ++ m2))))
set_option maxHeartbeats 1000000 in
theorem open44 (F : Fw P E T) (D : Fd P E) (f26 : E.fns 26 = some fn26) (p26 : E.prim 26 = none) {R : Nat} (num : ∀ h bd bm,T h → h.get bm = some (.map [] 0) → h.get bd = some (.cells (diskX R bm) 63 false false none) → Sp P E (.func 27 [] []) [.ptr (some (bd,0)),.str logN] h fun v h' => (∃ p c o,v = .slice p 0 c o) ∧ Kp h h')
  {lo : Nat} {h : H} {bd bm bp rd : Nat} (ow : Ow lo h (dkX R bd bm 0 [] ++ ((bp,prO bd rd (.ptr none) (.ptr none)) :: rdX R rd none []))) (hlo : lo ≤ h.size) (h1lo : 1 ≤ lo) (ht : T h) :
  Sp P E (.func 44 [] []) [.ptr (some (bp,0)),.str logN] h fun r h' => r = .bool true ∧ (∃ lb lr,Ow lo h' (allX R bd bm lb bp rd lr [] none [] [] 0 false none [] none [] 0 false [])) ∧ Keeps lo h h' := by
 have gp := ow.at (i := bp) (o := prO bd rd (.ptr none) (.ptr none)) (by simp)
 have gd := ow.at (i := bd) (o := .cells (diskX R bm) 63 false false none) (by simp [dkX])
 have gr := (RdH.of (m2 := []) (m1 := dkX R bd bm 0 [] ++ [(bp,prO bd rd (.ptr none) (.ptr none))]) (by simpa using ow) (by simp)).gd
 have gp' := gp
 unfold prO at gp'
 refine Sp_fn D.f44 D.p44 (by simp [fn44]) ?_
 simp only [GR,evK,binV,intOp,strOp,shOp,unV,Nat.reduceLT,Nat.reduceEqDiff,Nat.reduceAdd,↓reduceIte,Nat.reduceLeDiff,reduceCtorEq,fn44,c44,r44_0,gp']
 refine XC_of (restart21 F D gd) ?_
 rintro _ hx ⟨rfl,e2⟩
 rw [e2]
 clear e2 hx
 simp only [GR,evK,binV,intOp,strOp,shOp,unV,Nat.reduceLT,Nat.reduceEqDiff,Nat.reduceAdd,↓reduceIte,Nat.reduceLeDiff,reduceCtorEq,r44_1,gp']
 refine XC_of (restart70 D gr) ?_
 rintro _ hx ⟨rfl,e2⟩
 rw [e2]
 clear e2 hx
 simp only [GR,evK,binV,intOp,strOp,shOp,unV,Nat.reduceLT,Nat.reduceEqDiff,Nat.reduceAdd,↓reduceIte,Nat.reduceLeDiff,reduceCtorEq,r44_2,gp']
 refine XC_of (open8x F f26 p26 num ow hlo ht) ?_
 rintro _ h1 ⟨lb,rfl,ow1,hlb,k1⟩
 have ow1 : Ow lo h1 (dkX R bd bm 0 [] ++ (lgX lb bd none [] [] 0 0 false ++ ((bp,prO bd rd (.ptr none) (.ptr none)) :: rdX R rd none []))) := ow1
 have gp1 := k1.of gp'
 have hl1 : lo ≤ h1.size := Nat.le_trans hlo k1.size
 simp only [GR,evK,binV,intOp,strOp,shOp,unV,Nat.reduceLT,Nat.reduceEqDiff,Nat.reduceAdd,↓reduceIte,Nat.reduceLeDiff,reduceCtorEq,List.getElem?_cons_zero,List.getElem?_cons_succ,r44_3,gp1]
 have ow1a : Ow lo h1 ((dkX R bd bm 0 [] ++ (lgX lb bd none [] [] 0 0 false ++ [(bp,prO bd rd (.ptr none) (.ptr none))])) ++ (rdX R rd none [] ++ [])) := by simpa using ow1
 refine XC_of (open71 D ow1a hl1) ?_
 rintro _ h2 ⟨lr,rfl,ow2,hlr,k2⟩
 have ow2a : Ow lo h2 ((dkX R bd bm 0 [] ++ lgX lb bd none [] [] 0 0 false) ++ (bp,prO bd rd (.ptr none) (.ptr none)) :: (rdX R rd none [] ++ (lqX lr rd none [] 0 false ++ []))) := by simpa using ow2
 have gp2 := k2.of gp1
 obtain ⟨ow3,k3⟩ := ow2a.setM (prO bd rd (.ptr (some (lb,0))) (.ptr none))
 have e3 := put_at (ws := [.ptr (some (lb,0))]) (o := 1) gp2 (by simp) rfl rfl
 have t3 : setR [V.ptr (some (bd,0)),V.ptr none,V.ptr (some (rd,0)),V.ptr none] 1 [V.ptr (some (lb,0))] = [V.ptr (some (bd,0)),V.ptr (some (lb,0)),V.ptr (some (rd,0)),V.ptr none] := rfl
 rw [t3] at e3
 unfold prO at ow3 k3
 have gp3 := ow3.at (i := bp) (o := .cells [.ptr (some (bd,0)),.ptr (some (lb,0)),.ptr (some (rd,0)),.ptr none] 49 false false none) (by simp)
 generalize h2.set bp (.cells [.ptr (some (bd,0)),.ptr (some (lb,0)),.ptr (some (rd,0)),.ptr none] 49 false false none) = h3 at *
 obtain ⟨ow4,k4⟩ := ow3.setM (prO bd rd (.ptr (some (lb,0))) (.ptr (some (lr,0))))
 have e4 := put_at (ws := [.ptr (some (lr,0))]) (o := 3) gp3 (by simp) rfl rfl
 have t4 : setR [V.ptr (some (bd,0)),V.ptr (some (lb,0)),V.ptr (some (rd,0)),V.ptr none] 3 [V.ptr (some (lr,0))] = [V.ptr (some (bd,0)),V.ptr (some (lb,0)),V.ptr (some (rd,0)),V.ptr (some (lr,0))] := rfl
 rw [t4] at e4
 unfold prO at ow4 k4
 have c0 : ((0 : Int) == 0) = true := rfl
 have c1 : ((true : Bool) == true) = true := rfl
 simp only [GR,evK,binV,intOp,strOp,shOp,unV,Nat.reduceLT,Nat.reduceEqDiff,Nat.reduceAdd,↓reduceIte,Nat.reduceLeDiff,reduceCtorEq,List.getElem?_cons_zero,List.getElem?_cons_succ,r44_4,e3,e4,r44_5,c0,eq_pn,Option.map_some,Bool.not_false,eq_bb,c1]
 refine ⟨⟨lb,lr,?_⟩,Keeps.trans (k1.mono hlo) (Keeps.trans (k2.mono hl1) (Keeps.trans k3 k4))⟩
 unfold allX prO
 simpa using ow4
set_option maxHeartbeats 1000000 in
theorem begun15 (F : Fw P E T) (D : Fd P E) (f26 : E.fns 26 = some fn26) (p26 : E.prim 26 = none) {R : Nat} (num : ∀ h bd bm,T h → h.get bm = some (.map [] 0) → h.get bd = some (.cells (diskX R bm) 63 false false none) → Sp P E (.func 27 [] []) [.ptr (some (bd,0)),.str logN] h fun v h' => (∃ p c o,v = .slice p 0 c o) ∧ Kp h h')
  {h : H} (ht : T h) : Sp P E (.func 15 [] []) [.int .i64 R] h fun r h' => ∃ bd bm bp rd lb lr,r = .tup [.ptr (some (bp,0)),.bool true] ∧ Ow h.size h' (allX R bd bm lb bp rd lr [] none [] [] 0 false none [] none [] 0 false []) ∧ Kp h h' := by
 have h1lo := F.tsize _ ht
 have c0 : ((0 : Int) != 0) = false := rfl
 refine Sp_fn D.f15 D.p15 (by simp [fn15]) ?_
 simp only [GR,evK,binV,intOp,strOp,shOp,unV,Nat.reduceLT,Nat.reduceEqDiff,Nat.reduceAdd,↓reduceIte,Nat.reduceLeDiff,reduceCtorEq,fn15,c15,r15_0,r15_1]
 refine XC_of (new7x F) ?_
 rintro _ h1 ⟨bd,bm,rfl,ow1,k1⟩
 simp only [GR,evK,binV,intOp,strOp,shOp,unV,Nat.reduceLT,Nat.reduceEqDiff,Nat.reduceAdd,↓reduceIte,Nat.reduceLeDiff,reduceCtorEq,List.getElem?_cons_zero,List.getElem?_cons_succ,r15_2]
 refine XC_of (new43 D) ?_
 rintro _ h2 ⟨rfl,e2⟩
 have k2 : Kp h1 h2 := by rw [e2]; exact Keeps.psh (Nat.le_refl _) _
 have ow2 := Ow.pushM (m1 := dkX R bd bm 0 []) (m2 := []) (by simpa using ow1) k1.size (rdO R (.slice none 0 0 false))
 rw [← e2] at ow2
 generalize h1.size = rd at *
 clear e2
 have hl2 : h.size ≤ h2.size := Nat.le_trans k1.size k2.size
 have k3 : Kp h2 (h2.psh (prO bd rd (.ptr none) (.ptr none))) := Keeps.psh (Nat.le_refl _) _
 have ow3 := Ow.pushM (m1 := dkX R bd bm 0 []) (m2 := [(rd,rdO R (.slice none 0 0 false))]) ow2 hl2 (prO bd rd (.ptr none) (.ptr none))
 unfold prO at k3 ow3
 simp only [GR,evK,binV,intOp,strOp,shOp,unV,Nat.reduceLT,Nat.reduceEqDiff,Nat.reduceAdd,↓reduceIte,Nat.reduceLeDiff,reduceCtorEq,List.getElem?_cons_zero,List.getElem?_cons_succ,r15_3,r15_4,c0,eq_pn]
 generalize h2.size = bp at *
 generalize h2.psh (.cells [.ptr (some (bd,0)),.ptr none,.ptr (some (rd,0)),.ptr none] 49 false false none) = h3 at *
 have kk3 : Kp h h3 := Kp.trans (Kp.trans k1 k2) k3
 simp only [GR,evK,binV,intOp,strOp,shOp,unV,Nat.reduceLT,Nat.reduceEqDiff,Nat.reduceAdd,↓reduceIte,Nat.reduceLeDiff,reduceCtorEq,r15_6]
 refine XC_of (open44 F D f26 p26 num (lo := h.size) (by simpa [rdX,fpt,vl,prO] using ow3) kk3.size h1lo (F.tkeep ht kk3)) ?_
 rintro _ h4 ⟨rfl,⟨lb,lr,ow4⟩,k4⟩
 simp only [GR,evK,binV,intOp,strOp,shOp,unV,Nat.reduceLT,Nat.reduceEqDiff,Nat.reduceAdd,↓reduceIte,Nat.reduceLeDiff,reduceCtorEq]
 exact ⟨bd,bm,bp,rd,lb,lr,rfl,ow4,Keeps.trans (n := h.size) kk3 k4⟩
end Go.AM.Wc
namespace Go.AM.Wc
open Go.AM Go.AM.Wd Go.AM.We
variable {P : Program} {E : Env} {T : H → Prop}
def recs (sgs : List Sg) : List (List V) := sgs.flatMap fun s => s.rs.map Rc.cs
theorem recs_len : ∀ {sgs : List Sg} {a z : Nat},chain sgs a z → a + (recs sgs).length = z
 | [],a,z,h => by simpa [recs,chain] using h
 | s :: r,a,z,h => by
  obtain ⟨h1,h2,h3⟩ := h
  have := recs_len h3
  simp only [recs,List.flatMap_cons,List.length_append,List.length_map] at this ⊢
  omega
theorem recs_at {pre r : List Sg} {s : Sg} {a z i : Nat} (hc : chain (pre ++ s :: r) a z) (hi : i < s.rs.length) : (recs (pre ++ s :: r))[s.fst + i - a]? = some s.rs[i].cs := by
 obtain ⟨b,h1,h2⟩ := chain_app.1 hc
 have hl := recs_len h1
 have hf : s.fst = b := h2.1
 have e : recs (pre ++ s :: r) = recs pre ++ (s.rs.map Rc.cs ++ recs r) := by simp [recs]
 rw [e,List.getElem?_append_right (by omega),show s.fst + i - a - (recs pre).length = i by omega,List.getElem?_append_left (by simpa using hi),List.getElem?_map,List.getElem?_eq_getElem hi]
 rfl
def Rsx (h : H) (sv : V) (sgs : List Sg) : Prop := ∃ p c o,sv = .slice p sgs.length c o ∧ elemsV h 4 sgs.length sv = some (sgs.flatMap Sg.cells) ∧ ∀ s ∈ sgs,Rlx h (vl s.rb s.rs.length) (s.rs.map fun c => (c.v,c.cs))
theorem Rsx.rs {h : H} {sv : V} {sgs : List Sg} (a : Rsx h sv sgs) : Rs h sv sgs := by
 obtain ⟨p,c,o,h1,h2,h3⟩ := a
 refine ⟨p,c,o,h1,h2,fun s hs => ?_⟩
 have := (h3 s hs).rl
 rwa [show (s.rs.map fun c => (c.v,c.cs)).map (fun p => (p.1,p.2.length)) = s.xs by rw [List.map_map]; rfl] at this
theorem Rsx.at {h : H} {sv : V} {sgs : List Sg} {k : Nat} (a : Rsx h sv sgs) (hk : k < sgs.length) : ∃ b o c q cs ty op ro fz,sv = .slice (some (b,o)) sgs.length c q ∧ h.get b = some (.cells cs ty op ro fz) ∧ o + k * 4 + 4 ≤ cs.length ∧ List.take 4 (List.drop (o + k * 4) cs) = sgs[k].cells := a.rs.at hk
theorem Rsx.kp {h h' : H} {sv : V} {sgs : List Sg} (a : Rsx h sv sgs) (k : Kp h h') : Rsx h' sv sgs := by
 obtain ⟨p,c,o,h1,h2,h3⟩ := a
 exact ⟨p,c,o,h1,elems_kp k h2,fun s hs => (h3 s hs).kp k⟩
theorem Rsx.cl {h : H} {sv sv' : V} {sgs : List Sg} (a : Rsx h sv sgs) (c : Cl h sv' sgs) : Rsx h sv' sgs := by
 obtain ⟨_,_,_,_,_,h3⟩ := a
 obtain ⟨p,c,o,rfl,hc⟩ := c
 refine ⟨p,c,o,rfl,?_,h3⟩
 rcases hc with rfl | ⟨b,rfl,hg⟩
 ·cases p <;> simp [elemsV]
 ·have hl := seg_len sgs
  simp only [elemsV,hg,Nat.zero_add,← hl,Nat.le_refl,if_true]
  by_cases h0 : (sgs.flatMap Sg.cells).length = 0
  ·rw [if_pos h0,List.eq_nil_of_length_eq_zero h0]
  ·rw [if_neg h0,getR_whole' rfl]
theorem rlx_of {h : H} {s : Sg} (oks : okS s) (hf : ∀ p ∈ s.foot,h.get p.1 = some p.2) : Rlx h (vl s.rb s.rs.length) (s.rs.map fun c => (c.v,c.cs)) := by
 obtain ⟨p,c,o,hsv⟩ := vl_shape s.rb s.rs.length (fun h => by rw [oks.nn h]; rfl)
 have hxl : (s.rs.map fun c => (c.v,c.cs)).length = s.rs.length := List.length_map ..
 refine ⟨p,c,o,by rw [hxl]; exact hsv,?_,fun q hq => ?_⟩
 ·have hxm : (s.rs.map fun c => (c.v,c.cs)).map (·.1) = s.rs.map Rc.v := by rw [List.map_map]; rfl
  rw [hxl,hxm]
  cases hb : s.rb with
  | none => exact (oks.ne (oks.nn hb)).elim
  | some b =>
   have hg := hf (b,.cells (s.rs.map Rc.v) 45 true false none) (by simp [Sg.foot,hb,fpt])
   have := vl_elems hg
   rw [List.length_map] at this
   exact this
 ·obtain ⟨c1,hc1,rfl⟩ := List.mem_map.1 hq
  have hg := hf c1.cell (by simp only [Sg.foot,List.mem_append]; exact .inr (List.mem_map.2 ⟨c1,hc1,rfl⟩))
  exact ⟨_,_,_,rfl,vl_elems hg,(oks.rc c1 hc1).1⟩
theorem rsx_log {lo : Nat} {h : H} {lb bd : Nat} {sb : Option Nat} {gc : List V} {sgs : List Sg} {nx a z : Nat} {sy : Int} {br : Bool} {m1 m2 : List Cell} (ow : Ow lo h (m1 ++ (lgX lb bd sb gc sgs nx sy br ++ m2))) (hn : sb = none → sgs = [] ∧ gc = []) (hc : chain sgs a z) : Rsx h (vlo sb gc.length sgs.length) sgs := by
 obtain ⟨p,c,o,hsv⟩ := vlo_shape sb gc.length sgs.length (fun h => by rw [(hn h).1]; rfl)
 refine ⟨p,c,o,hsv,?_,fun s hs => ?_⟩
 ·cases sb with
  | none => rw [(hn rfl).1]; simp [vlo,elemsV]
  | some b =>
   have g := ow.at (i := b) (o := .cells (gc ++ sgs.flatMap Sg.cells) 74 true false none) (by simp [lgX,fpt])
   have hl := seg_len sgs
   simp only [vlo,elemsV,g]
   by_cases h0 : sgs.length * 4 = 0
   ·rw [if_pos h0,List.eq_nil_of_length_eq_zero (hl.trans h0)]
   ·rw [if_neg h0,if_pos (by rw [List.length_append,hl]; omega)]
    unfold getR
    rw [List.drop_left,List.take_of_length_le (by omega)]
 ·refine rlx_of (chain_mem hc s hs).1 fun p hp => ow.get p ?_
  simp only [lgX,List.mem_append,List.mem_cons]
  exact .inr (.inl (.inr (.inr (List.mem_flatMap.2 ⟨s,hs,hp⟩))))
set_option maxHeartbeats 1000000 in
theorem iter41x (F : Fw P E T) {h : H} {tb l : Nat} {sv : V} {sgs : List Sg} {a nx : Nat} (hc : chain sgs a nx) (hm : nx ≤ 1000000000000) (Inv : Nat → H → Prop) (Stp : H → Prop)
  (hKp : ∀ k h1 h2,Inv k h1 → Kp h1 h2 → Inv k h2)
  (hRd : ∀ k h1,Inv k h1 → h1.get tb = some (.cells [sv] 66 false false none) ∧ Rsx h1 sv sgs)
  (hY : ∀ k h0 h1 r c,a ≤ k → k < nx → (recs sgs)[k - a]? = some c → 1 ≤ c.length → Inv k h0 → Nx h0 h1 r c → Sp P E (.yield l) [.int .i64 (k : Nat),r] h1 fun v h2 => F74 h1 h2 ∧ ((v = .bool true ∧ Inv (k + 1) h2) ∨ (v = .bool false ∧ Stp h2)))
  (h0 : Inv a h) : Sp P E (.func 41 [] [.ptr (some (tb,0))]) [.yield l] h fun _ h' => Inv nx h' ∨ Stp h' := by
 have hnl := chain_len hc
 have hmem := chain_mem hc
 have inner : ∀ (s : Sg) (K : List Fr) (Q : Po) (ρ0 : Nat → V) (b4 : Nat),s ∈ sgs → (∀ i (hi : i < s.rs.length),(recs sgs)[s.fst + i - a]? = some s.rs[i].cs) → ρ0 0 = .yield l → ρ0 4 = .ptr (some (b4,0)) → ρ0 14 = vl s.rb s.rs.length → ρ0 15 = .int .i64 s.rs.length →
   (∀ (ρ' : Nat → V) (h' : H),(∀ j,j < 16 → j ≠ 5 → j ≠ 6 → ρ' j = ρ0 j) → Inv (s.fst + s.rs.length) h' → X P E none 32 K ρ' h' Q) →
   (∀ (T' : List V) (h' : H),Stp h' → Q .ret T' h') →
   ∀ (d k : Nat) (ρ : Nat → V) (h1 : H),s.rs.length - k = d → k ≤ s.rs.length → (∀ j,j < 16 → j ≠ 5 → j ≠ 6 → ρ j = ρ0 j) → ρ 16 = .int .i64 k → Inv (s.fst + k) h1 → h1.get b4 = some (.cells s.cells 74 false false none) →
   XL P E none 32 b41_6 (.b 2 :: K) ρ h1 Q := by
  intro s K Q ρ0 b4 hs hrec w0 w4 w14 w15 cont stop d
  obtain ⟨oks,hsa,hsz⟩ := hmem s hs
  obtain ⟨p,c,o,hsv⟩ := vl_shape s.rb s.rs.length (fun h => by rw [oks.nn h]; rfl)
  induction d with
  | zero =>
   intro k ρ h1 hd hk hr q16 inv g4
   have hke : ¬ k < s.rs.length := by omega
   have q15 := (hr 15 (by decide) (by decide) (by decide)).trans w15
   have hkk : k = s.rs.length := by omega
   subst hkk
   rw [u41_6]
   simp only [GR,evK,binV,intOp,strOp,shOp,unV,Nat.reduceLT,Nat.reduceEqDiff,Nat.reduceAdd,↓reduceIte,Nat.reduceLeDiff,reduceCtorEq,q15,q16,Int.ofNat_lt,hke]
   refine cont _ h1 (fun j hj h5 h6 => ?_) inv
   simp only [up_app]
   repeat rw [if_neg (by omega)]
   exact hr j hj h5 h6
  | succ d ih =>
   intro k ρ h1 hd hk hr q16 inv g4
   have hke : k < s.rs.length := by omega
   have q0 := (hr 0 (by decide) (by decide) (by decide)).trans w0
   have q4 := (hr 4 (by decide) (by decide) (by decide)).trans w4
   have q14 := (hr 14 (by decide) (by decide) (by decide)).trans w14
   have q15 := (hr 15 (by decide) (by decide) (by decide)).trans w15
   have hw : IntKind.i64.wrap ((k : Int) + 1) = ((k + 1 : Nat) : Int) := wrap_nat (n := k + 1) (by omega)
   have hw2 : IntKind.i64.wrap ((s.fst : Int) + (k : Int)) = ((s.fst + k : Nat) : Int) := by
    rw [wrap_le (by omega) (by omega)]; omega
   obtain ⟨gt,hrs⟩ := hRd _ _ inv
   obtain ⟨_,_,_,_,_,h3⟩ := hrs
   have hxl : s.xs.length = s.rs.length := List.length_map ..
   have hrlx := h3 s hs
   have hrl := hrlx.rl
   rw [show (s.rs.map fun c => (c.v,c.cs)).map (fun p => (p.1,p.2.length)) = s.xs by rw [List.map_map]; rfl] at hrl
   obtain ⟨b1,o1,c1,p1,cs,ty,op,ro,fz,hvb,hg1,hx⟩ := hrl.at (k := k) (by omega)
   have hrb : Rx h1 s.xs[k].1 s.rs[k].cs := by
    obtain ⟨_,_,_,_,_,q⟩ := hrlx
    have := q (s.rs[k].v,s.rs[k].cs) (List.mem_map.2 ⟨s.rs[k],List.getElem_mem hke,rfl⟩)
    simpa [Sg.xs] using this
   have hbd : 1 ≤ s.rs[k].cs.length ∧ s.rs[k].cs.length ≤ 65536 := (oks.rc s.rs[k] (List.getElem_mem hke)).2
   obtain ⟨rp,rc,ro',hrv⟩ := hrb.shape
   rw [hxl] at hvb
   have q14' := q14.trans hvb
   have hfst : s.cells[0]? = some (.int .i64 s.fst) := rfl
   rw [hrv] at hx hrb
   rw [u41_6]
   simp only [GR,evK,binV,intOp,strOp,shOp,unV,Nat.reduceLT,Nat.reduceEqDiff,Nat.reduceAdd,↓reduceIte,Nat.reduceLeDiff,reduceCtorEq,q15,q16,Int.ofNat_lt,hke,r41_3,q14',Int.natCast_nonneg,Int.toNat_natCast,Nat.mul_one,hg1,hx]
   rw [X_draw]
   refine l41_4 ?_
   simp only [GR,evK,binV,intOp,strOp,shOp,unV,Nat.reduceLT,Nat.reduceEqDiff,Nat.reduceAdd,↓reduceIte,Nat.reduceLeDiff,reduceCtorEq,r41_4a,q0,q4,Nat.zero_add,Nat.add_zero,g4,hfst,hw2]
   refine XCQ_of (clone42x F hrb hbd.1 (by omega)) ?_
   rintro r h2 hnb
   have k2 := hnb.kp
   refine ⟨k2,?_⟩
   simp only [GR,evK,binV,intOp,strOp,shOp,unV,Nat.reduceLT,Nat.reduceEqDiff,Nat.reduceAdd,↓reduceIte,Nat.reduceLeDiff,reduceCtorEq,r41_4b]
   refine XC_of (hY (s.fst + k) h1 h2 r s.rs[k].cs (by omega) (by omega) (hrec k hke) hbd.1 inv hnb) ?_
   rintro _ h4 ⟨f4,hor⟩
   rcases hor with ⟨rfl,inv4⟩ | ⟨rfl,hst⟩
   ·simp only [GR,evK,binV,intOp,strOp,shOp,unV,Nat.reduceLT,Nat.reduceEqDiff,Nat.reduceAdd,↓reduceIte,Nat.reduceLeDiff,reduceCtorEq,Bool.not_true,r41_5,q16,hw]
    refine ih (k + 1) _ h4 (by omega) (by omega) (fun j hj h5 h6 => ?_) ?_ inv4 (f4 _ _ _ _ _ (k2.of g4))
    ·simp only [up_app]
     repeat rw [if_neg (by omega)]
     exact hr j hj h5 h6
    ·rfl
   ·simp only [GR,evK,binV,intOp,strOp,shOp,unV,Nat.reduceLT,Nat.reduceEqDiff,Nat.reduceAdd,↓reduceIte,Nat.reduceLeDiff,reduceCtorEq,Bool.not_false]
    exact stop _ h4 hst
 have outer : ∀ (r pre : List Sg) (k : Nat) (ρ : Nat → V) (h1 : H),sgs = pre ++ r → chain r k nx → Inv k h1 → ρ 0 = .yield l → ρ 7 = sv → ρ 8 = .int .i64 sgs.length → ρ 9 = .int .i64 pre.length →
   XL P E none 32 b41_8 [.b 0] ρ h1 (Fin [] fun _ h' => Inv nx h' ∨ Stp h') := by
  intro r
  induction r with
  | nil =>
   intro pre k ρ h1 hsp hch inv q0 q7 q8 q9
   have hke : ¬ pre.length < sgs.length := by rw [hsp]; simp
   simp only [chain] at hch
   rw [u41_8]
   simp only [GR,evK,binV,intOp,strOp,shOp,unV,Nat.reduceLT,Nat.reduceEqDiff,Nat.reduceAdd,↓reduceIte,Nat.reduceLeDiff,reduceCtorEq,q8,q9,Int.ofNat_lt,hke]
   exact .inl (hch ▸ inv)
  | cons s r ih =>
   intro pre k ρ h1 hsp hch inv q0 q7 q8 q9
   have hke : pre.length < sgs.length := by rw [hsp]; simp
   obtain ⟨hf,oks,hch2⟩ := hch
   have hat : sgs[pre.length] = s := by simp [hsp]
   obtain ⟨gt,hrs⟩ := hRd _ _ inv
   obtain ⟨b1,o1,c1,p1,cs,ty,op,ro,fz,hvb,hg1,hle,hcs⟩ := hrs.at hke
   rw [hat] at hcs
   have q7' := q7.trans hvb
   have hw : IntKind.i64.wrap ((pre.length : Int) + 1) = ((pre.length + 1 : Nat) : Int) := wrap_nat (n := pre.length + 1) (by omega)
   obtain ⟨p,c,o,hsv⟩ := vl_shape s.rb s.rs.length (fun h => by rw [oks.nn h]; rfl)
   obtain ⟨h2,e2,g2,k2,z2⟩ := put_fresh h1 (vs := [.int .i64 0,.slice none 0 0 false,.int .i64 0,.bool false]) (ws := s.cells) (ty := 74) rfl (by unfold Sg.cells; rw [hsv]; rfl) rfl
   have hx1 : s.cells[0 + 1]? = some (.slice p s.rs.length c o) := by unfold Sg.cells; rw [hsv]; rfl
   have hx1' : s.cells[1]? = some (.slice p s.rs.length c o) := hx1
   have hc4 : s.cells.length = 4 := rfl
   rw [u41_8]
   simp only [GR,evK,binV,intOp,strOp,shOp,unV,Nat.reduceLT,Nat.reduceEqDiff,Nat.reduceAdd,↓reduceIte,Nat.reduceLeDiff,reduceCtorEq,q8,q9,Int.ofNat_lt,hke,r41_1,q7',Int.natCast_nonneg,Int.toNat_natCast,hg1,hle,hcs,hc4,e2,r41_2,g2,Nat.zero_add,hx1']
   refine inner s _ _ _ h1.size (by rw [hsp]; simp) (fun i hi => by rw [hsp]; exact recs_at (hsp ▸ hc) hi) ?_ ?_ ?_ ?_ ?_ ?_ s.rs.length 0 _ h2 rfl (Nat.zero_le _) (fun j _ _ _ => rfl) ?_ ?_ g2
   ·exact q0
   ·rfl
   ·exact hsv.symm
   ·rfl
   ·intro ρ' h' hr inv'
    have y0 := (hr 0 (by decide) (by decide) (by decide)).trans q0
    have y7 := (hr 7 (by decide) (by decide) (by decide)).trans q7
    have y8 := (hr 8 (by decide) (by decide) (by decide)).trans q8
    have y9 := (hr 9 (by decide) (by decide) (by decide)).trans q9
    simp only [GR,evK,binV,intOp,strOp,shOp,unV,Nat.reduceLT,Nat.reduceEqDiff,Nat.reduceAdd,↓reduceIte,Nat.reduceLeDiff,reduceCtorEq,y9,r41_7,hw]
    refine ih (pre ++ [s]) (k + s.rs.length) _ h' (by rw [hsp]; simp) hch2 (hf ▸ inv') ?_ ?_ ?_ ?_
    ·exact y0
    ·exact y7
    ·exact y8
    ·rw [show (pre ++ [s]).length = pre.length + 1 by simp]; rfl
   ·intro T' h' hst
    rw [Fin_ret]; simp only [GR,evK,binV,intOp,strOp,shOp,unV,Nat.reduceLT,Nat.reduceEqDiff,Nat.reduceAdd,↓reduceIte,Nat.reduceLeDiff,reduceCtorEq]; exact .inr hst
   ·rfl
   ·exact hKp _ _ _ (by rw [hf,Nat.add_zero]; exact inv) k2
 obtain ⟨gt,hrs⟩ := hRd _ _ h0
 obtain ⟨p,c,o,hsv,_⟩ := hrs
 refine Sp_fn F.f41 F.p41 (by simp [fn41]) ?_
 rw [hsv] at gt outer
 simp only [GR,evK,binV,intOp,strOp,shOp,unV,Nat.reduceLT,Nat.reduceEqDiff,Nat.reduceAdd,↓reduceIte,Nat.reduceLeDiff,reduceCtorEq,fn41,c41,r41_0,gt]
 refine outer sgs [] a _ h rfl hc h0 ?_ ?_ ?_ ?_
 ·rfl
 ·rfl
 ·rfl
 ·rfl
end Go.AM.Wc
namespace Go.AM.Wc
open Go.AM Go.AM.Wd Go.AM.We
variable {P : Program} {E : Env} {T : H → Prop}
set_option maxHeartbeats 1000000 in
theorem xor15 {ro : Option Nat} {lo : Nat} {h0 : H} {b n : Nat} {m1 m2 : List Cell} {K : List Fr} {Q : Po} {ρ0 : Nat → V}
  (cont : ∀ (ρ' : Nat → V) (h' : H) (cs' : List V),(∀ j,j < 56 → j ≠ 10 → ρ' j = ρ0 j) → cs'.length = n → Bs cs' → Ow lo h' (m1 ++ (b,.cells cs' 5 true false none) :: m2) → Keeps lo h0 h' → F74 h0 h' → X P E ro 88 K ρ' h' Q) (hn : n ≤ 1099511627776) :
  ∀ (d k : Nat) (ρ : Nat → V) (h : H) (cs : List V),n - k = d → k ≤ n → cs.length = n → Bs cs → Ow lo h (m1 ++ (b,.cells cs 5 true false none) :: m2) → Keeps lo h0 h → F74 h0 h → (∀ j,j < 56 → j ≠ 10 → ρ j = ρ0 j) → ρ0 9 = vl (some b) n → ρ0 55 = .int .i64 n → ρ 56 = .int .i64 k → XL P E ro 88 b4_15 (.b 4 :: K) ρ h Q := by
 intro d
 induction d with
 | zero =>
  intro k ρ h cs hd hk hl hb ow kk ff hr q9 q55 q56
  have hke : ¬ k < n := by omega
  have y55 := (hr 55 (by decide) (by decide)).trans q55
  rw [u4_15]
  simp only [GR,evK,binV,intOp,strOp,shOp,unV,Nat.reduceLT,Nat.reduceEqDiff,Nat.reduceAdd,↓reduceIte,Nat.reduceLeDiff,reduceCtorEq,y55,q56,Int.ofNat_lt,hke]
  refine cont _ h cs (fun j h1 h2 => ?_) hl hb ow kk ff
  simp only [up_app]
  repeat rw [if_neg (by omega)]
  exact hr j h1 h2
 | succ d ih =>
  intro k ρ h cs hd hk hl hb ow kk ff hr q9 q55 q56
  have hke : k < n := by omega
  have y9 := (hr 9 (by decide) (by decide)).trans q9
  have y55 := (hr 55 (by decide) (by decide)).trans q55
  have g := ow.at (i := b) (o := .cells cs 5 true false none) (by simp)
  obtain ⟨x,hx⟩ := hb cs[k] (List.getElem_mem (by omega))
  have hxk : cs[k]? = some (.int .u8 x) := by rw [List.getElem?_eq_getElem (by omega),hx]
  have hw : IntKind.i64.wrap ((k : Int) + 1) = ((k + 1 : Nat) : Int) := wrap_nat (n := k + 1) (by omega)
  obtain ⟨z,hz⟩ : ∃ z,z = IntKind.u8.wrap ((BitVec.ofInt IntKind.u8.bits x ^^^ BitVec.ofInt IntKind.u8.bits 255).toNat : Int) := ⟨_,rfl⟩
  have e := put_at (ws := [V.int .u8 z]) (o := k) g (by simp; omega) rfl rfl
  obtain ⟨ow1,k1⟩ := ow.setM (.cells (setR cs k [V.int .u8 z]) 5 true false none)
  have hvl : vl (some b) n = .slice (some (b,0)) n n true := rfl
  rw [hvl] at y9
  rw [u4_15]
  simp only [GR,evK,binV,intOp,strOp,shOp,unV,Nat.reduceLT,Nat.reduceEqDiff,Nat.reduceAdd,↓reduceIte,Nat.reduceLeDiff,reduceCtorEq,y55,q56,Int.ofNat_lt,hke,r4_12,r4_13,y9,Int.natCast_nonneg,Int.toNat_natCast,Nat.mul_one,Nat.zero_add,g,hxk,← hz,e,r4_14,hw]
  refine ih (k + 1) _ _ (setR cs k [V.int .u8 z]) (by omega) (by omega) ((setR_len (by simp; omega)).trans hl) (hb.set (by intro y hy; rw [List.mem_singleton.1 hy]; exact ⟨_,rfl⟩) k) ow1 (Keeps.trans kk k1) (F74.trans ff (F74.set g (by intro vs op ro fz e; cases e) _)) (fun j h1 h2 => ?_) q9 q55 ?_
  ·simp only [up_app]
   repeat rw [if_neg (by omega)]
   exact hr j h1 h2
  ·rfl
set_option maxHeartbeats 1000000 in
theorem xor24 {ro : Option Nat} {lo : Nat} {h0 : H} {b n : Nat} {m1 m2 : List Cell} {K : List Fr} {Q : Po} {ρ0 : Nat → V}
  (cont : ∀ (ρ' : Nat → V) (h' : H) (cs' : List V),(∀ j,j < 76 → j ≠ 13 → ρ' j = ρ0 j) → cs'.length = n → Bs cs' → Ow lo h' (m1 ++ (b,.cells cs' 5 true false none) :: m2) → Keeps lo h0 h' → F74 h0 h' → X P E ro 88 K ρ' h' Q) (hn : n ≤ 1099511627776) :
  ∀ (d k : Nat) (ρ : Nat → V) (h : H) (cs : List V),n - k = d → k ≤ n → cs.length = n → Bs cs → Ow lo h (m1 ++ (b,.cells cs 5 true false none) :: m2) → Keeps lo h0 h → F74 h0 h → (∀ j,j < 76 → j ≠ 13 → ρ j = ρ0 j) → ρ0 12 = vl (some b) n → ρ0 75 = .int .i64 n → ρ 76 = .int .i64 k → XL P E ro 88 b4_24 (.b 8 :: K) ρ h Q := by
 intro d
 induction d with
 | zero =>
  intro k ρ h cs hd hk hl hb ow kk ff hr q9 q55 q56
  have hke : ¬ k < n := by omega
  have y55 := (hr 75 (by decide) (by decide)).trans q55
  rw [u4_24]
  simp only [GR,evK,binV,intOp,strOp,shOp,unV,Nat.reduceLT,Nat.reduceEqDiff,Nat.reduceAdd,↓reduceIte,Nat.reduceLeDiff,reduceCtorEq,y55,q56,Int.ofNat_lt,hke]
  refine cont _ h cs (fun j h1 h2 => ?_) hl hb ow kk ff
  simp only [up_app]
  repeat rw [if_neg (by omega)]
  exact hr j h1 h2
 | succ d ih =>
  intro k ρ h cs hd hk hl hb ow kk ff hr q9 q55 q56
  have hke : k < n := by omega
  have y9 := (hr 12 (by decide) (by decide)).trans q9
  have y55 := (hr 75 (by decide) (by decide)).trans q55
  have g := ow.at (i := b) (o := .cells cs 5 true false none) (by simp)
  obtain ⟨x,hx⟩ := hb cs[k] (List.getElem_mem (by omega))
  have hxk : cs[k]? = some (.int .u8 x) := by rw [List.getElem?_eq_getElem (by omega),hx]
  have hw : IntKind.i64.wrap ((k : Int) + 1) = ((k + 1 : Nat) : Int) := wrap_nat (n := k + 1) (by omega)
  obtain ⟨z,hz⟩ : ∃ z,z = IntKind.u8.wrap ((BitVec.ofInt IntKind.u8.bits x ^^^ BitVec.ofInt IntKind.u8.bits 255).toNat : Int) := ⟨_,rfl⟩
  have e := put_at (ws := [V.int .u8 z]) (o := k) g (by simp; omega) rfl rfl
  obtain ⟨ow1,k1⟩ := ow.setM (.cells (setR cs k [V.int .u8 z]) 5 true false none)
  have hvl : vl (some b) n = .slice (some (b,0)) n n true := rfl
  rw [hvl] at y9
  rw [u4_24]
  simp only [GR,evK,binV,intOp,strOp,shOp,unV,Nat.reduceLT,Nat.reduceEqDiff,Nat.reduceAdd,↓reduceIte,Nat.reduceLeDiff,reduceCtorEq,y55,q56,Int.ofNat_lt,hke,r4_21,r4_22,y9,Int.natCast_nonneg,Int.toNat_natCast,Nat.mul_one,Nat.zero_add,g,hxk,← hz,e,r4_23,hw]
  refine ih (k + 1) _ _ (setR cs k [V.int .u8 z]) (by omega) (by omega) ((setR_len (by simp; omega)).trans hl) (hb.set (by intro y hy; rw [List.mem_singleton.1 hy]; exact ⟨_,rfl⟩) k) ow1 (Keeps.trans kk k1) (F74.trans ff (F74.set g (by intro vs op ro fz e; cases e) _)) (fun j h1 h2 => ?_) q9 q55 ?_
  ·simp only [up_app]
   repeat rw [if_neg (by omega)]
   exact hr j h1 h2
  ·rfl
end Go.AM.Wc
namespace Go.AM.Wc
open Go.AM Go.AM.Wd Go.AM.We
variable {P : Program} {E : Env} {T : H → Prop}
structure Mn where
 b : Nat
 cs : List V
def Mn.v (e : Mn) : V := if e.cs = [] then .slice (some (e.b,0)) 0 0 false else vl (some e.b) e.cs.length
def Mn.foot (e : Mn) : List Cell := if e.cs = [] then [] else [(e.b,.cells e.cs 5 true false none)]
def mnX (mb : Option Nat) (es : List Mn) : List Cell := fpt mb 45 (es.map Mn.v) ++ es.flatMap Mn.foot
theorem Mn.shape (e : Mn) : ∃ c o,e.v = .slice (some (e.b,0)) e.cs.length c o := by
 unfold Mn.v
 by_cases h : e.cs = []
 ·rw [if_pos h,h]; exact ⟨_,_,rfl⟩
 ·rw [if_neg h]; exact ⟨_,_,rfl⟩
theorem Mn.rx {h : H} (e : Mn) (hb : Bs e.cs) (hf : ∀ p ∈ e.foot,h.get p.1 = some p.2) : Rx h e.v e.cs := by
 unfold Mn.v Mn.foot at *
 by_cases h0 : e.cs = []
 ·rw [if_pos h0]
  refine ⟨_,_,_,by rw [h0]; rfl,?_,hb⟩
  rw [h0]; simp [elemsV]
 ·rw [if_neg h0] at hf ⊢
  exact ⟨_,_,_,rfl,vl_elems (hf _ List.mem_cons_self),hb⟩
theorem mn_rlx {lo : Nat} {h : H} {mb : Option Nat} {es : List Mn} (ow : Ow lo h (mnX mb es)) (hn : mb = none → es = []) (hb : ∀ e ∈ es,Bs e.cs) : Rlx h (vl mb es.length) (es.map fun e => (e.v,e.cs)) := by
 obtain ⟨p,c,o,hv⟩ := vl_shape mb es.length (fun h => by rw [hn h]; rfl)
 have hl : (es.map fun e => (e.v,e.cs)).length = es.length := List.length_map ..
 refine ⟨p,c,o,by rw [hl]; exact hv,?_,fun q hq => ?_⟩
 ·have hm : (es.map fun e => (e.v,e.cs)).map (·.1) = es.map Mn.v := by rw [List.map_map]; rfl
  rw [hl,hm]
  cases mb with
  | none => rw [hn rfl]; simp [vl,elemsV]
  | some b =>
   have g := ow.at (i := b) (o := .cells (es.map Mn.v) 45 true false none) (by simp [mnX,fpt])
   have := vl_elems g
   rwa [List.length_map] at this
 ·obtain ⟨e,he,rfl⟩ := List.mem_map.1 hq
  exact e.rx (hb e he) fun p hp => ow.get p (List.mem_append_right _ (List.mem_flatMap.2 ⟨e,he,hp⟩))
set_option maxHeartbeats 1000000 in
theorem mine7 {lo : Nat} {h0 : H} {m1 : List Cell} {K : List Fr} {Q : Po} {ρ0 : Nat → V} {v : V} {xs : List (V × List V)} (hvs : ∀ h',Keeps lo h0 h' → Rlx h' v xs) (hxl : xs.length ≤ 1048576) (hsm : ∀ p ∈ xs,p.2.length ≤ 1048576)
  (cont : ∀ (ρ' : Nat → V) (h' : H) (mb : Option Nat) (es : List Mn),(∀ j,j < 5 → ρ' j = ρ0 j) → ρ' 5 = vl mb es.length → (mb = none → es = []) → es.map Mn.cs = xs.map (·.2) → (∀ e ∈ es,Bs e.cs) → Ow lo h' (m1 ++ mnX mb es) → Keeps lo h0 h' → X P E none 88 K ρ' h' Q) :
  ∀ (d k : Nat) (ρ : Nat → V) (h : H) (mb : Option Nat) (es : List Mn),xs.length - k = d → k ≤ xs.length → es.map Mn.cs = (xs.take k).map (·.2) → (mb = none → es = []) → (∀ e ∈ es,Bs e.cs) → Ow lo h (m1 ++ mnX mb es) → lo ≤ h.size → Keeps lo h0 h → (∀ j,j < 5 → ρ j = ρ0 j) → ρ 5 = vl mb es.length → ρ 22 = v → ρ 23 = .int .i64 xs.length → ρ 24 = .int .i64 k →
   XL P E none 88 b4_7 (.b 0 :: K) ρ h Q := by
 intro d
 induction d with
 | zero =>
  intro k ρ h mb es hd hk hes hn hbs ow hlo kk hr q5 q22 q23 q24
  have hke : ¬ k < xs.length := by omega
  rw [List.take_of_length_le (by omega)] at hes
  rw [u4_7]
  simp only [GR,evK,binV,intOp,strOp,shOp,unV,Nat.reduceLT,Nat.reduceEqDiff,Nat.reduceAdd,↓reduceIte,Nat.reduceLeDiff,reduceCtorEq,q23,q24,Int.ofNat_lt,hke]
  refine cont _ h mb es (fun j h1 => ?_) ?_ hn hes hbs ow kk
  ·simp only [up_app]
   repeat rw [if_neg (by omega)]
   exact hr j h1
  ·exact q5
 | succ d ih =>
  intro k ρ h mb es hd hk hes hn hbs ow hlo kk hr q5 q22 q23 q24
  have hke : k < xs.length := by omega
  have hel : es.length = k := by have := congrArg List.length hes; simp only [List.length_map,List.length_take] at this; omega
  obtain ⟨b1,o1,c1,p1,cs,ty,op,ro,fz,hvb,hg1,hx⟩ := (hvs h kk).at hke
  have hrb : Rx h xs[k].1 xs[k].2 := by obtain ⟨_,_,_,_,_,q⟩ := hvs h kk; exact q _ (List.getElem_mem hke)
  obtain ⟨rp,rc,ro',hrv⟩ := hrb.shape
  have q22' := q22.trans hvb
  have hw : IntKind.i64.wrap ((k : Int) + 1) = ((k + 1 : Nat) : Int) := wrap_nat (n := k + 1) (by omega)
  have hsmk := hsm _ (List.getElem_mem hke)
  -- the copy
  have k1 : Kp h (h.psh (.cells [] 5 false false none)) := Keeps.psh (Nat.le_refl _) _
  have s1 := psh_size h (.cells [] 5 false false none)
  have hrb1 := hrb.kp k1
  obtain ⟨_,_,_,_,he1,hbk⟩ := hrb1
  obtain ⟨e0,he0⟩ : ∃ e0 : Mn,e0 = if xs[k].2 = [] then ⟨h.size,[]⟩ else ⟨h.size + 1,xs[k].2⟩ := ⟨_,rfl⟩
  have hec : e0.cs = xs[k].2 := by
   rw [he0]; split
   ·rename_i h; rw [h]
   ·rfl
  have hcopy : ∃ h1,appV (h.psh (.cells [] 5 false false none)) 5 1 1 (.slice (some (h.size,0)) 0 0 false) xs[k].1 = some (.eff e0.v h1) ∧ Kp h h1 ∧ Ow lo h1 (m1 ++ (fpt mb 45 (es.map Mn.v) ++ (es.flatMap Mn.foot ++ e0.foot))) := by
   by_cases h0 : xs[k].2 = []
   ·refine ⟨h.psh (.cells [] 5 false false none),?_,k1,?_⟩
    ·have hlen0 : xs[k].2.length = 0 := by rw [h0]; rfl
     have hlv : lenV xs[k].1 = some 0 := by rw [hrv,hlen0]; rfl
     have hev0 : elemsV (h.psh (.cells [] 5 false false none)) 1 0 xs[k].1 = some [] := by rw [hlen0,h0] at he1; exact he1
     have hv0 : e0.v = .slice (some (h.size,0)) 0 0 false := by rw [he0,if_pos h0]; rfl
     rw [hv0]
     unfold appV
     simp [hlv,hev0,putCells]
    ·have := ow.kp k1
     rw [he0,if_pos h0]
     simpa [mnX,Mn.foot] using this
   ·have hne : 1 ≤ xs[k].2.length := List.length_pos_iff.2 h0
    have k2 : Kp (h.psh (.cells [] 5 false false none)) ((h.psh (.cells [] 5 false false none)).psh (.cells xs[k].2 5 true false none)) := Keeps.psh (Nat.le_refl _) _
    refine ⟨(h.psh (.cells [] 5 false false none)).psh (.cells xs[k].2 5 true false none),?_,Kp.trans k1 k2,?_⟩
    ·rw [he0,if_neg h0]
     unfold appV Mn.v
     have c1 : ¬ xs[k].2.length ≤ 0 := by omega
     have c2 : xs[k].2.length ≤ 1099511627776 ∧ (2 * xs[k].2.length + 1024) * 1 ≤ 281474976710656 := by omega
     have c3 : elemsV (h.psh (.cells [] 5 false false none)) 1 0 (.slice (some (h.size,0)) 0 0 false) = some [] := by simp [elemsV]
     have hlv : lenV xs[k].1 = some xs[k].2.length := by rw [hrv]; rfl
     simp only [hlv,he1,Nat.zero_add,c1,if_false,c2,and_self,if_true,c3,push_eq,s1,List.nil_append,h0]
     rfl
    ·have o2 := Ow.pushM (m1 := m1 ++ mnX mb es) (m2 := []) (by simpa using ow.kp k1) (Nat.le_trans hlo k1.size) (.cells xs[k].2 5 true false none)
     rw [s1] at o2
     rw [he0,if_neg h0]
     have hf : Mn.foot ⟨h.size + 1,xs[k].2⟩ = [(h.size + 1,.cells xs[k].2 5 true false none)] := by unfold Mn.foot; rw [if_neg h0]
     rw [hf]
     simpa [mnX] using o2
  obtain ⟨h1,e1,kk1,ow1⟩ := hcopy
  obtain ⟨c2,o2,hev⟩ := e0.shape
  have k3 : Kp h1 (h1.psh (.cells [e0.v] 45 false false none)) := Keeps.psh (Nat.le_refl _) _
  have he3 : elemsV (h1.psh (.cells [e0.v] 45 false false none)) 1 1 (.slice (some (h1.size,0)) 1 1 false) = some [e0.v] := by
   simp only [elemsV,psh_same]; rfl
  have hl1 : lo ≤ h1.size := Nat.le_trans hlo kk1.size
  have hml : (es.map Mn.v).length = k := by rw [List.length_map,hel]
  obtain ⟨b',h4,e4,ow4,hb4,k4,fr4⟩ := Ow.appc (bytes := 24) (x := .slice (some (h1.size,0)) 1 1 false) (ds := [e0.v]) (ow1.kp k3) (fun h => by rw [hn h]; rfl) (Nat.le_trans hl1 k3.size) rfl he3 (by rw [hev]; rfl) (by rw [hml]; simp only [List.length_cons,List.length_nil]; omega)
  have hl4 : (es.map Mn.v ++ [e0.v]).length = k + 1 := by rw [List.length_append,hml]; rfl
  rw [hml,hl4] at e4
  have hd0 : List.drop 1 [V.slice none 0 0 false] = [] := rfl
  have hd1 : List.drop 0 ([] : List V) = [] := rfl
  rw [hel] at q5
  have kall : Keeps lo h0 h4 := Keeps.trans kk (Keeps.trans (kk1.mono hlo) (Keeps.trans (k3.mono hl1) k4))
  rw [hev] at e1 e4 k3
  rw [hrv] at hx e1
  rw [u4_7]
  simp only [GR,evK,binV,intOp,strOp,shOp,unV,Nat.reduceLT,Nat.reduceEqDiff,Nat.reduceAdd,↓reduceIte,Nat.reduceLeDiff,reduceCtorEq,q23,q24,Int.ofNat_lt,hke,r4_4,q22',Int.natCast_nonneg,Int.toNat_natCast,Nat.mul_one,hg1,hx,r4_5,q5,e1,hd0,e4,r4_6,hw]
  refine ih (k + 1) _ h4 b' (es ++ [e0]) (by omega) (by omega) ?_ (fun h => by have := hb4 h; simp at this) ?_ ?_ (Nat.le_trans (Nat.le_trans hl1 k3.size) k4.size) kall (fun j h1 => ?_) ?_ ?_ ?_ ?_
  ·rw [List.map_append,hes,List.map_cons,List.map_nil,hec,List.take_succ_eq_append_getElem hke,List.map_append]; rfl
  ·intro e he
   rcases List.mem_append.1 he with he | he
   ·exact hbs e he
   ·rw [List.mem_singleton.1 he,hec]; exact hbk
  ·have : mnX b' (es ++ [e0]) = fpt b' 45 (es.map Mn.v ++ [e0.v]) ++ (es.flatMap Mn.foot ++ e0.foot) := by simp [mnX]
   rw [this]; exact ow4
  ·simp only [up_app]
   repeat rw [if_neg (by omega)]
   exact hr j h1
  ·show _ = vl b' (es ++ [e0]).length
   rw [show (es ++ [e0]).length = k + 1 by simp [hel]]; rfl
  ·exact q22
  ·exact q23
  ·rfl
end Go.AM.Wc
namespace Go.AM.Wc
open Go.AM Go.AM.Wd Go.AM.We
variable {P : Program} {E : Env} {T : H → Prop}
set_option maxHeartbeats 1000000 in
theorem over17 {lo : Nat} {h0 : H} {m1 : List Cell} {K : List Fr} {Q : Po} {ρ0 : Nat → V} {mb : Option Nat} {N : Nat} (hN : N ≤ 1048576) (hmb : mb = none → N = 0)
  (cont : ∀ (ρ' : Nat → V) (h' : H),(∀ j,j < 5 → ρ' j = ρ0 j) → Ow lo h' m1 → Keeps lo h0 h' → X P E none 88 K ρ' h' Q) :
  ∀ (d k : Nat) (ρ : Nat → V) (h : H) (es : List Mn),N - k = d → k ≤ N → es.length = N → (∀ e ∈ es,Bs e.cs ∧ e.cs.length ≤ 1099511627776) → Ow lo h (m1 ++ mnX mb es) → lo ≤ h.size → Keeps lo h0 h → (∀ j,j < 5 → ρ j = ρ0 j) → ρ 48 = vl mb N → ρ 49 = .int .i64 N → ρ 50 = .int .i64 k →
   XL P E none 88 b4_17 (.b 2 :: K) ρ h Q := by
 intro d
 induction d with
 | zero =>
  intro k ρ h es hd hk hel hbs ow hlo kk hr q48 q49 q50
  have hke : ¬ k < N := by omega
  rw [u4_17]
  simp only [GR,evK,binV,intOp,strOp,shOp,unV,Nat.reduceLT,Nat.reduceEqDiff,Nat.reduceAdd,↓reduceIte,Nat.reduceLeDiff,reduceCtorEq,q49,q50,Int.ofNat_lt,hke]
  refine cont _ h (fun j h1 => ?_) ow.left kk
  simp only [up_app]
  repeat rw [if_neg (by omega)]
  exact hr j h1
 | succ d ih =>
  intro k ρ h es hd hk hel hbs ow hlo kk hr q48 q49 q50
  have hke : k < N := by omega
  obtain ⟨mbb,rfl⟩ : ∃ x,mb = some x := by
   cases mb with
   | none => have := hmb rfl; omega
   | some x => exact ⟨x,rfl⟩
  have hsp : es = es.take k ++ es[k] :: es.drop (k + 1) := by simp
  have hw : IntKind.i64.wrap ((k : Int) + 1) = ((k + 1 : Nat) : Int) := wrap_nat (n := k + 1) (by omega)
  have g := ow.at (i := mbb) (o := .cells (es.map Mn.v) 45 true false none) (by simp [mnX,fpt])
  have hx : (es.map Mn.v)[k]? = some es[k].v := by rw [List.getElem?_map,List.getElem?_eq_getElem (by omega)]; rfl
  obtain ⟨c2,o2,hev⟩ := es[k].shape
  obtain ⟨hbk,hlk⟩ := hbs es[k] (List.getElem_mem _)
  have hvl : vl (some mbb) N = .slice (some (mbb,0)) N N true := rfl
  have q48' := q48
  rw [hvl] at q48'
  rw [hev] at hx
  rw [u4_17]
  simp only [GR,evK,binV,intOp,strOp,shOp,unV,Nat.reduceLT,Nat.reduceEqDiff,Nat.reduceAdd,↓reduceIte,Nat.reduceLeDiff,reduceCtorEq,q49,q50,Int.ofNat_lt,hke,r4_10,q48',Int.natCast_nonneg,Int.toNat_natCast,Nat.mul_one,Nat.zero_add,g,hx,r4_11]
  by_cases h0 : es[k].cs = []
  ·have hl0 : es[k].cs.length = 0 := by rw [h0]; rfl
   have c0 : ¬ (0 : Int) < ((0 : Nat) : Int) := by decide
   rw [hl0]
   rw [u4_15]
   simp only [GR,evK,binV,intOp,strOp,shOp,unV,Nat.reduceLT,Nat.reduceEqDiff,Nat.reduceAdd,↓reduceIte,Nat.reduceLeDiff,reduceCtorEq,c0,r4_16,q50,hw]
   refine ih (k + 1) _ h es (by omega) (by omega) hel hbs ow hlo kk (fun j h1 => ?_) ?_ ?_ ?_
   ·simp only [up_app]
    repeat rw [if_neg (by omega)]
    exact hr j h1
   ·exact q48
   ·exact q49
   ·rfl
  ·have hfk : es[k].foot = [(es[k].b,.cells es[k].cs 5 true false none)] := by unfold Mn.foot; rw [if_neg h0]
   have hvk : es[k].v = vl (some es[k].b) es[k].cs.length := by unfold Mn.v; rw [if_neg h0]
   have owk : Ow lo h ((m1 ++ (fpt (some mbb) 45 (es.map Mn.v) ++ (es.take k).flatMap Mn.foot)) ++ (es[k].b,.cells es[k].cs 5 true false none) :: (es.drop (k + 1)).flatMap Mn.foot) := by
    have e1 : mnX (some mbb) es = fpt (some mbb) 45 (es.map Mn.v) ++ ((es.take k).flatMap Mn.foot ++ (es[k].foot ++ (es.drop (k + 1)).flatMap Mn.foot)) := by
     unfold mnX
     have := congrArg (List.flatMap Mn.foot) hsp
     rw [List.flatMap_append,List.flatMap_cons] at this
     rw [this]
    rw [e1,hfk] at ow
    simpa using ow
   refine xor15 (h0 := h) (n := es[k].cs.length) ?_ hlk es[k].cs.length 0 _ h es[k].cs (by omega) (Nat.zero_le _) rfl hbk owk (Keeps.refl _ _) (fun _ _ _ _ _ hg => hg) (fun j _ _ => rfl) ?_ ?_ ?_
   ·intro ρ' h' cs' hr' hcl hcb ow' kk' _
    have y48 := (hr' 48 (by decide) (by decide)).trans q48
    have y49 := (hr' 49 (by decide) (by decide)).trans q49
    have y50 := (hr' 50 (by decide) (by decide)).trans q50
    simp only [GR,evK,binV,intOp,strOp,shOp,unV,Nat.reduceLT,Nat.reduceEqDiff,Nat.reduceAdd,↓reduceIte,Nat.reduceLeDiff,reduceCtorEq,r4_16,y50,hw]
    have hcne : cs' ≠ [] := fun e => h0 (List.eq_nil_of_length_eq_zero (by rw [← hcl,e]; rfl))
    obtain ⟨e',he'⟩ : ∃ e' : Mn,e' = ⟨es[k].b,cs'⟩ := ⟨_,rfl⟩
    have hfk' : e'.foot = [(es[k].b,.cells cs' 5 true false none)] := by rw [he']; unfold Mn.foot; rw [if_neg hcne]
    have hvk' : e'.v = es[k].v := by rw [hvk,he']; unfold Mn.v; rw [if_neg hcne,hcl]
    have hmv : (es.take k ++ e' :: es.drop (k + 1)).map Mn.v = es.map Mn.v := by
     have := congrArg (List.map Mn.v) hsp
     rw [this,List.map_append,List.map_cons,List.map_append,List.map_cons,hvk']
    refine ih (k + 1) _ h' (es.take k ++ e' :: es.drop (k + 1)) (by omega) (by omega) ?_ ?_ ?_ (Nat.le_trans hlo kk'.size) (Keeps.trans kk kk') (fun j h1 => ?_) ?_ ?_ ?_
    ·simp; omega
    ·intro x hx
     rcases List.mem_append.1 hx with hx | hx
     ·exact hbs x (List.mem_of_mem_take hx)
     ·rcases List.mem_cons.1 hx with rfl | hx
      ·rw [he']; exact ⟨hcb,by show cs'.length ≤ _; rw [hcl]; exact hlk⟩
      ·exact hbs x (List.mem_of_mem_drop hx)
    ·have e2 : mnX (some mbb) (es.take k ++ e' :: es.drop (k + 1)) = fpt (some mbb) 45 (es.map Mn.v) ++ ((es.take k).flatMap Mn.foot ++ (e'.foot ++ (es.drop (k + 1)).flatMap Mn.foot)) := by
      unfold mnX
      rw [hmv,List.flatMap_append,List.flatMap_cons]
     rw [e2,hfk']
     simpa using ow'
    ·simp only [up_app]
     repeat rw [if_neg (by omega)]
     have := (hr' j (by omega) (by omega))
     rw [this]
     simp only [up_app]
     repeat rw [if_neg (by omega)]
     exact hr j h1
    ·exact y48
    ·exact y49
    ·rfl
   ·rw [← hvk,hev]; rfl
   ·rfl
   ·rfl
end Go.AM.Wc
namespace Go.AM.Wc
open Go.AM Go.AM.Wd Go.AM.We
variable {P : Program} {E : Env} {T : H → Prop}
def boxO (sv : V) : Obj := .cells [sv] 66 false false none
theorem F74.setO {lo : Nat} {h : H} {i : Nat} {o : Obj} {m : List Cell} (a : Ow lo h m) (hm : (i,o) ∈ m) (hn : ∀ vs op ro fz,o ≠ .cells vs 74 op ro fz) (o' : Obj) : F74 h (h.set i o') := F74.set (a.at hm) hn o'
set_option maxHeartbeats 1000000 in
theorem range_recs (F : Fw P E T) {lo L tf p1 p2 tb a nx : Nat} {h0 h : H} {ca b : C} {asg : (Nat → V) → Nat → V} {ρ : Nat → V} {K : List Fr} {Q : Po} {J : Nat → List Cell} {sv' : V} {sgs : List Sg}
  (htf : tf < L) (hT : ρ tf = .func 41 [] [.ptr (some (tb,0))]) (hlo : lo ≤ h.size) (ow : Ow lo h (J a ++ [(tb,boxO sv')])) (cl : Cl h sv' sgs) (kk : Keeps lo h0 h)
  (hrs : ∀ k h',Ow lo h' (J k) → Keeps lo h0 h' → ∃ sv,Rsx h' sv sgs) (hc : chain sgs a nx) (hm : nx ≤ 1000000000000)
  (hA : ∀ l ρ' h' (R : Po),R .nrm (toL L (asg ρ')) h' → X P E (some l) L [.c ca] ρ' h' R)
  (body : ∀ k l hB br c,a ≤ k → k < nx → (recs sgs)[k - a]? = some c → 1 ≤ c.length → Bs c → lo ≤ hB.size → Keeps lo h0 hB → Ow lo hB (J k ++ ([(tb,boxO sv'),(l,.loop .busy none (toL L ρ) [p1,p2] ca b)] ++ [(br,.cells c 5 true false none)])) →
   X P E (some l) L [.c b] (asg (up (up ρ p1 (.int .i64 (k : Nat))) p2 (vl (some br) c.length))) hB fun ex _ h2 => ex = .nrm ∧ Ow lo h2 (J (k + 1) ++ [(tb,boxO sv'),(l,.loop .busy none (toL L ρ) [p1,p2] ca b)]) ∧ F74 hB h2 ∧ Keeps lo hB h2)
  (cont : ∀ h',Ow lo h' (J nx ++ [(tb,boxO sv')]) → Cl h' sv' sgs → Keeps lo h0 h' → X P E none L K ρ h' Q) :
  X P E none L (.c (.range (.t tf) [p1,p2] ca b) :: K) ρ h Q := by
 refine X_range (by rw [ev_t htf]; exact congrArg some hT) rfl ?_
 obtain ⟨rz,hrz⟩ : ∃ rz : Obj,rz = .loop .ready none (toL L ρ) [p1,p2] ca b := ⟨_,rfl⟩
 obtain ⟨bz,hbz⟩ : ∃ bz : Obj,bz = .loop .busy none (toL L ρ) [p1,p2] ca b := ⟨_,rfl⟩
 have kL : Kp h (h.psh rz) := Keeps.psh (Nat.le_refl _) _
 have owL := Ow.pushM (m1 := J a ++ [(tb,boxO sv')]) (m2 := []) (by simpa using ow) hlo rz
 have nocr : ∀ vs op ro fz,rz ≠ .cells vs 74 op ro fz := by intro vs op ro fz e; rw [hrz] at e; cases e
 have nocb : ∀ vs op ro fz,bz ≠ .cells vs 74 op ro fz := by intro vs op ro fz e; rw [hbz] at e; cases e
 rw [← hrz]
 refine Sp.mono (iter41x F (l := h.size) (tb := tb) (sv := sv') hc hm
  (fun k h' => Ow lo h' (J k ++ [(tb,boxO sv'),(h.size,rz)]) ∧ Cl h' sv' sgs ∧ Keeps lo h0 h' ∧ lo ≤ h'.size)
  (fun _ => False) ?_ ?_ ?_ ⟨by simpa using owL,cl.fr (F74.kp kL),Keeps.trans kk (kL.mono hlo),Nat.le_trans hlo kL.size⟩) ?_
 ·rintro k h4 h5 ⟨i1,i2,i3,i4⟩ k45
  exact ⟨i1.kp k45,i2.fr (F74.kp k45),Keeps.trans i3 (k45.mono i4),Nat.le_trans i4 k45.size⟩
 ·rintro k h4 ⟨i1,i2,i3,i4⟩
  obtain ⟨sv,hr⟩ := hrs k h4 i1.left i3
  exact ⟨i1.at (by simp [boxO]),hr.cl i2⟩
 ·rintro k hP h4 r c hk1 hk2 hck hc1 ⟨i1,i2,i3,i4⟩ ⟨br,rfl,hbs,hbsz,hbg,kN⟩
  have i1' := Ow.newM (m1 := J k ++ [(tb,boxO sv'),(h.size,rz)]) (m2 := []) (by simpa using i1) kN hbsz i4 hbg
  have i2' := i2.fr (F74.kp kN)
  have i4' : lo ≤ h4.size := Nat.le_trans i4 kN.size
  have i3' : Keeps lo h0 h4 := Keeps.trans i3 (kN.mono i4)
  have gB := i1'.at (i := h.size) (o := rz) (by simp)
  rw [hrz] at gB
  refine Sp_yield (pend' := none) gB rfl (zip2 _ _ _ _ _ _) ?_
  refine hA _ _ _ _ ⟨rfl,gB,_,rfl,?_⟩
  have ow1 : Ow lo h4 ((J k ++ [(tb,boxO sv')]) ++ (h.size,rz) :: [(br,.cells c 5 true false none)]) := by simpa using i1'
  obtain ⟨ow2,k2⟩ := ow1.setM bz
  have f2 := F74.setO ow1 (i := h.size) (o := rz) (by simp) nocr bz
  rw [← hbz]
  obtain ⟨ex,T2,h2,e2,rfl,o2,f3,k3⟩ := body k h.size _ br c hk1 hk2 hck hc1 hbs (by rw [H.set_size]; exact i4') (Keeps.trans i3' k2) (by rw [← hbz]; simpa using ow2)
  rw [← hbz] at o2
  refine ⟨.nrm,T2,h2,e2,?_,?_⟩
  ·exact o2.at (by simp)
  ·have o3 : Ow lo h2 ((J (k + 1) ++ [(tb,boxO sv')]) ++ (h.size,bz) :: []) := by simpa using o2
   obtain ⟨o4,k4⟩ := o3.setM rz
   have f4 := F74.setO o3 (i := h.size) (o := bz) (by simp) nocb rz
   rw [← hrz]
   have fall := (f2.trans f3).trans f4
   refine ⟨fall,.inl ⟨rfl,by simpa using o4,i2'.fr fall,Keeps.trans i3' (Keeps.trans k2 (Keeps.trans k3 k4)),?_⟩⟩
   rw [H.set_size]
   have := k3.size
   rw [H.set_size] at this
   omega
 ·rintro _ h4 (⟨i1,i2,i3,i4⟩ | h0')
  ·have gR := i1.at (i := h.size) (o := rz) (by simp)
   rw [hrz] at gR
   refine ⟨_,_,_,_,_,_,gR,by decide,fun oe hoe => ?_⟩
   have o3 : Ow lo h4 ((J nx ++ [(tb,boxO sv')]) ++ (h.size,rz) :: []) := by simpa using i1
   obtain ⟨o4,k4⟩ := o3.setM oe
   have f4 := F74.setO o3 (i := h.size) (o := rz) (by simp) nocr oe
   exact cont _ (by simpa using o4.dropM) (i2.fr f4) (Keeps.trans i3 k4)
  ·exact h0'.elim
end Go.AM.Wc
namespace Go.AM.Wc
open Go.AM Go.AM.Wd Go.AM.We
variable {P : Program} {E : Env} {T : H → Prop}
theorem over25 (F : Fw P E T) {lo tb a nx : Nat} {h0 h : H} {ρ : Nat → V} {K : List Fr} {Q : Po} {M : List Cell} {sv' : V} {sgs : List Sg}
  (hT : ρ 71 = .func 41 [] [.ptr (some (tb,0))]) (hlo : lo ≤ h.size) (ow : Ow lo h (M ++ [(tb,boxO sv')])) (cl : Cl h sv' sgs) (kk : Keeps lo h0 h)
  (hrs : ∀ h',Ow lo h' M → ∃ sv,Rsx h' sv sgs) (hc : chain sgs a nx) (hm : nx ≤ 1000000000000)
  (cont : ∀ h',Ow lo h' M → Keeps lo h0 h' → X P E none 88 K ρ h' Q) :
  X P E none 88 (.c (.range (.t 71) [72,73] a4_19 b4_25) :: K) ρ h Q := by
 refine range_recs F (J := fun _ => M) (asg := fun ρ' => up ρ' 12 (ρ' 73)) (a := a) (nx := nx) (by decide) hT hlo ow cl kk (fun _ h' o _ => hrs h' o) hc hm ?_ ?_ ?_
 ·intro l ρ' h' R hR
  simp only [GR,evK,binV,intOp,strOp,shOp,unV,Nat.reduceLT,Nat.reduceEqDiff,Nat.reduceAdd,↓reduceIte,Nat.reduceLeDiff,reduceCtorEq,a4_19]
  exact hR
 ·intro k l hB br c hk1 hk2 hck hc1 hbs hlB kB owB
  have hsm : c.length ≤ 1099511627776 := by
   have hmem : c ∈ recs sgs := List.mem_of_getElem? hck
   unfold recs at hmem
   obtain ⟨s,hs,hcs⟩ := List.mem_flatMap.1 hmem
   obtain ⟨r,hr,rfl⟩ := List.mem_map.1 hcs
   have := ((chain_mem hc s hs).1.rc r hr).2.2
   omega
  have hvl : vl (some br) c.length = .slice (some (br,0)) c.length c.length true := rfl
  have owB' : Ow lo hB ((M ++ [(tb,boxO sv'),(l,.loop .busy none (toL 88 ρ) [72,73] a4_19 b4_25)]) ++ (br,.cells c 5 true false none) :: []) := by simpa using owB
  obtain ⟨bz,hbz⟩ : ∃ bz : Obj,bz = .loop .busy none (toL 88 ρ) [72,73] a4_19 b4_25 := ⟨_,rfl⟩
  rw [← hbz] at owB' ⊢
  rw [hvl]
  simp only [GR,evK,binV,intOp,strOp,shOp,unV,Nat.reduceLT,Nat.reduceEqDiff,Nat.reduceAdd,↓reduceIte,Nat.reduceLeDiff,reduceCtorEq,b4_25,r4_20]
  refine xor24 (h0 := hB) (n := c.length) (b := br) (m1 := M ++ [(tb,boxO sv'),(l,bz)]) (m2 := []) ?_ hsm c.length 0 _ hB c (by omega) (Nat.zero_le _) rfl hbs owB' (Keeps.refl _ _) (fun _ _ _ _ _ hg => hg) (fun j _ _ => rfl) ?_ ?_ ?_
  ·intro ρ' h' cs' hr' hcl hcb ow' kk' ff
   simp only [GR,evK,binV,intOp,strOp,shOp,unV,Nat.reduceLT,Nat.reduceEqDiff,Nat.reduceAdd,↓reduceIte,Nat.reduceLeDiff,reduceCtorEq]
   exact ⟨by simpa using ow'.dropM,ff,kk'⟩
  ·rfl
  ·rfl
  ·rfl
 ·intro h' o _ k
  exact cont h' o.left k
end Go.AM.Wc
namespace Go.AM.Wc
open Go.AM Go.AM.Wd Go.AM.We
variable {P : Program} {E : Env} {T : H → Prop}
theorem Ow.new2 {lo : Nat} {h h' : H} {m : List Cell} (a : Ow lo h m) (k : Kp h h') {b1 b2 : Nat} {o1 o2 : Obj} (h1 : h.size ≤ b1) (h2 : h.size ≤ b2) (hlo : lo ≤ h.size) (g1 : h'.get b1 = some o1) (g2 : h'.get b2 = some o2) (hne : b1 ≠ b2) : Ow lo h' ((b1,o1) :: (b2,o2) :: m) := by
 have a2 := a.new k h2 hlo g2
 refine ⟨fun p hp => ?_,fun p hp => ?_,?_⟩
 ·rcases List.mem_cons.1 hp with rfl | hp
  ·exact g1
  ·exact a2.get p hp
 ·rcases List.mem_cons.1 hp with rfl | hp
  ·show lo ≤ b1; omega
  ·exact a2.low p hp
 ·rw [List.map_cons,List.nodup_cons]
  refine ⟨fun hm => ?_,a2.nd⟩
  obtain ⟨p,hp,e⟩ := List.mem_map.1 hm
  rcases List.mem_cons.1 hp with rfl | hp
  ·exact hne e.symm
  ·have := H.get_lt (a.get p hp)
   simp only at e
   omega
theorem read28x (F : Fw P E T) (D : Fd P E) {lo : Nat} {h : H} {R bd bm k : Nat} {m1 m2 : List Cell} {fs1 : List Fl} {f : Fl} {fs2 : List Fl} (ow : Ow lo h (m1 ++ (dkX R bd bm k (fs1 ++ f :: fs2) ++ m2))) (ok : DkX R (fs1 ++ f :: fs2)) (hn : ∀ g ∈ fs1,g.name ≠ f.name) (l1 : 1 ≤ f.name.length) (l2 : f.name.length ≤ 64) (hc : 1 ≤ f.cs.length) :
  Sp P E (.func 28 [] []) [.ptr (some (bd,0)),.str f.name] h fun r h' => ∃ v,r = .tup [v,.int .i64 0] ∧ Nx h h' v f.cs := by
 have k1 : Kp h (h.psh (.cells [.str f.name] 9 false false none)) := Keeps.psh (Nat.le_refl _) _
 have gb := psh_same h (.cells [.str f.name] 9 false false none)
 have ow1 := ow.kp k1
 obtain ⟨gd,gm⟩ := ow_diskx ow1
 have hfk := find_some (f := f) (fs2 := fs2) (k := k) (j := 0) hn rfl
 have c4 : ((0 : Int) != 0) = false := rfl
 have hd0 : List.drop 1 [V.str []] = [] := rfl
 rw [dk_midx m1 R bd bm k fs1 f fs2 m2 _ rfl] at ow1
 have gf := ow1.at (i := f.blk) (o := .cells [vl f.b f.cs.length,.int .i64 f.syn] 105 false false none) (by simp)
 obtain ⟨b,hb⟩ : ∃ b,f.b = some b := by
  cases hb : f.b with
  | none => have := ok.emp f (by simp) hb; rw [this] at hc; simp at hc
  | some b => exact ⟨b,rfl⟩
 have gc := ow1.at (i := b) (o := .cells f.cs 5 true false none) (by simp [fpt,hb])
 have hx : Rx (h.psh (.cells [.str f.name] 9 false false none)) (vl (some b) f.cs.length) f.cs := ⟨_,_,_,rfl,vl_elems gc,ok.byt f (by simp)⟩
 have hm : f.cs.length ≤ 4194304 := by
  have := ok.room
  have := ok.cap
  have := totU_mid fs1 f fs2
  omega
 have hvl : vl (some b) f.cs.length = .slice (some (b,0)) f.cs.length f.cs.length true := rfl
 rw [hb,hvl] at gf
 rw [hvl] at hx
 refine Sp_fn D.f28 D.p28 (by simp [fn28]) ?_
 simp only [GR,evK,binV,intOp,strOp,shOp,unV,Nat.reduceLT,Nat.reduceEqDiff,Nat.reduceAdd,↓reduceIte,Nat.reduceLeDiff,reduceCtorEq,fn28,c28,r28_0,r28_1,hd0]
 refine XC_of (there63x F gd gm hfk gb l1 l2) ?_
 rintro _ hx ⟨rfl,e2⟩
 rw [e2]
 clear e2 hx
 unfold diskX at gd
 simp only [GR,evK,binV,intOp,strOp,shOp,unV,Nat.reduceLT,Nat.reduceEqDiff,Nat.reduceAdd,↓reduceIte,Nat.reduceLeDiff,reduceCtorEq,r28_2,c4,r28_4,gd,gm,hfk,gf]
 refine XC_of (clone42x F hx hc hm) ?_
 rintro r h1 ⟨b',q1,q2,q3,q4,q5⟩
 simp only [GR,evK,binV,intOp,strOp,shOp,unV,Nat.reduceLT,Nat.reduceEqDiff,Nat.reduceAdd,↓reduceIte,Nat.reduceLeDiff,reduceCtorEq]
 exact ⟨r,rfl,b',q1,q2,by have := k1.size; omega,q4,Kp.trans k1 q5⟩
theorem bytesV_bs : ∀ {cs : List V},Bs cs → ∃ s,bytesV cs = some s
 | [],_ => ⟨[],rfl⟩
 | c :: cs,h => by
  obtain ⟨n,rfl⟩ := h c List.mem_cons_self
  obtain ⟨s,hs⟩ := bytesV_bs (cs := cs) fun x hx => h x (List.mem_cons_of_mem _ hx)
  exact ⟨UInt8.ofNat n.toNat :: s,by simp [bytesV,hs]⟩
theorem equal22 (D : Fd P E) {h : H} {v w : V} {cs : List V} (hv : Rx h v cs) (hw : Rx h w cs) : Sp P E (.func 22 [] []) [v,w] h fun r h' => r = .bool true ∧ h' = h := by
 obtain ⟨p1,c1,o1,rfl,e1,hb⟩ := hv
 obtain ⟨p2,c2,o2,rfl,e2,_⟩ := hw
 obtain ⟨s,hs⟩ := bytesV_bs hb
 have heq : (s == s) = true := by simp
 have nl : ∀ {q : Option (Nat × Nat)} {c : Nat} {o : Bool},elemsV h 1 cs.length (.slice q cs.length c o) = some cs → q = none → s = [] := by
  intro q c o he hq
  subst hq
  have : cs = [] := by
   simp only [elemsV] at he
   split at he
   ·rename_i h0; exact List.eq_nil_of_length_eq_zero (by omega)
   ·cases he
  rw [this] at hs
  simpa [bytesV] using hs.symm
 have n1 := nl e1
 have n2 := nl e2
 refine Sp_fn D.f22 D.p22 (by simp [fn22]) ?_
 cases p1 with
 | none =>
  have hs0 := n1 rfl
  subst hs0
  cases p2 with
  | none => simp only [GR,evK,binV,intOp,strOp,shOp,unV,Nat.reduceLT,Nat.reduceEqDiff,Nat.reduceAdd,↓reduceIte,Nat.reduceLeDiff,reduceCtorEq,fn22,c22,r22_0,e1,e2,hs,heq,Option.isNone_none]
  | some q => simp only [GR,evK,binV,intOp,strOp,shOp,unV,Nat.reduceLT,Nat.reduceEqDiff,Nat.reduceAdd,↓reduceIte,Nat.reduceLeDiff,reduceCtorEq,fn22,c22,r22_0,e1,e2,hs,heq,Option.isNone_none,Option.isNone_some,Bool.false_eq_true]
 | some q1 =>
  cases p2 with
  | none =>
   have hs0 := n2 rfl
   subst hs0
   simp only [GR,evK,binV,intOp,strOp,shOp,unV,Nat.reduceLT,Nat.reduceEqDiff,Nat.reduceAdd,↓reduceIte,Nat.reduceLeDiff,reduceCtorEq,fn22,c22,r22_0,e1,e2,hs,heq,Option.isNone_none,Option.isNone_some,Bool.false_eq_true]
  | some q => simp only [GR,evK,binV,intOp,strOp,shOp,unV,Nat.reduceLT,Nat.reduceEqDiff,Nat.reduceAdd,↓reduceIte,Nat.reduceLeDiff,reduceCtorEq,fn22,c22,r22_0,e1,e2,hs,heq,Option.isNone_some,Bool.false_eq_true]
theorem srt_sorted {ns : List (List UInt8)} (h : ns.Pairwise fun a b => Op.bytesLess a b = true) : srt ns = ns := by
 refine List.mergeSort_of_pairwise (h.imp fun {a b} hab => ?_)
 rw [Go.Proofs.bytesLess_eq,decide_eq_true_eq] at hab
 unfold leS
 rw [decide_eq_true_eq]
 exact List.le_of_lt hab
theorem seg_less {A : List SegA} : ∀ {a z : Nat},chA A a z → z ≤ 1000000000000 → (A.map fun s => segN s.1).Pairwise fun a b => Op.bytesLess a b = true := by
 induction A with
 | nil => intro _ _ _ _; exact List.Pairwise.nil
 | cons s r ih =>
  intro a z hc hz
  obtain ⟨h1,h2,h3⟩ := hc
  rw [List.map_cons,List.pairwise_cons]
  refine ⟨fun n hn => ?_,ih h3 hz⟩
  obtain ⟨t,ht,rfl⟩ := List.mem_map.1 hn
  obtain ⟨q1,q2,q3⟩ := chA_mem h3 t ht
  have : 1 ≤ s.2.length := List.length_pos_iff.2 h2
  have : 1 ≤ t.2.length := List.length_pos_iff.2 q1
  exact segN_less (by omega) (by omega)
theorem less_nodup {ns : List (List UInt8)} (h : ns.Pairwise fun a b => Op.bytesLess a b = true) : ns.Nodup := h.imp fun {a b} hab e => by rw [e,less_self] at hab; cases hab
end Go.AM.Wc
namespace Go.AM.Wc
open Go.AM Go.AM.Wd Go.AM.We
variable {P : Program} {E : Env} {T : H → Prop}
def fA (s : SegA) : List UInt8 × List V := (segN s.1,bytA s)
theorem fs_fA {fs : List Fl} {sgs : List Sg} (h : fs.map (fun f => (f.name,f.cs)) = sgs.map fun s => (segN s.fst,s.byt)) : fs.map (fun f => (f.name,f.cs)) = (sgs.map Sg.sh).map fA := by
 rw [h,List.map_map]
 refine List.map_congr_left fun s _ => ?_
 simp [fA,byt_sh,Sg.sh]
 rw [← byt_sh]; rfl
theorem qs_fA {qs : List Rq} {ss : List Sq} (h : qs.map (fun q => (q.name,q.cs)) = ss.map fun s => (segN s.fst,s.byt)) : qs.map (fun q => (q.name,q.cs)) = (ss.map Sq.sh).map fA := by
 rw [h,List.map_map]
 refine List.map_congr_left fun s _ => ?_
 simp [fA,Sq.sh]
 rw [← byt_shq]; rfl
theorem ent_names (fs : List Fl) : (fs.map fun f => entU f.fu).map (·.1) = (fs.map Fl.name).map V.str := by
 rw [List.map_map,List.map_map]; rfl
theorem at_fs {fs : List Fl} {A : List SegA} {i : Nat} (h : fs.map (fun f => (f.name,f.cs)) = A.map fA) (hi : i < A.length) : ∃ f1 f f2,fs = f1 ++ f :: f2 ∧ f.name = segN A[i].1 ∧ f.cs = bytA A[i] ∧ f1.map Fl.name = (A.take i).map fun s => segN s.1 := by
 have hl : fs.length = A.length := by have := congrArg List.length h; simpa using this
 have hg : (f : Fl) → fs[i]? = some f → (f.name,f.cs) = fA A[i] := fun f hf => by
  have := congrArg (fun l => l[i]?) h
  simp only [List.getElem?_map,hf,List.getElem?_eq_getElem hi,Option.map_some,Option.some.injEq] at this
  exact this
 have hif : i < fs.length := by omega
 have he := hg fs[i] (List.getElem?_eq_getElem hif)
 simp only [fA,Prod.mk.injEq] at he
 refine ⟨fs.take i,fs[i],fs.drop (i + 1),by simp,he.1,he.2,?_⟩
 have := congrArg (fun l => (l.take i).map Prod.fst) h
 simp only [← List.map_take,List.map_map] at this
 exact this
theorem at_qs {qs : List Rq} {A : List SegA} {i : Nat} (h : qs.map (fun q => (q.name,q.cs)) = A.map fA) (hi : i < A.length) : ∃ q1 q q2,qs = q1 ++ q :: q2 ∧ q.name = segN A[i].1 ∧ q.cs = bytA A[i] ∧ q1.map Rq.name = (A.take i).map fun s => segN s.1 := by
 have hl : qs.length = A.length := by have := congrArg List.length h; simpa using this
 have hg : (f : Rq) → qs[i]? = some f → (f.name,f.cs) = fA A[i] := fun f hf => by
  have := congrArg (fun l => l[i]?) h
  simp only [List.getElem?_map,hf,List.getElem?_eq_getElem hi,Option.map_some,Option.some.injEq] at this
  exact this
 have hif : i < qs.length := by omega
 have he := hg qs[i] (List.getElem?_eq_getElem hif)
 simp only [fA,Prod.mk.injEq] at he
 refine ⟨qs.take i,qs[i],qs.drop (i + 1),by simp,he.1,he.2,?_⟩
 have := congrArg (fun l => (l.take i).map Prod.fst) h
 simp only [← List.map_take,List.map_map] at this
 exact this
theorem ahead {A : List SegA} {a z i : Nat} (hc : chA A a z) (hz : z ≤ 1000000000000) (hi : i < A.length) : ∀ n ∈ (A.take i).map fun s => segN s.1,Op.bytesLess n (segN A[i].1) = true := by
 have hp := seg_less hc hz
 have hs : A = A.take i ++ A[i] :: A.drop (i + 1) := by simp
 rw [hs,List.map_append,List.map_cons] at hp
 intro n hn
 have := (List.pairwise_append.1 hp).2.2 n hn (segN A[i].1) List.mem_cons_self
 exact this
theorem byt_pos {s : SegA} (h : s.2 ≠ []) : 1 ≤ (bytA s).length := by
 obtain ⟨n,l⟩ := s
 cases l with
 | nil => exact (h rfl).elim
 | cons c r =>
  have := numF_len c.length
  simp only [bytA,List.flatMap_cons,List.length_append,frameF]
  omega
def nbx (lb : Option Nat) (k : Nat) : Obj := .cells [vl lb k] 136 false false none
set_option maxHeartbeats 1000000 in
theorem collect50 (D : Fd P E) {lo tb bx : Nat} {h : H} {nb : Option Nat} {ns : List (List UInt8)} {ρ : Nat → V} {K : List Fr} {Q : Po} (hN : ns.length ≤ 1048576) (hnb0 : nb = none → ns = [])
  (wT : ρ 16 = .func 94 [] [.ptr (some (tb,0))]) (w3 : ρ 3 = .ptr (some (bx,0))) (hlo : lo ≤ h.size) (o : Ow lo h ((tb,nbx nb ns.length) :: (fpt nb 9 (ns.map V.str) ++ [(bx,nbx none 0)])))
  (cont : ∀ h' lb,Keeps lo h h' → Ow lo h' ((tb,nbx nb ns.length) :: (fpt nb 9 (ns.map V.str) ++ ((bx,nbx lb ns.length) :: fpt lb 9 (ns.map V.str)))) → (lb = none → ns = []) → X P E none 88 K ρ h' Q) :
  X P E none 88 (.c (.range (.t 16) [17] a50_1 b50_3) :: .b 0 :: K) ρ h Q := by
 obtain ⟨vp,vc,vo,hvs⟩ := vl_shape nb ns.length (fun h => by rw [hnb0 h]; rfl)
 refine X_range (by rw [ev_t (by decide)]; exact congrArg some wT) rfl ?_
 obtain ⟨rz,hrz⟩ : ∃ rz : Obj,rz = .loop .ready none (toL 88 ρ) [17] a50_1 b50_3 := ⟨_,rfl⟩
 obtain ⟨bz,hbz⟩ : ∃ bz : Obj,bz = .loop .busy none (toL 88 ρ) [17] a50_1 b50_3 := ⟨_,rfl⟩
 rw [← hrz]
 have hA : ∀ l (ρ' : Nat → V) h' (R : Po),R .nrm (toL 88 (up ρ' 4 (ρ' 17))) h' → X P E (some l) 88 [.c a50_1] ρ' h' R := by
  intro l ρ' h' R hR
  simp only [GR,evK,binV,intOp,strOp,shOp,unV,Nat.reduceLT,Nat.reduceEqDiff,Nat.reduceAdd,↓reduceIte,Nat.reduceLeDiff,reduceCtorEq,a50_1]
  exact hR
 have kL : Kp h (h.psh rz) := Keeps.psh (Nat.le_refl _) _
 have oL := Ow.pushM (m1 := (tb,nbx nb ns.length) :: (fpt nb 9 (ns.map V.str) ++ [(bx,nbx none 0)])) (m2 := []) (by simpa using o) hlo rz
 refine Sp.mono (iter94 D (l := h.size) (tb := tb) (v := vl nb ns.length) hN
  (fun k h' => ∃ lb,Ow lo h' ((tb,nbx nb ns.length) :: (fpt nb 9 (ns.map V.str) ++ ((h.size,rz) :: (bx,nbx lb k) :: fpt lb 9 ((ns.take k).map V.str)))) ∧ (lb = none → (ns.take k).map V.str = []) ∧ Keeps lo h h' ∧ lo ≤ h'.size ∧ k ≤ ns.length)
  (fun _ => False) ⟨vp,vc,vo,hvs⟩ ?_ ?_ ?_ ?_) ?_
 ·rintro k h4 ⟨lb,i1,_⟩
  exact i1.at (i := tb) (o := nbx nb ns.length) (by simp)
 ·rintro k h4 ⟨lb,i1,_⟩ hk
  cases nb with
  | none => have := hnb0 rfl; subst this; simp at hk
  | some b =>
   have g := i1.at (i := b) (o := .cells (ns.map V.str) 9 true false none) (by simp [fpt])
   refine ⟨b,0,_,_,_,_,_,_,_,rfl,g,?_⟩
   rw [Nat.zero_add,List.getElem?_map,List.getElem?_eq_getElem hk]; rfl
 ·rintro k h4 hk ⟨lb,i1,i2,i3,i4,i5⟩
  have gB := i1.at (i := h.size) (o := rz) (by simp)
  rw [hrz] at gB
  refine Sp_yield (pend' := none) gB rfl (zip1 _ _ _ _) ?_
  have ow1 : Ow lo h4 (((tb,nbx nb ns.length) :: fpt nb 9 (ns.map V.str)) ++ (h.size,rz) :: ((bx,nbx lb k) :: fpt lb 9 ((ns.take k).map V.str))) := by simpa using i1
  obtain ⟨ow2,k2⟩ := ow1.setM bz
  rw [hbz] at ow2 k2
  have i4' : lo ≤ (h4.set h.size bz).size := by rw [H.set_size]; exact i4
  rw [hbz] at i4'
  refine hA _ _ _ _ ⟨rfl,gB,_,rfl,?_⟩
  generalize h4.set h.size (.loop .busy none (toL 88 ρ) [17] a50_1 b50_3) = h5 at *
  rw [← hbz] at ow2
  rw [← hbz,← hrz]
  have gx := ow2.at (i := bx) (o := nbx lb k) (by simp)
  obtain ⟨lp,lc,lo',hlv⟩ := vl_shape lb k (fun h => by
   have := i2 h
   have := congrArg List.length this
   simp only [List.length_map,List.length_take,List.length_nil] at this
   omega)
  have k3 : Kp h5 (h5.psh (.cells [V.str ns[k]] 9 false false none)) := Keeps.psh (Nat.le_refl _) _
  have he1 : elemsV (h5.psh (.cells [V.str ns[k]] 9 false false none)) 1 1 (.slice (some (h5.size,0)) 1 1 false) = some [V.str ns[k]] := by
   simp only [elemsV,psh_same]; rfl
  have hml : ((ns.take k).map V.str).length = k := by rw [List.length_map,List.length_take]; omega
  have ow3 : Ow lo (h5.psh (.cells [V.str ns[k]] 9 false false none)) ((((tb,nbx nb ns.length) :: fpt nb 9 (ns.map V.str)) ++ [(h.size,bz),(bx,nbx lb k)]) ++ (fpt lb 9 ((ns.take k).map V.str) ++ [])) := by simpa using ow2.kp k3
  obtain ⟨lb',h6,e6,ow6,hb6,k6,fr6⟩ := Ow.appc (bytes := 16) (x := .slice (some (h5.size,0)) 1 1 false) (ds := [V.str ns[k]]) ow3 i2 (Nat.le_trans i4' k3.size) rfl he1 rfl (by rw [hml]; simp only [List.length_cons,List.length_nil]; omega)
  have hl6 : ((ns.take k).map V.str ++ [V.str ns[k]]).length = k + 1 := by rw [List.length_append,hml]; rfl
  have htk : (ns.take k).map V.str ++ [V.str ns[k]] = (ns.take (k + 1)).map V.str := by rw [List.take_succ_eq_append_getElem hk,List.map_append]; rfl
  rw [hml,hl6,hlv] at e6
  rw [htk] at ow6 hb6
  have ow6a : Ow lo h6 ((((tb,nbx nb ns.length) :: fpt nb 9 (ns.map V.str)) ++ [(h.size,bz)]) ++ (bx,nbx lb k) :: (fpt lb' 9 ((ns.take (k + 1)).map V.str))) := by simpa using ow6
  have gx6 := ow6a.at (i := bx) (o := nbx lb k) (by simp)
  obtain ⟨ow7,k7⟩ := ow6a.setM (nbx lb' (k + 1))
  unfold nbx at gx gx6
  have e7 := put_at (ws := [vl lb' (k + 1)]) (o := 0) gx6 (by simp) (vl_one _ _) rfl
  have t7 : setR [vl lb k] 0 [vl lb' (k + 1)] = [vl lb' (k + 1)] := rfl
  rw [t7] at e7
  rw [hlv] at gx
  obtain ⟨lp',lc',lo2',hlv'⟩ := vl_shape lb' (k + 1) (fun h => by
   have := hb6 h
   have := congrArg List.length this
   simp only [List.length_map,List.length_take,List.length_nil] at this
   omega)
  rw [hlv'] at e6 e7
  have hd0 : List.drop 1 [V.str []] = [] := rfl
  simp only [GR,evK,binV,intOp,strOp,shOp,unV,Nat.reduceLT,Nat.reduceEqDiff,Nat.reduceAdd,↓reduceIte,Nat.reduceLeDiff,reduceCtorEq,b50_3,r50_2,w3,gx,hd0,e6,e7]
  have ow7' := ow7
  unfold nbx at k7
  rw [hlv'] at k7
  have ow7a : Ow lo (h6.set bx (.cells [.slice lp' (k + 1) lc' lo2'] 136 false false none)) (((tb,nbx nb ns.length) :: fpt nb 9 (ns.map V.str)) ++ (h.size,bz) :: ((bx,nbx lb' (k + 1)) :: fpt lb' 9 ((ns.take (k + 1)).map V.str))) := by
   rw [← hlv']
   simpa [nbx] using ow7'
  refine ⟨ow7a.at (i := h.size) (o := bz) (by simp),?_⟩
  obtain ⟨ow8,k8⟩ := ow7a.setM rz
  have kall : Keeps lo h5 (h6.set bx (.cells [.slice lp' (k + 1) lc' lo2'] 136 false false none)) := Keeps.trans (k3.mono i4') (Keeps.trans k6 k7)
  refine .inl ⟨lb',by simpa using ow8,hb6,Keeps.trans i3 (Keeps.trans k2 (Keeps.trans kall k8)),?_,hk⟩
  rw [H.set_size]
  exact Nat.le_trans i4' kall.size
 ·have oL2 : Ow lo (h.psh rz) ((tb,nbx nb ns.length) :: (fpt nb 9 (ns.map V.str) ++ ((bx,nbx none 0) :: (h.size,rz) :: []))) := by simpa using oL
  have oL3 := oL2.perm (m' := (tb,nbx nb ns.length) :: (fpt nb 9 (ns.map V.str) ++ ((h.size,rz) :: (bx,nbx none 0) :: []))) (List.Perm.cons _ (List.Perm.append_left _ (List.Perm.swap _ _ _)))
  exact ⟨none,by simpa [fpt] using oL3,fun _ => rfl,kL.mono hlo,Nat.le_trans hlo kL.size,Nat.zero_le _⟩
 ·rintro _ h4 (⟨lb,i1,i2,i3,i4,i5⟩ | h0')
  ·have gR := i1.at (i := h.size) (o := rz) (by simp)
   rw [hrz] at gR
   refine ⟨_,_,_,_,_,_,gR,by decide,fun oe hoe => ?_⟩
   have ow1 : Ow lo h4 (((tb,nbx nb ns.length) :: fpt nb 9 (ns.map V.str)) ++ (h.size,rz) :: ((bx,nbx lb ns.length) :: fpt lb 9 ((ns.take ns.length).map V.str))) := by simpa using i1
   obtain ⟨ow2,k2⟩ := ow1.setM oe
   rw [List.take_length] at ow2 i2
   simp only
   simp only [GR,evK,binV,intOp,strOp,shOp,unV,Nat.reduceLT,Nat.reduceEqDiff,Nat.reduceAdd,↓reduceIte,Nat.reduceLeDiff,reduceCtorEq]
   exact cont _ lb (Keeps.trans i3 k2) (by simpa using ow2.dropM) (fun h => by simpa using i2 h)
  ·exact h0'.elim
set_option maxHeartbeats 4000000 in
theorem disks50 (F : Fw P E T) (D : Fd P E) (hs : E.prim 123 = some (sortedG 153 59)) {lo : Nat} {h : H} {R bd bm lb bp rd lr nx : Nat} {fs : List Fl} {sb : Option Nat} {gc : List V} {sgs : List Sg} {br : Bool} {fb : Option Nat} {qs : List Rq} {qb : Option Nat} {ss : List Sq} {sp : Bool} {m2 : List Cell} {A : List SegA}
  (ow : Ow lo h (allX R bd bm lb bp rd lr fs sb gc sgs nx br fb qs qb ss nx sp m2)) (lok : LOX R fs sb gc sgs 0 nx) (lq : LQX R fb qs qb ss nx) (hA1 : sgs.map Sg.sh = A) (hA2 : ss.map Sq.sh = A) :
  Sp P E (.func 50 [] []) [.ptr (some (bp,0))] h fun r h' => r = .bool true ∧ Kp h h' := by
 have hfil := fs_fA lok.fil
 rw [hA1] at hfil
 have hqil := qs_fA lq.fil
 rw [hA2] at hqil
 have hch := lq.ch
 rw [hA2] at hch
 have hlim := lq.lim
 have hfl : fs.length = A.length := by have := congrArg List.length hfil; simpa using this
 have hql : qs.length = A.length := by have := congrArg List.length hqil; simpa using this
 have hfew := lq.dk.few
 obtain ⟨ns,hns⟩ : ∃ ns,ns = A.map fun s => segN s.1 := ⟨_,rfl⟩
 have hnl : ns.length = A.length := by rw [hns]; simp
 have hfn : fs.map Fl.name = ns := by
  have := congrArg (List.map Prod.fst) hfil
  rw [List.map_map,List.map_map] at this
  rw [hns]; exact this
 have hqn : qs.map Rq.name = ns := by
  have := congrArg (List.map Prod.fst) hqil
  rw [List.map_map,List.map_map] at this
  rw [hns]; exact this
 have hpw : ns.Pairwise fun a b => Op.bytesLess a b = true := by rw [hns]; exact seg_less hch hlim
 have hsrt := srt_sorted hpw
 have hnd := less_nodup hpw
 have hcl := chA_len hch
 have hsm : ∀ n ∈ ns,n.length ≤ 1048576 := by
  intro n hn
  rw [hns] at hn
  obtain ⟨s,hs',rfl⟩ := List.mem_map.1 hn
  obtain ⟨q1,q2,q3⟩ := chA_mem hch s hs'
  have : 1 ≤ s.2.length := List.length_pos_iff.2 q1
  rw [segN_len (by omega)]; omega
 have owD : Ow lo h ([] ++ (dkX R bd bm 0 fs ++ (lgX lb bd sb gc sgs nx 0 br ++ ((bp,prO bd rd (.ptr (some (lb,0))) (.ptr (some (lr,0)))) :: (rdX R rd fb qs ++ (lqX lr rd qb ss nx sp ++ m2)))))) := ow
 have owR : Ow lo h ((dkX R bd bm 0 fs ++ (lgX lb bd sb gc sgs nx 0 br ++ [(bp,prO bd rd (.ptr (some (lb,0))) (.ptr (some (lr,0))))])) ++ (rdX R rd fb qs ++ (lqX lr rd qb ss nx sp ++ m2))) := by simpa [allX] using ow
 have gp := ow.at (i := bp) (o := prO bd rd (.ptr (some (lb,0))) (.ptr (some (lr,0)))) (by simp [allX])
 obtain ⟨gd,gm⟩ := ow_diskx owD
 have gm : h.get bm = some (mok 0 (fs.map fun f => entU f.fu)) := gm
 have rh := RdH.of owR lq.nn.1
 have gr := rh.gd
 unfold prO at gp
 have k1 : Kp h (h.psh (nbx none 0)) := Keeps.psh (Nat.le_refl _) _
 have g1 := psh_same h (nbx none 0)
 have o1 := (Ow.nil h.size h).push (Nat.le_refl _) (nbx none 0)
 have e0 : nbx none 0 = .cells [.slice none 0 0 false] 136 false false none := rfl
 refine Sp_fn D.f50 D.p50 (by simp [fn50]) ?_
 simp only [GR,evK,binV,intOp,strOp,shOp,unV,Nat.reduceLT,Nat.reduceEqDiff,Nat.reduceAdd,↓reduceIte,Nat.reduceLeDiff,reduceCtorEq,fn50,c50]
 rw [← e0]
 generalize h.psh (nbx none 0) = h1 at *
 have gp1 := k1.of gp
 simp only [GR,evK,binV,intOp,strOp,shOp,unV,Nat.reduceLT,Nat.reduceEqDiff,Nat.reduceAdd,↓reduceIte,Nat.reduceLeDiff,reduceCtorEq,r50_0,gp1]
 refine XC_of (names59 F D hs (k1.of gd) (k1.of gm) (by rw [ent_names,hfn]) hnd (by omega) hsm) ?_
 rintro _ h2 ⟨tb,v,hx0,rfl,htb,gt2,⟨nb,rfl,hnb0,hnb,kx⟩,hkeep,k2⟩
 rw [hsrt] at hnb0 hnb gt2
 -- what is new is held
 have o2 : Ow h.size h2 ((tb,.cells [vl nb ns.length] 136 false false none) :: (fpt nb 9 (ns.map V.str) ++ [(h.size,nbx none 0)])) := by
  cases nb with
  | none => exact o1.new k2 htb k1.size gt2
  | some nb' =>
   obtain ⟨q1,q2⟩ := hnb nb' rfl
   have q3 := hkeep _ _ q2
   exact Ow.new2 o1 k2 htb q1 k1.size gt2 q3 (by rintro rfl; rw [gt2] at q3; simp at q3)
 have kk2 : Kp h h2 := Kp.trans k1 k2
 clear o1 hnb hkeep kx
 simp only [GR,evK,binV,intOp,strOp,shOp,unV,Nat.reduceLT,Nat.reduceEqDiff,Nat.reduceAdd,↓reduceIte,Nat.reduceLeDiff,reduceCtorEq]
 refine collect50 D (lo := h.size) (ns := ns) (by omega) hnb0 rfl rfl kk2.size (by simpa [nbx] using o2) ?_
 intro h3 nl k3 o3 hnl0
 have kk3 : Kp h h3 := Keeps.trans (n := h.size) kk2 k3
 clear o2
 have gp3 := kk3.of gp
 have rh3 := rh.kp kk3
 obtain ⟨np,nc,no,hnv⟩ := vl_shape nl ns.length (fun h => by rw [hnl0 h]; rfl)
 have gx3 := o3.at (i := h.size) (o := nbx nl ns.length) (by simp)
 unfold nbx at gx3
 rw [hnv] at gx3
 simp only [GR,evK,binV,intOp,strOp,shOp,unV,Nat.reduceLT,Nat.reduceEqDiff,Nat.reduceAdd,↓reduceIte,Nat.reduceLeDiff,reduceCtorEq,r50_4,gp3]
 refine XC_of (names82 D rh3 hfew) ?_
 rintro _ h4 ⟨⟨wb,rfl,hwb0,hwb⟩,k4⟩
 have kk4 : Kp h h4 := Kp.trans kk3 k4
 have hqs0 : wb = none → ns = [] := fun h => by rw [← hqn,hwb0 h]; rfl
 obtain ⟨wp,wc,wo,hwv⟩ := vl_shape wb qs.length (fun h => by rw [hwb0 h]; rfl)
 have gp4 := kk4.of gp
 have gx4 := k4.of gx3
 have hne : ((ns.length : Int) != (qs.length : Int)) = false := by rw [hnl,hql]; simp
 have hbb : ∀ h,eqV h .bool (.bool false) (.bool false) = some true := fun h => by simp [eqV]
 have gd4 := kk4.of gd
 have gr4 := kk4.of gr
 rw [hwv]
 simp only [GR,evK,binV,intOp,strOp,shOp,unV,Nat.reduceLT,Nat.reduceEqDiff,Nat.reduceAdd,↓reduceIte,Nat.reduceLeDiff,reduceCtorEq]
 rw [X_draw]
 refine d50_5 ?_
 simp only [GR,evK,binV,intOp,strOp,shOp,unV,Nat.reduceLT,Nat.reduceEqDiff,Nat.reduceAdd,↓reduceIte,Nat.reduceLeDiff,reduceCtorEq,r50_5,gx4,hne,gp4]
 refine XCQ_of (down25x F gd4) ?_
 rintro _ hx ⟨rfl,e2⟩
 rw [e2]
 clear e2 hx
 refine ⟨Keeps.refl _ _,?_⟩
 simp only [GR,evK,binV,intOp,strOp,shOp,unV,Nat.reduceLT,Nat.reduceEqDiff,Nat.reduceAdd,↓reduceIte,Nat.reduceLeDiff,reduceCtorEq,gp4]
 refine XCQ_of (down83 D gr4) ?_
 rintro _ hx ⟨rfl,e2⟩
 rw [e2]
 clear e2 hx
 refine ⟨Keeps.refl _ _,?_⟩
 have hnb2 : ∀ h,eqV h .bool (.bool false) (.bool false) = some true := hbb
 have hnt : (!true) = false := rfl
 -- file by file
 have loop : ∀ (d i : Nat) (ρ : Nat → V) (h5 : H),ns.length - i = d → i ≤ ns.length → Kp h4 h5 → ρ 0 = .ptr (some (bp,0)) → ρ 5 = vl wb ns.length → ρ 45 = vl nl ns.length → ρ 46 = .int .i64 ns.length → ρ 47 = .int .i64 i →
   XL P E none 88 b50_12 [.b 2,.c (.seq (.region [⟨some 2,.mv (.k (.bool true)),none,0,[2]⟩]) (.ret))] ρ h5 (Fin [.t 2] fun r h' => r = .bool true ∧ Kp h h') := by
  intro d
  induction d with
  | zero =>
   intro i ρ h5 hd hi k5 q0 q5 q45 q46 q47
   have hke : ¬ i < ns.length := by omega
   rw [u50_12]
   simp only [GR,evK,binV,intOp,strOp,shOp,unV,Nat.reduceLT,Nat.reduceEqDiff,Nat.reduceAdd,↓reduceIte,Nat.reduceLeDiff,reduceCtorEq,q46,q47,Int.ofNat_lt,hke]
   exact Kp.trans kk4 k5
  | succ d ih =>
   intro i ρ h5 hd hi k5 q0 q5 q45 q46 q47
   have hke : i < ns.length := by omega
   have hiA : i < A.length := by omega
   have hw : IntKind.i64.wrap ((i : Int) + 1) = ((i + 1 : Nat) : Int) := wrap_nat (n := i + 1) (by omega)
   have kk5 : Kp h h5 := Kp.trans kk4 k5
   obtain ⟨f1,f,f2,hfs,hf1,hf2,hf3⟩ := at_fs hfil hiA
   obtain ⟨q1,q,q2,hqs,hq1,hq2,hq3⟩ := at_qs hqil hiA
   have hnsi : ns[i] = segN A[i].1 := by simp only [hns,List.getElem_map]
   have hah := ahead hch hlim hiA
   obtain ⟨c1,c2,c3⟩ := chA_mem hch A[i] (List.getElem_mem hiA)
   have hc1 : 1 ≤ A[i].2.length := List.length_pos_iff.2 c1
   have hsl := segN_len (n := A[i].1) (by omega)
   have hbp := byt_pos c1
   obtain ⟨nlb,hnlb⟩ : ∃ x,nl = some x := by
    cases nl with
    | none => have := hnl0 rfl; rw [this] at hke; simp at hke
    | some x => exact ⟨x,rfl⟩
   obtain ⟨wbb,hwbb⟩ : ∃ x,wb = some x := by
    cases wb with
    | none => have := hqs0 rfl; rw [this] at hke; simp at hke
    | some x => exact ⟨x,rfl⟩
   have gN : h5.get nlb = some (.cells (ns.map V.str) 9 true false none) := (Kp.trans k4 k5).of (o3.at (i := nlb) (o := .cells (ns.map V.str) 9 true false none) (by simp [fpt,hnlb]))
   have gW : h5.get wbb = some (.cells (ns.map V.str) 9 true false none) := by
    have := k5.of (hwb wbb hwbb)
    rw [show (qs.map fun q => V.str q.name) = ns.map V.str by rw [← hqn,List.map_map]; rfl] at this
    exact this
   have hxi : (ns.map V.str)[i]? = some (.str ns[i]) := by rw [List.getElem?_map,List.getElem?_eq_getElem hke]; rfl
   rw [hnlb] at q45
   rw [hwbb] at q5
   have q45' : ρ 45 = .slice (some (nlb,0)) ns.length ns.length true := q45
   have q5' : ρ 5 = .slice (some (wbb,0)) ns.length ns.length true := q5
   have gp5 := k5.of gp4
   rw [u50_12]
   simp only [GR,evK,binV,intOp,strOp,shOp,unV,Nat.reduceLT,Nat.reduceEqDiff,Nat.reduceAdd,↓reduceIte,Nat.reduceLeDiff,reduceCtorEq,q46,q47,Int.ofNat_lt,hke,r50_7,q45',Int.natCast_nonneg,Int.toNat_natCast,Nat.mul_one,Nat.zero_add,gN,hxi,r50_8,q0,gp5]
   have hnf : ns[i] = f.name := by rw [hnsi,hf1]
   have ow5 : Ow lo h5 ([] ++ (dkX R bd bm 0 (f1 ++ f :: f2) ++ (lgX lb bd sb gc sgs nx 0 br ++ ((bp,prO bd rd (.ptr (some (lb,0))) (.ptr (some (lr,0)))) :: (rdX R rd fb qs ++ (lqX lr rd qb ss nx sp ++ m2)))))) := by rw [← hfs]; exact owD.kp kk5
   have hdk := lok.dk
   rw [hfs] at hdk
   have hfne : ∀ g ∈ f1,g.name ≠ f.name := fun g hg e => by
    have := hah g.name (by rw [← hf3]; exact List.mem_map.2 ⟨g,hg,rfl⟩)
    rw [e,hf1,less_self] at this; cases this
   rw [hnf]
   refine XC_of (read28x F D ow5 hdk hfne (by rw [hf1]; omega) (by rw [hf1]; omega) (by rw [hf2]; exact hbp)) ?_
   rintro _ h6 ⟨va,rfl,nxa⟩
   have k6 := nxa.kp
   have rxa := nxa.rx
   have gp6 := k6.of gp5
   have hnq : f.name = q.name := by rw [hf1,hq1]
   have owR5 : Ow lo h6 ((dkX R bd bm 0 fs ++ (lgX lb bd sb gc sgs nx 0 br ++ [(bp,prO bd rd (.ptr (some (lb,0))) (.ptr (some (lr,0))))])) ++ (rdX R rd fb (q1 ++ q :: q2) ++ (lqX lr rd qb ss nx sp ++ m2))) := by rw [← hqs]; exact owR.kp (Kp.trans kk5 k6)
   have hqk := lq.dk
   rw [hqs] at hqk
   have rh6 := RdH.of owR5 (by have := hqk.nn; exact this)
   have hql1 : ∀ x ∈ q1,Op.bytesLess x.name q.name = true := fun x hx => by
    rw [hq1]
    exact hah x.name (by rw [← hq3]; exact List.mem_map.2 ⟨x,hx,rfl⟩)
   obtain ⟨qbk,hqbk⟩ : ∃ x,q.b = some x := by
    cases hb : q.b with
    | none => have := hqk.emp q (by simp) hb; rw [hq2] at this; rw [this] at hbp; simp at hbp
    | some x => exact ⟨x,rfl⟩
   have gq := owR5.at (i := qbk) (o := .cells q.cs 5 true false none) (by simp [rdX,Rq.foot,fpt,hqbk])
   have hrq : Rx h6 (vl q.b q.cs.length) q.cs := by rw [hqbk]; exact ⟨_,_,_,rfl,vl_elems gq,hqk.byt q (by simp)⟩
   simp only [GR,evK,binV,intOp,strOp,shOp,unV,Nat.reduceLT,Nat.reduceEqDiff,Nat.reduceAdd,↓reduceIte,Nat.reduceLeDiff,reduceCtorEq,List.getElem?_cons_zero,List.getElem?_cons_succ,r50_9,q0,gp6]
   rw [hnq]
   refine XC_of (read84 D rh6 hrq hqk hql1 (by rw [hq1]; omega) (by rw [hq1]; omega)) ?_
   rintro _ h7 ⟨vb,rfl,rxb,k7⟩
   have rxa7 := rxa.kp k7
   rw [hf2] at rxa7
   rw [hq2] at rxb
   have gW7 := (Kp.trans k6 k7).of gW
   have hxq : (ns.map V.str)[i]? = some (.str q.name) := by rw [hxi,hnf,hnq]
   have heq : (!(q.name == q.name)) = false := by simp
   have hz : ((0 : Int) != 0) = false := rfl
   simp only [GR,evK,binV,intOp,strOp,shOp,unV,Nat.reduceLT,Nat.reduceEqDiff,Nat.reduceAdd,↓reduceIte,Nat.reduceLeDiff,reduceCtorEq,List.getElem?_cons_zero,List.getElem?_cons_succ,r50_10,q5',Int.natCast_nonneg,Int.ofNat_lt,hke,Int.toNat_natCast,Nat.mul_one,Nat.zero_add,gW7,hxq,heq,hz]
   refine XC_of (equal22 D rxa7 rxb) ?_
   rintro _ hx ⟨rfl,e2⟩
   rw [e2]
   clear e2 hx
   simp only [GR,evK,binV,intOp,strOp,shOp,unV,Nat.reduceLT,Nat.reduceEqDiff,Nat.reduceAdd,↓reduceIte,Nat.reduceLeDiff,reduceCtorEq,Bool.not_true,r50_11,q47,hw]
   refine ih (i + 1) _ h7 (by omega) (by omega) (Kp.trans k5 (Kp.trans k6 k7)) ?_ ?_ ?_ ?_ ?_
   ·exact q0
   ·rw [hwbb]; exact q5
   ·rw [hnlb]; exact q45
   ·exact q46
   ·rfl
 simp only [GR,evK,binV,intOp,strOp,shOp,unV,Nat.reduceLT,Nat.reduceEqDiff,Nat.reduceAdd,↓reduceIte,Nat.reduceLeDiff,reduceCtorEq,eq_bb,r50_6,gx4]
 refine loop ns.length 0 _ h4 (Nat.sub_zero _) (Nat.zero_le _) (Keeps.refl _ _) ?_ ?_ ?_ ?_ ?_
 ·exact rfl
 ·have hqn2 : qs.length = ns.length := by rw [hql,hnl]
  rw [← hqn2]
  exact hwv.symm
 ·exact hnv.symm
 ·exact rfl
 ·exact rfl
end Go.AM.Wc
namespace Go.AM.Wc
open Go.AM Go.AM.Wd Go.AM.We
variable {P : Program} {E : Env} {T : H → Prop}
theorem synced19 (F : Fw P E T) (D : Fd P E) {h : H} {lb bd : Nat} {sv : V} {nx sy : Int} {br : Bool} (gl : h.get lb = some (lgO bd sv nx sy br)) : Sp P E (.func 19 [] []) [.ptr (some (lb,0))] h fun v h' => v = .int .i64 sy ∧ h' = h := by
 refine Sp_fn D.f19 D.p19 (by simp [fn19]) ?_
 simp only [GR,evK,binV,intOp,strOp,shOp,unV,Nat.reduceLT,Nat.reduceEqDiff,Nat.reduceAdd,↓reduceIte,Nat.reduceLeDiff,reduceCtorEq,fn19,c19,r19_0]
 refine XC_of (none34 F gl) ?_
 rintro _ hx ⟨rfl,e2⟩
 rw [e2]
 clear e2 hx
 unfold lgO lgC at gl
 simp only [GR,evK,binV,intOp,strOp,shOp,unV,Nat.reduceLT,Nat.reduceEqDiff,Nat.reduceAdd,↓reduceIte,Nat.reduceLeDiff,reduceCtorEq,r19_1,gl]
def allR (ss : List Sq) : List (V × List V) := ss.flatMap Sq.rs
theorem allR_sh (ss : List Sq) : (allR ss).map (·.2) = (ss.map Sq.sh).flatMap (·.2) := by
 unfold allR
 rw [List.map_flatMap,List.flatMap_map]; rfl
theorem recs_sh (sgs : List Sg) : recs sgs = (sgs.map Sg.sh).flatMap (·.2) := by
 unfold recs
 rw [List.flatMap_map]; rfl
theorem allR_snoc {pre : List Sq} {s : Sq} : allR (pre ++ [s]) = allR pre ++ s.rs := by simp [allR]
set_option maxHeartbeats 1000000 in
theorem records54 (D : Fd P E) {lo : Nat} {h : H} {lr rd nx : Nat} {sb : Option Nat} {ss : List Sq} {sp : Bool} {m1 m2 : List Cell} (ow : Ow lo h (m1 ++ (lqX lr rd sb ss nx sp ++ m2))) (hn : sb = none → ss = []) (hr : ∀ s ∈ ss,s.rb = none → s.rs = []) (h1 : ∀ s ∈ ss, ∀ q ∈ s.rs,V.one q.1 = true) (hl : ss.length ≤ 1000000) (hm : (allR ss).length ≤ 1099511627776) :
  Sp P E (.func 54 [] []) [.ptr (some (lr,0))] h fun r h' => ∃ ob,r = vl ob (allR ss).length ∧ (ob = none → allR ss = []) ∧ Ow h.size h' (fpt ob 45 ((allR ss).map (·.1))) ∧ Kp h h' := by
 have gl := ow.at (i := lr) (o := lqO rd (vl sb ss.length) nx sp) (by simp [lqX])
 have gs : ∀ b,sb = some b → h.get b = some (.cells (ss.flatMap Sq.cells) 94 true false none) := fun b hb => ow.at (by simp [lqX,fpt,hb])
 obtain ⟨p,c,o,hv⟩ := vl_shape sb ss.length (fun h => by rw [hn h]; rfl)
 have gf : ∀ s ∈ ss, ∀ q ∈ s.foot,h.get q.1 = some q.2 := fun s hs q hq => ow.get q (by simp only [lqX,List.mem_append,List.mem_cons,List.mem_flatMap]; exact .inr (.inl (.inr (.inr ⟨s,hs,hq⟩))))
 rw [hv] at gl
 unfold lqO lqC at gl
 refine Sp_fn D.f54 D.p54 (by simp [fn54]) ?_
 have loop : ∀ (d i : Nat) (ρ : Nat → V) (hh : H) (ob : Option Nat),ss.length - i = d → i ≤ ss.length → Kp h hh → (ob = none → allR (ss.take i) = []) → Ow h.size hh (fpt ob 45 ((allR (ss.take i)).map (·.1))) → ρ 0 = .ptr (some (lr,0)) → ρ 3 = vl ob (allR (ss.take i)).length → ρ 4 = .int .i64 i →
   XL P E none 25 b54_3 [.b 0,.c (.seq (.region r54_4) (.ret))] ρ hh (Fin [.t 2] fun r h' => ∃ ob,r = vl ob (allR ss).length ∧ (ob = none → allR ss = []) ∧ Ow h.size h' (fpt ob 45 ((allR ss).map (·.1))) ∧ Kp h h') := by
  intro d
  induction d with
  | zero =>
   intro i ρ hh ob hd hi k1 ho ow1 q0 q3 q4
   have hke : ¬ i < ss.length := by omega
   have gl1 := k1.of gl
   rw [List.take_of_length_le (by omega)] at ho ow1 q3
   obtain ⟨p2,c2,o2,hv2⟩ := vl_shape ob (allR ss).length (fun h => by rw [ho h]; rfl)
   rw [hv2] at q3
   rw [u54_3]
   simp only [GR,evK,binV,intOp,strOp,shOp,unV,Nat.reduceLT,Nat.reduceEqDiff,Nat.reduceAdd,↓reduceIte,Nat.reduceLeDiff,reduceCtorEq,r54_0,q0,q4,gl1,Int.ofNat_lt,hke,r54_4,q3]
   exact ⟨ob,hv2.symm,ho,ow1,k1⟩
  | succ d ih =>
   intro i ρ hh ob hd hi k1 ho ow1 q0 q3 q4
   have hke : i < ss.length := by omega
   have hw : IntKind.i64.wrap ((i : Int) + 1) = ((i + 1 : Nat) : Int) := wrap_nat (n := i + 1) (by omega)
   have gl1 := k1.of gl
   have hsi := hr ss[i] (List.getElem_mem hke)
   have hfi := gf ss[i] (List.getElem_mem hke)
   obtain ⟨b,hb⟩ : ∃ b,sb = some b := by
    cases hb : sb with
    | none => have := hn hb; rw [this] at hke; simp at hke
    | some b => exact ⟨b,rfl⟩
   have hvb : vl sb ss.length = .slice (some (b,0)) ss.length ss.length true := by rw [hb]; rfl
   have hv' := hv.symm.trans hvb
   have gs1 := k1.of (gs b hb)
   have hcut : ss.flatMap Sq.cells = (ss.take i).flatMap Sq.cells ++ (ss[i].cells ++ (ss.drop (i + 1)).flatMap Sq.cells) := by
    have : ss = ss.take i ++ ss[i] :: ss.drop (i + 1) := by simp
    have := congrArg (fun l => l.flatMap Sq.cells) this
    simp only [List.flatMap_append,List.flatMap_cons] at this
    exact this
   have hgc2 : (ss.flatMap Sq.cells)[i * 4 + 2]? = some (vl ss[i].rb ss[i].rs.length) := by
    have hl := sq_get (ss.take i) (ss[i].cells ++ (ss.drop (i + 1)).flatMap Sq.cells) 2
    rw [List.length_take,Nat.min_eq_left hi] at hl
    rw [hcut,hl]; rfl
   have hcl : i * 4 + 4 ≤ (ss.flatMap Sq.cells).length := by rw [sq_len]; omega
   have htk : allR (ss.take (i + 1)) = allR (ss.take i) ++ ss[i].rs := by
    rw [List.take_succ_eq_append_getElem hke,allR_snoc]
   have hal : (allR (ss.take i)).length + ss[i].rs.length ≤ 1099511627776 := by
    rw [← List.length_append,← htk]
    refine Nat.le_trans ?_ hm
    have hss : ss = ss.take (i + 1) ++ ss.drop (i + 1) := by simp
    have := congrArg (fun l => (allR l).length) hss
    simp only [allR,List.flatMap_append,List.length_append] at this ⊢
    omega
   obtain ⟨p3,c3,o3,hv3⟩ := vl_shape ss[i].rb ss[i].rs.length (fun h => by rw [hsi h]; rfl)
   have hev : elemsV hh 1 ss[i].rs.length (vl ss[i].rb ss[i].rs.length) = some (ss[i].rs.map (·.1)) := by
    cases hrb : ss[i].rb with
    | none => rw [hsi hrb]; simp [vl,elemsV]
    | some rb =>
     have hg := k1.of (hfi (rb,.cells (ss[i].rs.map (·.1)) 45 true false none) (by simp [Sq.foot,fpt,hrb]))
     have := vl_elems hg
     rwa [List.length_map] at this
   rw [hv3] at hev hgc2
   have hml : ((allR (ss.take i)).map (·.1)).length = (allR (ss.take i)).length := List.length_map ..
   have hrl : (ss[i].rs.map (·.1)).length = ss[i].rs.length := List.length_map ..
   obtain ⟨b',h4,e4,ow4,hb4,k4,fr4⟩ := Ow.appc (m1 := []) (m2 := []) (bytes := 24) (ty := 45) (x := .slice p3 ss[i].rs.length c3 o3) (ds := ss[i].rs.map (·.1)) (by simpa using ow1) (fun h => by rw [ho h]; rfl) k1.size (by rw [hrl]; rfl) (by rw [hrl]; exact hev) (by rw [List.all_eq_true]; intro x hx; obtain ⟨q,hq,rfl⟩ := List.mem_map.1 hx; exact h1 _ (List.getElem_mem hke) q hq) (by rw [hml,hrl]; omega)
   have hl4 : ((allR (ss.take i)).map (·.1) ++ ss[i].rs.map (·.1)).length = (allR (ss.take (i + 1))).length := by rw [List.length_append,hml,hrl,htk,List.length_append]
   have hm4 : (allR (ss.take i)).map (·.1) ++ ss[i].rs.map (·.1) = (allR (ss.take (i + 1))).map (·.1) := by rw [htk,List.map_append]
   rw [hml,hl4] at e4
   rw [hm4] at ow4 hb4
   have q3' := q3
   rw [u54_3]
   simp only [GR,evK,binV,intOp,strOp,shOp,unV,Nat.reduceLT,Nat.reduceEqDiff,Nat.reduceAdd,↓reduceIte,Nat.reduceLeDiff,reduceCtorEq,r54_0,q0,q4,gl1,Int.ofNat_lt,hke,r54_1,q3,hv',Int.natCast_nonneg,Int.toNat_natCast,Nat.zero_add,gs1,hcl,hgc2,e4,r54_2,hw]
   refine ih (i + 1) _ h4 b' (by omega) (by omega) (Keeps.trans (n := h.size) k1 k4) ?_ ?_ ?_ ?_ ?_
   ·intro hb'
    have := hb4 hb'
    exact List.map_eq_nil_iff.1 this
   ·simpa using ow4
   ·exact q0
   ·rfl
   ·rfl
 simp only [GR,evK,binV,intOp,strOp,shOp,unV,Nat.reduceLT,Nat.reduceEqDiff,Nat.reduceAdd,↓reduceIte,Nat.reduceLeDiff,reduceCtorEq,fn54,c54]
 refine loop ss.length 0 _ h none (Nat.sub_zero _) (Nat.zero_le _) (Keeps.refl _ _) (fun _ => rfl) (Ow.nil _ _) ?_ ?_ ?_
 ·rfl
 ·rfl
 ·rfl
end Go.AM.Wc
