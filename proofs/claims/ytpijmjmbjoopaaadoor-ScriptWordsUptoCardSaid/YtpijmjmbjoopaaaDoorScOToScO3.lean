/- My own texts of the evaluator, its soundness and its symbolic runs, laid for this claim. -/
import Derived.Test.YtpijmjmbjoopaaaDoorScQScQ2
set_option linter.unusedSimpArgs false
set_option linter.unusedVariables false
namespace Go.AM.Sc
open Go.AM
open Go.Lib (itoa)
variable {P : Program} {E : Env} {T : H → Prop}
theorem set_at {h : H} {o : Obj} {i : Nat} (hi : i < h.size) : (h.set i o).get i = some o := hset_same hi o
theorem put_ex {h : H} {b o : Nat} {vs ws : List V} {ty : Nat} {op : Bool} (hg : h.get b = some (.cells vs ty op false none)) (hw : o + ws.length ≤ vs.length) (h1 : ws.all V.one = true) (hne : ws.isEmpty = false) :
    ∃ h',putCells h b o ws = some h' ∧ h'.get b = some (.cells (setR vs o ws) ty op false none) ∧ Keeps b h h' ∧ h'.size = h.size := by
  have hb := H.get_lt hg
  refine ⟨h.set b (.cells (setR vs o ws) ty op false none),?_,hset_same hb _,Keeps.set hb (Nat.le_refl _) _,rfl⟩
  unfold putCells
  simp only [hne,Bool.false_eq_true,if_false,hg,hw,h1,fzFree,and_self,if_true]
def opBare (x : Opr) : Opr :=
  if x.kind = 1 then ⟨0,0,x.kind,0,x.parent,x.name,[],[]⟩ else
  if x.kind = 2 then ⟨0,0,x.kind,x.node,x.parent,x.name,[],[]⟩ else
  if x.kind = 3 then ⟨0,0,x.kind,x.node,0,[],x.key,x.value⟩ else ⟨0,0,x.kind,0,0,[],[],[]⟩
def opS (x : Opr) : List UInt8 :=
  if x.kind = 1 then [109,97,107,101,32] ++ itoa x.parent ++ [32] ++ quoteB x.name else
  if x.kind = 2 then [109,111,118,101,32] ++ itoa x.node ++ [32] ++ itoa x.parent ++ [32] ++ quoteB x.name else
  if x.kind = 3 then [97,116,116,114,32] ++ itoa x.node ++ [32] ++ quoteB x.key ++ [32] ++ quoteB x.value else []
set_option maxHeartbeats 4000000 in
theorem opText25 (F : Fns P E T) {x : Opr} {h : H} (ht : T h) (hn : InI x.node) (hp : InI x.parent) (h1 : x.name.length ≤ 16777216) (h2 : x.key.length ≤ 16777216) (h3 : x.value.length ≤ 16777216) :
    Sp P E (.func 25 [] []) [.agg x.cells] h fun v h' => v = .tup [.str (opS x),.bool (decide ((x.kind = 1 ∨ x.kind = 2 ∨ x.kind = 3) ∧ opBare x = x))] ∧ Kp h h' := by
  have hg0 := psh_same h (.cells x.cells 37 false false none)
  have hk0 : Kp h (h.psh (.cells x.cells 37 false false none)) := Keeps.psh (Nat.le_refl _) _
  obtain ⟨h3,e3,g3,k3,z3⟩ := put_ex (o := 0) (ws := [.int .i64 0,.int .i64 0,.int .i64 x.kind,.int .i64 0,.int .i64 0,.str [],.str [],.str []]) (psh_same (h.psh (.cells x.cells 37 false false none)) (.cells [.int .i64 0,.int .i64 0,.int .i64 0,.int .i64 0,.int .i64 0,.str [],.str [],.str []] 37 false false none)) (Nat.le_refl _) rfl rfl
  have k3' : Keeps (h.psh (.cells x.cells 37 false false none)).size (h.psh (.cells x.cells 37 false false none)) h3 := Keeps.trans (Keeps.psh (Nat.le_refl _) _) k3
  have g1 : h3.get h.size = some (.cells x.cells 37 false false none) := Kp.of k3' hg0
  have hlt : h.size < (h.psh (.cells x.cells 37 false false none)).size := Nat.lt_succ_self _
  have ht3 : T h3 := F.tkeep _ _ ht (Kp.trans hk0 k3')
  have kk3 : Kp h h3 := Kp.trans hk0 k3'
  refine Sp_fn F.f25 F.p25 (by simp [fn25]) ?_
  simp (maxSteps := 2000000) only [GO,GO2,evK,fillV,setR,binV,intOp,strOp,shOp,unV,getR,lenV,partV,V.nj,V.njL,V.cells,Nat.reduceLT,Nat.reduceEqDiff,Nat.reduceAdd,↓reduceIte,Nat.reduceLeDiff,reduceCtorEq,fn25,c25,r25_0,r25_1,r25_2,psh_same,Opr.g2,e3,g1]
  generalize hB : (h.psh (.cells x.cells 37 false false none)).size = B at *
  have tail : ∀ (ρ : Nat → V) (h5 : H) (y : Opr) (s : List UInt8) (b : Bool),h5.get B = some (.cells y.cells 37 false false none) → h5.get h.size = some (.cells x.cells 37 false false none) → Kp h h5 → ρ 5 = .str s → ρ 4 = .ptr (some (B,0)) → ρ 1 = .ptr (some (h.size,0)) → (s == []) = b → s = opS x → (b = false → y = opBare x) → (b = false ↔ (x.kind = 1 ∨ x.kind = 2 ∨ x.kind = 3)) →
      XD P E none 86 r25_12 [.c .ret] ρ h5 (Fin [.t 2,.t 3] fun v h' => v = .tup [.str (opS x),.bool (decide ((x.kind = 1 ∨ x.kind = 2 ∨ x.kind = 3) ∧ opBare x = x))] ∧ Kp h h') := by
    intro ρ h5 y s b q1 q2 q3 q5 q4 q6 hb hs hy hk
    rw [d25_12]
    have r1 : ∀ z : Opr,List.take 8 z.cells = z.cells := fun z => rfl
    have r2 : ∀ z : Opr,8 ≤ z.cells.length := fun z => Nat.le_refl _
    have hst : (V.str s : V) = .str s := rfl
    cases b with
    | true =>
      have hno : ¬ (x.kind = 1 ∨ x.kind = 2 ∨ x.kind = 3) := fun h => by simpa using hk.2 h
      simp (maxSteps := 2000000) only [GO,GO2,evK,fillV,setR,binV,intOp,strOp,shOp,unV,getR,lenV,partV,V.nj,V.njL,V.cells,Nat.reduceLT,Nat.reduceEqDiff,Nat.reduceAdd,↓reduceIte,Nat.reduceLeDiff,reduceCtorEq,r25_12,q5,q4,q6,q1,q2,hb,Bool.not_true]
      exact ⟨by simp [hs,hno],q3⟩
    | false =>
      have hyes := hk.1 rfl
      have heq := Opr.eqv h5 y x
      simp (maxSteps := 2000000) only [GO,GO2,evK,fillV,setR,binV,intOp,strOp,shOp,unV,getR,lenV,partV,V.nj,V.njL,V.cells,Nat.reduceLT,Nat.reduceEqDiff,Nat.reduceAdd,↓reduceIte,Nat.reduceLeDiff,reduceCtorEq,r25_12,q5,q4,q6,q1,q2,hb,Bool.not_false,r1,r2,heq]
      exact ⟨by simp [hs,hyes,hy rfl],q3⟩
  by_cases c1 : (x.kind == 1) = true
  · have c1' : x.kind = 1 := by simpa using c1
    have g3' : h3.get B = some (.cells [.int .i64 0,.int .i64 0,.int .i64 x.kind,.int .i64 0,.int .i64 0,.str [],.str [],.str []] 37 false false none) := g3
    obtain ⟨h4,e4,g4,k4,z4⟩ := put_ex (o := 4) (ws := [.int .i64 x.parent]) g3' (Nat.le_of_ble_eq_true rfl) rfl rfl
    have g4' : h4.get B = some (.cells [.int .i64 0,.int .i64 0,.int .i64 x.kind,.int .i64 0,.int .i64 x.parent,.str [],.str [],.str []] 37 false false none) := g4
    obtain ⟨h5,e5,g5,k5,z5⟩ := put_ex (o := 5) (ws := [.str x.name]) g4' (Nat.le_of_ble_eq_true rfl) rfl rfl
    have g5' : h5.get B = some (.cells (opBare x).cells 37 false false none) := by
      unfold opBare; rw [if_pos c1']; exact g5
    have k35 := k4.trans k5
    have g5x : h5.get h.size = some (.cells x.cells 37 false false none) := by rw [k35.get _ hlt]; exact g1
    have hs5 : h.size < B := hlt
    have kk5 : Keeps h.size h h5 := Keeps.trans (n := h.size) kk3 (k35.mono (by omega))
    simp (maxSteps := 2000000) only [GO,GO2,evK,fillV,setR,binV,intOp,strOp,shOp,unV,getR,lenV,partV,V.nj,V.njL,V.cells,Nat.reduceLT,Nat.reduceEqDiff,Nat.reduceAdd,↓reduceIte,Nat.reduceLeDiff,reduceCtorEq,r25_3,c1]
    rw [X_draw]
    refine k25_4 B ?_
    simp (maxSteps := 2000000) only [GO,GO2,evK,fillV,setR,binV,intOp,strOp,shOp,unV,getR,lenV,partV,V.nj,V.njL,V.cells,Nat.reduceLT,Nat.reduceEqDiff,Nat.reduceAdd,↓reduceIte,Nat.reduceLeDiff,reduceCtorEq,r25_4,Opr.g4,Opr.g5,g1]
    refine ⟨RdK.load1 rfl hlt g1 rfl,RdK.load1 rfl hlt g1 rfl,?_⟩
    simp (maxSteps := 2000000) only [GO,GO2,evK,fillV,setR,binV,intOp,strOp,shOp,unV,getR,lenV,partV,V.nj,V.njL,V.cells,Nat.reduceLT,Nat.reduceEqDiff,Nat.reduceAdd,↓reduceIte,Nat.reduceLeDiff,reduceCtorEq,e4]
    refine ⟨k4,?_⟩
    simp (maxSteps := 2000000) only [GO,GO2,evK,fillV,setR,binV,intOp,strOp,shOp,unV,getR,lenV,partV,V.nj,V.njL,V.cells,Nat.reduceLT,Nat.reduceEqDiff,Nat.reduceAdd,↓reduceIte,Nat.reduceLeDiff,reduceCtorEq,e5]
    refine ⟨k5,?_⟩
    rw [X_draw]
    refine d25_5 ?_
    simp (maxSteps := 2000000) only [GO,GO2,evK,fillV,setR,binV,intOp,strOp,shOp,unV,getR,lenV,partV,V.nj,V.njL,V.cells,Nat.reduceLT,Nat.reduceEqDiff,Nat.reduceAdd,↓reduceIte,Nat.reduceLeDiff,reduceCtorEq,r25_5,Opr.g4,Opr.g5,g5x]
    refine XCQ_of (num27 F hp (F.tkeep _ _ ht kk5)) ?_
    rintro _ h6 ⟨rfl,rfl⟩
    refine ⟨Keeps.refl _ _,?_⟩
    have li := Lib.itoa_length_le x.parent hp.1 hp.2
    have a1 : 5 + (itoa x.parent).length ≤ 9223372036854775807 := by omega
    have a2 : (itoa x.parent).length + 5 + 1 ≤ 9223372036854775807 := by omega
    simp (maxSteps := 2000000) only [GO,GO2,evK,fillV,setR,binV,intOp,strOp,shOp,unV,getR,lenV,partV,V.nj,V.njL,V.cells,Nat.reduceLT,Nat.reduceEqDiff,Nat.reduceAdd,↓reduceIte,Nat.reduceLeDiff,reduceCtorEq,a1,a2,g5x,Opr.g5]
    refine XCQ_of (quote16 F (by omega)) ?_
    rintro _ h7 ⟨rfl,k7⟩
    refine ⟨k7,?_⟩
    have lq : (quoteB x.name).length ≤ 100000000 := by
      have := qs_len x.name
      simp only [quoteB,List.length_append,List.length_cons,List.length_nil]; omega
    have a3 : ∀ n : Nat,n ≤ 1000 → n + (quoteB x.name).length ≤ 9223372036854775807 := fun n hn => by omega
    have a4 : (itoa x.parent).length + 1 + 1 + 1 + 1 + 1 + 1 ≤ 1000 := by omega
    simp (maxSteps := 2000000) only [GO,GO2,evK,fillV,setR,binV,intOp,strOp,shOp,unV,getR,lenV,partV,V.nj,V.njL,V.cells,Nat.reduceLT,Nat.reduceEqDiff,Nat.reduceAdd,↓reduceIte,Nat.reduceLeDiff,reduceCtorEq,List.length_append,a3 _ a4]
    rw [X_draw]
    refine tail _ h7 (opBare x) _ false (k7.of g5') (k7.of g5x) (Kp.trans kk5 k7) rfl rfl rfl rfl ?_ (fun _ => rfl) (by simp [c1'])
    unfold opS
    rw [if_pos c1']
    simp
  · have c1f : (x.kind == 1) = false := by simpa using c1
    have c1' : ¬ x.kind = 1 := by simpa using c1
    have g3' : h3.get B = some (.cells [.int .i64 0,.int .i64 0,.int .i64 x.kind,.int .i64 0,.int .i64 0,.str [],.str [],.str []] 37 false false none) := g3
    have hs5 : h.size < B := hlt
    by_cases c2 : (x.kind == 2) = true
    · have c2' : x.kind = 2 := by simpa using c2
      obtain ⟨h4,e4,g4,k4,z4⟩ := put_ex (o := 3) (ws := [.int .i64 x.node]) g3' (Nat.le_of_ble_eq_true rfl) rfl rfl
      have g4' : h4.get B = some (.cells [.int .i64 0,.int .i64 0,.int .i64 x.kind,.int .i64 x.node,.int .i64 0,.str [],.str [],.str []] 37 false false none) := g4
      obtain ⟨h5,e5,g5,k5,z5⟩ := put_ex (o := 4) (ws := [.int .i64 x.parent]) g4' (Nat.le_of_ble_eq_true rfl) rfl rfl
      have g5' : h5.get B = some (.cells [.int .i64 0,.int .i64 0,.int .i64 x.kind,.int .i64 x.node,.int .i64 x.parent,.str [],.str [],.str []] 37 false false none) := g5
      obtain ⟨h6,e6,g6,k6,z6⟩ := put_ex (o := 5) (ws := [.str x.name]) g5' (Nat.le_of_ble_eq_true rfl) rfl rfl
      have g6' : h6.get B = some (.cells (opBare x).cells 37 false false none) := by
        unfold opBare; rw [if_neg c1',if_pos c2']; exact g6
      have k36 := (k4.trans k5).trans k6
      have g6x : h6.get h.size = some (.cells x.cells 37 false false none) := by rw [k36.get _ hlt]; exact g1
      have kk6 : Keeps h.size h h6 := Keeps.trans (n := h.size) kk3 (k36.mono (by omega))
      simp (maxSteps := 2000000) only [GO,GO2,evK,fillV,setR,binV,intOp,strOp,shOp,unV,getR,lenV,partV,V.nj,V.njL,V.cells,Nat.reduceLT,Nat.reduceEqDiff,Nat.reduceAdd,↓reduceIte,Nat.reduceLeDiff,reduceCtorEq,r25_3,r25_6,c1f,c2]
      rw [X_draw]
      refine k25_7 B ?_
      simp (maxSteps := 2000000) only [GO,GO2,evK,fillV,setR,binV,intOp,strOp,shOp,unV,getR,lenV,partV,V.nj,V.njL,V.cells,Nat.reduceLT,Nat.reduceEqDiff,Nat.reduceAdd,↓reduceIte,Nat.reduceLeDiff,reduceCtorEq,r25_7,Opr.g3,Opr.g4,Opr.g5,g1]
      refine ⟨RdK.load1 rfl hlt g1 rfl,RdK.load1 rfl hlt g1 rfl,RdK.load1 rfl hlt g1 rfl,?_⟩
      simp (maxSteps := 2000000) only [GO,GO2,evK,fillV,setR,binV,intOp,strOp,shOp,unV,getR,lenV,partV,V.nj,V.njL,V.cells,Nat.reduceLT,Nat.reduceEqDiff,Nat.reduceAdd,↓reduceIte,Nat.reduceLeDiff,reduceCtorEq,e4]
      refine ⟨k4,?_⟩
      simp (maxSteps := 2000000) only [GO,GO2,evK,fillV,setR,binV,intOp,strOp,shOp,unV,getR,lenV,partV,V.nj,V.njL,V.cells,Nat.reduceLT,Nat.reduceEqDiff,Nat.reduceAdd,↓reduceIte,Nat.reduceLeDiff,reduceCtorEq,e5]
      refine ⟨k5,?_⟩
      simp (maxSteps := 2000000) only [GO,GO2,evK,fillV,setR,binV,intOp,strOp,shOp,unV,getR,lenV,partV,V.nj,V.njL,V.cells,Nat.reduceLT,Nat.reduceEqDiff,Nat.reduceAdd,↓reduceIte,Nat.reduceLeDiff,reduceCtorEq,e6]
      refine ⟨k6,?_⟩
      rw [X_draw]
      refine d25_8 ?_
      simp (maxSteps := 2000000) only [GO,GO2,evK,fillV,setR,binV,intOp,strOp,shOp,unV,getR,lenV,partV,V.nj,V.njL,V.cells,Nat.reduceLT,Nat.reduceEqDiff,Nat.reduceAdd,↓reduceIte,Nat.reduceLeDiff,reduceCtorEq,r25_8,Opr.g3,Opr.g4,Opr.g5,g6x]
      refine XCQ_of (num27 F hn (F.tkeep _ _ ht kk6)) ?_
      rintro _ h7 ⟨rfl,rfl⟩
      refine ⟨Keeps.refl _ _,?_⟩
      have li := Lib.itoa_length_le x.node hn.1 hn.2
      have li2 := Lib.itoa_length_le x.parent hp.1 hp.2
      have lq : (quoteB x.name).length ≤ 100000000 := by
        have := qs_len x.name
        simp only [quoteB,List.length_append,List.length_cons,List.length_nil]; omega
      have a1 : 5 + (itoa x.node).length ≤ 9223372036854775807 := by omega
      have a2 : (itoa x.node).length + 5 + 1 ≤ 9223372036854775807 := by omega
      simp (maxSteps := 2000000) only [GO,GO2,evK,fillV,setR,binV,intOp,strOp,shOp,unV,getR,lenV,partV,V.nj,V.njL,V.cells,Nat.reduceLT,Nat.reduceEqDiff,Nat.reduceAdd,↓reduceIte,Nat.reduceLeDiff,reduceCtorEq,a1,a2,g6x,Opr.g4,Opr.g5]
      refine XCQ_of (num27 F hp (F.tkeep _ _ ht kk6)) ?_
      rintro _ h8 ⟨rfl,rfl⟩
      refine ⟨Keeps.refl _ _,?_⟩
      have a3 : (itoa x.node).length + 1 + 1 + 1 + 1 + 1 + 1 + (itoa x.parent).length ≤ 9223372036854775807 := by omega
      have a4 : (itoa x.node).length + 1 + (itoa x.parent).length ≤ 9223372036854775801 := by omega
      simp (maxSteps := 2000000) only [GO,GO2,evK,fillV,setR,binV,intOp,strOp,shOp,unV,getR,lenV,partV,V.nj,V.njL,V.cells,Nat.reduceLT,Nat.reduceEqDiff,Nat.reduceAdd,↓reduceIte,Nat.reduceLeDiff,reduceCtorEq,List.length_append,a3,a4,g6x,Opr.g5]
      refine XCQ_of (quote16 F (by omega)) ?_
      rintro _ h9 ⟨rfl,k9⟩
      refine ⟨k9,?_⟩
      have a5 : (itoa x.node).length + 1 + (itoa x.parent).length + 1 + 1 + 1 + 1 + 1 + 1 + (quoteB x.name).length ≤ 9223372036854775807 := by omega
      simp (maxSteps := 2000000) only [GO,GO2,evK,fillV,setR,binV,intOp,strOp,shOp,unV,getR,lenV,partV,V.nj,V.njL,V.cells,Nat.reduceLT,Nat.reduceEqDiff,Nat.reduceAdd,↓reduceIte,Nat.reduceLeDiff,reduceCtorEq,List.length_append,a5]
      rw [X_draw]
      refine tail _ h9 (opBare x) _ false (k9.of g6') (k9.of g6x) (Kp.trans kk6 k9) rfl rfl rfl rfl ?_ (fun _ => rfl) (by simp [c2'])
      unfold opS
      rw [if_neg c1',if_pos c2']
      simp
    · have c2f : (x.kind == 2) = false := by simpa using c2
      have c2' : ¬ x.kind = 2 := by simpa using c2
      by_cases c3 : (x.kind == 3) = true
      · have c3' : x.kind = 3 := by simpa using c3
        obtain ⟨h4,e4,g4,k4,z4⟩ := put_ex (o := 3) (ws := [.int .i64 x.node]) g3' (Nat.le_of_ble_eq_true rfl) rfl rfl
        have g4' : h4.get B = some (.cells [.int .i64 0,.int .i64 0,.int .i64 x.kind,.int .i64 x.node,.int .i64 0,.str [],.str [],.str []] 37 false false none) := g4
        obtain ⟨h5,e5,g5,k5,z5⟩ := put_ex (o := 6) (ws := [.str x.key]) g4' (Nat.le_of_ble_eq_true rfl) rfl rfl
        have g5' : h5.get B = some (.cells [.int .i64 0,.int .i64 0,.int .i64 x.kind,.int .i64 x.node,.int .i64 0,.str [],.str x.key,.str []] 37 false false none) := g5
        obtain ⟨h6,e6,g6,k6,z6⟩ := put_ex (o := 7) (ws := [.str x.value]) g5' (Nat.le_of_ble_eq_true rfl) rfl rfl
        have g6' : h6.get B = some (.cells (opBare x).cells 37 false false none) := by
          unfold opBare; rw [if_neg c1',if_neg c2',if_pos c3']; exact g6
        have k36 := (k4.trans k5).trans k6
        have g6x : h6.get h.size = some (.cells x.cells 37 false false none) := by rw [k36.get _ hlt]; exact g1
        have kk6 : Keeps h.size h h6 := Keeps.trans (n := h.size) kk3 (k36.mono (by omega))
        simp (maxSteps := 2000000) only [GO,GO2,evK,fillV,setR,binV,intOp,strOp,shOp,unV,getR,lenV,partV,V.nj,V.njL,V.cells,Nat.reduceLT,Nat.reduceEqDiff,Nat.reduceAdd,↓reduceIte,Nat.reduceLeDiff,reduceCtorEq,r25_3,r25_6,r25_9,c1f,c2f,c3]
        rw [X_draw]
        refine k25_10 B ?_
        simp (maxSteps := 2000000) only [GO,GO2,evK,fillV,setR,binV,intOp,strOp,shOp,unV,getR,lenV,partV,V.nj,V.njL,V.cells,Nat.reduceLT,Nat.reduceEqDiff,Nat.reduceAdd,↓reduceIte,Nat.reduceLeDiff,reduceCtorEq,r25_10,Opr.g3,Opr.g6,Opr.g7,g1]
        refine ⟨RdK.load1 rfl hlt g1 rfl,RdK.load1 rfl hlt g1 rfl,RdK.load1 rfl hlt g1 rfl,?_⟩
        simp (maxSteps := 2000000) only [GO,GO2,evK,fillV,setR,binV,intOp,strOp,shOp,unV,getR,lenV,partV,V.nj,V.njL,V.cells,Nat.reduceLT,Nat.reduceEqDiff,Nat.reduceAdd,↓reduceIte,Nat.reduceLeDiff,reduceCtorEq,e4]
        refine ⟨k4,?_⟩
        simp (maxSteps := 2000000) only [GO,GO2,evK,fillV,setR,binV,intOp,strOp,shOp,unV,getR,lenV,partV,V.nj,V.njL,V.cells,Nat.reduceLT,Nat.reduceEqDiff,Nat.reduceAdd,↓reduceIte,Nat.reduceLeDiff,reduceCtorEq,e5]
        refine ⟨k5,?_⟩
        simp (maxSteps := 2000000) only [GO,GO2,evK,fillV,setR,binV,intOp,strOp,shOp,unV,getR,lenV,partV,V.nj,V.njL,V.cells,Nat.reduceLT,Nat.reduceEqDiff,Nat.reduceAdd,↓reduceIte,Nat.reduceLeDiff,reduceCtorEq,e6]
        refine ⟨k6,?_⟩
        rw [X_draw]
        refine d25_11 ?_
        simp (maxSteps := 2000000) only [GO,GO2,evK,fillV,setR,binV,intOp,strOp,shOp,unV,getR,lenV,partV,V.nj,V.njL,V.cells,Nat.reduceLT,Nat.reduceEqDiff,Nat.reduceAdd,↓reduceIte,Nat.reduceLeDiff,reduceCtorEq,r25_11,Opr.g3,Opr.g6,Opr.g7,g6x]
        refine XCQ_of (num27 F hn (F.tkeep _ _ ht kk6)) ?_
        rintro _ h7 ⟨rfl,rfl⟩
        refine ⟨Keeps.refl _ _,?_⟩
        have li := Lib.itoa_length_le x.node hn.1 hn.2
        have lk : (quoteB x.key).length ≤ 100000000 := by
          have := qs_len x.key
          simp only [quoteB,List.length_append,List.length_cons,List.length_nil]; omega
        have lv : (quoteB x.value).length ≤ 100000000 := by
          have := qs_len x.value
          simp only [quoteB,List.length_append,List.length_cons,List.length_nil]; omega
        have a1 : 5 + (itoa x.node).length ≤ 9223372036854775807 := by omega
        have a2 : (itoa x.node).length + 5 + 1 ≤ 9223372036854775807 := by omega
        simp (maxSteps := 2000000) only [GO,GO2,evK,fillV,setR,binV,intOp,strOp,shOp,unV,getR,lenV,partV,V.nj,V.njL,V.cells,Nat.reduceLT,Nat.reduceEqDiff,Nat.reduceAdd,↓reduceIte,Nat.reduceLeDiff,reduceCtorEq,a1,a2,g6x,Opr.g6,Opr.g7]
        refine XCQ_of (quote16 F (by omega)) ?_
        rintro _ h8 ⟨rfl,k8⟩
        refine ⟨k8,?_⟩
        have g8x := Kp.of k8 g6x
        have a3 : (itoa x.node).length + 1 + 1 + 1 + 1 + 1 + 1 + (quoteB x.key).length ≤ 9223372036854775807 := by omega
        have a4 : (itoa x.node).length + 1 + (quoteB x.key).length ≤ 9223372036854775801 := by omega
        simp (maxSteps := 2000000) only [GO,GO2,evK,fillV,setR,binV,intOp,strOp,shOp,unV,getR,lenV,partV,V.nj,V.njL,V.cells,Nat.reduceLT,Nat.reduceEqDiff,Nat.reduceAdd,↓reduceIte,Nat.reduceLeDiff,reduceCtorEq,List.length_append,a3,a4,g6x,g8x,Opr.g7]
        refine XCQ_of (quote16 F (by omega)) ?_
        rintro _ h9 ⟨rfl,k9⟩
        refine ⟨k9,?_⟩
        have a5 : (itoa x.node).length + 1 + (quoteB x.key).length + 1 + 1 + 1 + 1 + 1 + 1 + (quoteB x.value).length ≤ 9223372036854775807 := by omega
        simp (maxSteps := 2000000) only [GO,GO2,evK,fillV,setR,binV,intOp,strOp,shOp,unV,getR,lenV,partV,V.nj,V.njL,V.cells,Nat.reduceLT,Nat.reduceEqDiff,Nat.reduceAdd,↓reduceIte,Nat.reduceLeDiff,reduceCtorEq,List.length_append,a5]
        rw [X_draw]
        refine tail _ h9 (opBare x) _ false (k9.of (k8.of g6')) (k9.of g8x) (Kp.trans (Kp.trans kk6 k8) k9) rfl rfl rfl rfl ?_ (fun _ => rfl) (by simp [c3'])
        unfold opS
        rw [if_neg c1',if_neg c2',if_pos c3']
        simp
      · have c3f : (x.kind == 3) = false := by simpa using c3
        have c3' : ¬ x.kind = 3 := by simpa using c3
        have g3x : h3.get B = some (.cells (opBare x).cells 37 false false none) := by
          unfold opBare; rw [if_neg c1',if_neg c2',if_neg c3']; exact g3
        simp (maxSteps := 2000000) only [GO,GO2,evK,fillV,setR,binV,intOp,strOp,shOp,unV,getR,lenV,partV,V.nj,V.njL,V.cells,Nat.reduceLT,Nat.reduceEqDiff,Nat.reduceAdd,↓reduceIte,Nat.reduceLeDiff,reduceCtorEq,r25_3,r25_6,r25_9,c1f,c2f,c3f]
        rw [X_draw]
        refine tail _ h3 (opBare x) [] true g3x g1 kk3 rfl rfl rfl rfl ?_ (fun h => by cases h) (by simp [c1',c2',c3'])
        unfold opS
        rw [if_neg c1',if_neg c2',if_neg c3']
end Go.AM.Sc
namespace Go.AM.Sc
open Go.AM
open Go.Lib (itoa)
variable {P : Program} {E : Env} {T : H → Prop}
theorem quote17k (F : Fns P E T) {s : List UInt8} (hlen : s.length ≤ 134217728) {h : H} : Sp P E (.func 17 [] []) [.str s] h fun v h' => v = .str (quoteB s) ∧ Kp h h' :=
  (quote17 F hlen).mono fun _ _ ⟨a,b⟩ => ⟨a,by rw [b]; exact Keeps.refl _ _⟩
set_option maxHeartbeats 4000000 in
theorem opWords44 (F : Fns P E T) {x : Opr} {h : H} (ht : T h) (hn : InI x.node) (hp : InI x.parent) (h1 : x.name.length ≤ 16777216) (h2 : x.key.length ≤ 16777216) (h3 : x.value.length ≤ 16777216) :
    Sp P E (.func 44 [] []) [.agg x.cells] h fun v h' => v = .tup [.str (opS x),.bool (decide ((x.kind = 1 ∨ x.kind = 2 ∨ x.kind = 3) ∧ opBare x = x))] ∧ Kp h h' := by
  have hg0 := psh_same h (.cells x.cells 37 false false none)
  have hk0 : Kp h (h.psh (.cells x.cells 37 false false none)) := Keeps.psh (Nat.le_refl _) _
  obtain ⟨h3,e3,g3,k3,z3⟩ := put_ex (o := 0) (ws := [.int .i64 0,.int .i64 0,.int .i64 x.kind,.int .i64 0,.int .i64 0,.str [],.str [],.str []]) (psh_same (h.psh (.cells x.cells 37 false false none)) (.cells [.int .i64 0,.int .i64 0,.int .i64 0,.int .i64 0,.int .i64 0,.str [],.str [],.str []] 37 false false none)) (Nat.le_refl _) rfl rfl
  have k3' : Keeps (h.psh (.cells x.cells 37 false false none)).size (h.psh (.cells x.cells 37 false false none)) h3 := Keeps.trans (Keeps.psh (Nat.le_refl _) _) k3
  have g1 : h3.get h.size = some (.cells x.cells 37 false false none) := Kp.of k3' hg0
  have hlt : h.size < (h.psh (.cells x.cells 37 false false none)).size := Nat.lt_succ_self _
  have ht3 : T h3 := F.tkeep _ _ ht (Kp.trans hk0 k3')
  have kk3 : Kp h h3 := Kp.trans hk0 k3'
  refine Sp_fn F.f44 F.p44 (by simp [fn44]) ?_
  simp (maxSteps := 2000000) only [GO,GO2,evK,fillV,setR,binV,intOp,strOp,shOp,unV,getR,lenV,partV,V.nj,V.njL,V.cells,Nat.reduceLT,Nat.reduceEqDiff,Nat.reduceAdd,↓reduceIte,Nat.reduceLeDiff,reduceCtorEq,fn44,c44,r44_0,r44_1,r44_2,psh_same,Opr.g2,e3,g1]
  generalize hB : (h.psh (.cells x.cells 37 false false none)).size = B at *
  have tail : ∀ (ρ : Nat → V) (h5 : H) (y : Opr) (s : List UInt8),h5.get B = some (.cells y.cells 37 false false none) → h5.get h.size = some (.cells x.cells 37 false false none) → Kp h h5 → ρ 5 = .str s → ρ 4 = .ptr (some (B,0)) → ρ 1 = .ptr (some (h.size,0)) → s = opS x → y = opBare x → (x.kind = 1 ∨ x.kind = 2 ∨ x.kind = 3) →
      XD P E none 82 r44_13 [.c .ret] ρ h5 (Fin [.t 2,.t 3] fun v h' => v = .tup [.str (opS x),.bool (decide ((x.kind = 1 ∨ x.kind = 2 ∨ x.kind = 3) ∧ opBare x = x))] ∧ Kp h h') := by
    intro ρ h5 y s q1 q2 q3 q5 q4 q6 hs hy hyes
    rw [d44_13]
    have r1 : ∀ z : Opr,List.take 8 z.cells = z.cells := fun z => rfl
    have r2 : ∀ z : Opr,8 ≤ z.cells.length := fun z => Nat.le_refl _
    have heq := Opr.eqv h5 y x
    simp (maxSteps := 2000000) only [GO,GO2,evK,fillV,setR,binV,intOp,strOp,shOp,unV,getR,lenV,partV,V.nj,V.njL,V.cells,Nat.reduceLT,Nat.reduceEqDiff,Nat.reduceAdd,↓reduceIte,Nat.reduceLeDiff,reduceCtorEq,r44_13,q5,q4,q6,q1,q2,r1,r2,heq]
    exact ⟨by simp [hs,hyes,hy],q3⟩
  by_cases c1 : (x.kind == 1) = true
  · have c1' : x.kind = 1 := by simpa using c1
    have g3' : h3.get B = some (.cells [.int .i64 0,.int .i64 0,.int .i64 x.kind,.int .i64 0,.int .i64 0,.str [],.str [],.str []] 37 false false none) := g3
    obtain ⟨h4,e4,g4,k4,z4⟩ := put_ex (o := 4) (ws := [.int .i64 x.parent]) g3' (Nat.le_of_ble_eq_true rfl) rfl rfl
    have g4' : h4.get B = some (.cells [.int .i64 0,.int .i64 0,.int .i64 x.kind,.int .i64 0,.int .i64 x.parent,.str [],.str [],.str []] 37 false false none) := g4
    obtain ⟨h5,e5,g5,k5,z5⟩ := put_ex (o := 5) (ws := [.str x.name]) g4' (Nat.le_of_ble_eq_true rfl) rfl rfl
    have g5' : h5.get B = some (.cells (opBare x).cells 37 false false none) := by
      unfold opBare; rw [if_pos c1']; exact g5
    have k35 := k4.trans k5
    have g5x : h5.get h.size = some (.cells x.cells 37 false false none) := by rw [k35.get _ hlt]; exact g1
    have hs5 : h.size < B := hlt
    have kk5 : Keeps h.size h h5 := Keeps.trans (n := h.size) kk3 (k35.mono (by omega))
    simp (maxSteps := 2000000) only [GO,GO2,evK,fillV,setR,binV,intOp,strOp,shOp,unV,getR,lenV,partV,V.nj,V.njL,V.cells,Nat.reduceLT,Nat.reduceEqDiff,Nat.reduceAdd,↓reduceIte,Nat.reduceLeDiff,reduceCtorEq,r44_3,c1]
    rw [X_draw]
    refine k44_4 B ?_
    simp (maxSteps := 2000000) only [GO,GO2,evK,fillV,setR,binV,intOp,strOp,shOp,unV,getR,lenV,partV,V.nj,V.njL,V.cells,Nat.reduceLT,Nat.reduceEqDiff,Nat.reduceAdd,↓reduceIte,Nat.reduceLeDiff,reduceCtorEq,r44_4,Opr.g4,Opr.g5,g1]
    refine ⟨RdK.load1 rfl hlt g1 rfl,RdK.load1 rfl hlt g1 rfl,?_⟩
    simp (maxSteps := 2000000) only [GO,GO2,evK,fillV,setR,binV,intOp,strOp,shOp,unV,getR,lenV,partV,V.nj,V.njL,V.cells,Nat.reduceLT,Nat.reduceEqDiff,Nat.reduceAdd,↓reduceIte,Nat.reduceLeDiff,reduceCtorEq,e4]
    refine ⟨k4,?_⟩
    simp (maxSteps := 2000000) only [GO,GO2,evK,fillV,setR,binV,intOp,strOp,shOp,unV,getR,lenV,partV,V.nj,V.njL,V.cells,Nat.reduceLT,Nat.reduceEqDiff,Nat.reduceAdd,↓reduceIte,Nat.reduceLeDiff,reduceCtorEq,e5]
    refine ⟨k5,?_⟩
    rw [X_draw]
    refine d44_5 ?_
    simp (maxSteps := 2000000) only [GO,GO2,evK,fillV,setR,binV,intOp,strOp,shOp,unV,getR,lenV,partV,V.nj,V.njL,V.cells,Nat.reduceLT,Nat.reduceEqDiff,Nat.reduceAdd,↓reduceIte,Nat.reduceLeDiff,reduceCtorEq,r44_5,Opr.g4,Opr.g5,g5x]
    refine XCQ_of (num30 F hp (F.tkeep _ _ ht kk5)) ?_
    rintro _ h6 ⟨rfl,rfl⟩
    refine ⟨Keeps.refl _ _,?_⟩
    have li := Lib.itoa_length_le x.parent hp.1 hp.2
    have a1 : 5 + (itoa x.parent).length ≤ 9223372036854775807 := by omega
    have a2 : (itoa x.parent).length + 5 + 1 ≤ 9223372036854775807 := by omega
    simp (maxSteps := 2000000) only [GO,GO2,evK,fillV,setR,binV,intOp,strOp,shOp,unV,getR,lenV,partV,V.nj,V.njL,V.cells,Nat.reduceLT,Nat.reduceEqDiff,Nat.reduceAdd,↓reduceIte,Nat.reduceLeDiff,reduceCtorEq,a1,a2,g5x,Opr.g5]
    refine XCQ_of (quote17k F (by omega)) ?_
    rintro _ h7 ⟨rfl,k7⟩
    refine ⟨k7,?_⟩
    have lq : (quoteB x.name).length ≤ 100000000 := by
      have := qs_len x.name
      simp only [quoteB,List.length_append,List.length_cons,List.length_nil]; omega
    have a3 : ∀ n : Nat,n ≤ 1000 → n + (quoteB x.name).length ≤ 9223372036854775807 := fun n hn => by omega
    have a4 : (itoa x.parent).length + 1 + 1 + 1 + 1 + 1 + 1 ≤ 1000 := by omega
    simp (maxSteps := 2000000) only [GO,GO2,evK,fillV,setR,binV,intOp,strOp,shOp,unV,getR,lenV,partV,V.nj,V.njL,V.cells,Nat.reduceLT,Nat.reduceEqDiff,Nat.reduceAdd,↓reduceIte,Nat.reduceLeDiff,reduceCtorEq,List.length_append,a3 _ a4]
    rw [X_draw]
    refine tail _ h7 (opBare x) _ (k7.of g5') (k7.of g5x) (Kp.trans kk5 k7) rfl rfl rfl ?_ rfl (by simp [c1'])
    unfold opS
    rw [if_pos c1']
    simp
  · have c1f : (x.kind == 1) = false := by simpa using c1
    have c1' : ¬ x.kind = 1 := by simpa using c1
    have g3' : h3.get B = some (.cells [.int .i64 0,.int .i64 0,.int .i64 x.kind,.int .i64 0,.int .i64 0,.str [],.str [],.str []] 37 false false none) := g3
    have hs5 : h.size < B := hlt
    by_cases c2 : (x.kind == 2) = true
    · have c2' : x.kind = 2 := by simpa using c2
      obtain ⟨h4,e4,g4,k4,z4⟩ := put_ex (o := 3) (ws := [.int .i64 x.node]) g3' (Nat.le_of_ble_eq_true rfl) rfl rfl
      have g4' : h4.get B = some (.cells [.int .i64 0,.int .i64 0,.int .i64 x.kind,.int .i64 x.node,.int .i64 0,.str [],.str [],.str []] 37 false false none) := g4
      obtain ⟨h5,e5,g5,k5,z5⟩ := put_ex (o := 4) (ws := [.int .i64 x.parent]) g4' (Nat.le_of_ble_eq_true rfl) rfl rfl
      have g5' : h5.get B = some (.cells [.int .i64 0,.int .i64 0,.int .i64 x.kind,.int .i64 x.node,.int .i64 x.parent,.str [],.str [],.str []] 37 false false none) := g5
      obtain ⟨h6,e6,g6,k6,z6⟩ := put_ex (o := 5) (ws := [.str x.name]) g5' (Nat.le_of_ble_eq_true rfl) rfl rfl
      have g6' : h6.get B = some (.cells (opBare x).cells 37 false false none) := by
        unfold opBare; rw [if_neg c1',if_pos c2']; exact g6
      have k36 := (k4.trans k5).trans k6
      have g6x : h6.get h.size = some (.cells x.cells 37 false false none) := by rw [k36.get _ hlt]; exact g1
      have kk6 : Keeps h.size h h6 := Keeps.trans (n := h.size) kk3 (k36.mono (by omega))
      simp (maxSteps := 2000000) only [GO,GO2,evK,fillV,setR,binV,intOp,strOp,shOp,unV,getR,lenV,partV,V.nj,V.njL,V.cells,Nat.reduceLT,Nat.reduceEqDiff,Nat.reduceAdd,↓reduceIte,Nat.reduceLeDiff,reduceCtorEq,r44_3,r44_6,c1f,c2]
      rw [X_draw]
      refine k44_7 B ?_
      simp (maxSteps := 2000000) only [GO,GO2,evK,fillV,setR,binV,intOp,strOp,shOp,unV,getR,lenV,partV,V.nj,V.njL,V.cells,Nat.reduceLT,Nat.reduceEqDiff,Nat.reduceAdd,↓reduceIte,Nat.reduceLeDiff,reduceCtorEq,r44_7,Opr.g3,Opr.g4,Opr.g5,g1]
      refine ⟨RdK.load1 rfl hlt g1 rfl,RdK.load1 rfl hlt g1 rfl,RdK.load1 rfl hlt g1 rfl,?_⟩
      simp (maxSteps := 2000000) only [GO,GO2,evK,fillV,setR,binV,intOp,strOp,shOp,unV,getR,lenV,partV,V.nj,V.njL,V.cells,Nat.reduceLT,Nat.reduceEqDiff,Nat.reduceAdd,↓reduceIte,Nat.reduceLeDiff,reduceCtorEq,e4]
      refine ⟨k4,?_⟩
      simp (maxSteps := 2000000) only [GO,GO2,evK,fillV,setR,binV,intOp,strOp,shOp,unV,getR,lenV,partV,V.nj,V.njL,V.cells,Nat.reduceLT,Nat.reduceEqDiff,Nat.reduceAdd,↓reduceIte,Nat.reduceLeDiff,reduceCtorEq,e5]
      refine ⟨k5,?_⟩
      simp (maxSteps := 2000000) only [GO,GO2,evK,fillV,setR,binV,intOp,strOp,shOp,unV,getR,lenV,partV,V.nj,V.njL,V.cells,Nat.reduceLT,Nat.reduceEqDiff,Nat.reduceAdd,↓reduceIte,Nat.reduceLeDiff,reduceCtorEq,e6]
      refine ⟨k6,?_⟩
      rw [X_draw]
      refine d44_8 ?_
      simp (maxSteps := 2000000) only [GO,GO2,evK,fillV,setR,binV,intOp,strOp,shOp,unV,getR,lenV,partV,V.nj,V.njL,V.cells,Nat.reduceLT,Nat.reduceEqDiff,Nat.reduceAdd,↓reduceIte,Nat.reduceLeDiff,reduceCtorEq,r44_8,Opr.g3,Opr.g4,Opr.g5,g6x]
      refine XCQ_of (num30 F hn (F.tkeep _ _ ht kk6)) ?_
      rintro _ h7 ⟨rfl,rfl⟩
      refine ⟨Keeps.refl _ _,?_⟩
      have li := Lib.itoa_length_le x.node hn.1 hn.2
      have li2 := Lib.itoa_length_le x.parent hp.1 hp.2
      have lq : (quoteB x.name).length ≤ 100000000 := by
        have := qs_len x.name
        simp only [quoteB,List.length_append,List.length_cons,List.length_nil]; omega
      have a1 : 5 + (itoa x.node).length ≤ 9223372036854775807 := by omega
      have a2 : (itoa x.node).length + 5 + 1 ≤ 9223372036854775807 := by omega
      simp (maxSteps := 2000000) only [GO,GO2,evK,fillV,setR,binV,intOp,strOp,shOp,unV,getR,lenV,partV,V.nj,V.njL,V.cells,Nat.reduceLT,Nat.reduceEqDiff,Nat.reduceAdd,↓reduceIte,Nat.reduceLeDiff,reduceCtorEq,a1,a2,g6x,Opr.g4,Opr.g5]
      refine XCQ_of (num30 F hp (F.tkeep _ _ ht kk6)) ?_
      rintro _ h8 ⟨rfl,rfl⟩
      refine ⟨Keeps.refl _ _,?_⟩
      have a3 : (itoa x.node).length + 1 + 1 + 1 + 1 + 1 + 1 + (itoa x.parent).length ≤ 9223372036854775807 := by omega
      have a4 : (itoa x.node).length + 1 + (itoa x.parent).length ≤ 9223372036854775801 := by omega
      simp (maxSteps := 2000000) only [GO,GO2,evK,fillV,setR,binV,intOp,strOp,shOp,unV,getR,lenV,partV,V.nj,V.njL,V.cells,Nat.reduceLT,Nat.reduceEqDiff,Nat.reduceAdd,↓reduceIte,Nat.reduceLeDiff,reduceCtorEq,List.length_append,a3,a4,g6x,Opr.g5]
      refine XCQ_of (quote17k F (by omega)) ?_
      rintro _ h9 ⟨rfl,k9⟩
      refine ⟨k9,?_⟩
      have a5 : (itoa x.node).length + 1 + (itoa x.parent).length + 1 + 1 + 1 + 1 + 1 + 1 + (quoteB x.name).length ≤ 9223372036854775807 := by omega
      simp (maxSteps := 2000000) only [GO,GO2,evK,fillV,setR,binV,intOp,strOp,shOp,unV,getR,lenV,partV,V.nj,V.njL,V.cells,Nat.reduceLT,Nat.reduceEqDiff,Nat.reduceAdd,↓reduceIte,Nat.reduceLeDiff,reduceCtorEq,List.length_append,a5]
      rw [X_draw]
      refine tail _ h9 (opBare x) _ (k9.of g6') (k9.of g6x) (Kp.trans kk6 k9) rfl rfl rfl ?_ rfl (by simp [c2'])
      unfold opS
      rw [if_neg c1',if_pos c2']
      simp
    · have c2f : (x.kind == 2) = false := by simpa using c2
      have c2' : ¬ x.kind = 2 := by simpa using c2
      by_cases c3 : (x.kind == 3) = true
      · have c3' : x.kind = 3 := by simpa using c3
        obtain ⟨h4,e4,g4,k4,z4⟩ := put_ex (o := 3) (ws := [.int .i64 x.node]) g3' (Nat.le_of_ble_eq_true rfl) rfl rfl
        have g4' : h4.get B = some (.cells [.int .i64 0,.int .i64 0,.int .i64 x.kind,.int .i64 x.node,.int .i64 0,.str [],.str [],.str []] 37 false false none) := g4
        obtain ⟨h5,e5,g5,k5,z5⟩ := put_ex (o := 6) (ws := [.str x.key]) g4' (Nat.le_of_ble_eq_true rfl) rfl rfl
        have g5' : h5.get B = some (.cells [.int .i64 0,.int .i64 0,.int .i64 x.kind,.int .i64 x.node,.int .i64 0,.str [],.str x.key,.str []] 37 false false none) := g5
        obtain ⟨h6,e6,g6,k6,z6⟩ := put_ex (o := 7) (ws := [.str x.value]) g5' (Nat.le_of_ble_eq_true rfl) rfl rfl
        have g6' : h6.get B = some (.cells (opBare x).cells 37 false false none) := by
          unfold opBare; rw [if_neg c1',if_neg c2',if_pos c3']; exact g6
        have k36 := (k4.trans k5).trans k6
        have g6x : h6.get h.size = some (.cells x.cells 37 false false none) := by rw [k36.get _ hlt]; exact g1
        have kk6 : Keeps h.size h h6 := Keeps.trans (n := h.size) kk3 (k36.mono (by omega))
        simp (maxSteps := 2000000) only [GO,GO2,evK,fillV,setR,binV,intOp,strOp,shOp,unV,getR,lenV,partV,V.nj,V.njL,V.cells,Nat.reduceLT,Nat.reduceEqDiff,Nat.reduceAdd,↓reduceIte,Nat.reduceLeDiff,reduceCtorEq,r44_3,r44_6,r44_9,c1f,c2f,c3]
        rw [X_draw]
        refine k44_10 B ?_
        simp (maxSteps := 2000000) only [GO,GO2,evK,fillV,setR,binV,intOp,strOp,shOp,unV,getR,lenV,partV,V.nj,V.njL,V.cells,Nat.reduceLT,Nat.reduceEqDiff,Nat.reduceAdd,↓reduceIte,Nat.reduceLeDiff,reduceCtorEq,r44_10,Opr.g3,Opr.g6,Opr.g7,g1]
        refine ⟨RdK.load1 rfl hlt g1 rfl,RdK.load1 rfl hlt g1 rfl,RdK.load1 rfl hlt g1 rfl,?_⟩
        simp (maxSteps := 2000000) only [GO,GO2,evK,fillV,setR,binV,intOp,strOp,shOp,unV,getR,lenV,partV,V.nj,V.njL,V.cells,Nat.reduceLT,Nat.reduceEqDiff,Nat.reduceAdd,↓reduceIte,Nat.reduceLeDiff,reduceCtorEq,e4]
        refine ⟨k4,?_⟩
        simp (maxSteps := 2000000) only [GO,GO2,evK,fillV,setR,binV,intOp,strOp,shOp,unV,getR,lenV,partV,V.nj,V.njL,V.cells,Nat.reduceLT,Nat.reduceEqDiff,Nat.reduceAdd,↓reduceIte,Nat.reduceLeDiff,reduceCtorEq,e5]
        refine ⟨k5,?_⟩
        simp (maxSteps := 2000000) only [GO,GO2,evK,fillV,setR,binV,intOp,strOp,shOp,unV,getR,lenV,partV,V.nj,V.njL,V.cells,Nat.reduceLT,Nat.reduceEqDiff,Nat.reduceAdd,↓reduceIte,Nat.reduceLeDiff,reduceCtorEq,e6]
        refine ⟨k6,?_⟩
        rw [X_draw]
        refine d44_11 ?_
        simp (maxSteps := 2000000) only [GO,GO2,evK,fillV,setR,binV,intOp,strOp,shOp,unV,getR,lenV,partV,V.nj,V.njL,V.cells,Nat.reduceLT,Nat.reduceEqDiff,Nat.reduceAdd,↓reduceIte,Nat.reduceLeDiff,reduceCtorEq,r44_11,Opr.g3,Opr.g6,Opr.g7,g6x]
        refine XCQ_of (num30 F hn (F.tkeep _ _ ht kk6)) ?_
        rintro _ h7 ⟨rfl,rfl⟩
        refine ⟨Keeps.refl _ _,?_⟩
        have li := Lib.itoa_length_le x.node hn.1 hn.2
        have lk : (quoteB x.key).length ≤ 100000000 := by
          have := qs_len x.key
          simp only [quoteB,List.length_append,List.length_cons,List.length_nil]; omega
        have lv : (quoteB x.value).length ≤ 100000000 := by
          have := qs_len x.value
          simp only [quoteB,List.length_append,List.length_cons,List.length_nil]; omega
        have a1 : 5 + (itoa x.node).length ≤ 9223372036854775807 := by omega
        have a2 : (itoa x.node).length + 5 + 1 ≤ 9223372036854775807 := by omega
        simp (maxSteps := 2000000) only [GO,GO2,evK,fillV,setR,binV,intOp,strOp,shOp,unV,getR,lenV,partV,V.nj,V.njL,V.cells,Nat.reduceLT,Nat.reduceEqDiff,Nat.reduceAdd,↓reduceIte,Nat.reduceLeDiff,reduceCtorEq,a1,a2,g6x,Opr.g6,Opr.g7]
        refine XCQ_of (quote17k F (by omega)) ?_
        rintro _ h8 ⟨rfl,k8⟩
        refine ⟨k8,?_⟩
        have g8x := Kp.of k8 g6x
        have a3 : (itoa x.node).length + 1 + 1 + 1 + 1 + 1 + 1 + (quoteB x.key).length ≤ 9223372036854775807 := by omega
        have a4 : (itoa x.node).length + 1 + (quoteB x.key).length ≤ 9223372036854775801 := by omega
        simp (maxSteps := 2000000) only [GO,GO2,evK,fillV,setR,binV,intOp,strOp,shOp,unV,getR,lenV,partV,V.nj,V.njL,V.cells,Nat.reduceLT,Nat.reduceEqDiff,Nat.reduceAdd,↓reduceIte,Nat.reduceLeDiff,reduceCtorEq,List.length_append,a3,a4,g6x,g8x,Opr.g7]
        refine XCQ_of (quote17k F (by omega)) ?_
        rintro _ h9 ⟨rfl,k9⟩
        refine ⟨k9,?_⟩
        have a5 : (itoa x.node).length + 1 + (quoteB x.key).length + 1 + 1 + 1 + 1 + 1 + 1 + (quoteB x.value).length ≤ 9223372036854775807 := by omega
        simp (maxSteps := 2000000) only [GO,GO2,evK,fillV,setR,binV,intOp,strOp,shOp,unV,getR,lenV,partV,V.nj,V.njL,V.cells,Nat.reduceLT,Nat.reduceEqDiff,Nat.reduceAdd,↓reduceIte,Nat.reduceLeDiff,reduceCtorEq,List.length_append,a5]
        rw [X_draw]
        refine tail _ h9 (opBare x) _ (k9.of (k8.of g6')) (k9.of g8x) (Kp.trans (Kp.trans kk6 k8) k9) rfl rfl rfl ?_ rfl (by simp [c3'])
        unfold opS
        rw [if_neg c1',if_neg c2',if_pos c3']
        simp
      · have c3f : (x.kind == 3) = false := by simpa using c3
        have c3' : ¬ x.kind = 3 := by simpa using c3
        have g3x : h3.get B = some (.cells (opBare x).cells 37 false false none) := by
          unfold opBare; rw [if_neg c1',if_neg c2',if_neg c3']; exact g3
        simp (maxSteps := 2000000) only [GO,GO2,evK,fillV,setR,binV,intOp,strOp,shOp,unV,getR,lenV,partV,V.nj,V.njL,V.cells,Nat.reduceLT,Nat.reduceEqDiff,Nat.reduceAdd,↓reduceIte,Nat.reduceLeDiff,reduceCtorEq,r44_3,r44_6,r44_9,c1f,c2f,c3f]
        simp (maxSteps := 2000000) only [GO,GO2,evK,fillV,setR,binV,intOp,strOp,shOp,unV,getR,lenV,partV,V.nj,V.njL,V.cells,Nat.reduceLT,Nat.reduceEqDiff,Nat.reduceAdd,↓reduceIte,Nat.reduceLeDiff,reduceCtorEq,r44_12]
        refine ⟨?_,kk3⟩
        unfold opS
        simp [c1',c2',c3']
end Go.AM.Sc
namespace Go.AM.Sc
open Go.AM
open Go.Lib (itoa)
variable {P : Program} {E : Env} {T : H → Prop}
def queryS (q : Query) : List UInt8 :=
  if q.kind = 1 then [110,111,100,101,32] ++ quoteB q.path else
  if q.kind = 2 then [108,105,115,116,32] ++ quoteB q.path else
  if q.kind = 3 then [97,116,116,114,115,32] ++ quoteB q.path else
  if q.kind = 4 then [112,97,116,104,32] ++ itoa q.node else []
def queryOk (q : Query) : Prop := (q.kind = 1 ∨ q.kind = 2 ∨ q.kind = 3) ∧ q.node = 0 ∨ q.kind = 4 ∧ q.path = []
instance (q : Query) : Decidable (queryOk q) := by unfold queryOk; infer_instance
theorem quoteB_len {s : List UInt8} (h : s.length ≤ 16777216) : (quoteB s).length ≤ 100000000 := by
  have := qs_len s
  simp only [quoteB,List.length_append,List.length_cons,List.length_nil]; omega
theorem queryText26 (F : Fns P E T) {x : Query} {h : H} (ht : T h) (hn : InI x.node) (h1 : x.path.length ≤ 16777216) :
    Sp P E (.func 26 [] []) [.agg x.cells] h fun v h' => v = .tup [.str (queryS x),.bool (decide (queryOk x))] ∧ Kp h h' := by
  have hk0 : Kp h (h.psh (.cells x.cells 39 false false none)) := Keeps.psh (Nat.le_refl _) _
  have hg0 := psh_same h (.cells x.cells 39 false false none)
  obtain ⟨h3,e3,g3,k3,z3⟩ := put_ex (o := 0) (ws := [.int .i64 x.kind,.str x.path,.int .i64 0]) (psh_same (h.psh (.cells x.cells 39 false false none)) (.cells [.int .i64 0,.str [],.int .i64 0] 39 false false none)) (Nat.le_refl _) rfl rfl
  have k3' : Keeps (h.psh (.cells x.cells 39 false false none)).size (h.psh (.cells x.cells 39 false false none)) h3 := Keeps.trans (Keeps.psh (Nat.le_refl _) _) k3
  have g1 : h3.get h.size = some (.cells x.cells 39 false false none) := Kp.of k3' hg0
  have hlt : h.size < (h.psh (.cells x.cells 39 false false none)).size := Nat.lt_succ_self _
  have kk3 : Kp h h3 := Kp.trans hk0 k3'
  have lq := quoteB_len h1
  have li := Lib.itoa_length_le x.node hn.1 hn.2
  refine Sp_fn F.f26 F.p26 (by simp [fn26]) ?_
  simp (maxSteps := 2000000) only [GO,GO2,evK,fillV,setR,binV,intOp,strOp,shOp,unV,getR,lenV,partV,V.nj,V.njL,V.cells,Nat.reduceLT,Nat.reduceEqDiff,Nat.reduceAdd,↓reduceIte,Nat.reduceLeDiff,reduceCtorEq,fn26,c26,r26_0,r26_1,r26_2,psh_same,Query.g0,Query.g1,e3,g1]
  generalize hB : (h.psh (.cells x.cells 39 false false none)).size = B at *
  have tail : ∀ (ρ : Nat → V) (h5 : H) (y : Query) (s : List UInt8) (b : Bool),h5.get B = some (.cells y.cells 39 false false none) → h5.get h.size = some (.cells x.cells 39 false false none) → Kp h h5 → ρ 5 = .str s → ρ 4 = .ptr (some (B,0)) → ρ 1 = .ptr (some (h.size,0)) → (s == []) = b → s = queryS x → (b = false → (y = x ↔ queryOk x)) → (b = true → ¬ queryOk x) →
      XD P E none 50 r26_12 [.c .ret] ρ h5 (Fin [.t 2,.t 3] fun v h' => v = .tup [.str (queryS x),.bool (decide (queryOk x))] ∧ Kp h h') := by
    intro ρ h5 y s b q1 q2 q3 q5 q4 q6 hb hs hy hk
    rw [d26_12]
    have r1 : ∀ z : Query,List.take 3 z.cells = z.cells := fun z => rfl
    have r2 : ∀ z : Query,3 ≤ z.cells.length := fun z => Nat.le_refl _
    cases b with
    | true =>
      have hno := hk rfl
      simp (maxSteps := 2000000) only [GO,GO2,evK,fillV,setR,binV,intOp,strOp,shOp,unV,getR,lenV,partV,V.nj,V.njL,V.cells,Nat.reduceLT,Nat.reduceEqDiff,Nat.reduceAdd,↓reduceIte,Nat.reduceLeDiff,reduceCtorEq,r26_12,q5,q4,q6,q1,q2,hb,Bool.not_true]
      exact ⟨by simp [hs,hno],q3⟩
    | false =>
      have hyes := hy rfl
      have heq := Query.eqv h5 y x
      simp (maxSteps := 2000000) only [GO,GO2,evK,fillV,setR,binV,intOp,strOp,shOp,unV,getR,lenV,partV,V.nj,V.njL,V.cells,Nat.reduceLT,Nat.reduceEqDiff,Nat.reduceAdd,↓reduceIte,Nat.reduceLeDiff,reduceCtorEq,r26_12,q5,q4,q6,q1,q2,hb,Bool.not_false,r1,r2,heq]
      exact ⟨by simp [hs,hyes],q3⟩
  have g3' : h3.get B = some (.cells (Query.cells ⟨x.kind,x.path,0⟩) 39 false false none) := g3
  have same0 : (⟨x.kind,x.path,0⟩ : Query) = x ↔ x.node = 0 := by
    constructor
    · intro e; rw [← e]
    · intro e; cases x; simp_all
  by_cases c1 : (x.kind == 1) = true
  · have c1' : x.kind = 1 := by simpa using c1
    have a1 : 5 + (quoteB x.path).length ≤ 9223372036854775807 := by omega
    simp (maxSteps := 2000000) only [GO,GO2,evK,fillV,setR,binV,intOp,strOp,shOp,unV,getR,lenV,partV,V.nj,V.njL,V.cells,Nat.reduceLT,Nat.reduceEqDiff,Nat.reduceAdd,↓reduceIte,Nat.reduceLeDiff,reduceCtorEq,r26_3,r26_4,c1,g1,Query.g1]
    refine XC_of (quote16 F (by omega)) ?_
    rintro _ h7 ⟨rfl,k7⟩
    simp (maxSteps := 2000000) only [GO,GO2,evK,fillV,setR,binV,intOp,strOp,shOp,unV,getR,lenV,partV,V.nj,V.njL,V.cells,Nat.reduceLT,Nat.reduceEqDiff,Nat.reduceAdd,↓reduceIte,Nat.reduceLeDiff,reduceCtorEq,a1]
    rw [X_draw]
    exact tail _ h7 ⟨x.kind,x.path,0⟩ _ false (k7.of g3') (k7.of g1) (Kp.trans kk3 k7) rfl rfl rfl rfl (by simp [queryS,c1']) (fun _ => by rw [same0]; simp [queryOk,c1']) (by simp)
  · have c1f : (x.kind == 1) = false := by simpa using c1
    have c1' : ¬ x.kind = 1 := by simpa using c1
    by_cases c2 : (x.kind == 2) = true
    · have c2' : x.kind = 2 := by simpa using c2
      have a1 : 5 + (quoteB x.path).length ≤ 9223372036854775807 := by omega
      simp (maxSteps := 2000000) only [GO,GO2,evK,fillV,setR,binV,intOp,strOp,shOp,unV,getR,lenV,partV,V.nj,V.njL,V.cells,Nat.reduceLT,Nat.reduceEqDiff,Nat.reduceAdd,↓reduceIte,Nat.reduceLeDiff,reduceCtorEq,r26_3,r26_5,r26_6,c1f,c2,g1,Query.g1]
      refine XC_of (quote16 F (by omega)) ?_
      rintro _ h7 ⟨rfl,k7⟩
      simp (maxSteps := 2000000) only [GO,GO2,evK,fillV,setR,binV,intOp,strOp,shOp,unV,getR,lenV,partV,V.nj,V.njL,V.cells,Nat.reduceLT,Nat.reduceEqDiff,Nat.reduceAdd,↓reduceIte,Nat.reduceLeDiff,reduceCtorEq,a1]
      rw [X_draw]
      exact tail _ h7 ⟨x.kind,x.path,0⟩ _ false (k7.of g3') (k7.of g1) (Kp.trans kk3 k7) rfl rfl rfl rfl (by simp [queryS,c2']) (fun _ => by rw [same0]; simp [queryOk,c2']) (by simp)
    · have c2f : (x.kind == 2) = false := by simpa using c2
      have c2' : ¬ x.kind = 2 := by simpa using c2
      by_cases c3 : (x.kind == 3) = true
      · have c3' : x.kind = 3 := by simpa using c3
        have a1 : 6 + (quoteB x.path).length ≤ 9223372036854775807 := by omega
        simp (maxSteps := 2000000) only [GO,GO2,evK,fillV,setR,binV,intOp,strOp,shOp,unV,getR,lenV,partV,V.nj,V.njL,V.cells,Nat.reduceLT,Nat.reduceEqDiff,Nat.reduceAdd,↓reduceIte,Nat.reduceLeDiff,reduceCtorEq,r26_3,r26_5,r26_7,r26_8,c1f,c2f,c3,g1,Query.g1]
        refine XC_of (quote16 F (by omega)) ?_
        rintro _ h7 ⟨rfl,k7⟩
        simp (maxSteps := 2000000) only [GO,GO2,evK,fillV,setR,binV,intOp,strOp,shOp,unV,getR,lenV,partV,V.nj,V.njL,V.cells,Nat.reduceLT,Nat.reduceEqDiff,Nat.reduceAdd,↓reduceIte,Nat.reduceLeDiff,reduceCtorEq,a1]
        rw [X_draw]
        exact tail _ h7 ⟨x.kind,x.path,0⟩ _ false (k7.of g3') (k7.of g1) (Kp.trans kk3 k7) rfl rfl rfl rfl (by simp [queryS,c3']) (fun _ => by rw [same0]; simp [queryOk,c3']) (by simp)
      · have c3f : (x.kind == 3) = false := by simpa using c3
        have c3' : ¬ x.kind = 3 := by simpa using c3
        by_cases c4 : (x.kind == 4) = true
        · have c4' : x.kind = 4 := by simpa using c4
          have a1 : 5 + (itoa x.node).length ≤ 9223372036854775807 := by omega
          obtain ⟨h5,e5,g5,k5,z5⟩ := put_ex (o := 0) (ws := [.int .i64 x.kind,.str [],.int .i64 x.node]) g3' (Nat.le_refl _) rfl rfl
          have g5' : h5.get B = some (.cells (Query.cells ⟨x.kind,[],x.node⟩) 39 false false none) := g5
          have g5x : h5.get h.size = some (.cells x.cells 39 false false none) := by rw [k5.get _ hlt]; exact g1
          have kk5 : Keeps h.size h h5 := Keeps.trans (n := h.size) kk3 (k5.mono (by omega))
          simp (maxSteps := 2000000) only [GO,GO2,evK,fillV,setR,binV,intOp,strOp,shOp,unV,getR,lenV,partV,V.nj,V.njL,V.cells,Nat.reduceLT,Nat.reduceEqDiff,Nat.reduceAdd,↓reduceIte,Nat.reduceLeDiff,reduceCtorEq,r26_3,r26_5,r26_7,r26_9,r26_10,r26_11,c1f,c2f,c3f,c4,g1,Query.g0,Query.g2,e5,g5x]
          refine XC_of (num27 F hn (F.tkeep _ _ ht kk5)) ?_
          rintro _ h7 ⟨rfl,rfl⟩
          simp (maxSteps := 2000000) only [GO,GO2,evK,fillV,setR,binV,intOp,strOp,shOp,unV,getR,lenV,partV,V.nj,V.njL,V.cells,Nat.reduceLT,Nat.reduceEqDiff,Nat.reduceAdd,↓reduceIte,Nat.reduceLeDiff,reduceCtorEq,a1]
          rw [X_draw]
          refine tail _ h7 ⟨x.kind,[],x.node⟩ _ false g5' g5x kk5 rfl rfl rfl rfl (by simp [queryS,c4']) (fun _ => ?_) (by simp)
          have : (⟨x.kind,[],x.node⟩ : Query) = x ↔ x.path = [] := by
            constructor
            · intro e; rw [← e]
            · intro e; cases x; simp_all
          rw [this]; simp [queryOk,c4']
        · have c4f : (x.kind == 4) = false := by simpa using c4
          have c4' : ¬ x.kind = 4 := by simpa using c4
          simp (maxSteps := 2000000) only [GO,GO2,evK,fillV,setR,binV,intOp,strOp,shOp,unV,getR,lenV,partV,V.nj,V.njL,V.cells,Nat.reduceLT,Nat.reduceEqDiff,Nat.reduceAdd,↓reduceIte,Nat.reduceLeDiff,reduceCtorEq,r26_3,r26_5,r26_7,r26_9,c1f,c2f,c3f,c4f]
          rw [X_draw]
          exact tail _ h3 ⟨x.kind,x.path,0⟩ [] true g3' g1 kk3 rfl rfl rfl rfl (by simp [queryS,c1',c2',c3',c4']) (fun h => by cases h) (by simp [queryOk,c1',c2',c3',c4'])
def queryS2 (q : Query) : List UInt8 :=
  if q.kind = 1 then [110,111,100,101,32] ++ quoteB q.path else
  if q.kind = 2 then [108,105,115,116,32] ++ quoteB q.path else
  if q.kind = 3 then [97,116,116,114,115,32] ++ quoteB q.path else [112,97,116,104,32] ++ itoa q.node
theorem queryS2_ok {q : Query} (h : queryOk q) : queryS2 q = queryS q := by
  unfold queryOk at h
  unfold queryS queryS2
  split
  · rfl
  · split
    · rfl
    · split
      · rfl
      · rename_i a b c
        have : q.kind = 4 := by rcases h with ⟨h,_⟩ | ⟨h,_⟩ <;> omega
        simp [this]
set_option maxHeartbeats 4000000 in
theorem queryWords45 (F : Fns P E T) {x : Query} {h : H} (ht : T h) (hn : InI x.node) (h1 : x.path.length ≤ 16777216) :
    Sp P E (.func 45 [] []) [.agg x.cells] h fun v h' => v = .tup [.str (queryS2 x),.bool (decide (queryOk x))] ∧ Kp h h' := by
  have hg0 := psh_same h (.cells x.cells 39 false false none)
  have hk0 : Kp h (h.psh (.cells x.cells 39 false false none)) := Keeps.psh (Nat.le_refl _) _
  have lq := quoteB_len h1
  have li := Lib.itoa_length_le x.node hn.1 hn.2
  have hk1 : Keeps (h.psh (.cells x.cells 39 false false none)).size (h.psh (.cells x.cells 39 false false none)) ((h.psh (.cells x.cells 39 false false none)).psh (.cells [.str [],.str [110,111,100,101,32],.str [108,105,115,116,32],.str [97,116,116,114,115,32]] 9 false false none)) := Keeps.psh (Nat.le_refl _) _
  have hx := Kp.of hk1 hg0
  have hk2 := Kp.trans hk0 hk1
  have hw := psh_same (h.psh (.cells x.cells 39 false false none)) (.cells [.str [],.str [110,111,100,101,32],.str [108,105,115,116,32],.str [97,116,116,114,115,32]] 9 false false none)
  have hlt : h.size < (h.psh (.cells x.cells 39 false false none)).size := Nat.lt_succ_self _
  refine Sp_fn F.f45 F.p45 (by simp [fn45]) ?_
  simp (maxSteps := 2000000) only [GO,GO2,evK,fillV,setR,binV,intOp,strOp,shOp,unV,getR,lenV,partV,V.nj,V.njL,V.cells,Nat.reduceLT,Nat.reduceEqDiff,Nat.reduceAdd,↓reduceIte,Nat.reduceLeDiff,reduceCtorEq,fn45,c45,r45_0,r45_1]
  generalize hH : (h.psh (.cells x.cells 39 false false none)).psh (.cells [.str [],.str [110,111,100,101,32],.str [108,105,115,116,32],.str [97,116,116,114,115,32]] 9 false false none) = h2 at *
  generalize hB : (h.psh (.cells x.cells 39 false false none)).size = B at *
  have last : ¬ (1 ≤ x.kind ∧ x.kind ≤ 3) → ∀ ρ : Nat → V,ρ 1 = .ptr (some (h.size,0)) → X P E none 38 [.c (.draw r45_4),.c .ret] ρ h2 (Fin [.t 2,.t 3] fun v h' => v = .tup [.str (queryS2 x),.bool (decide (queryOk x))] ∧ Kp h h') := by
    intro hno ρ q1
    have b1 : ¬ x.kind = 1 := by omega
    have b2 : ¬ x.kind = 2 := by omega
    have b3 : ¬ x.kind = 3 := by omega
    have a1 : 5 + (itoa x.node).length ≤ 9223372036854775807 := by omega
    rw [X_draw]
    refine d45_4 ?_
    simp (maxSteps := 2000000) only [GO,GO2,evK,fillV,setR,binV,intOp,strOp,shOp,unV,getR,lenV,partV,V.nj,V.njL,V.cells,Nat.reduceLT,Nat.reduceEqDiff,Nat.reduceAdd,↓reduceIte,Nat.reduceLeDiff,reduceCtorEq,r45_4,q1,hx,Query.g2]
    refine XCQ_of (num30 F hn (F.tkeep _ _ ht hk2)) ?_
    rintro _ h7 ⟨rfl,rfl⟩
    refine ⟨Keeps.refl _ _,?_⟩
    by_cases c4 : (x.kind == 4) = true
    · have c4' : x.kind = 4 := by simpa using c4
      simp (maxSteps := 2000000) only [GO,GO2,evK,fillV,setR,binV,intOp,strOp,shOp,unV,getR,lenV,partV,V.nj,V.njL,V.cells,Nat.reduceLT,Nat.reduceEqDiff,Nat.reduceAdd,↓reduceIte,Nat.reduceLeDiff,reduceCtorEq,a1,q1,hx,Query.g0,Query.g1,c4]
      refine ⟨?_,hk2⟩
      have e3 : (x.path == []) = decide (queryOk x) := by
        rw [Bool.eq_iff_iff]; simp [queryOk,c4']
      rw [e3]; simp [queryS2,c4']
    · have c4f : (x.kind == 4) = false := by simpa using c4
      have c4' : ¬ x.kind = 4 := by simpa using c4
      simp (maxSteps := 2000000) only [GO,GO2,evK,fillV,setR,binV,intOp,strOp,shOp,unV,getR,lenV,partV,V.nj,V.njL,V.cells,Nat.reduceLT,Nat.reduceEqDiff,Nat.reduceAdd,↓reduceIte,Nat.reduceLeDiff,reduceCtorEq,a1,q1,hx,Query.g0,Query.g1,c4f]
      refine ⟨?_,hk2⟩
      simp [queryS2,queryOk,b1,b2,b3,c4']
  by_cases c1 : 1 ≤ x.kind
  · by_cases c3 : x.kind ≤ 3
    · obtain ck | ck | ck : x.kind = 1 ∨ x.kind = 2 ∨ x.kind = 3 := by omega
      · have a1 : 5 + (quoteB x.path).length ≤ 9223372036854775807 := by omega
        have e1 : (1 : Int).toNat = 1 := rfl
        have e2 : (1 : Int) < ((4 : Nat) : Int) := by decide
        simp (maxSteps := 2000000) only [GO,GO2,evK,fillV,setR,binV,intOp,strOp,shOp,unV,getR,lenV,partV,V.nj,V.njL,V.cells,Nat.reduceLT,Nat.reduceEqDiff,Nat.reduceAdd,↓reduceIte,Nat.reduceLeDiff,reduceCtorEq,r45_2,hx,Query.g0,Query.g1,c1,c3]
        rw [X_draw]
        refine d45_3 ?_
        simp (maxSteps := 2000000) only [GO,GO2,evK,fillV,setR,binV,intOp,strOp,shOp,unV,getR,lenV,partV,V.nj,V.njL,V.cells,Nat.reduceLT,Nat.reduceEqDiff,Nat.reduceAdd,↓reduceIte,Nat.reduceLeDiff,reduceCtorEq,r45_3,hx,hw,Query.g0,Query.g1,ck,e1,e2,Int.reduceLE,Nat.mul_one]
        refine XCQ_of (quote17k F (by omega)) ?_
        rintro _ h7 ⟨rfl,k7⟩
        have hx7 := Kp.of k7 hx
        refine ⟨k7,?_⟩
        simp (maxSteps := 2000000) only [GO,GO2,evK,fillV,setR,binV,intOp,strOp,shOp,unV,getR,lenV,partV,V.nj,V.njL,V.cells,Nat.reduceLT,Nat.reduceEqDiff,Nat.reduceAdd,↓reduceIte,Nat.reduceLeDiff,reduceCtorEq,a1,hx,hx7,Query.g2]
        refine ⟨?_,Kp.trans hk2 k7⟩
        have e3 : (x.node == 0) = decide (queryOk x) := by
          rw [Bool.eq_iff_iff]; simp [queryOk,ck]
        rw [e3]; simp [queryS2,ck]
      · have a1 : 5 + (quoteB x.path).length ≤ 9223372036854775807 := by omega
        have e1 : (2 : Int).toNat = 2 := rfl
        have e2 : (2 : Int) < ((4 : Nat) : Int) := by decide
        simp (maxSteps := 2000000) only [GO,GO2,evK,fillV,setR,binV,intOp,strOp,shOp,unV,getR,lenV,partV,V.nj,V.njL,V.cells,Nat.reduceLT,Nat.reduceEqDiff,Nat.reduceAdd,↓reduceIte,Nat.reduceLeDiff,reduceCtorEq,r45_2,hx,Query.g0,Query.g1,c1,c3]
        rw [X_draw]
        refine d45_3 ?_
        simp (maxSteps := 2000000) only [GO,GO2,evK,fillV,setR,binV,intOp,strOp,shOp,unV,getR,lenV,partV,V.nj,V.njL,V.cells,Nat.reduceLT,Nat.reduceEqDiff,Nat.reduceAdd,↓reduceIte,Nat.reduceLeDiff,reduceCtorEq,r45_3,hx,hw,Query.g0,Query.g1,ck,e1,e2,Int.reduceLE,Nat.mul_one]
        refine XCQ_of (quote17k F (by omega)) ?_
        rintro _ h7 ⟨rfl,k7⟩
        have hx7 := Kp.of k7 hx
        refine ⟨k7,?_⟩
        simp (maxSteps := 2000000) only [GO,GO2,evK,fillV,setR,binV,intOp,strOp,shOp,unV,getR,lenV,partV,V.nj,V.njL,V.cells,Nat.reduceLT,Nat.reduceEqDiff,Nat.reduceAdd,↓reduceIte,Nat.reduceLeDiff,reduceCtorEq,a1,hx,hx7,Query.g2]
        refine ⟨?_,Kp.trans hk2 k7⟩
        have e3 : (x.node == 0) = decide (queryOk x) := by
          rw [Bool.eq_iff_iff]; simp [queryOk,ck]
        rw [e3]; simp [queryS2,ck]
      · have a1 : 6 + (quoteB x.path).length ≤ 9223372036854775807 := by omega
        have e1 : (3 : Int).toNat = 3 := rfl
        have e2 : (3 : Int) < ((4 : Nat) : Int) := by decide
        simp (maxSteps := 2000000) only [GO,GO2,evK,fillV,setR,binV,intOp,strOp,shOp,unV,getR,lenV,partV,V.nj,V.njL,V.cells,Nat.reduceLT,Nat.reduceEqDiff,Nat.reduceAdd,↓reduceIte,Nat.reduceLeDiff,reduceCtorEq,r45_2,hx,Query.g0,Query.g1,c1,c3]
        rw [X_draw]
        refine d45_3 ?_
        simp (maxSteps := 2000000) only [GO,GO2,evK,fillV,setR,binV,intOp,strOp,shOp,unV,getR,lenV,partV,V.nj,V.njL,V.cells,Nat.reduceLT,Nat.reduceEqDiff,Nat.reduceAdd,↓reduceIte,Nat.reduceLeDiff,reduceCtorEq,r45_3,hx,hw,Query.g0,Query.g1,ck,e1,e2,Int.reduceLE,Nat.mul_one]
        refine XCQ_of (quote17k F (by omega)) ?_
        rintro _ h7 ⟨rfl,k7⟩
        have hx7 := Kp.of k7 hx
        refine ⟨k7,?_⟩
        simp (maxSteps := 2000000) only [GO,GO2,evK,fillV,setR,binV,intOp,strOp,shOp,unV,getR,lenV,partV,V.nj,V.njL,V.cells,Nat.reduceLT,Nat.reduceEqDiff,Nat.reduceAdd,↓reduceIte,Nat.reduceLeDiff,reduceCtorEq,a1,hx,hx7,Query.g2]
        refine ⟨?_,Kp.trans hk2 k7⟩
        have e3 : (x.node == 0) = decide (queryOk x) := by
          rw [Bool.eq_iff_iff]; simp [queryOk,ck]
        rw [e3]; simp [queryS2,ck]
    · simp (maxSteps := 2000000) only [GO,GO2,evK,fillV,setR,binV,intOp,strOp,shOp,unV,getR,lenV,partV,V.nj,V.njL,V.cells,Nat.reduceLT,Nat.reduceEqDiff,Nat.reduceAdd,↓reduceIte,Nat.reduceLeDiff,reduceCtorEq,r45_2,hx,Query.g0,Query.g1,c1,c3]
      exact last (fun h => c3 h.2) _ rfl
  · simp (maxSteps := 2000000) only [GO,GO2,evK,fillV,setR,binV,intOp,strOp,shOp,unV,getR,lenV,partV,V.nj,V.njL,V.cells,Nat.reduceLT,Nat.reduceEqDiff,Nat.reduceAdd,↓reduceIte,Nat.reduceLeDiff,reduceCtorEq,r45_2,hx,Query.g0,Query.g1,c1]
    exact last (fun h => c1 h.1) _ rfl
end Go.AM.Sc
