/- My own texts of the evaluator, its soundness and its symbolic runs, laid for this claim. -/
import Derived.Test.YtbdbikdeolanfaaGreatDoorWnLiveWnFns
set_option linter.unusedSimpArgs false
set_option linter.unusedVariables false
namespace Go.Proofs.YtbdbikdeolanfaaGreatDoor.wal
open Go.AM Go.AM.Wn
set_option maxRecDepth 100000
theorem put_ex {h : H} {b o : Nat} {vs ws : List V} {ty : Nat} (hg : h.get b = some (.cells vs ty false false none)) (hw : o + ws.length ≤ vs.length) (h1 : ws.all V.one = true) (hne : ws.isEmpty = false) :
    putCells h b o ws = some (h.set b (.cells (setR vs o ws) ty false false none)) := by
  unfold putCells
  rw [hne, hg]
  simp only [Bool.false_eq_true, if_false]
  rw [if_pos ⟨hw, h1, rfl⟩]
theorem eq_pn (h : H) (a : Nat × Nat) : eqV h .ptr (.ptr (some a)) (.ptr none) = some false := by simp [eqV]
theorem eq_nn (h : H) : eqV h .ptr (.ptr none) (.ptr none) = some true := by simp [eqV]
theorem sp4 {h : H} : Sp Tryz.prog E0 (.func 4 [] []) [.int .i64 100] h fun v h' => v = .tup [.ptr (some (h.size + 1, 0)), .int .i64 0] ∧ h' = (h.psh (.map [] 0)).psh (.cells [.map (some h.size), .int .i64 0, .int .i64 0, .int .i64 100, .bool false] 43 false false none) := by
  have c1 : ¬ (100 : Int) < 0 := by decide
  refine Sp_fn f4 rfl (by simp [fn4]) ?_
  simp (maxSteps := 2000000) only [GO,GO2,evK,fillV,setR,binV,intOp,strOp,shOp,unV,getR,lenV,partV,V.nj,V.njL,V.cells,Nat.reduceLT,Nat.reduceEqDiff,Nat.reduceAdd,↓reduceIte,Nat.reduceLeDiff,reduceCtorEq,fn4,c4,r4_0,r4_1,r4_3,c1,psh_size]
theorem sp5 {h : H} : Sp Tryz.prog E0 (.func 5 [] []) [.int .i64 100] h fun v h' => v = .tup [.ptr (some (h.size, 0)), .int .i64 0] ∧ h' = h.psh (.cells [.int .i64 100, .slice none 0 0 false, .int .i64 0, .int .i64 0, .bool false] 46 false false none) := by
  have c1 : ¬ (100 : Int) < 0 := by decide
  refine Sp_fn f5 rfl (by simp [fn5]) ?_
  simp (maxSteps := 2000000) only [GO,GO2,evK,fillV,setR,binV,intOp,strOp,shOp,unV,getR,lenV,partV,V.nj,V.njL,V.cells,Nat.reduceLT,Nat.reduceEqDiff,Nat.reduceAdd,↓reduceIte,Nat.reduceLeDiff,reduceCtorEq,fn5,c5,r5_0,r5_1,r5_3,c1]
theorem sp26 {h : H} {b : Nat} (hg : h.get b = some (.cells [.int .i64 100, .slice none 0 0 false, .int .i64 0, .int .i64 0, .bool false] 46 false false none)) : Sp Tryz.prog E0 (.func 26 [] []) [.ptr (some (b, 0))] h fun v h' => v = .bool false ∧ h' = h := by
  refine Sp_fn f26 rfl (by simp [fn26]) ?_
  simp (maxSteps := 2000000) only [GO,GO2,evK,fillV,setR,binV,intOp,strOp,shOp,unV,getR,lenV,partV,V.nj,V.njL,V.cells,Nat.reduceLT,Nat.reduceEqDiff,Nat.reduceAdd,↓reduceIte,Nat.reduceLeDiff,reduceCtorEq,fn26,c26,r26_0,hg]
theorem sp27 {h : H} {b : Nat} (hg : h.get b = some (.cells [.int .i64 100, .slice none 0 0 false, .int .i64 0, .int .i64 0, .bool false] 46 false false none)) : Sp Tryz.prog E0 (.func 27 [] []) [.ptr (some (b, 0))] h fun v h' => v = .slice none 0 0 false ∧ h' = h := by
  have c1 : ¬ (0 : Int) < ((0 : Nat) : Int) := by decide
  refine Sp_fn f27 rfl (by simp [fn27]) ?_
  simp (maxSteps := 2000000) only [GO,GO2,evK,fillV,setR,binV,intOp,strOp,shOp,unV,getR,lenV,partV,V.nj,V.njL,V.cells,Nat.reduceLT,Nat.reduceEqDiff,Nat.reduceAdd,↓reduceIte,Nat.reduceLeDiff,reduceCtorEq,fn27,c27,r27_4]
  rw [u27_3]
  simp (maxSteps := 2000000) only [GO,GO2,evK,fillV,setR,binV,intOp,strOp,shOp,unV,getR,lenV,partV,V.nj,V.njL,V.cells,Nat.reduceLT,Nat.reduceEqDiff,Nat.reduceAdd,↓reduceIte,Nat.reduceLeDiff,reduceCtorEq,r27_0,r27_4,hg,c1]
abbrev hA : H := (h0.psh (.map [] 0)).psh (.cells [.map (some 6), .int .i64 0, .int .i64 0, .int .i64 100, .bool false] 43 false false none)
abbrev hB : H := hA.psh (.cells [.int .i64 100, .slice none 0 0 false, .int .i64 0, .int .i64 0, .bool false] 46 false false none)
theorem sp4c : Sp Tryz.prog E0 (.func 4 [] []) [.int .i64 100] h0 fun v h' => v = .tup [.ptr (some (7, 0)), .int .i64 0] ∧ h' = hA := sp4
theorem sp5c : Sp Tryz.prog E0 (.func 5 [] []) [.int .i64 100] hA fun v h' => v = .tup [.ptr (some (8, 0)), .int .i64 0] ∧ h' = hB := sp5
abbrev hC (s : List UInt8) : H := hB.psh (.cells (AM.bytes s) 5 true false (some 0))
theorem run16 (s : List UInt8) : ap Tryz.prog E0 50 (.func 16 [] []) [.ptr (some (7, 0))] (hC s) = some (.bool false, hC s) := by kernel_rfl
theorem run17 (s : List UInt8) : (ap Tryz.prog E0 50 (.func 17 [] []) [.ptr (some (7, 0))] (hC s)).map Prod.fst = some (.ptr (some (11, 0))) := by kernel_rfl
noncomputable abbrev hD (s : List UInt8) : H := (apH Tryz.prog E0 50 (.func 17 [] []) [.ptr (some (7, 0))] (hC s)).psh (.cells [.ptr (some (7, 0)), .str s, .slice none 0 0 false, .int .i64 0, .int .i64 0, .bool false] 55 false false none)
theorem run18 (s : List UInt8) : (ap Tryz.prog E0 90 (.func 18 [] []) [.ptr (some (7, 0)), .str s] (hD s)).map Prod.fst = some (.slice none 0 0 false) := by kernel_rfl
noncomputable abbrev hE (s : List UInt8) : H := apH Tryz.prog E0 90 (.func 18 [] []) [.ptr (some (7, 0)), .str s] (hD s)
theorem sizeD (s : List UInt8) : (apH Tryz.prog E0 50 (.func 17 [] []) [.ptr (some (7, 0))] (hC s)).size = 13 := by kernel_rfl
theorem getE (s : List UInt8) : (hE s).get 13 = some (.cells [.ptr (some (7, 0)), .str s, .slice none 0 0 false, .int .i64 0, .int .i64 0, .bool false] 55 false false none) := by kernel_rfl
theorem open7_yes {s : List UInt8} (hlen : s.length ≤ 134217728) (hn : isName s = true) : Sp Tryz.prog E0 (.func 7 [] []) [.ptr (some (7, 0)), .str s] hB fun v h' => (∃ b, v = .tup [.ptr (some (b, 0)), .int .i64 0]) ∧ h'.get 8 = hB.get 8 ∧ h'.get 0 = hB.get 0 := by
  refine Sp_fn fns.f7 fns.p7 (by simp [fn7]) ?_
  simp (maxSteps := 2000000) only [GO,GO2,evK,fillV,setR,binV,intOp,strOp,shOp,unV,getR,lenV,partV,V.nj,V.njL,V.cells,Nat.reduceLT,Nat.reduceEqDiff,Nat.reduceAdd,↓reduceIte,Nat.reduceLeDiff,reduceCtorEq,fn7,c7,r7_0,r7_1]
  refine XC_of (named15 fns.toFnw hlen) ?_
  rintro _ h1 ⟨rfl, rfl⟩
  simp (maxSteps := 2000000) only [GO,GO2,evK,fillV,setR,binV,intOp,strOp,shOp,unV,getR,lenV,partV,V.nj,V.njL,V.cells,Nat.reduceLT,Nat.reduceEqDiff,Nat.reduceAdd,↓reduceIte,Nat.reduceLeDiff,reduceCtorEq,hn,Bool.not_true,r7_3]
  refine XC_of (Sp_ap (run16 s)) ?_
  rintro _ h2 ⟨rfl, rfl⟩
  simp (maxSteps := 2000000) only [GO,GO2,evK,fillV,setR,binV,intOp,strOp,shOp,unV,getR,lenV,partV,V.nj,V.njL,V.cells,Nat.reduceLT,Nat.reduceEqDiff,Nat.reduceAdd,↓reduceIte,Nat.reduceLeDiff,reduceCtorEq,r7_5]
  refine XC_of (Sp_runv (run17 s)) ?_
  rintro _ h2 ⟨rfl, rfl⟩
  simp (maxSteps := 2000000) only [GO,GO2,evK,fillV,setR,binV,intOp,strOp,shOp,unV,getR,lenV,partV,V.nj,V.njL,V.cells,Nat.reduceLT,Nat.reduceEqDiff,Nat.reduceAdd,↓reduceIte,Nat.reduceLeDiff,reduceCtorEq,eq_pn,r7_7,r7_8]
  refine XC_of (Sp_runv (run18 s)) ?_
  rintro _ h3 ⟨rfl, rfl⟩
  have c1 : ¬ (0 : Int) < ((0 : Nat) : Int) := by decide
  simp (maxSteps := 2000000) only [GO,GO2,evK,fillV,setR,binV,intOp,strOp,shOp,unV,getR,lenV,partV,V.nj,V.njL,V.cells,Nat.reduceLT,Nat.reduceEqDiff,Nat.reduceAdd,↓reduceIte,Nat.reduceLeDiff,reduceCtorEq,r7_9]
  rw [u7_26]
  simp (maxSteps := 2000000) only [GO,GO2,evK,fillV,setR,binV,intOp,strOp,shOp,unV,getR,lenV,partV,V.nj,V.njL,V.cells,Nat.reduceLT,Nat.reduceEqDiff,Nat.reduceAdd,↓reduceIte,Nat.reduceLeDiff,reduceCtorEq,c1,r7_27,sizeD,getE]
  rw [u7_35]
  have hp := put_ex (o := 4) (ws := [.int .i64 0]) (getE s) (by simp) rfl rfl
  simp (maxSteps := 2000000) only [GO,GO2,evK,fillV,setR,binV,intOp,strOp,shOp,unV,getR,lenV,partV,V.nj,V.njL,V.cells,Nat.reduceLT,Nat.reduceEqDiff,Nat.reduceAdd,↓reduceIte,Nat.reduceLeDiff,reduceCtorEq,c1,r7_36,r7_37,getE,hp]
  refine ⟨⟨_, rfl⟩, ?_, ?_⟩
  · exact show ((hE s).set 13 _).get 8 = _ by kernel_rfl
  · exact show ((hE s).set 13 _).get 0 = _ by kernel_rfl
theorem open8_yes {s : List UInt8} {h : H} {b : Nat} (hlen : s.length ≤ 134217728) (hn : isName s = true) (hg : h.get b = some (.cells [.int .i64 100, .slice none 0 0 false, .int .i64 0, .int .i64 0, .bool false] 46 false false none)) : Sp Tryz.prog E0 (.func 8 [] []) [.ptr (some (b, 0)), .str s] h fun v h' => (∃ b, v = .tup [.ptr (some (b, 0)), .int .i64 0]) ∧ Kp h h' := by
  have hk0 : Kp h (h.psh (.cells [.ptr (some (b, 0)), .str s, .slice none 0 0 false, .int .i64 0, .int .i64 0, .bool false] 71 false false none)) := Keeps.psh (Nat.le_refl _) _
  have c1 : ¬ (0 : Int) < ((0 : Nat) : Int) := by decide
  have hg2 := Kp.of hk0 hg
  refine Sp_fn fns.f8 fns.p8 (by simp [fn8]) ?_
  simp (maxSteps := 2000000) only [GO,GO2,evK,fillV,setR,binV,intOp,strOp,shOp,unV,getR,lenV,partV,V.nj,V.njL,V.cells,Nat.reduceLT,Nat.reduceEqDiff,Nat.reduceAdd,↓reduceIte,Nat.reduceLeDiff,reduceCtorEq,fn8,c8,r8_0,r8_1]
  refine XC_of (name25 fns.toFnw hlen) ?_
  rintro _ h1 ⟨rfl, rfl⟩
  simp (maxSteps := 2000000) only [GO,GO2,evK,fillV,setR,binV,intOp,strOp,shOp,unV,getR,lenV,partV,V.nj,V.njL,V.cells,Nat.reduceLT,Nat.reduceEqDiff,Nat.reduceAdd,↓reduceIte,Nat.reduceLeDiff,reduceCtorEq,hn,Bool.not_true,r8_3]
  refine XC_of (sp26 hg) ?_
  rintro _ h2 ⟨rfl, rfl⟩
  simp (maxSteps := 2000000) only [GO,GO2,evK,fillV,setR,binV,intOp,strOp,shOp,unV,getR,lenV,partV,V.nj,V.njL,V.cells,Nat.reduceLT,Nat.reduceEqDiff,Nat.reduceAdd,↓reduceIte,Nat.reduceLeDiff,reduceCtorEq,r8_5,r8_6]
  refine XC_of (sp27 hg2) ?_
  rintro _ h3 ⟨rfl, rfl⟩
  simp (maxSteps := 2000000) only [GO,GO2,evK,fillV,setR,binV,intOp,strOp,shOp,unV,getR,lenV,partV,V.nj,V.njL,V.cells,Nat.reduceLT,Nat.reduceEqDiff,Nat.reduceAdd,↓reduceIte,Nat.reduceLeDiff,reduceCtorEq]
  rw [u8_11]
  simp (maxSteps := 2000000) only [GO,GO2,evK,fillV,setR,binV,intOp,strOp,shOp,unV,getR,lenV,partV,V.nj,V.njL,V.cells,Nat.reduceLT,Nat.reduceEqDiff,Nat.reduceAdd,↓reduceIte,Nat.reduceLeDiff,reduceCtorEq,r8_7,c1]
  rw [u8_29]
  simp (maxSteps := 2000000) only [GO,GO2,evK,fillV,setR,binV,intOp,strOp,shOp,unV,getR,lenV,partV,V.nj,V.njL,V.cells,Nat.reduceLT,Nat.reduceEqDiff,Nat.reduceAdd,↓reduceIte,Nat.reduceLeDiff,reduceCtorEq,r8_12,c1]
  rw [u8_38]
  have hp := put_ex (o := 4) (ws := [.int .i64 0]) (psh_same h2 (.cells [.ptr (some (b, 0)), .str s, .slice none 0 0 false, .int .i64 0, .int .i64 0, .bool false] 71 false false none)) (by simp) rfl rfl
  simp (maxSteps := 2000000) only [GO,GO2,evK,fillV,setR,binV,intOp,strOp,shOp,unV,getR,lenV,partV,V.nj,V.njL,V.cells,Nat.reduceLT,Nat.reduceEqDiff,Nat.reduceAdd,↓reduceIte,Nat.reduceLeDiff,reduceCtorEq,r8_30,r8_39,r8_40,c1,psh_same,hp]
  refine ⟨⟨_, rfl⟩, ?_⟩
  exact Keeps.trans hk0 (Keeps.set (n := h2.size) (i := h2.size) (by rw [psh_size]; omega) (Nat.le_refl _) _) 
end Go.Proofs.YtbdbikdeolanfaaGreatDoor.wal
namespace Go.Proofs.YtbdbikdeolanfaaGreatDoor.wal
open Go.AM Go.AM.Wn
open Go.Lib (itoa)
set_option maxRecDepth 100000
theorem eq_bb (h : H) (a b : Bool) : eqV h .bool (.bool a) (.bool b) = some (a == b) := by simp [eqV]
theorem run16n (h : H) : ap Tryz.prog E0 50 (.func 16 [] []) [.ptr none] h = some (.bool false, h) := by kernel_rfl
theorem run17n (h : H) : ap Tryz.prog E0 50 (.func 17 [] []) [.ptr none] h = some (.ptr none, h) := by kernel_rfl
theorem open7_nil {h : H} : Sp Tryz.prog E0 (.func 7 [] []) [.ptr none, .str [108, 111, 103]] h fun v h' => v = .tup [.ptr none, .int .i64 2] ∧ Kp h h' := by
  have hk0 : Kp h (h.psh (.cells (AM.bytes [108, 111, 103]) 5 true false (some 0))) := Keeps.psh (Nat.le_refl _) _
  have hn : isName [108, 111, 103] = true := by decide
  refine Sp_fn fns.f7 fns.p7 (by simp [fn7]) ?_
  simp (maxSteps := 2000000) only [GO,GO2,evK,fillV,setR,binV,intOp,strOp,shOp,unV,getR,lenV,partV,V.nj,V.njL,V.cells,Nat.reduceLT,Nat.reduceEqDiff,Nat.reduceAdd,↓reduceIte,Nat.reduceLeDiff,reduceCtorEq,fn7,c7,r7_0,r7_1]
  refine XC_of (named15 fns.toFnw (by decide)) ?_
  rintro _ h1 ⟨rfl, rfl⟩
  simp (maxSteps := 2000000) only [GO,GO2,evK,fillV,setR,binV,intOp,strOp,shOp,unV,getR,lenV,partV,V.nj,V.njL,V.cells,Nat.reduceLT,Nat.reduceEqDiff,Nat.reduceAdd,↓reduceIte,Nat.reduceLeDiff,reduceCtorEq,hn,Bool.not_true,r7_3]
  refine XC_of (Sp_ap (run16n _)) ?_
  rintro _ h2 ⟨rfl, rfl⟩
  simp (maxSteps := 2000000) only [GO,GO2,evK,fillV,setR,binV,intOp,strOp,shOp,unV,getR,lenV,partV,V.nj,V.njL,V.cells,Nat.reduceLT,Nat.reduceEqDiff,Nat.reduceAdd,↓reduceIte,Nat.reduceLeDiff,reduceCtorEq,r7_5]
  refine XC_of (Sp_ap (run17n _)) ?_
  rintro _ h2 ⟨rfl, rfl⟩
  simp (maxSteps := 2000000) only [GO,GO2,evK,fillV,setR,binV,intOp,strOp,shOp,unV,getR,lenV,partV,V.nj,V.njL,V.cells,Nat.reduceLT,Nat.reduceEqDiff,Nat.reduceAdd,↓reduceIte,Nat.reduceLeDiff,reduceCtorEq,eq_nn,r7_6]
  exact hk0
theorem law3 {s : List UInt8} {n : Int} (hlen : s.length ≤ 134217728) : Sp Tryz.prog E0 (.func 3 [] []) [.str s, .int .i64 n] h0 fun v _ => v = .bool true := by
  refine Sp_fn f3 rfl (by simp [fn3]) ?_
  simp (maxSteps := 2000000) only [GO,GO2,evK,fillV,setR,binV,intOp,strOp,shOp,unV,getR,lenV,partV,V.nj,V.njL,V.cells,Nat.reduceLT,Nat.reduceEqDiff,Nat.reduceAdd,↓reduceIte,Nat.reduceLeDiff,reduceCtorEq,fn3,c3,r3_0]
  refine XC_of sp4c ?_
  rintro _ h1 ⟨rfl, rfl⟩
  simp (maxSteps := 2000000) only [GO,GO2,evK,fillV,setR,binV,intOp,strOp,shOp,unV,getR,lenV,partV,V.nj,V.njL,V.cells,Nat.reduceLT,Nat.reduceEqDiff,Nat.reduceAdd,↓reduceIte,Nat.reduceLeDiff,reduceCtorEq,r3_1]
  refine XC_of sp5c ?_
  rintro _ h1 ⟨rfl, rfl⟩
  have c10 : (false == ((1 : Int) == 0)) = true := by decide
  have c0 : ((0 : Int) != 0) = false := by decide
  have tB : T1 hB := by
    show hB.get 0 = _
    rw [← pow_eq]; rfl
  have gB : hB.get 8 = some (.cells [.int .i64 100, .slice none 0 0 false, .int .i64 0, .int .i64 0, .bool false] 46 false false none) := rfl
  simp (maxSteps := 2000000) only [GO,GO2,evK,fillV,setR,binV,intOp,strOp,shOp,unV,getR,lenV,partV,V.nj,V.njL,V.cells,Nat.reduceLT,Nat.reduceEqDiff,Nat.reduceAdd,↓reduceIte,Nat.reduceLeDiff,reduceCtorEq,c0,r3_2]
  refine XC_of (live_ok tB) ?_
  rintro _ h1 ⟨rfl, rfl⟩
  simp (maxSteps := 2000000) only [GO,GO2,evK,fillV,setR,binV,intOp,strOp,shOp,unV,getR,lenV,partV,V.nj,V.njL,V.cells,Nat.reduceLT,Nat.reduceEqDiff,Nat.reduceAdd,↓reduceIte,Nat.reduceLeDiff,reduceCtorEq,Bool.not_true,r3_3]
  cases hn : isName s with
  | false =>
    refine XC_of (open7_no fns hlen hn) ?_
    rintro _ h2 ⟨rfl, k2⟩
    simp (maxSteps := 2000000) only [GO,GO2,evK,fillV,setR,binV,intOp,strOp,shOp,unV,getR,lenV,partV,V.nj,V.njL,V.cells,Nat.reduceLT,Nat.reduceEqDiff,Nat.reduceAdd,↓reduceIte,Nat.reduceLeDiff,reduceCtorEq,r3_4]
    refine XC_of (open8_no fns hlen hn) ?_
    rintro _ h3 ⟨rfl, rfl⟩
    simp (maxSteps := 2000000) only [GO,GO2,evK,fillV,setR,binV,intOp,strOp,shOp,unV,getR,lenV,partV,V.nj,V.njL,V.cells,Nat.reduceLT,Nat.reduceEqDiff,Nat.reduceAdd,↓reduceIte,Nat.reduceLeDiff,reduceCtorEq,r3_5]
    refine XC_of open7_nil ?_
    rintro _ h4 ⟨rfl, k4⟩
    have t4 := fns.tkeep _ _ (fns.tkeep _ _ tB k2) k4
    simp (maxSteps := 2000000) only [GO,GO2,evK,fillV,setR,binV,intOp,strOp,shOp,unV,getR,lenV,partV,V.nj,V.njL,V.cells,Nat.reduceLT,Nat.reduceEqDiff,Nat.reduceAdd,↓reduceIte,Nat.reduceLeDiff,reduceCtorEq,r3_6]
    refine XC_of (seg9 fns.toFnv t4 hlen fun a b => itoa_le a b) ?_
    rintro _ h5 ⟨rfl, k5⟩
    simp (maxSteps := 2000000) only [GO,GO2,evK,fillV,setR,binV,intOp,strOp,shOp,unV,getR,lenV,partV,V.nj,V.njL,V.cells,Nat.reduceLT,Nat.reduceEqDiff,Nat.reduceAdd,↓reduceIte,Nat.reduceLeDiff,reduceCtorEq]
    refine XC_of (seg10 fns.toFnv (fns.tkeep _ _ t4 k5) hlen fun a b => itoa_le a b) ?_
    rintro _ h6 ⟨rfl, rfl⟩
    simp (maxSteps := 2000000) only [GO,GO2,evK,fillV,setR,binV,intOp,strOp,shOp,unV,getR,lenV,partV,V.nj,V.njL,V.cells,Nat.reduceLT,Nat.reduceEqDiff,Nat.reduceAdd,↓reduceIte,Nat.reduceLeDiff,reduceCtorEq,eq_nn,eq_pn,eq_bb,beq_self_eq_true,c10]
  | true =>
    refine XC_of (open7_yes hlen hn) ?_
    rintro _ h2 ⟨⟨b, rfl⟩, k8, k0⟩
    simp (maxSteps := 2000000) only [GO,GO2,evK,fillV,setR,binV,intOp,strOp,shOp,unV,getR,lenV,partV,V.nj,V.njL,V.cells,Nat.reduceLT,Nat.reduceEqDiff,Nat.reduceAdd,↓reduceIte,Nat.reduceLeDiff,reduceCtorEq,r3_4]
    refine XC_of (open8_yes hlen hn (k8.trans gB)) ?_
    rintro _ h3 ⟨⟨c, rfl⟩, k3⟩
    simp (maxSteps := 2000000) only [GO,GO2,evK,fillV,setR,binV,intOp,strOp,shOp,unV,getR,lenV,partV,V.nj,V.njL,V.cells,Nat.reduceLT,Nat.reduceEqDiff,Nat.reduceAdd,↓reduceIte,Nat.reduceLeDiff,reduceCtorEq,r3_5]
    refine XC_of open7_nil ?_
    rintro _ h4 ⟨rfl, k4⟩
    have t4 := fns.tkeep _ _ (fns.tkeep _ _ (show T1 h2 from k0.trans tB) k3) k4
    simp (maxSteps := 2000000) only [GO,GO2,evK,fillV,setR,binV,intOp,strOp,shOp,unV,getR,lenV,partV,V.nj,V.njL,V.cells,Nat.reduceLT,Nat.reduceEqDiff,Nat.reduceAdd,↓reduceIte,Nat.reduceLeDiff,reduceCtorEq,r3_6]
    refine XC_of (seg9 fns.toFnv t4 hlen fun a b => itoa_le a b) ?_
    rintro _ h5 ⟨rfl, k5⟩
    simp (maxSteps := 2000000) only [GO,GO2,evK,fillV,setR,binV,intOp,strOp,shOp,unV,getR,lenV,partV,V.nj,V.njL,V.cells,Nat.reduceLT,Nat.reduceEqDiff,Nat.reduceAdd,↓reduceIte,Nat.reduceLeDiff,reduceCtorEq]
    refine XC_of (seg10 fns.toFnv (fns.tkeep _ _ t4 k5) hlen fun a b => itoa_le a b) ?_
    rintro _ h6 ⟨rfl, rfl⟩
    simp (maxSteps := 2000000) only [GO,GO2,evK,fillV,setR,binV,intOp,strOp,shOp,unV,getR,lenV,partV,V.nj,V.njL,V.cells,Nat.reduceLT,Nat.reduceEqDiff,Nat.reduceAdd,↓reduceIte,Nat.reduceLeDiff,reduceCtorEq,eq_nn,eq_pn,eq_bb,beq_self_eq_true]

end Go.Proofs.YtbdbikdeolanfaaGreatDoor.wal
