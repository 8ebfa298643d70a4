/- My own texts of the evaluator, its soundness and its symbolic runs, laid for this claim. -/
import Derived.Test.YtpijmjmbjoopaaaDoorScCode
set_option linter.unusedSimpArgs false
set_option linter.unusedVariables false
namespace Go.AM.Sc
open Go.AM
variable {P : Program} {E : Env} {T : H → Prop}
def BT (P : Program) : Prop := liesAt P P.depth 64 (2 / P.cellsOf 64) 0 64 1 = true
abbrev InI (n : Int) : Prop := -9223372036854775808 ≤ n ∧ n ≤ 9223372036854775807
structure Fns (P : Program) (E : Env) (T : H → Prop) : Prop where
  tkeep : ∀ h h',T h → Keeps h.size h h' → T h'
  num53 : ∀ n h,InI n → T h → Sp P E (.func 53 [] []) [.int .i64 n] h fun v h' => v = .str (Lib.itoa n) ∧ h' = h
  num54 : ∀ n h,InI n → T h → Sp P E (.func 54 [] []) [.int .i64 n,.int .i64 10] h fun v h' => v = .str (Lib.itoa n) ∧ h' = h
  f16 : E.fns 16 = some fn16
  p16 : E.prim 16 = none
  f17 : E.fns 17 = some fn17
  p17 : E.prim 17 = none
  f18 : E.fns 18 = some fn18
  p18 : E.prim 18 = none
  f19 : E.fns 19 = some fn19
  p19 : E.prim 19 = none
  f24 : E.fns 24 = some fn24
  p24 : E.prim 24 = none
  f25 : E.fns 25 = some fn25
  p25 : E.prim 25 = none
  f26 : E.fns 26 = some fn26
  p26 : E.prim 26 = none
  f44 : E.fns 44 = some fn44
  p44 : E.prim 44 = none
  f45 : E.fns 45 = some fn45
  p45 : E.prim 45 = none
  f27 : E.fns 27 = some fn27
  p27 : E.prim 27 = none
  f30 : E.fns 30 = some fn30
  p30 : E.prim 30 = none
  f31 : E.fns 31 = some fn31
  p31 : E.prim 31 = none
  f39 : E.fns 39 = some fn39
  p39 : E.prim 39 = none
  f41 : E.fns 41 = some fn41
  p41 : E.prim 41 = none
  f42 : E.fns 42 = some fn42
  p42 : E.prim 42 = none
  f9 : E.fns 9 = some fn9
  p9 : E.prim 9 = none
  f10 : E.fns 10 = some fn10
  p10 : E.prim 10 = none
  f12 : E.fns 12 = some fn12
  p12 : E.prim 12 = none
  f13 : E.fns 13 = some fn13
  p13 : E.prim 13 = none
  f6 : E.fns 6 = some fn6
  p6 : E.prim 6 = none
  f21 : E.fns 21 = some fn21
  p21 : E.prim 21 = none
  f28 : E.fns 28 = some fn28
  p28 : E.prim 28 = none
  f29 : E.fns 29 = some fn29
  p29 : E.prim 29 = none
  f32 : E.fns 32 = some fn32
  p32 : E.prim 32 = none
  f33 : E.fns 33 = some fn33
  p33 : E.prim 33 = none
  f34 : E.fns 34 = some fn34
  p34 : E.prim 34 = none
  f35 : E.fns 35 = some fn35
  p35 : E.prim 35 = none
  f43 : E.fns 43 = some fn43
  p43 : E.prim 43 = none
  f46 : E.fns 46 = some fn46
  p46 : E.prim 46 = none
  f47 : E.fns 47 = some fn47
  p47 : E.prim 47 = none
  f8 : E.fns 8 = some fn8
  p8 : E.prim 8 = none
  bt : BT P
  f20 : E.fns 20 = some fn20
  p20 : E.prim 20 = none
  f22 : E.fns 22 = some fn22
  p22 : E.prim 22 = none
  f38 : E.fns 38 = some fn38
  p38 : E.prim 38 = none
  f40 : E.fns 40 = some fn40
  p40 : E.prim 40 = none
  f51 : E.fns 51 = some fn51
  p51 : E.prim 51 = none
  f59 : E.fns 59 = some fn59
  p59 : E.prim 59 = none
theorem Bd.set {h : H} {b : Nat} {A v v' : V} {s : List UInt8} (hg : h.get b = some (.cells [A,v] 64 false false none)) (hA : A = .ptr none ∨ A = .ptr (some (b,0))) (hv : Buf h (b + 1) v' s) : Bd (h.set b (.cells [A,v'] 64 false false none)) b s := by
  have hbs := H.get_lt hg
  refine ⟨_,_,hset_same hbs _,hA,hv.other fun b' o ty r hb' => ?_⟩
  refine hset_other hbs (fun e => ?_) _
  subst e; rw [hg] at hb'; cases hb'
theorem putNil (h : H) (i o : Nat) : putCells h i o [] = some h := rfl
theorem copyCheck' (F : Fns P E T) {b : Nat} {v : V} {s : List UInt8} {h : H} (hb : Bdv h b v s) :
    Sp P E (.func 40 [] []) [.ptr (some (b,0))] h fun _ h' => (h'.get b = some (.cells [.ptr (some (b,0)),v] 64 false false none) ∧ Buf h' (b + 1) v s) ∧ Keeps b h h' ∧ Frz h h' := by
  obtain ⟨A,h1,h2,h3⟩ := hb
  have hbs := H.get_lt h1
  refine Sp_fn F.f40 F.p40 (by simp [fn40]) ?_
  rcases h2 with rfl | rfl
  · have hbt : liesAt P P.depth 64 (2 / P.cellsOf 64) 0 64 1 = true := F.bt
    simp (maxSteps := 2000000) only [GO,GO2,evK,fillV,setR,binV,intOp,strOp,shOp,unV,getR,lenV,partV,V.nj,V.njL,V.cells,Nat.reduceLT,Nat.reduceEqDiff,Nat.reduceAdd,↓reduceIte,Nat.reduceLeDiff,reduceCtorEq,fn40,c40,r40_0,r40_1,h1,eqV,hbt,Option.isNone_none,(put2 h1 (x := .ptr (some (b,0))) rfl).1]
    refine ⟨⟨hset_same hbs _,h3.other fun b' o ty r hb' => ?_⟩,Keeps.set hbs (Nat.le_refl _) _,Frz.set h1 _⟩
    refine hset_other hbs (fun e => ?_) _
    subst e; rw [h1] at hb'; cases hb'
  · simp (maxSteps := 2000000) only [GO,GO2,evK,fillV,setR,binV,intOp,strOp,shOp,unV,getR,lenV,partV,V.nj,V.njL,V.cells,Nat.reduceLT,Nat.reduceEqDiff,Nat.reduceAdd,↓reduceIte,Nat.reduceLeDiff,reduceCtorEq,fn40,c40,r40_0,r40_2,h1,eqV,ptrEq]
    exact ⟨h3,Keeps.refl _ _,Frz.refl _⟩
theorem copyCheck (F : Fns P E T) {b : Nat} {v : V} {s : List UInt8} {h : H} (hb : Bdv h b v s) :
    Sp P E (.func 40 [] []) [.ptr (some (b,0))] h fun _ h' => (h'.get b = some (.cells [.ptr (some (b,0)),v] 64 false false none) ∧ Buf h' (b + 1) v s) ∧ Keeps b h h' :=
  (copyCheck' F hb).mono fun _ _ ⟨x,y,_⟩ => ⟨x,y⟩
theorem writeStr' (F : Fns P E T) {b : Nat} {s y : List UInt8} {h : H} (hb : Bd h b s) (hl : s.length + y.length ≤ 549755813888) :
    Sp P E (.func 20 [] []) [.ptr (some (b,0)),.str y] h fun _ h' => Bd h' b (s ++ y) ∧ Keeps b h h' ∧ Frz h h' := by
  refine Sp_fn F.f20 F.p20 (by simp [fn20]) ?_
  obtain ⟨v,hb⟩ := hb
  simp (maxSteps := 2000000) only [GO,GO2,evK,fillV,setR,binV,intOp,strOp,shOp,unV,getR,lenV,partV,V.nj,V.njL,V.cells,Nat.reduceLT,Nat.reduceEqDiff,Nat.reduceAdd,↓reduceIte,Nat.reduceLeDiff,reduceCtorEq,fn20,c20,r20_0,r20_1]
  refine XC_of (copyCheck' F hb) ?_
  rintro _ h1 ⟨⟨g1,g2⟩,k1,z1⟩
  have hbs := H.get_lt g1
  obtain ⟨v',h2,e1,e2,e3,z2⟩ := buf_app (x := .str y) g2 (by omega) rfl (elemsV_str _ _) hl
  have g3 : h2.get b = some (.cells [.ptr (some (b,0)),v] 64 false false none) := by rw [e3.get b (by omega)]; exact g1
  obtain ⟨x,c,o,rfl⟩ := e2.shape
  simp (maxSteps := 2000000) only [GO,GO2,evK,fillV,setR,binV,intOp,strOp,shOp,unV,getR,lenV,partV,V.nj,V.njL,V.cells,Nat.reduceLT,Nat.reduceEqDiff,Nat.reduceAdd,↓reduceIte,Nat.reduceLeDiff,reduceCtorEq,r20_2,r20_3,g1,e1,(put2 g3 (x := .slice x (s ++ y).length c o) rfl).2]
  exact ⟨Bd.set g3 (.inr rfl) e2,(k1.trans (e3.mono (by omega))).trans (Keeps.set (H.get_lt g3) (Nat.le_refl _) _),(z1.trans z2).trans (Frz.set g3 _)⟩
theorem writeStr (F : Fns P E T) {b : Nat} {s y : List UInt8} {h : H} (hb : Bd h b s) (hl : s.length + y.length ≤ 549755813888) :
    Sp P E (.func 20 [] []) [.ptr (some (b,0)),.str y] h fun _ h' => Bd h' b (s ++ y) ∧ Keeps b h h' := (writeStr' F hb hl).mono fun _ _ ⟨x,y,_⟩ => ⟨x,y⟩
theorem writeByte' (F : Fns P E T) {b : Nat} {s : List UInt8} {y : UInt8} {h : H} (hb : Bd h b s) (hl : s.length + 1 ≤ 549755813888) :
    Sp P E (.func 38 [] []) [.ptr (some (b,0)),.int .u8 y.toNat] h fun _ h' => Bd h' b (s ++ [y]) ∧ Keeps b h h' ∧ Frz h h' := by
  refine Sp_fn F.f38 F.p38 (by simp [fn38]) ?_
  obtain ⟨v,hb⟩ := hb
  simp (maxSteps := 2000000) only [GO,GO2,evK,fillV,setR,binV,intOp,strOp,shOp,unV,getR,lenV,partV,V.nj,V.njL,V.cells,Nat.reduceLT,Nat.reduceEqDiff,Nat.reduceAdd,↓reduceIte,Nat.reduceLeDiff,reduceCtorEq,fn38,c38,r38_0,r38_1]
  refine XC_of (copyCheck' F hb) ?_
  rintro _ h1 ⟨⟨g1,g2⟩,k1,z1⟩
  have hbs := H.get_lt g1
  have k2 : Keeps (b + 1) h1 (h1.psh (.cells [.int .u8 y.toNat] 5 false false none)) := Keeps.psh (by omega) _
  have g2' := g2.keep (Keeps.psh (Nat.le_refl _) (.cells [.int .u8 y.toNat] 5 false false none)) (Nat.le_refl _)
  obtain ⟨v',h2,e1,e2,e3,z2⟩ := buf_app (x := .slice (some (h1.size,0)) 1 1 false) (y := [y]) g2' (by rw [psh_size]; omega) rfl (by simp [elemsV,psh_same,getR,bytes_one]) (by simpa using hl)
  have g3 : h2.get b = some (.cells [.ptr (some (b,0)),v] 64 false false none) := by rw [e3.get b (by omega),k2.get b (by omega)]; exact g1
  obtain ⟨x,c,o,rfl⟩ := e2.shape
  simp (maxSteps := 2000000) only [GO,GO2,evK,fillV,setR,binV,intOp,strOp,shOp,unV,getR,lenV,partV,V.nj,V.njL,V.cells,Nat.reduceLT,Nat.reduceEqDiff,Nat.reduceAdd,↓reduceIte,Nat.reduceLeDiff,reduceCtorEq,r38_0,r38_1,g1,e1,(put2 g3 (x := .slice x (s ++ [y]).length c o) rfl).2]
  exact ⟨Bd.set g3 (.inr rfl) e2,((k1.trans (k2.mono (by omega))).trans (e3.mono (by omega))).trans (Keeps.set (H.get_lt g3) (Nat.le_refl _) _),((z1.trans (Frz.kp (Keeps.psh (Nat.le_refl _) _))).trans z2).trans (Frz.set g3 _)⟩
theorem writeByte (F : Fns P E T) {b : Nat} {s : List UInt8} {y : UInt8} {h : H} (hb : Bd h b s) (hl : s.length + 1 ≤ 549755813888) :
    Sp P E (.func 38 [] []) [.ptr (some (b,0)),.int .u8 y.toNat] h fun _ h' => Bd h' b (s ++ [y]) ∧ Keeps b h h' := (writeByte' F hb hl).mono fun _ _ ⟨x,y,_⟩ => ⟨x,y⟩
theorem bdString (F : Fns P E T) {b : Nat} {s : List UInt8} {h : H} (hb : Bd h b s) (hl : s.length ≤ 549755813888) :
    Sp P E (.func 22 [] []) [.ptr (some (b,0))] h fun v h' => v = .str s ∧ Keeps b h h' := by
  obtain ⟨v,A,h1,h2,h3⟩ := hb
  refine Sp_fn F.f22 F.p22 (by simp [fn22]) ?_
  simp (maxSteps := 2000000) only [GO,GO2,evK,fillV,setR,binV,intOp,strOp,shOp,unV,getR,lenV,partV,V.nj,V.njL,V.cells,Nat.reduceLT,Nat.reduceEqDiff,Nat.reduceAdd,↓reduceIte,Nat.reduceLeDiff,reduceCtorEq,fn22,c22]
  rw [X_draw]
  refine d22_0 ?_
  rcases h3 with ⟨rfl,rfl⟩ | ⟨b',r,rfl,g1,g2⟩
  · have hz : ((0 : Nat) : Int) = 0 := rfl
    simp (maxSteps := 2000000) only [GO,GO2,evK,fillV,setR,binV,intOp,strOp,shOp,unV,getR,lenV,partV,V.nj,V.njL,V.cells,Nat.reduceLT,Nat.reduceEqDiff,Nat.reduceAdd,↓reduceIte,Nat.reduceLeDiff,reduceCtorEq,r22_0,h1,hz]
    exact Keeps.refl _ _
  · obtain ⟨m,hm⟩ : ∃ m,s.length + r.length = m + 1 := ⟨s.length + r.length - 1,by omega⟩
    rw [hm] at h1
    by_cases hs : s = []
    · subst hs
      have hz : ((0 : Nat) : Int) = 0 := rfl
      simp (maxSteps := 2000000) only [GO,GO2,evK,fillV,setR,binV,intOp,strOp,shOp,unV,getR,lenV,partV,V.nj,V.njL,V.cells,Nat.reduceLT,Nat.reduceEqDiff,Nat.reduceAdd,↓reduceIte,Nat.reduceLeDiff,reduceCtorEq,r22_0,h1,hz]
      exact Keeps.refl _ _
    · have hz : ¬ ((s.length : Nat) : Int) = 0 := by
        have : s.length ≠ 0 := fun h => hs (List.eq_nil_of_length_eq_zero h)
        omega
      have hz2 : ¬ (((s.length : Nat) : Int) < 0 ∨ ((s.length : Nat) : Int) > 1099511627776) := by omega
      have hz3 : ((s.length : Nat) : Int).toNat ≤ (bytes s ++ r).length := by simp only [Int.toNat_natCast,List.length_append,bytes_len]; omega
      have hz4 : List.take ((s.length : Nat) : Int).toNat (bytes s ++ r) = bytes s := by
        rw [Int.toNat_natCast,List.take_left' (bytes_len s)]
      simp (maxSteps := 2000000) only [GO,GO2,evK,fillV,setR,binV,intOp,strOp,shOp,unV,getR,lenV,partV,V.nj,V.njL,V.cells,Nat.reduceLT,Nat.reduceEqDiff,Nat.reduceAdd,↓reduceIte,Nat.reduceLeDiff,reduceCtorEq,r22_0,h1,hz,hz2,g2,hz3,hz4,bytesV_bytes,ne_eq,not_false_eq_true]
      exact Keeps.set (H.get_lt g2) (by omega) _
theorem copyMin (a : Nat) : Nat.min 0 a = 0 := Nat.zero_min a
theorem grow (F : Fns P E T) {b n : Nat} {h : H} (hb : Bdv h b (.slice none 0 0 false) []) (hn : 0 < n) (hl : n ≤ 549755813888) :
    Sp P E (.func 59 [] []) [.ptr (some (b,0)),.int .i64 n] h fun _ h' => Bd h' b [] ∧ Keeps b h h' := by
  obtain ⟨A,h1,h2,h3⟩ := hb
  have hbs := H.get_lt h1
  have hw1 : IntKind.i64.wrap (2 * ((0 : Nat) : Int)) = ((0 : Nat) : Int) := by decide
  have hw2 : IntKind.i64.wrap (((0 : Nat) : Int) + (n : Int)) = (n : Int) := by
    rw [show ((0 : Nat) : Int) + (n : Int) = ((n : Nat) : Int) by omega]; exact wrap_nat (by omega)
  have hc : 0 ≤ (n : Int) ∧ (n : Int) ≤ 1099511627776 := by omega
  have hps := psh_old h1 (.cells (List.replicate n V.junk) 5 true false none)
  have k2 : Keeps (b + 1) h (h.psh (.cells (List.replicate n V.junk) 5 true false none)) := Keeps.psh (by omega) _
  refine Sp_fn F.f59 F.p59 (by simp [fn59]) ?_
  simp (maxSteps := 2000000) only [GO,GO2,evK,fillV,setR,binV,intOp,strOp,shOp,unV,getR,lenV,partV,V.nj,V.njL,V.cells,Nat.reduceLT,Nat.reduceEqDiff,Nat.reduceAdd,↓reduceIte,Nat.reduceLeDiff,reduceCtorEq,fn59,c59]
  rw [X_draw]
  refine d59_0 ?_
  simp (maxSteps := 2000000) only [GO,GO2,evK,fillV,setR,binV,intOp,strOp,shOp,unV,getR,lenV,partV,V.nj,V.njL,V.cells,Nat.reduceLT,Nat.reduceEqDiff,Nat.reduceAdd,↓reduceIte,Nat.reduceLeDiff,reduceCtorEq,r59_0,h1,hw1,hw2,hc,Int.toNat_natCast]
  refine ⟨Keeps.psh (Nat.le_refl _) _,?_⟩
  have hb0 := bounds_hi (len := n) (cap := n) (k := .i64) (a := ((0 : Nat) : Int)) (by omega)
  have g3 : ((h.psh (.cells (List.replicate n V.junk) 5 true false none)).get b) = some (.cells [A,.slice none 0 0 false] 64 false false none) := hps
  simp (maxSteps := 2000000) only [GO,GO2,evK,fillV,setR,binV,intOp,strOp,shOp,unV,getR,lenV,partV,V.nj,V.njL,V.cells,Nat.reduceLT,Nat.reduceEqDiff,Nat.reduceAdd,↓reduceIte,Nat.reduceLeDiff,reduceCtorEq,hps,hb0,r59_1,r59_2,Nat.min_self,elemsV,putNil,Nat.zero_mul,Int.toNat_natCast,Nat.sub_zero,Option.isNone_none,Bool.and_true,copyMin,(put2 g3 (x := .slice (some (h.size,0)) 0 n true) rfl).2]
  exact ⟨Bd.set g3 h2 (.inr ⟨h.size,List.replicate n .junk,by simp,⟨by omega,by simp; omega⟩,psh_same _ _⟩),(k2.mono (by omega)).trans (Keeps.set (H.get_lt g3) (Nat.le_refl _) _)⟩
theorem growB (F : Fns P E T) {b n : Nat} {h : H} (hb : Bdv h b (.slice none 0 0 false) []) (hl : n ≤ 549755813888) :
    Sp P E (.func 51 [] []) [.ptr (some (b,0)),.int .i64 n] h fun _ h' => Bd h' b [] ∧ Keeps b h h' := by
  refine Sp_fn F.f51 F.p51 (by simp [fn51]) ?_
  simp (maxSteps := 2000000) only [GO,GO2,evK,fillV,setR,binV,intOp,strOp,shOp,unV,getR,lenV,partV,V.nj,V.njL,V.cells,Nat.reduceLT,Nat.reduceEqDiff,Nat.reduceAdd,↓reduceIte,Nat.reduceLeDiff,reduceCtorEq,fn51,c51,r51_0]
  refine XC_of (copyCheck F hb) ?_
  rintro _ h1 ⟨⟨g1,g2⟩,k1⟩
  have hn : ¬ ((n : Int) < 0) := by omega
  have hw : IntKind.i64.wrap (((0 : Nat) : Int) - ((0 : Nat) : Int)) = 0 := by decide
  simp (maxSteps := 2000000) only [GO,GO2,evK,fillV,setR,binV,intOp,strOp,shOp,unV,getR,lenV,partV,V.nj,V.njL,V.cells,Nat.reduceLT,Nat.reduceEqDiff,Nat.reduceAdd,↓reduceIte,Nat.reduceLeDiff,reduceCtorEq,r51_1,r51_2,hn]
  rw [X_draw,d51_3]
  simp (maxSteps := 2000000) only [GO,GO2,evK,fillV,setR,binV,intOp,strOp,shOp,unV,getR,lenV,partV,V.nj,V.njL,V.cells,Nat.reduceLT,Nat.reduceEqDiff,Nat.reduceAdd,↓reduceIte,Nat.reduceLeDiff,reduceCtorEq,r51_3,g1,hw]
  by_cases hz : 0 < n
  · have hz' : (0 : Int) < (n : Int) := by omega
    simp (maxSteps := 2000000) only [GO,GO2,evK,fillV,setR,binV,intOp,strOp,shOp,unV,getR,lenV,partV,V.nj,V.njL,V.cells,Nat.reduceLT,Nat.reduceEqDiff,Nat.reduceAdd,↓reduceIte,Nat.reduceLeDiff,reduceCtorEq,hz',r51_4]
    refine XC_of (grow F ⟨_,g1,.inr rfl,g2⟩ hz hl) ?_
    rintro _ h2 ⟨q1,q2⟩
    simp (maxSteps := 2000000) only [GO,GO2,evK,fillV,setR,binV,intOp,strOp,shOp,unV,getR,lenV,partV,V.nj,V.njL,V.cells,Nat.reduceLT,Nat.reduceEqDiff,Nat.reduceAdd,↓reduceIte,Nat.reduceLeDiff,reduceCtorEq]
    exact ⟨q1,k1.trans q2⟩
  · have hz' : ¬ (0 : Int) < (n : Int) := by omega
    simp (maxSteps := 2000000) only [GO,GO2,evK,fillV,setR,binV,intOp,strOp,shOp,unV,getR,lenV,partV,V.nj,V.njL,V.cells,Nat.reduceLT,Nat.reduceEqDiff,Nat.reduceAdd,↓reduceIte,Nat.reduceLeDiff,reduceCtorEq,hz']
    exact ⟨⟨_,_,g1,.inr rfl,g2⟩,k1⟩
end Go.AM.Sc
namespace Go.AM.Sc
open Go.AM
open Go.Lib (itoa)
variable {P : Program} {E : Env} {T : H → Prop}
theorem num41 (F : Fns P E T) {n : Int} {h : H} (hn : InI n) (ht : T h) : Sp P E (.func 41 [] []) [.int .i64 n] h fun v h' => v = .str (itoa n) ∧ h' = h := by
  refine Sp_fn F.f41 F.p41 (by simp [fn41]) ?_
  simp (maxSteps := 2000000) only [GO,GO2,evK,fillV,setR,binV,intOp,strOp,shOp,unV,getR,lenV,partV,V.nj,V.njL,V.cells,Nat.reduceLT,Nat.reduceEqDiff,Nat.reduceAdd,↓reduceIte,Nat.reduceLeDiff,reduceCtorEq,fn41,c41,r41_0]
  refine XC_of (F.num53 n h hn ht) ?_
  rintro _ h1 ⟨rfl,rfl⟩
  simp (maxSteps := 2000000) only [GO,GO2,evK,fillV,setR,binV,intOp,strOp,shOp,unV,getR,lenV,partV,V.nj,V.njL,V.cells,Nat.reduceLT,Nat.reduceEqDiff,Nat.reduceAdd,↓reduceIte,Nat.reduceLeDiff,reduceCtorEq]
theorem num42 (F : Fns P E T) {n : Int} {h : H} (hn : InI n) (ht : T h) : Sp P E (.func 42 [] []) [.int .i64 n,.int .i64 10] h fun v h' => v = .str (itoa n) ∧ h' = h := by
  refine Sp_fn F.f42 F.p42 (by simp [fn42]) ?_
  simp (maxSteps := 2000000) only [GO,GO2,evK,fillV,setR,binV,intOp,strOp,shOp,unV,getR,lenV,partV,V.nj,V.njL,V.cells,Nat.reduceLT,Nat.reduceEqDiff,Nat.reduceAdd,↓reduceIte,Nat.reduceLeDiff,reduceCtorEq,fn42,c42,r42_0]
  refine XC_of (F.num54 n h hn ht) ?_
  rintro _ h1 ⟨rfl,rfl⟩
  simp (maxSteps := 2000000) only [GO,GO2,evK,fillV,setR,binV,intOp,strOp,shOp,unV,getR,lenV,partV,V.nj,V.njL,V.cells,Nat.reduceLT,Nat.reduceEqDiff,Nat.reduceAdd,↓reduceIte,Nat.reduceLeDiff,reduceCtorEq]
theorem num27 (F : Fns P E T) {n : Int} {h : H} (hn : InI n) (ht : T h) : Sp P E (.func 27 [] []) [.int .i64 n] h fun v h' => v = .str (itoa n) ∧ h' = h := by
  refine Sp_fn F.f27 F.p27 (by simp [fn27]) ?_
  simp (maxSteps := 2000000) only [GO,GO2,evK,fillV,setR,binV,intOp,strOp,shOp,unV,getR,lenV,partV,V.nj,V.njL,V.cells,Nat.reduceLT,Nat.reduceEqDiff,Nat.reduceAdd,↓reduceIte,Nat.reduceLeDiff,reduceCtorEq,fn27,c27,r27_0]
  refine XC_of (num42 F hn ht) ?_
  rintro _ h1 ⟨rfl,rfl⟩
  simp (maxSteps := 2000000) only [GO,GO2,evK,fillV,setR,binV,intOp,strOp,shOp,unV,getR,lenV,partV,V.nj,V.njL,V.cells,Nat.reduceLT,Nat.reduceEqDiff,Nat.reduceAdd,↓reduceIte,Nat.reduceLeDiff,reduceCtorEq]
theorem num30 (F : Fns P E T) {n : Int} {h : H} (hn : InI n) (ht : T h) : Sp P E (.func 30 [] []) [.int .i64 n] h fun v h' => v = .str (itoa n) ∧ h' = h := by
  refine Sp_fn F.f30 F.p30 (by simp [fn30]) ?_
  simp (maxSteps := 2000000) only [GO,GO2,evK,fillV,setR,binV,intOp,strOp,shOp,unV,getR,lenV,partV,V.nj,V.njL,V.cells,Nat.reduceLT,Nat.reduceEqDiff,Nat.reduceAdd,↓reduceIte,Nat.reduceLeDiff,reduceCtorEq,fn30,c30,r30_0]
  refine XC_of (num42 F hn ht) ?_
  rintro _ h1 ⟨rfl,rfl⟩
  simp (maxSteps := 2000000) only [GO,GO2,evK,fillV,setR,binV,intOp,strOp,shOp,unV,getR,lenV,partV,V.nj,V.njL,V.cells,Nat.reduceLT,Nat.reduceEqDiff,Nat.reduceAdd,↓reduceIte,Nat.reduceLeDiff,reduceCtorEq]
def joinB : List (List UInt8) → List UInt8
  | [] => []
  | a :: r => a ++ (r.map (32 :: ·)).flatten
def tot (xs : List (List UInt8)) : Nat := (xs.map fun s => s.length + 1).sum
theorem tot_take (xs : List (List UInt8)) : ∀ k,tot (xs.take k) ≤ tot xs := by
  intro k
  have : tot xs = tot (xs.take k) + tot (xs.drop k) := by
    unfold tot
    rw [← List.sum_append,← List.map_append,List.take_append_drop]
  omega
theorem tot_succ {xs : List (List UInt8)} {k : Nat} (hk : k < xs.length) : tot (xs.take (k + 1)) = tot (xs.take k) + (xs[k].length + 1) := by
  unfold tot
  rw [List.take_succ_eq_append_getElem hk,List.map_append,List.sum_append]; simp
theorem wrap_le {n : Int} (h0 : -9223372036854775808 ≤ n) (h1 : n ≤ 9223372036854775807) : IntKind.i64.wrap n = n := by
  have : IntKind.i64.wrap n = (n + 9223372036854775808) % 18446744073709551616 - 9223372036854775808 := by
    simp [IntKind.wrap,IntKind.signed,IntKind.bits,IntKind.max]
    omega
  rw [this]; omega
theorem loopLen {xs : List (List UInt8)} {b ty : Nat} {c : Nat} (hlen : xs.length ≤ 4194304) (htot : tot xs ≤ 274877906944) (hc : c ≤ 4194304) (h : H) (hg : h.get b = some (.cells (xs.map .str) ty true false none)) (K : List Fr) (Q : Po) :
    ∀ (d k : Nat) (ρ : Nat → V),d = xs.length - k → k ≤ xs.length → ρ 39 = .slice (some (b,0)) xs.length xs.length true → ρ 40 = .int .i64 xs.length → ρ 41 = .int .i64 k →
      ρ 5 = .int .i64 (c + (tot (xs.take k) - k : Nat) : Nat) → (∀ (ρ' : Nat → V),ρ' 0 = ρ 0 → ρ' 1 = ρ 1 → ρ' 8 = ρ 8 → ρ' 5 = .int .i64 (c + (tot xs - xs.length : Nat) : Nat) → X P E none 75 K ρ' h Q) → XL P E none 75 b39_14 (.b 1 :: K) ρ h Q := by
  intro d
  induction d with
  | zero =>
    intro k ρ hd hk h39 h40 h41 h5 hQ
    have hke : ¬ k < xs.length := by omega
    have hkx : k = xs.length := by omega
    subst hkx
    rw [List.take_of_length_le (Nat.le_refl _)] at h5
    rw [u39_14]
    simp (maxSteps := 2000000) only [GO,GO2,evK,fillV,setR,binV,intOp,strOp,shOp,unV,getR,lenV,partV,V.nj,V.njL,V.cells,Nat.reduceLT,Nat.reduceEqDiff,Nat.reduceAdd,↓reduceIte,Nat.reduceLeDiff,reduceCtorEq,h40,h41,Int.ofNat_lt,hke]
    exact hQ _ rfl rfl rfl h5
  | succ d ih =>
    intro k ρ hd hk h39 h40 h41 h5 hQ
    have hke : k < xs.length := by omega
    have hge : (xs.map V.str)[k]? = some (.str xs[k]) := by simp [hke]
    have hw : IntKind.i64.wrap ((k : Int) + 1) = ((k + 1 : Nat) : Int) := wrap_nat (n := k + 1) (by omega)
    have t1 := tot_take xs (k + 1)
    rw [tot_succ hke] at t1
    have hbig : IntKind.i64.wrap (9223372036854775807 - ((c + (tot (xs.take k) - k : Nat) : Nat) : Int)) = 9223372036854775807 - ((c + (tot (xs.take k) - k : Nat) : Nat) : Int) := wrap_le (by omega) (by omega)
    have hno : ¬ (9223372036854775807 - ((c + (tot (xs.take k) - k : Nat) : Nat) : Int) < (xs[k].length : Int)) := by omega
    have htk : k ≤ tot (xs.take k) := by
      have : ∀ (l : List (List UInt8)),l.length ≤ tot l := fun l => by
        induction l with
        | nil => simp [tot]
        | cons a r ih => simp [tot] at ih ⊢; omega
      have := this (xs.take k)
      rw [List.length_take] at this; omega
    have hsum : IntKind.i64.wrap (((c + (tot (xs.take k) - k : Nat) : Nat) : Int) + (xs[k].length : Int)) = ((c + (tot (xs.take (k + 1)) - (k + 1) : Nat) : Nat) : Int) := by
      rw [tot_succ hke,wrap_le (by omega) (by omega)]; omega
    rw [u39_14]
    simp (maxSteps := 2000000) only [GO,GO2,evK,fillV,setR,binV,intOp,strOp,shOp,unV,getR,lenV,partV,V.nj,V.njL,V.cells,Nat.reduceLT,Nat.reduceEqDiff,Nat.reduceAdd,↓reduceIte,Nat.reduceLeDiff,reduceCtorEq,r39_9,r39_10,r39_12,r39_13,h39,h40,h41,h5,hg,hge,Int.ofNat_lt,hke,Int.natCast_nonneg,Int.toNat_natCast,Nat.mul_one,hbig,hno,hsum,hw]
    exact ih (k + 1) _ (by omega) (by omega) h39 h40 rfl rfl fun ρ' q0 q1 q8 q5 => hQ ρ' q0 q1 q8 q5
theorem joinB_snoc (l : List (List UInt8)) (a : List UInt8) (hl : l ≠ []) : joinB (l ++ [a]) = joinB l ++ ([32] ++ a) := by
  cases l with
  | nil => exact absurd rfl hl
  | cons x r => simp [joinB]
theorem joinB_len : ∀ (l : List (List UInt8)),(joinB l).length ≤ tot l
  | [] => by simp [joinB,tot]
  | a :: r => by
    have : ∀ (r : List (List UInt8)),((r.map (32 :: ·)).flatten).length = tot r := fun r => by
      induction r with
      | nil => simp [tot]
      | cons x r ih => simp [tot] at ih ⊢; omega
    simp only [joinB,List.length_append,this]
    simp [tot]
theorem loopJoin (F : Fns P E T) {xs : List (List UInt8)} {b ty B : Nat} (hlen : xs.length ≤ 4194304) (htot : tot xs ≤ 274877906944) {h0 : H} (hg0 : h0.get b = some (.cells (xs.map .str) ty true false none)) (hB : h0.size ≤ B) (K : List Fr) (Q : Po)
    (hQ : ∀ (ρ' : Nat → V) h',ρ' 8 = .ptr (some (B,0)) → Bd h' B (joinB xs) → Kp h0 h' → X P E none 75 K ρ' h' Q) :
    ∀ (d k : Nat) (ρ : Nat → V) (h : H),d = xs.length - 1 - k → k + 1 ≤ xs.length → ρ 1 = .str [32] → ρ 8 = .ptr (some (B,0)) → ρ 63 = .slice (some (b,1)) (xs.length - 1) (xs.length - 1) true → ρ 64 = .int .i64 (xs.length - 1 : Nat) → ρ 65 = .int .i64 k →
      Bd h B (joinB (xs.take (k + 1))) → Kp h0 h → XL P E none 75 b39_22 (.b 3 :: K) ρ h Q := by
  intro d
  induction d with
  | zero =>
    intro k ρ h hd hk h1 h8 h63 h64 h65 hbd hkp
    have hke : ¬ k < xs.length - 1 := by omega
    rw [List.take_of_length_le (by omega)] at hbd
    rw [u39_22]
    simp (maxSteps := 2000000) only [GO,GO2,evK,fillV,setR,binV,intOp,strOp,shOp,unV,getR,lenV,partV,V.nj,V.njL,V.cells,Nat.reduceLT,Nat.reduceEqDiff,Nat.reduceAdd,↓reduceIte,Nat.reduceLeDiff,reduceCtorEq,h64,h65,Int.ofNat_lt,hke]
    exact hQ _ _ h8 hbd hkp
  | succ d ih =>
    intro k ρ h hd hk h1 h8 h63 h64 h65 hbd hkp
    have hke : k < xs.length - 1 := by omega
    have hk1 : k + 1 < xs.length := by omega
    have hge : (xs.map V.str)[1 + k]? = some (.str xs[k + 1]) := by rw [Nat.add_comm 1 k]; simp [hk1]
    have hw : IntKind.i64.wrap ((k : Int) + 1) = ((k + 1 : Nat) : Int) := wrap_nat (n := k + 1) (by omega)
    have hg := hkp.of hg0
    have t1 := tot_take xs (k + 2)
    rw [tot_succ hk1] at t1
    have t2 := joinB_len (xs.take (k + 1))
    rw [u39_22]
    simp (maxSteps := 2000000) only [GO,GO2,evK,fillV,setR,binV,intOp,strOp,shOp,unV,getR,lenV,partV,V.nj,V.njL,V.cells,Nat.reduceLT,Nat.reduceEqDiff,Nat.reduceAdd,↓reduceIte,Nat.reduceLeDiff,reduceCtorEq,r39_18,r39_19,h63,h64,h65,h8,h1,hg,hge,Int.ofNat_lt,hke,Int.natCast_nonneg,Int.toNat_natCast,Nat.mul_one]
    refine XC_of (writeStr F hbd (y := [32]) (by simp only [List.length_cons,List.length_nil]; omega)) ?_
    rintro _ h' ⟨b1,k1⟩
    simp (maxSteps := 2000000) only [GO,GO2,evK,fillV,setR,binV,intOp,strOp,shOp,unV,getR,lenV,partV,V.nj,V.njL,V.cells,Nat.reduceLT,Nat.reduceEqDiff,Nat.reduceAdd,↓reduceIte,Nat.reduceLeDiff,reduceCtorEq,r39_20,h8]
    refine XC_of (writeStr F b1 (y := xs[k + 1]) (by simp only [List.length_append,List.length_cons,List.length_nil]; omega)) ?_
    rintro _ h'' ⟨b2,k2⟩
    simp (maxSteps := 2000000) only [GO,GO2,evK,fillV,setR,binV,intOp,strOp,shOp,unV,getR,lenV,partV,V.nj,V.njL,V.cells,Nat.reduceLT,Nat.reduceEqDiff,Nat.reduceAdd,↓reduceIte,Nat.reduceLeDiff,reduceCtorEq,r39_21,h65,hw]
    have hne : xs.take (k + 1) ≠ [] := fun h => by
      have := congrArg List.length h
      rw [List.length_take] at this
      simp only [List.length_nil] at this
      omega
    refine ih (k + 1) _ _ (by omega) (by omega) h1 h8 h63 h64 rfl ?_ (Keeps.trans (n := h0.size) (Keeps.trans (n := h0.size) hkp (k1.mono hB)) (k2.mono hB))
    rw [List.take_succ_eq_append_getElem hk1,joinB_snoc _ _ hne,← List.append_assoc]
    exact b2
theorem wrap_quo {k : Nat} (h1 : 1 ≤ k) (h2 : k ≤ 4194304) : ¬ ((1 : Int) ≥ IntKind.i64.wrap ((9223372036854775807 : Int).tdiv (k : Int))) := by
  have e : (9223372036854775807 : Int).tdiv (k : Int) = ((9223372036854775807 / k : Nat) : Int) := rfl
  have b1 : 9223372036854775807 / k ≤ 9223372036854775807 := Nat.div_le_self _ _
  have b2 : 2 ≤ 9223372036854775807 / k := (Nat.le_div_iff_mul_le (by omega)).2 (by omega)
  rw [e,wrap_le (by omega) (by omega)]
  omega
theorem join (F : Fns P E T) {xs : List (List UInt8)} {b ty : Nat} (hne : xs ≠ []) (hlen : xs.length ≤ 4194304) (htot : tot xs ≤ 274877906944) {h : H} (hg : h.get b = some (.cells (xs.map .str) ty true false none)) :
    Sp P E (.func 39 [] []) [.slice (some (b,0)) xs.length xs.length true,.str [32]] h fun v h' => v = .str (joinB xs) ∧ Kp h h' := by
  have h0 : 0 < xs.length := List.length_pos_iff.2 hne
  have z0 : ((xs.length : Int) == 0) = false := beq_eq_false_iff_ne.2 (by omega)
  have hge : (xs.map V.str)[0]? = some (.str xs[0]) := by simp [h0]
  refine Sp_fn F.f39 F.p39 (by simp [fn39]) ?_
  simp (maxSteps := 2000000) only [GO,GO2,evK,fillV,setR,binV,intOp,strOp,shOp,unV,getR,lenV,partV,V.nj,V.njL,V.cells,Nat.reduceLT,Nat.reduceEqDiff,Nat.reduceAdd,↓reduceIte,Nat.reduceLeDiff,reduceCtorEq,fn39,c39,r39_0,r39_1]
  by_cases hone : xs.length = 1
  · obtain ⟨a,rfl⟩ := List.length_eq_one_iff.1 hone
    have e1 : ((1 : Nat) : Int) = 1 := rfl
    have e2 : ((0 : Int)).toNat = 0 := rfl
    have e3 : ((1 : Int) == 0) = false := rfl
    have hg' : h.get b = some (.cells [.str a] ty true false none) := hg
    simp (maxSteps := 2000000) only [GO,GO2,evK,fillV,setR,binV,intOp,strOp,shOp,unV,getR,lenV,partV,V.nj,V.njL,V.cells,Nat.reduceLT,Nat.reduceEqDiff,Nat.reduceAdd,↓reduceIte,Nat.reduceLeDiff,reduceCtorEq,r39_2,r39_3,e1,e2,e3,hg',Int.reduceLT,Int.reduceLE,Nat.zero_mul]
    exact ⟨by simp [joinB],Keeps.refl _ _⟩
  · have z1 : ((xs.length : Int) == 1) = false := beq_eq_false_iff_ne.2 (by omega)
    have hsub : IntKind.i64.wrap ((xs.length : Int) - 1) = ((xs.length - 1 : Nat) : Int) := by rw [wrap_le (by omega) (by omega)]; omega
    have hq := wrap_quo (k := xs.length - 1) (by omega) (by omega)
    have hq0 : ¬ ((xs.length - 1 : Nat) : Int) = 0 := by omega
    have hm : IntKind.i64.wrap (1 * ((xs.length - 1 : Nat) : Int)) = ((xs.length - 1 : Nat) : Int) := by rw [wrap_le (by omega) (by omega)]; omega
    have ha : IntKind.i64.wrap (0 + ((xs.length - 1 : Nat) : Int)) = ((xs.length - 1 : Nat) : Int) := by rw [wrap_le (by omega) (by omega)]; omega
    have e1 : ((1 : Nat) : Int) = 1 := rfl
    have hT := joinB_len xs
    have htx : tot xs - xs.length + xs.length = tot xs := by
      have : ∀ (l : List (List UInt8)),l.length ≤ tot l := fun l => by
        induction l with
        | nil => simp [tot]
        | cons a r ih => simp [tot] at ih ⊢; omega
      have := this xs
      omega
    have hg' := psh_old hg (.cells [.ptr none,.slice none 0 0 false] 64 false false none)
    have hk0 : Keeps h.size h (h.psh (.cells [.ptr none,.slice none 0 0 false] 64 false false none)) := Keeps.psh (Nat.le_refl _) _
    simp (maxSteps := 2000000) only [GO,GO2,evK,fillV,setR,binV,intOp,strOp,shOp,unV,getR,lenV,partV,V.nj,V.njL,V.cells,Nat.reduceLT,Nat.reduceEqDiff,Nat.reduceAdd,↓reduceIte,Nat.reduceLeDiff,reduceCtorEq,r39_2,r39_4,r39_5,r39_7,r39_8,z0,z1,hsub,hq0,hq,hm,ha,e1,gt_iff_lt,Int.reduceLT]
    refine loopLen (c := xs.length - 1) hlen htot (by omega) h hg _ _ xs.length 0 _ (by omega) (by omega) rfl rfl rfl (by simp [tot,upo,up]) fun ρ' q0 q1 q8 q5 => ?_
    have q0' : ρ' 0 = .slice (some (b,0)) xs.length xs.length true := q0
    have q1' : ρ' 1 = .str [32] := q1
    simp (maxSteps := 2000000) only [GO,GO2,evK,fillV,setR,binV,intOp,strOp,shOp,unV,getR,lenV,partV,V.nj,V.njL,V.cells,Nat.reduceLT,Nat.reduceEqDiff,Nat.reduceAdd,↓reduceIte,Nat.reduceLeDiff,reduceCtorEq,r39_15,q5]
    refine XC_of (growB F (Bdv.new h) (by omega)) ?_
    rintro _ h1 ⟨b1,k1⟩
    have hk1 := hk0.trans k1
    have e4 : (0 : Int).toNat = 0 := rfl
    have hz : (0 : Int) < ((xs.length : Nat) : Int) := by omega
    have hg1 := Kp.of hk1 hg
    simp (maxSteps := 2000000) only [GO,GO2,evK,fillV,setR,binV,intOp,strOp,shOp,unV,getR,lenV,partV,V.nj,V.njL,V.cells,Nat.reduceLT,Nat.reduceEqDiff,Nat.reduceAdd,↓reduceIte,Nat.reduceLeDiff,reduceCtorEq,r39_16,q0',q1',e4,hz,Int.reduceLE,hg1,Nat.zero_mul,hge]
    refine XC_of (writeStr F b1 (y := xs[0]) (by
      have t1 := tot_take xs 1
      rw [tot_succ h0] at t1
      simp only [List.length_nil]; omega)) ?_
    rintro _ h2 ⟨b2,k2⟩
    have hk2 := hk1.trans k2
    have hlo := bounds_lo (len := xs.length) (cap := xs.length) (k := .i64) (a := 1) (by omega)
    have e5 : (1 : Int).toNat = 1 := rfl
    simp (maxSteps := 2000000) only [GO,GO2,evK,fillV,setR,binV,intOp,strOp,shOp,unV,getR,lenV,partV,V.nj,V.njL,V.cells,Nat.reduceLT,Nat.reduceEqDiff,Nat.reduceAdd,↓reduceIte,Nat.reduceLeDiff,reduceCtorEq,r39_17,q0',hlo,e5,Nat.mul_one,Option.isNone_none,Bool.and_true]
    refine loopJoin F (b := b) (ty := ty) (B := h.size) hlen htot (h0 := h) hg (Nat.le_refl _) _ _ (fun ρ'' h3 w8 bd3 hk3 => ?_) (xs.length - 1) 0 _ h2 (by omega) (by omega) q1' rfl rfl rfl rfl ?_ hk2
    · simp (maxSteps := 2000000) only [GO,GO2,evK,fillV,setR,binV,intOp,strOp,shOp,unV,getR,lenV,partV,V.nj,V.njL,V.cells,Nat.reduceLT,Nat.reduceEqDiff,Nat.reduceAdd,↓reduceIte,Nat.reduceLeDiff,reduceCtorEq,r39_23,w8]
      refine XC_of (bdString F bd3 (by omega)) ?_
      rintro _ h4 ⟨rfl,k4⟩
      simp (maxSteps := 2000000) only [GO,GO2,evK,fillV,setR,binV,intOp,strOp,shOp,unV,getR,lenV,partV,V.nj,V.njL,V.cells,Nat.reduceLT,Nat.reduceEqDiff,Nat.reduceAdd,↓reduceIte,Nat.reduceLeDiff,reduceCtorEq]
      exact Keeps.trans hk3 k4
    · rw [List.take_succ_eq_append_getElem h0]
      simpa [joinB] using b2
end Go.AM.Sc
namespace Go.AM.Sc
open Go.AM
open Go.Lib (itoa)
variable {P : Program} {E : Env} {T : H → Prop}
def itoas (xs : List Int) : List (List UInt8) := xs.map itoa
theorem itoas_tot : ∀ {xs : List Int},(∀ n ∈ xs,InI n) → tot (itoas xs) ≤ xs.length * 22
  | [],_ => by simp [itoas,tot]
  | n :: xs,h => by
    have ih := itoas_tot (xs := xs) fun m hm => h m (List.mem_cons_of_mem _ hm)
    have := Lib.itoa_length_le n (h n List.mem_cons_self).1 (h n List.mem_cons_self).2
    simp only [itoas,tot,List.map_cons,List.sum_cons,List.length_cons] at ih ⊢
    omega
theorem acc_flat (xs : List (List UInt8)) : (xs.map fun s => [V.str s]).flatten = xs.map .str := by
  induction xs with
  | nil => rfl
  | cons a r ih => simp [ih]
theorem join_nil (F : Fns P E T) {h : H} : Sp P E (.func 39 [] []) [.slice none 0 0 false,.str [32]] h fun v h' => v = .str [] ∧ h' = h := by
  have e1 : ((0 : Nat) : Int) = 0 := rfl
  refine Sp_fn F.f39 F.p39 (by simp [fn39]) ?_
  simp (maxSteps := 2000000) only [GO,GO2,evK,fillV,setR,binV,intOp,strOp,shOp,unV,getR,lenV,partV,V.nj,V.njL,V.cells,Nat.reduceLT,Nat.reduceEqDiff,Nat.reduceAdd,↓reduceIte,Nat.reduceLeDiff,reduceCtorEq,fn39,c39,r39_0,r39_1,e1]
theorem joinA (F : Fns P E T) {h : H} {lo ty : Nat} {v : V} {xs : List (List UInt8)} (ha : Acc h lo ty 1 v (xs.map fun s => [V.str s])) (hlen : xs.length ≤ 4194304) (htot : tot xs ≤ 274877906944) :
    Sp P E (.func 39 [] []) [v,.str [32]] h fun v h' => v = .str (joinB xs) ∧ Kp h h' := by
  rcases ha.shape with ⟨h1,rfl⟩ | ⟨b,rfl,h2,h3⟩
  · have : xs = [] := by simpa using h1
    subst this
    exact (join_nil F).mono fun v h' ⟨e1,e2⟩ => ⟨e1,by rw [e2]; exact Keeps.refl _ _⟩
  · rw [acc_flat] at h3
    rw [List.length_map]
    by_cases hne : xs = []
    · subst hne
      have e1 : ((0 : Nat) : Int) = 0 := rfl
      refine Sp_fn F.f39 F.p39 (by simp [fn39]) ?_
      simp (maxSteps := 2000000) only [GO,GO2,evK,fillV,setR,binV,intOp,strOp,shOp,unV,getR,lenV,partV,V.nj,V.njL,V.cells,Nat.reduceLT,Nat.reduceEqDiff,Nat.reduceAdd,↓reduceIte,Nat.reduceLeDiff,reduceCtorEq,fn39,c39,r39_0,r39_1,e1]
      exact ⟨rfl,Keeps.refl _ _⟩
    · exact join F hne hlen htot h3
theorem loop24 (F : Fns P E T) {xs : List Int} (hlen : xs.length ≤ 4194304) (hin : ∀ n ∈ xs,InI n) {h0 : H} (ht : T h0) (vx : V) (hs : Sl h0 1 vx (xs.map fun n => [.int .i64 n])) (K : List Fr) (Q : Po)
    (hQ : ∀ (ρ' : Nat → V) h',Acc h' h0.size 9 1 (ρ' 3) ((itoas xs).map fun s => [V.str s]) → Kp h0 h' → X P E none 20 K ρ' h' Q) :
    ∀ (d k : Nat) (ρ : Nat → V) (h : H),d = xs.length - k → k ≤ xs.length → ρ 6 = vx → ρ 7 = .int .i64 xs.length → ρ 8 = .int .i64 k → Acc h h0.size 9 1 (ρ 3) ((itoas (xs.take k)).map fun s => [V.str s]) → Kp h0 h →
      XL P E none 20 b24_4 (.b 0 :: K) ρ h Q := by
  intro d
  induction d with
  | zero =>
    intro k ρ h hd hk h6 h7 h8 ha hkp
    have hke : ¬ k < xs.length := by omega
    rw [List.take_of_length_le (by omega)] at ha
    rw [u24_4]
    simp (maxSteps := 2000000) only [GO,GO2,evK,fillV,setR,binV,intOp,strOp,shOp,unV,getR,lenV,partV,V.nj,V.njL,V.cells,Nat.reduceLT,Nat.reduceEqDiff,Nat.reduceAdd,↓reduceIte,Nat.reduceLeDiff,reduceCtorEq,h7,h8,Int.ofNat_lt,hke]
    exact hQ _ _ ha hkp
  | succ d ih =>
    intro k ρ h hd hk h6 h7 h8 ha hkp
    have hke : k < xs.length := by omega
    obtain ⟨b,o,cap,opn,vs,ty,op,ro,fz,e6,hg,hl,he⟩ := (hs.keep hkp).get (k := k) (x := [.int .i64 xs[k]]) (by simp [hke])
    have he := getR_one he
    have hw : IntKind.i64.wrap ((k : Int) + 1) = ((k + 1 : Nat) : Int) := wrap_nat (n := k + 1) (by omega)
    rw [e6,List.length_map] at h6
    rw [u24_4]
    simp (maxSteps := 2000000) only [GO,GO2,evK,fillV,setR,binV,intOp,strOp,shOp,unV,getR,lenV,partV,V.nj,V.njL,V.cells,Nat.reduceLT,Nat.reduceEqDiff,Nat.reduceAdd,↓reduceIte,Nat.reduceLeDiff,reduceCtorEq,r24_1,r24_2,h6,h7,h8,hg,Int.ofNat_lt,hke,Int.natCast_nonneg,Int.toNat_natCast,he]
    refine XC_of (num41 F (hin _ (List.getElem_mem hke)) (F.tkeep _ _ ht hkp)) ?_
    rintro _ h1 ⟨rfl,rfl⟩
    have k2 : Kp h1 (h1.psh (.cells [.str (itoa xs[k])] 9 false false none)) := Keeps.psh (Nat.le_refl _) _
    have k3 : Kp h0 (h1.psh (.cells [.str (itoa xs[k])] 9 false false none)) := hkp.trans k2
    obtain ⟨v',h',e1,e2,e3⟩ := app_acc (x := .slice (some (h1.size,0)) 1 1 false) (ys := [[.str (itoa xs[k])]]) (bytes := 16) (ha.keep k2) k3.size rfl (by simp [elemsV,psh_same,getR]) (by simp [V.one]) (by simp [itoas]; omega)
    simp (maxSteps := 2000000) only [GO,GO2,evK,fillV,setR,binV,intOp,strOp,shOp,unV,getR,lenV,partV,V.nj,V.njL,V.cells,Nat.reduceLT,Nat.reduceEqDiff,Nat.reduceAdd,↓reduceIte,Nat.reduceLeDiff,reduceCtorEq,r24_3,h6,h7,h8,hw,e1]
    refine ih (k + 1) _ h' (by omega) (by omega) (by rw [e6,List.length_map]; exact h6) h7 rfl ?_ (Keeps.trans (n := h0.size) k3 e3)
    rw [List.take_succ_eq_append_getElem hke]
    simp only [itoas,List.map_append,List.map_cons,List.map_nil] at e2 ⊢
    exact e2
theorem nums (F : Fns P E T) {xs : List Int} (hlen : xs.length ≤ 4194304) (hin : ∀ n ∈ xs,InI n) {h : H} (ht : T h) {vx : V} (hs : Sl h 1 vx (xs.map fun n => [.int .i64 n])) :
    Sp P E (.func 24 [] []) [vx] h fun v h' => v = .str (joinB (itoas xs)) ∧ Kp h h' := by
  obtain ⟨a,cap,opn,rfl⟩ := hs.len
  rw [List.length_map] at hs ⊢
  have ht1 := itoas_tot hin
  refine Sp_fn F.f24 F.p24 (by simp [fn24]) ?_
  simp (maxSteps := 2000000) only [GO,GO2,evK,fillV,setR,binV,intOp,strOp,shOp,unV,getR,lenV,partV,V.nj,V.njL,V.cells,Nat.reduceLT,Nat.reduceEqDiff,Nat.reduceAdd,↓reduceIte,Nat.reduceLeDiff,reduceCtorEq,fn24,c24,r24_0]
  refine loop24 F hlen hin ht _ hs _ _ (fun ρ' h' ha hk => ?_) xs.length 0 _ h (by omega) (by omega) rfl rfl rfl (Acc.nil _ _ _ _) (Keeps.refl _ _)
  simp (maxSteps := 2000000) only [GO,GO2,evK,fillV,setR,binV,intOp,strOp,shOp,unV,getR,lenV,partV,V.nj,V.njL,V.cells,Nat.reduceLT,Nat.reduceEqDiff,Nat.reduceAdd,↓reduceIte,Nat.reduceLeDiff,reduceCtorEq,r24_5]
  refine XC_of (joinA F ha (by simpa [itoas] using hlen) (by omega)) ?_
  rintro _ h2 ⟨rfl,k2⟩
  simp (maxSteps := 2000000) only [GO,GO2,evK,fillV,setR,binV,intOp,strOp,shOp,unV,getR,lenV,partV,V.nj,V.njL,V.cells,Nat.reduceLT,Nat.reduceEqDiff,Nat.reduceAdd,↓reduceIte,Nat.reduceLeDiff,reduceCtorEq]
  exact hk.trans k2
theorem loop18 (F : Fns P E T) {xs : List Int} (hlen : xs.length = 8) (hin : ∀ n ∈ xs,InI n) {h0 : H} (ht : T h0) (K : List Fr) (Q : Po)
    (hQ : ∀ (ρ' : Nat → V) h',Acc h' h0.size 9 1 (ρ' 3) ((itoas xs).map fun s => [V.str s]) → Kp h0 h' → X P E none 18 K ρ' h' Q) :
    ∀ (d k : Nat) (ρ : Nat → V) (h : H),d = xs.length - k → k ≤ xs.length → ρ 6 = .agg (xs.map (.int .i64 ·)) → ρ 7 = .int .i64 k → Acc h h0.size 9 1 (ρ 3) ((itoas (xs.take k)).map fun s => [V.str s]) → Kp h0 h →
      XL P E none 18 b18_5 (.b 0 :: K) ρ h Q := by
  intro d
  induction d with
  | zero =>
    intro k ρ h hd hk h6 h7 ha hkp
    have hke : ¬ (k : Int) < 8 := by omega
    rw [List.take_of_length_le (by omega)] at ha
    rw [u18_5]
    simp (maxSteps := 2000000) only [GO,GO2,evK,fillV,setR,binV,intOp,strOp,shOp,unV,getR,lenV,partV,V.nj,V.njL,V.cells,Nat.reduceLT,Nat.reduceEqDiff,Nat.reduceAdd,↓reduceIte,Nat.reduceLeDiff,reduceCtorEq,h7,hke]
    exact hQ _ _ ha hkp
  | succ d ih =>
    intro k ρ h hd hk h6 h7 ha hkp
    have hke : k < xs.length := by omega
    have hke8 : (k : Int) < 8 := by omega
    have hget : (xs.map fun n => V.int .i64 n)[k]? = some (.int .i64 xs[k]) := by simp [hke]
    have hw : IntKind.i64.wrap ((k : Int) + 1) = ((k + 1 : Nat) : Int) := wrap_nat (n := k + 1) (by omega)
    rw [u18_5]
    have hke8' : (k : Int) < ((8 : Nat) : Int) := by omega
    simp (maxSteps := 2000000) only [GO,GO2,evK,fillV,setR,binV,intOp,strOp,shOp,unV,getR,lenV,partV,V.nj,V.njL,V.cells,Nat.reduceLT,Nat.reduceEqDiff,Nat.reduceAdd,↓reduceIte,Nat.reduceLeDiff,reduceCtorEq,r18_2,r18_3,h6,h7,hke8,hke8',Int.natCast_nonneg,Int.toNat_natCast,hget,Nat.mul_one]
    refine XC_of (num27 F (hin _ (List.getElem_mem hke)) (F.tkeep _ _ ht hkp)) ?_
    rintro _ h1 ⟨rfl,rfl⟩
    have k2 : Kp h1 (h1.psh (.cells [.str (itoa xs[k])] 9 false false none)) := Keeps.psh (Nat.le_refl _) _
    have k3 : Kp h0 (h1.psh (.cells [.str (itoa xs[k])] 9 false false none)) := hkp.trans k2
    obtain ⟨v',h',e1,e2,e3⟩ := app_acc (x := .slice (some (h1.size,0)) 1 1 false) (ys := [[.str (itoa xs[k])]]) (bytes := 16) (ha.keep k2) k3.size rfl (by simp [elemsV,psh_same,getR]) (by simp [V.one]) (by simp [itoas]; omega)
    simp (maxSteps := 2000000) only [GO,GO2,evK,fillV,setR,binV,intOp,strOp,shOp,unV,getR,lenV,partV,V.nj,V.njL,V.cells,Nat.reduceLT,Nat.reduceEqDiff,Nat.reduceAdd,↓reduceIte,Nat.reduceLeDiff,reduceCtorEq,r18_4,h6,h7,hw,e1]
    refine ih (k + 1) _ h' (by omega) (by omega) h6 rfl ?_ (Keeps.trans (n := h0.size) k3 e3)
    rw [List.take_succ_eq_append_getElem hke]
    simp only [itoas,List.map_append,List.map_cons,List.map_nil] at e2 ⊢
    exact e2
theorem vector18 (F : Fns P E T) {xs : List Int} (hlen : xs.length = 8) (hin : ∀ n ∈ xs,InI n) {h : H} (ht : T h) :
    Sp P E (.func 18 [] []) [.agg (xs.map fun n => .int .i64 n)] h fun v h' => v = .str (joinB (itoas xs)) ∧ Kp h h' := by
  have ht1 := itoas_tot hin
  have hk0 : Keeps h.size h (h.psh (.cells (xs.map fun n => .int .i64 n) 43 false false none)) := Keeps.psh (Nat.le_refl _) _
  have hl8 : 8 ≤ (xs.map fun n => V.int .i64 n).length := by simp [hlen]
  have hg8 : List.take 8 (xs.map fun n => V.int .i64 n) = xs.map fun n => V.int .i64 n := List.take_of_length_le (by simp [hlen])
  refine Sp_fn F.f18 F.p18 (by simp [fn18]) ?_
  simp (maxSteps := 2000000) only [GO,GO2,evK,fillV,setR,binV,intOp,strOp,shOp,unV,getR,lenV,partV,V.nj,V.njL,V.cells,Nat.reduceLT,Nat.reduceEqDiff,Nat.reduceAdd,↓reduceIte,Nat.reduceLeDiff,reduceCtorEq,fn18,c18,r18_0,r18_1,psh_same,hl8,hg8]
  refine loop18 F hlen hin (F.tkeep _ _ ht hk0) _ _ (fun ρ' h' ha hk => ?_) xs.length 0 _ _ (by omega) (by omega) rfl rfl (Acc.nil _ _ _ _) (Keeps.refl _ _)
  simp (maxSteps := 2000000) only [GO,GO2,evK,fillV,setR,binV,intOp,strOp,shOp,unV,getR,lenV,partV,V.nj,V.njL,V.cells,Nat.reduceLT,Nat.reduceEqDiff,Nat.reduceAdd,↓reduceIte,Nat.reduceLeDiff,reduceCtorEq,r18_6]
  refine XC_of (joinA F ha (by simp [itoas,hlen]) (by omega)) ?_
  rintro _ h2 ⟨rfl,k2⟩
  simp (maxSteps := 2000000) only [GO,GO2,evK,fillV,setR,binV,intOp,strOp,shOp,unV,getR,lenV,partV,V.nj,V.njL,V.cells,Nat.reduceLT,Nat.reduceEqDiff,Nat.reduceAdd,↓reduceIte,Nat.reduceLeDiff,reduceCtorEq]
  exact (Kp.trans hk0 hk).trans k2
def intsB (xs : List Int) : List UInt8 := (xs.map fun n => 32 :: itoa n).flatten
theorem intsB_len : ∀ {xs : List Int},(∀ n ∈ xs,InI n) → (intsB xs).length ≤ xs.length * 22
  | [],_ => by simp [intsB]
  | n :: xs,h => by
    have ih := intsB_len (xs := xs) fun m hm => h m (List.mem_cons_of_mem _ hm)
    have := Lib.itoa_length_le n (h n List.mem_cons_self).1 (h n List.mem_cons_self).2
    simp only [intsB,List.map_cons,List.flatten_cons,List.length_append,List.length_cons] at ih ⊢
    omega
theorem loop31 (F : Fns P E T) {xs : List Int} (hlen : xs.length ≤ 4194304) (hin : ∀ n ∈ xs,InI n) {h : H} (ht : T h) (vx : V) (hs : Sl h 1 vx (xs.map fun n => [.int .i64 n])) (K : List Fr) (Q : Po)
    (hQ : ∀ (ρ' : Nat → V),ρ' 3 = .str (intsB xs) → X P E none 20 K ρ' h Q) :
    ∀ (d k : Nat) (ρ : Nat → V),d = xs.length - k → k ≤ xs.length → ρ 0 = vx → ρ 4 = .int .i64 k → ρ 3 = .str (intsB (xs.take k)) →
      XL P E none 20 b31_3 (.b 0 :: K) ρ h Q := by
  intro d
  induction d with
  | zero =>
    intro k ρ hd hk h0 h4 h3
    have hke : ¬ k < xs.length := by omega
    obtain ⟨a,cap,opn,rfl⟩ := hs.len
    rw [List.length_map] at h0
    rw [List.take_of_length_le (by omega)] at h3
    rw [u31_3]
    simp (maxSteps := 2000000) only [GO,GO2,evK,fillV,setR,binV,intOp,strOp,shOp,unV,getR,lenV,partV,V.nj,V.njL,V.cells,Nat.reduceLT,Nat.reduceEqDiff,Nat.reduceAdd,↓reduceIte,Nat.reduceLeDiff,reduceCtorEq,r31_0,h0,h4,Int.ofNat_lt,hke]
    exact hQ _ h3
  | succ d ih =>
    intro k ρ hd hk h0 h4 h3
    have hke : k < xs.length := by omega
    obtain ⟨b,o,cap,opn,vs,ty,op,ro,fz,e6,hg,hl,he⟩ := hs.get (k := k) (x := [.int .i64 xs[k]]) (by simp [hke])
    have he := getR_one he
    have hw : IntKind.i64.wrap ((k : Int) + 1) = ((k + 1 : Nat) : Int) := wrap_nat (n := k + 1) (by omega)
    have h0' := h0
    rw [e6,List.length_map] at h0'
    rw [u31_3]
    simp (maxSteps := 2000000) only [GO,GO2,evK,fillV,setR,binV,intOp,strOp,shOp,unV,getR,lenV,partV,V.nj,V.njL,V.cells,Nat.reduceLT,Nat.reduceEqDiff,Nat.reduceAdd,↓reduceIte,Nat.reduceLeDiff,reduceCtorEq,r31_0,r31_1,h0',h4,h3,hg,Int.ofNat_lt,hke,Int.natCast_nonneg,Int.toNat_natCast,he]
    refine XC_of (num30 F (hin _ (List.getElem_mem hke)) ht) ?_
    rintro _ h1 ⟨rfl,rfl⟩
    have c0 := Lib.itoa_length_le xs[k] (hin _ (List.getElem_mem hke)).1 (hin _ (List.getElem_mem hke)).2
    have c1 : 1 + (itoa xs[k]).length ≤ 9223372036854775807 := by omega
    have c2 : (intsB (xs.take k)).length + ((itoa xs[k]).length + 1) ≤ 9223372036854775807 := by
      have := intsB_len (xs := xs.take k) fun n hn => hin n (List.mem_of_mem_take hn)
      rw [List.length_take] at this
      omega
    simp (maxSteps := 2000000) only [GO,GO2,evK,fillV,setR,binV,intOp,strOp,shOp,unV,getR,lenV,partV,V.nj,V.njL,V.cells,Nat.reduceLT,Nat.reduceEqDiff,Nat.reduceAdd,↓reduceIte,Nat.reduceLeDiff,reduceCtorEq,r31_2,h4,hw,c1,c2]
    refine ih (k + 1) _ (by omega) (by omega) ?_ ?_ ?_
    · exact h0
    · rfl
    rw [List.take_succ_eq_append_getElem hke]
    show V.str _ = _
    simp only [intsB,List.map_append,List.map_cons,List.map_nil,List.flatten_append,List.flatten_cons,List.flatten_nil,List.append_nil,List.cons_append,List.nil_append]
theorem ints31 (F : Fns P E T) {xs : List Int} (hlen : xs.length ≤ 4194304) (hin : ∀ n ∈ xs,InI n) {h : H} (ht : T h) {vx : V} (hs : Sl h 1 vx (xs.map fun n => [.int .i64 n])) :
    Sp P E (.func 31 [] []) [vx] h fun v h' => v = .str (intsB xs) ∧ h' = h := by
  refine Sp_fn F.f31 F.p31 (by simp [fn31]) ?_
  simp (maxSteps := 2000000) only [GO,GO2,evK,fillV,setR,binV,intOp,strOp,shOp,unV,getR,lenV,partV,V.nj,V.njL,V.cells,Nat.reduceLT,Nat.reduceEqDiff,Nat.reduceAdd,↓reduceIte,Nat.reduceLeDiff,reduceCtorEq,fn31,c31]
  refine loop31 F hlen hin ht _ hs _ _ (fun ρ' h3 => ?_) xs.length 0 _ (by omega) (by omega) rfl rfl rfl
  simp (maxSteps := 2000000) only [GO,GO2,evK,fillV,setR,binV,intOp,strOp,shOp,unV,getR,lenV,partV,V.nj,V.njL,V.cells,Nat.reduceLT,Nat.reduceEqDiff,Nat.reduceAdd,↓reduceIte,Nat.reduceLeDiff,reduceCtorEq,r31_4,h3]
theorem intsB_cons (n : Int) (xs : List Int) : intsB (n :: xs) = 32 :: joinB (itoas (n :: xs)) := by
  simp [intsB,joinB,itoas,Function.comp_def]
end Go.AM.Sc
