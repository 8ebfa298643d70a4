/- My own texts of the evaluator, its soundness and its symbolic runs, laid for this claim. -/
import Derived.Test.YtelbgimbkfjabaaAuData
import Derived.Test.YtelbgimbkfjabaaAuCode
set_option linter.unusedSimpArgs false
set_option linter.unusedVariables false
/-! Lists of plain elements, compared. -/
namespace Go.AM.Sc
open Go.AM
variable {P : Program} {E : Env}
structure Fa (E : Env) : Prop where
  f5 : E.fns 5 = some fn5
  p5 : E.prim 5 = none
  f9 : E.fns 9 = some fn9
  p9 : E.prim 9 = none
  f10 : E.fns 10 = some fn10
  p10 : E.prim 10 = none
  f11 : E.fns 11 = some fn11
  p11 : E.prim 11 = none
  f12 : E.fns 12 = some fn12
  p12 : E.prim 12 = none
  f13 : E.fns 13 = some fn13
  p13 : E.prim 13 = none
  f14 : E.fns 14 = some fn14
  p14 : E.prim 14 = none
  f15 : E.fns 15 = some fn15
  p15 : E.prim 15 = none
  f16 : E.fns 16 = some fn16
  p16 : E.prim 16 = none
  f17 : E.fns 17 = some fn17
  p17 : E.prim 17 = none
  f18 : E.fns 18 = some fn18
  p18 : E.prim 18 = none
  f21 : E.fns 21 = some fn21
  p21 : E.prim 21 = none
  f22 : E.fns 22 = some fn22
  p22 : E.prim 22 = none
  f27 : E.fns 27 = some fn27
  p27 : E.prim 27 = none
  f28 : E.fns 28 = some fn28
  p28 : E.prim 28 = none
  f29 : E.fns 29 = some fn29
  p29 : E.prim 29 = none
  f30 : E.fns 30 = some fn30
  p30 : E.prim 30 = none
  f31 : E.fns 31 = some fn31
  p31 : E.prim 31 = none
  f32 : E.fns 32 = some fn32
  p32 : E.prim 32 = none
  f33 : E.fns 33 = some fn33
  p33 : E.prim 33 = none
  f34 : E.fns 34 = some fn34
  p34 : E.prim 34 = none
  f35 : E.fns 35 = some fn35
  p35 : E.prim 35 = none
  f36 : E.fns 36 = some fn36
  p36 : E.prim 36 = none
  f37 : E.fns 37 = some fn37
  p37 : E.prim 37 = none
  f38 : E.fns 38 = some fn38
  p38 : E.prim 38 = none
  f39 : E.fns 39 = some fn39
  p39 : E.prim 39 = none
  f40 : E.fns 40 = some fn40
  p40 : E.prim 40 = none
  f41 : E.fns 41 = some fn41
  p41 : E.prim 41 = none
  f42 : E.fns 42 = some fn42
  p42 : E.prim 42 = none
  f43 : E.fns 43 = some fn43
  p43 : E.prim 43 = none
  f56 : E.fns 56 = some fn56
  p56 : E.prim 56 = none
  f57 : E.fns 57 = some fn57
  p57 : E.prim 57 = none
  f58 : E.fns 58 = some fn58
  p58 : E.prim 58 = none
  f59 : E.fns 59 = some fn59
  p59 : E.prim 59 = none
  f60 : E.fns 60 = some fn60
  p60 : E.prim 60 = none
  f61 : E.fns 61 = some fn61
  p61 : E.prim 61 = none
  f62 : E.fns 62 = some fn62
  p62 : E.prim 62 = none
  f63 : E.fns 63 = some fn63
  p63 : E.prim 63 = none
  f68 : E.fns 68 = some fn68
  p68 : E.prim 68 = none
  f69 : E.fns 69 = some fn69
  p69 : E.prim 69 = none
  f70 : E.fns 70 = some fn70
  p70 : E.prim 70 = none

theorem take_succ {α : Type} {xs ys : List α} {k : Nat} (hx : k < xs.length) (hy : k < ys.length) (h : xs.take k = ys.take k) (he : xs[k] = ys[k]) : xs.take (k + 1) = ys.take (k + 1) := by
  rw [List.take_succ_eq_append_getElem hx, List.take_succ_eq_append_getElem hy, h, he]
theorem eqlens {m n : Nat} : ((m : Int) != (n : Int)) = !decide (m = n) := by
  by_cases h : m = n
  · simp [h]
  · have : (m : Int) ≠ n := by omega
    simp [h, this]

theorem eq60 (F : Fa E) {v w : V} {xs ys : List Opr} {h : H} (hx : Sl h 8 v (xs.map Opr.cells)) (hy : Sl h 8 w (ys.map Opr.cells)) (hl : xs.length ≤ 1048576) : Sp P E (.func 60 [] []) [v, w] h fun r h' => r = .bool (decide (xs = ys)) ∧ h' = h := by
  obtain ⟨a1, c1, o1, e1⟩ := hx.len
  obtain ⟨a2, c2, o2, e2⟩ := hy.len
  rw [List.length_map] at e1 e2
  refine Sp_fn F.f60 F.p60 (by simp [fn60]) ?_
  by_cases hlen : xs.length = ys.length
  · have loop : ∀ (d k : Nat) (ρ : Nat → V), xs.length - k = d → k ≤ xs.length → ρ 0 = v → ρ 1 = w → ρ 12 = .int .i64 xs.length → ρ 13 = .int .i64 k → xs.take k = ys.take k →
        XL P E none 26 b60_5 [.b 0, .c (.seq (.region [⟨some 4, .mv (.k (.bool true)), none, 0, [4]⟩]) (.ret))] ρ h (Fin [.t 4] fun r h' => r = .bool (decide (xs = ys)) ∧ h' = h) := by
      intro d
      induction d with
      | zero =>
        intro k ρ hd hk q0 q1 q12 q13 ht
        have hke : ¬ k < xs.length := by omega
        rw [List.take_of_length_le (by omega), List.take_of_length_le (by omega)] at ht
        rw [u60_5]
        simp (maxSteps := 2000000) only [GO,GO2,evK,fillV,setR,binV,intOp,strOp,shOp,unV,getR,lenV,partV,V.nj,V.njL,V.cells,Nat.reduceLT,Nat.reduceEqDiff,Nat.reduceAdd,↓reduceIte,Nat.reduceLeDiff,reduceCtorEq,q12,q13,Int.ofNat_lt,hke]
        simp [ht]
      | succ d ih =>
        intro k ρ hd hk q0 q1 q12 q13 ht
        have hke : k < xs.length := by omega
        have hky : k < ys.length := by omega
        obtain ⟨b, o, cap, opn, vs, ty, op, ro, fz, v1, hg, hll, he⟩ := hx.get (k := k) (x := xs[k].cells) (by simp [hke])
        obtain ⟨b', o', cap', opn', vs', ty', op', ro', fz', w1, hg', hll', he'⟩ := hy.get (k := k) (x := ys[k].cells) (by simp [hky])
        rw [v1, List.length_map] at q0
        rw [w1, List.length_map] at q1
        unfold getR at he he'
        have hw : IntKind.i64.wrap ((k : Int) + 1) = ((k + 1 : Nat) : Int) := wrap_nat (n := k + 1) (by omega)
        have heq := Opr.eqv h xs[k] ys[k]
        by_cases hek : xs[k] = ys[k]
        · rw [decide_eq_true hek] at heq
          rw [u60_5]
          simp (maxSteps := 2000000) only [GO,GO2,evK,fillV,setR,binV,intOp,strOp,shOp,unV,getR,lenV,partV,V.nj,V.njL,V.cells,Nat.reduceLT,Nat.reduceEqDiff,Nat.reduceAdd,↓reduceIte,Nat.reduceLeDiff,reduceCtorEq,q12,q13,Int.ofNat_lt,hke,r60_2]
          rw [X_draw, d60_3]
          simp (maxSteps := 2000000) only [GO,GO2,evK,fillV,setR,binV,intOp,strOp,shOp,unV,getR,lenV,partV,V.nj,V.njL,V.cells,Nat.reduceLT,Nat.reduceEqDiff,Nat.reduceAdd,↓reduceIte,Nat.reduceLeDiff,reduceCtorEq,q0,q1,Int.ofNat_lt,hke,hky,r60_3,r60_4,q12,q13,hg,hg',hll,hll',he,he',Int.natCast_nonneg,Int.toNat_natCast,heq,Bool.not_true,hw]
          refine ih (k + 1) _ (by omega) (by omega) ?_ ?_ q12 rfl (take_succ hke hky ht hek)
          · rw [v1, List.length_map]; exact q0
          · rw [w1, List.length_map]; exact q1
        · rw [decide_eq_false hek] at heq
          have hne : xs ≠ ys := fun e => by subst e; exact hek rfl
          rw [u60_5]
          simp (maxSteps := 2000000) only [GO,GO2,evK,fillV,setR,binV,intOp,strOp,shOp,unV,getR,lenV,partV,V.nj,V.njL,V.cells,Nat.reduceLT,Nat.reduceEqDiff,Nat.reduceAdd,↓reduceIte,Nat.reduceLeDiff,reduceCtorEq,q12,q13,Int.ofNat_lt,hke,r60_2]
          rw [X_draw, d60_3]
          simp (maxSteps := 2000000) only [GO,GO2,evK,fillV,setR,binV,intOp,strOp,shOp,unV,getR,lenV,partV,V.nj,V.njL,V.cells,Nat.reduceLT,Nat.reduceEqDiff,Nat.reduceAdd,↓reduceIte,Nat.reduceLeDiff,reduceCtorEq,q0,q1,Int.ofNat_lt,hke,hky,r60_3,hg,hg',hll,hll',he,he',Int.natCast_nonneg,Int.toNat_natCast,heq,Bool.not_false]
          simp [hne]
    have hd : decide (xs.length = ys.length) = true := decide_eq_true hlen
    simp (maxSteps := 2000000) only [GO,GO2,evK,fillV,setR,binV,intOp,strOp,shOp,unV,getR,lenV,partV,V.nj,V.njL,V.cells,Nat.reduceLT,Nat.reduceEqDiff,Nat.reduceAdd,↓reduceIte,Nat.reduceLeDiff,reduceCtorEq,fn60,c60,r60_0,r60_1,e1,e2,eqlens,hd,Bool.not_true]
    exact loop _ 0 _ rfl (Nat.zero_le _) e1.symm e2.symm rfl rfl rfl
  · have hne : xs ≠ ys := fun e => hlen (by rw [e])
    have hd : decide (xs.length = ys.length) = false := decide_eq_false hlen
    simp (maxSteps := 2000000) only [GO,GO2,evK,fillV,setR,binV,intOp,strOp,shOp,unV,getR,lenV,partV,V.nj,V.njL,V.cells,Nat.reduceLT,Nat.reduceEqDiff,Nat.reduceAdd,↓reduceIte,Nat.reduceLeDiff,reduceCtorEq,fn60,c60,r60_0,e1,e2,eqlens,hd,Bool.not_false]
    simp [hne]

theorem eq63 (F : Fa E) {v w : V} {xs ys : List Row} {h : H} (hx : Sl h 6 v (xs.map Row.cells)) (hy : Sl h 6 w (ys.map Row.cells)) (hl : xs.length ≤ 1048576) : Sp P E (.func 63 [] []) [v, w] h fun r h' => r = .bool (decide (xs = ys)) ∧ h' = h := by
  obtain ⟨a1, c1, o1, e1⟩ := hx.len
  obtain ⟨a2, c2, o2, e2⟩ := hy.len
  rw [List.length_map] at e1 e2
  refine Sp_fn F.f63 F.p63 (by simp [fn63]) ?_
  by_cases hlen : xs.length = ys.length
  · have loop : ∀ (d k : Nat) (ρ : Nat → V), xs.length - k = d → k ≤ xs.length → ρ 0 = v → ρ 1 = w → ρ 12 = .int .i64 xs.length → ρ 13 = .int .i64 k → xs.take k = ys.take k →
        XL P E none 26 b63_5 [.b 0, .c (.seq (.region [⟨some 4, .mv (.k (.bool true)), none, 0, [4]⟩]) (.ret))] ρ h (Fin [.t 4] fun r h' => r = .bool (decide (xs = ys)) ∧ h' = h) := by
      intro d
      induction d with
      | zero =>
        intro k ρ hd hk q0 q1 q12 q13 ht
        have hke : ¬ k < xs.length := by omega
        rw [List.take_of_length_le (by omega), List.take_of_length_le (by omega)] at ht
        rw [u63_5]
        simp (maxSteps := 2000000) only [GO,GO2,evK,fillV,setR,binV,intOp,strOp,shOp,unV,getR,lenV,partV,V.nj,V.njL,V.cells,Nat.reduceLT,Nat.reduceEqDiff,Nat.reduceAdd,↓reduceIte,Nat.reduceLeDiff,reduceCtorEq,q12,q13,Int.ofNat_lt,hke]
        simp [ht]
      | succ d ih =>
        intro k ρ hd hk q0 q1 q12 q13 ht
        have hke : k < xs.length := by omega
        have hky : k < ys.length := by omega
        obtain ⟨b, o, cap, opn, vs, ty, op, ro, fz, v1, hg, hll, he⟩ := hx.get (k := k) (x := xs[k].cells) (by simp [hke])
        obtain ⟨b', o', cap', opn', vs', ty', op', ro', fz', w1, hg', hll', he'⟩ := hy.get (k := k) (x := ys[k].cells) (by simp [hky])
        rw [v1, List.length_map] at q0
        rw [w1, List.length_map] at q1
        unfold getR at he he'
        have hw : IntKind.i64.wrap ((k : Int) + 1) = ((k + 1 : Nat) : Int) := wrap_nat (n := k + 1) (by omega)
        have heq := Row.eqv h xs[k] ys[k]
        by_cases hek : xs[k] = ys[k]
        · rw [decide_eq_true hek] at heq
          rw [u63_5]
          simp (maxSteps := 2000000) only [GO,GO2,evK,fillV,setR,binV,intOp,strOp,shOp,unV,getR,lenV,partV,V.nj,V.njL,V.cells,Nat.reduceLT,Nat.reduceEqDiff,Nat.reduceAdd,↓reduceIte,Nat.reduceLeDiff,reduceCtorEq,q12,q13,Int.ofNat_lt,hke,r63_2]
          rw [X_draw, d63_3]
          simp (maxSteps := 2000000) only [GO,GO2,evK,fillV,setR,binV,intOp,strOp,shOp,unV,getR,lenV,partV,V.nj,V.njL,V.cells,Nat.reduceLT,Nat.reduceEqDiff,Nat.reduceAdd,↓reduceIte,Nat.reduceLeDiff,reduceCtorEq,q0,q1,Int.ofNat_lt,hke,hky,r63_3,r63_4,q12,q13,hg,hg',hll,hll',he,he',Int.natCast_nonneg,Int.toNat_natCast,heq,Bool.not_true,hw]
          refine ih (k + 1) _ (by omega) (by omega) ?_ ?_ q12 rfl (take_succ hke hky ht hek)
          · rw [v1, List.length_map]; exact q0
          · rw [w1, List.length_map]; exact q1
        · rw [decide_eq_false hek] at heq
          have hne : xs ≠ ys := fun e => by subst e; exact hek rfl
          rw [u63_5]
          simp (maxSteps := 2000000) only [GO,GO2,evK,fillV,setR,binV,intOp,strOp,shOp,unV,getR,lenV,partV,V.nj,V.njL,V.cells,Nat.reduceLT,Nat.reduceEqDiff,Nat.reduceAdd,↓reduceIte,Nat.reduceLeDiff,reduceCtorEq,q12,q13,Int.ofNat_lt,hke,r63_2]
          rw [X_draw, d63_3]
          simp (maxSteps := 2000000) only [GO,GO2,evK,fillV,setR,binV,intOp,strOp,shOp,unV,getR,lenV,partV,V.nj,V.njL,V.cells,Nat.reduceLT,Nat.reduceEqDiff,Nat.reduceAdd,↓reduceIte,Nat.reduceLeDiff,reduceCtorEq,q0,q1,Int.ofNat_lt,hke,hky,r63_3,hg,hg',hll,hll',he,he',Int.natCast_nonneg,Int.toNat_natCast,heq,Bool.not_false]
          simp [hne]
    have hd : decide (xs.length = ys.length) = true := decide_eq_true hlen
    simp (maxSteps := 2000000) only [GO,GO2,evK,fillV,setR,binV,intOp,strOp,shOp,unV,getR,lenV,partV,V.nj,V.njL,V.cells,Nat.reduceLT,Nat.reduceEqDiff,Nat.reduceAdd,↓reduceIte,Nat.reduceLeDiff,reduceCtorEq,fn63,c63,r63_0,r63_1,e1,e2,eqlens,hd,Bool.not_true]
    exact loop _ 0 _ rfl (Nat.zero_le _) e1.symm e2.symm rfl rfl rfl
  · have hne : xs ≠ ys := fun e => hlen (by rw [e])
    have hd : decide (xs.length = ys.length) = false := decide_eq_false hlen
    simp (maxSteps := 2000000) only [GO,GO2,evK,fillV,setR,binV,intOp,strOp,shOp,unV,getR,lenV,partV,V.nj,V.njL,V.cells,Nat.reduceLT,Nat.reduceEqDiff,Nat.reduceAdd,↓reduceIte,Nat.reduceLeDiff,reduceCtorEq,fn63,c63,r63_0,e1,e2,eqlens,hd,Bool.not_false]
    simp [hne]

theorem eq70 (F : Fa E) {v w : V} {xs ys : List Attr} {h : H} (hx : Sl h 2 v (xs.map Attr.cells)) (hy : Sl h 2 w (ys.map Attr.cells)) (hl : xs.length ≤ 1048576) : Sp P E (.func 70 [] []) [v, w] h fun r h' => r = .bool (decide (xs = ys)) ∧ h' = h := by
  obtain ⟨a1, c1, o1, e1⟩ := hx.len
  obtain ⟨a2, c2, o2, e2⟩ := hy.len
  rw [List.length_map] at e1 e2
  refine Sp_fn F.f70 F.p70 (by simp [fn70]) ?_
  by_cases hlen : xs.length = ys.length
  · have loop : ∀ (d k : Nat) (ρ : Nat → V), xs.length - k = d → k ≤ xs.length → ρ 0 = v → ρ 1 = w → ρ 12 = .int .i64 xs.length → ρ 13 = .int .i64 k → xs.take k = ys.take k →
        XL P E none 26 b70_5 [.b 0, .c (.seq (.region [⟨some 4, .mv (.k (.bool true)), none, 0, [4]⟩]) (.ret))] ρ h (Fin [.t 4] fun r h' => r = .bool (decide (xs = ys)) ∧ h' = h) := by
      intro d
      induction d with
      | zero =>
        intro k ρ hd hk q0 q1 q12 q13 ht
        have hke : ¬ k < xs.length := by omega
        rw [List.take_of_length_le (by omega), List.take_of_length_le (by omega)] at ht
        rw [u70_5]
        simp (maxSteps := 2000000) only [GO,GO2,evK,fillV,setR,binV,intOp,strOp,shOp,unV,getR,lenV,partV,V.nj,V.njL,V.cells,Nat.reduceLT,Nat.reduceEqDiff,Nat.reduceAdd,↓reduceIte,Nat.reduceLeDiff,reduceCtorEq,q12,q13,Int.ofNat_lt,hke]
        simp [ht]
      | succ d ih =>
        intro k ρ hd hk q0 q1 q12 q13 ht
        have hke : k < xs.length := by omega
        have hky : k < ys.length := by omega
        obtain ⟨b, o, cap, opn, vs, ty, op, ro, fz, v1, hg, hll, he⟩ := hx.get (k := k) (x := xs[k].cells) (by simp [hke])
        obtain ⟨b', o', cap', opn', vs', ty', op', ro', fz', w1, hg', hll', he'⟩ := hy.get (k := k) (x := ys[k].cells) (by simp [hky])
        rw [v1, List.length_map] at q0
        rw [w1, List.length_map] at q1
        unfold getR at he he'
        have hw : IntKind.i64.wrap ((k : Int) + 1) = ((k + 1 : Nat) : Int) := wrap_nat (n := k + 1) (by omega)
        have heq := Attr.eqv h xs[k] ys[k]
        by_cases hek : xs[k] = ys[k]
        · rw [decide_eq_true hek] at heq
          rw [u70_5]
          simp (maxSteps := 2000000) only [GO,GO2,evK,fillV,setR,binV,intOp,strOp,shOp,unV,getR,lenV,partV,V.nj,V.njL,V.cells,Nat.reduceLT,Nat.reduceEqDiff,Nat.reduceAdd,↓reduceIte,Nat.reduceLeDiff,reduceCtorEq,q12,q13,Int.ofNat_lt,hke,r70_2]
          rw [X_draw, d70_3]
          simp (maxSteps := 2000000) only [GO,GO2,evK,fillV,setR,binV,intOp,strOp,shOp,unV,getR,lenV,partV,V.nj,V.njL,V.cells,Nat.reduceLT,Nat.reduceEqDiff,Nat.reduceAdd,↓reduceIte,Nat.reduceLeDiff,reduceCtorEq,q0,q1,Int.ofNat_lt,hke,hky,r70_3,r70_4,q12,q13,hg,hg',hll,hll',he,he',Int.natCast_nonneg,Int.toNat_natCast,heq,Bool.not_true,hw]
          refine ih (k + 1) _ (by omega) (by omega) ?_ ?_ q12 rfl (take_succ hke hky ht hek)
          · rw [v1, List.length_map]; exact q0
          · rw [w1, List.length_map]; exact q1
        · rw [decide_eq_false hek] at heq
          have hne : xs ≠ ys := fun e => by subst e; exact hek rfl
          rw [u70_5]
          simp (maxSteps := 2000000) only [GO,GO2,evK,fillV,setR,binV,intOp,strOp,shOp,unV,getR,lenV,partV,V.nj,V.njL,V.cells,Nat.reduceLT,Nat.reduceEqDiff,Nat.reduceAdd,↓reduceIte,Nat.reduceLeDiff,reduceCtorEq,q12,q13,Int.ofNat_lt,hke,r70_2]
          rw [X_draw, d70_3]
          simp (maxSteps := 2000000) only [GO,GO2,evK,fillV,setR,binV,intOp,strOp,shOp,unV,getR,lenV,partV,V.nj,V.njL,V.cells,Nat.reduceLT,Nat.reduceEqDiff,Nat.reduceAdd,↓reduceIte,Nat.reduceLeDiff,reduceCtorEq,q0,q1,Int.ofNat_lt,hke,hky,r70_3,hg,hg',hll,hll',he,he',Int.natCast_nonneg,Int.toNat_natCast,heq,Bool.not_false]
          simp [hne]
    have hd : decide (xs.length = ys.length) = true := decide_eq_true hlen
    simp (maxSteps := 2000000) only [GO,GO2,evK,fillV,setR,binV,intOp,strOp,shOp,unV,getR,lenV,partV,V.nj,V.njL,V.cells,Nat.reduceLT,Nat.reduceEqDiff,Nat.reduceAdd,↓reduceIte,Nat.reduceLeDiff,reduceCtorEq,fn70,c70,r70_0,r70_1,e1,e2,eqlens,hd,Bool.not_true]
    exact loop _ 0 _ rfl (Nat.zero_le _) e1.symm e2.symm rfl rfl rfl
  · have hne : xs ≠ ys := fun e => hlen (by rw [e])
    have hd : decide (xs.length = ys.length) = false := decide_eq_false hlen
    simp (maxSteps := 2000000) only [GO,GO2,evK,fillV,setR,binV,intOp,strOp,shOp,unV,getR,lenV,partV,V.nj,V.njL,V.cells,Nat.reduceLT,Nat.reduceEqDiff,Nat.reduceAdd,↓reduceIte,Nat.reduceLeDiff,reduceCtorEq,fn70,c70,r70_0,e1,e2,eqlens,hd,Bool.not_false]
    simp [hne]

theorem eq12 (F : Fa E) {v w : V} {xs ys : List Addr} {h : H} (hx : Sl h 2 v (xs.map Addr.cells)) (hy : Sl h 2 w (ys.map Addr.cells)) (hl : xs.length ≤ 1048576) : Sp P E (.func 12 [] []) [v, w] h fun r h' => r = .bool (decide (xs = ys)) ∧ h' = h := by
  obtain ⟨a1, c1, o1, e1⟩ := hx.len
  obtain ⟨a2, c2, o2, e2⟩ := hy.len
  rw [List.length_map] at e1 e2
  refine Sp_fn F.f12 F.p12 (by simp [fn12]) ?_
  by_cases hlen : xs.length = ys.length
  · have loop : ∀ (d k : Nat) (ρ : Nat → V), xs.length - k = d → k ≤ xs.length → ρ 0 = v → ρ 1 = w → ρ 12 = .int .i64 xs.length → ρ 13 = .int .i64 k → xs.take k = ys.take k →
        XL P E none 26 b12_5 [.b 0, .c (.seq (.region [⟨some 4, .mv (.k (.bool true)), none, 0, [4]⟩]) (.ret))] ρ h (Fin [.t 4] fun r h' => r = .bool (decide (xs = ys)) ∧ h' = h) := by
      intro d
      induction d with
      | zero =>
        intro k ρ hd hk q0 q1 q12 q13 ht
        have hke : ¬ k < xs.length := by omega
        rw [List.take_of_length_le (by omega), List.take_of_length_le (by omega)] at ht
        rw [u12_5]
        simp (maxSteps := 2000000) only [GO,GO2,evK,fillV,setR,binV,intOp,strOp,shOp,unV,getR,lenV,partV,V.nj,V.njL,V.cells,Nat.reduceLT,Nat.reduceEqDiff,Nat.reduceAdd,↓reduceIte,Nat.reduceLeDiff,reduceCtorEq,q12,q13,Int.ofNat_lt,hke]
        simp [ht]
      | succ d ih =>
        intro k ρ hd hk q0 q1 q12 q13 ht
        have hke : k < xs.length := by omega
        have hky : k < ys.length := by omega
        obtain ⟨b, o, cap, opn, vs, ty, op, ro, fz, v1, hg, hll, he⟩ := hx.get (k := k) (x := xs[k].cells) (by simp [hke])
        obtain ⟨b', o', cap', opn', vs', ty', op', ro', fz', w1, hg', hll', he'⟩ := hy.get (k := k) (x := ys[k].cells) (by simp [hky])
        rw [v1, List.length_map] at q0
        rw [w1, List.length_map] at q1
        unfold getR at he he'
        have hw : IntKind.i64.wrap ((k : Int) + 1) = ((k + 1 : Nat) : Int) := wrap_nat (n := k + 1) (by omega)
        have heq := Addr.eqv h xs[k] ys[k]
        by_cases hek : xs[k] = ys[k]
        · rw [decide_eq_true hek] at heq
          rw [u12_5]
          simp (maxSteps := 2000000) only [GO,GO2,evK,fillV,setR,binV,intOp,strOp,shOp,unV,getR,lenV,partV,V.nj,V.njL,V.cells,Nat.reduceLT,Nat.reduceEqDiff,Nat.reduceAdd,↓reduceIte,Nat.reduceLeDiff,reduceCtorEq,q12,q13,Int.ofNat_lt,hke,r12_2]
          rw [X_draw, d12_3]
          simp (maxSteps := 2000000) only [GO,GO2,evK,fillV,setR,binV,intOp,strOp,shOp,unV,getR,lenV,partV,V.nj,V.njL,V.cells,Nat.reduceLT,Nat.reduceEqDiff,Nat.reduceAdd,↓reduceIte,Nat.reduceLeDiff,reduceCtorEq,q0,q1,Int.ofNat_lt,hke,hky,r12_3,r12_4,q12,q13,hg,hg',hll,hll',he,he',Int.natCast_nonneg,Int.toNat_natCast,heq,Bool.not_true,hw]
          refine ih (k + 1) _ (by omega) (by omega) ?_ ?_ q12 rfl (take_succ hke hky ht hek)
          · rw [v1, List.length_map]; exact q0
          · rw [w1, List.length_map]; exact q1
        · rw [decide_eq_false hek] at heq
          have hne : xs ≠ ys := fun e => by subst e; exact hek rfl
          rw [u12_5]
          simp (maxSteps := 2000000) only [GO,GO2,evK,fillV,setR,binV,intOp,strOp,shOp,unV,getR,lenV,partV,V.nj,V.njL,V.cells,Nat.reduceLT,Nat.reduceEqDiff,Nat.reduceAdd,↓reduceIte,Nat.reduceLeDiff,reduceCtorEq,q12,q13,Int.ofNat_lt,hke,r12_2]
          rw [X_draw, d12_3]
          simp (maxSteps := 2000000) only [GO,GO2,evK,fillV,setR,binV,intOp,strOp,shOp,unV,getR,lenV,partV,V.nj,V.njL,V.cells,Nat.reduceLT,Nat.reduceEqDiff,Nat.reduceAdd,↓reduceIte,Nat.reduceLeDiff,reduceCtorEq,q0,q1,Int.ofNat_lt,hke,hky,r12_3,hg,hg',hll,hll',he,he',Int.natCast_nonneg,Int.toNat_natCast,heq,Bool.not_false]
          simp [hne]
    have hd : decide (xs.length = ys.length) = true := decide_eq_true hlen
    simp (maxSteps := 2000000) only [GO,GO2,evK,fillV,setR,binV,intOp,strOp,shOp,unV,getR,lenV,partV,V.nj,V.njL,V.cells,Nat.reduceLT,Nat.reduceEqDiff,Nat.reduceAdd,↓reduceIte,Nat.reduceLeDiff,reduceCtorEq,fn12,c12,r12_0,r12_1,e1,e2,eqlens,hd,Bool.not_true]
    exact loop _ 0 _ rfl (Nat.zero_le _) e1.symm e2.symm rfl rfl rfl
  · have hne : xs ≠ ys := fun e => hlen (by rw [e])
    have hd : decide (xs.length = ys.length) = false := decide_eq_false hlen
    simp (maxSteps := 2000000) only [GO,GO2,evK,fillV,setR,binV,intOp,strOp,shOp,unV,getR,lenV,partV,V.nj,V.njL,V.cells,Nat.reduceLT,Nat.reduceEqDiff,Nat.reduceAdd,↓reduceIte,Nat.reduceLeDiff,reduceCtorEq,fn12,c12,r12_0,e1,e2,eqlens,hd,Bool.not_false]
    simp [hne]

theorem eq33 (F : Fa E) {v w : V} {xs ys : List Opr} {h : H} (hx : Sl h 8 v (xs.map Opr.cells)) (hy : Sl h 8 w (ys.map Opr.cells)) (hl : xs.length ≤ 1048576) : Sp P E (.func 33 [] []) [v, w] h fun r h' => r = .bool (decide (xs = ys)) ∧ h' = h := by
  obtain ⟨a1, c1, o1, e1⟩ := hx.len
  obtain ⟨a2, c2, o2, e2⟩ := hy.len
  rw [List.length_map] at e1 e2
  refine Sp_fn F.f33 F.p33 (by simp [fn33]) ?_
  by_cases hlen : xs.length = ys.length
  · have loop : ∀ (d k : Nat) (ρ : Nat → V), xs.length - k = d → k ≤ xs.length → ρ 0 = v → ρ 1 = w → ρ 5 = .int .i64 k → xs.take k = ys.take k →
        XL P E none 26 b33_4 [.b 0, .c (.seq (.region [⟨some 4, .mv (.k (.bool true)), none, 0, [4]⟩]) (.ret))] ρ h (Fin [.t 4] fun r h' => r = .bool (decide (xs = ys)) ∧ h' = h) := by
      intro d
      induction d with
      | zero =>
        intro k ρ hd hk q0 q1 q5 ht
        have hke : ¬ k < xs.length := by omega
        rw [List.take_of_length_le (by omega), List.take_of_length_le (by omega)] at ht
        rw [u33_4]
        simp (maxSteps := 2000000) only [GO,GO2,evK,fillV,setR,binV,intOp,strOp,shOp,unV,getR,lenV,partV,V.nj,V.njL,V.cells,Nat.reduceLT,Nat.reduceEqDiff,Nat.reduceAdd,↓reduceIte,Nat.reduceLeDiff,reduceCtorEq,r33_1,q0,e1,q5,Int.ofNat_lt,hke]
        simp [ht]
      | succ d ih =>
        intro k ρ hd hk q0 q1 q5 ht
        have hke : k < xs.length := by omega
        have hky : k < ys.length := by omega
        obtain ⟨b, o, cap, opn, vs, ty, op, ro, fz, v1, hg, hll, he⟩ := hx.get (k := k) (x := xs[k].cells) (by simp [hke])
        obtain ⟨b', o', cap', opn', vs', ty', op', ro', fz', w1, hg', hll', he'⟩ := hy.get (k := k) (x := ys[k].cells) (by simp [hky])
        rw [v1, List.length_map] at q0
        rw [w1, List.length_map] at q1
        unfold getR at he he'
        have hw : IntKind.i64.wrap ((k : Int) + 1) = ((k + 1 : Nat) : Int) := wrap_nat (n := k + 1) (by omega)
        have heq := Opr.eqv h xs[k] ys[k]
        by_cases hek : xs[k] = ys[k]
        · rw [decide_eq_true hek] at heq
          rw [u33_4]
          simp (maxSteps := 2000000) only [GO,GO2,evK,fillV,setR,binV,intOp,strOp,shOp,unV,getR,lenV,partV,V.nj,V.njL,V.cells,Nat.reduceLT,Nat.reduceEqDiff,Nat.reduceAdd,↓reduceIte,Nat.reduceLeDiff,reduceCtorEq,r33_1,q5,q0,Int.ofNat_lt,hke]
          rw [X_draw, d33_2]
          simp (maxSteps := 2000000) only [GO,GO2,evK,fillV,setR,binV,intOp,strOp,shOp,unV,getR,lenV,partV,V.nj,V.njL,V.cells,Nat.reduceLT,Nat.reduceEqDiff,Nat.reduceAdd,↓reduceIte,Nat.reduceLeDiff,reduceCtorEq,q0,q1,Int.ofNat_lt,hke,hky,r33_2,r33_3,q5,hg,hg',hll,hll',he,he',Int.natCast_nonneg,Int.toNat_natCast,heq,Bool.not_true,hw]
          refine ih (k + 1) _ (by omega) (by omega) ?_ ?_ rfl (take_succ hke hky ht hek)
          · rw [v1, List.length_map]; exact q0
          · rw [w1, List.length_map]; exact q1
        · rw [decide_eq_false hek] at heq
          have hne : xs ≠ ys := fun e => by subst e; exact hek rfl
          rw [u33_4]
          simp (maxSteps := 2000000) only [GO,GO2,evK,fillV,setR,binV,intOp,strOp,shOp,unV,getR,lenV,partV,V.nj,V.njL,V.cells,Nat.reduceLT,Nat.reduceEqDiff,Nat.reduceAdd,↓reduceIte,Nat.reduceLeDiff,reduceCtorEq,r33_1,q5,q0,Int.ofNat_lt,hke]
          rw [X_draw, d33_2]
          simp (maxSteps := 2000000) only [GO,GO2,evK,fillV,setR,binV,intOp,strOp,shOp,unV,getR,lenV,partV,V.nj,V.njL,V.cells,Nat.reduceLT,Nat.reduceEqDiff,Nat.reduceAdd,↓reduceIte,Nat.reduceLeDiff,reduceCtorEq,q0,q1,Int.ofNat_lt,hke,hky,r33_2,q5,hg,hg',hll,hll',he,he',Int.natCast_nonneg,Int.toNat_natCast,heq,Bool.not_false]
          simp [hne]
    have hd : decide (xs.length = ys.length) = true := decide_eq_true hlen
    simp (maxSteps := 2000000) only [GO,GO2,evK,fillV,setR,binV,intOp,strOp,shOp,unV,getR,lenV,partV,V.nj,V.njL,V.cells,Nat.reduceLT,Nat.reduceEqDiff,Nat.reduceAdd,↓reduceIte,Nat.reduceLeDiff,reduceCtorEq,fn33,c33,r33_0,e1,e2,eqlens,hd,Bool.not_true]
    exact loop _ 0 _ rfl (Nat.zero_le _) e1.symm e2.symm rfl rfl
  · have hne : xs ≠ ys := fun e => hlen (by rw [e])
    have hd : decide (xs.length = ys.length) = false := decide_eq_false hlen
    simp (maxSteps := 2000000) only [GO,GO2,evK,fillV,setR,binV,intOp,strOp,shOp,unV,getR,lenV,partV,V.nj,V.njL,V.cells,Nat.reduceLT,Nat.reduceEqDiff,Nat.reduceAdd,↓reduceIte,Nat.reduceLeDiff,reduceCtorEq,fn33,c33,r33_0,e1,e2,eqlens,hd,Bool.not_false]
    simp [hne]

theorem eq42 (F : Fa E) {v w : V} {xs ys : List Row} {h : H} (hx : Sl h 6 v (xs.map Row.cells)) (hy : Sl h 6 w (ys.map Row.cells)) (hl : xs.length ≤ 1048576) : Sp P E (.func 42 [] []) [v, w] h fun r h' => r = .bool (decide (xs = ys)) ∧ h' = h := by
  obtain ⟨a1, c1, o1, e1⟩ := hx.len
  obtain ⟨a2, c2, o2, e2⟩ := hy.len
  rw [List.length_map] at e1 e2
  refine Sp_fn F.f42 F.p42 (by simp [fn42]) ?_
  by_cases hlen : xs.length = ys.length
  · have loop : ∀ (d k : Nat) (ρ : Nat → V), xs.length - k = d → k ≤ xs.length → ρ 0 = v → ρ 1 = w → ρ 5 = .int .i64 k → xs.take k = ys.take k →
        XL P E none 26 b42_4 [.b 0, .c (.seq (.region [⟨some 4, .mv (.k (.bool true)), none, 0, [4]⟩]) (.ret))] ρ h (Fin [.t 4] fun r h' => r = .bool (decide (xs = ys)) ∧ h' = h) := by
      intro d
      induction d with
      | zero =>
        intro k ρ hd hk q0 q1 q5 ht
        have hke : ¬ k < xs.length := by omega
        rw [List.take_of_length_le (by omega), List.take_of_length_le (by omega)] at ht
        rw [u42_4]
        simp (maxSteps := 2000000) only [GO,GO2,evK,fillV,setR,binV,intOp,strOp,shOp,unV,getR,lenV,partV,V.nj,V.njL,V.cells,Nat.reduceLT,Nat.reduceEqDiff,Nat.reduceAdd,↓reduceIte,Nat.reduceLeDiff,reduceCtorEq,r42_1,q0,e1,q5,Int.ofNat_lt,hke]
        simp [ht]
      | succ d ih =>
        intro k ρ hd hk q0 q1 q5 ht
        have hke : k < xs.length := by omega
        have hky : k < ys.length := by omega
        obtain ⟨b, o, cap, opn, vs, ty, op, ro, fz, v1, hg, hll, he⟩ := hx.get (k := k) (x := xs[k].cells) (by simp [hke])
        obtain ⟨b', o', cap', opn', vs', ty', op', ro', fz', w1, hg', hll', he'⟩ := hy.get (k := k) (x := ys[k].cells) (by simp [hky])
        rw [v1, List.length_map] at q0
        rw [w1, List.length_map] at q1
        unfold getR at he he'
        have hw : IntKind.i64.wrap ((k : Int) + 1) = ((k + 1 : Nat) : Int) := wrap_nat (n := k + 1) (by omega)
        have heq := Row.eqv h xs[k] ys[k]
        by_cases hek : xs[k] = ys[k]
        · rw [decide_eq_true hek] at heq
          rw [u42_4]
          simp (maxSteps := 2000000) only [GO,GO2,evK,fillV,setR,binV,intOp,strOp,shOp,unV,getR,lenV,partV,V.nj,V.njL,V.cells,Nat.reduceLT,Nat.reduceEqDiff,Nat.reduceAdd,↓reduceIte,Nat.reduceLeDiff,reduceCtorEq,r42_1,q5,q0,Int.ofNat_lt,hke]
          rw [X_draw, d42_2]
          simp (maxSteps := 2000000) only [GO,GO2,evK,fillV,setR,binV,intOp,strOp,shOp,unV,getR,lenV,partV,V.nj,V.njL,V.cells,Nat.reduceLT,Nat.reduceEqDiff,Nat.reduceAdd,↓reduceIte,Nat.reduceLeDiff,reduceCtorEq,q0,q1,Int.ofNat_lt,hke,hky,r42_2,r42_3,q5,hg,hg',hll,hll',he,he',Int.natCast_nonneg,Int.toNat_natCast,heq,Bool.not_true,hw]
          refine ih (k + 1) _ (by omega) (by omega) ?_ ?_ rfl (take_succ hke hky ht hek)
          · rw [v1, List.length_map]; exact q0
          · rw [w1, List.length_map]; exact q1
        · rw [decide_eq_false hek] at heq
          have hne : xs ≠ ys := fun e => by subst e; exact hek rfl
          rw [u42_4]
          simp (maxSteps := 2000000) only [GO,GO2,evK,fillV,setR,binV,intOp,strOp,shOp,unV,getR,lenV,partV,V.nj,V.njL,V.cells,Nat.reduceLT,Nat.reduceEqDiff,Nat.reduceAdd,↓reduceIte,Nat.reduceLeDiff,reduceCtorEq,r42_1,q5,q0,Int.ofNat_lt,hke]
          rw [X_draw, d42_2]
          simp (maxSteps := 2000000) only [GO,GO2,evK,fillV,setR,binV,intOp,strOp,shOp,unV,getR,lenV,partV,V.nj,V.njL,V.cells,Nat.reduceLT,Nat.reduceEqDiff,Nat.reduceAdd,↓reduceIte,Nat.reduceLeDiff,reduceCtorEq,q0,q1,Int.ofNat_lt,hke,hky,r42_2,q5,hg,hg',hll,hll',he,he',Int.natCast_nonneg,Int.toNat_natCast,heq,Bool.not_false]
          simp [hne]
    have hd : decide (xs.length = ys.length) = true := decide_eq_true hlen
    simp (maxSteps := 2000000) only [GO,GO2,evK,fillV,setR,binV,intOp,strOp,shOp,unV,getR,lenV,partV,V.nj,V.njL,V.cells,Nat.reduceLT,Nat.reduceEqDiff,Nat.reduceAdd,↓reduceIte,Nat.reduceLeDiff,reduceCtorEq,fn42,c42,r42_0,e1,e2,eqlens,hd,Bool.not_true]
    exact loop _ 0 _ rfl (Nat.zero_le _) e1.symm e2.symm rfl rfl
  · have hne : xs ≠ ys := fun e => hlen (by rw [e])
    have hd : decide (xs.length = ys.length) = false := decide_eq_false hlen
    simp (maxSteps := 2000000) only [GO,GO2,evK,fillV,setR,binV,intOp,strOp,shOp,unV,getR,lenV,partV,V.nj,V.njL,V.cells,Nat.reduceLT,Nat.reduceEqDiff,Nat.reduceAdd,↓reduceIte,Nat.reduceLeDiff,reduceCtorEq,fn42,c42,r42_0,e1,e2,eqlens,hd,Bool.not_false]
    simp [hne]
end Go.AM.Sc
