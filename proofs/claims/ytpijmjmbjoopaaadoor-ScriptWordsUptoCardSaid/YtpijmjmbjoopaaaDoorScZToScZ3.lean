/- My own texts of the evaluator, its soundness and its symbolic runs, laid for this claim. -/
import Derived.Test.YtpijmjmbjoopaaaDoorScVScCode2
set_option linter.unusedSimpArgs false
set_option linter.unusedVariables false
namespace Go.AM.Sc
open Go.AM
variable {P : Program} {E : Env} {T : H → Prop}
structure Fnz (P : Program) (E : Env) (T : H → Prop) : Prop extends Fns P E T where
  toErr : ∀ s h,s.length ≤ 100 → T h → Sp P E (.func 58 [] []) [.str [80,97,114,115,101,85,105,110,116],.str s,.int .i64 16,.int .i64 8,.iface 110 (.int .i64 2)] h fun v h' => v = .junk ∧ h' = h
  f5 : E.fns 5 = some fn5
  p5 : E.prim 5 = none
  f14 : E.fns 14 = some fn14
  p14 : E.prim 14 = none
  f15 : E.fns 15 = some fn15
  p15 : E.prim 15 = none
  f36 : E.fns 36 = some fn36
  p36 : E.prim 36 = none
  f37 : E.fns 37 = some fn37
  p37 : E.prim 37 = none
  f48 : E.fns 48 = some fn48
  p48 : E.prim 48 = none
  f49 : E.fns 49 = some fn49
  p49 : E.prim 49 = none
  f50 : E.fns 50 = some fn50
  p50 : E.prim 50 = none
  f55 : E.fns 55 = some fn55
  p55 : E.prim 55 = none
  f56 : E.fns 56 = some fn56
  p56 : E.prim 56 = none
  f57 : E.fns 57 = some fn57
  p57 : E.prim 57 = none
  f64 : E.fns 64 = some fn64
  p64 : E.prim 64 = none
  f65 : E.fns 65 = some fn65
  p65 : E.prim 65 = none
  f66 : E.fns 66 = some fn66
  p66 : E.prim 66 = none
def trimP (s : List UInt8) : List UInt8 := if s.take 1 = [34] then s.drop 1 else s
def trimS (s : List UInt8) : List UInt8 := if s.drop (s.length - 1) = [34] then s.take (s.length - 1) else s
theorem hasP65 (F : Fnz P E T) {s : List UInt8} {h : H} : Sp P E (.func 65 [] []) [.str s,.str [34]] h fun v h' => v = .bool (decide (s.take 1 = [34])) ∧ h' = h := by
  refine Sp_fn F.f65 F.p65 (by simp [fn65]) ?_
  by_cases hs : 1 ≤ s.length
  · have e1 : ((s.length : Nat) : Int) ≥ ((1 : Nat) : Int) := by omega
    have e2 : boundsV s.length s.length none (some (.int .i64 ((1 : Nat) : Int))) none = some (0,1,s.length) := bounds_hi (len := s.length) (cap := s.length) (k := .i64) (a := ((1 : Nat) : Int)) (by omega)
    have e3 : (List.take 1 s == [34]) = decide (s.take 1 = [34]) := by rw [Bool.eq_iff_iff]; simp
    simp (maxSteps := 2000000) only [GO,GO2,evK,fillV,setR,binV,intOp,strOp_cat,strOp_eql,strOp_neq,shOp,unV,getR,lenV,partV,V.nj,V.njL,V.cells,Nat.reduceLT,Nat.reduceEqDiff,Nat.reduceAdd,↓reduceIte,Nat.reduceLeDiff,reduceCtorEq,fn65,c65,r65_0,e1,evo_none,evo_some,e2,Nat.sub_zero,e3]
  · have e1 : ¬ ((s.length : Nat) : Int) ≥ ((1 : Nat) : Int) := by omega
    have : s = [] := List.eq_nil_of_length_eq_zero (by omega)
    subst this
    have e1 : ¬ (((0 : Nat) : Int) ≥ ((1 : Nat) : Int)) := by decide
    simp (maxSteps := 2000000) only [GO,GO2,evK,fillV,setR,binV,intOp,strOp_cat,strOp_eql,strOp_neq,shOp,unV,getR,lenV,partV,V.nj,V.njL,V.cells,Nat.reduceLT,Nat.reduceEqDiff,Nat.reduceAdd,↓reduceIte,Nat.reduceLeDiff,reduceCtorEq,fn65,c65,r65_0,e1]
theorem hasS64 (F : Fnz P E T) {s : List UInt8} {h : H} (hl : s.length ≤ 1073741824) : Sp P E (.func 64 [] []) [.str s,.str [34]] h fun v h' => v = .bool (decide (s.drop (s.length - 1) = [34])) ∧ h' = h := by
  refine Sp_fn F.f64 F.p64 (by simp [fn64]) ?_
  by_cases hs : 1 ≤ s.length
  · have e1 : ((s.length : Nat) : Int) ≥ ((1 : Nat) : Int) := by omega
    have e0 : IntKind.i64.wrap (((s.length : Nat) : Int) - ((1 : Nat) : Int)) = ((s.length - 1 : Nat) : Int) := by rw [wrap_le (by omega) (by omega)]; omega
    have e2 : boundsV s.length s.length (some (.int .i64 ((s.length - 1 : Nat) : Int))) none none = some (s.length - 1,s.length,s.length) := bounds_lo (len := s.length) (cap := s.length) (k := .i64) (a := ((s.length - 1 : Nat) : Int)) (by omega)
    have e4 : List.take (s.length - (s.length - 1)) (List.drop (s.length - 1) s) = s.drop (s.length - 1) := List.take_of_length_le (by rw [List.length_drop]; omega)
    have e3 : (List.drop (s.length - 1) s == [34]) = decide (s.drop (s.length - 1) = [34]) := by rw [Bool.eq_iff_iff]; simp
    simp (maxSteps := 2000000) only [GO,GO2,evK,fillV,setR,binV,intOp,strOp_cat,strOp_eql,strOp_neq,shOp,unV,getR,lenV,partV,V.nj,V.njL,V.cells,Nat.reduceLT,Nat.reduceEqDiff,Nat.reduceAdd,↓reduceIte,Nat.reduceLeDiff,reduceCtorEq,fn64,c64,r64_0,e1,e0,evo_none,evo_some,e2,e4,e3]
  · have : s = [] := List.eq_nil_of_length_eq_zero (by omega)
    subst this
    have e1 : ¬ (((0 : Nat) : Int) ≥ ((1 : Nat) : Int)) := by decide
    simp (maxSteps := 2000000) only [GO,GO2,evK,fillV,setR,binV,intOp,strOp_cat,strOp_eql,strOp_neq,shOp,unV,getR,lenV,partV,V.nj,V.njL,V.cells,Nat.reduceLT,Nat.reduceEqDiff,Nat.reduceAdd,↓reduceIte,Nat.reduceLeDiff,reduceCtorEq,fn64,c64,r64_0,e1]
theorem trimP56 (F : Fnz P E T) {s : List UInt8} {h : H} : Sp P E (.func 56 [] []) [.str s,.str [34]] h fun v h' => v = .str (trimP s) ∧ h' = h := by
  refine Sp_fn F.f56 F.p56 (by simp [fn56]) ?_
  simp (maxSteps := 2000000) only [GO,GO2,evK,fillV,setR,binV,intOp,strOp_cat,strOp_eql,strOp_neq,shOp,unV,getR,lenV,partV,V.nj,V.njL,V.cells,Nat.reduceLT,Nat.reduceEqDiff,Nat.reduceAdd,↓reduceIte,Nat.reduceLeDiff,reduceCtorEq,fn56,c56,r56_0]
  refine XC_of (hasP65 F) ?_
  rintro _ h1 ⟨rfl,rfl⟩
  by_cases hc : s.take 1 = [34]
  · have hd := decide_eq_true hc
    have hs : 1 ≤ s.length := by
      cases s with
      | nil => simp at hc
      | cons a r => simp
    have e2 : boundsV s.length s.length (some (.int .i64 ((1 : Nat) : Int))) none none = some (1,s.length,s.length) := bounds_lo (len := s.length) (cap := s.length) (k := .i64) (a := ((1 : Nat) : Int)) (by omega)
    have e4 : List.take (s.length - 1) (List.drop 1 s) = s.drop 1 := List.take_of_length_le (by rw [List.length_drop]; omega)
    simp (maxSteps := 2000000) only [GO,GO2,evK,fillV,setR,binV,intOp,strOp_cat,strOp_eql,strOp_neq,shOp,unV,getR,lenV,partV,V.nj,V.njL,V.cells,Nat.reduceLT,Nat.reduceEqDiff,Nat.reduceAdd,↓reduceIte,Nat.reduceLeDiff,reduceCtorEq,hd,r56_1,evo_none,evo_some,e2,e4]
    simp [trimP,hc]
  · have hd := decide_eq_false hc
    simp (maxSteps := 2000000) only [GO,GO2,evK,fillV,setR,binV,intOp,strOp_cat,strOp_eql,strOp_neq,shOp,unV,getR,lenV,partV,V.nj,V.njL,V.cells,Nat.reduceLT,Nat.reduceEqDiff,Nat.reduceAdd,↓reduceIte,Nat.reduceLeDiff,reduceCtorEq,hd,r56_2]
    simp [trimP,hc]
theorem trimS55 (F : Fnz P E T) {s : List UInt8} {h : H} (hl : s.length ≤ 1073741824) : Sp P E (.func 55 [] []) [.str s,.str [34]] h fun v h' => v = .str (trimS s) ∧ h' = h := by
  refine Sp_fn F.f55 F.p55 (by simp [fn55]) ?_
  simp (maxSteps := 2000000) only [GO,GO2,evK,fillV,setR,binV,intOp,strOp_cat,strOp_eql,strOp_neq,shOp,unV,getR,lenV,partV,V.nj,V.njL,V.cells,Nat.reduceLT,Nat.reduceEqDiff,Nat.reduceAdd,↓reduceIte,Nat.reduceLeDiff,reduceCtorEq,fn55,c55,r55_0]
  refine XC_of (hasS64 F hl) ?_
  rintro _ h1 ⟨rfl,rfl⟩
  by_cases hc : s.drop (s.length - 1) = [34]
  · have hd := decide_eq_true hc
    have hs : 1 ≤ s.length := by
      have := congrArg List.length hc
      rw [List.length_drop] at this
      simp at this; omega
    have e0 : IntKind.i64.wrap (((s.length : Nat) : Int) - ((1 : Nat) : Int)) = ((s.length - 1 : Nat) : Int) := by rw [wrap_le (by omega) (by omega)]; omega
    have e2 : boundsV s.length s.length none (some (.int .i64 ((s.length - 1 : Nat) : Int))) none = some (0,s.length - 1,s.length) := bounds_hi (len := s.length) (cap := s.length) (k := .i64) (a := ((s.length - 1 : Nat) : Int)) (by omega)
    simp (maxSteps := 2000000) only [GO,GO2,evK,fillV,setR,binV,intOp,strOp_cat,strOp_eql,strOp_neq,shOp,unV,getR,lenV,partV,V.nj,V.njL,V.cells,Nat.reduceLT,Nat.reduceEqDiff,Nat.reduceAdd,↓reduceIte,Nat.reduceLeDiff,reduceCtorEq,hd,r55_1,evo_none,evo_some,e0,e2,Nat.sub_zero]
    simp [trimS,hc]
  · have hd := decide_eq_false hc
    simp (maxSteps := 2000000) only [GO,GO2,evK,fillV,setR,binV,intOp,strOp_cat,strOp_eql,strOp_neq,shOp,unV,getR,lenV,partV,V.nj,V.njL,V.cells,Nat.reduceLT,Nat.reduceEqDiff,Nat.reduceAdd,↓reduceIte,Nat.reduceLeDiff,reduceCtorEq,hd,r55_2]
    simp [trimS,hc]
theorem trimP49 (F : Fnz P E T) {s : List UInt8} {h : H} : Sp P E (.func 49 [] []) [.str s,.str [34]] h fun v h' => v = .str (trimP s) ∧ h' = h := by
  refine Sp_fn F.f49 F.p49 (by simp [fn49]) ?_
  simp (maxSteps := 2000000) only [GO,GO2,evK,fillV,setR,binV,intOp,strOp_cat,strOp_eql,strOp_neq,shOp,unV,getR,lenV,partV,V.nj,V.njL,V.cells,Nat.reduceLT,Nat.reduceEqDiff,Nat.reduceAdd,↓reduceIte,Nat.reduceLeDiff,reduceCtorEq,fn49,c49,r49_0]
  refine XC_of (trimP56 F) ?_
  rintro _ h1 ⟨rfl,rfl⟩
  simp (maxSteps := 2000000) only [GO,GO2,evK,fillV,setR,binV,intOp,strOp_cat,strOp_eql,strOp_neq,shOp,unV,getR,lenV,partV,V.nj,V.njL,V.cells,Nat.reduceLT,Nat.reduceEqDiff,Nat.reduceAdd,↓reduceIte,Nat.reduceLeDiff,reduceCtorEq]
theorem trimS48 (F : Fnz P E T) {s : List UInt8} {h : H} (hl : s.length ≤ 1073741824) : Sp P E (.func 48 [] []) [.str s,.str [34]] h fun v h' => v = .str (trimS s) ∧ h' = h := by
  refine Sp_fn F.f48 F.p48 (by simp [fn48]) ?_
  simp (maxSteps := 2000000) only [GO,GO2,evK,fillV,setR,binV,intOp,strOp_cat,strOp_eql,strOp_neq,shOp,unV,getR,lenV,partV,V.nj,V.njL,V.cells,Nat.reduceLT,Nat.reduceEqDiff,Nat.reduceAdd,↓reduceIte,Nat.reduceLeDiff,reduceCtorEq,fn48,c48,r48_0]
  refine XC_of (trimS55 F hl) ?_
  rintro _ h1 ⟨rfl,rfl⟩
  simp (maxSteps := 2000000) only [GO,GO2,evK,fillV,setR,binV,intOp,strOp_cat,strOp_eql,strOp_neq,shOp,unV,getR,lenV,partV,V.nj,V.njL,V.cells,Nat.reduceLT,Nat.reduceEqDiff,Nat.reduceAdd,↓reduceIte,Nat.reduceLeDiff,reduceCtorEq]
end Go.AM.Sc
namespace Go.AM.Sc
open Go.AM
variable {P : Program} {E : Env} {T : H → Prop}
def lwr (b : UInt8) : Nat := b.toNat ||| 32
theorem lwr_fact (b : UInt8) : IntKind.u8.wrap ((BitVec.ofInt IntKind.u8.bits (b.toNat : Int) ||| BitVec.ofInt IntKind.u8.bits 32).toNat : Int) = ((lwr b : Nat) : Int) := by
  have key : ∀ n : Nat,n < 256 → IntKind.u8.wrap ((BitVec.ofInt IntKind.u8.bits (n : Int) ||| BitVec.ofInt IntKind.u8.bits 32).toNat : Int) = ((n ||| 32 : Nat) : Int) := by decide +kernel
  exact key _ b.toNat_lt
theorem lower66 (F : Fnz P E T) {b : UInt8} {h : H} : Sp P E (.func 66 [] []) [.int .u8 b.toNat] h fun v h' => v = .int .u8 (lwr b) ∧ h' = h := by
  refine Sp_fn F.f66 F.p66 (by simp [fn66]) ?_
  have f1 := lwr_fact b
  simp (maxSteps := 2000000) only [GO,GO2,evK,fillV,setR,binV,intOp,strOp,shOp,unV,getR,lenV,partV,V.nj,V.njL,V.cells,Nat.reduceLT,Nat.reduceEqDiff,Nat.reduceAdd,↓reduceIte,Nat.reduceLeDiff,reduceCtorEq,fn66,c66,r66_0,f1]
def hx (b : UInt8) : Nat := if 48 ≤ b.toNat ∧ b.toNat ≤ 57 then b.toNat - 48 else if 97 ≤ b.toNat ∧ b.toNat ≤ 102 then b.toNat - 87 else 16
theorem hex37 (F : Fnz P E T) {b : UInt8} {h : H} : Sp P E (.func 37 [] []) [.int .u8 b.toNat] h fun v h' => v = .int .u8 (hx b) ∧ h' = h := by
  refine Sp_fn F.f37 F.p37 (by simp [fn37]) ?_
  have hb := b.toNat_lt
  unfold hx
  by_cases c1 : (b.toNat : Int) ≥ 48
  · by_cases c2 : (b.toNat : Int) ≤ 57
    · have e1 : IntKind.u8.wrap ((b.toNat : Int) - 48) = ((b.toNat - 48 : Nat) : Int) := by
        have key : ∀ n : Nat,n < 256 → 48 ≤ n → IntKind.u8.wrap ((n : Int) - 48) = ((n - 48 : Nat) : Int) := by decide +kernel
        exact key _ hb (by omega)
      rw [if_pos ⟨by omega,by omega⟩]
      simp (maxSteps := 2000000) only [GO,GO2,evK,fillV,setR,binV,intOp,strOp,shOp,unV,getR,lenV,partV,V.nj,V.njL,V.cells,Nat.reduceLT,Nat.reduceEqDiff,Nat.reduceAdd,↓reduceIte,Nat.reduceLeDiff,reduceCtorEq,fn37,c37,r37_0,r37_1,c1,c2,e1]
    · rw [if_neg (by omega)]
      by_cases c3 : (b.toNat : Int) ≥ 97
      · by_cases c4 : (b.toNat : Int) ≤ 102
        · have e1 : IntKind.u8.wrap (IntKind.u8.wrap ((b.toNat : Int) - 97) + 10) = ((b.toNat - 87 : Nat) : Int) := by
            have key : ∀ n : Nat,n < 256 → 97 ≤ n → IntKind.u8.wrap (IntKind.u8.wrap ((n : Int) - 97) + 10) = ((n - 87 : Nat) : Int) := by decide +kernel
            exact key _ hb (by omega)
          rw [if_pos ⟨by omega,by omega⟩]
          simp (maxSteps := 2000000) only [GO,GO2,evK,fillV,setR,binV,intOp,strOp,shOp,unV,getR,lenV,partV,V.nj,V.njL,V.cells,Nat.reduceLT,Nat.reduceEqDiff,Nat.reduceAdd,↓reduceIte,Nat.reduceLeDiff,reduceCtorEq,fn37,c37,r37_0,r37_2,r37_3,c1,c2,c3,c4,e1]
        · rw [if_neg (by omega)]
          simp (maxSteps := 2000000) only [GO,GO2,evK,fillV,setR,binV,intOp,strOp,shOp,unV,getR,lenV,partV,V.nj,V.njL,V.cells,Nat.reduceLT,Nat.reduceEqDiff,Nat.reduceAdd,↓reduceIte,Nat.reduceLeDiff,reduceCtorEq,fn37,c37,r37_0,r37_2,c1,c2,c3,c4]
          rfl
      · rw [if_neg (by omega)]
        simp (maxSteps := 2000000) only [GO,GO2,evK,fillV,setR,binV,intOp,strOp,shOp,unV,getR,lenV,partV,V.nj,V.njL,V.cells,Nat.reduceLT,Nat.reduceEqDiff,Nat.reduceAdd,↓reduceIte,Nat.reduceLeDiff,reduceCtorEq,fn37,c37,r37_0,r37_2,c1,c2,c3]
        rfl
  · have c3 : ¬ (b.toNat : Int) ≥ 97 := by omega
    rw [if_neg (by omega),if_neg (by omega)]
    simp (maxSteps := 2000000) only [GO,GO2,evK,fillV,setR,binV,intOp,strOp,shOp,unV,getR,lenV,partV,V.nj,V.njL,V.cells,Nat.reduceLT,Nat.reduceEqDiff,Nat.reduceAdd,↓reduceIte,Nat.reduceLeDiff,reduceCtorEq,fn37,c37,r37_0,r37_2,c1,c3]
    rfl
def pv (b : UInt8) : Option Nat := if 48 ≤ b.toNat ∧ b.toNat ≤ 57 then some (b.toNat - 48) else if 97 ≤ lwr b ∧ lwr b ≤ 122 then (if lwr b - 87 < 16 then some (lwr b - 87) else none) else none
theorem pv_lt {b : UInt8} {v : Nat} (h : pv b = some v) : v < 16 := by
  unfold pv at h
  split at h
  · simp only [Option.some.injEq] at h; omega
  · split at h
    · split at h
      · simp only [Option.some.injEq] at h; omega
      · simp at h
    · simp at h
theorem lwr_lt (b : UInt8) : lwr b < 256 := Nat.or_lt_two_pow (n := 8) b.toNat_lt (by decide)
theorem it57 (F : Fnz P E T) {R : V → H → Prop} {l : List UInt8} {c : UInt8} {k n b f0 : Nat} {ρ : Nat → V} {h : H} (hk2 : k < 2) (hn : n ≤ 15) (hc : (bytes l)[k]? = some (.int .u8 c.toNat))
    (hg : h.get b = some (.cells (bytes l) 5 true false (some f0)))
    (h99 : ρ 99 = .slice (some (b,0)) 2 2 true) (h100 : ρ 100 = .int .i64 ((2 : Nat) : Int)) (h101 : ρ 101 = .int .i64 k) (h1 : ρ 1 = .int .i64 16) (h8 : ρ 8 = .bool false) (h10 : ρ 10 = .int .u64 1152921504606846976) (h11 : ρ 11 = .int .u64 255) (h12 : ρ 12 = .bool false) (h13 : ρ 13 = .int .u64 n)
    {K : List Fr}
    (hbad : pv c = none → R (.tup [.int .u64 0,.iface 110 (.int .i64 2)]) h)
    (hok : ∀ v,pv c = some v → ∀ ρ' : Nat → V,ρ' 99 = .slice (some (b,0)) 2 2 true → ρ' 100 = .int .i64 ((2 : Nat) : Int) → ρ' 101 = .int .i64 ((k + 1 : Nat) : Int) → ρ' 1 = .int .i64 16 → ρ' 8 = .bool false → ρ' 10 = .int .u64 1152921504606846976 → ρ' 11 = .int .u64 255 → ρ' 12 = .bool false → ρ' 13 = .int .u64 ((16 * n + v : Nat) : Int) →
      XL P E none 172 b57_41 K ρ' h (Fin [.t 6,.t 7] R)) : XL P E none 172 b57_41 K ρ h (Fin [.t 6,.t 7] R) := by
  have hcb := c.toNat_lt
  have hlt : (k : Int) < ((2 : Nat) : Int) := by omega
  have hw : IntKind.i64.wrap ((k : Int) + 1) = ((k + 1 : Nat) : Int) := wrap_nat (n := k + 1) (by omega)
  have g1 : ¬ (n : Int) ≥ 1152921504606846976 := by omega
  have g2 : IntKind.u8.wrap 16 = 16 := by decide
  have g3 : IntKind.u64.wrap 16 = 16 := by decide
  have g4 : IntKind.u64.wrap ((n : Int) * 16) = ((16 * n : Nat) : Int) := by
    have key : ∀ n : Nat,n < 16 → IntKind.u64.wrap ((n : Int) * 16) = ((16 * n : Nat) : Int) := by decide +kernel
    exact key n (by omega)
  have fin : ∀ v,pv c = some v → ∀ ρ' : Nat → V,ρ' 99 = .slice (some (b,0)) 2 2 true → ρ' 100 = .int .i64 ((2 : Nat) : Int) → ρ' 101 = .int .i64 k → ρ' 1 = .int .i64 16 → ρ' 8 = .bool false → ρ' 10 = .int .u64 1152921504606846976 → ρ' 11 = .int .u64 255 → ρ' 12 = .bool false → ρ' 13 = .int .u64 n → ρ' 16 = .int .u8 v →
      XO P E none 172 r57_31 (.c (.cond (.t 137) (.seq (.region r57_32) (.ret)) (.skip)) :: .c (.seq (.seq (.region r57_33) (.cond (.t 141) (.seq (.region r57_34) (.ret)) (.skip))) (.seq (.region r57_35) (.seq (.region r57_36) (.seq (.seq (.region r57_37) (.cond (.t 159) (.seq (.region r57_38) (.ret)) (.skip))) (.region r57_39))))) :: .b 4 :: .c (.region r57_40) :: .l b57_41 :: K) ρ' h (Fin [.t 6,.t 7] R) := by
    intro v hv ρ' q99 q100 q101 q1 q8 q10 q11 q12 q13 q16
    have hv16 := pv_lt hv
    have f1 : ¬ (v : Int) ≥ 16 := by omega
    have f2 : IntKind.u64.wrap (v : Int) = (v : Int) := by
      have key : ∀ n : Nat,n < 16 → IntKind.u64.wrap (n : Int) = (n : Int) := by decide +kernel
      exact key v hv16
    have f3 : IntKind.u64.wrap (((16 * n : Nat) : Int) + (v : Int)) = ((16 * n + v : Nat) : Int) := by
      have key : ∀ n : Nat,n < 256 → IntKind.u64.wrap (n : Int) = (n : Int) := by decide +kernel
      rw [← Int.natCast_add]; exact key _ (by omega)
    have f4 : ¬ ((16 * n + v : Nat) : Int) < ((16 * n : Nat) : Int) := by omega
    have f5 : ¬ ((16 * n + v : Nat) : Int) > 255 := by omega
    simp (maxSteps := 2000000) only [GO,GO2,evK,fillV,setR,binV,intOp,strOp,shOp,unV,getR,lenV,partV,V.nj,V.njL,V.cells,Nat.reduceLT,Nat.reduceEqDiff,Nat.reduceAdd,↓reduceIte,Nat.reduceLeDiff,reduceCtorEq,r57_31,r57_33,r57_35,r57_36,r57_37,r57_39,r57_40,q1,q10,q11,q13,q16,q101,g1,g2,g3,g4,f1,f2,f3,f4,f5,hw]
    exact hok v hv _ q99 q100 rfl q1 q8 q10 q11 q12 rfl
  have lb := lwr_lt c
  have rest : ∀ ρ' : Nat → V,ρ' 99 = .slice (some (b,0)) 2 2 true → ρ' 100 = .int .i64 ((2 : Nat) : Int) → ρ' 101 = .int .i64 k → ρ' 1 = .int .i64 16 → ρ' 8 = .bool false → ρ' 10 = .int .u64 1152921504606846976 → ρ' 11 = .int .u64 255 → ρ' 12 = .bool false → ρ' 13 = .int .u64 n → ρ' 15 = .int .u8 c.toNat →
      XO P E none 172 r57_26 (.c (.cond (.t 112) (.region r57_27) (.seq (.region r57_28) (.cond (.t 121) (.region r57_29) (.seq (.region r57_30) (.ret))))) :: .b 5 :: .c (.seq (.seq (.region r57_31) (.cond (.t 137) (.seq (.region r57_32) (.ret)) (.skip))) (.seq (.seq (.region r57_33) (.cond (.t 141) (.seq (.region r57_34) (.ret)) (.skip))) (.seq (.region r57_35) (.seq (.region r57_36) (.seq (.seq (.region r57_37) (.cond (.t 159) (.seq (.region r57_38) (.ret)) (.skip))) (.region r57_39)))))) :: .b 4 :: .c (.region r57_40) :: .l b57_41 :: K) ρ' h (Fin [.t 6,.t 7] R) := by
    intro ρ' q99 q100 q101 q1 q8 q10 q11 q12 q13 q15
    have letter : pv c = (if 97 ≤ lwr c ∧ lwr c ≤ 122 then (if lwr c - 87 < 16 then some (lwr c - 87) else none) else none) → ∀ ρ' : Nat → V,ρ' 99 = .slice (some (b,0)) 2 2 true → ρ' 100 = .int .i64 ((2 : Nat) : Int) → ρ' 101 = .int .i64 k → ρ' 1 = .int .i64 16 → ρ' 8 = .bool false → ρ' 10 = .int .u64 1152921504606846976 → ρ' 11 = .int .u64 255 → ρ' 12 = .bool false → ρ' 13 = .int .u64 n → ρ' 15 = .int .u8 c.toNat →
        XO P E none 172 r57_28 (.c (.cond (.t 121) (.region r57_29) (.seq (.region r57_30) (.ret))) :: .b 5 :: .c (.seq (.seq (.region r57_31) (.cond (.t 137) (.seq (.region r57_32) (.ret)) (.skip))) (.seq (.seq (.region r57_33) (.cond (.t 141) (.seq (.region r57_34) (.ret)) (.skip))) (.seq (.region r57_35) (.seq (.region r57_36) (.seq (.seq (.region r57_37) (.cond (.t 159) (.seq (.region r57_38) (.ret)) (.skip))) (.region r57_39)))))) :: .b 4 :: .c (.region r57_40) :: .l b57_41 :: K) ρ' h (Fin [.t 6,.t 7] R) := by
      intro hpv ρ' q99 q100 q101 q1 q8 q10 q11 q12 q13 q15
      simp (maxSteps := 2000000) only [GO,GO2,evK,fillV,setR,binV,intOp,strOp,shOp,unV,getR,lenV,partV,V.nj,V.njL,V.cells,Nat.reduceLT,Nat.reduceEqDiff,Nat.reduceAdd,↓reduceIte,Nat.reduceLeDiff,reduceCtorEq,r57_28,q15]
      refine XC_of (lower66 F) ?_
      rintro _ h1 ⟨rfl,rfl⟩
      by_cases d1 : (97 : Int) ≤ (lwr c : Int)
      · simp (maxSteps := 2000000) only [GO,GO2,evK,fillV,setR,binV,intOp,strOp,shOp,unV,getR,lenV,partV,V.nj,V.njL,V.cells,Nat.reduceLT,Nat.reduceEqDiff,Nat.reduceAdd,↓reduceIte,Nat.reduceLeDiff,reduceCtorEq,d1,q15]
        refine XC_of (lower66 F) ?_
        rintro _ h1 ⟨rfl,rfl⟩
        by_cases d2 : (lwr c : Int) ≤ 122
        · simp (maxSteps := 2000000) only [GO,GO2,evK,fillV,setR,binV,intOp,strOp,shOp,unV,getR,lenV,partV,V.nj,V.njL,V.cells,Nat.reduceLT,Nat.reduceEqDiff,Nat.reduceAdd,↓reduceIte,Nat.reduceLeDiff,reduceCtorEq,d2,r57_29,q15]
          refine XC_of (lower66 F) ?_
          rintro _ h1 ⟨rfl,rfl⟩
          have f1 : IntKind.u8.wrap (IntKind.u8.wrap ((lwr c : Int) - 97) + 10) = ((lwr c - 87 : Nat) : Int) := by
            have key : ∀ n : Nat,n < 256 → 97 ≤ n → IntKind.u8.wrap (IntKind.u8.wrap ((n : Int) - 97) + 10) = ((n - 87 : Nat) : Int) := by decide +kernel
            exact key _ lb (by omega)
          rw [if_pos ⟨by omega,by omega⟩] at hpv
          by_cases d3 : lwr c - 87 < 16
          · rw [if_pos d3] at hpv
            simp (maxSteps := 2000000) only [GO,GO2,evK,fillV,setR,binV,intOp,strOp,shOp,unV,getR,lenV,partV,V.nj,V.njL,V.cells,Nat.reduceLT,Nat.reduceEqDiff,Nat.reduceAdd,↓reduceIte,Nat.reduceLeDiff,reduceCtorEq,f1]
            exact fin _ hpv _ q99 q100 q101 q1 q8 q10 q11 q12 q13 rfl
          · have d4 : ((lwr c - 87 : Nat) : Int) ≥ 16 := by omega
            rw [if_neg d3] at hpv
            simp (maxSteps := 2000000) only [GO,GO2,evK,fillV,setR,binV,intOp,strOp,shOp,unV,getR,lenV,partV,V.nj,V.njL,V.cells,Nat.reduceLT,Nat.reduceEqDiff,Nat.reduceAdd,↓reduceIte,Nat.reduceLeDiff,reduceCtorEq,f1,r57_31,r57_32,q1,g2,d4]
            exact hbad hpv
        · rw [if_neg (by omega)] at hpv
          simp (maxSteps := 2000000) only [GO,GO2,evK,fillV,setR,binV,intOp,strOp,shOp,unV,getR,lenV,partV,V.nj,V.njL,V.cells,Nat.reduceLT,Nat.reduceEqDiff,Nat.reduceAdd,↓reduceIte,Nat.reduceLeDiff,reduceCtorEq,d2,r57_30]
          exact hbad hpv
      · rw [if_neg (by omega)] at hpv
        simp (maxSteps := 2000000) only [GO,GO2,evK,fillV,setR,binV,intOp,strOp,shOp,unV,getR,lenV,partV,V.nj,V.njL,V.cells,Nat.reduceLT,Nat.reduceEqDiff,Nat.reduceAdd,↓reduceIte,Nat.reduceLeDiff,reduceCtorEq,d1,r57_30]
        exact hbad hpv
    by_cases c1 : (48 : Int) ≤ (c.toNat : Int)
    · by_cases c2 : (c.toNat : Int) ≤ 57
      · have e1 : IntKind.u8.wrap ((c.toNat : Int) - 48) = ((c.toNat - 48 : Nat) : Int) := by
          have key : ∀ n : Nat,n < 256 → 48 ≤ n → IntKind.u8.wrap ((n : Int) - 48) = ((n - 48 : Nat) : Int) := by decide +kernel
          exact key _ hcb (by omega)
        simp (maxSteps := 2000000) only [GO,GO2,evK,fillV,setR,binV,intOp,strOp,shOp,unV,getR,lenV,partV,V.nj,V.njL,V.cells,Nat.reduceLT,Nat.reduceEqDiff,Nat.reduceAdd,↓reduceIte,Nat.reduceLeDiff,reduceCtorEq,r57_26,r57_27,q15,c1,c2,e1]
        exact fin _ (by unfold pv; rw [if_pos ⟨by omega,by omega⟩]) _ q99 q100 q101 q1 q8 q10 q11 q12 q13 rfl
      · simp (maxSteps := 2000000) only [GO,GO2,evK,fillV,setR,binV,intOp,strOp,shOp,unV,getR,lenV,partV,V.nj,V.njL,V.cells,Nat.reduceLT,Nat.reduceEqDiff,Nat.reduceAdd,↓reduceIte,Nat.reduceLeDiff,reduceCtorEq,r57_26,q15,c1,c2]
        exact letter (by unfold pv; rw [if_neg (by omega)]) _ q99 q100 q101 q1 q8 q10 q11 q12 q13 q15
    · simp (maxSteps := 2000000) only [GO,GO2,evK,fillV,setR,binV,intOp,strOp,shOp,unV,getR,lenV,partV,V.nj,V.njL,V.cells,Nat.reduceLT,Nat.reduceEqDiff,Nat.reduceAdd,↓reduceIte,Nat.reduceLeDiff,reduceCtorEq,r57_26,q15,c1]
      exact letter (by unfold pv; rw [if_neg (by omega)]) _ q99 q100 q101 q1 q8 q10 q11 q12 q13 q15
  rw [u57_41]
  by_cases c0 : ((c.toNat : Int) == 95) = true
  · simp (maxSteps := 2000000) only [GO,GO2,evK,fillV,setR,binV,intOp,strOp,shOp,unV,getR,lenV,partV,V.nj,V.njL,V.cells,Nat.reduceLT,Nat.reduceEqDiff,Nat.reduceAdd,↓reduceIte,Nat.reduceLeDiff,reduceCtorEq,r57_24,r57_25,h99,h100,h101,h8,hlt,hg,hc,Int.natCast_nonneg,Int.toNat_natCast,Nat.mul_one,Nat.zero_add,c0]
    exact rest _ h99 h100 h101 h1 h8 h10 h11 h12 h13 rfl
  · have c0' : ((c.toNat : Int) == 95) = false := by simpa using c0
    simp (maxSteps := 2000000) only [GO,GO2,evK,fillV,setR,binV,intOp,strOp,shOp,unV,getR,lenV,partV,V.nj,V.njL,V.cells,Nat.reduceLT,Nat.reduceEqDiff,Nat.reduceAdd,↓reduceIte,Nat.reduceLeDiff,reduceCtorEq,r57_24,r57_25,h99,h100,h101,h8,hlt,hg,hc,Int.natCast_nonneg,Int.toNat_natCast,Nat.mul_one,Nat.zero_add,c0']
    exact rest _ h99 h100 h101 h1 h8 h10 h11 h12 h13 rfl
def pu (a b : UInt8) : Option Nat := match pv a,pv b with
  | some i,some j => some (16 * i + j)
  | _,_ => none
def puV : Option Nat → V
  | some n => .tup [.int .u64 n,.nilIface]
  | none => .tup [.int .u64 0,.iface 110 (.int .i64 2)]
theorem parse57 (F : Fnz P E T) {a c : UInt8} {h : H} : Sp P E (.func 57 [] []) [.str [a,c],.int .i64 16,.int .i64 8] h fun v h' => v = puV (pu a c) ∧ Kp h h' := by
  refine Sp_fn F.f57 F.p57 (by simp [fn57]) ?_
  have s1 : (2 : Int) ≤ 16 := by decide
  have s2 : (16 : Int) ≤ 36 := by decide
  have s3 : ¬ (8 : Int) < 0 := by decide
  have s4 : ¬ (8 : Int) > 64 := by decide
  have e0 : ([a,c] == ([] : List UInt8)) = false := rfl
  have e1 : ((16 : Int) == 0) = false := rfl
  have e2 : ((8 : Int) == 0) = false := rfl
  have e3 : ((16 : Int) == 10) = false := rfl
  have e4 : ((16 : Int) == 16) = true := rfl
  have e5 : IntKind.u64.wrap 8 = 8 := by decide
  simp (maxSteps := 2000000) only [GO,GO2,evK,fillV,setR,binV,intOp,strOp,shOp,unV,getR,lenV,partV,V.nj,V.njL,V.cells,Nat.reduceLT,Nat.reduceEqDiff,Nat.reduceAdd,↓reduceIte,Nat.reduceLeDiff,reduceCtorEq,fn57,c57,r57_0,r57_1,r57_3,r57_4,r57_5,r57_16,r57_17,r57_19,r57_20,r57_22,r57_23,s1,s2,s3,s4,e0,e1,e2,e3,e4,e5]
  have hk0 : Kp h (h.psh (.cells (bytes [a,c]) 5 true false (some 0))) := Keeps.psh (Nat.le_refl _) _
  have hg : (h.psh (.cells (bytes [a,c]) 5 true false (some 0))).get h.size = some (.cells (bytes [a,c]) 5 true false (some 0)) := psh_same _ _
  have f255 : IntKind.u64.wrap (IntKind.u64.wrap (1 * 2 ^ min (Int.toNat 8) IntKind.u64.bits) - 1) = 255 := by decide
  refine it57 F (l := [a,c]) (c := a) (k := 0) (n := 0) (b := h.size) (f0 := 0) (by decide) (by decide) rfl hg rfl rfl rfl rfl rfl rfl (congrArg (V.int .u64) f255) rfl rfl ?_ ?_
  · intro hp
    exact ⟨by simp only [pu,hp]; rfl,hk0⟩
  intro v hv ρ1 q99 q100 q101 q1 q8 q10 q11 q12 q13
  have hv16 := pv_lt hv
  refine it57 F (l := [a,c]) (c := c) (k := 1) (n := v) (b := h.size) (f0 := 0) (by decide) (by omega) rfl hg q99 q100 q101 q1 q8 q10 q11 q12 (by rw [q13]; simp) ?_ ?_
  · intro hp
    exact ⟨by simp only [pu,hv,hp]; rfl,hk0⟩
  intro w hw ρ2 t99 t100 t101 t1 t8 t10 t11 t12 t13
  rw [u57_41]
  have hn : ¬ ((2 : Nat) : Int) < ((2 : Nat) : Int) := by omega
  simp (maxSteps := 2000000) only [GO,GO2,evK,fillV,setR,binV,intOp,strOp,shOp,unV,getR,lenV,partV,V.nj,V.njL,V.cells,Nat.reduceLT,Nat.reduceEqDiff,Nat.reduceAdd,↓reduceIte,Nat.reduceLeDiff,reduceCtorEq,t99,t100,t101,hn,r57_42,r57_44,t12,t13]
  exact ⟨by simp only [pu,hv,hw]; rfl,hk0⟩
end Go.AM.Sc
namespace Go.AM.Sc
open Go.AM
variable {P : Program} {E : Env} {T : H → Prop}
theorem parse50 (F : Fnz P E T) {a c : UInt8} {h : H} (ht : T h) : Sp P E (.func 50 [] []) [.str [a,c],.int .i64 16,.int .i64 8] h fun v h' => (∃ e,v = .tup [.int .u64 ((pu a c).getD 0 : Nat),e]) ∧ Kp h h' := by
  refine Sp_fn F.f50 F.p50 (by simp [fn50]) ?_
  simp (maxSteps := 2000000) only [GO,GO2,evK,fillV,setR,binV,intOp,strOp,shOp,unV,getR,lenV,partV,V.nj,V.njL,V.cells,Nat.reduceLT,Nat.reduceEqDiff,Nat.reduceAdd,↓reduceIte,Nat.reduceLeDiff,reduceCtorEq,fn50,c50,r50_0,r50_1]
  refine XC_of (parse57 F) ?_
  rintro _ h1 ⟨rfl,k1⟩
  cases hp : pu a c with
  | some n =>
    have e1 : eqV h1 EqT.ifc V.nilIface V.nilIface = some true := rfl
    simp (maxSteps := 2000000) only [GO,GO2,evK,fillV,setR,binV,intOp,strOp,shOp,unV,getR,lenV,partV,V.nj,V.njL,V.cells,Nat.reduceLT,Nat.reduceEqDiff,Nat.reduceAdd,↓reduceIte,Nat.reduceLeDiff,reduceCtorEq,puV,r50_2,r50_4,e1]
    exact ⟨⟨_,rfl⟩,k1⟩
  | none =>
    have e1 : eqV h1 EqT.ifc (V.iface 110 (V.int IntKind.i64 2)) V.nilIface = some false := rfl
    simp (maxSteps := 2000000) only [GO,GO2,evK,fillV,setR,binV,intOp,strOp,shOp,unV,getR,lenV,partV,V.nj,V.njL,V.cells,Nat.reduceLT,Nat.reduceEqDiff,Nat.reduceAdd,↓reduceIte,Nat.reduceLeDiff,reduceCtorEq,puV,r50_2,r50_3,e1]
    refine XC_of (F.toErr [a,c] h1 (by simp) (F.tkeep _ _ ht k1)) ?_
    rintro _ h2 ⟨rfl,rfl⟩
    simp (maxSteps := 2000000) only [GO,GO2,evK,fillV,setR,binV,intOp,strOp,shOp,unV,getR,lenV,partV,V.nj,V.njL,V.cells,Nat.reduceLT,Nat.reduceEqDiff,Nat.reduceAdd,↓reduceIte,Nat.reduceLeDiff,reduceCtorEq]
    exact ⟨⟨_,rfl⟩,k1⟩
def dec36 : List UInt8 → List UInt8
  | [] => []
  | [c] => [c]
  | c :: d :: r =>
    if c.toNat = 92 then
      match r with
      | a :: b :: r' => if d.toNat = 120 then UInt8.ofNat ((pu a b).getD 0) :: dec36 r' else d :: dec36 (a :: b :: r')
      | r => d :: dec36 r
    else c :: dec36 (d :: r)
theorem dec36_1 {c : UInt8} {r : List UInt8} (h : ¬ c.toNat = 92 ∨ r = []) : dec36 (c :: r) = c :: dec36 r := by
  cases r with
  | nil => simp [dec36]
  | cons d r =>
    rcases h with h | h
    · conv => lhs; unfold dec36
      rw [if_neg h]
    · simp at h
theorem dec36_2 {c d : UInt8} {r : List UInt8} (hc : c.toNat = 92) (h : ¬ d.toNat = 120 ∨ r.length < 2) : dec36 (c :: d :: r) = d :: dec36 r := by
  conv => lhs; unfold dec36
  rw [if_pos hc]
  match r,h with
  | [],_ => rfl
  | [_],_ => rfl
  | a :: b :: r,.inl h => simp only [h,if_false]
  | a :: b :: r,.inr h => simp at h; omega
theorem dec36_3 {c d a b : UInt8} {r : List UInt8} (hc : c.toNat = 92) (h : d.toNat = 120) : dec36 (c :: d :: a :: b :: r) = UInt8.ofNat ((pu a b).getD 0) :: dec36 r := by
  conv => lhs; unfold dec36
  rw [if_pos hc]
  simp only [h,if_true]
theorem dec36_len : ∀ (n : Nat) (l : List UInt8),l.length ≤ n → (dec36 l).length ≤ l.length := by
  intro n
  induction n with
  | zero => intro l h; have : l = [] := List.eq_nil_of_length_eq_zero (by omega); subst this; simp [dec36]
  | succ n ih =>
    intro l h
    match l with
    | [] => simp [dec36]
    | [c] => simp [dec36]
    | c :: d :: r =>
      simp only [List.length_cons] at h
      by_cases hc : c.toNat = 92
      · by_cases hd : d.toNat = 120 ∧ 2 ≤ r.length
        · match r,hd with
          | a :: b :: r,hd =>
            rw [dec36_3 hc hd.1]
            simp only [List.length_cons] at h ⊢
            have := ih r (by omega); omega
        · rw [dec36_2 hc (by omega)]
          simp only [List.length_cons]
          have := ih r (by omega); omega
      · rw [dec36_1 (.inl hc)]
        have := ih (d :: r) (by simp only [List.length_cons]; omega)
        simp only [List.length_cons] at this ⊢; omega
theorem pu_lt (a b : UInt8) : (pu a b).getD 0 < 256 := by
  unfold pu
  cases ha : pv a with
  | none => simp
  | some i =>
    cases hb : pv b with
    | none => simp
    | some j =>
      have := pv_lt ha
      have := pv_lt hb
      simp only [Option.getD_some]; omega
theorem app1s {h : H} {lo : Nat} {v : V} {s : List UInt8} {y : UInt8} (a : Buf h lo v s) (hlo : lo ≤ h.size) (hb : s.length + 1 ≤ 549755813888) :
    ∃ v' h',appV (h.psh (.cells [.int .u8 y.toNat] 5 false false none)) 5 1 1 v (.slice (some (h.size,0)) 1 1 false) = some (.eff v' h') ∧ Buf h' lo v' (s ++ [y]) ∧ Keeps lo h (h.psh (.cells [.int .u8 y.toNat] 5 false false none)) ∧ Keeps lo (h.psh (.cells [.int .u8 y.toNat] 5 false false none)) h' := by
  have k2 : Keeps lo h (h.psh (.cells [.int .u8 y.toNat] 5 false false none)) := Keeps.psh hlo _
  obtain ⟨v',h2,e1,e2,e3,z2⟩ := buf_app (x := .slice (some (h.size,0)) 1 1 false) (y := [y]) (a.keep (Keeps.psh (Nat.le_refl _) (.cells [.int .u8 y.toNat] 5 false false none)) (Nat.le_refl _)) (by rw [psh_size]; omega) rfl (by simp [elemsV,psh_same,getR,bytes_one]) (by simpa using hb)
  exact ⟨v',h2,e1,e2,k2,e3⟩
theorem app1 {h : H} {lo : Nat} {v : V} {s : List UInt8} {y : UInt8} (a : Buf h lo v s) (hlo : lo ≤ h.size) (hb : s.length + 1 ≤ 549755813888) :
    ∃ v' h',appV (h.psh (.cells [.int .u8 y.toNat] 5 false false none)) 5 1 1 v (.slice (some (h.size,0)) 1 1 false) = some (.eff v' h') ∧ Buf h' lo v' (s ++ [y]) ∧ Keeps lo h h' := by
  obtain ⟨v',h',e1,e2,e3,e4⟩ := app1s a hlo hb
  exact ⟨v',h',e1,e2,e3.trans e4⟩
theorem loop36 (F : Fnz P E T) {s : List UInt8} (hlen : s.length ≤ 134217728) (h0 : H) (ht : T h0) (K : List Fr) (Q : Po)
    (hQ : ∀ (ρ' : Nat → V) h',Buf h' h0.size (ρ' 3) (dec36 s) → Kp h0 h' → X P E none 71 K ρ' h' Q) :
    ∀ (d k : Nat) (o : List UInt8) (ρ : Nat → V) (h : H),s.length - k ≤ d → k ≤ s.length → o.length ≤ k → o ++ dec36 (s.drop k) = dec36 s → ρ 0 = .str s → ρ 4 = .int .i64 k → Buf h h0.size (ρ 3) o → Kp h0 h →
      XL P E none 71 b36_11 (.b 0 :: K) ρ h Q := by
  intro d
  induction d with
  | zero =>
    intro k o ρ h hd hk ho hoo q0 q4 hb hkp
    have hke : ¬ k < s.length := by omega
    rw [List.drop_eq_nil_of_le (by omega)] at hoo
    simp only [dec36,List.append_nil] at hoo
    subst hoo
    rw [u36_11]
    simp (maxSteps := 2000000) only [GO,GO2,evK,fillV,setR,binV,intOp,strOp,shOp,unV,getR,lenV,partV,V.nj,V.njL,V.cells,Nat.reduceLT,Nat.reduceEqDiff,Nat.reduceAdd,↓reduceIte,Nat.reduceLeDiff,reduceCtorEq,r36_1,q0,q4,Int.ofNat_lt,hke]
    exact hQ _ _ hb hkp
  | succ d ih =>
    intro k o ρ h hd hk ho hoo q0 q4 hb hkp
    by_cases hke : k < s.length
    rotate_left
    · rw [List.drop_eq_nil_of_le (by omega)] at hoo
      simp only [dec36,List.append_nil] at hoo
      subst hoo
      rw [u36_11]
      simp (maxSteps := 2000000) only [GO,GO2,evK,fillV,setR,binV,intOp,strOp,shOp,unV,getR,lenV,partV,V.nj,V.njL,V.cells,Nat.reduceLT,Nat.reduceEqDiff,Nat.reduceAdd,↓reduceIte,Nat.reduceLeDiff,reduceCtorEq,r36_1,q0,q4,Int.ofNat_lt,hke]
      exact hQ _ _ hb hkp
    have done : ∀ (ρ' : Nat → V) (h' : H) (j : Nat) (y : UInt8),ρ' 0 = .str s → ρ' 4 = .int .i64 j → k ≤ j → j < s.length → (o ++ [y]) ++ dec36 (s.drop (j + 1)) = dec36 s → Buf h' h0.size (ρ' 3) (o ++ [y]) → Kp h0 h' →
        XO P E none 71 r36_10 (.l b36_11 :: .b 0 :: K) ρ' h' Q := by
      intro ρ' h' j y w0 w4 hj hj2 hoo' hb' hk'
      have hw : IntKind.i64.wrap ((j : Int) + 1) = ((j + 1 : Nat) : Int) := wrap_nat (n := j + 1) (by omega)
      simp (maxSteps := 2000000) only [GO,GO2,evK,fillV,setR,binV,intOp,strOp,shOp,unV,getR,lenV,partV,V.nj,V.njL,V.cells,Nat.reduceLT,Nat.reduceEqDiff,Nat.reduceAdd,↓reduceIte,Nat.reduceLeDiff,reduceCtorEq,r36_10,w4,hw]
      exact ih (j + 1) (o ++ [y]) _ _ (by omega) (by omega) (by simp only [List.length_append,List.length_cons,List.length_nil]; omega) hoo' w0 rfl hb' hk'
    have hsz := hkp.size
    have hge : s[k]? = some s[k] := by simp [hke]
    have hdk := List.drop_eq_getElem_cons hke
    have hw1 : IntKind.i64.wrap ((k : Int) + 1) = ((k + 1 : Nat) : Int) := wrap_nat (n := k + 1) (by omega)
    rw [u36_11]
    by_cases c1 : ((s[k].toNat : Int) != 92) = true
    · have hne : ¬ s[k].toNat = 92 := by have := bne_iff_ne.1 c1; omega
      obtain ⟨v',h2,e1,e2,e3⟩ := app1 (y := s[k]) hb hsz (by omega)
      simp (maxSteps := 2000000) only [GO,GO2,evK,fillV,setR,binV,intOp,strOp,shOp,unV,getR,lenV,partV,V.nj,V.njL,V.cells,Nat.reduceLT,Nat.reduceEqDiff,Nat.reduceAdd,↓reduceIte,Nat.reduceLeDiff,reduceCtorEq,r36_1,r36_2,r36_3,q0,q4,Int.ofNat_lt,hke,hge,Int.natCast_nonneg,Int.toNat_natCast,c1,e1]
      refine done _ h2 k s[k] q0 q4 (Nat.le_refl _) hke ?_ e2 (Keeps.trans hkp e3)
      rw [List.append_assoc,← hoo,hdk,dec36_1 (.inl hne)]; rfl
    have c1' : ((s[k].toNat : Int) != 92) = false := by simpa using c1
    have hc92 : s[k].toNat = 92 := by
      have := c1'
      simp at this; omega
    by_cases c2 : ((k + 1 : Nat) : Int) ≥ (s.length : Int)
    · obtain ⟨v',h2,e1,e2,e3⟩ := app1 (y := s[k]) hb hsz (by omega)
      simp (maxSteps := 2000000) only [GO,GO2,evK,fillV,setR,binV,intOp,strOp,shOp,unV,getR,lenV,partV,V.nj,V.njL,V.cells,Nat.reduceLT,Nat.reduceEqDiff,Nat.reduceAdd,↓reduceIte,Nat.reduceLeDiff,reduceCtorEq,r36_1,r36_2,r36_3,q0,q4,Int.ofNat_lt,hke,hge,Int.natCast_nonneg,Int.toNat_natCast,c1',hw1,c2,e1]
      refine done _ h2 k s[k] q0 q4 (Nat.le_refl _) hke ?_ e2 (Keeps.trans hkp e3)
      rw [List.append_assoc,← hoo,hdk,dec36_1 (.inr (List.drop_eq_nil_of_le (by omega)))]; rfl
    have hk1 : k + 1 < s.length := by omega
    have hge1 : s[k + 1]? = some s[k + 1] := by simp [hk1]
    have hdk1 := List.drop_eq_getElem_cons hk1
    have hw3 : IntKind.i64.wrap (((k + 1 : Nat) : Int) + 2) = ((k + 3 : Nat) : Int) := wrap_nat (n := k + 3) (by omega)
    have two : ∀ o',o' = o ++ [s[k + 1]] → (¬ s[k + 1].toNat = 120 ∨ (List.drop (k + 2) s).length < 2) → o' ++ dec36 (s.drop (k + 1 + 1)) = dec36 s := by
      rintro _ rfl hc
      rw [List.append_assoc,← hoo,hdk,hdk1,dec36_2 hc92 hc]; rfl
    by_cases c3 : ((s[k + 1].toNat : Int) != 120) = true
    · have hne : ¬ s[k + 1].toNat = 120 := by have := bne_iff_ne.1 c3; omega
      obtain ⟨v',h2,e1,e2,e3⟩ := app1 (y := s[k + 1]) hb hsz (by omega)
      simp (maxSteps := 2000000) only [GO,GO2,evK,fillV,setR,binV,intOp,strOp,shOp,unV,getR,lenV,partV,V.nj,V.njL,V.cells,Nat.reduceLT,Nat.reduceEqDiff,Nat.reduceAdd,↓reduceIte,Nat.reduceLeDiff,reduceCtorEq,r36_1,r36_2,r36_4,r36_5,r36_6,q0,q4,Int.ofNat_lt,hke,hk1,hge,hge1,Int.natCast_nonneg,Int.toNat_natCast,c1',hw1,c2,c3,e1]
      exact done _ h2 (k + 1) s[k + 1] q0 rfl (by omega) hk1 (two _ rfl (.inl hne)) e2 (Keeps.trans hkp e3)
    have c3' : ((s[k + 1].toNat : Int) != 120) = false := by simpa using c3
    have hc120 : s[k + 1].toNat = 120 := by
      have := c3'
      simp at this; omega
    by_cases c4 : ((k + 3 : Nat) : Int) ≥ (s.length : Int)
    · obtain ⟨v',h2,e1,e2,e3⟩ := app1 (y := s[k + 1]) hb hsz (by omega)
      simp (maxSteps := 2000000) only [GO,GO2,evK,fillV,setR,binV,intOp,strOp,shOp,unV,getR,lenV,partV,V.nj,V.njL,V.cells,Nat.reduceLT,Nat.reduceEqDiff,Nat.reduceAdd,↓reduceIte,Nat.reduceLeDiff,reduceCtorEq,r36_1,r36_2,r36_4,r36_5,r36_6,q0,q4,Int.ofNat_lt,hke,hk1,hge,hge1,Int.natCast_nonneg,Int.toNat_natCast,c1',hw1,hw3,c2,c3',c4,e1]
      exact done _ h2 (k + 1) s[k + 1] q0 rfl (by omega) hk1 (two _ rfl (.inr (by rw [List.length_drop]; omega))) e2 (Keeps.trans hkp e3)
    have hk3 : k + 3 < s.length := by omega
    have hk2 : k + 2 < s.length := by omega
    have hdk2 := List.drop_eq_getElem_cons hk2
    have hdk3 := List.drop_eq_getElem_cons hk3
    have hw2 : IntKind.i64.wrap (((k + 1 : Nat) : Int) + 1) = ((k + 2 : Nat) : Int) := wrap_nat (n := k + 2) (by omega)
    have hw4 : IntKind.i64.wrap (((k + 1 : Nat) : Int) + 3) = ((k + 4 : Nat) : Int) := wrap_nat (n := k + 4) (by omega)
    have hbd : boundsV s.length s.length (some (.int .i64 ((k + 2 : Nat) : Int))) (some (.int .i64 ((k + 4 : Nat) : Int))) none = some (k + 2,k + 4,s.length) := bounds_both (len := s.length) (cap := s.length) (k := .i64) (k' := .i64) (a := ((k + 2 : Nat) : Int)) (b := ((k + 4 : Nat) : Int)) (by omega) (by omega)
    have htk : List.take (k + 4 - (k + 2)) (List.drop (k + 2) s) = [s[k + 2],s[k + 3]] := by
      rw [show k + 4 - (k + 2) = 2 by omega,hdk2,hdk3]; rfl
    simp (maxSteps := 2000000) only [GO,GO2,evK,fillV,setR,binV,intOp,strOp,shOp,unV,getR,lenV,partV,V.nj,V.njL,V.cells,Nat.reduceLT,Nat.reduceEqDiff,Nat.reduceAdd,↓reduceIte,Nat.reduceLeDiff,reduceCtorEq,r36_1,r36_2,r36_4,r36_5,r36_7,q0,q4,Int.ofNat_lt,hke,hk1,hge,hge1,Int.natCast_nonneg,Int.toNat_natCast,c1',hw1,hw2,hw3,hw4,c2,c3',c4,evo_some,hbd,htk]
    refine XC_of (parse50 F (F.tkeep _ _ ht hkp)) ?_
    rintro _ h1 ⟨⟨e,rfl⟩,k1⟩
    have hpl : (pu s[k + 2] s[k + 3]).getD 0 < 256 := pu_lt _ _
    have hcv : IntKind.u8.wrap (((pu s[k + 2] s[k + 3]).getD 0 : Nat) : Int) = (((UInt8.ofNat ((pu s[k + 2] s[k + 3]).getD 0)).toNat : Nat) : Int) := by
      have key : ∀ n : Nat,n < 256 → IntKind.u8.wrap (n : Int) = (((UInt8.ofNat n).toNat : Nat) : Int) := by decide +kernel
      exact key _ hpl
    obtain ⟨v',h2,e1,e2,e3⟩ := app1 (y := UInt8.ofNat ((pu s[k + 2] s[k + 3]).getD 0)) (hb.keep k1 (Nat.le_refl _)) (hkp.trans k1).size (by omega)
    simp (maxSteps := 2000000) only [GO,GO2,evK,fillV,setR,binV,intOp,strOp,shOp,unV,getR,lenV,partV,V.nj,V.njL,V.cells,Nat.reduceLT,Nat.reduceEqDiff,Nat.reduceAdd,↓reduceIte,Nat.reduceLeDiff,reduceCtorEq,r36_8,r36_9,hcv,e1,hw3]
    exact done _ h2 (k + 3) (UInt8.ofNat ((pu s[k + 2] s[k + 3]).getD 0)) q0 rfl (by omega) hk3 (by
      rw [List.append_assoc,← hoo,hdk,hdk1,hdk2,hdk3,dec36_3 hc92 hc120]; rfl) e2 (Keeps.trans (hkp.trans k1) e3)
theorem unquoted36 (F : Fnz P E T) {s : List UInt8} (hlen : s.length ≤ 134217728) {h : H} (ht : T h) : Sp P E (.func 36 [] []) [.str s] h fun v h' => v = .str (dec36 (trimS (trimP s))) ∧ Kp h h' := by
  have hp : (trimP s).length ≤ s.length := by unfold trimP; split <;> simp
  have hs : (trimS (trimP s)).length ≤ (trimP s).length := by unfold trimS; split <;> simp
  have hdl := dec36_len _ _ (Nat.le_refl (trimS (trimP s)).length)
  refine Sp_fn F.f36 F.p36 (by simp [fn36]) ?_
  simp (maxSteps := 2000000) only [GO,GO2,evK,fillV,setR,binV,intOp,strOp_cat,strOp_eql,strOp_neq,shOp,unV,getR,lenV,partV,V.nj,V.njL,V.cells,Nat.reduceLT,Nat.reduceEqDiff,Nat.reduceAdd,↓reduceIte,Nat.reduceLeDiff,reduceCtorEq,fn36,c36,r36_0]
  refine XC_of (trimP49 F) ?_
  rintro _ h1 ⟨rfl,rfl⟩
  simp (maxSteps := 2000000) only [GO,GO2,evK,fillV,setR,binV,intOp,strOp_cat,strOp_eql,strOp_neq,shOp,unV,getR,lenV,partV,V.nj,V.njL,V.cells,Nat.reduceLT,Nat.reduceEqDiff,Nat.reduceAdd,↓reduceIte,Nat.reduceLeDiff,reduceCtorEq]
  refine XC_of (trimS48 F (by omega)) ?_
  rintro _ h1 ⟨rfl,rfl⟩
  simp (maxSteps := 2000000) only [GO,GO2,evK,fillV,setR,binV,intOp,strOp_cat,strOp_eql,strOp_neq,shOp,unV,getR,lenV,partV,V.nj,V.njL,V.cells,Nat.reduceLT,Nat.reduceEqDiff,Nat.reduceAdd,↓reduceIte,Nat.reduceLeDiff,reduceCtorEq]
  refine loop36 F (s := trimS (trimP s)) (by omega) _ ht _ _ (fun ρ' h2 hb hk => ?_) _ 0 [] _ _ (Nat.le_refl _) (Nat.zero_le _) (Nat.le_refl _) rfl rfl rfl (Buf.nil _ _) (Keeps.refl _ _)
  have he := hb.elems
  rcases hb with ⟨hv,hz⟩ | ⟨b,r,hv, -, -⟩
  · rw [hv,hz] at he
    rw [hz]
    have he' : elemsV h2 1 0 (.slice none 0 0 false) = some [] := he
    simp (maxSteps := 2000000) only [GO,GO2,evK,fillV,setR,binV,intOp,strOp_cat,strOp_eql,strOp_neq,shOp,unV,getR,lenV,partV,V.nj,V.njL,V.cells,Nat.reduceLT,Nat.reduceEqDiff,Nat.reduceAdd,↓reduceIte,Nat.reduceLeDiff,reduceCtorEq,r36_12,hv,he',Option.isNone_none]
    exact hk
  · rw [hv] at he
    simp (maxSteps := 2000000) only [GO,GO2,evK,fillV,setR,binV,intOp,strOp_cat,strOp_eql,strOp_neq,shOp,unV,getR,lenV,partV,V.nj,V.njL,V.cells,Nat.reduceLT,Nat.reduceEqDiff,Nat.reduceAdd,↓reduceIte,Nat.reduceLeDiff,reduceCtorEq,r36_12,hv,he,bytesV_bytes,Option.isNone_some,Bool.false_eq_true,Option.map_some]
    exact hk
def unqV (u s : List UInt8) : V := if quoteB u = s then .tup [.str u,.bool true] else .tup [.str [],.bool false]
theorem unquote14 (F : Fnz P E T) {s : List UInt8} (hlen : s.length ≤ 134217728) {h : H} (ht : T h) : Sp P E (.func 14 [] []) [.str s] h fun v h' => v = unqV (dec36 (trimS (trimP s))) s ∧ Kp h h' := by
  have hp : (trimP s).length ≤ s.length := by unfold trimP; split <;> simp
  have hs : (trimS (trimP s)).length ≤ (trimP s).length := by unfold trimS; split <;> simp
  have hdl := dec36_len _ _ (Nat.le_refl (trimS (trimP s)).length)
  refine Sp_fn F.f14 F.p14 (by simp [fn14]) ?_
  simp (maxSteps := 2000000) only [GO,GO2,evK,fillV,setR,binV,intOp,strOp_cat,strOp_eql,strOp_neq,shOp,unV,getR,lenV,partV,V.nj,V.njL,V.cells,Nat.reduceLT,Nat.reduceEqDiff,Nat.reduceAdd,↓reduceIte,Nat.reduceLeDiff,reduceCtorEq,fn14,c14,r14_0,r14_1]
  refine XC_of (unquoted36 F hlen ht) ?_
  rintro _ h1 ⟨rfl,k1⟩
  simp (maxSteps := 2000000) only [GO,GO2,evK,fillV,setR,binV,intOp,strOp_cat,strOp_eql,strOp_neq,shOp,unV,getR,lenV,partV,V.nj,V.njL,V.cells,Nat.reduceLT,Nat.reduceEqDiff,Nat.reduceAdd,↓reduceIte,Nat.reduceLeDiff,reduceCtorEq,r14_2]
  refine XC_of (quote16 F.toFns (by omega)) ?_
  rintro _ h2 ⟨rfl,k2⟩
  by_cases hc : quoteB (dec36 (trimS (trimP s))) = s
  · have hd : (quoteB (dec36 (trimS (trimP s))) == s) = true := beq_iff_eq.2 hc
    simp (maxSteps := 2000000) only [GO,GO2,evK,fillV,setR,binV,intOp,strOp_cat,strOp_eql,strOp_neq,shOp,unV,getR,lenV,partV,V.nj,V.njL,V.cells,Nat.reduceLT,Nat.reduceEqDiff,Nat.reduceAdd,↓reduceIte,Nat.reduceLeDiff,reduceCtorEq,hd,Bool.not_true,Bool.false_eq_true,r14_4]
    refine ⟨?_,k1.trans k2⟩
    unfold unqV
    rw [if_pos hc]
  · have hd : (quoteB (dec36 (trimS (trimP s))) == s) = false := beq_eq_false_iff_ne.2 hc
    simp (maxSteps := 2000000) only [GO,GO2,evK,fillV,setR,binV,intOp,strOp_cat,strOp_eql,strOp_neq,shOp,unV,getR,lenV,partV,V.nj,V.njL,V.cells,Nat.reduceLT,Nat.reduceEqDiff,Nat.reduceAdd,↓reduceIte,Nat.reduceLeDiff,reduceCtorEq,hd,Bool.not_false,r14_3]
    refine ⟨?_,k1.trans k2⟩
    unfold unqV
    rw [if_neg hc]
end Go.AM.Sc
