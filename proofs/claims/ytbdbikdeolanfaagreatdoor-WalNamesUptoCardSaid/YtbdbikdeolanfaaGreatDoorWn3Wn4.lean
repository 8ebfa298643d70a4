/- My own texts of the evaluator, its soundness and its symbolic runs, laid for this claim. -/
import Derived.Test.YtbdbikdeolanfaaGreatDoorWnWn2
set_option linter.unusedSimpArgs false
set_option linter.unusedVariables false
/-! Open at what is no name. -/
namespace Go.AM.Wn
open Go.AM
variable {P : Program} {E : Env} {T : H → Prop}
structure Fno (P : Program) (E : Env) (T : H → Prop) : Prop extends Fnv P E T where
  f7 : E.fns 7 = some fn7
  p7 : E.prim 7 = none
  f8 : E.fns 8 = some fn8
  p8 : E.prim 8 = none
theorem open7_no (F : Fno P E T) {d : V} {s : List UInt8} {h : H} (hlen : s.length ≤ 134217728) (hn : isName s = false) : Sp P E (.func 7 [] []) [d, .str s] h fun v h' => v = .tup [.ptr none, .int .i64 1] ∧ Kp h h' := by
  have hk0 : Kp h (h.psh (.cells (bytes s) 5 true false (some 0))) := Keeps.psh (Nat.le_refl _) _
  refine Sp_fn F.f7 F.p7 (by simp [fn7]) ?_
  simp (maxSteps := 2000000) only [GO,GO2,evK,fillV,setR,binV,intOp,strOp,shOp,unV,getR,lenV,partV,V.nj,V.njL,V.cells,Nat.reduceLT,Nat.reduceEqDiff,Nat.reduceAdd,↓reduceIte,Nat.reduceLeDiff,reduceCtorEq,fn7,c7,r7_0,r7_1]
  refine XC_of (named15 F.toFnw hlen) ?_
  rintro _ h1 ⟨rfl, rfl⟩
  simp (maxSteps := 2000000) only [GO,GO2,evK,fillV,setR,binV,intOp,strOp,shOp,unV,getR,lenV,partV,V.nj,V.njL,V.cells,Nat.reduceLT,Nat.reduceEqDiff,Nat.reduceAdd,↓reduceIte,Nat.reduceLeDiff,reduceCtorEq,hn,Bool.not_false,r7_2]
  exact hk0
theorem open8_no (F : Fno P E T) {d : V} {s : List UInt8} {h : H} (hlen : s.length ≤ 134217728) (hn : isName s = false) : Sp P E (.func 8 [] []) [d, .str s] h fun v h' => v = .tup [.ptr none, .int .i64 1] ∧ h' = h := by
  refine Sp_fn F.f8 F.p8 (by simp [fn8]) ?_
  simp (maxSteps := 2000000) only [GO,GO2,evK,fillV,setR,binV,intOp,strOp,shOp,unV,getR,lenV,partV,V.nj,V.njL,V.cells,Nat.reduceLT,Nat.reduceEqDiff,Nat.reduceAdd,↓reduceIte,Nat.reduceLeDiff,reduceCtorEq,fn8,c8,r8_0,r8_1]
  refine XC_of (name25 F.toFnw hlen) ?_
  rintro _ h1 ⟨rfl, rfl⟩
  simp (maxSteps := 2000000) only [GO,GO2,evK,fillV,setR,binV,intOp,strOp,shOp,unV,getR,lenV,partV,V.nj,V.njL,V.cells,Nat.reduceLT,Nat.reduceEqDiff,Nat.reduceAdd,↓reduceIte,Nat.reduceLeDiff,reduceCtorEq,hn,Bool.not_false,r8_2]
end Go.AM.Wn
/-! A small number's numeral has at most twelve digits. -/
namespace Go.AM.Wn
open Go.Lib
theorem dec_le : ∀ (k u : Nat), u < 10 ^ (k + 1) → (decDigits u).length ≤ k + 1 := by
  intro k
  induction k with
  | zero =>
    intro u h
    rw [decDigits, dif_pos (by simpa using h)]; simp
  | succ k ih =>
    intro u h
    rw [decDigits]
    split
    · simp
    · have h2 : u / 10 < 10 ^ (k + 1) := by
        rw [Nat.div_lt_iff_lt_mul (by decide)]
        rw [Nat.pow_succ] at h; exact h
      have := ih (u / 10) h2
      simp only [List.length_append, List.length_cons, List.length_nil]; omega
theorem itoa_le {n : Int} (h0 : 0 ≤ n) (h1 : n ≤ 999999999999) : (itoa n).length ≤ 12 := by
  unfold itoa
  rw [if_neg (by omega)]
  exact dec_le 11 n.toNat (by omega)
end Go.AM.Wn
