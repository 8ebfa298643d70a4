/- My own texts of the evaluator, its soundness and its symbolic runs, laid for this claim. -/
import Derived.Test.YtbdbikdeolanfaaGreatDoorWnCode
import Derived.Test.YtbdbikdeolanfaaGreatDoorXJToXPrim
set_option linter.unusedSimpArgs false
set_option linter.unusedVariables false
/-! Which names a log may have: the program's answer, the document's answer. -/
namespace Go.AM.Wn
open Go.AM
variable {P : Program} {E : Env}
def low (c : UInt8) : Bool := decide (97 ≤ c.toNat ∧ c.toNat ≤ 122)
def isName (s : List UInt8) : Bool := s.all low && decide (1 ≤ s.length ∧ s.length ≤ 20)
theorem bad_name {s : List UInt8} {k : Nat} (hk : k < s.length) (h : low s[k] = false) : isName s = false := by
  have : s.all low = false := by
    rw [Bool.eq_false_iff]
    intro ha
    have := List.all_eq_true.1 ha s[k] (List.getElem_mem hk)
    rw [h] at this; cases this
  simp [isName, this]
theorem take_ok {s : List UInt8} {k : Nat} (hk : k < s.length) (h : low s[k] = true) (ht : (s.take k).all low = true) : (s.take (k + 1)).all low = true := by
  rw [List.take_succ_eq_append_getElem hk, List.all_append, ht]
  simp [h]
structure Fnw (E : Env) : Prop where
  f15 : E.fns 15 = some fn15
  p15 : E.prim 15 = none
  f25 : E.fns 25 = some fn25
  p25 : E.prim 25 = none
theorem name25 (F : Fnw E) {s : List UInt8} {h : H} (hlen : s.length ≤ 134217728) : Sp P E (.func 25 [] []) [.str s] h fun v h' => v = .bool (isName s) ∧ h' = h := by
  refine Sp_fn F.f25 F.p25 (by simp [fn25]) ?_
  have loop : ∀ (d k : Nat) (ρ : Nat → V), s.length - k ≤ d → k ≤ s.length → (s.take k).all low = true → ρ 0 = .str s → ρ 3 = .int .i64 k →
      XL P E none 28 b25_3 [.b 0, .c (.seq (.region r25_4) (.ret))] ρ h (Fin [.t 2] fun v h' => v = .bool (isName s) ∧ h' = h) := by
    intro d
    induction d with
    | zero =>
      intro k ρ hd hk ht q0 q3
      have hke : ¬ k < s.length := by omega
      rw [List.take_of_length_le (by omega)] at ht
      rw [u25_3]
      by_cases c1 : (s.length : Int) ≥ 1
      · by_cases c2 : (s.length : Int) ≤ 20
        · simp (maxSteps := 2000000) only [GO,GO2,evK,fillV,setR,binV,intOp,strOp,shOp,unV,getR,lenV,partV,V.nj,V.njL,V.cells,Nat.reduceLT,Nat.reduceEqDiff,Nat.reduceAdd,↓reduceIte,Nat.reduceLeDiff,reduceCtorEq,r25_0,r25_4,q0,q3,Int.ofNat_lt,hke,c1,c2]
          simp [isName, ht]; omega
        · simp (maxSteps := 2000000) only [GO,GO2,evK,fillV,setR,binV,intOp,strOp,shOp,unV,getR,lenV,partV,V.nj,V.njL,V.cells,Nat.reduceLT,Nat.reduceEqDiff,Nat.reduceAdd,↓reduceIte,Nat.reduceLeDiff,reduceCtorEq,r25_0,r25_4,q0,q3,Int.ofNat_lt,hke,c1,c2]
          simp [isName]; omega
      · simp (maxSteps := 2000000) only [GO,GO2,evK,fillV,setR,binV,intOp,strOp,shOp,unV,getR,lenV,partV,V.nj,V.njL,V.cells,Nat.reduceLT,Nat.reduceEqDiff,Nat.reduceAdd,↓reduceIte,Nat.reduceLeDiff,reduceCtorEq,r25_0,r25_4,q0,q3,Int.ofNat_lt,hke,c1]
        simp [isName]; omega
    | succ d ih =>
      intro k ρ hd hk ht q0 q3
      by_cases hke : k < s.length
      rotate_left
      · exact ih k ρ (by omega) hk ht q0 q3
      have hge : s[k]? = some s[k] := by simp [hke]
      have hw : IntKind.i64.wrap ((k : Int) + 1) = ((k + 1 : Nat) : Int) := wrap_nat (n := k + 1) (by omega)
      rw [u25_3]
      by_cases c1 : (s[k].toNat : Int) < 97
      · simp (maxSteps := 2000000) only [GO,GO2,evK,fillV,setR,binV,intOp,strOp,shOp,unV,getR,lenV,partV,V.nj,V.njL,V.cells,Nat.reduceLT,Nat.reduceEqDiff,Nat.reduceAdd,↓reduceIte,Nat.reduceLeDiff,reduceCtorEq,r25_0,r25_1,q0,q3,Int.ofNat_lt,hke,hge,Int.natCast_nonneg,Int.toNat_natCast,c1]
        rw [bad_name hke (by simp [low]; omega)]
      by_cases c2 : (s[k].toNat : Int) > 122
      · simp (maxSteps := 2000000) only [GO,GO2,evK,fillV,setR,binV,intOp,strOp,shOp,unV,getR,lenV,partV,V.nj,V.njL,V.cells,Nat.reduceLT,Nat.reduceEqDiff,Nat.reduceAdd,↓reduceIte,Nat.reduceLeDiff,reduceCtorEq,r25_0,r25_1,q0,q3,Int.ofNat_lt,hke,hge,Int.natCast_nonneg,Int.toNat_natCast,c1,c2]
        rw [bad_name hke (by simp [low]; omega)]
      simp (maxSteps := 2000000) only [GO,GO2,evK,fillV,setR,binV,intOp,strOp,shOp,unV,getR,lenV,partV,V.nj,V.njL,V.cells,Nat.reduceLT,Nat.reduceEqDiff,Nat.reduceAdd,↓reduceIte,Nat.reduceLeDiff,reduceCtorEq,r25_0,r25_1,r25_2,q0,q3,Int.ofNat_lt,hke,hge,Int.natCast_nonneg,Int.toNat_natCast,c1,c2,hw]
      exact ih (k + 1) _ (by omega) (by omega) (take_ok hke (by simp [low]; omega) ht) q0 rfl
  simp (maxSteps := 2000000) only [GO,GO2,evK,fillV,setR,binV,intOp,strOp,shOp,unV,getR,lenV,partV,V.nj,V.njL,V.cells,Nat.reduceLT,Nat.reduceEqDiff,Nat.reduceAdd,↓reduceIte,Nat.reduceLeDiff,reduceCtorEq,fn25,c25]
  exact loop s.length 0 _ (by omega) (by omega) rfl rfl rfl
theorem named15 (F : Fnw E) {s : List UInt8} {h : H} (hlen : s.length ≤ 134217728) : Sp P E (.func 15 [] []) [.str s] h fun v h' => v = .bool (isName s) ∧ h' = h.psh (.cells (bytes s) 5 true false (some 0)) := by
  refine Sp_fn F.f15 F.p15 (by simp [fn15]) ?_
  have hg : (h.psh (.cells (bytes s) 5 true false (some 0))).get h.size = some (.cells (bytes s) 5 true false (some 0)) := psh_same _ _
  generalize hh : h.psh (.cells (bytes s) 5 true false (some 0)) = h1 at hg ⊢
  have loop : ∀ (d k : Nat) (ρ : Nat → V), s.length - k ≤ d → k ≤ s.length → (s.take k).all low = true → ρ 0 = .str s → ρ 6 = .slice (some (h.size, 0)) s.length s.length true → ρ 7 = .int .i64 s.length → ρ 8 = .int .i64 k →
      XL P E none 27 b15_4 [.b 0, .c (.seq (.region r15_5) (.ret))] ρ h1 (Fin [.t 2] fun v h' => v = .bool (isName s) ∧ h' = h1) := by
    intro d
    induction d with
    | zero =>
      intro k ρ hd hk ht q0 q6 q7 q8
      have hke : ¬ k < s.length := by omega
      rw [List.take_of_length_le (by omega)] at ht
      rw [u15_4]
      by_cases c1 : (s.length : Int) ≥ 1
      · by_cases c2 : (s.length : Int) ≤ 20
        · simp (maxSteps := 2000000) only [GO,GO2,evK,fillV,setR,binV,intOp,strOp,shOp,unV,getR,lenV,partV,V.nj,V.njL,V.cells,Nat.reduceLT,Nat.reduceEqDiff,Nat.reduceAdd,↓reduceIte,Nat.reduceLeDiff,reduceCtorEq,r15_5,q0,q7,q8,Int.ofNat_lt,hke,c1,c2]
          simp [isName, ht]; omega
        · simp (maxSteps := 2000000) only [GO,GO2,evK,fillV,setR,binV,intOp,strOp,shOp,unV,getR,lenV,partV,V.nj,V.njL,V.cells,Nat.reduceLT,Nat.reduceEqDiff,Nat.reduceAdd,↓reduceIte,Nat.reduceLeDiff,reduceCtorEq,r15_5,q0,q7,q8,Int.ofNat_lt,hke,c1,c2]
          simp [isName]; omega
      · simp (maxSteps := 2000000) only [GO,GO2,evK,fillV,setR,binV,intOp,strOp,shOp,unV,getR,lenV,partV,V.nj,V.njL,V.cells,Nat.reduceLT,Nat.reduceEqDiff,Nat.reduceAdd,↓reduceIte,Nat.reduceLeDiff,reduceCtorEq,r15_5,q0,q7,q8,Int.ofNat_lt,hke,c1]
        simp [isName]; omega
    | succ d ih =>
      intro k ρ hd hk ht q0 q6 q7 q8
      by_cases hke : k < s.length
      rotate_left
      · exact ih k ρ (by omega) hk ht q0 q6 q7 q8
      have hge : (bytes s)[k]? = some (.int .u8 s[k].toNat) := by simp [bytes, hke, byt]
      have hw : IntKind.i64.wrap ((k : Int) + 1) = ((k + 1 : Nat) : Int) := wrap_nat (n := k + 1) (by omega)
      rw [u15_4]
      by_cases c1 : (s[k].toNat : Int) < 97
      · simp (maxSteps := 2000000) only [GO,GO2,evK,fillV,setR,binV,intOp,strOp,shOp,unV,getR,lenV,partV,V.nj,V.njL,V.cells,Nat.reduceLT,Nat.reduceEqDiff,Nat.reduceAdd,↓reduceIte,Nat.reduceLeDiff,reduceCtorEq,r15_1,r15_2,q6,q7,q8,hg,Int.ofNat_lt,hke,hge,Int.natCast_nonneg,Int.toNat_natCast,Nat.mul_one,Nat.zero_add,c1]
        rw [bad_name hke (by simp [low]; omega)]
      by_cases c2 : (s[k].toNat : Int) > 122
      · simp (maxSteps := 2000000) only [GO,GO2,evK,fillV,setR,binV,intOp,strOp,shOp,unV,getR,lenV,partV,V.nj,V.njL,V.cells,Nat.reduceLT,Nat.reduceEqDiff,Nat.reduceAdd,↓reduceIte,Nat.reduceLeDiff,reduceCtorEq,r15_1,r15_2,q6,q7,q8,hg,Int.ofNat_lt,hke,hge,Int.natCast_nonneg,Int.toNat_natCast,Nat.mul_one,Nat.zero_add,c1,c2]
        rw [bad_name hke (by simp [low]; omega)]
      simp (maxSteps := 2000000) only [GO,GO2,evK,fillV,setR,binV,intOp,strOp,shOp,unV,getR,lenV,partV,V.nj,V.njL,V.cells,Nat.reduceLT,Nat.reduceEqDiff,Nat.reduceAdd,↓reduceIte,Nat.reduceLeDiff,reduceCtorEq,r15_1,r15_2,r15_3,q6,q7,q8,hg,Int.ofNat_lt,hke,hge,Int.natCast_nonneg,Int.toNat_natCast,Nat.mul_one,Nat.zero_add,c1,c2,hw]
      exact ih (k + 1) _ (by omega) (by omega) (take_ok hke (by simp [low]; omega) ht) q0 q6 q7 rfl
  simp (maxSteps := 2000000) only [GO,GO2,evK,fillV,setR,binV,intOp,strOp,shOp,unV,getR,lenV,partV,V.nj,V.njL,V.cells,Nat.reduceLT,Nat.reduceEqDiff,Nat.reduceAdd,↓reduceIte,Nat.reduceLeDiff,reduceCtorEq,fn15,c15,r15_0]
  rw [show List.map (fun b : UInt8 => V.int .u8 b.toNat) s = bytes s from rfl, hh]
  exact loop s.length 0 _ (by omega) (by omega) rfl rfl rfl rfl rfl
end Go.AM.Wn
/-! Names of segments. -/
namespace Go.AM.Wn
open Go.AM
open Go.Lib (itoa)
variable {P : Program} {E : Env} {T : H → Prop}
theorem wrap_le {n : Int} (h0 : -9223372036854775808 ≤ n) (h1 : n ≤ 9223372036854775807) : IntKind.i64.wrap n = n := by
  have : IntKind.i64.wrap n = (n + 9223372036854775808) % 18446744073709551616 - 9223372036854775808 := by
    simp [IntKind.wrap, IntKind.signed, IntKind.bits, IntKind.max]
    omega
  rw [this]; omega
structure Fnv (P : Program) (E : Env) (T : H → Prop) : Prop extends Fnw E where
  tkeep : ∀ h h', T h → Keeps h.size h h' → T h'
  num34 : ∀ n h, -9223372036854775808 ≤ n → n ≤ 9223372036854775807 → T h → Sp P E (.func 34 [] []) [.int .i64 n, .int .i64 10] h fun v h' => v = .str (itoa n) ∧ h' = h
  rep35 : ∀ (k : Nat) h, k ≤ 12 → Sp P E (.func 35 [] []) [.str [48], .int .i64 k] h fun v h' => v = .str (List.replicate k 48) ∧ Kp h h'
  f9 : E.fns 9 = some fn9
  p9 : E.prim 9 = none
  f10 : E.fns 10 = some fn10
  p10 : E.prim 10 = none
def segS (s : List UInt8) (n : Int) : List UInt8 := if isName s = true ∧ 0 ≤ n ∧ n ≤ 999999999999 then s ++ [46] ++ (List.replicate (12 - (itoa n).length) 48 ++ itoa n) else []
theorem name_len {s : List UInt8} (h : isName s = true) : s.length ≤ 20 := by
  simp [isName] at h; omega
theorem seg10 (F : Fnv P E T) {s : List UInt8} {n : Int} {h : H} (ht : T h) (hlen : s.length ≤ 134217728) (hd : 0 ≤ n → n ≤ 999999999999 → (itoa n).length ≤ 12) : Sp P E (.func 10 [] []) [.str s, .int .i64 n] h fun v h' => v = .str (segS s n) ∧ h' = h := by
  refine Sp_fn F.f10 F.p10 (by simp [fn10]) ?_
  simp (maxSteps := 2000000) only [GO,GO2,evK,fillV,setR,binV,intOp,strOp,shOp,unV,getR,lenV,partV,V.nj,V.njL,V.cells,Nat.reduceLT,Nat.reduceEqDiff,Nat.reduceAdd,↓reduceIte,Nat.reduceLeDiff,reduceCtorEq,fn10,c10,r10_0]
  refine XC_of (name25 F.toFnw hlen) ?_
  rintro _ h1 ⟨rfl, rfl⟩
  unfold segS
  cases hn : isName s with
  | false =>
    simp (maxSteps := 2000000) only [GO,GO2,evK,fillV,setR,binV,intOp,strOp,shOp,unV,getR,lenV,partV,V.nj,V.njL,V.cells,Nat.reduceLT,Nat.reduceEqDiff,Nat.reduceAdd,↓reduceIte,Nat.reduceLeDiff,reduceCtorEq,Bool.not_false]
    simp
  | true =>
    by_cases c1 : n < 0
    · simp (maxSteps := 2000000) only [GO,GO2,evK,fillV,setR,binV,intOp,strOp,shOp,unV,getR,lenV,partV,V.nj,V.njL,V.cells,Nat.reduceLT,Nat.reduceEqDiff,Nat.reduceAdd,↓reduceIte,Nat.reduceLeDiff,reduceCtorEq,Bool.not_true,c1]
      rw [if_neg (by omega)]
    by_cases c2 : n > 999999999999
    · simp (maxSteps := 2000000) only [GO,GO2,evK,fillV,setR,binV,intOp,strOp,shOp,unV,getR,lenV,partV,V.nj,V.njL,V.cells,Nat.reduceLT,Nat.reduceEqDiff,Nat.reduceAdd,↓reduceIte,Nat.reduceLeDiff,reduceCtorEq,Bool.not_true,c1,c2]
      rw [if_neg (by omega)]
    have hl := hd (by omega) (by omega)
    have hs := name_len hn
    rw [if_pos ⟨rfl, by omega, by omega⟩]
    simp (maxSteps := 2000000) only [GO,GO2,evK,fillV,setR,binV,intOp,strOp,shOp,unV,getR,lenV,partV,V.nj,V.njL,V.cells,Nat.reduceLT,Nat.reduceEqDiff,Nat.reduceAdd,↓reduceIte,Nat.reduceLeDiff,reduceCtorEq,Bool.not_true,c1,c2,r10_1]
    refine XC_of (F.num34 n _ (by omega) (by omega) ht) ?_
    rintro _ h2 ⟨rfl, rfl⟩
    simp (maxSteps := 2000000) only [GO,GO2,evK,fillV,setR,binV,intOp,strOp,shOp,unV,getR,lenV,partV,V.nj,V.njL,V.cells,Nat.reduceLT,Nat.reduceEqDiff,Nat.reduceAdd,↓reduceIte,Nat.reduceLeDiff,reduceCtorEq]
    have loop : ∀ (d k : Nat) (ρ : Nat → V), 12 - (itoa n).length - k = d → k ≤ 12 - (itoa n).length → ρ 0 = .str s → ρ 5 = .str (List.replicate k 48 ++ itoa n) →
        XL P E none 28 b10_4 [.b 0, .c (.seq (.region r10_5) (.ret))] ρ h2 (Fin [.t 4] fun v h' => v = .str (s ++ [46] ++ (List.replicate (12 - (itoa n).length) 48 ++ itoa n)) ∧ h' = h2) := by
      intro d
      induction d with
      | zero =>
        intro k ρ hdk hk q0 q5
        have hke : k = 12 - (itoa n).length := by omega
        subst hke
        have c3 : ¬ ((12 - (itoa n).length + (itoa n).length : Nat) : Int) < 12 := by omega
        have l1 : s.length + 1 ≤ 9223372036854775807 := by omega
        have l2 : s.length + 1 + (12 - (itoa n).length + (itoa n).length) ≤ 9223372036854775807 := by omega
        rw [u10_4]
        simp (maxSteps := 2000000) only [GO,GO2,evK,fillV,setR,binV,intOp,strOp,shOp,unV,getR,lenV,partV,V.nj,V.njL,V.cells,Nat.reduceLT,Nat.reduceEqDiff,Nat.reduceAdd,↓reduceIte,Nat.reduceLeDiff,reduceCtorEq,r10_2,r10_5,q0,q5,List.length_append,List.length_replicate,c3,l1,l2]
      | succ d ih =>
        intro k ρ hdk hk q0 q5
        have c3 : ((k + (itoa n).length : Nat) : Int) < 12 := by omega
        have l1 : 1 + (k + (itoa n).length) ≤ 9223372036854775807 := by omega
        rw [u10_4]
        simp (maxSteps := 2000000) only [GO,GO2,evK,fillV,setR,binV,intOp,strOp,shOp,unV,getR,lenV,partV,V.nj,V.njL,V.cells,Nat.reduceLT,Nat.reduceEqDiff,Nat.reduceAdd,↓reduceIte,Nat.reduceLeDiff,reduceCtorEq,r10_2,r10_3,q0,q5,List.length_append,List.length_replicate,c3,l1]
        refine ih (k + 1) _ (by omega) (by omega) ?_ ?_
        · exact q0
        · show V.str _ = _
          rw [List.replicate_succ]; rfl
    refine loop _ 0 _ rfl (Nat.zero_le _) ?_ ?_
    · rfl
    · rfl
theorem seg9 (F : Fnv P E T) {s : List UInt8} {n : Int} {h : H} (ht : T h) (hlen : s.length ≤ 134217728) (hd : 0 ≤ n → n ≤ 999999999999 → (itoa n).length ≤ 12) : Sp P E (.func 9 [] []) [.str s, .int .i64 n] h fun v h' => v = .str (segS s n) ∧ Kp h h' := by
  have hk0 : Kp h (h.psh (.cells (bytes s) 5 true false (some 0))) := Keeps.psh (Nat.le_refl _) _
  refine Sp_fn F.f9 F.p9 (by simp [fn9]) ?_
  simp (maxSteps := 2000000) only [GO,GO2,evK,fillV,setR,binV,intOp,strOp,shOp,unV,getR,lenV,partV,V.nj,V.njL,V.cells,Nat.reduceLT,Nat.reduceEqDiff,Nat.reduceAdd,↓reduceIte,Nat.reduceLeDiff,reduceCtorEq,fn9,c9,r9_0]
  refine XC_of (named15 F.toFnw hlen) ?_
  rintro _ h1 ⟨rfl, rfl⟩
  have ht1 := F.tkeep _ _ ht hk0
  generalize h.psh (.cells (bytes s) 5 true false (some 0)) = h1 at *
  unfold segS
  cases hn : isName s with
  | false =>
    simp (maxSteps := 2000000) only [GO,GO2,evK,fillV,setR,binV,intOp,strOp,shOp,unV,getR,lenV,partV,V.nj,V.njL,V.cells,Nat.reduceLT,Nat.reduceEqDiff,Nat.reduceAdd,↓reduceIte,Nat.reduceLeDiff,reduceCtorEq,Bool.not_false]
    simp [hk0]
  | true =>
    by_cases c1 : n < 0
    · simp (maxSteps := 2000000) only [GO,GO2,evK,fillV,setR,binV,intOp,strOp,shOp,unV,getR,lenV,partV,V.nj,V.njL,V.cells,Nat.reduceLT,Nat.reduceEqDiff,Nat.reduceAdd,↓reduceIte,Nat.reduceLeDiff,reduceCtorEq,Bool.not_true,c1]
      rw [if_neg (by omega)]
      exact ⟨rfl, hk0⟩
    by_cases c2 : n > 999999999999
    · simp (maxSteps := 2000000) only [GO,GO2,evK,fillV,setR,binV,intOp,strOp,shOp,unV,getR,lenV,partV,V.nj,V.njL,V.cells,Nat.reduceLT,Nat.reduceEqDiff,Nat.reduceAdd,↓reduceIte,Nat.reduceLeDiff,reduceCtorEq,Bool.not_true,c1,c2]
      rw [if_neg (by omega)]
      exact ⟨rfl, hk0⟩
    have hl := hd (by omega) (by omega)
    have hs := name_len hn
    rw [if_pos ⟨rfl, by omega, by omega⟩]
    simp (maxSteps := 2000000) only [GO,GO2,evK,fillV,setR,binV,intOp,strOp,shOp,unV,getR,lenV,partV,V.nj,V.njL,V.cells,Nat.reduceLT,Nat.reduceEqDiff,Nat.reduceAdd,↓reduceIte,Nat.reduceLeDiff,reduceCtorEq,Bool.not_true,c1,c2,r9_1]
    refine XC_of (F.num34 n _ (by omega) (by omega) ht1) ?_
    rintro _ h2 ⟨rfl, rfl⟩
    have l1 : s.length + 1 ≤ 9223372036854775807 := by omega
    have hw : IntKind.i64.wrap (12 - ((itoa n).length : Int)) = ((12 - (itoa n).length : Nat) : Int) := by rw [wrap_le (by omega) (by omega)]; omega
    simp (maxSteps := 2000000) only [GO,GO2,evK,fillV,setR,binV,intOp,strOp,shOp,unV,getR,lenV,partV,V.nj,V.njL,V.cells,Nat.reduceLT,Nat.reduceEqDiff,Nat.reduceAdd,↓reduceIte,Nat.reduceLeDiff,reduceCtorEq,r9_2,l1,hw]
    refine XC_of (F.rep35 (12 - (itoa n).length) _ (by omega)) ?_
    rintro _ h3 ⟨rfl, k3⟩
    have l2 : s.length + 1 + (12 - (itoa n).length) ≤ 9223372036854775807 := by omega
    have l3 : s.length + 1 + (12 - (itoa n).length) + (itoa n).length ≤ 9223372036854775807 := by omega
    simp (maxSteps := 2000000) only [GO,GO2,evK,fillV,setR,binV,intOp,strOp,shOp,unV,getR,lenV,partV,V.nj,V.njL,V.cells,Nat.reduceLT,Nat.reduceEqDiff,Nat.reduceAdd,↓reduceIte,Nat.reduceLeDiff,reduceCtorEq,List.length_append,List.length_replicate,List.length_cons,List.length_nil,l2,l3]
    exact ⟨by simp, hk0.trans k3⟩
end Go.AM.Wn
