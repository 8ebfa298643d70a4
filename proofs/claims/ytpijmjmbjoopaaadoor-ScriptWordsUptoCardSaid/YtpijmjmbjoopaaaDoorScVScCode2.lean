/- My own texts of the evaluator, its soundness and its symbolic runs, laid for this claim. -/
import Derived.Test.YtpijmjmbjoopaaaDoorScQScQ2
import Derived.Test.YtpijmjmbjoopaaaDoorScWScL
set_option linter.unusedSimpArgs false
set_option linter.unusedVariables false
namespace Go.AM.Sc
open Go.AM
open Go.Lib (itoa)
variable {P : Program} {E : Env} {T : H → Prop}
theorem itoas_ne {xs : List Int} {k : Nat} (hk : 1 ≤ k) (hl : k ≤ xs.length) : itoas (xs.take k) ≠ [] := fun h => by
  have := congrArg List.length h
  rw [itoas,List.length_map,List.length_take] at this
  simp only [List.length_nil] at this
  omega
theorem loop19 (F : Fns P E T) {xs : List Int} (hlen : xs.length = 8) (hin : ∀ n ∈ xs,InI n) {h : H} (ht : T h) {b : Nat} (hg : h.get b = some (.cells (xs.map fun n => .int .i64 n) 43 false false none)) (K : List Fr) (Q : Po)
    (hQ : ∀ (ρ' : Nat → V),ρ' 3 = .str (joinB (itoas xs)) → X P E none 20 K ρ' h Q) :
    ∀ (d k : Nat) (ρ : Nat → V),d = 8 - k → 1 ≤ k → k ≤ 8 → ρ 1 = .ptr (some (b,0)) → ρ 4 = .int .i64 k → ρ 3 = .str (joinB (itoas (xs.take k))) →
      XL P E none 20 b19_5 (.b 0 :: K) ρ h Q := by
  intro d
  induction d with
  | zero =>
    intro k ρ hd hk1 hk h1 h4 h3
    have hke : ¬ (k : Int) < 8 := by omega
    rw [List.take_of_length_le (by omega)] at h3
    rw [u19_5]
    simp (maxSteps := 2000000) only [GO,GO2,evK,fillV,setR,binV,intOp,strOp,shOp,unV,getR,lenV,partV,V.nj,V.njL,V.cells,Nat.reduceLT,Nat.reduceEqDiff,Nat.reduceAdd,↓reduceIte,Nat.reduceLeDiff,reduceCtorEq,r19_2,h4,hke]
    exact hQ _ h3
  | succ d ih =>
    intro k ρ hd hk1 hk h1 h4 h3
    have hke : k < xs.length := by omega
    have hke8 : (k : Int) < 8 := by omega
    have hke8' : (k : Int) < ((8 : Nat) : Int) := by omega
    have hget : (xs.map fun n => V.int .i64 n)[k]? = some (.int .i64 xs[k]) := by simp [hke]
    have hw : IntKind.i64.wrap ((k : Int) + 1) = ((k + 1 : Nat) : Int) := wrap_nat (n := k + 1) (by omega)
    have c0 := Lib.itoa_length_le xs[k] (hin _ (List.getElem_mem hke)).1 (hin _ (List.getElem_mem hke)).2
    have c1 : 1 + (itoa xs[k]).length ≤ 9223372036854775807 := by omega
    have c2 : (joinB (itoas (xs.take k))).length + (itoa xs[k]).length ≤ 9223372036854775806 := by
      have a1 := joinB_len (itoas (xs.take k))
      have a2 := itoas_tot (xs := xs.take k) fun n hn => hin n (List.mem_of_mem_take hn)
      rw [List.length_take] at a2
      omega
    have c3 : (joinB (itoas (xs.take k))).length + ((itoa xs[k]).length + 1) ≤ 9223372036854775807 := by omega
    rw [u19_5]
    simp (maxSteps := 2000000) only [GO,GO2,evK,fillV,setR,binV,intOp,strOp,shOp,unV,getR,lenV,partV,V.nj,V.njL,V.cells,Nat.reduceLT,Nat.reduceEqDiff,Nat.reduceAdd,↓reduceIte,Nat.reduceLeDiff,reduceCtorEq,r19_2,r19_3,h1,h4,h3,hg,hke8,hke8',Int.natCast_nonneg,Int.toNat_natCast,hget,Nat.mul_one]
    refine XC_of (num30 F (hin _ (List.getElem_mem hke)) ht) ?_
    rintro _ h2 ⟨rfl,rfl⟩
    simp (maxSteps := 2000000) only [GO,GO2,evK,fillV,setR,binV,intOp,strOp,shOp,unV,getR,lenV,partV,V.nj,V.njL,V.cells,Nat.reduceLT,Nat.reduceEqDiff,Nat.reduceAdd,↓reduceIte,Nat.reduceLeDiff,reduceCtorEq,r19_4,h4,hw,c1,c2,c3]
    refine ih (k + 1) _ (by omega) (by omega) (by omega) ?_ ?_ ?_
    · exact h1
    · rfl
    · have e : itoas (xs.take (k + 1)) = itoas (xs.take k) ++ [itoa xs[k]] := by
        rw [List.take_succ_eq_append_getElem hke]
        simp only [itoas,List.map_append,List.map_cons,List.map_nil]
      rw [e,joinB_snoc _ _ (itoas_ne hk1 (by omega))]
      show V.str _ = _
      rfl
theorem vector19 (F : Fns P E T) {xs : List Int} (hlen : xs.length = 8) (hin : ∀ n ∈ xs,InI n) {h : H} (ht : T h) :
    Sp P E (.func 19 [] []) [.agg (xs.map fun n => .int .i64 n)] h fun v h' => v = .str (joinB (itoas xs)) ∧ Kp h h' := by
  have hk0 : Keeps h.size h (h.psh (.cells (xs.map fun n => .int .i64 n) 43 false false none)) := Keeps.psh (Nat.le_refl _) _
  have h0 : 0 < xs.length := by omega
  have hget : (xs.map fun n => V.int .i64 n)[0]? = some (.int .i64 xs[0]) := by simp [h0]
  have e1 : (0 : Int).toNat = 0 := rfl
  have e2 : (0 : Int) < ((8 : Nat) : Int) := by decide
  refine Sp_fn F.f19 F.p19 (by simp [fn19]) ?_
  simp (maxSteps := 2000000) only [GO,GO2,evK,fillV,setR,binV,intOp,strOp,shOp,unV,getR,lenV,partV,V.nj,V.njL,V.cells,Nat.reduceLT,Nat.reduceEqDiff,Nat.reduceAdd,↓reduceIte,Nat.reduceLeDiff,reduceCtorEq,fn19,c19,r19_0,r19_1,psh_same,e1,e2,Int.reduceLE,Nat.zero_mul,hget]
  refine XC_of (num30 F (hin _ (List.getElem_mem h0)) (F.tkeep _ _ ht hk0)) ?_
  rintro _ h2 ⟨rfl,rfl⟩
  simp (maxSteps := 2000000) only [GO,GO2,evK,fillV,setR,binV,intOp,strOp,shOp,unV,getR,lenV,partV,V.nj,V.njL,V.cells,Nat.reduceLT,Nat.reduceEqDiff,Nat.reduceAdd,↓reduceIte,Nat.reduceLeDiff,reduceCtorEq]
  refine loop19 F hlen hin (F.tkeep _ _ ht hk0) (psh_same _ _) _ _ (fun ρ' w3 => ?_) 7 1 _ (by omega) (by omega) (by omega) rfl rfl ?_
  · simp (maxSteps := 2000000) only [GO,GO2,evK,fillV,setR,binV,intOp,strOp,shOp,unV,getR,lenV,partV,V.nj,V.njL,V.cells,Nat.reduceLT,Nat.reduceEqDiff,Nat.reduceAdd,↓reduceIte,Nat.reduceLeDiff,reduceCtorEq,r19_6,w3]
    exact hk0
  · rw [List.take_succ_eq_append_getElem h0]
    show V.str _ = _
    simp [itoas,joinB]
end Go.AM.Sc
namespace Go.AM.Sc
variable {P : Program} {E : Env} {ro : Option Nat} {L : Nat} {K : List Fr} {ρ : Nat → V} {h : H} {Q : Po}
def r5_0 : List O := [⟨some 3,.box 52 (.t 0),none,0,[3,0]⟩,
 ⟨some 5,.box 43 (.t 2),none,0,[5,2]⟩,
 ⟨some 6,.mv (.k (.bool false)),none,0,[6]⟩]
def r5_1 : List O := [oN 20 76 3 0,
 ⟨some 21,.call (.k (.func 9 [] [])) [(.t 20)],none,1,[21,20]⟩,
 om 19 21 3,
 ox 22 19 0 7,
 ox 23 19 1 7,
 om 7 22 15,
 om 8 23 63]
def r5_2 : List O := [oN 25 76 3 0,
 ⟨some 26,.call (.k (.func 10 [] [])) [(.t 25)],none,1,[26,25]⟩,
 om 24 26 3,
 ox 27 24 0 7,
 ox 28 24 1 7,
 om 9 27 15,
 om 10 28 63]
def r5_3 : List O := [oa 30 15 3 0,
 oN 31 56 30 1,
 ⟨some 32,.call (.k (.func 12 [] [])) [(.t 31)],none,3,[32,31]⟩,
 om 29 32 7,
 ox 33 29 0 15,
 ox 34 29 1 15,
 om 11 33 31,
 om 12 34 127]
def r5_4 : List O := [oa 36 15 3 0,
 oN 37 56 36 1,
 ⟨some 38,.call (.k (.func 13 [] [])) [(.t 37)],none,3,[38,37]⟩,
 om 35 38 7,
 ox 39 35 0 15,
 ox 40 35 1 15,
 om 13 39 31,
 om 14 40 127]
def r5_5 : List O := [om 42 1 0,
 ⟨some 43,.call (.k (.func 14 [] [])) [(.t 42)],none,1,[43,42]⟩,
 om 41 43 3,
 ox 44 41 0 7,
 ox 45 41 1 7,
 om 15 44 15,
 om 16 45 63]
def r5_6 : List O := [om 47 1 0,
 ⟨some 48,.call (.k (.func 15 [] [])) [(.t 47)],none,1,[48,47]⟩,
 om 46 48 3,
 ox 49 46 0 7,
 ox 50 46 1 7,
 om 17 49 15,
 om 18 50 63]
def r5_7 : List O := [⟨some 51,.call (.k (.func 8 [] [])) [],none,0,[51]⟩,
 om 52 51 1,
 og 53 7 52 3,
 og 54 9 52 3,
 ⟨some 55,.bin .eql (some .str) false (.t 53) (.t 54),some (52,true),15,[55,52,53,54]⟩,
 ⟨some 56,.pick (.t 52) (.t 55) (.k (.bool false)),none,31,[56,52,55]⟩,
 om 57 56 63,
 og 58 8 57 127,
 og 59 10 57 127,
 ⟨some 60,.bin .eql (some .int) false (.t 58) (.t 59),some (57,true),511,[60,57,58,59]⟩,
 ⟨some 61,.pick (.t 57) (.t 60) (.k (.bool false)),none,1023,[61,57,60]⟩,
 om 62 61 2047,
 og 63 11 62 4095,
 og 64 13 62 4095,
 ⟨some 65,.bin .eql (some .str) false (.t 63) (.t 64),some (62,true),16383,[65,62,63,64]⟩,
 ⟨some 66,.pick (.t 62) (.t 65) (.k (.bool false)),none,32767,[66,62,65]⟩,
 om 67 66 65535,
 og 68 12 67 131071,
 og 69 14 67 131071,
 ⟨some 70,.bin .eql (some .int) false (.t 68) (.t 69),some (67,true),524287,[70,67,68,69]⟩,
 ⟨some 71,.pick (.t 67) (.t 70) (.k (.bool false)),none,1048575,[71,67,70]⟩,
 om 72 71 2097151,
 og 73 1 72 4194303,
 ⟨some 74,.call (.k (.func 16 [] [])) [(.t 73)],some (72,true),8388607,[74,72,73]⟩,
 og 75 1 72 4194303,
 ⟨some 76,.call (.k (.func 17 [] [])) [(.t 75)],some (72,true),33554431,[76,72,75]⟩,
 ⟨some 77,.bin .eql (some .str) false (.t 74) (.t 76),some (72,true),67108863,[77,72,74,76]⟩,
 ⟨some 78,.pick (.t 72) (.t 77) (.k (.bool false)),none,134217727,[78,72,77]⟩,
 om 79 78 268435455,
 og 80 15 79 536870911,
 og 81 17 79 536870911,
 ⟨some 82,.bin .eql (some .str) false (.t 80) (.t 81),some (79,true),2147483647,[82,79,80,81]⟩,
 ⟨some 83,.pick (.t 79) (.t 82) (.k (.bool false)),none,4294967295,[83,79,82]⟩,
 om 84 83 8589934591,
 og 85 16 84 17179869183,
 og 86 18 84 17179869183,
 ⟨some 87,.bin .eql (some .bool) false (.t 85) (.t 86),some (84,true),68719476735,[87,84,85,86]⟩,
 ⟨some 88,.pick (.t 84) (.t 87) (.k (.bool false)),none,137438953471,[88,84,87]⟩,
 om 89 88 274877906943,
 oNg 90 8 5 89 549755813887,
 ⟨some 91,.call (.k (.func 18 [] [])) [(.t 90)],some (89,true),1099511627775,[91,89,90]⟩,
 oNg 92 8 5 89 549755813887,
 ⟨some 93,.call (.k (.func 19 [] [])) [(.t 92)],some (89,true),4398046511103,[93,89,92]⟩,
 ⟨some 94,.bin .eql (some .str) false (.t 91) (.t 93),some (89,true),8796093022207,[94,89,91,93]⟩,
 ⟨some 95,.pick (.t 89) (.t 94) (.k (.bool false)),none,17592186044415,[95,89,94]⟩,
 om 6 95 35184372088831]
theorem d5_7 (hx : XDQ P E ro L K Q h [true,true,true,true,true,true,true,true,true,true,true,true,true,true,true,true,true,true,true,true,true,true,true,true,false,true,true,true,true,true,true,true,true,true,true,true,true,true,true,true,true,false,true,true,true,true] r5_7 ρ h) : XD P E ro L r5_7 K ρ h Q := XD_quiet rfl rfl hx
def c5 : C := .seq (.region r5_0) (.seq (.region r5_1) (.seq (.region r5_2) (.seq (.region r5_3) (.seq (.region r5_4) (.seq (.region r5_5) (.seq (.region r5_6) (.seq (.draw r5_7) (.ret))))))))
def fn5 : Fn := ⟨96,[.t 6],c5⟩
def r14_0 : List O := [⟨some 2,.mv (.k (.str [])),none,0,[2]⟩,
 ⟨some 3,.mv (.k (.bool false)),none,1,[3]⟩]
def r14_1 : List O := [om 5 0 0,
 ⟨some 6,.call (.k (.func 36 [] [])) [(.t 5)],none,1,[6,5]⟩,
 om 4 6 3]
def r14_2 : List O := [om 7 4 0,
 ⟨some 8,.call (.k (.func 16 [] [])) [(.t 7)],none,1,[8,7]⟩,
 om 9 0 0,
 ⟨some 10,.bin .neq (some .str) false (.t 8) (.t 9),none,7,[10,8,9]⟩]
def r14_3 : List O := [⟨some 2,.mv (.k (.str [])),none,0,[2]⟩,
 ⟨some 3,.mv (.k (.bool false)),none,1,[3]⟩]
def r14_4 : List O := [om 11 4 0,
 om 2 11 1,
 ⟨some 3,.mv (.k (.bool true)),none,3,[3]⟩]
def c14 : C := .seq (.region r14_0) (.seq (.region r14_1) (.seq (.seq (.region r14_2) (.cond (.t 10) (.seq (.region r14_3) (.ret)) (.skip))) (.seq (.region r14_4) (.ret))))
def fn14 : Fn := ⟨12,[.t 2,.t 3],c14⟩
def r15_0 : List O := [⟨some 2,.mv (.k (.str [])),none,0,[2]⟩,
 ⟨some 3,.mv (.k (.bool false)),none,1,[3]⟩]
def r15_1 : List O := [om 6 0 0,
 ⟨some 7,.lenS (.t 6),none,1,[7,6]⟩,
 ⟨some 8,.bin .lss (some .int) true (.t 7) (.k (.int .i64 2)),none,3,[8,7]⟩,
 om 9 8 7,
 ⟨some 10,.mv (.t 0),some (9,false),15,[10,9,0]⟩,
 ⟨some 11,.idxS (.t 10) (.k (.int .i64 0)),some (9,false),31,[11,9,10]⟩,
 ⟨some 12,.bin .neq (some .int) true (.t 11) (.k (.int .u8 34)),some (9,false),63,[12,9,11]⟩,
 ⟨some 13,.pick (.t 9) (.k (.bool true)) (.t 12),none,127,[13,9,12]⟩,
 om 14 13 255,
 ⟨some 15,.mv (.t 0),some (14,false),511,[15,14,0]⟩,
 ⟨some 16,.mv (.t 0),some (14,false),511,[16,14,0]⟩,
 ⟨some 17,.lenS (.t 16),some (14,false),1535,[17,14,16]⟩,
 ⟨some 18,.bin .sub (some .int) true (.t 17) (.k (.int .i64 1)),some (14,false),3583,[18,14,17]⟩,
 ⟨some 19,.idxS (.t 15) (.t 18),some (14,false),8191,[19,14,15,18]⟩,
 ⟨some 20,.bin .neq (some .int) true (.t 19) (.k (.int .u8 34)),some (14,false),16383,[20,14,19]⟩,
 ⟨some 21,.pick (.t 14) (.k (.bool true)) (.t 20),none,32767,[21,14,20]⟩]
def r15_2 : List O := [⟨some 2,.mv (.k (.str [])),none,0,[2]⟩,
 ⟨some 3,.mv (.k (.bool false)),none,1,[3]⟩]
def r15_3 : List O := [om 22 5 0,
 om 23 0 0,
 ⟨some 24,.lenS (.t 23),none,2,[24,23]⟩,
 ⟨some 25,.bin .sub (some .int) true (.t 24) (.k (.int .i64 1)),none,6,[25,24]⟩,
 ⟨some 26,.bin .lss (some .int) false (.t 22) (.t 25),none,15,[26,22,25]⟩]
def r15_4 : List O := [om 29 0 0,
 om 30 5 0,
 ⟨some 31,.idxS (.t 29) (.t 30),none,3,[31,29,30]⟩,
 ⟨some 32,.bin .neq (some .int) true (.t 31) (.k (.int .u8 92)),none,7,[32,31]⟩]
def r15_5 : List O := [om 33 4 0,
 om 34 0 0,
 om 35 5 0,
 ⟨some 36,.idxS (.t 34) (.t 35),none,6,[36,34,35]⟩,
 ⟨some 37,.bslice 5 1 [(.int .u8 0)] [(0,1,(.t 36))],none,14,[37,36]⟩,
 ⟨some 38,.app 5 1 1 (.t 33) (.t 37),none,31,[38,33,37]⟩,
 om 4 38 63]
def r15_6 : List O := [om 39 5 0,
 ⟨some 40,.bin .add (some .int) true (.t 39) (.k (.int .i64 1)),none,1,[40,39]⟩,
 om 5 40 3]
def r15_7 : List O := [om 41 5 0,
 om 42 0 0,
 ⟨some 43,.lenS (.t 42),none,2,[43,42]⟩,
 ⟨some 44,.bin .sub (some .int) true (.t 43) (.k (.int .i64 3)),none,6,[44,43]⟩,
 ⟨some 45,.bin .lss (some .int) false (.t 41) (.t 44),none,15,[45,41,44]⟩,
 om 46 45 31,
 og 47 0 46 63,
 og 48 5 46 63,
 ⟨some 49,.idxS (.t 47) (.t 48),some (46,true),255,[49,46,47,48]⟩,
 ⟨some 50,.bin .eql (some .int) true (.t 49) (.k (.int .u8 120)),some (46,true),511,[50,46,49]⟩,
 ⟨some 51,.pick (.t 46) (.t 50) (.k (.bool false)),none,1023,[51,46,50]⟩,
 om 52 51 2047,
 og 53 0 52 4095,
 og 54 5 52 4095,
 ⟨some 55,.bin .add (some .int) true (.t 54) (.k (.int .i64 1)),some (52,true),12287,[55,52,54]⟩,
 ⟨some 56,.idxS (.t 53) (.t 55),some (52,true),32767,[56,52,53,55]⟩,
 ⟨some 57,.call (.k (.func 37 [] [])) [(.t 56)],some (52,true),65535,[57,52,56]⟩,
 ⟨some 58,.bin .lss (some .int) true (.t 57) (.k (.int .u8 16)),some (52,true),131071,[58,52,57]⟩,
 ⟨some 59,.pick (.t 52) (.t 58) (.k (.bool false)),none,262143,[59,52,58]⟩,
 om 60 59 524287,
 og 61 0 60 1048575,
 og 62 5 60 1048575,
 ⟨some 63,.bin .add (some .int) true (.t 62) (.k (.int .i64 2)),some (60,true),3145727,[63,60,62]⟩,
 ⟨some 64,.idxS (.t 61) (.t 63),some (60,true),8388607,[64,60,61,63]⟩,
 ⟨some 65,.call (.k (.func 37 [] [])) [(.t 64)],some (60,true),16777215,[65,60,64]⟩,
 ⟨some 66,.bin .lss (some .int) true (.t 65) (.k (.int .u8 16)),some (60,true),33554431,[66,60,65]⟩,
 ⟨some 67,.pick (.t 60) (.t 66) (.k (.bool false)),none,67108863,[67,60,66]⟩]
def r15_8 : List O := [om 68 4 0,
 om 69 0 0,
 om 70 5 0,
 ⟨some 71,.bin .add (some .int) true (.t 70) (.k (.int .i64 1)),none,4,[71,70]⟩,
 ⟨some 72,.idxS (.t 69) (.t 71),none,14,[72,69,71]⟩,
 ⟨some 73,.call (.k (.func 37 [] [])) [(.t 72)],none,30,[73,72]⟩,
 ⟨some 74,.bin .mul (some .int) true (.k (.int .u8 16)) (.t 73),none,62,[74,73]⟩,
 om 75 0 0,
 om 76 5 0,
 ⟨some 77,.bin .add (some .int) true (.t 76) (.k (.int .i64 2)),none,256,[77,76]⟩,
 ⟨some 78,.idxS (.t 75) (.t 77),none,896,[78,75,77]⟩,
 ⟨some 79,.call (.k (.func 37 [] [])) [(.t 78)],none,1982,[79,78]⟩,
 ⟨some 80,.bin .add (some .int) false (.t 74) (.t 79),none,4094,[80,74,79]⟩,
 ⟨some 81,.bslice 5 1 [(.int .u8 0)] [(0,1,(.t 80))],none,8190,[81,80]⟩,
 ⟨some 82,.app 5 1 1 (.t 68) (.t 81),none,16383,[82,68,81]⟩,
 om 4 82 32767]
theorem k15_8 (lo : Nat) (hx : XDK P E ro L K Q lo h [true,true,true,true,true,true,true,false,false,false,false,true,true,true,true,true] r15_8 ρ h) : XD P E ro L r15_8 K ρ h Q := XD_keeps rfl rfl hx
def r15_9 : List O := [om 83 5 0,
 ⟨some 84,.bin .add (some .int) true (.t 83) (.k (.int .i64 2)),none,1,[84,83]⟩,
 om 5 84 3]
def r15_10 : List O := [om 85 4 0,
 om 86 0 0,
 om 87 5 0,
 ⟨some 88,.idxS (.t 86) (.t 87),none,6,[88,86,87]⟩,
 ⟨some 89,.bslice 5 1 [(.int .u8 0)] [(0,1,(.t 88))],none,14,[89,88]⟩,
 ⟨some 90,.app 5 1 1 (.t 85) (.t 89),none,31,[90,85,89]⟩,
 om 4 90 63]
def r15_11 : List O := [om 27 5 0,
 ⟨some 28,.bin .add (some .int) true (.t 27) (.k (.int .i64 1)),none,1,[28,27]⟩,
 om 5 28 3]
def b15_12 : C := .seq (.seq (.region r15_3) (.cond (.t 26) (.skip) (.exit 0))) (.seq (.block 1 (.seq (.seq (.region r15_4) (.cond (.t 32) (.seq (.region r15_5) (.exit 1)) (.skip))) (.seq (.region r15_6) (.seq (.seq (.region r15_7) (.cond (.t 67) (.seq (.draw r15_8) (.seq (.region r15_9) (.exit 1))) (.skip))) (.region r15_10))))) (.region r15_11))
theorem u15_12 : XL P E ro L b15_12 K ρ h Q = X P E ro L (.c (.seq (.seq (.region r15_3) (.cond (.t 26) (.skip) (.exit 0))) (.seq (.block 1 (.seq (.seq (.region r15_4) (.cond (.t 32) (.seq (.region r15_5) (.exit 1)) (.skip))) (.seq (.region r15_6) (.seq (.seq (.region r15_7) (.cond (.t 67) (.seq (.draw r15_8) (.seq (.region r15_9) (.exit 1))) (.skip))) (.region r15_10))))) (.region r15_11))) :: .l b15_12 :: K) ρ h Q := XL_unroll b15_12
def r15_13 : List O := [om 91 4 0,
 ⟨some 92,.b2s (.t 91),none,1,[92,91]⟩,
 ⟨some 93,.call (.k (.func 17 [] [])) [(.t 92)],none,3,[93,92]⟩,
 om 94 0 0,
 ⟨some 95,.bin .neq (some .str) false (.t 93) (.t 94),none,15,[95,93,94]⟩]
def r15_14 : List O := [⟨some 2,.mv (.k (.str [])),none,0,[2]⟩,
 ⟨some 3,.mv (.k (.bool false)),none,1,[3]⟩]
def r15_15 : List O := [om 96 4 0,
 ⟨some 97,.b2s (.t 96),none,1,[97,96]⟩,
 om 2 97 3,
 ⟨some 3,.mv (.k (.bool true)),none,7,[3]⟩]
def c15 : C := .seq (.region r15_0) (.seq (.seq (.region r15_1) (.cond (.t 21) (.seq (.region r15_2) (.ret)) (.skip))) (.seq (.region [⟨some 4,.mv (.k (.slice none 0 0 false)),none,0,[4]⟩]) (.seq (.seq (.region [⟨some 5,.mv (.k (.int .i64 1)),none,0,[5]⟩]) (.block 0 (.loop b15_12))) (.seq (.seq (.region r15_13) (.cond (.t 95) (.seq (.region r15_14) (.ret)) (.skip))) (.seq (.region r15_15) (.ret))))))
def fn15 : Fn := ⟨98,[.t 2,.t 3],c15⟩
def r36_0 : List O := [om 7 0 0,
 ⟨some 8,.call (.k (.func 49 [] [])) [(.t 7),(.k (.str [34]))],none,1,[8,7]⟩,
 ⟨some 9,.call (.k (.func 48 [] [])) [(.t 8),(.k (.str [34]))],none,3,[9,8]⟩,
 om 0 9 7]
def r36_1 : List O := [om 10 4 0,
 om 11 0 0,
 ⟨some 12,.lenS (.t 11),none,2,[12,11]⟩,
 ⟨some 13,.bin .lss (some .int) false (.t 10) (.t 12),none,7,[13,10,12]⟩]
def r36_2 : List O := [om 16 0 0,
 om 17 4 0,
 ⟨some 18,.idxS (.t 16) (.t 17),none,3,[18,16,17]⟩,
 ⟨some 19,.bin .neq (some .int) true (.t 18) (.k (.int .u8 92)),none,7,[19,18]⟩,
 om 20 19 15,
 ⟨some 21,.mv (.t 4),some (20,false),31,[21,20,4]⟩,
 ⟨some 22,.bin .add (some .int) true (.t 21) (.k (.int .i64 1)),some (20,false),63,[22,20,21]⟩,
 ⟨some 23,.mv (.t 0),some (20,false),31,[23,20,0]⟩,
 ⟨some 24,.lenS (.t 23),some (20,false),159,[24,20,23]⟩,
 ⟨some 25,.bin .geq (some .int) false (.t 22) (.t 24),some (20,false),511,[25,20,22,24]⟩,
 ⟨some 26,.pick (.t 20) (.k (.bool true)) (.t 25),none,1023,[26,20,25]⟩]
def r36_3 : List O := [om 27 3 0,
 om 28 0 0,
 om 29 4 0,
 ⟨some 30,.idxS (.t 28) (.t 29),none,6,[30,28,29]⟩,
 ⟨some 31,.bslice 5 1 [(.int .u8 0)] [(0,1,(.t 30))],none,14,[31,30]⟩,
 ⟨some 32,.app 5 1 1 (.t 27) (.t 31),none,31,[32,27,31]⟩,
 om 3 32 63]
def r36_4 : List O := [om 33 4 0,
 ⟨some 34,.bin .add (some .int) true (.t 33) (.k (.int .i64 1)),none,1,[34,33]⟩,
 om 4 34 3]
def r36_5 : List O := [om 35 0 0,
 om 36 4 0,
 ⟨some 37,.idxS (.t 35) (.t 36),none,3,[37,35,36]⟩,
 ⟨some 38,.bin .neq (some .int) true (.t 37) (.k (.int .u8 120)),none,7,[38,37]⟩,
 om 39 38 15,
 ⟨some 40,.mv (.t 4),some (39,false),31,[40,39,4]⟩,
 ⟨some 41,.bin .add (some .int) true (.t 40) (.k (.int .i64 2)),some (39,false),63,[41,39,40]⟩,
 ⟨some 42,.mv (.t 0),some (39,false),31,[42,39,0]⟩,
 ⟨some 43,.lenS (.t 42),some (39,false),159,[43,39,42]⟩,
 ⟨some 44,.bin .geq (some .int) false (.t 41) (.t 43),some (39,false),511,[44,39,41,43]⟩,
 ⟨some 45,.pick (.t 39) (.k (.bool true)) (.t 44),none,1023,[45,39,44]⟩]
def r36_6 : List O := [om 46 3 0,
 om 47 0 0,
 om 48 4 0,
 ⟨some 49,.idxS (.t 47) (.t 48),none,6,[49,47,48]⟩,
 ⟨some 50,.bslice 5 1 [(.int .u8 0)] [(0,1,(.t 49))],none,14,[50,49]⟩,
 ⟨some 51,.app 5 1 1 (.t 46) (.t 50),none,31,[51,46,50]⟩,
 om 3 51 63]
def r36_7 : List O := [om 53 0 0,
 om 54 4 0,
 ⟨some 55,.bin .add (some .int) true (.t 54) (.k (.int .i64 1)),none,2,[55,54]⟩,
 om 56 4 0,
 ⟨some 57,.bin .add (some .int) true (.t 56) (.k (.int .i64 3)),none,8,[57,56]⟩,
 ⟨some 58,.slS (.t 53) (some (.t 55)) (some (.t 57)),none,31,[58,53,55,57]⟩,
 ⟨some 59,.call (.k (.func 50 [] [])) [(.t 58),(.k (.int .i64 16)),(.k (.int .i64 8))],none,63,[59,58]⟩,
 om 52 59 127,
 ox 60 52 0 255,
 ox 61 52 1 255,
 om 5 60 511,
 om 6 61 2047]
def r36_8 : List O := [om 62 3 0,
 om 63 5 0,
 ⟨some 64,.cvt .u8 (.t 63),none,2,[64,63]⟩,
 ⟨some 65,.bslice 5 1 [(.int .u8 0)] [(0,1,(.t 64))],none,6,[65,64]⟩,
 ⟨some 66,.app 5 1 1 (.t 62) (.t 65),none,15,[66,62,65]⟩,
 om 3 66 31]
def r36_9 : List O := [om 67 4 0,
 ⟨some 68,.bin .add (some .int) true (.t 67) (.k (.int .i64 2)),none,1,[68,67]⟩,
 om 4 68 3]
def r36_10 : List O := [om 14 4 0,
 ⟨some 15,.bin .add (some .int) true (.t 14) (.k (.int .i64 1)),none,1,[15,14]⟩,
 om 4 15 3]
def b36_11 : C := .seq (.seq (.region r36_1) (.cond (.t 13) (.skip) (.exit 0))) (.seq (.block 1 (.seq (.seq (.region r36_2) (.cond (.t 26) (.seq (.region r36_3) (.exit 1)) (.skip))) (.seq (.region r36_4) (.seq (.seq (.region r36_5) (.cond (.t 45) (.seq (.region r36_6) (.exit 1)) (.skip))) (.seq (.region r36_7) (.seq (.region r36_8) (.region r36_9))))))) (.region r36_10))
theorem u36_11 : XL P E ro L b36_11 K ρ h Q = X P E ro L (.c (.seq (.seq (.region r36_1) (.cond (.t 13) (.skip) (.exit 0))) (.seq (.block 1 (.seq (.seq (.region r36_2) (.cond (.t 26) (.seq (.region r36_3) (.exit 1)) (.skip))) (.seq (.region r36_4) (.seq (.seq (.region r36_5) (.cond (.t 45) (.seq (.region r36_6) (.exit 1)) (.skip))) (.seq (.region r36_7) (.seq (.region r36_8) (.region r36_9))))))) (.region r36_10))) :: .l b36_11 :: K) ρ h Q := XL_unroll b36_11
def r36_12 : List O := [om 69 3 0,
 ⟨some 70,.b2s (.t 69),none,1,[70,69]⟩,
 om 2 70 3]
def c36 : C := .seq (.region [⟨some 2,.mv (.k (.str [])),none,0,[2]⟩]) (.seq (.region [⟨some 3,.mv (.k (.slice none 0 0 false)),none,0,[3]⟩]) (.seq (.region r36_0) (.seq (.seq (.region [⟨some 4,.mv (.k (.int .i64 0)),none,0,[4]⟩]) (.block 0 (.loop b36_11))) (.seq (.region r36_12) (.ret)))))
def fn36 : Fn := ⟨71,[.t 2],c36⟩
def r37_0 : List O := [om 4 0 0,
 ⟨some 5,.bin .geq (some .int) true (.t 4) (.k (.int .u8 48)),none,1,[5,4]⟩,
 om 6 5 3,
 og 7 0 6 7,
 ⟨some 8,.bin .leq (some .int) true (.t 7) (.k (.int .u8 57)),some (6,true),15,[8,6,7]⟩,
 ⟨some 9,.pick (.t 6) (.t 8) (.k (.bool false)),none,31,[9,6,8]⟩,
 om 3 9 63]
def r37_1 : List O := [om 10 0 0,
 ⟨some 11,.bin .sub (some .int) true (.t 10) (.k (.int .u8 48)),none,1,[11,10]⟩,
 om 2 11 3]
def r37_2 : List O := [om 13 0 0,
 ⟨some 14,.bin .geq (some .int) true (.t 13) (.k (.int .u8 97)),none,1,[14,13]⟩,
 om 15 14 3,
 og 16 0 15 7,
 ⟨some 17,.bin .leq (some .int) true (.t 16) (.k (.int .u8 102)),some (15,true),15,[17,15,16]⟩,
 ⟨some 18,.pick (.t 15) (.t 17) (.k (.bool false)),none,31,[18,15,17]⟩,
 om 12 18 63]
def r37_3 : List O := [om 19 0 0,
 ⟨some 20,.bin .sub (some .int) true (.t 19) (.k (.int .u8 97)),none,1,[20,19]⟩,
 ⟨some 21,.bin .add (some .int) true (.t 20) (.k (.int .u8 10)),none,3,[21,20]⟩,
 om 2 21 7]
def c37 : C := .seq (.region [⟨some 2,.mv (.k (.int .u8 0)),none,0,[2]⟩]) (.seq (.block 0 (.seq (.region r37_0) (.cond (.t 3) (.seq (.region r37_1) (.ret)) (.seq (.region r37_2) (.cond (.t 12) (.seq (.region r37_3) (.ret)) (.skip)))))) (.seq (.region [⟨some 2,.mv (.k (.int .u8 16)),none,0,[2]⟩]) (.ret)))
def fn37 : Fn := ⟨22,[.t 2],c37⟩
def r48_0 : List O := [om 5 0 0,
 om 6 1 0,
 ⟨some 7,.call (.k (.func 55 [] [])) [(.t 5),(.t 6)],none,3,[7,5,6]⟩,
 om 4 7 7]
def c48 : C := .seq (.region [⟨some 4,.mv (.k (.str [])),none,0,[4]⟩]) (.seq (.region r48_0) (.ret))
def fn48 : Fn := ⟨8,[.t 4],c48⟩
def r49_0 : List O := [om 5 0 0,
 om 6 1 0,
 ⟨some 7,.call (.k (.func 56 [] [])) [(.t 5),(.t 6)],none,3,[7,5,6]⟩,
 om 4 7 7]
def c49 : C := .seq (.region [⟨some 4,.mv (.k (.str [])),none,0,[4]⟩]) (.seq (.region r49_0) (.ret))
def fn49 : Fn := ⟨8,[.t 4],c49⟩
def r50_0 : List O := [⟨some 6,.mv (.k (.int .u64 0)),none,0,[6]⟩,
 ⟨some 7,.mv (.k .nilIface),none,1,[7]⟩]
def r50_1 : List O := [om 11 0 0,
 om 12 1 0,
 om 13 2 0,
 ⟨some 14,.call (.k (.func 57 [] [])) [(.t 11),(.t 12),(.t 13)],none,7,[14,11,12,13]⟩,
 om 10 14 15,
 ox 15 10 0 31,
 ox 16 10 1 31,
 om 8 15 63,
 om 9 16 255]
def r50_2 : List O := [om 17 9 0,
 ⟨some 18,.bin .neq (some .ifc) true (.t 17) (.k .nilIface),none,1,[18,17]⟩]
def r50_3 : List O := [om 19 8 0,
 om 20 0 0,
 om 21 1 0,
 om 22 2 0,
 om 23 9 0,
 ⟨some 24,.call (.k (.func 58 [] [])) [(.k (.str [80,97,114,115,101,85,105,110,116])),(.t 20),(.t 21),(.t 22),(.t 23)],none,30,[24,20,21,22,23]⟩,
 om 6 19 63,
 om 7 24 127]
def r50_4 : List O := [om 25 8 0,
 om 6 25 1,
 ⟨some 7,.mv (.k .nilIface),none,3,[7]⟩]
def c50 : C := .seq (.region r50_0) (.seq (.region r50_1) (.seq (.seq (.region r50_2) (.cond (.t 18) (.seq (.region r50_3) (.ret)) (.skip))) (.seq (.region r50_4) (.ret))))
def fn50 : Fn := ⟨26,[.t 6,.t 7],c50⟩
def r55_0 : List O := [om 5 0 0,
 om 6 1 0,
 ⟨some 7,.call (.k (.func 64 [] [])) [(.t 5),(.t 6)],none,3,[7,5,6]⟩]
def r55_1 : List O := [om 8 0 0,
 om 9 0 0,
 ⟨some 10,.lenS (.t 9),none,2,[10,9]⟩,
 om 11 1 0,
 ⟨some 12,.lenS (.t 11),none,8,[12,11]⟩,
 ⟨some 13,.bin .sub (some .int) false (.t 10) (.t 12),none,30,[13,10,12]⟩,
 ⟨some 14,.slS (.t 8) none (some (.t 13)),none,63,[14,8,13]⟩,
 om 4 14 127]
def r55_2 : List O := [om 15 0 0,
 om 4 15 1]
def c55 : C := .seq (.region [⟨some 4,.mv (.k (.str [])),none,0,[4]⟩]) (.seq (.seq (.region r55_0) (.cond (.t 7) (.seq (.region r55_1) (.ret)) (.skip))) (.seq (.region r55_2) (.ret)))
def fn55 : Fn := ⟨16,[.t 4],c55⟩
def r56_0 : List O := [om 5 0 0,
 om 6 1 0,
 ⟨some 7,.call (.k (.func 65 [] [])) [(.t 5),(.t 6)],none,3,[7,5,6]⟩]
def r56_1 : List O := [om 8 0 0,
 om 9 1 0,
 ⟨some 10,.lenS (.t 9),none,2,[10,9]⟩,
 ⟨some 11,.slS (.t 8) (some (.t 10)) none,none,7,[11,8,10]⟩,
 om 4 11 15]
def r56_2 : List O := [om 12 0 0,
 om 4 12 1]
def c56 : C := .seq (.region [⟨some 4,.mv (.k (.str [])),none,0,[4]⟩]) (.seq (.seq (.region r56_0) (.cond (.t 7) (.seq (.region r56_1) (.ret)) (.skip))) (.seq (.region r56_2) (.ret)))
def fn56 : Fn := ⟨13,[.t 4],c56⟩
def r57_0 : List O := [⟨some 6,.mv (.k (.int .u64 0)),none,0,[6]⟩,
 ⟨some 7,.mv (.k .nilIface),none,1,[7]⟩]
def r57_1 : List O := [om 18 0 0,
 ⟨some 19,.bin .eql (some .str) true (.t 18) (.k (.str [])),none,1,[19,18]⟩]
def r57_2 : List O := [⟨some 20,.mkI 110 (.k (.int .i64 2)),none,0,[20]⟩,
 ⟨some 6,.mv (.k (.int .u64 0)),none,0,[6]⟩,
 om 7 20 3]
def r57_3 : List O := [om 21 1 0,
 ⟨some 22,.bin .eql (some .int) true (.t 21) (.k (.int .i64 0)),none,1,[22,21]⟩,
 om 8 22 3]
def r57_4 : List O := [om 23 0 0,
 om 9 23 1]
def r57_5 : List O := [om 26 1 0,
 ⟨some 27,.bin .leq (some .int) true (.k (.int .i64 2)) (.t 26),none,1,[27,26]⟩,
 om 28 27 3,
 og 29 1 28 7,
 ⟨some 30,.bin .leq (some .int) true (.t 29) (.k (.int .i64 36)),some (28,true),15,[30,28,29]⟩,
 ⟨some 31,.pick (.t 28) (.t 30) (.k (.bool false)),none,31,[31,28,30]⟩,
 om 25 31 63]
def r57_6 : List O := [om 33 1 0,
 ⟨some 34,.bin .eql (some .int) true (.t 33) (.k (.int .i64 0)),none,1,[34,33]⟩,
 om 32 34 3]
def r57_7 : List O := [om 35 0 0,
 ⟨some 36,.idxS (.t 35) (.k (.int .i64 0)),none,1,[36,35]⟩,
 ⟨some 37,.bin .eql (some .int) true (.t 36) (.k (.int .u8 48)),none,3,[37,36]⟩]
def r57_8 : List O := [om 41 0 0,
 ⟨some 42,.lenS (.t 41),none,1,[42,41]⟩,
 ⟨some 43,.bin .geq (some .int) true (.t 42) (.k (.int .i64 3)),none,3,[43,42]⟩,
 om 44 43 7,
 og 45 0 44 15,
 ⟨some 46,.idxS (.t 45) (.k (.int .i64 1)),some (44,true),31,[46,44,45]⟩,
 ⟨some 47,.call (.k (.func 66 [] [])) [(.t 46)],some (44,true),63,[47,44,46]⟩,
 ⟨some 48,.bin .eql (some .int) true (.t 47) (.k (.int .u8 98)),some (44,true),127,[48,44,47]⟩,
 ⟨some 49,.pick (.t 44) (.t 48) (.k (.bool false)),none,255,[49,44,48]⟩,
 om 40 49 511]
def r57_9 : List O := [om 50 0 0,
 ⟨some 51,.slS (.t 50) (some (.k (.int .i64 2))) none,none,1,[51,50]⟩,
 om 0 51 3]
def r57_10 : List O := [om 53 0 0,
 ⟨some 54,.lenS (.t 53),none,1,[54,53]⟩,
 ⟨some 55,.bin .geq (some .int) true (.t 54) (.k (.int .i64 3)),none,3,[55,54]⟩,
 om 56 55 7,
 og 57 0 56 15,
 ⟨some 58,.idxS (.t 57) (.k (.int .i64 1)),some (56,true),31,[58,56,57]⟩,
 ⟨some 59,.call (.k (.func 66 [] [])) [(.t 58)],some (56,true),63,[59,56,58]⟩,
 ⟨some 60,.bin .eql (some .int) true (.t 59) (.k (.int .u8 111)),some (56,true),127,[60,56,59]⟩,
 ⟨some 61,.pick (.t 56) (.t 60) (.k (.bool false)),none,255,[61,56,60]⟩,
 om 52 61 511]
def r57_11 : List O := [om 62 0 0,
 ⟨some 63,.slS (.t 62) (some (.k (.int .i64 2))) none,none,1,[63,62]⟩,
 om 0 63 3]
def r57_12 : List O := [om 65 0 0,
 ⟨some 66,.lenS (.t 65),none,1,[66,65]⟩,
 ⟨some 67,.bin .geq (some .int) true (.t 66) (.k (.int .i64 3)),none,3,[67,66]⟩,
 om 68 67 7,
 og 69 0 68 15,
 ⟨some 70,.idxS (.t 69) (.k (.int .i64 1)),some (68,true),31,[70,68,69]⟩,
 ⟨some 71,.call (.k (.func 66 [] [])) [(.t 70)],some (68,true),63,[71,68,70]⟩,
 ⟨some 72,.bin .eql (some .int) true (.t 71) (.k (.int .u8 120)),some (68,true),127,[72,68,71]⟩,
 ⟨some 73,.pick (.t 68) (.t 72) (.k (.bool false)),none,255,[73,68,72]⟩,
 om 64 73 511]
def r57_13 : List O := [om 74 0 0,
 ⟨some 75,.slS (.t 74) (some (.k (.int .i64 2))) none,none,1,[75,74]⟩,
 om 0 75 3]
def r57_14 : List O := [om 38 0 0,
 ⟨some 39,.slS (.t 38) (some (.k (.int .i64 1))) none,none,1,[39,38]⟩,
 om 0 39 3]
def r57_15 : List O := [⟨some 24,.mkI 110 (.k (.int .i64 3)),none,0,[24]⟩,
 ⟨some 6,.mv (.k (.int .u64 0)),none,0,[6]⟩,
 om 7 24 3]
def r57_16 : List O := [om 76 2 0,
 ⟨some 77,.bin .eql (some .int) true (.t 76) (.k (.int .i64 0)),none,1,[77,76]⟩]
def r57_17 : List O := [om 78 2 0,
 ⟨some 79,.bin .lss (some .int) true (.t 78) (.k (.int .i64 0)),none,1,[79,78]⟩,
 om 80 79 3,
 ⟨some 81,.mv (.t 2),some (80,false),7,[81,80,2]⟩,
 ⟨some 82,.bin .gtr (some .int) true (.t 81) (.k (.int .i64 64)),some (80,false),15,[82,80,81]⟩,
 ⟨some 83,.pick (.t 80) (.k (.bool true)) (.t 82),none,31,[83,80,82]⟩]
def r57_18 : List O := [⟨some 84,.mkI 110 (.k (.int .i64 4)),none,0,[84]⟩,
 ⟨some 6,.mv (.k (.int .u64 0)),none,0,[6]⟩,
 om 7 84 3]
def r57_19 : List O := [⟨some 91,.bin .eql (some .int) true (.t 85) (.k (.int .i64 10)),none,0,[91,85]⟩,
 om 90 91 1]
def r57_20 : List O := [⟨some 93,.bin .eql (some .int) true (.t 85) (.k (.int .i64 16)),none,0,[93,85]⟩,
 om 92 93 1]
def r57_21 : List O := [om 86 1 0,
 ⟨some 87,.cvt .u64 (.t 86),none,1,[87,86]⟩,
 ⟨some 88,.bin .quo (some .int) true (.k (.int .u64 18446744073709551615)) (.t 87),none,3,[88,87]⟩,
 ⟨some 89,.bin .add (some .int) true (.t 88) (.k (.int .u64 1)),none,7,[89,88]⟩,
 om 10 89 15]
def r57_22 : List O := [om 94 2 0,
 ⟨some 95,.cvt .u64 (.t 94),none,1,[95,94]⟩,
 ⟨some 96,.bin .shl (some .int) true (.k (.int .u64 1)) (.t 95),none,3,[96,95]⟩,
 ⟨some 97,.bin .sub (some .int) true (.t 96) (.k (.int .u64 1)),none,7,[97,96]⟩,
 om 11 97 15]
def r57_23 : List O := [om 98 0 0,
 ⟨some 99,.s2b 5 (.t 98),none,1,[99,98]⟩,
 ⟨some 100,.lenL (.t 99),none,3,[100,99]⟩,
 ⟨some 101,.mv (.k (.int .i64 0)),none,0,[101]⟩]
def r57_24 : List O := [⟨some 103,.iadrL 1 (.t 99) (.t 101),none,0,[103,99,101]⟩,
 ol 104 103 1,
 om 15 104 3]
def r57_25 : List O := [om 107 15 0,
 ⟨some 108,.bin .eql (some .int) true (.t 107) (.k (.int .u8 95)),none,1,[108,107]⟩,
 om 109 108 3,
 og 110 8 109 7,
 ⟨some 111,.pick (.t 109) (.t 110) (.k (.bool false)),none,15,[111,109,110]⟩,
 om 106 111 31]
def r57_26 : List O := [om 113 15 0,
 ⟨some 114,.bin .leq (some .int) true (.k (.int .u8 48)) (.t 113),none,1,[114,113]⟩,
 om 115 114 3,
 og 116 15 115 7,
 ⟨some 117,.bin .leq (some .int) true (.t 116) (.k (.int .u8 57)),some (115,true),15,[117,115,116]⟩,
 ⟨some 118,.pick (.t 115) (.t 117) (.k (.bool false)),none,31,[118,115,117]⟩,
 om 112 118 63]
def r57_27 : List O := [om 119 15 0,
 ⟨some 120,.bin .sub (some .int) true (.t 119) (.k (.int .u8 48)),none,1,[120,119]⟩,
 om 16 120 3]
def r57_28 : List O := [om 122 15 0,
 ⟨some 123,.call (.k (.func 66 [] [])) [(.t 122)],none,1,[123,122]⟩,
 ⟨some 124,.bin .leq (some .int) true (.k (.int .u8 97)) (.t 123),none,3,[124,123]⟩,
 om 125 124 7,
 og 126 15 125 15,
 ⟨some 127,.call (.k (.func 66 [] [])) [(.t 126)],some (125,true),31,[127,125,126]⟩,
 ⟨some 128,.bin .leq (some .int) true (.t 127) (.k (.int .u8 122)),some (125,true),63,[128,125,127]⟩,
 ⟨some 129,.pick (.t 125) (.t 128) (.k (.bool false)),none,127,[129,125,128]⟩,
 om 121 129 255]
def r57_29 : List O := [om 130 15 0,
 ⟨some 131,.call (.k (.func 66 [] [])) [(.t 130)],none,1,[131,130]⟩,
 ⟨some 132,.bin .sub (some .int) true (.t 131) (.k (.int .u8 97)),none,3,[132,131]⟩,
 ⟨some 133,.bin .add (some .int) true (.t 132) (.k (.int .u8 10)),none,7,[133,132]⟩,
 om 16 133 15]
def r57_30 : List O := [⟨some 105,.mkI 110 (.k (.int .i64 2)),none,0,[105]⟩,
 ⟨some 6,.mv (.k (.int .u64 0)),none,0,[6]⟩,
 om 7 105 3]
def r57_31 : List O := [om 134 16 0,
 om 135 1 0,
 ⟨some 136,.cvt .u8 (.t 135),none,2,[136,135]⟩,
 ⟨some 137,.bin .geq (some .int) false (.t 134) (.t 136),none,7,[137,134,136]⟩]
def r57_32 : List O := [⟨some 138,.mkI 110 (.k (.int .i64 2)),none,0,[138]⟩,
 ⟨some 6,.mv (.k (.int .u64 0)),none,0,[6]⟩,
 om 7 138 3]
def r57_33 : List O := [om 139 13 0,
 om 140 10 0,
 ⟨some 141,.bin .geq (some .int) false (.t 139) (.t 140),none,3,[141,139,140]⟩]
def r57_34 : List O := [om 142 11 0,
 ⟨some 143,.mkI 110 (.k (.int .i64 1)),none,0,[143]⟩,
 om 6 142 1,
 om 7 143 7]
def r57_35 : List O := [om 144 13 0,
 om 145 1 0,
 ⟨some 146,.cvt .u64 (.t 145),none,2,[146,145]⟩,
 ⟨some 147,.bin .mul (some .int) false (.t 144) (.t 146),none,7,[147,144,146]⟩,
 om 13 147 15]
def r57_36 : List O := [om 148 13 0,
 om 149 16 0,
 ⟨some 150,.cvt .u64 (.t 149),none,2,[150,149]⟩,
 ⟨some 151,.bin .add (some .int) false (.t 148) (.t 150),none,7,[151,148,150]⟩,
 om 17 151 15]
def r57_37 : List O := [om 152 17 0,
 om 153 13 0,
 ⟨some 154,.bin .lss (some .int) false (.t 152) (.t 153),none,3,[154,152,153]⟩,
 om 155 154 7,
 ⟨some 156,.mv (.t 17),some (155,false),15,[156,155,17]⟩,
 ⟨some 157,.mv (.t 11),some (155,false),15,[157,155,11]⟩,
 ⟨some 158,.bin .gtr (some .int) false (.t 156) (.t 157),some (155,false),63,[158,155,156,157]⟩,
 ⟨some 159,.pick (.t 155) (.k (.bool true)) (.t 158),none,127,[159,155,158]⟩]
def r57_38 : List O := [om 160 11 0,
 ⟨some 161,.mkI 110 (.k (.int .i64 1)),none,0,[161]⟩,
 om 6 160 1,
 om 7 161 7]
def r57_39 : List O := [om 162 17 0,
 om 13 162 1]
def r57_40 : List O := [⟨some 163,.bin .add (some .int) true (.t 101) (.k (.int .i64 1)),none,0,[163,101]⟩,
 om 101 163 1]
def b57_41 : C := .seq (.region [⟨some 102,.bin .lss (some .int) false (.t 101) (.t 100),none,0,[102,101,100]⟩]) (.seq (.cond (.t 102) (.skip) (.exit 3)) (.seq (.block 4 (.seq (.region r57_24) (.seq (.region [⟨some 16,.mv (.k (.int .u8 0)),none,0,[16]⟩]) (.seq (.block 5 (.seq (.region r57_25) (.cond (.t 106) (.seq (.region [⟨some 12,.mv (.k (.bool true)),none,0,[12]⟩]) (.exit 4)) (.seq (.region r57_26) (.cond (.t 112) (.region r57_27) (.seq (.region r57_28) (.cond (.t 121) (.region r57_29) (.seq (.region r57_30) (.ret))))))))) (.seq (.seq (.region r57_31) (.cond (.t 137) (.seq (.region r57_32) (.ret)) (.skip))) (.seq (.seq (.region r57_33) (.cond (.t 141) (.seq (.region r57_34) (.ret)) (.skip))) (.seq (.region r57_35) (.seq (.region r57_36) (.seq (.seq (.region r57_37) (.cond (.t 159) (.seq (.region r57_38) (.ret)) (.skip))) (.region r57_39)))))))))) (.region r57_40)))
theorem u57_41 : XL P E ro L b57_41 K ρ h Q = X P E ro L (.c (.seq (.region [⟨some 102,.bin .lss (some .int) false (.t 101) (.t 100),none,0,[102,101,100]⟩]) (.seq (.cond (.t 102) (.skip) (.exit 3)) (.seq (.block 4 (.seq (.region r57_24) (.seq (.region [⟨some 16,.mv (.k (.int .u8 0)),none,0,[16]⟩]) (.seq (.block 5 (.seq (.region r57_25) (.cond (.t 106) (.seq (.region [⟨some 12,.mv (.k (.bool true)),none,0,[12]⟩]) (.exit 4)) (.seq (.region r57_26) (.cond (.t 112) (.region r57_27) (.seq (.region r57_28) (.cond (.t 121) (.region r57_29) (.seq (.region r57_30) (.ret))))))))) (.seq (.seq (.region r57_31) (.cond (.t 137) (.seq (.region r57_32) (.ret)) (.skip))) (.seq (.seq (.region r57_33) (.cond (.t 141) (.seq (.region r57_34) (.ret)) (.skip))) (.seq (.region r57_35) (.seq (.region r57_36) (.seq (.seq (.region r57_37) (.cond (.t 159) (.seq (.region r57_38) (.ret)) (.skip))) (.region r57_39)))))))))) (.region r57_40)))) :: .l b57_41 :: K) ρ h Q := XL_unroll b57_41
def r57_42 : List O := [om 164 12 0,
 om 165 164 1,
 og 166 9 165 3,
 ⟨some 167,.call (.k (.func 67 [] [])) [(.t 166)],some (165,true),7,[167,165,166]⟩,
 ⟨some 168,.un .not (.t 167),some (165,true),15,[168,165,167]⟩,
 ⟨some 169,.pick (.t 165) (.t 168) (.k (.bool false)),none,31,[169,165,168]⟩]
def r57_43 : List O := [⟨some 170,.mkI 110 (.k (.int .i64 2)),none,0,[170]⟩,
 ⟨some 6,.mv (.k (.int .u64 0)),none,0,[6]⟩,
 om 7 170 3]
def r57_44 : List O := [om 171 13 0,
 om 6 171 1,
 ⟨some 7,.mv (.k .nilIface),none,3,[7]⟩]
def c57 : C := .seq (.region r57_0) (.seq (.seq (.region r57_1) (.cond (.t 19) (.seq (.region r57_2) (.ret)) (.skip))) (.seq (.region r57_3) (.seq (.region r57_4) (.seq (.block 0 (.seq (.region r57_5) (.cond (.t 25) (.skip) (.seq (.region r57_6) (.cond (.t 32) (.seq (.region [⟨some 1,.mv (.k (.int .i64 10)),none,0,[1]⟩]) (.seq (.region r57_7) (.cond (.t 37) (.block 1 (.seq (.region r57_8) (.cond (.t 40) (.seq (.region [⟨some 1,.mv (.k (.int .i64 2)),none,0,[1]⟩]) (.region r57_9)) (.seq (.region r57_10) (.cond (.t 52) (.seq (.region [⟨some 1,.mv (.k (.int .i64 8)),none,0,[1]⟩]) (.region r57_11)) (.seq (.region r57_12) (.cond (.t 64) (.seq (.region [⟨some 1,.mv (.k (.int .i64 16)),none,0,[1]⟩]) (.region r57_13)) (.seq (.region [⟨some 1,.mv (.k (.int .i64 8)),none,0,[1]⟩]) (.region r57_14))))))))) (.skip)))) (.seq (.region r57_15) (.ret))))))) (.seq (.seq (.region r57_16) (.cond (.t 77) (.region [⟨some 2,.mv (.k (.int .i64 64)),none,0,[2]⟩]) (.seq (.region r57_17) (.cond (.t 83) (.seq (.region r57_18) (.ret)) (.skip))))) (.seq (.region [⟨some 10,.mv (.k (.int .u64 0)),none,0,[10]⟩]) (.seq (.seq (.region [om 85 1 0]) (.block 2 (.seq (.region r57_19) (.cond (.t 90) (.region [⟨some 10,.mv (.k (.int .u64 1844674407370955162)),none,0,[10]⟩]) (.seq (.region r57_20) (.cond (.t 92) (.region [⟨some 10,.mv (.k (.int .u64 1152921504606846976)),none,0,[10]⟩]) (.region r57_21))))))) (.seq (.region r57_22) (.seq (.region [⟨some 12,.mv (.k (.bool false)),none,0,[12]⟩]) (.seq (.region [⟨some 13,.mv (.k (.int .u64 0)),none,0,[13]⟩]) (.seq (.seq (.region r57_23) (.block 3 (.loop b57_41))) (.seq (.seq (.region r57_42) (.cond (.t 169) (.seq (.region r57_43) (.ret)) (.skip))) (.seq (.region r57_44) (.ret))))))))))))))
def fn57 : Fn := ⟨172,[.t 6,.t 7],c57⟩
def r64_0 : List O := [om 5 0 0,
 ⟨some 6,.lenS (.t 5),none,1,[6,5]⟩,
 om 7 1 0,
 ⟨some 8,.lenS (.t 7),none,4,[8,7]⟩,
 ⟨some 9,.bin .geq (some .int) false (.t 6) (.t 8),none,15,[9,6,8]⟩,
 om 10 9 31,
 og 11 0 10 63,
 og 12 0 10 63,
 ⟨some 13,.lenS (.t 12),some (10,true),191,[13,10,12]⟩,
 og 14 1 10 63,
 ⟨some 15,.lenS (.t 14),some (10,true),575,[15,10,14]⟩,
 ⟨some 16,.bin .sub (some .int) false (.t 13) (.t 15),some (10,true),1983,[16,10,13,15]⟩,
 ⟨some 17,.slS (.t 11) (some (.t 16)) none,some (10,true),4095,[17,10,11,16]⟩,
 og 18 1 10 63,
 ⟨some 19,.bin .eql (some .str) false (.t 17) (.t 18),some (10,true),16383,[19,10,17,18]⟩,
 ⟨some 20,.pick (.t 10) (.t 19) (.k (.bool false)),none,32767,[20,10,19]⟩,
 om 4 20 65535]
def c64 : C := .seq (.region [⟨some 4,.mv (.k (.bool false)),none,0,[4]⟩]) (.seq (.region r64_0) (.ret))
def fn64 : Fn := ⟨21,[.t 4],c64⟩
def r65_0 : List O := [om 5 0 0,
 ⟨some 6,.lenS (.t 5),none,1,[6,5]⟩,
 om 7 1 0,
 ⟨some 8,.lenS (.t 7),none,4,[8,7]⟩,
 ⟨some 9,.bin .geq (some .int) false (.t 6) (.t 8),none,15,[9,6,8]⟩,
 om 10 9 31,
 og 11 0 10 63,
 og 12 1 10 63,
 ⟨some 13,.lenS (.t 12),some (10,true),191,[13,10,12]⟩,
 ⟨some 14,.slS (.t 11) none (some (.t 13)),some (10,true),511,[14,10,11,13]⟩,
 og 15 1 10 63,
 ⟨some 16,.bin .eql (some .str) false (.t 14) (.t 15),some (10,true),2047,[16,10,14,15]⟩,
 ⟨some 17,.pick (.t 10) (.t 16) (.k (.bool false)),none,4095,[17,10,16]⟩,
 om 4 17 8191]
def c65 : C := .seq (.region [⟨some 4,.mv (.k (.bool false)),none,0,[4]⟩]) (.seq (.region r65_0) (.ret))
def fn65 : Fn := ⟨18,[.t 4],c65⟩
def r66_0 : List O := [om 3 0 0,
 ⟨some 4,.bin .or (some .int) true (.t 3) (.k (.int .u8 32)),none,1,[4,3]⟩,
 om 2 4 3]
def c66 : C := .seq (.region [⟨some 2,.mv (.k (.int .u8 0)),none,0,[2]⟩]) (.seq (.region r66_0) (.ret))
def fn66 : Fn := ⟨5,[.t 2],c66⟩
end Go.AM.Sc
