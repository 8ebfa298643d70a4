/- My own texts of the evaluator, its soundness and its symbolic runs, laid for this claim. -/
import Derived.Test.YtpijmjmbjoopaaaDoorScData
set_option linter.unusedSimpArgs false
set_option linter.unusedVariables false
namespace Go.AM.Sc
variable {P : Program} {E : Env} {ro : Option Nat} {L : Nat} {K : List Fr} {ρ : Nat → V} {h : H} {Q : Po}
/-! 3: orchard/orchardlaw27.ScriptPrints -/
def r3_0 : List O := [⟨some 2,.box 24 (.t 0),none,0,[2,0]⟩,
  ⟨some 4,.mv (.k (.bool false)),none,0,[4]⟩]
def r3_1 : List O := [⟨some 10,.loadN 4 (.t 2),none,0,[10,2]⟩,
  ⟨some 11,.mv (.t 1),none,0,[11,1]⟩,
  ⟨some 12,.call (.k (.func 6 [] [])) [(.t 10),(.t 11)],none,3,[12,10,11]⟩,
  ⟨some 9,.mv (.t 12),none,7,[9,12]⟩,
  ⟨some 13,.extract (.t 9) 0,none,15,[13,9]⟩,
  ⟨some 14,.extract (.t 9) 1,none,15,[14,9]⟩,
  ⟨some 5,.mv (.t 13),none,31,[5,13]⟩,
  ⟨some 6,.mv (.t 14),none,127,[6,14]⟩]
def r3_2 : List O := [⟨some 16,.loadN 4 (.t 2),none,0,[16,2]⟩,
  ⟨some 17,.mv (.t 1),none,0,[17,1]⟩,
  ⟨some 18,.call (.k (.func 7 [] [])) [(.t 16),(.t 17)],none,3,[18,16,17]⟩,
  ⟨some 15,.mv (.t 18),none,7,[15,18]⟩,
  ⟨some 19,.extract (.t 15) 0,none,15,[19,15]⟩,
  ⟨some 20,.extract (.t 15) 1,none,15,[20,15]⟩,
  ⟨some 7,.mv (.t 19),none,31,[7,19]⟩,
  ⟨some 8,.mv (.t 20),none,127,[8,20]⟩]
def r3_3 : List O := [⟨some 21,.call (.k (.func 8 [] [])) [],none,0,[21]⟩,
  ⟨some 22,.mv (.t 21),none,1,[22,21]⟩,
  ⟨some 23,.mv (.t 5),some (22,true),3,[23,22,5]⟩,
  ⟨some 24,.mv (.t 7),some (22,true),3,[24,22,7]⟩,
  ⟨some 25,.bin .eql (some .str) false (.t 23) (.t 24),some (22,true),15,[25,22,23,24]⟩,
  ⟨some 26,.pick (.t 22) (.t 25) (.k (.bool false)),none,31,[26,22,25]⟩,
  ⟨some 27,.mv (.t 26),none,63,[27,26]⟩,
  ⟨some 28,.mv (.t 6),some (27,true),127,[28,27,6]⟩,
  ⟨some 29,.mv (.t 8),some (27,true),127,[29,27,8]⟩,
  ⟨some 30,.bin .eql (some .int) false (.t 28) (.t 29),some (27,true),511,[30,27,28,29]⟩,
  ⟨some 31,.pick (.t 27) (.t 30) (.k (.bool false)),none,1023,[31,27,30]⟩,
  ⟨some 4,.mv (.t 31),none,2047,[4,31]⟩]
def c3 : C := .seq (.region r3_0) (.seq (.region r3_1) (.seq (.region r3_2) (.seq (.region r3_3) (.ret))))
def fn3 : Fn := ⟨32, [.t 4], c3⟩
/-! 4: orchard/orchardlaw27.ScriptApart -/
def r4_0 : List O := [⟨some 2,.box 52 (.t 0),none,0,[2,0]⟩,
  ⟨some 3,.box 52 (.t 1),none,0,[3,1]⟩,
  ⟨some 4,.mv (.k (.bool false)),none,0,[4]⟩]
def r4_1 : List O := [⟨some 15,.loadN 76 (.t 2),none,0,[15,2]⟩,
  ⟨some 16,.call (.k (.func 9 [] [])) [(.t 15)],none,1,[16,15]⟩,
  ⟨some 14,.mv (.t 16),none,3,[14,16]⟩,
  ⟨some 17,.extract (.t 14) 0,none,7,[17,14]⟩,
  ⟨some 18,.extract (.t 14) 1,none,7,[18,14]⟩,
  ⟨some 5,.mv (.t 17),none,15,[5,17]⟩,
  ⟨some 6,.mv (.t 18),none,63,[6,18]⟩]
def r4_2 : List O := [⟨some 20,.loadN 76 (.t 3),none,0,[20,3]⟩,
  ⟨some 21,.call (.k (.func 9 [] [])) [(.t 20)],none,1,[21,20]⟩,
  ⟨some 19,.mv (.t 21),none,3,[19,21]⟩,
  ⟨some 22,.extract (.t 19) 0,none,7,[22,19]⟩,
  ⟨some 23,.extract (.t 19) 1,none,7,[23,19]⟩,
  ⟨some 7,.mv (.t 22),none,15,[7,22]⟩,
  ⟨some 8,.mv (.t 23),none,63,[8,23]⟩]
def r4_3 : List O := [⟨some 25,.loadN 76 (.t 2),none,0,[25,2]⟩,
  ⟨some 26,.call (.k (.func 10 [] [])) [(.t 25)],none,1,[26,25]⟩,
  ⟨some 24,.mv (.t 26),none,3,[24,26]⟩,
  ⟨some 27,.extract (.t 24) 0,none,7,[27,24]⟩,
  ⟨some 28,.extract (.t 24) 1,none,7,[28,24]⟩,
  ⟨some 9,.mv (.t 27),none,15,[9,27]⟩,
  ⟨some 10,.mv (.t 28),none,63,[10,28]⟩]
def r4_4 : List O := [⟨some 30,.loadN 76 (.t 3),none,0,[30,3]⟩,
  ⟨some 31,.call (.k (.func 10 [] [])) [(.t 30)],none,1,[31,30]⟩,
  ⟨some 29,.mv (.t 31),none,3,[29,31]⟩,
  ⟨some 32,.extract (.t 29) 0,none,7,[32,29]⟩,
  ⟨some 33,.extract (.t 29) 1,none,7,[33,29]⟩,
  ⟨some 11,.mv (.t 32),none,15,[11,32]⟩,
  ⟨some 12,.mv (.t 33),none,63,[12,33]⟩]
def r4_5 : List O := [⟨some 34,.mv (.t 6),none,0,[34,6]⟩,
  ⟨some 35,.mv (.t 10),none,0,[35,10]⟩,
  ⟨some 36,.bin .neq (some .int) false (.t 34) (.t 35),none,3,[36,34,35]⟩,
  ⟨some 37,.mv (.t 36),none,7,[37,36]⟩,
  ⟨some 38,.mv (.t 8),some (37,false),15,[38,37,8]⟩,
  ⟨some 39,.mv (.t 12),some (37,false),15,[39,37,12]⟩,
  ⟨some 40,.bin .neq (some .int) false (.t 38) (.t 39),some (37,false),63,[40,37,38,39]⟩,
  ⟨some 41,.pick (.t 37) (.k (.bool true)) (.t 40),none,127,[41,37,40]⟩,
  ⟨some 42,.mv (.t 41),none,255,[42,41]⟩,
  ⟨some 43,.call (.k (.func 8 [] [])) [],some (42,false),511,[43,42]⟩,
  ⟨some 44,.un .not (.t 43),some (42,false),1023,[44,42,43]⟩,
  ⟨some 45,.pick (.t 42) (.k (.bool true)) (.t 44),none,2047,[45,42,44]⟩]
def r4_6 : List O := [⟨some 46,.mv (.t 6),none,0,[46,6]⟩,
  ⟨some 47,.bin .neq (some .int) true (.t 46) (.k (.int .i64 0)),none,1,[47,46]⟩,
  ⟨some 48,.mv (.t 47),none,3,[48,47]⟩,
  ⟨some 49,.mv (.t 8),some (48,false),7,[49,48,8]⟩,
  ⟨some 50,.bin .neq (some .int) true (.t 49) (.k (.int .i64 0)),some (48,false),15,[50,48,49]⟩,
  ⟨some 51,.pick (.t 48) (.k (.bool true)) (.t 50),none,31,[51,48,50]⟩,
  ⟨some 52,.mv (.t 51),none,63,[52,51]⟩,
  ⟨some 53,.mv (.t 5),some (52,false),127,[53,52,5]⟩,
  ⟨some 54,.mv (.t 7),some (52,false),127,[54,52,7]⟩,
  ⟨some 55,.bin .eql (some .str) false (.t 53) (.t 54),some (52,false),511,[55,52,53,54]⟩,
  ⟨some 56,.loadN 4 (.t 13),some (52,false),127,[56,52,13]⟩,
  ⟨some 57,.loadN 4 (.t 13),some (52,false),127,[57,52,13]⟩,
  ⟨some 58,.loadN 76 (.t 2),some (52,false),127,[58,52,2]⟩,
  ⟨some 59,.bslice 52 1 [.int .i64 0,.int .i64 0,.int .i64 0,.int .i64 0,.int .i64 0,.int .i64 0,.int .i64 0,.int .i64 0,.int .i64 0,.str [],.str [],.str [],.int .i64 0,.str [],.int .i64 0,.int .i64 0,.int .i64 0,.int .i64 0,.int .i64 0,.int .i64 0,.int .i64 0,.int .i64 0,.int .i64 0,.str [],.str [],.str [],.int .i64 0,.int .i64 0,(.slice none 0 0 false),.int .i64 0,.int .i64 0,.int .i64 0,.int .i64 0,.int .i64 0,.int .i64 0,.int .i64 0,.int .i64 0,.int .i64 0,.int .i64 0,.int .i64 0,.int .i64 0,.int .i64 0,.int .i64 0,.int .i64 0,.int .i64 0,.int .i64 0,.int .i64 0,.int .i64 0,.int .i64 0,.int .i64 0,.int .i64 0,.int .i64 0,.int .i64 0,.int .i64 0,.int .i64 0,.int .i64 0,.int .i64 0,.int .i64 0,.int .i64 0,.int .i64 0,.int .i64 0,.int .i64 0,.int .i64 0,.int .i64 0,.int .i64 0,.int .i64 0,.int .i64 0,(.slice none 0 0 false),.int .i64 0,.int .i64 0,.int .i64 0,.int .i64 0,.int .i64 0,(.int .u8 0),.int .i64 0,.int .i64 0] [(0,76,(.t 58))],some (52,false),4223,[59,52,58]⟩,
  ⟨some 60,.loadN 76 (.t 3),some (52,false),127,[60,52,3]⟩,
  ⟨some 61,.bslice 52 1 [.int .i64 0,.int .i64 0,.int .i64 0,.int .i64 0,.int .i64 0,.int .i64 0,.int .i64 0,.int .i64 0,.int .i64 0,.str [],.str [],.str [],.int .i64 0,.str [],.int .i64 0,.int .i64 0,.int .i64 0,.int .i64 0,.int .i64 0,.int .i64 0,.int .i64 0,.int .i64 0,.int .i64 0,.str [],.str [],.str [],.int .i64 0,.int .i64 0,(.slice none 0 0 false),.int .i64 0,.int .i64 0,.int .i64 0,.int .i64 0,.int .i64 0,.int .i64 0,.int .i64 0,.int .i64 0,.int .i64 0,.int .i64 0,.int .i64 0,.int .i64 0,.int .i64 0,.int .i64 0,.int .i64 0,.int .i64 0,.int .i64 0,.int .i64 0,.int .i64 0,.int .i64 0,.int .i64 0,.int .i64 0,.int .i64 0,.int .i64 0,.int .i64 0,.int .i64 0,.int .i64 0,.int .i64 0,.int .i64 0,.int .i64 0,.int .i64 0,.int .i64 0,.int .i64 0,.int .i64 0,.int .i64 0,.int .i64 0,.int .i64 0,.int .i64 0,(.slice none 0 0 false),.int .i64 0,.int .i64 0,.int .i64 0,.int .i64 0,.int .i64 0,(.int .u8 0),.int .i64 0,.int .i64 0] [(0,76,(.t 60))],some (52,false),16511,[61,52,60]⟩,
  ⟨some 62,.call (.k (.func 11 [] [])) [(.t 56),(.t 57),(.t 59),(.t 61)],some (52,false),64639,[62,52,56,57,59,61]⟩,
  ⟨some 63,.bin .eql (some .bool) false (.t 55) (.t 62),some (52,false),131071,[63,52,55,62]⟩,
  ⟨some 64,.pick (.t 52) (.k (.bool true)) (.t 63),none,262143,[64,52,63]⟩,
  ⟨some 4,.mv (.t 64),none,524287,[4,64]⟩]
def c4 : C := .seq (.region r4_0) (.seq (.region r4_1) (.seq (.region r4_2) (.seq (.region r4_3) (.seq (.region r4_4) (.seq (.seq (.region r4_5) (.cond (.t 45) (.seq (.region [⟨some 4,.mv (.k (.bool false)),none,0,[4]⟩]) (.ret)) (.skip))) (.seq (.region [⟨some 13,.alloc 24 [.int .i64 0,.int .i64 0,.int .i64 0,(.slice none 0 0 false)],none,0,[13]⟩]) (.seq (.region r4_6) (.ret))))))))
def fn4 : Fn := ⟨65, [.t 4], c4⟩
/-! 6: orchard/script.Print -/
def r6_0 : List O := [⟨some 2,.box 24 (.t 0),none,0,[2,0]⟩,
  ⟨some 4,.mv (.k (.str [])),none,0,[4]⟩,
  ⟨some 5,.mv (.k (.int .i64 0)),none,2,[5]⟩]
def r6_1 : List O := [⟨some 11,.mv (.t 1),none,0,[11,1]⟩,
  ⟨some 12,.lenL (.t 11),none,1,[12,11]⟩,
  ⟨some 13,.bin .gtr (some .int) true (.t 12) (.k (.int .i64 16384)),none,3,[13,12]⟩]
def r6_2 : List O := [⟨some 4,.mv (.k (.str [])),none,0,[4]⟩,
  ⟨some 5,.mv (.k (.int .i64 3)),none,1,[5]⟩]
def r6_3 : List O := [⟨some 14,.loadN 4 (.t 2),none,0,[14,2]⟩,
  ⟨some 15,.call (.k (.func 21 [] [])) [(.t 14)],none,1,[15,14]⟩,
  ⟨some 16,.bin .add (some .str) true (.t 15) (.k (.str [10])),none,3,[16,15]⟩,
  ⟨some 17,.call (.k (.func 20 [] [])) [(.t 6),(.t 16)],none,7,[17,6,16]⟩]
def r6_4 : List O := [⟨some 18,.mv (.t 1),none,0,[18,1]⟩,
  ⟨some 19,.lenL (.t 18),none,1,[19,18]⟩,
  ⟨some 20,.mv (.k (.int .i64 0)),none,0,[20]⟩]
def r6_5 : List O := [⟨some 22,.iadrL 76 (.t 18) (.t 20),none,0,[22,18,20]⟩,
  ⟨some 23,.loadN 76 (.t 22),none,1,[23,22]⟩,
  ⟨some 8,.alloc 52 [.int .i64 0,.int .i64 0,.int .i64 0,.int .i64 0,.int .i64 0,.int .i64 0,.int .i64 0,.int .i64 0,.int .i64 0,.str [],.str [],.str [],.int .i64 0,.str [],.int .i64 0,.int .i64 0,.int .i64 0,.int .i64 0,.int .i64 0,.int .i64 0,.int .i64 0,.int .i64 0,.int .i64 0,.str [],.str [],.str [],.int .i64 0,.int .i64 0,(.slice none 0 0 false),.int .i64 0,.int .i64 0,.int .i64 0,.int .i64 0,.int .i64 0,.int .i64 0,.int .i64 0,.int .i64 0,.int .i64 0,.int .i64 0,.int .i64 0,.int .i64 0,.int .i64 0,.int .i64 0,.int .i64 0,.int .i64 0,.int .i64 0,.int .i64 0,.int .i64 0,.int .i64 0,.int .i64 0,.int .i64 0,.int .i64 0,.int .i64 0,.int .i64 0,.int .i64 0,.int .i64 0,.int .i64 0,.int .i64 0,.int .i64 0,.int .i64 0,.int .i64 0,.int .i64 0,.int .i64 0,.int .i64 0,.int .i64 0,.int .i64 0,.int .i64 0,(.slice none 0 0 false),.int .i64 0,.int .i64 0,.int .i64 0,.int .i64 0,.int .i64 0,(.int .u8 0),.int .i64 0,.int .i64 0],none,0,[8]⟩,
  ⟨none,.store 76 (.t 8) (.t 23),none,7,[8,23]⟩]
def r6_6 : List O := [⟨some 25,.loadN 76 (.t 8),none,0,[25,8]⟩,
  ⟨some 26,.call (.k (.func 9 [] [])) [(.t 25)],none,1,[26,25]⟩,
  ⟨some 24,.mv (.t 26),none,3,[24,26]⟩,
  ⟨some 27,.extract (.t 24) 0,none,7,[27,24]⟩,
  ⟨some 28,.extract (.t 24) 1,none,7,[28,24]⟩,
  ⟨some 9,.mv (.t 27),none,15,[9,27]⟩,
  ⟨some 10,.mv (.t 28),none,63,[10,28]⟩]
def r6_7 : List O := [⟨some 29,.mv (.t 10),none,0,[29,10]⟩,
  ⟨some 30,.bin .neq (some .int) true (.t 29) (.k (.int .i64 0)),none,1,[30,29]⟩]
def r6_8 : List O := [⟨some 31,.mv (.t 10),none,0,[31,10]⟩,
  ⟨some 4,.mv (.k (.str [])),none,0,[4]⟩,
  ⟨some 5,.mv (.t 31),none,3,[5,31]⟩]
def r6_9 : List O := [⟨some 32,.mv (.t 9),none,0,[32,9]⟩,
  ⟨some 33,.bin .add (some .str) true (.t 32) (.k (.str [10])),none,1,[33,32]⟩,
  ⟨some 34,.call (.k (.func 20 [] [])) [(.t 6),(.t 33)],none,3,[34,6,33]⟩]
def r6_10 : List O := [⟨some 35,.bin .add (some .int) true (.t 20) (.k (.int .i64 1)),none,0,[35,20]⟩,
  ⟨some 20,.mv (.t 35),none,1,[20,35]⟩]
def b6_11 : C := .seq (.region [⟨some 21,.bin .lss (some .int) false (.t 20) (.t 19),none,0,[21,20,19]⟩]) (.seq (.cond (.t 21) (.skip) (.exit 0)) (.seq (.block 1 (.seq (.region r6_5) (.seq (.region r6_6) (.seq (.seq (.region r6_7) (.cond (.t 30) (.seq (.region r6_8) (.ret)) (.skip))) (.region r6_9))))) (.region r6_10)))
theorem u6_11 : XL P E ro L b6_11 K ρ h Q = X P E ro L (.c (.seq (.region [⟨some 21, .bin .lss (some .int) false (.t 20) (.t 19), none, 0, [21, 20, 19]⟩]) (.seq (.cond (.t 21) (.skip) (.exit 0)) (.seq (.block 1 (.seq (.region r6_5) (.seq (.region r6_6) (.seq (.seq (.region r6_7) (.cond (.t 30) (.seq (.region r6_8) (.ret)) (.skip))) (.region r6_9))))) (.region r6_10)))) :: .l b6_11 :: K) ρ h Q := XL_unroll b6_11
def r6_12 : List O := [⟨some 36,.call (.k (.func 22 [] [])) [(.t 6)],none,0,[36,6]⟩,
  ⟨some 4,.mv (.t 36),none,1,[4,36]⟩,
  ⟨some 5,.mv (.k (.int .i64 0)),none,3,[5]⟩]
def c6 : C := .seq (.region r6_0) (.seq (.seq (.region r6_1) (.cond (.t 13) (.seq (.region r6_2) (.ret)) (.skip))) (.seq (.region [⟨some 6,.alloc 64 [(.ptr none),(.slice none 0 0 false)],none,0,[6]⟩]) (.seq (.region r6_3) (.seq (.seq (.region r6_4) (.block 0 (.loop b6_11))) (.seq (.region r6_12) (.ret))))))
def fn6 : Fn := ⟨37, [.t 4, .t 5], c6⟩
/-! 7: orchard/orchardref27.Print -/
def r7_0 : List O := [⟨some 2,.box 24 (.t 0),none,0,[2,0]⟩,
  ⟨some 4,.mv (.k (.str [])),none,0,[4]⟩,
  ⟨some 5,.mv (.k (.int .i64 0)),none,2,[5]⟩]
def r7_1 : List O := [⟨some 10,.mv (.t 1),none,0,[10,1]⟩,
  ⟨some 11,.lenL (.t 10),none,1,[11,10]⟩,
  ⟨some 12,.bin .gtr (some .int) true (.t 11) (.k (.int .i64 16384)),none,3,[12,11]⟩]
def r7_2 : List O := [⟨some 4,.mv (.k (.str [])),none,0,[4]⟩,
  ⟨some 5,.mv (.k (.int .i64 3)),none,1,[5]⟩]
def r7_3 : List O := [⟨some 13,.loadN 4 (.t 2),none,0,[13,2]⟩,
  ⟨some 14,.call (.k (.func 23 [] [])) [(.t 13)],none,1,[14,13]⟩,
  ⟨some 6,.mv (.t 14),none,3,[6,14]⟩]
def r7_4 : List O := [⟨some 15,.mv (.t 7),none,0,[15,7]⟩,
  ⟨some 16,.mv (.t 1),none,0,[16,1]⟩,
  ⟨some 17,.lenL (.t 16),none,2,[17,16]⟩,
  ⟨some 18,.bin .lss (some .int) false (.t 15) (.t 17),none,7,[18,15,17]⟩]
def r7_5 : List O := [⟨some 22,.mv (.t 1),none,0,[22,1]⟩,
  ⟨some 23,.mv (.t 7),none,0,[23,7]⟩,
  ⟨some 24,.iadrL 76 (.t 22) (.t 23),none,3,[24,22,23]⟩,
  ⟨some 25,.loadN 76 (.t 24),none,7,[25,24]⟩,
  ⟨some 26,.call (.k (.func 10 [] [])) [(.t 25)],none,15,[26,25]⟩,
  ⟨some 21,.mv (.t 26),none,31,[21,26]⟩,
  ⟨some 27,.extract (.t 21) 0,none,63,[27,21]⟩,
  ⟨some 28,.extract (.t 21) 1,none,63,[28,21]⟩,
  ⟨some 8,.mv (.t 27),none,127,[8,27]⟩,
  ⟨some 9,.mv (.t 28),none,511,[9,28]⟩]
def r7_6 : List O := [⟨some 29,.mv (.t 9),none,0,[29,9]⟩,
  ⟨some 30,.bin .neq (some .int) true (.t 29) (.k (.int .i64 0)),none,1,[30,29]⟩]
def r7_7 : List O := [⟨some 31,.mv (.t 9),none,0,[31,9]⟩,
  ⟨some 4,.mv (.k (.str [])),none,0,[4]⟩,
  ⟨some 5,.mv (.t 31),none,3,[5,31]⟩]
def r7_8 : List O := [⟨some 32,.mv (.t 6),none,0,[32,6]⟩,
  ⟨some 33,.mv (.t 8),none,0,[33,8]⟩,
  ⟨some 34,.bin .add (some .str) true (.t 33) (.k (.str [10])),none,2,[34,33]⟩,
  ⟨some 35,.bin .add (some .str) false (.t 32) (.t 34),none,7,[35,32,34]⟩,
  ⟨some 6,.mv (.t 35),none,15,[6,35]⟩]
def r7_9 : List O := [⟨some 19,.mv (.t 7),none,0,[19,7]⟩,
  ⟨some 20,.bin .add (some .int) true (.t 19) (.k (.int .i64 1)),none,1,[20,19]⟩,
  ⟨some 7,.mv (.t 20),none,3,[7,20]⟩]
def b7_10 : C := .seq (.seq (.region r7_4) (.cond (.t 18) (.skip) (.exit 0))) (.seq (.block 1 (.seq (.region r7_5) (.seq (.seq (.region r7_6) (.cond (.t 30) (.seq (.region r7_7) (.ret)) (.skip))) (.region r7_8)))) (.region r7_9))
theorem u7_10 : XL P E ro L b7_10 K ρ h Q = X P E ro L (.c (.seq (.seq (.region r7_4) (.cond (.t 18) (.skip) (.exit 0))) (.seq (.block 1 (.seq (.region r7_5) (.seq (.seq (.region r7_6) (.cond (.t 30) (.seq (.region r7_7) (.ret)) (.skip))) (.region r7_8)))) (.region r7_9))) :: .l b7_10 :: K) ρ h Q := XL_unroll b7_10
def r7_11 : List O := [⟨some 36,.mv (.t 6),none,0,[36,6]⟩,
  ⟨some 4,.mv (.t 36),none,1,[4,36]⟩,
  ⟨some 5,.mv (.k (.int .i64 0)),none,3,[5]⟩]
def c7 : C := .seq (.region r7_0) (.seq (.seq (.region r7_1) (.cond (.t 12) (.seq (.region r7_2) (.ret)) (.skip))) (.seq (.region r7_3) (.seq (.seq (.region [⟨some 7,.mv (.k (.int .i64 0)),none,0,[7]⟩]) (.block 0 (.loop b7_10))) (.seq (.region r7_11) (.ret)))))
def fn7 : Fn := ⟨37, [.t 4, .t 5], c7⟩
/-! 8: orchard/orchardlaw27.live -/
def r8_0 : List O := [⟨some 4,.bslice 3 1 [.int .i64 0] [(0,1,(.k (.int .i64 0)))],none,0,[4]⟩,
  ⟨some 5,.build [.int .i64 0,.int .i64 0,.int .i64 0,(.slice none 0 0 false)] [(0,1,(.k (.int .i64 1))),(1,1,(.k (.int .i64 9))),(3,1,(.t 4))],none,1,[5,4]⟩,
  ⟨some 6,.build [.int .i64 0,.int .i64 0,.int .i64 0,.int .i64 0,.int .i64 0,.int .i64 0,.int .i64 0,.int .i64 0,.int .i64 0,.str [],.str [],.str [],.int .i64 0,.str [],.int .i64 0,.int .i64 0,.int .i64 0,.int .i64 0,.int .i64 0,.int .i64 0,.int .i64 0,.int .i64 0,.int .i64 0,.str [],.str [],.str [],.int .i64 0,.int .i64 0,(.slice none 0 0 false),.int .i64 0,.int .i64 0,.int .i64 0,.int .i64 0,.int .i64 0,.int .i64 0,.int .i64 0,.int .i64 0,.int .i64 0,.int .i64 0,.int .i64 0,.int .i64 0,.int .i64 0,.int .i64 0,.int .i64 0,.int .i64 0,.int .i64 0,.int .i64 0,.int .i64 0,.int .i64 0,.int .i64 0,.int .i64 0,.int .i64 0,.int .i64 0,.int .i64 0,.int .i64 0,.int .i64 0,.int .i64 0,.int .i64 0,.int .i64 0,.int .i64 0,.int .i64 0,.int .i64 0,.int .i64 0,.int .i64 0,.int .i64 0,.int .i64 0,.int .i64 0,(.slice none 0 0 false),.int .i64 0,.int .i64 0,.int .i64 0,.int .i64 0,.int .i64 0,(.int .u8 0),.int .i64 0,.int .i64 0] [(0,1,(.k (.int .i64 13)))],none,0,[6]⟩,
  ⟨some 7,.bslice 52 1 [.int .i64 0,.int .i64 0,.int .i64 0,.int .i64 0,.int .i64 0,.int .i64 0,.int .i64 0,.int .i64 0,.int .i64 0,.str [],.str [],.str [],.int .i64 0,.str [],.int .i64 0,.int .i64 0,.int .i64 0,.int .i64 0,.int .i64 0,.int .i64 0,.int .i64 0,.int .i64 0,.int .i64 0,.str [],.str [],.str [],.int .i64 0,.int .i64 0,(.slice none 0 0 false),.int .i64 0,.int .i64 0,.int .i64 0,.int .i64 0,.int .i64 0,.int .i64 0,.int .i64 0,.int .i64 0,.int .i64 0,.int .i64 0,.int .i64 0,.int .i64 0,.int .i64 0,.int .i64 0,.int .i64 0,.int .i64 0,.int .i64 0,.int .i64 0,.int .i64 0,.int .i64 0,.int .i64 0,.int .i64 0,.int .i64 0,.int .i64 0,.int .i64 0,.int .i64 0,.int .i64 0,.int .i64 0,.int .i64 0,.int .i64 0,.int .i64 0,.int .i64 0,.int .i64 0,.int .i64 0,.int .i64 0,.int .i64 0,.int .i64 0,.int .i64 0,(.slice none 0 0 false),.int .i64 0,.int .i64 0,.int .i64 0,.int .i64 0,.int .i64 0,(.int .u8 0),.int .i64 0,.int .i64 0] [(0,76,(.t 6))],none,4,[7,6]⟩,
  ⟨some 8,.call (.k (.func 6 [] [])) [(.t 5),(.t 7)],none,15,[8,5,7]⟩,
  ⟨some 3,.mv (.t 8),none,31,[3,8]⟩,
  ⟨some 9,.extract (.t 3) 0,none,63,[9,3]⟩,
  ⟨some 10,.extract (.t 3) 1,none,63,[10,3]⟩,
  ⟨some 1,.mv (.t 9),none,127,[1,9]⟩,
  ⟨some 2,.mv (.t 10),none,511,[2,10]⟩]
def r8_1 : List O := [⟨some 11,.mv (.t 2),none,0,[11,2]⟩,
  ⟨some 12,.bin .eql (some .int) true (.t 11) (.k (.int .i64 0)),none,1,[12,11]⟩,
  ⟨some 13,.mv (.t 12),none,3,[13,12]⟩,
  ⟨some 14,.mv (.t 1),some (13,true),7,[14,13,1]⟩,
  ⟨some 15,.bin .eql (some .str) true (.t 14) (.k (.str [119,111,114,108,100,32,49,32,57,32,48,32,48,10,97,108,108,10])),some (13,true),15,[15,13,14]⟩,
  ⟨some 16,.pick (.t 13) (.t 15) (.k (.bool false)),none,31,[16,13,15]⟩,
  ⟨some 17,.mv (.t 16),none,63,[17,16]⟩,
  ⟨some 18,.call (.k (.func 16 [] [])) [(.k (.str [97,34]))],some (17,true),127,[18,17]⟩,
  ⟨some 19,.bin .eql (some .str) true (.t 18) (.k (.str [34,97,92,34,34])),some (17,true),255,[19,17,18]⟩,
  ⟨some 20,.pick (.t 17) (.t 19) (.k (.bool false)),none,511,[20,17,19]⟩,
  ⟨some 0,.mv (.t 20),none,1023,[0,20]⟩]
def c8 : C := .seq (.region [⟨some 0,.mv (.k (.bool false)),none,0,[0]⟩]) (.seq (.region r8_0) (.seq (.region r8_1) (.ret)))
def fn8 : Fn := ⟨21, [.t 0], c8⟩
/-! 9: orchard/script.Step -/
def r9_0 : List O := [⟨some 1,.box 52 (.t 0),none,0,[1,0]⟩,
  ⟨some 2,.mv (.k (.str [])),none,0,[2]⟩,
  ⟨some 3,.mv (.k (.int .i64 0)),none,2,[3]⟩]
def r9_1 : List O := [⟨some 11,.fadr 1 (.t 1),none,0,[11,1]⟩,
  ⟨some 12,.fadr 0 (.t 11),none,1,[12,11]⟩,
  ⟨some 13,.load1 (.t 12),none,3,[13,12]⟩,
  ⟨some 14,.fadr 1 (.t 1),none,0,[14,1]⟩,
  ⟨some 15,.fadr 1 (.t 14),none,8,[15,14]⟩,
  ⟨some 16,.load1 (.t 15),none,24,[16,15]⟩,
  ⟨some 17,.bslice 3 2 [.int .i64 0,.int .i64 0] [(0,1,(.t 13)),(1,1,(.t 16))],none,63,[17,13,16]⟩,
  ⟨some 18,.call (.k (.func 24 [] [])) [(.t 17)],none,127,[18,17]⟩,
  ⟨some 4,.mv (.t 18),none,255,[4,18]⟩]
def r9_2 : List O := [⟨some 19,.fadr 0 (.t 1),none,0,[19,1]⟩,
  ⟨some 20,.load1 (.t 19),none,1,[20,19]⟩,
  ⟨some 21,.build [.int .i64 0,.int .i64 0,.int .i64 0,.int .i64 0,.int .i64 0,.int .i64 0,.int .i64 0,.int .i64 0,.int .i64 0,.str [],.str [],.str [],.int .i64 0,.str [],.int .i64 0,.int .i64 0,.int .i64 0,.int .i64 0,.int .i64 0,.int .i64 0,.int .i64 0,.int .i64 0,.int .i64 0,.str [],.str [],.str [],.int .i64 0,.int .i64 0,(.slice none 0 0 false),.int .i64 0,.int .i64 0,.int .i64 0,.int .i64 0,.int .i64 0,.int .i64 0,.int .i64 0,.int .i64 0,.int .i64 0,.int .i64 0,.int .i64 0,.int .i64 0,.int .i64 0,.int .i64 0,.int .i64 0,.int .i64 0,.int .i64 0,.int .i64 0,.int .i64 0,.int .i64 0,.int .i64 0,.int .i64 0,.int .i64 0,.int .i64 0,.int .i64 0,.int .i64 0,.int .i64 0,.int .i64 0,.int .i64 0,.int .i64 0,.int .i64 0,.int .i64 0,.int .i64 0,.int .i64 0,.int .i64 0,.int .i64 0,.int .i64 0,.int .i64 0,(.slice none 0 0 false),.int .i64 0,.int .i64 0,.int .i64 0,.int .i64 0,.int .i64 0,(.int .u8 0),.int .i64 0,.int .i64 0] [(0,1,(.t 20))],none,3,[21,20]⟩,
  ⟨some 5,.alloc 52 [.int .i64 0,.int .i64 0,.int .i64 0,.int .i64 0,.int .i64 0,.int .i64 0,.int .i64 0,.int .i64 0,.int .i64 0,.str [],.str [],.str [],.int .i64 0,.str [],.int .i64 0,.int .i64 0,.int .i64 0,.int .i64 0,.int .i64 0,.int .i64 0,.int .i64 0,.int .i64 0,.int .i64 0,.str [],.str [],.str [],.int .i64 0,.int .i64 0,(.slice none 0 0 false),.int .i64 0,.int .i64 0,.int .i64 0,.int .i64 0,.int .i64 0,.int .i64 0,.int .i64 0,.int .i64 0,.int .i64 0,.int .i64 0,.int .i64 0,.int .i64 0,.int .i64 0,.int .i64 0,.int .i64 0,.int .i64 0,.int .i64 0,.int .i64 0,.int .i64 0,.int .i64 0,.int .i64 0,.int .i64 0,.int .i64 0,.int .i64 0,.int .i64 0,.int .i64 0,.int .i64 0,.int .i64 0,.int .i64 0,.int .i64 0,.int .i64 0,.int .i64 0,.int .i64 0,.int .i64 0,.int .i64 0,.int .i64 0,.int .i64 0,.int .i64 0,(.slice none 0 0 false),.int .i64 0,.int .i64 0,.int .i64 0,.int .i64 0,.int .i64 0,(.int .u8 0),.int .i64 0,.int .i64 0],none,0,[5]⟩,
  ⟨none,.store 76 (.t 5) (.t 21),none,15,[5,21]⟩]
def r9_3 : List O := [⟨some 6,.mv (.k (.str [])),none,0,[6]⟩,
  ⟨some 7,.mv (.k (.bool true)),none,1,[7]⟩,
  ⟨some 8,.mv (.k (.bool false)),none,3,[8]⟩]
def r9_4 : List O := [⟨some 22,.fadr 0 (.t 1),none,0,[22,1]⟩,
  ⟨some 23,.load1 (.t 22),none,1,[23,22]⟩]
def r9_5 : List O := [⟨some 25,.bin .eql (some .int) true (.t 23) (.k (.int .i64 1)),none,0,[25,23]⟩,
  ⟨some 24,.mv (.t 25),none,1,[24,25]⟩]
def r9_6 : List O := [⟨some 26,.bin .eql (some .int) true (.t 23) (.k (.int .i64 12)),none,0,[26,23]⟩,
  ⟨some 24,.mv (.t 26),none,1,[24,26]⟩]
def r9_7 : List O := [⟨some 27,.fadr 1 (.t 1),none,0,[27,1]⟩,
  ⟨some 28,.loadN 2 (.t 27),none,1,[28,27]⟩,
  ⟨some 29,.fadr 1 (.t 5),none,3,[29,5]⟩,
  ⟨none,.store 2 (.t 29) (.t 28),none,7,[29,28]⟩]
def r9_8 : List O := [⟨some 30,.mkMap,none,0,[30]⟩,
  ⟨none,.mapUpd .int (.t 30) (.k (.int .i64 1)) (.k (.str [116,105,99,107,32])),none,1,[30]⟩,
  ⟨none,.mapUpd .int (.t 30) (.k (.int .i64 12)) (.k (.str [114,101,115,116,97,114,116,32])),none,1,[30]⟩,
  ⟨some 31,.mv (.t 30),none,7,[31,30]⟩,
  ⟨some 32,.fadr 0 (.t 1),none,0,[32,1]⟩,
  ⟨some 33,.load1 (.t 32),none,16,[33,32]⟩,
  ⟨some 34,.lookup .int (.str []) false (.t 31) (.t 33),none,63,[34,31,33]⟩,
  ⟨some 35,.mv (.t 4),none,0,[35,4]⟩,
  ⟨some 36,.bin .add (some .str) false (.t 34) (.t 35),none,255,[36,34,35]⟩,
  ⟨some 6,.mv (.t 36),none,511,[6,36]⟩]
def r9_9 : List O := [⟨some 38,.bin .eql (some .int) true (.t 23) (.k (.int .i64 2)),none,0,[38,23]⟩,
  ⟨some 37,.mv (.t 38),none,1,[37,38]⟩]
def r9_10 : List O := [⟨some 39,.fadr 1 (.t 1),none,0,[39,1]⟩,
  ⟨some 40,.loadN 2 (.t 39),none,1,[40,39]⟩,
  ⟨some 41,.fadr 3 (.t 1),none,0,[41,1]⟩,
  ⟨some 42,.load1 (.t 41),none,4,[42,41]⟩,
  ⟨some 43,.fadr 4 (.t 1),none,0,[43,1]⟩,
  ⟨some 44,.loadN 8 (.t 43),none,16,[44,43]⟩,
  ⟨some 45,.fadr 1 (.t 5),none,3,[45,5]⟩,
  ⟨none,.store 2 (.t 45) (.t 40),none,67,[45,40]⟩,
  ⟨some 46,.fadr 3 (.t 5),none,207,[46,5]⟩,
  ⟨none,.store 1 (.t 46) (.t 42),none,463,[46,42]⟩,
  ⟨some 47,.fadr 4 (.t 5),none,1023,[47,5]⟩,
  ⟨none,.store 8 (.t 47) (.t 44),none,2047,[47,44]⟩]
theorem k9_10 (lo : Nat) (hx : XDK P E ro L K Q lo h [true, true, true, true, true, true, true, true, true, true, true, true] r9_10 ρ h) : XD P E ro L r9_10 K ρ h Q := XD_keeps rfl rfl hx
def r9_11 : List O := [⟨some 49,.fadr 4 (.t 1),none,0,[49,1]⟩,
  ⟨some 50,.loadN 8 (.t 49),none,1,[50,49]⟩,
  ⟨some 51,.call (.k (.func 25 [] [])) [(.t 50)],none,3,[51,50]⟩,
  ⟨some 48,.mv (.t 51),none,7,[48,51]⟩,
  ⟨some 52,.extract (.t 48) 0,none,15,[52,48]⟩,
  ⟨some 53,.extract (.t 48) 1,none,15,[53,48]⟩,
  ⟨some 6,.mv (.t 52),none,31,[6,52]⟩,
  ⟨some 7,.mv (.t 53),none,127,[7,53]⟩]
def r9_12 : List O := [⟨some 54,.mv (.t 4),none,0,[54,4]⟩,
  ⟨some 55,.bin .add (some .str) true (.k (.str [119,114,105,116,101,32])) (.t 54),none,1,[55,54]⟩,
  ⟨some 56,.bin .add (some .str) true (.t 55) (.k (.str [32])),none,3,[56,55]⟩,
  ⟨some 57,.fadr 3 (.t 1),none,0,[57,1]⟩,
  ⟨some 58,.load1 (.t 57),none,8,[58,57]⟩,
  ⟨some 59,.bslice 3 1 [.int .i64 0] [(0,1,(.t 58))],none,24,[59,58]⟩,
  ⟨some 60,.call (.k (.func 24 [] [])) [(.t 59)],none,56,[60,59]⟩,
  ⟨some 61,.bin .add (some .str) false (.t 56) (.t 60),none,127,[61,56,60]⟩,
  ⟨some 62,.bin .add (some .str) true (.t 61) (.k (.str [32])),none,255,[62,61]⟩,
  ⟨some 63,.mv (.t 6),none,0,[63,6]⟩,
  ⟨some 64,.bin .add (some .str) false (.t 62) (.t 63),none,1023,[64,62,63]⟩,
  ⟨some 6,.mv (.t 64),none,2047,[6,64]⟩]
def r9_13 : List O := [⟨some 66,.bin .eql (some .int) true (.t 23) (.k (.int .i64 3)),none,0,[66,23]⟩,
  ⟨some 65,.mv (.t 66),none,1,[65,66]⟩]
def r9_14 : List O := [⟨some 67,.fadr 1 (.t 1),none,0,[67,1]⟩,
  ⟨some 68,.loadN 2 (.t 67),none,1,[68,67]⟩,
  ⟨some 69,.fadr 3 (.t 1),none,0,[69,1]⟩,
  ⟨some 70,.load1 (.t 69),none,4,[70,69]⟩,
  ⟨some 71,.fadr 1 (.t 5),none,3,[71,5]⟩,
  ⟨none,.store 2 (.t 71) (.t 68),none,19,[71,68]⟩,
  ⟨some 72,.fadr 3 (.t 5),none,63,[72,5]⟩,
  ⟨none,.store 1 (.t 72) (.t 70),none,127,[72,70]⟩]
theorem k9_14 (lo : Nat) (hx : XDK P E ro L K Q lo h [true, true, true, true, true, true, true, true] r9_14 ρ h) : XD P E ro L r9_14 K ρ h Q := XD_keeps rfl rfl hx
def r9_15 : List O := [⟨some 73,.mv (.t 4),none,0,[73,4]⟩,
  ⟨some 74,.bin .add (some .str) true (.k (.str [114,101,116,114,121,32])) (.t 73),none,1,[74,73]⟩,
  ⟨some 75,.bin .add (some .str) true (.t 74) (.k (.str [32])),none,3,[75,74]⟩,
  ⟨some 76,.fadr 3 (.t 1),none,0,[76,1]⟩,
  ⟨some 77,.load1 (.t 76),none,8,[77,76]⟩,
  ⟨some 78,.bslice 3 1 [.int .i64 0] [(0,1,(.t 77))],none,24,[78,77]⟩,
  ⟨some 79,.call (.k (.func 24 [] [])) [(.t 78)],none,56,[79,78]⟩,
  ⟨some 80,.bin .add (some .str) false (.t 75) (.t 79),none,127,[80,75,79]⟩,
  ⟨some 6,.mv (.t 80),none,255,[6,80]⟩]
def r9_16 : List O := [⟨some 82,.bin .eql (some .int) true (.t 23) (.k (.int .i64 4)),none,0,[82,23]⟩,
  ⟨some 81,.mv (.t 82),none,1,[81,82]⟩]
def r9_17 : List O := [⟨some 83,.fadr 1 (.t 1),none,0,[83,1]⟩,
  ⟨some 84,.loadN 2 (.t 83),none,1,[84,83]⟩,
  ⟨some 85,.fadr 3 (.t 1),none,0,[85,1]⟩,
  ⟨some 86,.load1 (.t 85),none,4,[86,85]⟩,
  ⟨some 87,.fadr 12 (.t 1),none,0,[87,1]⟩,
  ⟨some 88,.loadN 3 (.t 87),none,16,[88,87]⟩,
  ⟨some 89,.fadr 1 (.t 5),none,3,[89,5]⟩,
  ⟨none,.store 2 (.t 89) (.t 84),none,67,[89,84]⟩,
  ⟨some 90,.fadr 3 (.t 5),none,207,[90,5]⟩,
  ⟨none,.store 1 (.t 90) (.t 86),none,463,[90,86]⟩,
  ⟨some 91,.fadr 12 (.t 5),none,1023,[91,5]⟩,
  ⟨none,.store 3 (.t 91) (.t 88),none,2047,[91,88]⟩]
theorem k9_17 (lo : Nat) (hx : XDK P E ro L K Q lo h [true, true, true, true, true, true, true, true, true, true, true, true] r9_17 ρ h) : XD P E ro L r9_17 K ρ h Q := XD_keeps rfl rfl hx
def r9_18 : List O := [⟨some 93,.fadr 12 (.t 1),none,0,[93,1]⟩,
  ⟨some 94,.loadN 3 (.t 93),none,1,[94,93]⟩,
  ⟨some 95,.call (.k (.func 26 [] [])) [(.t 94)],none,3,[95,94]⟩,
  ⟨some 92,.mv (.t 95),none,7,[92,95]⟩,
  ⟨some 96,.extract (.t 92) 0,none,15,[96,92]⟩,
  ⟨some 97,.extract (.t 92) 1,none,15,[97,92]⟩,
  ⟨some 6,.mv (.t 96),none,31,[6,96]⟩,
  ⟨some 7,.mv (.t 97),none,127,[7,97]⟩]
def r9_19 : List O := [⟨some 98,.mv (.t 4),none,0,[98,4]⟩,
  ⟨some 99,.bin .add (some .str) true (.k (.str [114,101,97,100,32])) (.t 98),none,1,[99,98]⟩,
  ⟨some 100,.bin .add (some .str) true (.t 99) (.k (.str [32])),none,3,[100,99]⟩,
  ⟨some 101,.fadr 3 (.t 1),none,0,[101,1]⟩,
  ⟨some 102,.load1 (.t 101),none,8,[102,101]⟩,
  ⟨some 103,.bslice 3 1 [.int .i64 0] [(0,1,(.t 102))],none,24,[103,102]⟩,
  ⟨some 104,.call (.k (.func 24 [] [])) [(.t 103)],none,56,[104,103]⟩,
  ⟨some 105,.bin .add (some .str) false (.t 100) (.t 104),none,127,[105,100,104]⟩,
  ⟨some 106,.bin .add (some .str) true (.t 105) (.k (.str [32])),none,255,[106,105]⟩,
  ⟨some 107,.mv (.t 6),none,0,[107,6]⟩,
  ⟨some 108,.bin .add (some .str) false (.t 106) (.t 107),none,1023,[108,106,107]⟩,
  ⟨some 6,.mv (.t 108),none,2047,[6,108]⟩]
def r9_20 : List O := [⟨some 110,.bin .eql (some .int) true (.t 23) (.k (.int .i64 5)),none,0,[110,23]⟩,
  ⟨some 109,.mv (.t 110),none,1,[109,110]⟩]
def r9_21 : List O := [⟨some 111,.fadr 1 (.t 1),none,0,[111,1]⟩,
  ⟨some 112,.loadN 2 (.t 111),none,1,[112,111]⟩,
  ⟨some 113,.fadr 1 (.t 5),none,3,[113,5]⟩,
  ⟨none,.store 2 (.t 113) (.t 112),none,7,[113,112]⟩]
def r9_22 : List O := [⟨some 115,.fadr 15 (.t 1),none,0,[115,1]⟩,
  ⟨some 116,.loadN 56 (.t 115),none,1,[116,115]⟩,
  ⟨some 117,.call (.k (.func 12 [] [])) [(.t 116)],none,3,[117,116]⟩,
  ⟨some 114,.mv (.t 117),none,7,[114,117]⟩,
  ⟨some 118,.extract (.t 114) 0,none,15,[118,114]⟩,
  ⟨some 119,.extract (.t 114) 1,none,15,[119,114]⟩,
  ⟨some 9,.mv (.t 118),none,31,[9,118]⟩,
  ⟨some 10,.mv (.t 119),none,127,[10,119]⟩]
def r9_23 : List O := [⟨some 120,.mv (.t 4),none,0,[120,4]⟩,
  ⟨some 121,.bin .add (some .str) true (.k (.str [99,111,110,102,32])) (.t 120),none,1,[121,120]⟩,
  ⟨some 122,.bin .add (some .str) true (.t 121) (.k (.str [32])),none,3,[122,121]⟩,
  ⟨some 123,.mv (.t 9),none,0,[123,9]⟩,
  ⟨some 124,.bin .add (some .str) false (.t 122) (.t 123),none,15,[124,122,123]⟩,
  ⟨some 125,.mv (.t 10),none,0,[125,10]⟩,
  ⟨some 126,.bin .eql (some .int) true (.t 125) (.k (.int .i64 0)),none,32,[126,125]⟩,
  ⟨some 6,.mv (.t 124),none,31,[6,124]⟩,
  ⟨some 7,.mv (.t 126),none,255,[7,126]⟩,
  ⟨some 8,.mv (.k (.bool true)),none,511,[8]⟩]
def r9_24 : List O := [⟨some 128,.bin .eql (some .int) true (.t 23) (.k (.int .i64 6)),none,0,[128,23]⟩,
  ⟨some 127,.mv (.t 128),none,1,[127,128]⟩]
def r9_25 : List O := [⟨some 129,.bin .eql (some .int) true (.t 23) (.k (.int .i64 7)),none,0,[129,23]⟩,
  ⟨some 127,.mv (.t 129),none,1,[127,129]⟩]
def r9_26 : List O := [⟨some 130,.bin .eql (some .int) true (.t 23) (.k (.int .i64 8)),none,0,[130,23]⟩,
  ⟨some 127,.mv (.t 130),none,1,[127,130]⟩]
def r9_27 : List O := [⟨some 131,.fadr 71 (.t 1),none,0,[131,1]⟩,
  ⟨some 132,.load1 (.t 131),none,1,[132,131]⟩,
  ⟨some 133,.fadr 71 (.t 5),none,3,[133,5]⟩,
  ⟨none,.store 1 (.t 133) (.t 132),none,7,[133,132]⟩]
def r9_28 : List O := [⟨some 134,.mv (.k .junk),none,0,[134]⟩,
  ⟨none,.mv (.t 134),none,1,[134]⟩,
  ⟨none,.mv (.t 134),none,1,[134]⟩,
  ⟨none,.mv (.t 134),none,1,[134]⟩,
  ⟨some 135,.pick (.k (.bool true)) (.k .junk) (.t 135),none,15,[135,134]⟩,
  ⟨some 136,.fadr 0 (.t 1),none,0,[136,1]⟩,
  ⟨some 137,.load1 (.t 136),none,32,[137,136]⟩,
  ⟨some 138,.mlit .int [((.int .i64 6),(.str [100,101,108,105,118,101,114,32]),0),((.int .i64 7),(.str [100,114,111,112,32]),0),((.int .i64 8),(.str [100,111,117,98,108,101,32]),0)] (.str []) false (.t 137),none,127,[138,135,137]⟩,
  ⟨some 139,.fadr 71 (.t 1),none,0,[139,1]⟩,
  ⟨some 140,.load1 (.t 139),none,256,[140,139]⟩,
  ⟨some 141,.call (.k (.func 27 [] [])) [(.t 140)],none,768,[141,140]⟩,
  ⟨some 142,.bin .add (some .str) false (.t 138) (.t 141),none,2047,[142,138,141]⟩,
  ⟨some 6,.mv (.t 142),none,4095,[6,142]⟩]
theorem d9_28 (hx : XDQ P E ro L K Q h [true, true, true, true, true, true, true, true, true, true, true, true, true] r9_28 ρ h) : XD P E ro L r9_28 K ρ h Q := XD_quiet rfl rfl hx
def r9_29 : List O := [⟨some 144,.bin .eql (some .int) true (.t 23) (.k (.int .i64 9)),none,0,[144,23]⟩,
  ⟨some 143,.mv (.t 144),none,1,[143,144]⟩]
def r9_30 : List O := [⟨some 145,.fadr 71 (.t 1),none,0,[145,1]⟩,
  ⟨some 146,.load1 (.t 145),none,1,[146,145]⟩,
  ⟨some 147,.fadr 72 (.t 1),none,0,[147,1]⟩,
  ⟨some 148,.load1 (.t 147),none,4,[148,147]⟩,
  ⟨some 149,.fadr 73 (.t 1),none,0,[149,1]⟩,
  ⟨some 150,.load1 (.t 149),none,16,[150,149]⟩,
  ⟨some 151,.fadr 71 (.t 5),none,3,[151,5]⟩,
  ⟨none,.store 1 (.t 151) (.t 146),none,67,[151,146]⟩,
  ⟨some 152,.fadr 72 (.t 5),none,207,[152,5]⟩,
  ⟨none,.store 1 (.t 152) (.t 148),none,463,[152,148]⟩,
  ⟨some 153,.fadr 73 (.t 5),none,1023,[153,5]⟩,
  ⟨none,.store 1 (.t 153) (.t 150),none,2047,[153,150]⟩]
theorem k9_30 (lo : Nat) (hx : XDK P E ro L K Q lo h [true, true, true, true, true, true, true, true, true, true, true, true] r9_30 ρ h) : XD P E ro L r9_30 K ρ h Q := XD_keeps rfl rfl hx
def r9_31 : List O := [⟨some 154,.fadr 71 (.t 1),none,0,[154,1]⟩,
  ⟨some 155,.load1 (.t 154),none,1,[155,154]⟩,
  ⟨some 156,.call (.k (.func 27 [] [])) [(.t 155)],none,3,[156,155]⟩,
  ⟨some 157,.bin .add (some .str) true (.k (.str [115,112,111,105,108,32])) (.t 156),none,7,[157,156]⟩,
  ⟨some 158,.bin .add (some .str) true (.t 157) (.k (.str [32])),none,15,[158,157]⟩,
  ⟨some 159,.fadr 72 (.t 1),none,0,[159,1]⟩,
  ⟨some 160,.load1 (.t 159),none,32,[160,159]⟩,
  ⟨some 161,.fadr 73 (.t 1),none,0,[161,1]⟩,
  ⟨some 162,.load1 (.t 161),none,128,[162,161]⟩,
  ⟨some 163,.cvt .i64 (.t 162),none,384,[163,162]⟩,
  ⟨some 164,.bslice 3 2 [.int .i64 0,.int .i64 0] [(0,1,(.t 160)),(1,1,(.t 163))],none,992,[164,160,163]⟩,
  ⟨some 165,.call (.k (.func 24 [] [])) [(.t 164)],none,2023,[165,164]⟩,
  ⟨some 166,.bin .add (some .str) false (.t 158) (.t 165),none,4095,[166,158,165]⟩,
  ⟨some 6,.mv (.t 166),none,8191,[6,166]⟩]
theorem d9_31 (hx : XDQ P E ro L K Q h [true, true, true, true, true, false, false, false, false, false, false, true, true, true] r9_31 ρ h) : XD P E ro L r9_31 K ρ h Q := XD_quiet rfl rfl hx
def r9_32 : List O := [⟨some 168,.bin .eql (some .int) true (.t 23) (.k (.int .i64 10)),none,0,[168,23]⟩,
  ⟨some 167,.mv (.t 168),none,1,[167,168]⟩]
def r9_33 : List O := [⟨some 169,.fadr 1 (.t 1),none,0,[169,1]⟩,
  ⟨some 170,.loadN 2 (.t 169),none,1,[170,169]⟩,
  ⟨some 171,.fadr 75 (.t 1),none,0,[171,1]⟩,
  ⟨some 172,.load1 (.t 171),none,4,[172,171]⟩,
  ⟨some 173,.fadr 1 (.t 5),none,3,[173,5]⟩,
  ⟨none,.store 2 (.t 173) (.t 170),none,19,[173,170]⟩,
  ⟨some 174,.fadr 75 (.t 5),none,63,[174,5]⟩,
  ⟨none,.store 1 (.t 174) (.t 172),none,127,[174,172]⟩]
theorem k9_33 (lo : Nat) (hx : XDK P E ro L K Q lo h [true, true, true, true, true, true, true, true] r9_33 ρ h) : XD P E ro L r9_33 K ρ h Q := XD_keeps rfl rfl hx
def r9_34 : List O := [⟨some 175,.mv (.t 4),none,0,[175,4]⟩,
  ⟨some 176,.bin .add (some .str) true (.k (.str [99,114,97,115,104,32])) (.t 175),none,1,[176,175]⟩,
  ⟨some 177,.bin .add (some .str) true (.t 176) (.k (.str [32])),none,3,[177,176]⟩,
  ⟨some 178,.fadr 75 (.t 1),none,0,[178,1]⟩,
  ⟨some 179,.load1 (.t 178),none,8,[179,178]⟩,
  ⟨some 180,.bslice 3 1 [.int .i64 0] [(0,1,(.t 179))],none,24,[180,179]⟩,
  ⟨some 181,.call (.k (.func 24 [] [])) [(.t 180)],none,56,[181,180]⟩,
  ⟨some 182,.bin .add (some .str) false (.t 177) (.t 181),none,127,[182,177,181]⟩,
  ⟨some 6,.mv (.t 182),none,255,[6,182]⟩]
def r9_35 : List O := [⟨some 184,.bin .eql (some .int) true (.t 23) (.k (.int .i64 11)),none,0,[184,23]⟩,
  ⟨some 183,.mv (.t 184),none,1,[183,184]⟩]
def r9_36 : List O := [⟨some 185,.fadr 1 (.t 1),none,0,[185,1]⟩,
  ⟨some 186,.loadN 2 (.t 185),none,1,[186,185]⟩,
  ⟨some 187,.fadr 74 (.t 1),none,0,[187,1]⟩,
  ⟨some 188,.load1 (.t 187),none,4,[188,187]⟩,
  ⟨some 189,.fadr 75 (.t 1),none,0,[189,1]⟩,
  ⟨some 190,.load1 (.t 189),none,16,[190,189]⟩,
  ⟨some 191,.fadr 1 (.t 5),none,3,[191,5]⟩,
  ⟨none,.store 2 (.t 191) (.t 186),none,67,[191,186]⟩,
  ⟨some 192,.fadr 74 (.t 5),none,207,[192,5]⟩,
  ⟨none,.store 1 (.t 192) (.t 188),none,463,[192,188]⟩,
  ⟨some 193,.fadr 75 (.t 5),none,1023,[193,5]⟩,
  ⟨none,.store 1 (.t 193) (.t 190),none,2047,[193,190]⟩]
theorem k9_36 (lo : Nat) (hx : XDK P E ro L K Q lo h [true, true, true, true, true, true, true, true, true, true, true, true] r9_36 ρ h) : XD P E ro L r9_36 K ρ h Q := XD_keeps rfl rfl hx
def r9_37 : List O := [⟨some 194,.mv (.t 4),none,0,[194,4]⟩,
  ⟨some 195,.bin .add (some .str) true (.k (.str [102,117,115,101,32])) (.t 194),none,1,[195,194]⟩,
  ⟨some 196,.bin .add (some .str) true (.t 195) (.k (.str [32])),none,3,[196,195]⟩,
  ⟨some 197,.fadr 74 (.t 1),none,0,[197,1]⟩,
  ⟨some 198,.load1 (.t 197),none,8,[198,197]⟩,
  ⟨some 199,.fadr 75 (.t 1),none,0,[199,1]⟩,
  ⟨some 200,.load1 (.t 199),none,32,[200,199]⟩,
  ⟨some 201,.bslice 3 2 [.int .i64 0,.int .i64 0] [(0,1,(.t 198)),(1,1,(.t 200))],none,120,[201,198,200]⟩,
  ⟨some 202,.call (.k (.func 24 [] [])) [(.t 201)],none,248,[202,201]⟩,
  ⟨some 203,.bin .add (some .str) false (.t 196) (.t 202),none,511,[203,196,202]⟩,
  ⟨some 6,.mv (.t 203),none,1023,[6,203]⟩]
def r9_38 : List O := [⟨some 205,.bin .eql (some .int) true (.t 23) (.k (.int .i64 13)),none,0,[205,23]⟩,
  ⟨some 204,.mv (.t 205),none,1,[204,205]⟩]
def r9_39 : List O := [⟨some 207,.bin .eql (some .int) true (.t 23) (.k (.int .i64 14)),none,0,[207,23]⟩,
  ⟨some 206,.mv (.t 207),none,1,[206,207]⟩]
def r9_40 : List O := [⟨some 2,.mv (.k (.str [])),none,0,[2]⟩,
  ⟨some 3,.mv (.k (.int .i64 1)),none,1,[3]⟩]
def r9_41 : List O := [⟨some 208,.mv (.t 7),none,0,[208,7]⟩,
  ⟨some 209,.un .not (.t 208),none,1,[209,208]⟩,
  ⟨some 210,.mv (.t 209),none,3,[210,209]⟩,
  ⟨some 211,.mv (.t 8),some (210,false),7,[211,210,8]⟩,
  ⟨some 212,.un .not (.t 211),some (210,false),15,[212,210,211]⟩,
  ⟨some 213,.mv (.t 212),some (210,false),31,[213,210,212]⟩,
  ⟨some 214,.fadr 15 (.t 1),some (213,true),63,[214,213,1]⟩,
  ⟨some 215,.loadN 56 (.t 214),some (213,true),127,[215,213,214]⟩,
  ⟨some 216,.call (.k (.func 28 [] [])) [(.t 215)],some (213,true),255,[216,213,215]⟩,
  ⟨some 217,.un .not (.t 216),some (213,true),511,[217,213,216]⟩,
  ⟨some 218,.pick (.t 213) (.t 217) (.k (.bool false)),some (210,false),1023,[218,210,213,217]⟩,
  ⟨some 219,.pick (.t 210) (.k (.bool true)) (.t 218),none,2047,[219,210,218]⟩,
  ⟨some 220,.mv (.t 219),none,4095,[220,219]⟩,
  ⟨some 221,.loadN 76 (.t 1),some (220,false),8191,[221,220,1]⟩,
  ⟨some 222,.loadN 76 (.t 5),some (220,false),8191,[222,220,5]⟩,
  ⟨some 223,.call (.k (.func 29 [] [])) [(.t 221),(.t 222)],some (220,false),32767,[223,220,221,222]⟩,
  ⟨some 224,.un .not (.t 223),some (220,false),65535,[224,220,223]⟩,
  ⟨some 225,.pick (.t 220) (.k (.bool true)) (.t 224),none,131071,[225,220,224]⟩]
def r9_42 : List O := [⟨some 2,.mv (.k (.str [])),none,0,[2]⟩,
  ⟨some 3,.mv (.k (.int .i64 1)),none,1,[3]⟩]
def r9_43 : List O := [⟨some 226,.mv (.t 6),none,0,[226,6]⟩,
  ⟨some 2,.mv (.t 226),none,1,[2,226]⟩,
  ⟨some 3,.mv (.k (.int .i64 0)),none,3,[3]⟩]
def c9 : C := .seq (.region r9_0) (.seq (.region r9_1) (.seq (.region r9_2) (.seq (.region r9_3) (.seq (.seq (.region r9_4) (.block 0 (.seq (.seq (.region r9_5) (.cond (.t 24) (.skip) (.region r9_6))) (.cond (.t 24) (.seq (.region r9_7) (.region r9_8)) (.seq (.region r9_9) (.cond (.t 37) (.seq (.draw r9_10) (.seq (.region r9_11) (.region r9_12))) (.seq (.region r9_13) (.cond (.t 65) (.seq (.draw r9_14) (.region r9_15)) (.seq (.region r9_16) (.cond (.t 81) (.seq (.draw r9_17) (.seq (.region r9_18) (.region r9_19))) (.seq (.region r9_20) (.cond (.t 109) (.seq (.region r9_21) (.seq (.region r9_22) (.region r9_23))) (.seq (.seq (.region r9_24) (.cond (.t 127) (.skip) (.seq (.region r9_25) (.cond (.t 127) (.skip) (.region r9_26))))) (.cond (.t 127) (.seq (.region r9_27) (.draw r9_28)) (.seq (.region r9_29) (.cond (.t 143) (.seq (.draw r9_30) (.draw r9_31)) (.seq (.region r9_32) (.cond (.t 167) (.seq (.draw r9_33) (.region r9_34)) (.seq (.region r9_35) (.cond (.t 183) (.seq (.draw r9_36) (.region r9_37)) (.seq (.region r9_38) (.cond (.t 204) (.region [⟨some 6,.mv (.k (.str [97,108,108])),none,0,[6]⟩]) (.seq (.region r9_39) (.cond (.t 206) (.region [⟨some 6,.mv (.k (.str [97,114,114,105,118,101])),none,0,[6]⟩]) (.seq (.region r9_40) (.ret)))))))))))))))))))))))))) (.seq (.seq (.region r9_41) (.cond (.t 225) (.seq (.region r9_42) (.ret)) (.skip))) (.seq (.region r9_43) (.ret)))))))
def fn9 : Fn := ⟨227, [.t 2, .t 3], c9⟩
/-! 10: orchard/orchardref27.Step -/
def r10_0 : List O := [⟨some 1,.box 52 (.t 0),none,0,[1,0]⟩,
  ⟨some 2,.mv (.k (.str [])),none,0,[2]⟩,
  ⟨some 3,.mv (.k (.int .i64 0)),none,2,[3]⟩]
def r10_1 : List O := [⟨some 9,.fadr 0 (.t 1),none,0,[9,1]⟩,
  ⟨some 10,.load1 (.t 9),none,1,[10,9]⟩,
  ⟨some 11,.build [.int .i64 0,.int .i64 0,.int .i64 0,.int .i64 0,.int .i64 0,.int .i64 0,.int .i64 0,.int .i64 0,.int .i64 0,.str [],.str [],.str [],.int .i64 0,.str [],.int .i64 0,.int .i64 0,.int .i64 0,.int .i64 0,.int .i64 0,.int .i64 0,.int .i64 0,.int .i64 0,.int .i64 0,.str [],.str [],.str [],.int .i64 0,.int .i64 0,(.slice none 0 0 false),.int .i64 0,.int .i64 0,.int .i64 0,.int .i64 0,.int .i64 0,.int .i64 0,.int .i64 0,.int .i64 0,.int .i64 0,.int .i64 0,.int .i64 0,.int .i64 0,.int .i64 0,.int .i64 0,.int .i64 0,.int .i64 0,.int .i64 0,.int .i64 0,.int .i64 0,.int .i64 0,.int .i64 0,.int .i64 0,.int .i64 0,.int .i64 0,.int .i64 0,.int .i64 0,.int .i64 0,.int .i64 0,.int .i64 0,.int .i64 0,.int .i64 0,.int .i64 0,.int .i64 0,.int .i64 0,.int .i64 0,.int .i64 0,.int .i64 0,.int .i64 0,(.slice none 0 0 false),.int .i64 0,.int .i64 0,.int .i64 0,.int .i64 0,.int .i64 0,(.int .u8 0),.int .i64 0,.int .i64 0] [(0,1,(.t 10))],none,3,[11,10]⟩,
  ⟨some 4,.alloc 52 [.int .i64 0,.int .i64 0,.int .i64 0,.int .i64 0,.int .i64 0,.int .i64 0,.int .i64 0,.int .i64 0,.int .i64 0,.str [],.str [],.str [],.int .i64 0,.str [],.int .i64 0,.int .i64 0,.int .i64 0,.int .i64 0,.int .i64 0,.int .i64 0,.int .i64 0,.int .i64 0,.int .i64 0,.str [],.str [],.str [],.int .i64 0,.int .i64 0,(.slice none 0 0 false),.int .i64 0,.int .i64 0,.int .i64 0,.int .i64 0,.int .i64 0,.int .i64 0,.int .i64 0,.int .i64 0,.int .i64 0,.int .i64 0,.int .i64 0,.int .i64 0,.int .i64 0,.int .i64 0,.int .i64 0,.int .i64 0,.int .i64 0,.int .i64 0,.int .i64 0,.int .i64 0,.int .i64 0,.int .i64 0,.int .i64 0,.int .i64 0,.int .i64 0,.int .i64 0,.int .i64 0,.int .i64 0,.int .i64 0,.int .i64 0,.int .i64 0,.int .i64 0,.int .i64 0,.int .i64 0,.int .i64 0,.int .i64 0,.int .i64 0,.int .i64 0,(.slice none 0 0 false),.int .i64 0,.int .i64 0,.int .i64 0,.int .i64 0,.int .i64 0,(.int .u8 0),.int .i64 0,.int .i64 0],none,0,[4]⟩,
  ⟨none,.store 76 (.t 4) (.t 11),none,15,[4,11]⟩]
def r10_2 : List O := [⟨some 12,.fadr 0 (.t 1),none,0,[12,1]⟩,
  ⟨some 13,.load1 (.t 12),none,1,[13,12]⟩]
def r10_3 : List O := [⟨some 25,.bin .eql (some .int) true (.t 13) (.k (.int .i64 6)),none,0,[25,13]⟩,
  ⟨some 24,.mv (.t 25),none,1,[24,25]⟩]
def r10_4 : List O := [⟨some 26,.fadr 71 (.t 1),none,0,[26,1]⟩,
  ⟨some 27,.load1 (.t 26),none,1,[27,26]⟩,
  ⟨some 28,.fadr 71 (.t 4),none,3,[28,4]⟩,
  ⟨none,.store 1 (.t 28) (.t 27),none,7,[28,27]⟩]
def r10_5 : List O := [⟨some 29,.fadr 71 (.t 1),none,0,[29,1]⟩,
  ⟨some 30,.load1 (.t 29),none,1,[30,29]⟩,
  ⟨some 31,.call (.k (.func 30 [] [])) [(.t 30)],none,3,[31,30]⟩,
  ⟨some 32,.bin .add (some .str) true (.k (.str [100,101,108,105,118,101,114,32])) (.t 31),none,7,[32,31]⟩,
  ⟨some 5,.mv (.t 32),none,15,[5,32]⟩]
def r10_6 : List O := [⟨some 34,.bin .eql (some .int) true (.t 13) (.k (.int .i64 7)),none,0,[34,13]⟩,
  ⟨some 33,.mv (.t 34),none,1,[33,34]⟩]
def r10_7 : List O := [⟨some 35,.fadr 71 (.t 1),none,0,[35,1]⟩,
  ⟨some 36,.load1 (.t 35),none,1,[36,35]⟩,
  ⟨some 37,.fadr 71 (.t 4),none,3,[37,4]⟩,
  ⟨none,.store 1 (.t 37) (.t 36),none,7,[37,36]⟩]
def r10_8 : List O := [⟨some 38,.fadr 71 (.t 1),none,0,[38,1]⟩,
  ⟨some 39,.load1 (.t 38),none,1,[39,38]⟩,
  ⟨some 40,.call (.k (.func 30 [] [])) [(.t 39)],none,3,[40,39]⟩,
  ⟨some 41,.bin .add (some .str) true (.k (.str [100,114,111,112,32])) (.t 40),none,7,[41,40]⟩,
  ⟨some 5,.mv (.t 41),none,15,[5,41]⟩]
def r10_9 : List O := [⟨some 43,.bin .eql (some .int) true (.t 13) (.k (.int .i64 8)),none,0,[43,13]⟩,
  ⟨some 42,.mv (.t 43),none,1,[42,43]⟩]
def r10_10 : List O := [⟨some 44,.fadr 71 (.t 1),none,0,[44,1]⟩,
  ⟨some 45,.load1 (.t 44),none,1,[45,44]⟩,
  ⟨some 46,.fadr 71 (.t 4),none,3,[46,4]⟩,
  ⟨none,.store 1 (.t 46) (.t 45),none,7,[46,45]⟩]
def r10_11 : List O := [⟨some 47,.fadr 71 (.t 1),none,0,[47,1]⟩,
  ⟨some 48,.load1 (.t 47),none,1,[48,47]⟩,
  ⟨some 49,.call (.k (.func 30 [] [])) [(.t 48)],none,3,[49,48]⟩,
  ⟨some 50,.bin .add (some .str) true (.k (.str [100,111,117,98,108,101,32])) (.t 49),none,7,[50,49]⟩,
  ⟨some 5,.mv (.t 50),none,15,[5,50]⟩]
def r10_12 : List O := [⟨some 52,.bin .eql (some .int) true (.t 13) (.k (.int .i64 9)),none,0,[52,13]⟩,
  ⟨some 51,.mv (.t 52),none,1,[51,52]⟩]
def r10_13 : List O := [⟨some 53,.fadr 71 (.t 1),none,0,[53,1]⟩,
  ⟨some 54,.load1 (.t 53),none,1,[54,53]⟩,
  ⟨some 55,.fadr 72 (.t 1),none,0,[55,1]⟩,
  ⟨some 56,.load1 (.t 55),none,4,[56,55]⟩,
  ⟨some 57,.fadr 73 (.t 1),none,0,[57,1]⟩,
  ⟨some 58,.load1 (.t 57),none,16,[58,57]⟩,
  ⟨some 59,.fadr 71 (.t 4),none,3,[59,4]⟩,
  ⟨none,.store 1 (.t 59) (.t 54),none,67,[59,54]⟩,
  ⟨some 60,.fadr 72 (.t 4),none,207,[60,4]⟩,
  ⟨none,.store 1 (.t 60) (.t 56),none,463,[60,56]⟩,
  ⟨some 61,.fadr 73 (.t 4),none,1023,[61,4]⟩,
  ⟨none,.store 1 (.t 61) (.t 58),none,2047,[61,58]⟩]
theorem k10_13 (lo : Nat) (hx : XDK P E ro L K Q lo h [true, true, true, true, true, true, true, true, true, true, true, true] r10_13 ρ h) : XD P E ro L r10_13 K ρ h Q := XD_keeps rfl rfl hx
def r10_14 : List O := [⟨some 62,.fadr 71 (.t 1),none,0,[62,1]⟩,
  ⟨some 63,.load1 (.t 62),none,1,[63,62]⟩,
  ⟨some 64,.call (.k (.func 30 [] [])) [(.t 63)],none,3,[64,63]⟩,
  ⟨some 65,.bin .add (some .str) true (.k (.str [115,112,111,105,108,32])) (.t 64),none,7,[65,64]⟩,
  ⟨some 66,.fadr 72 (.t 1),none,0,[66,1]⟩,
  ⟨some 67,.load1 (.t 66),none,16,[67,66]⟩,
  ⟨some 68,.fadr 73 (.t 1),none,0,[68,1]⟩,
  ⟨some 69,.load1 (.t 68),none,64,[69,68]⟩,
  ⟨some 70,.cvt .i64 (.t 69),none,192,[70,69]⟩,
  ⟨some 71,.bslice 3 2 [.int .i64 0,.int .i64 0] [(0,1,(.t 67)),(1,1,(.t 70))],none,496,[71,67,70]⟩,
  ⟨some 72,.call (.k (.func 31 [] [])) [(.t 71)],none,1015,[72,71]⟩,
  ⟨some 73,.bin .add (some .str) false (.t 65) (.t 72),none,2047,[73,65,72]⟩,
  ⟨some 5,.mv (.t 73),none,4095,[5,73]⟩]
theorem d10_14 (hx : XDQ P E ro L K Q h [true, true, true, true, false, false, false, false, false, false, true, true, true] r10_14 ρ h) : XD P E ro L r10_14 K ρ h Q := XD_quiet rfl rfl hx
def r10_15 : List O := [⟨some 75,.bin .eql (some .int) true (.t 13) (.k (.int .i64 13)),none,0,[75,13]⟩,
  ⟨some 74,.mv (.t 75),none,1,[74,75]⟩]
def r10_16 : List O := [⟨some 77,.bin .eql (some .int) true (.t 13) (.k (.int .i64 14)),none,0,[77,13]⟩,
  ⟨some 76,.mv (.t 77),none,1,[76,77]⟩]
def r10_17 : List O := [⟨some 15,.loadN 76 (.t 1),none,0,[15,1]⟩,
  ⟨some 16,.call (.k (.func 32 [] [])) [(.t 15)],none,1,[16,15]⟩,
  ⟨some 14,.mv (.t 16),none,3,[14,16]⟩,
  ⟨some 17,.extract (.t 14) 0,none,7,[17,14]⟩,
  ⟨some 18,.extract (.t 14) 1,none,7,[18,14]⟩,
  ⟨some 19,.extract (.t 14) 2,none,7,[19,14]⟩,
  ⟨some 7,.alloc 52 [.int .i64 0,.int .i64 0,.int .i64 0,.int .i64 0,.int .i64 0,.int .i64 0,.int .i64 0,.int .i64 0,.int .i64 0,.str [],.str [],.str [],.int .i64 0,.str [],.int .i64 0,.int .i64 0,.int .i64 0,.int .i64 0,.int .i64 0,.int .i64 0,.int .i64 0,.int .i64 0,.int .i64 0,.str [],.str [],.str [],.int .i64 0,.int .i64 0,(.slice none 0 0 false),.int .i64 0,.int .i64 0,.int .i64 0,.int .i64 0,.int .i64 0,.int .i64 0,.int .i64 0,.int .i64 0,.int .i64 0,.int .i64 0,.int .i64 0,.int .i64 0,.int .i64 0,.int .i64 0,.int .i64 0,.int .i64 0,.int .i64 0,.int .i64 0,.int .i64 0,.int .i64 0,.int .i64 0,.int .i64 0,.int .i64 0,.int .i64 0,.int .i64 0,.int .i64 0,.int .i64 0,.int .i64 0,.int .i64 0,.int .i64 0,.int .i64 0,.int .i64 0,.int .i64 0,.int .i64 0,.int .i64 0,.int .i64 0,.int .i64 0,.int .i64 0,(.slice none 0 0 false),.int .i64 0,.int .i64 0,.int .i64 0,.int .i64 0,.int .i64 0,(.int .u8 0),.int .i64 0,.int .i64 0],none,0,[7]⟩,
  ⟨some 6,.mv (.t 17),none,79,[6,17]⟩,
  ⟨none,.store 76 (.t 7) (.t 18),none,223,[7,18]⟩,
  ⟨some 8,.mv (.t 19),none,511,[8,19]⟩]
def r10_18 : List O := [⟨some 20,.mv (.t 8),none,0,[20,8]⟩,
  ⟨some 21,.un .not (.t 20),none,1,[21,20]⟩]
def r10_19 : List O := [⟨some 2,.mv (.k (.str [])),none,0,[2]⟩,
  ⟨some 3,.mv (.k (.int .i64 1)),none,1,[3]⟩]
def r10_20 : List O := [⟨some 22,.mv (.t 6),none,0,[22,6]⟩,
  ⟨some 23,.loadN 76 (.t 7),none,0,[23,7]⟩,
  ⟨some 5,.mv (.t 22),none,1,[5,22]⟩,
  ⟨none,.store 76 (.t 4) (.t 23),none,7,[4,23]⟩]
theorem d10_20 (hx : XDO P E ro L r10_20 K ρ h Q) : XD P E ro L r10_20 K ρ h Q := XD_ord rfl hx
def r10_21 : List O := [⟨some 78,.loadN 76 (.t 4),none,0,[78,4]⟩,
  ⟨some 79,.loadN 76 (.t 1),none,0,[79,1]⟩,
  ⟨some 80,.call (.k (.func 33 [] [])) [(.t 78),(.t 79)],none,3,[80,78,79]⟩,
  ⟨some 81,.un .not (.t 80),none,7,[81,80]⟩]
def r10_22 : List O := [⟨some 2,.mv (.k (.str [])),none,0,[2]⟩,
  ⟨some 3,.mv (.k (.int .i64 1)),none,1,[3]⟩]
def r10_23 : List O := [⟨some 82,.mv (.t 5),none,0,[82,5]⟩,
  ⟨some 2,.mv (.t 82),none,1,[2,82]⟩,
  ⟨some 3,.mv (.k (.int .i64 0)),none,3,[3]⟩]
def c10 : C := .seq (.region r10_0) (.seq (.region r10_1) (.seq (.region [⟨some 5,.mv (.k (.str [])),none,0,[5]⟩]) (.seq (.seq (.region r10_2) (.block 0 (.seq (.region r10_3) (.cond (.t 24) (.seq (.region r10_4) (.region r10_5)) (.seq (.region r10_6) (.cond (.t 33) (.seq (.region r10_7) (.region r10_8)) (.seq (.region r10_9) (.cond (.t 42) (.seq (.region r10_10) (.region r10_11)) (.seq (.region r10_12) (.cond (.t 51) (.seq (.draw r10_13) (.draw r10_14)) (.seq (.region r10_15) (.cond (.t 74) (.region [⟨some 5,.mv (.k (.str [97,108,108])),none,0,[5]⟩]) (.seq (.region r10_16) (.cond (.t 76) (.region [⟨some 5,.mv (.k (.str [97,114,114,105,118,101])),none,0,[5]⟩]) (.seq (.region r10_17) (.seq (.seq (.region r10_18) (.cond (.t 21) (.seq (.region r10_19) (.ret)) (.skip))) (.draw r10_20))))))))))))))))) (.seq (.seq (.region r10_21) (.cond (.t 81) (.seq (.region r10_22) (.ret)) (.skip))) (.seq (.region r10_23) (.ret))))))
def fn10 : Fn := ⟨83, [.t 2, .t 3], c10⟩
/-! 11: orchard/orchardref27.Same -/
def r11_0 : List O := [⟨some 4,.box 24 (.t 0),none,0,[4,0]⟩,
  ⟨some 5,.box 24 (.t 1),none,0,[5,1]⟩,
  ⟨some 8,.mv (.k (.bool false)),none,0,[8]⟩]
def r11_1 : List O := [⟨some 10,.loadN 4 (.t 4),none,0,[10,4]⟩,
  ⟨some 11,.call (.k (.func 23 [] [])) [(.t 10)],none,1,[11,10]⟩,
  ⟨some 12,.loadN 4 (.t 5),none,0,[12,5]⟩,
  ⟨some 13,.call (.k (.func 23 [] [])) [(.t 12)],none,7,[13,12]⟩,
  ⟨some 14,.bin .neq (some .str) false (.t 11) (.t 13),none,15,[14,11,13]⟩,
  ⟨some 15,.mv (.t 14),none,31,[15,14]⟩,
  ⟨some 16,.mv (.t 2),some (15,false),63,[16,15,2]⟩,
  ⟨some 17,.lenL (.t 16),some (15,false),127,[17,15,16]⟩,
  ⟨some 18,.mv (.t 3),some (15,false),63,[18,15,3]⟩,
  ⟨some 19,.lenL (.t 18),some (15,false),319,[19,15,18]⟩,
  ⟨some 20,.bin .neq (some .int) false (.t 17) (.t 19),some (15,false),1023,[20,15,17,19]⟩,
  ⟨some 21,.pick (.t 15) (.k (.bool true)) (.t 20),none,2047,[21,15,20]⟩]
def r11_2 : List O := [⟨some 22,.mv (.t 9),none,0,[22,9]⟩,
  ⟨some 23,.mv (.t 2),none,0,[23,2]⟩,
  ⟨some 24,.lenL (.t 23),none,2,[24,23]⟩,
  ⟨some 25,.bin .lss (some .int) false (.t 22) (.t 24),none,7,[25,22,24]⟩]
def r11_3 : List O := [⟨some 28,.mv (.t 2),none,0,[28,2]⟩,
  ⟨some 29,.mv (.t 9),none,0,[29,9]⟩,
  ⟨some 30,.iadrL 76 (.t 28) (.t 29),none,3,[30,28,29]⟩,
  ⟨some 31,.loadN 76 (.t 30),none,7,[31,30]⟩,
  ⟨some 32,.mv (.t 3),none,0,[32,3]⟩,
  ⟨some 33,.mv (.t 9),none,0,[33,9]⟩,
  ⟨some 34,.iadrL 76 (.t 32) (.t 33),none,48,[34,32,33]⟩,
  ⟨some 35,.loadN 76 (.t 34),none,112,[35,34]⟩,
  ⟨some 36,.call (.k (.func 33 [] [])) [(.t 31),(.t 35)],none,255,[36,31,35]⟩,
  ⟨some 37,.un .not (.t 36),none,511,[37,36]⟩]
def r11_4 : List O := [⟨some 26,.mv (.t 9),none,0,[26,9]⟩,
  ⟨some 27,.bin .add (some .int) true (.t 26) (.k (.int .i64 1)),none,1,[27,26]⟩,
  ⟨some 9,.mv (.t 27),none,3,[9,27]⟩]
def b11_5 : C := .seq (.seq (.region r11_2) (.cond (.t 25) (.skip) (.exit 0))) (.seq (.block 1 (.seq (.draw r11_3) (.cond (.t 37) (.seq (.region [⟨some 8,.mv (.k (.bool false)),none,0,[8]⟩]) (.ret)) (.skip)))) (.region r11_4))
theorem u11_5 : XL P E ro L b11_5 K ρ h Q = X P E ro L (.c (.seq (.seq (.region r11_2) (.cond (.t 25) (.skip) (.exit 0))) (.seq (.block 1 (.seq (.draw r11_3) (.cond (.t 37) (.seq (.region [⟨some 8, .mv (.k (.bool false)), none, 0, [8]⟩]) (.ret)) (.skip)))) (.region r11_4))) :: .l b11_5 :: K) ρ h Q := XL_unroll b11_5
def c11 : C := .seq (.region r11_0) (.seq (.seq (.draw r11_1) (.cond (.t 21) (.seq (.region [⟨some 8,.mv (.k (.bool false)),none,0,[8]⟩]) (.ret)) (.skip))) (.seq (.seq (.region [⟨some 9,.mv (.k (.int .i64 0)),none,0,[9]⟩]) (.block 0 (.loop b11_5))) (.seq (.region [⟨some 8,.mv (.k (.bool true)),none,0,[8]⟩]) (.ret))))
def fn11 : Fn := ⟨38, [.t 8], c11⟩
/-! 12: orchard/script.Entry -/
def r12_0 : List O := [⟨some 1,.box 50 (.t 0),none,0,[1,0]⟩,
  ⟨some 2,.mv (.k (.str [])),none,0,[2]⟩,
  ⟨some 3,.mv (.k (.int .i64 0)),none,2,[3]⟩]
def r12_1 : List O := [⟨some 8,.fadr 0 (.t 1),none,0,[8,1]⟩,
  ⟨some 9,.load1 (.t 8),none,1,[9,8]⟩,
  ⟨some 10,.build [.int .i64 0,.int .i64 0,.int .i64 0,.int .i64 0,.int .i64 0,.int .i64 0,.int .i64 0,.int .i64 0,.str [],.str [],.str [],.int .i64 0,.int .i64 0,.int .i64 0,.int .i64 0,.int .i64 0,.int .i64 0,.int .i64 0,.int .i64 0,.int .i64 0,.int .i64 0,.int .i64 0,.int .i64 0,.int .i64 0,.int .i64 0,.int .i64 0,.int .i64 0,.int .i64 0,.int .i64 0,.int .i64 0,.int .i64 0,.int .i64 0,.int .i64 0,.int .i64 0,.int .i64 0,.int .i64 0,.int .i64 0,.int .i64 0,.int .i64 0,.int .i64 0,.int .i64 0,.int .i64 0,.int .i64 0,.int .i64 0,.int .i64 0,.int .i64 0,.int .i64 0,.int .i64 0,.int .i64 0,.int .i64 0,.int .i64 0,.int .i64 0,.int .i64 0,.int .i64 0] [(0,1,(.t 9))],none,3,[10,9]⟩,
  ⟨some 4,.alloc 81 [.int .i64 0,.int .i64 0,.int .i64 0,.int .i64 0,.int .i64 0,.int .i64 0,.int .i64 0,.int .i64 0,.str [],.str [],.str [],.int .i64 0,.int .i64 0,.int .i64 0,.int .i64 0,.int .i64 0,.int .i64 0,.int .i64 0,.int .i64 0,.int .i64 0,.int .i64 0,.int .i64 0,.int .i64 0,.int .i64 0,.int .i64 0,.int .i64 0,.int .i64 0,.int .i64 0,.int .i64 0,.int .i64 0,.int .i64 0,.int .i64 0,.int .i64 0,.int .i64 0,.int .i64 0,.int .i64 0,.int .i64 0,.int .i64 0,.int .i64 0,.int .i64 0,.int .i64 0,.int .i64 0,.int .i64 0,.int .i64 0,.int .i64 0,.int .i64 0,.int .i64 0,.int .i64 0,.int .i64 0,.int .i64 0,.int .i64 0,.int .i64 0,.int .i64 0,.int .i64 0],none,0,[4]⟩,
  ⟨none,.store 54 (.t 4) (.t 10),none,15,[4,10]⟩]
def r12_2 : List O := [⟨some 11,.fadr 0 (.t 1),none,0,[11,1]⟩,
  ⟨some 12,.load1 (.t 11),none,1,[12,11]⟩]
def r12_3 : List O := [⟨some 14,.bin .eql (some .int) true (.t 12) (.k (.int .i64 0)),none,0,[14,12]⟩,
  ⟨some 13,.mv (.t 14),none,1,[13,14]⟩]
def r12_4 : List O := [⟨some 16,.bin .eql (some .int) true (.t 12) (.k (.int .i64 6)),none,0,[16,12]⟩,
  ⟨some 15,.mv (.t 16),none,1,[15,16]⟩]
def r12_5 : List O := [⟨some 17,.fadr 53 (.t 1),none,0,[17,1]⟩,
  ⟨some 18,.load1 (.t 17),none,1,[18,17]⟩,
  ⟨some 19,.fadr 54 (.t 1),none,0,[19,1]⟩,
  ⟨some 20,.load1 (.t 19),none,4,[20,19]⟩,
  ⟨some 21,.fadr 51 (.t 4),none,3,[21,4]⟩,
  ⟨none,.store 1 (.t 21) (.t 18),none,19,[21,18]⟩,
  ⟨some 22,.fadr 52 (.t 4),none,63,[22,4]⟩,
  ⟨none,.store 1 (.t 22) (.t 20),none,127,[22,20]⟩]
theorem k12_5 (lo : Nat) (hx : XDK P E ro L K Q lo h [true, true, true, true, true, true, true, true] r12_5 ρ h) : XD P E ro L r12_5 K ρ h Q := XD_keeps rfl rfl hx
def r12_6 : List O := [⟨some 23,.fadr 53 (.t 1),none,0,[23,1]⟩,
  ⟨some 24,.load1 (.t 23),none,1,[24,23]⟩,
  ⟨some 25,.fadr 54 (.t 1),none,0,[25,1]⟩,
  ⟨some 26,.load1 (.t 25),none,4,[26,25]⟩,
  ⟨some 27,.bslice 3 2 [.int .i64 0,.int .i64 0] [(0,1,(.t 24)),(1,1,(.t 26))],none,15,[27,24,26]⟩,
  ⟨some 28,.call (.k (.func 24 [] [])) [(.t 27)],none,31,[28,27]⟩,
  ⟨some 29,.bin .add (some .str) true (.k (.str [106,111,105,110,32])) (.t 28),none,63,[29,28]⟩,
  ⟨some 5,.mv (.t 29),none,127,[5,29]⟩]
def r12_7 : List O := [⟨some 31,.bin .eql (some .int) true (.t 12) (.k (.int .i64 7)),none,0,[31,12]⟩,
  ⟨some 30,.mv (.t 31),none,1,[30,31]⟩]
def r12_8 : List O := [⟨some 32,.fadr 53 (.t 1),none,0,[32,1]⟩,
  ⟨some 33,.load1 (.t 32),none,1,[33,32]⟩,
  ⟨some 34,.fadr 51 (.t 4),none,3,[34,4]⟩,
  ⟨none,.store 1 (.t 34) (.t 33),none,7,[34,33]⟩]
def r12_9 : List O := [⟨some 35,.fadr 53 (.t 1),none,0,[35,1]⟩,
  ⟨some 36,.load1 (.t 35),none,1,[36,35]⟩,
  ⟨some 37,.bslice 3 1 [.int .i64 0] [(0,1,(.t 36))],none,3,[37,36]⟩,
  ⟨some 38,.call (.k (.func 24 [] [])) [(.t 37)],none,7,[38,37]⟩,
  ⟨some 39,.bin .add (some .str) true (.k (.str [108,101,97,118,101,32])) (.t 38),none,15,[39,38]⟩,
  ⟨some 5,.mv (.t 39),none,31,[5,39]⟩]
def r12_10 : List O := [⟨some 41,.bin .eql (some .int) true (.t 12) (.k (.int .i64 8)),none,0,[41,12]⟩,
  ⟨some 40,.mv (.t 41),none,1,[40,41]⟩]
def r12_11 : List O := [⟨some 42,.fadr 53 (.t 1),none,0,[42,1]⟩,
  ⟨some 43,.load1 (.t 42),none,1,[43,42]⟩,
  ⟨some 44,.fadr 55 (.t 1),none,0,[44,1]⟩,
  ⟨some 45,.load1 (.t 44),none,4,[45,44]⟩,
  ⟨some 46,.fadr 51 (.t 4),none,3,[46,4]⟩,
  ⟨none,.store 1 (.t 46) (.t 43),none,19,[46,43]⟩,
  ⟨some 47,.fadr 53 (.t 4),none,63,[47,4]⟩,
  ⟨none,.store 1 (.t 47) (.t 45),none,127,[47,45]⟩]
theorem k12_11 (lo : Nat) (hx : XDK P E ro L K Q lo h [true, true, true, true, true, true, true, true] r12_11 ρ h) : XD P E ro L r12_11 K ρ h Q := XD_keeps rfl rfl hx
def r12_12 : List O := [⟨some 48,.fadr 53 (.t 1),none,0,[48,1]⟩,
  ⟨some 49,.load1 (.t 48),none,1,[49,48]⟩,
  ⟨some 50,.bslice 3 1 [.int .i64 0] [(0,1,(.t 49))],none,3,[50,49]⟩,
  ⟨some 51,.call (.k (.func 24 [] [])) [(.t 50)],none,7,[51,50]⟩,
  ⟨some 52,.bin .add (some .str) true (.k (.str [115,101,97,108,101,100,32])) (.t 51),none,15,[52,51]⟩,
  ⟨some 53,.bin .add (some .str) true (.t 52) (.k (.str [32])),none,31,[53,52]⟩,
  ⟨some 54,.fadr 55 (.t 1),none,0,[54,1]⟩,
  ⟨some 55,.load1 (.t 54),none,64,[55,54]⟩,
  ⟨some 56,.call (.k (.func 27 [] [])) [(.t 55)],none,207,[56,55]⟩,
  ⟨some 57,.bin .add (some .str) false (.t 53) (.t 56),none,511,[57,53,56]⟩,
  ⟨some 5,.mv (.t 57),none,1023,[5,57]⟩]
theorem d12_12 (hx : XDQ P E ro L K Q h [true, true, true, true, true, true, false, false, true, true, true] r12_12 ρ h) : XD P E ro L r12_12 K ρ h Q := XD_quiet rfl rfl hx
def r12_13 : List O := [⟨some 59,.loadN 56 (.t 1),none,0,[59,1]⟩,
  ⟨some 60,.call (.k (.func 34 [] [])) [(.t 59)],none,1,[60,59]⟩,
  ⟨some 58,.mv (.t 60),none,3,[58,60]⟩,
  ⟨some 61,.extract (.t 58) 0,none,7,[61,58]⟩,
  ⟨some 62,.extract (.t 58) 1,none,7,[62,58]⟩,
  ⟨some 6,.alloc 81 [.int .i64 0,.int .i64 0,.int .i64 0,.int .i64 0,.int .i64 0,.int .i64 0,.int .i64 0,.int .i64 0,.str [],.str [],.str [],.int .i64 0,.int .i64 0,.int .i64 0,.int .i64 0,.int .i64 0,.int .i64 0,.int .i64 0,.int .i64 0,.int .i64 0,.int .i64 0,.int .i64 0,.int .i64 0,.int .i64 0,.int .i64 0,.int .i64 0,.int .i64 0,.int .i64 0,.int .i64 0,.int .i64 0,.int .i64 0,.int .i64 0,.int .i64 0,.int .i64 0,.int .i64 0,.int .i64 0,.int .i64 0,.int .i64 0,.int .i64 0,.int .i64 0,.int .i64 0,.int .i64 0,.int .i64 0,.int .i64 0,.int .i64 0,.int .i64 0,.int .i64 0,.int .i64 0,.int .i64 0,.int .i64 0,.int .i64 0,.int .i64 0,.int .i64 0,.int .i64 0],none,0,[6]⟩,
  ⟨none,.store 54 (.t 6) (.t 61),none,47,[6,61]⟩,
  ⟨some 7,.mv (.t 62),none,127,[7,62]⟩]
def r12_14 : List O := [⟨some 63,.mv (.t 5),none,0,[63,5]⟩,
  ⟨some 64,.bin .eql (some .str) true (.t 63) (.k (.str [])),none,1,[64,63]⟩,
  ⟨some 65,.mv (.t 64),none,3,[65,64]⟩,
  ⟨some 66,.mv (.t 7),some (65,false),7,[66,65,7]⟩,
  ⟨some 67,.un .not (.t 66),some (65,false),15,[67,65,66]⟩,
  ⟨some 68,.pick (.t 65) (.k (.bool true)) (.t 67),none,31,[68,65,67]⟩,
  ⟨some 69,.mv (.t 68),none,63,[69,68]⟩,
  ⟨some 70,.loadN 54 (.t 6),some (69,false),127,[70,69,6]⟩,
  ⟨some 71,.loadN 54 (.t 4),some (69,false),127,[71,69,4]⟩,
  ⟨some 72,.bin .neq (some (.fcons 0 1 false .int (.fcons 1 1 false .int (.fcons 2 1 false .int (.fcons 3 8 true (.fcons 0 2 true (.fcons 0 1 false .int (.fcons 1 1 false .int .fnil)) (.fcons 2 1 false .int (.fcons 3 1 false .int (.fcons 4 1 false .int (.fcons 5 1 false .str (.fcons 6 1 false .str (.fcons 7 1 false .str .fnil))))))) (.fcons 11 1 false .int (.fcons 12 1 false .int (.fcons 13 25 true (.fcons 0 1 false .int (.fcons 1 8 true (.ar 8 1 false .int) (.fcons 9 8 true (.ar 8 1 false .int) (.fcons 17 8 true (.ar 8 1 false .int) .fnil)))) (.fcons 38 1 false .int (.fcons 39 8 true (.ar 8 1 false .int) (.fcons 47 1 false .int (.fcons 48 1 false .int (.fcons 49 1 false .int (.fcons 50 1 false .int (.fcons 51 1 false .int (.fcons 52 1 false .int (.fcons 53 1 false .int .fnil))))))))))))))))) false (.t 70) (.t 71),some (69,false),511,[72,69,70,71]⟩,
  ⟨some 73,.pick (.t 69) (.k (.bool true)) (.t 72),none,1023,[73,69,72]⟩]
def r12_15 : List O := [⟨some 2,.mv (.k (.str [])),none,0,[2]⟩,
  ⟨some 3,.mv (.k (.int .i64 1)),none,1,[3]⟩]
def r12_16 : List O := [⟨some 74,.mv (.t 5),none,0,[74,5]⟩,
  ⟨some 2,.mv (.t 74),none,1,[2,74]⟩,
  ⟨some 3,.mv (.k (.int .i64 0)),none,3,[3]⟩]
def c12 : C := .seq (.region r12_0) (.seq (.region r12_1) (.seq (.region [⟨some 5,.mv (.k (.str [])),none,0,[5]⟩]) (.seq (.seq (.region r12_2) (.block 0 (.seq (.region r12_3) (.cond (.t 13) (.region [⟨some 5,.mv (.k (.str [110,111,110,101])),none,0,[5]⟩]) (.seq (.region r12_4) (.cond (.t 15) (.seq (.draw r12_5) (.region r12_6)) (.seq (.region r12_7) (.cond (.t 30) (.seq (.region r12_8) (.region r12_9)) (.seq (.region r12_10) (.cond (.t 40) (.seq (.draw r12_11) (.draw r12_12)) (.skip))))))))))) (.seq (.region r12_13) (.seq (.seq (.region r12_14) (.cond (.t 73) (.seq (.region r12_15) (.ret)) (.skip))) (.seq (.region r12_16) (.ret)))))))
def fn12 : Fn := ⟨75, [.t 2, .t 3], c12⟩
/-! 13: orchard/orchardref27.Entry -/
def r13_0 : List O := [⟨some 1,.box 50 (.t 0),none,0,[1,0]⟩,
  ⟨some 2,.mv (.k (.str [])),none,0,[2]⟩,
  ⟨some 3,.mv (.k (.int .i64 0)),none,2,[3]⟩]
def r13_1 : List O := [⟨some 6,.fadr 0 (.t 1),none,0,[6,1]⟩,
  ⟨some 7,.load1 (.t 6),none,1,[7,6]⟩,
  ⟨some 8,.build [.int .i64 0,.int .i64 0,.int .i64 0,.int .i64 0,.int .i64 0,.int .i64 0,.int .i64 0,.int .i64 0,.str [],.str [],.str [],.int .i64 0,.int .i64 0,(.slice none 0 0 false),.int .i64 0,.int .i64 0,.int .i64 0,.int .i64 0,.int .i64 0,.int .i64 0,.int .i64 0,.int .i64 0,.int .i64 0,.int .i64 0,.int .i64 0,.int .i64 0,.int .i64 0,.int .i64 0,.int .i64 0,.int .i64 0,.int .i64 0,.int .i64 0,.int .i64 0,.int .i64 0,.int .i64 0,.int .i64 0,.int .i64 0,.int .i64 0,.int .i64 0,.int .i64 0,.int .i64 0,.int .i64 0,.int .i64 0,.int .i64 0,.int .i64 0,.int .i64 0,.int .i64 0,.int .i64 0,.int .i64 0,.int .i64 0,.int .i64 0,.int .i64 0,(.slice none 0 0 false),.int .i64 0,.int .i64 0,.int .i64 0] [(0,1,(.t 7))],none,3,[8,7]⟩,
  ⟨some 4,.alloc 50 [.int .i64 0,.int .i64 0,.int .i64 0,.int .i64 0,.int .i64 0,.int .i64 0,.int .i64 0,.int .i64 0,.str [],.str [],.str [],.int .i64 0,.int .i64 0,(.slice none 0 0 false),.int .i64 0,.int .i64 0,.int .i64 0,.int .i64 0,.int .i64 0,.int .i64 0,.int .i64 0,.int .i64 0,.int .i64 0,.int .i64 0,.int .i64 0,.int .i64 0,.int .i64 0,.int .i64 0,.int .i64 0,.int .i64 0,.int .i64 0,.int .i64 0,.int .i64 0,.int .i64 0,.int .i64 0,.int .i64 0,.int .i64 0,.int .i64 0,.int .i64 0,.int .i64 0,.int .i64 0,.int .i64 0,.int .i64 0,.int .i64 0,.int .i64 0,.int .i64 0,.int .i64 0,.int .i64 0,.int .i64 0,.int .i64 0,.int .i64 0,.int .i64 0,(.slice none 0 0 false),.int .i64 0,.int .i64 0,.int .i64 0],none,0,[4]⟩,
  ⟨none,.store 56 (.t 4) (.t 8),none,15,[4,8]⟩]
def r13_2 : List O := [⟨some 9,.fadr 0 (.t 1),none,0,[9,1]⟩,
  ⟨some 10,.load1 (.t 9),none,1,[10,9]⟩]
def r13_3 : List O := [⟨some 12,.bin .eql (some .int) true (.t 10) (.k (.int .i64 0)),none,0,[12,10]⟩,
  ⟨some 11,.mv (.t 12),none,1,[11,12]⟩]
def r13_4 : List O := [⟨some 14,.bin .eql (some .int) true (.t 10) (.k (.int .i64 6)),none,0,[14,10]⟩,
  ⟨some 13,.mv (.t 14),none,1,[13,14]⟩]
def r13_5 : List O := [⟨some 15,.fadr 53 (.t 1),none,0,[15,1]⟩,
  ⟨some 16,.load1 (.t 15),none,1,[16,15]⟩,
  ⟨some 17,.fadr 54 (.t 1),none,0,[17,1]⟩,
  ⟨some 18,.load1 (.t 17),none,4,[18,17]⟩,
  ⟨some 19,.fadr 53 (.t 4),none,3,[19,4]⟩,
  ⟨none,.store 1 (.t 19) (.t 16),none,19,[19,16]⟩,
  ⟨some 20,.fadr 54 (.t 4),none,63,[20,4]⟩,
  ⟨none,.store 1 (.t 20) (.t 18),none,127,[20,18]⟩]
theorem k13_5 (lo : Nat) (hx : XDK P E ro L K Q lo h [true, true, true, true, true, true, true, true] r13_5 ρ h) : XD P E ro L r13_5 K ρ h Q := XD_keeps rfl rfl hx
def r13_6 : List O := [⟨some 21,.fadr 53 (.t 1),none,0,[21,1]⟩,
  ⟨some 22,.load1 (.t 21),none,1,[22,21]⟩,
  ⟨some 23,.fadr 54 (.t 1),none,0,[23,1]⟩,
  ⟨some 24,.load1 (.t 23),none,4,[24,23]⟩,
  ⟨some 25,.bslice 3 2 [.int .i64 0,.int .i64 0] [(0,1,(.t 22)),(1,1,(.t 24))],none,15,[25,22,24]⟩,
  ⟨some 26,.call (.k (.func 31 [] [])) [(.t 25)],none,31,[26,25]⟩,
  ⟨some 27,.bin .add (some .str) true (.k (.str [106,111,105,110])) (.t 26),none,63,[27,26]⟩,
  ⟨some 5,.mv (.t 27),none,127,[5,27]⟩]
def r13_7 : List O := [⟨some 29,.bin .eql (some .int) true (.t 10) (.k (.int .i64 7)),none,0,[29,10]⟩,
  ⟨some 28,.mv (.t 29),none,1,[28,29]⟩]
def r13_8 : List O := [⟨some 30,.fadr 53 (.t 1),none,0,[30,1]⟩,
  ⟨some 31,.load1 (.t 30),none,1,[31,30]⟩,
  ⟨some 32,.fadr 53 (.t 4),none,3,[32,4]⟩,
  ⟨none,.store 1 (.t 32) (.t 31),none,7,[32,31]⟩]
def r13_9 : List O := [⟨some 33,.fadr 53 (.t 1),none,0,[33,1]⟩,
  ⟨some 34,.load1 (.t 33),none,1,[34,33]⟩,
  ⟨some 35,.bslice 3 1 [.int .i64 0] [(0,1,(.t 34))],none,3,[35,34]⟩,
  ⟨some 36,.call (.k (.func 31 [] [])) [(.t 35)],none,7,[36,35]⟩,
  ⟨some 37,.bin .add (some .str) true (.k (.str [108,101,97,118,101])) (.t 36),none,15,[37,36]⟩,
  ⟨some 5,.mv (.t 37),none,31,[5,37]⟩]
def r13_10 : List O := [⟨some 39,.bin .eql (some .int) true (.t 10) (.k (.int .i64 8)),none,0,[39,10]⟩,
  ⟨some 38,.mv (.t 39),none,1,[38,39]⟩]
def r13_11 : List O := [⟨some 40,.fadr 53 (.t 1),none,0,[40,1]⟩,
  ⟨some 41,.load1 (.t 40),none,1,[41,40]⟩,
  ⟨some 42,.fadr 55 (.t 1),none,0,[42,1]⟩,
  ⟨some 43,.load1 (.t 42),none,4,[43,42]⟩,
  ⟨some 44,.fadr 53 (.t 4),none,3,[44,4]⟩,
  ⟨none,.store 1 (.t 44) (.t 41),none,19,[44,41]⟩,
  ⟨some 45,.fadr 55 (.t 4),none,63,[45,4]⟩,
  ⟨none,.store 1 (.t 45) (.t 43),none,127,[45,43]⟩]
theorem k13_11 (lo : Nat) (hx : XDK P E ro L K Q lo h [true, true, true, true, true, true, true, true] r13_11 ρ h) : XD P E ro L r13_11 K ρ h Q := XD_keeps rfl rfl hx
def r13_12 : List O := [⟨some 46,.fadr 53 (.t 1),none,0,[46,1]⟩,
  ⟨some 47,.load1 (.t 46),none,1,[47,46]⟩,
  ⟨some 48,.bslice 3 1 [.int .i64 0] [(0,1,(.t 47))],none,3,[48,47]⟩,
  ⟨some 49,.call (.k (.func 31 [] [])) [(.t 48)],none,7,[49,48]⟩,
  ⟨some 50,.bin .add (some .str) true (.k (.str [115,101,97,108,101,100])) (.t 49),none,15,[50,49]⟩,
  ⟨some 51,.bin .add (some .str) true (.t 50) (.k (.str [32])),none,31,[51,50]⟩,
  ⟨some 52,.fadr 55 (.t 1),none,0,[52,1]⟩,
  ⟨some 53,.load1 (.t 52),none,64,[53,52]⟩,
  ⟨some 54,.call (.k (.func 30 [] [])) [(.t 53)],none,207,[54,53]⟩,
  ⟨some 55,.bin .add (some .str) false (.t 51) (.t 54),none,511,[55,51,54]⟩,
  ⟨some 5,.mv (.t 55),none,1023,[5,55]⟩]
theorem d13_12 (hx : XDQ P E ro L K Q h [true, true, true, true, true, true, false, false, true, true, true] r13_12 ρ h) : XD P E ro L r13_12 K ρ h Q := XD_quiet rfl rfl hx
def r13_13 : List O := [⟨some 2,.mv (.k (.str [])),none,0,[2]⟩,
  ⟨some 3,.mv (.k (.int .i64 1)),none,1,[3]⟩]
def r13_14 : List O := [⟨some 56,.loadN 56 (.t 4),none,0,[56,4]⟩,
  ⟨some 57,.loadN 56 (.t 1),none,0,[57,1]⟩,
  ⟨some 58,.call (.k (.func 35 [] [])) [(.t 56),(.t 57)],none,3,[58,56,57]⟩,
  ⟨some 59,.un .not (.t 58),none,7,[59,58]⟩]
def r13_15 : List O := [⟨some 2,.mv (.k (.str [])),none,0,[2]⟩,
  ⟨some 3,.mv (.k (.int .i64 1)),none,1,[3]⟩]
def r13_16 : List O := [⟨some 60,.mv (.t 5),none,0,[60,5]⟩,
  ⟨some 2,.mv (.t 60),none,1,[2,60]⟩,
  ⟨some 3,.mv (.k (.int .i64 0)),none,3,[3]⟩]
def c13 : C := .seq (.region r13_0) (.seq (.region r13_1) (.seq (.region [⟨some 5,.mv (.k (.str [])),none,0,[5]⟩]) (.seq (.seq (.region r13_2) (.block 0 (.seq (.region r13_3) (.cond (.t 11) (.region [⟨some 5,.mv (.k (.str [110,111,110,101])),none,0,[5]⟩]) (.seq (.region r13_4) (.cond (.t 13) (.seq (.draw r13_5) (.region r13_6)) (.seq (.region r13_7) (.cond (.t 28) (.seq (.region r13_8) (.region r13_9)) (.seq (.region r13_10) (.cond (.t 38) (.seq (.draw r13_11) (.draw r13_12)) (.seq (.region r13_13) (.ret)))))))))))) (.seq (.seq (.region r13_14) (.cond (.t 59) (.seq (.region r13_15) (.ret)) (.skip))) (.seq (.region r13_16) (.ret))))))
def fn13 : Fn := ⟨61, [.t 2, .t 3], c13⟩
/-! 16: orchard/script.Quote -/
def r16_0 : List O := [⟨some 7,.mv (.t 0),none,0,[7,0]⟩,
  ⟨some 8,.s2b 5 (.t 7),none,1,[8,7]⟩,
  ⟨some 9,.lenL (.t 8),none,3,[9,8]⟩,
  ⟨some 10,.mv (.k (.int .i64 0)),none,0,[10]⟩]
def r16_1 : List O := [⟨some 12,.iadrL 1 (.t 8) (.t 10),none,0,[12,8,10]⟩,
  ⟨some 13,.load1 (.t 12),none,1,[13,12]⟩,
  ⟨some 5,.mv (.t 13),none,3,[5,13]⟩]
def r16_2 : List O := [⟨some 17,.mv (.t 5),none,0,[17,5]⟩,
  ⟨some 18,.bin .eql (some .int) true (.t 17) (.k (.int .u8 34)),none,1,[18,17]⟩,
  ⟨some 19,.mv (.t 18),none,3,[19,18]⟩,
  ⟨some 20,.mv (.t 5),some (19,false),7,[20,19,5]⟩,
  ⟨some 21,.bin .eql (some .int) true (.t 20) (.k (.int .u8 92)),some (19,false),15,[21,19,20]⟩,
  ⟨some 22,.pick (.t 19) (.k (.bool true)) (.t 21),none,31,[22,19,21]⟩,
  ⟨some 16,.mv (.t 22),none,63,[16,22]⟩]
def r16_3 : List O := [⟨some 24,.mv (.t 5),none,0,[24,5]⟩,
  ⟨some 25,.call (.k (.func 38 [] [])) [(.t 3),(.t 24)],none,1,[25,3,24]⟩]
def r16_4 : List O := [⟨some 27,.mv (.t 5),none,0,[27,5]⟩,
  ⟨some 28,.bin .lss (some .int) true (.t 27) (.k (.int .u8 32)),none,1,[28,27]⟩,
  ⟨some 29,.mv (.t 28),none,3,[29,28]⟩,
  ⟨some 30,.mv (.t 5),some (29,false),7,[30,29,5]⟩,
  ⟨some 31,.bin .gtr (some .int) true (.t 30) (.k (.int .u8 126)),some (29,false),15,[31,29,30]⟩,
  ⟨some 32,.pick (.t 29) (.k (.bool true)) (.t 31),none,31,[32,29,31]⟩,
  ⟨some 26,.mv (.t 32),none,63,[26,32]⟩]
def r16_5 : List O := [⟨some 34,.mv (.t 5),none,0,[34,5]⟩,
  ⟨some 35,.bin .shr (some .int) true (.t 34) (.k (.int .u64 4)),none,1,[35,34]⟩,
  ⟨some 36,.idxS (.k (.str [48,49,50,51,52,53,54,55,56,57,97,98,99,100,101,102])) (.t 35),none,3,[36,35]⟩,
  ⟨some 37,.call (.k (.func 38 [] [])) [(.t 3),(.t 36)],none,7,[37,3,36]⟩]
def r16_6 : List O := [⟨some 38,.mv (.t 5),none,0,[38,5]⟩,
  ⟨some 39,.bin .and (some .int) true (.t 38) (.k (.int .u8 15)),none,1,[39,38]⟩,
  ⟨some 40,.idxS (.k (.str [48,49,50,51,52,53,54,55,56,57,97,98,99,100,101,102])) (.t 39),none,3,[40,39]⟩,
  ⟨some 41,.call (.k (.func 38 [] [])) [(.t 3),(.t 40)],none,7,[41,3,40]⟩]
def r16_7 : List O := [⟨some 14,.mv (.t 5),none,0,[14,5]⟩,
  ⟨some 15,.call (.k (.func 38 [] [])) [(.t 3),(.t 14)],none,1,[15,3,14]⟩]
def r16_8 : List O := [⟨some 42,.bin .add (some .int) true (.t 10) (.k (.int .i64 1)),none,0,[42,10]⟩,
  ⟨some 10,.mv (.t 42),none,1,[10,42]⟩]
def b16_9 : C := .seq (.region [⟨some 11,.bin .lss (some .int) false (.t 10) (.t 9),none,0,[11,10,9]⟩]) (.seq (.cond (.t 11) (.skip) (.exit 0)) (.seq (.block 1 (.seq (.region r16_1) (.block 2 (.seq (.region r16_2) (.cond (.t 16) (.seq (.region [⟨some 23,.call (.k (.func 38 [] [])) [(.t 3),(.k (.int .u8 92))],none,0,[23,3]⟩]) (.region r16_3)) (.seq (.region r16_4) (.cond (.t 26) (.seq (.region [⟨some 33,.call (.k (.func 20 [] [])) [(.t 3),(.k (.str [92,120]))],none,0,[33,3]⟩]) (.seq (.region r16_5) (.region r16_6))) (.region r16_7)))))))) (.region r16_8)))
theorem u16_9 : XL P E ro L b16_9 K ρ h Q = X P E ro L (.c (.seq (.region [⟨some 11, .bin .lss (some .int) false (.t 10) (.t 9), none, 0, [11, 10, 9]⟩]) (.seq (.cond (.t 11) (.skip) (.exit 0)) (.seq (.block 1 (.seq (.region r16_1) (.block 2 (.seq (.region r16_2) (.cond (.t 16) (.seq (.region [⟨some 23, .call (.k (.func 38 [] [])) [(.t 3), (.k (.int .u8 92))], none, 0, [23, 3]⟩]) (.region r16_3)) (.seq (.region r16_4) (.cond (.t 26) (.seq (.region [⟨some 33, .call (.k (.func 20 [] [])) [(.t 3), (.k (.str [92, 120]))], none, 0, [33, 3]⟩]) (.seq (.region r16_5) (.region r16_6))) (.region r16_7)))))))) (.region r16_8)))) :: .l b16_9 :: K) ρ h Q := XL_unroll b16_9
def r16_10 : List O := [⟨some 44,.call (.k (.func 22 [] [])) [(.t 3)],none,0,[44,3]⟩,
  ⟨some 2,.mv (.t 44),none,1,[2,44]⟩]
def c16 : C := .seq (.region [⟨some 2,.mv (.k (.str [])),none,0,[2]⟩]) (.seq (.region [⟨some 3,.alloc 64 [(.ptr none),(.slice none 0 0 false)],none,0,[3]⟩]) (.seq (.region [⟨some 6,.call (.k (.func 38 [] [])) [(.t 3),(.k (.int .u8 34))],none,0,[6,3]⟩]) (.seq (.seq (.region r16_0) (.block 0 (.loop b16_9))) (.seq (.region [⟨some 43,.call (.k (.func 38 [] [])) [(.t 3),(.k (.int .u8 34))],none,0,[43,3]⟩]) (.seq (.region r16_10) (.ret))))))
def fn16 : Fn := ⟨45, [.t 2], c16⟩
/-! 17: orchard/orchardref27.Quote -/
def r17_0 : List O := [⟨some 6,.mv (.t 4),none,0,[6,4]⟩,
  ⟨some 7,.mv (.t 0),none,0,[7,0]⟩,
  ⟨some 8,.lenS (.t 7),none,2,[8,7]⟩,
  ⟨some 9,.bin .lss (some .int) false (.t 6) (.t 8),none,7,[9,6,8]⟩]
def r17_1 : List O := [⟨some 12,.mv (.t 0),none,0,[12,0]⟩,
  ⟨some 13,.mv (.t 4),none,0,[13,4]⟩,
  ⟨some 14,.idxS (.t 12) (.t 13),none,3,[14,12,13]⟩,
  ⟨some 5,.mv (.t 14),none,7,[5,14]⟩]
def r17_2 : List O := [⟨some 30,.mv (.t 5),none,0,[30,5]⟩,
  ⟨some 31,.bin .eql (some .int) true (.t 30) (.k (.int .u8 34)),none,1,[31,30]⟩,
  ⟨some 32,.mv (.t 31),none,3,[32,31]⟩,
  ⟨some 33,.mv (.t 5),some (32,false),7,[33,32,5]⟩,
  ⟨some 34,.bin .eql (some .int) true (.t 33) (.k (.int .u8 92)),some (32,false),15,[34,32,33]⟩,
  ⟨some 35,.pick (.t 32) (.k (.bool true)) (.t 34),none,31,[35,32,34]⟩,
  ⟨some 29,.mv (.t 35),none,63,[29,35]⟩]
def r17_3 : List O := [⟨some 36,.mv (.t 3),none,0,[36,3]⟩,
  ⟨some 37,.mv (.t 5),none,0,[37,5]⟩,
  ⟨some 38,.cvt .i32 (.t 37),none,2,[38,37]⟩,
  ⟨some 39,.i2s (.t 38),none,6,[39,38]⟩,
  ⟨some 40,.bin .add (some .str) true (.k (.str [92])) (.t 39),none,14,[40,39]⟩,
  ⟨some 41,.bin .add (some .str) false (.t 36) (.t 40),none,31,[41,36,40]⟩,
  ⟨some 3,.mv (.t 41),none,63,[3,41]⟩]
def r17_4 : List O := [⟨some 43,.mv (.t 5),none,0,[43,5]⟩,
  ⟨some 44,.bin .geq (some .int) true (.t 43) (.k (.int .u8 32)),none,1,[44,43]⟩,
  ⟨some 45,.mv (.t 44),none,3,[45,44]⟩,
  ⟨some 46,.mv (.t 5),some (45,true),7,[46,45,5]⟩,
  ⟨some 47,.bin .leq (some .int) true (.t 46) (.k (.int .u8 126)),some (45,true),15,[47,45,46]⟩,
  ⟨some 48,.pick (.t 45) (.t 47) (.k (.bool false)),none,31,[48,45,47]⟩,
  ⟨some 42,.mv (.t 48),none,63,[42,48]⟩]
def r17_5 : List O := [⟨some 49,.mv (.t 3),none,0,[49,3]⟩,
  ⟨some 50,.mv (.t 5),none,0,[50,5]⟩,
  ⟨some 51,.cvt .i32 (.t 50),none,2,[51,50]⟩,
  ⟨some 52,.i2s (.t 51),none,6,[52,51]⟩,
  ⟨some 53,.bin .add (some .str) false (.t 49) (.t 52),none,15,[53,49,52]⟩,
  ⟨some 3,.mv (.t 53),none,31,[3,53]⟩]
def r17_6 : List O := [⟨some 15,.mv (.t 3),none,0,[15,3]⟩,
  ⟨some 16,.mv (.t 5),none,0,[16,5]⟩,
  ⟨some 17,.bin .quo (some .int) true (.t 16) (.k (.int .u8 16)),none,2,[17,16]⟩,
  ⟨some 18,.idxS (.k (.str [48,49,50,51,52,53,54,55,56,57,97,98,99,100,101,102])) (.t 17),none,6,[18,17]⟩,
  ⟨some 19,.cvt .i32 (.t 18),none,14,[19,18]⟩,
  ⟨some 20,.i2s (.t 19),none,30,[20,19]⟩,
  ⟨some 21,.bin .add (some .str) true (.k (.str [92,120])) (.t 20),none,62,[21,20]⟩,
  ⟨some 22,.mv (.t 5),none,0,[22,5]⟩,
  ⟨some 23,.bin .rem (some .int) true (.t 22) (.k (.int .u8 16)),none,128,[23,22]⟩,
  ⟨some 24,.idxS (.k (.str [48,49,50,51,52,53,54,55,56,57,97,98,99,100,101,102])) (.t 23),none,384,[24,23]⟩,
  ⟨some 25,.cvt .i32 (.t 24),none,896,[25,24]⟩,
  ⟨some 26,.i2s (.t 25),none,1920,[26,25]⟩,
  ⟨some 27,.bin .add (some .str) false (.t 21) (.t 26),none,4094,[27,21,26]⟩,
  ⟨some 28,.bin .add (some .str) false (.t 15) (.t 27),none,8191,[28,15,27]⟩,
  ⟨some 3,.mv (.t 28),none,16383,[3,28]⟩]
theorem d17_6 : XD P E ro L r17_6 K ρ h Q = XO P E ro L r17_6 K ρ h Q := XD_still rfl
def r17_7 : List O := [⟨some 10,.mv (.t 4),none,0,[10,4]⟩,
  ⟨some 11,.bin .add (some .int) true (.t 10) (.k (.int .i64 1)),none,1,[11,10]⟩,
  ⟨some 4,.mv (.t 11),none,3,[4,11]⟩]
def b17_8 : C := .seq (.seq (.region r17_0) (.cond (.t 9) (.skip) (.exit 0))) (.seq (.block 1 (.seq (.region r17_1) (.block 2 (.seq (.region r17_2) (.cond (.t 29) (.region r17_3) (.seq (.region r17_4) (.cond (.t 42) (.region r17_5) (.draw r17_6)))))))) (.region r17_7))
theorem u17_8 : XL P E ro L b17_8 K ρ h Q = X P E ro L (.c (.seq (.seq (.region r17_0) (.cond (.t 9) (.skip) (.exit 0))) (.seq (.block 1 (.seq (.region r17_1) (.block 2 (.seq (.region r17_2) (.cond (.t 29) (.region r17_3) (.seq (.region r17_4) (.cond (.t 42) (.region r17_5) (.draw r17_6)))))))) (.region r17_7))) :: .l b17_8 :: K) ρ h Q := XL_unroll b17_8
def r17_9 : List O := [⟨some 54,.mv (.t 3),none,0,[54,3]⟩,
  ⟨some 55,.bin .add (some .str) true (.t 54) (.k (.str [34])),none,1,[55,54]⟩,
  ⟨some 2,.mv (.t 55),none,3,[2,55]⟩]
def c17 : C := .seq (.region [⟨some 2,.mv (.k (.str [])),none,0,[2]⟩]) (.seq (.region [⟨some 3,.mv (.k (.str [34])),none,0,[3]⟩]) (.seq (.seq (.region [⟨some 4,.mv (.k (.int .i64 0)),none,0,[4]⟩]) (.block 0 (.loop b17_8))) (.seq (.region r17_9) (.ret))))
def fn17 : Fn := ⟨56, [.t 2], c17⟩
/-! 18: orchard/script.Vector -/
def r18_0 : List O := [⟨some 1,.box 43 (.t 0),none,0,[1,0]⟩,
  ⟨some 2,.mv (.k (.str [])),none,0,[2]⟩]
def r18_1 : List O := [⟨some 6,.loadN 8 (.t 1),none,0,[6,1]⟩,
  ⟨some 7,.mv (.k (.int .i64 0)),none,0,[7]⟩]
def r18_2 : List O := [⟨some 9,.idxA 8 1 false (.t 6) (.t 7),none,0,[9,6,7]⟩,
  ⟨some 5,.mv (.t 9),none,1,[5,9]⟩]
def r18_3 : List O := [⟨some 10,.mv (.t 3),none,0,[10,3]⟩,
  ⟨some 11,.mv (.t 5),none,0,[11,5]⟩,
  ⟨some 12,.call (.k (.func 27 [] [])) [(.t 11)],none,2,[12,11]⟩,
  ⟨some 13,.bslice 9 1 [.str []] [(0,1,(.t 12))],none,6,[13,12]⟩,
  ⟨some 14,.app 9 1 16 (.t 10) (.t 13),none,15,[14,10,13]⟩,
  ⟨some 3,.mv (.t 14),none,31,[3,14]⟩]
def r18_4 : List O := [⟨some 15,.bin .add (some .int) true (.t 7) (.k (.int .i64 1)),none,0,[15,7]⟩,
  ⟨some 7,.mv (.t 15),none,1,[7,15]⟩]
def b18_5 : C := .seq (.region [⟨some 8,.bin .lss (some .int) true (.t 7) (.k (.int .i64 8)),none,0,[8,7]⟩]) (.seq (.cond (.t 8) (.skip) (.exit 0)) (.seq (.block 1 (.seq (.region r18_2) (.region r18_3))) (.region r18_4)))
theorem u18_5 : XL P E ro L b18_5 K ρ h Q = X P E ro L (.c (.seq (.region [⟨some 8, .bin .lss (some .int) true (.t 7) (.k (.int .i64 8)), none, 0, [8, 7]⟩]) (.seq (.cond (.t 8) (.skip) (.exit 0)) (.seq (.block 1 (.seq (.region r18_2) (.region r18_3))) (.region r18_4)))) :: .l b18_5 :: K) ρ h Q := XL_unroll b18_5
def r18_6 : List O := [⟨some 16,.mv (.t 3),none,0,[16,3]⟩,
  ⟨some 17,.call (.k (.func 39 [] [])) [(.t 16),(.k (.str [32]))],none,1,[17,16]⟩,
  ⟨some 2,.mv (.t 17),none,3,[2,17]⟩]
def c18 : C := .seq (.region r18_0) (.seq (.region [⟨some 3,.mv (.k (.slice none 0 0 false)),none,0,[3]⟩]) (.seq (.seq (.region r18_1) (.block 0 (.loop b18_5))) (.seq (.region r18_6) (.ret))))
def fn18 : Fn := ⟨18, [.t 2], c18⟩
/-! 19: orchard/orchardref27.Vector -/
def r19_0 : List O := [⟨some 1,.box 43 (.t 0),none,0,[1,0]⟩,
  ⟨some 2,.mv (.k (.str [])),none,0,[2]⟩]
def r19_1 : List O := [⟨some 5,.iadrA 8 1 (.t 1) (.k (.int .i64 0)),none,0,[5,1]⟩,
  ⟨some 6,.load1 (.t 5),none,1,[6,5]⟩,
  ⟨some 7,.call (.k (.func 30 [] [])) [(.t 6)],none,3,[7,6]⟩,
  ⟨some 3,.mv (.t 7),none,7,[3,7]⟩]
def r19_2 : List O := [⟨some 8,.mv (.t 4),none,0,[8,4]⟩,
  ⟨some 9,.bin .lss (some .int) true (.t 8) (.k (.int .i64 8)),none,1,[9,8]⟩]
def r19_3 : List O := [⟨some 12,.mv (.t 3),none,0,[12,3]⟩,
  ⟨some 13,.mv (.t 4),none,0,[13,4]⟩,
  ⟨some 14,.iadrA 8 1 (.t 1) (.t 13),none,2,[14,1,13]⟩,
  ⟨some 15,.load1 (.t 14),none,6,[15,14]⟩,
  ⟨some 16,.call (.k (.func 30 [] [])) [(.t 15)],none,14,[16,15]⟩,
  ⟨some 17,.bin .add (some .str) true (.k (.str [32])) (.t 16),none,30,[17,16]⟩,
  ⟨some 18,.bin .add (some .str) false (.t 12) (.t 17),none,63,[18,12,17]⟩,
  ⟨some 3,.mv (.t 18),none,127,[3,18]⟩]
def r19_4 : List O := [⟨some 10,.mv (.t 4),none,0,[10,4]⟩,
  ⟨some 11,.bin .add (some .int) true (.t 10) (.k (.int .i64 1)),none,1,[11,10]⟩,
  ⟨some 4,.mv (.t 11),none,3,[4,11]⟩]
def b19_5 : C := .seq (.seq (.region r19_2) (.cond (.t 9) (.skip) (.exit 0))) (.seq (.block 1 (.region r19_3)) (.region r19_4))
theorem u19_5 : XL P E ro L b19_5 K ρ h Q = X P E ro L (.c (.seq (.seq (.region r19_2) (.cond (.t 9) (.skip) (.exit 0))) (.seq (.block 1 (.region r19_3)) (.region r19_4))) :: .l b19_5 :: K) ρ h Q := XL_unroll b19_5
def r19_6 : List O := [⟨some 19,.mv (.t 3),none,0,[19,3]⟩,
  ⟨some 2,.mv (.t 19),none,1,[2,19]⟩]
def c19 : C := .seq (.region r19_0) (.seq (.region r19_1) (.seq (.seq (.region [⟨some 4,.mv (.k (.int .i64 1)),none,0,[4]⟩]) (.block 0 (.loop b19_5))) (.seq (.region r19_6) (.ret))))
def fn19 : Fn := ⟨20, [.t 2], c19⟩
/-! 20: (*strings.Builder).WriteString -/
def r20_0 : List O := [⟨some 4,.mv (.k (.int .i64 0)),none,0,[4]⟩,
  ⟨some 5,.mv (.k .nilIface),none,1,[5]⟩]
def r20_1 : List O := [⟨some 6,.mv (.t 0),none,0,[6,0]⟩,
  ⟨some 7,.call (.k (.func 40 [] [])) [(.t 6)],none,1,[7,6]⟩]
def r20_2 : List O := [⟨some 8,.mv (.t 0),none,0,[8,0]⟩,
  ⟨some 9,.mv (.t 0),none,0,[9,0]⟩,
  ⟨some 10,.nilck (.t 9),none,2,[10,9]⟩,
  ⟨some 11,.fadr 1 (.t 10),none,6,[11,10]⟩,
  ⟨some 12,.load1 (.t 11),none,14,[12,11]⟩,
  ⟨some 13,.mv (.t 1),none,0,[13,1]⟩,
  ⟨some 14,.app 5 1 1 (.t 12) (.t 13),none,62,[14,12,13]⟩,
  ⟨some 15,.nilck (.t 8),none,127,[15,8]⟩,
  ⟨some 16,.fadr 1 (.t 15),none,255,[16,15]⟩,
  ⟨none,.store 1 (.t 16) (.t 14),none,511,[16,14]⟩]
def r20_3 : List O := [⟨some 17,.mv (.t 1),none,0,[17,1]⟩,
  ⟨some 18,.lenS (.t 17),none,1,[18,17]⟩,
  ⟨some 4,.mv (.t 18),none,3,[4,18]⟩,
  ⟨some 5,.mv (.k .nilIface),none,7,[5]⟩]
def c20 : C := .seq (.region r20_0) (.seq (.region r20_1) (.seq (.region r20_2) (.seq (.region r20_3) (.ret))))
def fn20 : Fn := ⟨19, [.t 4, .t 5], c20⟩
/-! 21: orchard/script.head -/
def r21_0 : List O := [⟨some 1,.box 24 (.t 0),none,0,[1,0]⟩,
  ⟨some 2,.mv (.k (.str [])),none,0,[2]⟩]
def r21_1 : List O := [⟨some 3,.fadr 0 (.t 1),none,0,[3,1]⟩,
  ⟨some 4,.load1 (.t 3),none,1,[4,3]⟩,
  ⟨some 5,.fadr 1 (.t 1),none,0,[5,1]⟩,
  ⟨some 6,.load1 (.t 5),none,4,[6,5]⟩,
  ⟨some 7,.fadr 2 (.t 1),none,0,[7,1]⟩,
  ⟨some 8,.load1 (.t 7),none,16,[8,7]⟩,
  ⟨some 9,.bslice 3 3 [.int .i64 0,.int .i64 0,.int .i64 0] [(0,1,(.t 4)),(1,1,(.t 6)),(2,1,(.t 8))],none,63,[9,4,6,8]⟩,
  ⟨some 10,.fadr 3 (.t 1),none,0,[10,1]⟩,
  ⟨some 11,.load1 (.t 10),none,128,[11,10]⟩,
  ⟨some 12,.app 3 1 8 (.t 9) (.t 11),none,511,[12,9,11]⟩,
  ⟨some 13,.call (.k (.func 24 [] [])) [(.t 12)],none,1023,[13,12]⟩,
  ⟨some 14,.bin .add (some .str) true (.k (.str [119,111,114,108,100,32])) (.t 13),none,2047,[14,13]⟩,
  ⟨some 2,.mv (.t 14),none,4095,[2,14]⟩]
def c21 : C := .seq (.region r21_0) (.seq (.region r21_1) (.ret))
def fn21 : Fn := ⟨15, [.t 2], c21⟩
/-! 22: (*strings.Builder).String -/
def r22_0 : List O := [⟨some 3,.mv (.t 0),none,0,[3,0]⟩,
  ⟨some 4,.nilck (.t 3),none,1,[4,3]⟩,
  ⟨some 5,.fadr 1 (.t 4),none,3,[5,4]⟩,
  ⟨some 6,.load1 (.t 5),none,7,[6,5]⟩,
  ⟨some 7,.usd (.t 6),none,15,[7,6]⟩,
  ⟨some 8,.mv (.t 0),none,0,[8,0]⟩,
  ⟨some 9,.nilck (.t 8),none,32,[9,8]⟩,
  ⟨some 10,.fadr 1 (.t 9),none,96,[10,9]⟩,
  ⟨some 11,.load1 (.t 10),none,224,[11,10]⟩,
  ⟨some 12,.lenL (.t 11),none,480,[12,11]⟩,
  ⟨some 13,.ustr 5 (.t 7) (.t 12),none,1023,[13,7,12]⟩,
  ⟨some 2,.mv (.t 13),none,2047,[2,13]⟩]
theorem d22_0 (hx : XDO P E ro L r22_0 K ρ h Q) : XD P E ro L r22_0 K ρ h Q := XD_ord rfl hx
def c22 : C := .seq (.region [⟨some 2,.mv (.k (.str [])),none,0,[2]⟩]) (.seq (.draw r22_0) (.ret))
def fn22 : Fn := ⟨14, [.t 2], c22⟩
/-! 23: orchard/orchardref27.head -/
def r23_0 : List O := [⟨some 1,.box 24 (.t 0),none,0,[1,0]⟩,
  ⟨some 2,.mv (.k (.str [])),none,0,[2]⟩]
def r23_1 : List O := [⟨some 3,.fadr 0 (.t 1),none,0,[3,1]⟩,
  ⟨some 4,.load1 (.t 3),none,1,[4,3]⟩,
  ⟨some 5,.fadr 1 (.t 1),none,0,[5,1]⟩,
  ⟨some 6,.load1 (.t 5),none,4,[6,5]⟩,
  ⟨some 7,.fadr 2 (.t 1),none,0,[7,1]⟩,
  ⟨some 8,.load1 (.t 7),none,16,[8,7]⟩,
  ⟨some 9,.bslice 3 3 [.int .i64 0,.int .i64 0,.int .i64 0] [(0,1,(.t 4)),(1,1,(.t 6)),(2,1,(.t 8))],none,63,[9,4,6,8]⟩,
  ⟨some 10,.call (.k (.func 31 [] [])) [(.t 9)],none,127,[10,9]⟩,
  ⟨some 11,.bin .add (some .str) true (.k (.str [119,111,114,108,100])) (.t 10),none,255,[11,10]⟩,
  ⟨some 12,.fadr 3 (.t 1),none,0,[12,1]⟩,
  ⟨some 13,.load1 (.t 12),none,512,[13,12]⟩,
  ⟨some 14,.call (.k (.func 31 [] [])) [(.t 13)],none,1791,[14,13]⟩,
  ⟨some 15,.bin .add (some .str) false (.t 11) (.t 14),none,4095,[15,11,14]⟩,
  ⟨some 16,.bin .add (some .str) true (.t 15) (.k (.str [10])),none,8191,[16,15]⟩,
  ⟨some 2,.mv (.t 16),none,16383,[2,16]⟩]
theorem d23_1 (hx : XDQ P E ro L K Q h [true, true, true, true, true, true, true, true, true, false, false, true, true, true, true] r23_1 ρ h) : XD P E ro L r23_1 K ρ h Q := XD_quiet rfl rfl hx
def c23 : C := .seq (.region r23_0) (.seq (.draw r23_1) (.ret))
def fn23 : Fn := ⟨17, [.t 2], c23⟩
/-! 24: orchard/script.nums -/
def r24_0 : List O := [⟨some 6,.mv (.t 0),none,0,[6,0]⟩,
  ⟨some 7,.lenL (.t 6),none,1,[7,6]⟩,
  ⟨some 8,.mv (.k (.int .i64 0)),none,0,[8]⟩]
def r24_1 : List O := [⟨some 10,.iadrL 1 (.t 6) (.t 8),none,0,[10,6,8]⟩,
  ⟨some 11,.load1 (.t 10),none,1,[11,10]⟩,
  ⟨some 5,.mv (.t 11),none,3,[5,11]⟩]
def r24_2 : List O := [⟨some 12,.mv (.t 3),none,0,[12,3]⟩,
  ⟨some 13,.mv (.t 5),none,0,[13,5]⟩,
  ⟨some 14,.call (.k (.func 41 [] [])) [(.t 13)],none,2,[14,13]⟩,
  ⟨some 15,.bslice 9 1 [.str []] [(0,1,(.t 14))],none,6,[15,14]⟩,
  ⟨some 16,.app 9 1 16 (.t 12) (.t 15),none,15,[16,12,15]⟩,
  ⟨some 3,.mv (.t 16),none,31,[3,16]⟩]
def r24_3 : List O := [⟨some 17,.bin .add (some .int) true (.t 8) (.k (.int .i64 1)),none,0,[17,8]⟩,
  ⟨some 8,.mv (.t 17),none,1,[8,17]⟩]
def b24_4 : C := .seq (.region [⟨some 9,.bin .lss (some .int) false (.t 8) (.t 7),none,0,[9,8,7]⟩]) (.seq (.cond (.t 9) (.skip) (.exit 0)) (.seq (.block 1 (.seq (.region r24_1) (.region r24_2))) (.region r24_3)))
theorem u24_4 : XL P E ro L b24_4 K ρ h Q = X P E ro L (.c (.seq (.region [⟨some 9, .bin .lss (some .int) false (.t 8) (.t 7), none, 0, [9, 8, 7]⟩]) (.seq (.cond (.t 9) (.skip) (.exit 0)) (.seq (.block 1 (.seq (.region r24_1) (.region r24_2))) (.region r24_3)))) :: .l b24_4 :: K) ρ h Q := XL_unroll b24_4
def r24_5 : List O := [⟨some 18,.mv (.t 3),none,0,[18,3]⟩,
  ⟨some 19,.call (.k (.func 39 [] [])) [(.t 18),(.k (.str [32]))],none,1,[19,18]⟩,
  ⟨some 2,.mv (.t 19),none,3,[2,19]⟩]
def c24 : C := .seq (.region [⟨some 2,.mv (.k (.str [])),none,0,[2]⟩]) (.seq (.region [⟨some 3,.mv (.k (.slice none 0 0 false)),none,0,[3]⟩]) (.seq (.seq (.region r24_0) (.block 0 (.loop b24_4))) (.seq (.region r24_5) (.ret))))
def fn24 : Fn := ⟨20, [.t 2], c24⟩
/-! 25: orchard/script.opText -/
def r25_0 : List O := [⟨some 1,.box 37 (.t 0),none,0,[1,0]⟩,
  ⟨some 2,.mv (.k (.str [])),none,0,[2]⟩,
  ⟨some 3,.mv (.k (.bool false)),none,2,[3]⟩]
def r25_1 : List O := [⟨some 6,.fadr 2 (.t 1),none,0,[6,1]⟩,
  ⟨some 7,.load1 (.t 6),none,1,[7,6]⟩,
  ⟨some 8,.build [.int .i64 0,.int .i64 0,.int .i64 0,.int .i64 0,.int .i64 0,.str [],.str [],.str []] [(2,1,(.t 7))],none,3,[8,7]⟩,
  ⟨some 4,.alloc 37 [.int .i64 0,.int .i64 0,.int .i64 0,.int .i64 0,.int .i64 0,.str [],.str [],.str []],none,0,[4]⟩,
  ⟨none,.store 8 (.t 4) (.t 8),none,15,[4,8]⟩]
def r25_2 : List O := [⟨some 9,.fadr 2 (.t 1),none,0,[9,1]⟩,
  ⟨some 10,.load1 (.t 9),none,1,[10,9]⟩]
def r25_3 : List O := [⟨some 12,.bin .eql (some .int) true (.t 10) (.k (.int .i64 1)),none,0,[12,10]⟩,
  ⟨some 11,.mv (.t 12),none,1,[11,12]⟩]
def r25_4 : List O := [⟨some 13,.fadr 4 (.t 1),none,0,[13,1]⟩,
  ⟨some 14,.load1 (.t 13),none,1,[14,13]⟩,
  ⟨some 15,.fadr 5 (.t 1),none,0,[15,1]⟩,
  ⟨some 16,.load1 (.t 15),none,4,[16,15]⟩,
  ⟨some 17,.fadr 4 (.t 4),none,3,[17,4]⟩,
  ⟨none,.store 1 (.t 17) (.t 14),none,19,[17,14]⟩,
  ⟨some 18,.fadr 5 (.t 4),none,63,[18,4]⟩,
  ⟨none,.store 1 (.t 18) (.t 16),none,127,[18,16]⟩]
theorem k25_4 (lo : Nat) (hx : XDK P E ro L K Q lo h [true, true, true, true, true, true, true, true] r25_4 ρ h) : XD P E ro L r25_4 K ρ h Q := XD_keeps rfl rfl hx
def r25_5 : List O := [⟨some 19,.fadr 4 (.t 1),none,0,[19,1]⟩,
  ⟨some 20,.load1 (.t 19),none,1,[20,19]⟩,
  ⟨some 21,.call (.k (.func 27 [] [])) [(.t 20)],none,3,[21,20]⟩,
  ⟨some 22,.bin .add (some .str) true (.k (.str [109,97,107,101,32])) (.t 21),none,7,[22,21]⟩,
  ⟨some 23,.bin .add (some .str) true (.t 22) (.k (.str [32])),none,15,[23,22]⟩,
  ⟨some 24,.fadr 5 (.t 1),none,0,[24,1]⟩,
  ⟨some 25,.load1 (.t 24),none,32,[25,24]⟩,
  ⟨some 26,.call (.k (.func 16 [] [])) [(.t 25)],none,103,[26,25]⟩,
  ⟨some 27,.bin .add (some .str) false (.t 23) (.t 26),none,255,[27,23,26]⟩,
  ⟨some 5,.mv (.t 27),none,511,[5,27]⟩]
theorem d25_5 (hx : XDQ P E ro L K Q h [true, true, true, true, true, false, false, true, true, true] r25_5 ρ h) : XD P E ro L r25_5 K ρ h Q := XD_quiet rfl rfl hx
def r25_6 : List O := [⟨some 29,.bin .eql (some .int) true (.t 10) (.k (.int .i64 2)),none,0,[29,10]⟩,
  ⟨some 28,.mv (.t 29),none,1,[28,29]⟩]
def r25_7 : List O := [⟨some 30,.fadr 3 (.t 1),none,0,[30,1]⟩,
  ⟨some 31,.load1 (.t 30),none,1,[31,30]⟩,
  ⟨some 32,.fadr 4 (.t 1),none,0,[32,1]⟩,
  ⟨some 33,.load1 (.t 32),none,4,[33,32]⟩,
  ⟨some 34,.fadr 5 (.t 1),none,0,[34,1]⟩,
  ⟨some 35,.load1 (.t 34),none,16,[35,34]⟩,
  ⟨some 36,.fadr 3 (.t 4),none,3,[36,4]⟩,
  ⟨none,.store 1 (.t 36) (.t 31),none,67,[36,31]⟩,
  ⟨some 37,.fadr 4 (.t 4),none,207,[37,4]⟩,
  ⟨none,.store 1 (.t 37) (.t 33),none,463,[37,33]⟩,
  ⟨some 38,.fadr 5 (.t 4),none,1023,[38,4]⟩,
  ⟨none,.store 1 (.t 38) (.t 35),none,2047,[38,35]⟩]
theorem k25_7 (lo : Nat) (hx : XDK P E ro L K Q lo h [true, true, true, true, true, true, true, true, true, true, true, true] r25_7 ρ h) : XD P E ro L r25_7 K ρ h Q := XD_keeps rfl rfl hx
def r25_8 : List O := [⟨some 39,.fadr 3 (.t 1),none,0,[39,1]⟩,
  ⟨some 40,.load1 (.t 39),none,1,[40,39]⟩,
  ⟨some 41,.call (.k (.func 27 [] [])) [(.t 40)],none,3,[41,40]⟩,
  ⟨some 42,.bin .add (some .str) true (.k (.str [109,111,118,101,32])) (.t 41),none,7,[42,41]⟩,
  ⟨some 43,.bin .add (some .str) true (.t 42) (.k (.str [32])),none,15,[43,42]⟩,
  ⟨some 44,.fadr 4 (.t 1),none,0,[44,1]⟩,
  ⟨some 45,.load1 (.t 44),none,32,[45,44]⟩,
  ⟨some 46,.call (.k (.func 27 [] [])) [(.t 45)],none,103,[46,45]⟩,
  ⟨some 47,.bin .add (some .str) false (.t 43) (.t 46),none,255,[47,43,46]⟩,
  ⟨some 48,.bin .add (some .str) true (.t 47) (.k (.str [32])),none,511,[48,47]⟩,
  ⟨some 49,.fadr 5 (.t 1),none,0,[49,1]⟩,
  ⟨some 50,.load1 (.t 49),none,1024,[50,49]⟩,
  ⟨some 51,.call (.k (.func 16 [] [])) [(.t 50)],none,3303,[51,50]⟩,
  ⟨some 52,.bin .add (some .str) false (.t 48) (.t 51),none,8191,[52,48,51]⟩,
  ⟨some 5,.mv (.t 52),none,16383,[5,52]⟩]
theorem d25_8 (hx : XDQ P E ro L K Q h [true, true, true, true, true, false, false, true, true, true, false, false, true, true, true] r25_8 ρ h) : XD P E ro L r25_8 K ρ h Q := XD_quiet rfl rfl hx
def r25_9 : List O := [⟨some 54,.bin .eql (some .int) true (.t 10) (.k (.int .i64 3)),none,0,[54,10]⟩,
  ⟨some 53,.mv (.t 54),none,1,[53,54]⟩]
def r25_10 : List O := [⟨some 55,.fadr 3 (.t 1),none,0,[55,1]⟩,
  ⟨some 56,.load1 (.t 55),none,1,[56,55]⟩,
  ⟨some 57,.fadr 6 (.t 1),none,0,[57,1]⟩,
  ⟨some 58,.load1 (.t 57),none,4,[58,57]⟩,
  ⟨some 59,.fadr 7 (.t 1),none,0,[59,1]⟩,
  ⟨some 60,.load1 (.t 59),none,16,[60,59]⟩,
  ⟨some 61,.fadr 3 (.t 4),none,3,[61,4]⟩,
  ⟨none,.store 1 (.t 61) (.t 56),none,67,[61,56]⟩,
  ⟨some 62,.fadr 6 (.t 4),none,207,[62,4]⟩,
  ⟨none,.store 1 (.t 62) (.t 58),none,463,[62,58]⟩,
  ⟨some 63,.fadr 7 (.t 4),none,1023,[63,4]⟩,
  ⟨none,.store 1 (.t 63) (.t 60),none,2047,[63,60]⟩]
theorem k25_10 (lo : Nat) (hx : XDK P E ro L K Q lo h [true, true, true, true, true, true, true, true, true, true, true, true] r25_10 ρ h) : XD P E ro L r25_10 K ρ h Q := XD_keeps rfl rfl hx
def r25_11 : List O := [⟨some 64,.fadr 3 (.t 1),none,0,[64,1]⟩,
  ⟨some 65,.load1 (.t 64),none,1,[65,64]⟩,
  ⟨some 66,.call (.k (.func 27 [] [])) [(.t 65)],none,3,[66,65]⟩,
  ⟨some 67,.bin .add (some .str) true (.k (.str [97,116,116,114,32])) (.t 66),none,7,[67,66]⟩,
  ⟨some 68,.bin .add (some .str) true (.t 67) (.k (.str [32])),none,15,[68,67]⟩,
  ⟨some 69,.fadr 6 (.t 1),none,0,[69,1]⟩,
  ⟨some 70,.load1 (.t 69),none,32,[70,69]⟩,
  ⟨some 71,.call (.k (.func 16 [] [])) [(.t 70)],none,103,[71,70]⟩,
  ⟨some 72,.bin .add (some .str) false (.t 68) (.t 71),none,255,[72,68,71]⟩,
  ⟨some 73,.bin .add (some .str) true (.t 72) (.k (.str [32])),none,511,[73,72]⟩,
  ⟨some 74,.fadr 7 (.t 1),none,0,[74,1]⟩,
  ⟨some 75,.load1 (.t 74),none,1024,[75,74]⟩,
  ⟨some 76,.call (.k (.func 16 [] [])) [(.t 75)],none,3303,[76,75]⟩,
  ⟨some 77,.bin .add (some .str) false (.t 73) (.t 76),none,8191,[77,73,76]⟩,
  ⟨some 5,.mv (.t 77),none,16383,[5,77]⟩]
theorem d25_11 (hx : XDQ P E ro L K Q h [true, true, true, true, true, false, false, true, true, true, false, false, true, true, true] r25_11 ρ h) : XD P E ro L r25_11 K ρ h Q := XD_quiet rfl rfl hx
def r25_12 : List O := [⟨some 78,.mv (.t 5),none,0,[78,5]⟩,
  ⟨some 79,.mv (.t 5),none,0,[79,5]⟩,
  ⟨some 80,.bin .neq (some .str) true (.t 79) (.k (.str [])),none,2,[80,79]⟩,
  ⟨some 81,.mv (.t 80),none,6,[81,80]⟩,
  ⟨some 82,.loadN 8 (.t 4),some (81,true),14,[82,81,4]⟩,
  ⟨some 83,.loadN 8 (.t 1),some (81,true),14,[83,81,1]⟩,
  ⟨some 84,.bin .eql (some (.fcons 0 2 true (.fcons 0 1 false .int (.fcons 1 1 false .int .fnil)) (.fcons 2 1 false .int (.fcons 3 1 false .int (.fcons 4 1 false .int (.fcons 5 1 false .str (.fcons 6 1 false .str (.fcons 7 1 false .str .fnil)))))))) false (.t 82) (.t 83),some (81,true),62,[84,81,82,83]⟩,
  ⟨some 85,.pick (.t 81) (.t 84) (.k (.bool false)),none,126,[85,81,84]⟩,
  ⟨some 2,.mv (.t 78),none,15,[2,78]⟩,
  ⟨some 3,.mv (.t 85),none,511,[3,85]⟩]
theorem d25_12 : XD P E ro L r25_12 K ρ h Q = XO P E ro L r25_12 K ρ h Q := XD_still rfl
def c25 : C := .seq (.region r25_0) (.seq (.region r25_1) (.seq (.region [⟨some 5,.mv (.k (.str [])),none,0,[5]⟩]) (.seq (.seq (.region r25_2) (.block 0 (.seq (.region r25_3) (.cond (.t 11) (.seq (.draw r25_4) (.draw r25_5)) (.seq (.region r25_6) (.cond (.t 28) (.seq (.draw r25_7) (.draw r25_8)) (.seq (.region r25_9) (.cond (.t 53) (.seq (.draw r25_10) (.draw r25_11)) (.skip))))))))) (.seq (.draw r25_12) (.ret)))))
def fn25 : Fn := ⟨86, [.t 2, .t 3], c25⟩
/-! 26: orchard/script.queryText -/
def r26_0 : List O := [⟨some 1,.box 39 (.t 0),none,0,[1,0]⟩,
  ⟨some 2,.mv (.k (.str [])),none,0,[2]⟩,
  ⟨some 3,.mv (.k (.bool false)),none,2,[3]⟩]
def r26_1 : List O := [⟨some 6,.fadr 0 (.t 1),none,0,[6,1]⟩,
  ⟨some 7,.load1 (.t 6),none,1,[7,6]⟩,
  ⟨some 8,.fadr 1 (.t 1),none,0,[8,1]⟩,
  ⟨some 9,.load1 (.t 8),none,4,[9,8]⟩,
  ⟨some 10,.build [.int .i64 0,.str [],.int .i64 0] [(0,1,(.t 7)),(1,1,(.t 9))],none,15,[10,7,9]⟩,
  ⟨some 4,.alloc 39 [.int .i64 0,.str [],.int .i64 0],none,0,[4]⟩,
  ⟨none,.store 3 (.t 4) (.t 10),none,63,[4,10]⟩]
def r26_2 : List O := [⟨some 11,.fadr 0 (.t 1),none,0,[11,1]⟩,
  ⟨some 12,.load1 (.t 11),none,1,[12,11]⟩]
def r26_3 : List O := [⟨some 14,.bin .eql (some .int) true (.t 12) (.k (.int .i64 1)),none,0,[14,12]⟩,
  ⟨some 13,.mv (.t 14),none,1,[13,14]⟩]
def r26_4 : List O := [⟨some 15,.fadr 1 (.t 1),none,0,[15,1]⟩,
  ⟨some 16,.load1 (.t 15),none,1,[16,15]⟩,
  ⟨some 17,.call (.k (.func 16 [] [])) [(.t 16)],none,3,[17,16]⟩,
  ⟨some 18,.bin .add (some .str) true (.k (.str [110,111,100,101,32])) (.t 17),none,7,[18,17]⟩,
  ⟨some 5,.mv (.t 18),none,15,[5,18]⟩]
def r26_5 : List O := [⟨some 20,.bin .eql (some .int) true (.t 12) (.k (.int .i64 2)),none,0,[20,12]⟩,
  ⟨some 19,.mv (.t 20),none,1,[19,20]⟩]
def r26_6 : List O := [⟨some 21,.fadr 1 (.t 1),none,0,[21,1]⟩,
  ⟨some 22,.load1 (.t 21),none,1,[22,21]⟩,
  ⟨some 23,.call (.k (.func 16 [] [])) [(.t 22)],none,3,[23,22]⟩,
  ⟨some 24,.bin .add (some .str) true (.k (.str [108,105,115,116,32])) (.t 23),none,7,[24,23]⟩,
  ⟨some 5,.mv (.t 24),none,15,[5,24]⟩]
def r26_7 : List O := [⟨some 26,.bin .eql (some .int) true (.t 12) (.k (.int .i64 3)),none,0,[26,12]⟩,
  ⟨some 25,.mv (.t 26),none,1,[25,26]⟩]
def r26_8 : List O := [⟨some 27,.fadr 1 (.t 1),none,0,[27,1]⟩,
  ⟨some 28,.load1 (.t 27),none,1,[28,27]⟩,
  ⟨some 29,.call (.k (.func 16 [] [])) [(.t 28)],none,3,[29,28]⟩,
  ⟨some 30,.bin .add (some .str) true (.k (.str [97,116,116,114,115,32])) (.t 29),none,7,[30,29]⟩,
  ⟨some 5,.mv (.t 30),none,15,[5,30]⟩]
def r26_9 : List O := [⟨some 32,.bin .eql (some .int) true (.t 12) (.k (.int .i64 4)),none,0,[32,12]⟩,
  ⟨some 31,.mv (.t 32),none,1,[31,32]⟩]
def r26_10 : List O := [⟨some 33,.fadr 0 (.t 1),none,0,[33,1]⟩,
  ⟨some 34,.load1 (.t 33),none,1,[34,33]⟩,
  ⟨some 35,.fadr 2 (.t 1),none,0,[35,1]⟩,
  ⟨some 36,.load1 (.t 35),none,4,[36,35]⟩,
  ⟨some 37,.build [.int .i64 0,.str [],.int .i64 0] [(0,1,(.t 34)),(2,1,(.t 36))],none,15,[37,34,36]⟩,
  ⟨none,.store 3 (.t 4) (.t 37),none,31,[4,37]⟩]
def r26_11 : List O := [⟨some 38,.fadr 2 (.t 1),none,0,[38,1]⟩,
  ⟨some 39,.load1 (.t 38),none,1,[39,38]⟩,
  ⟨some 40,.call (.k (.func 27 [] [])) [(.t 39)],none,3,[40,39]⟩,
  ⟨some 41,.bin .add (some .str) true (.k (.str [112,97,116,104,32])) (.t 40),none,7,[41,40]⟩,
  ⟨some 5,.mv (.t 41),none,15,[5,41]⟩]
def r26_12 : List O := [⟨some 42,.mv (.t 5),none,0,[42,5]⟩,
  ⟨some 43,.mv (.t 5),none,0,[43,5]⟩,
  ⟨some 44,.bin .neq (some .str) true (.t 43) (.k (.str [])),none,2,[44,43]⟩,
  ⟨some 45,.mv (.t 44),none,6,[45,44]⟩,
  ⟨some 46,.loadN 3 (.t 4),some (45,true),14,[46,45,4]⟩,
  ⟨some 47,.loadN 3 (.t 1),some (45,true),14,[47,45,1]⟩,
  ⟨some 48,.bin .eql (some (.fcons 0 1 false .int (.fcons 1 1 false .str (.fcons 2 1 false .int .fnil)))) false (.t 46) (.t 47),some (45,true),62,[48,45,46,47]⟩,
  ⟨some 49,.pick (.t 45) (.t 48) (.k (.bool false)),none,126,[49,45,48]⟩,
  ⟨some 2,.mv (.t 42),none,15,[2,42]⟩,
  ⟨some 3,.mv (.t 49),none,511,[3,49]⟩]
theorem d26_12 : XD P E ro L r26_12 K ρ h Q = XO P E ro L r26_12 K ρ h Q := XD_still rfl
def c26 : C := .seq (.region r26_0) (.seq (.region r26_1) (.seq (.region [⟨some 5,.mv (.k (.str [])),none,0,[5]⟩]) (.seq (.seq (.region r26_2) (.block 0 (.seq (.region r26_3) (.cond (.t 13) (.region r26_4) (.seq (.region r26_5) (.cond (.t 19) (.region r26_6) (.seq (.region r26_7) (.cond (.t 25) (.region r26_8) (.seq (.region r26_9) (.cond (.t 31) (.seq (.region r26_10) (.region r26_11)) (.skip))))))))))) (.seq (.draw r26_12) (.ret)))))
def fn26 : Fn := ⟨50, [.t 2, .t 3], c26⟩
/-! 27: orchard/script.num -/
def r27_0 : List O := [⟨some 3,.mv (.t 0),none,0,[3,0]⟩,
  ⟨some 4,.call (.k (.func 42 [] [])) [(.t 3),(.k (.int .i64 10))],none,1,[4,3]⟩,
  ⟨some 2,.mv (.t 4),none,3,[2,4]⟩]
def c27 : C := .seq (.region [⟨some 2,.mv (.k (.str [])),none,0,[2]⟩]) (.seq (.region r27_0) (.ret))
def fn27 : Fn := ⟨5, [.t 2], c27⟩
/-! 28: orchard/script.zeroEntry -/
def r28_0 : List O := [⟨some 1,.box 50 (.t 0),none,0,[1,0]⟩,
  ⟨some 2,.mv (.k (.bool false)),none,0,[2]⟩]
def r28_1 : List O := [⟨some 6,.loadN 56 (.t 1),none,0,[6,1]⟩,
  ⟨some 7,.call (.k (.func 34 [] [])) [(.t 6)],none,1,[7,6]⟩,
  ⟨some 5,.mv (.t 7),none,3,[5,7]⟩,
  ⟨some 8,.extract (.t 5) 0,none,7,[8,5]⟩,
  ⟨some 9,.extract (.t 5) 1,none,7,[9,5]⟩,
  ⟨some 3,.alloc 81 [.int .i64 0,.int .i64 0,.int .i64 0,.int .i64 0,.int .i64 0,.int .i64 0,.int .i64 0,.int .i64 0,.str [],.str [],.str [],.int .i64 0,.int .i64 0,.int .i64 0,.int .i64 0,.int .i64 0,.int .i64 0,.int .i64 0,.int .i64 0,.int .i64 0,.int .i64 0,.int .i64 0,.int .i64 0,.int .i64 0,.int .i64 0,.int .i64 0,.int .i64 0,.int .i64 0,.int .i64 0,.int .i64 0,.int .i64 0,.int .i64 0,.int .i64 0,.int .i64 0,.int .i64 0,.int .i64 0,.int .i64 0,.int .i64 0,.int .i64 0,.int .i64 0,.int .i64 0,.int .i64 0,.int .i64 0,.int .i64 0,.int .i64 0,.int .i64 0,.int .i64 0,.int .i64 0,.int .i64 0,.int .i64 0,.int .i64 0,.int .i64 0,.int .i64 0,.int .i64 0],none,0,[3]⟩,
  ⟨none,.store 54 (.t 3) (.t 8),none,47,[3,8]⟩,
  ⟨some 4,.mv (.t 9),none,127,[4,9]⟩]
def r28_2 : List O := [⟨some 10,.mv (.t 4),none,0,[10,4]⟩,
  ⟨some 11,.mv (.t 10),none,1,[11,10]⟩,
  ⟨some 12,.loadN 54 (.t 3),some (11,true),3,[12,11,3]⟩,
  ⟨some 13,.build [.int .i64 0,.int .i64 0,.int .i64 0,.int .i64 0,.int .i64 0,.int .i64 0,.int .i64 0,.int .i64 0,.str [],.str [],.str [],.int .i64 0,.int .i64 0,.int .i64 0,.int .i64 0,.int .i64 0,.int .i64 0,.int .i64 0,.int .i64 0,.int .i64 0,.int .i64 0,.int .i64 0,.int .i64 0,.int .i64 0,.int .i64 0,.int .i64 0,.int .i64 0,.int .i64 0,.int .i64 0,.int .i64 0,.int .i64 0,.int .i64 0,.int .i64 0,.int .i64 0,.int .i64 0,.int .i64 0,.int .i64 0,.int .i64 0,.int .i64 0,.int .i64 0,.int .i64 0,.int .i64 0,.int .i64 0,.int .i64 0,.int .i64 0,.int .i64 0,.int .i64 0,.int .i64 0,.int .i64 0,.int .i64 0,.int .i64 0,.int .i64 0,.int .i64 0,.int .i64 0] [],some (11,true),3,[13,11]⟩,
  ⟨some 14,.bin .eql (some (.fcons 0 1 false .int (.fcons 1 1 false .int (.fcons 2 1 false .int (.fcons 3 8 true (.fcons 0 2 true (.fcons 0 1 false .int (.fcons 1 1 false .int .fnil)) (.fcons 2 1 false .int (.fcons 3 1 false .int (.fcons 4 1 false .int (.fcons 5 1 false .str (.fcons 6 1 false .str (.fcons 7 1 false .str .fnil))))))) (.fcons 11 1 false .int (.fcons 12 1 false .int (.fcons 13 25 true (.fcons 0 1 false .int (.fcons 1 8 true (.ar 8 1 false .int) (.fcons 9 8 true (.ar 8 1 false .int) (.fcons 17 8 true (.ar 8 1 false .int) .fnil)))) (.fcons 38 1 false .int (.fcons 39 8 true (.ar 8 1 false .int) (.fcons 47 1 false .int (.fcons 48 1 false .int (.fcons 49 1 false .int (.fcons 50 1 false .int (.fcons 51 1 false .int (.fcons 52 1 false .int (.fcons 53 1 false .int .fnil))))))))))))))))) false (.t 12) (.t 13),some (11,true),15,[14,11,12,13]⟩,
  ⟨some 15,.pick (.t 11) (.t 14) (.k (.bool false)),none,31,[15,11,14]⟩,
  ⟨some 2,.mv (.t 15),none,63,[2,15]⟩]
def c28 : C := .seq (.region r28_0) (.seq (.region r28_1) (.seq (.region r28_2) (.ret)))
def fn28 : Fn := ⟨16, [.t 2], c28⟩
/-! 29: orchard/script.alike -/
def r29_0 : List O := [⟨some 2,.box 52 (.t 0),none,0,[2,0]⟩,
  ⟨some 3,.box 52 (.t 1),none,0,[3,1]⟩,
  ⟨some 4,.mv (.k (.bool false)),none,0,[4]⟩]
def r29_1 : List O := [⟨some 5,.fadr 0 (.t 2),none,0,[5,2]⟩,
  ⟨some 6,.load1 (.t 5),none,1,[6,5]⟩,
  ⟨some 7,.fadr 0 (.t 3),none,0,[7,3]⟩,
  ⟨some 8,.load1 (.t 7),none,4,[8,7]⟩,
  ⟨some 9,.bin .eql (some .int) false (.t 6) (.t 8),none,15,[9,6,8]⟩,
  ⟨some 10,.mv (.t 9),none,31,[10,9]⟩,
  ⟨some 11,.fadr 1 (.t 2),some (10,true),63,[11,10,2]⟩,
  ⟨some 12,.loadN 2 (.t 11),some (10,true),127,[12,10,11]⟩,
  ⟨some 13,.fadr 1 (.t 3),some (10,true),63,[13,10,3]⟩,
  ⟨some 14,.loadN 2 (.t 13),some (10,true),319,[14,10,13]⟩,
  ⟨some 15,.bin .eql (some (.fcons 0 1 false .int (.fcons 1 1 false .int .fnil))) false (.t 12) (.t 14),some (10,true),1023,[15,10,12,14]⟩,
  ⟨some 16,.pick (.t 10) (.t 15) (.k (.bool false)),none,2047,[16,10,15]⟩,
  ⟨some 17,.mv (.t 16),none,4095,[17,16]⟩,
  ⟨some 18,.fadr 3 (.t 2),some (17,true),8191,[18,17,2]⟩,
  ⟨some 19,.load1 (.t 18),some (17,true),16383,[19,17,18]⟩,
  ⟨some 20,.fadr 3 (.t 3),some (17,true),8191,[20,17,3]⟩,
  ⟨some 21,.load1 (.t 20),some (17,true),40959,[21,17,20]⟩,
  ⟨some 22,.bin .eql (some .int) false (.t 19) (.t 21),some (17,true),131071,[22,17,19,21]⟩,
  ⟨some 23,.pick (.t 17) (.t 22) (.k (.bool false)),none,262143,[23,17,22]⟩,
  ⟨some 24,.mv (.t 23),none,524287,[24,23]⟩,
  ⟨some 25,.fadr 4 (.t 2),some (24,true),1048575,[25,24,2]⟩,
  ⟨some 26,.loadN 8 (.t 25),some (24,true),2097151,[26,24,25]⟩,
  ⟨some 27,.fadr 4 (.t 3),some (24,true),1048575,[27,24,3]⟩,
  ⟨some 28,.loadN 8 (.t 27),some (24,true),5242879,[28,24,27]⟩,
  ⟨some 29,.bin .eql (some (.fcons 0 2 true (.fcons 0 1 false .int (.fcons 1 1 false .int .fnil)) (.fcons 2 1 false .int (.fcons 3 1 false .int (.fcons 4 1 false .int (.fcons 5 1 false .str (.fcons 6 1 false .str (.fcons 7 1 false .str .fnil)))))))) false (.t 26) (.t 28),some (24,true),16777215,[29,24,26,28]⟩,
  ⟨some 30,.pick (.t 24) (.t 29) (.k (.bool false)),none,33554431,[30,24,29]⟩,
  ⟨some 31,.mv (.t 30),none,67108863,[31,30]⟩,
  ⟨some 32,.fadr 12 (.t 2),some (31,true),134217727,[32,31,2]⟩,
  ⟨some 33,.loadN 3 (.t 32),some (31,true),268435455,[33,31,32]⟩,
  ⟨some 34,.fadr 12 (.t 3),some (31,true),134217727,[34,31,3]⟩,
  ⟨some 35,.loadN 3 (.t 34),some (31,true),671088639,[35,31,34]⟩,
  ⟨some 36,.bin .eql (some (.fcons 0 1 false .int (.fcons 1 1 false .str (.fcons 2 1 false .int .fnil)))) false (.t 33) (.t 35),some (31,true),2147483647,[36,31,33,35]⟩,
  ⟨some 37,.pick (.t 31) (.t 36) (.k (.bool false)),none,4294967295,[37,31,36]⟩,
  ⟨some 38,.mv (.t 37),none,8589934591,[38,37]⟩,
  ⟨some 39,.fadr 71 (.t 2),some (38,true),17179869183,[39,38,2]⟩,
  ⟨some 40,.load1 (.t 39),some (38,true),34359738367,[40,38,39]⟩,
  ⟨some 41,.fadr 71 (.t 3),some (38,true),17179869183,[41,38,3]⟩,
  ⟨some 42,.load1 (.t 41),some (38,true),85899345919,[42,38,41]⟩,
  ⟨some 43,.bin .eql (some .int) false (.t 40) (.t 42),some (38,true),274877906943,[43,38,40,42]⟩,
  ⟨some 44,.pick (.t 38) (.t 43) (.k (.bool false)),none,549755813887,[44,38,43]⟩,
  ⟨some 45,.mv (.t 44),none,1099511627775,[45,44]⟩,
  ⟨some 46,.fadr 72 (.t 2),some (45,true),2199023255551,[46,45,2]⟩,
  ⟨some 47,.load1 (.t 46),some (45,true),4398046511103,[47,45,46]⟩,
  ⟨some 48,.fadr 72 (.t 3),some (45,true),2199023255551,[48,45,3]⟩,
  ⟨some 49,.load1 (.t 48),some (45,true),10995116277759,[49,45,48]⟩,
  ⟨some 50,.bin .eql (some .int) false (.t 47) (.t 49),some (45,true),35184372088831,[50,45,47,49]⟩,
  ⟨some 51,.pick (.t 45) (.t 50) (.k (.bool false)),none,70368744177663,[51,45,50]⟩,
  ⟨some 52,.mv (.t 51),none,140737488355327,[52,51]⟩,
  ⟨some 53,.fadr 73 (.t 2),some (52,true),281474976710655,[53,52,2]⟩,
  ⟨some 54,.load1 (.t 53),some (52,true),562949953421311,[54,52,53]⟩,
  ⟨some 55,.fadr 73 (.t 3),some (52,true),281474976710655,[55,52,3]⟩,
  ⟨some 56,.load1 (.t 55),some (52,true),1407374883553279,[56,52,55]⟩,
  ⟨some 57,.bin .eql (some .int) false (.t 54) (.t 56),some (52,true),4503599627370495,[57,52,54,56]⟩,
  ⟨some 58,.pick (.t 52) (.t 57) (.k (.bool false)),none,9007199254740991,[58,52,57]⟩,
  ⟨some 59,.mv (.t 58),none,18014398509481983,[59,58]⟩,
  ⟨some 60,.fadr 74 (.t 2),some (59,true),36028797018963967,[60,59,2]⟩,
  ⟨some 61,.load1 (.t 60),some (59,true),72057594037927935,[61,59,60]⟩,
  ⟨some 62,.fadr 74 (.t 3),some (59,true),36028797018963967,[62,59,3]⟩,
  ⟨some 63,.load1 (.t 62),some (59,true),180143985094819839,[63,59,62]⟩,
  ⟨some 64,.bin .eql (some .int) false (.t 61) (.t 63),some (59,true),576460752303423487,[64,59,61,63]⟩,
  ⟨some 65,.pick (.t 59) (.t 64) (.k (.bool false)),none,1152921504606846975,[65,59,64]⟩,
  ⟨some 66,.mv (.t 65),none,2305843009213693951,[66,65]⟩,
  ⟨some 67,.fadr 75 (.t 2),some (66,true),4611686018427387903,[67,66,2]⟩,
  ⟨some 68,.load1 (.t 67),some (66,true),9223372036854775807,[68,66,67]⟩,
  ⟨some 69,.fadr 75 (.t 3),some (66,true),4611686018427387903,[69,66,3]⟩,
  ⟨some 70,.load1 (.t 69),some (66,true),23058430092136939519,[70,66,69]⟩,
  ⟨some 71,.bin .eql (some .int) false (.t 68) (.t 70),some (66,true),73786976294838206463,[71,66,68,70]⟩,
  ⟨some 72,.pick (.t 66) (.t 71) (.k (.bool false)),none,147573952589676412927,[72,66,71]⟩,
  ⟨some 4,.mv (.t 72),none,295147905179352825855,[4,72]⟩]
def c29 : C := .seq (.region r29_0) (.seq (.region r29_1) (.ret))
def fn29 : Fn := ⟨73, [.t 4], c29⟩
/-! 30: orchard/orchardref27.num -/
def r30_0 : List O := [⟨some 3,.mv (.t 0),none,0,[3,0]⟩,
  ⟨some 4,.call (.k (.func 42 [] [])) [(.t 3),(.k (.int .i64 10))],none,1,[4,3]⟩,
  ⟨some 2,.mv (.t 4),none,3,[2,4]⟩]
def c30 : C := .seq (.region [⟨some 2,.mv (.k (.str [])),none,0,[2]⟩]) (.seq (.region r30_0) (.ret))
def fn30 : Fn := ⟨5, [.t 2], c30⟩
/-! 31: orchard/orchardref27.ints -/
def r31_0 : List O := [⟨some 5,.mv (.t 4),none,0,[5,4]⟩,
  ⟨some 6,.mv (.t 0),none,0,[6,0]⟩,
  ⟨some 7,.lenL (.t 6),none,2,[7,6]⟩,
  ⟨some 8,.bin .lss (some .int) false (.t 5) (.t 7),none,7,[8,5,7]⟩]
def r31_1 : List O := [⟨some 11,.mv (.t 3),none,0,[11,3]⟩,
  ⟨some 12,.mv (.t 0),none,0,[12,0]⟩,
  ⟨some 13,.mv (.t 4),none,0,[13,4]⟩,
  ⟨some 14,.iadrL 1 (.t 12) (.t 13),none,6,[14,12,13]⟩,
  ⟨some 15,.load1 (.t 14),none,14,[15,14]⟩,
  ⟨some 16,.call (.k (.func 30 [] [])) [(.t 15)],none,30,[16,15]⟩,
  ⟨some 17,.bin .add (some .str) true (.k (.str [32])) (.t 16),none,62,[17,16]⟩,
  ⟨some 18,.bin .add (some .str) false (.t 11) (.t 17),none,127,[18,11,17]⟩,
  ⟨some 3,.mv (.t 18),none,255,[3,18]⟩]
def r31_2 : List O := [⟨some 9,.mv (.t 4),none,0,[9,4]⟩,
  ⟨some 10,.bin .add (some .int) true (.t 9) (.k (.int .i64 1)),none,1,[10,9]⟩,
  ⟨some 4,.mv (.t 10),none,3,[4,10]⟩]
def b31_3 : C := .seq (.seq (.region r31_0) (.cond (.t 8) (.skip) (.exit 0))) (.seq (.block 1 (.region r31_1)) (.region r31_2))
theorem u31_3 : XL P E ro L b31_3 K ρ h Q = X P E ro L (.c (.seq (.seq (.region r31_0) (.cond (.t 8) (.skip) (.exit 0))) (.seq (.block 1 (.region r31_1)) (.region r31_2))) :: .l b31_3 :: K) ρ h Q := XL_unroll b31_3
def r31_4 : List O := [⟨some 19,.mv (.t 3),none,0,[19,3]⟩,
  ⟨some 2,.mv (.t 19),none,1,[2,19]⟩]
def c31 : C := .seq (.region [⟨some 2,.mv (.k (.str [])),none,0,[2]⟩]) (.seq (.region [⟨some 3,.mv (.k (.str [])),none,0,[3]⟩]) (.seq (.seq (.region [⟨some 4,.mv (.k (.int .i64 0)),none,0,[4]⟩]) (.block 0 (.loop b31_3))) (.seq (.region r31_4) (.ret))))
def fn31 : Fn := ⟨20, [.t 2], c31⟩
/-! 32: orchard/orchardref27.placed -/
def r32_0 : List O := [⟨some 1,.box 52 (.t 0),none,0,[1,0]⟩,
  ⟨some 2,.mv (.k (.str [])),none,0,[2]⟩,
  ⟨some 3,.alloc 52 [.int .i64 0,.int .i64 0,.int .i64 0,.int .i64 0,.int .i64 0,.int .i64 0,.int .i64 0,.int .i64 0,.int .i64 0,.str [],.str [],.str [],.int .i64 0,.str [],.int .i64 0,.int .i64 0,.int .i64 0,.int .i64 0,.int .i64 0,.int .i64 0,.int .i64 0,.int .i64 0,.int .i64 0,.str [],.str [],.str [],.int .i64 0,.int .i64 0,(.slice none 0 0 false),.int .i64 0,.int .i64 0,.int .i64 0,.int .i64 0,.int .i64 0,.int .i64 0,.int .i64 0,.int .i64 0,.int .i64 0,.int .i64 0,.int .i64 0,.int .i64 0,.int .i64 0,.int .i64 0,.int .i64 0,.int .i64 0,.int .i64 0,.int .i64 0,.int .i64 0,.int .i64 0,.int .i64 0,.int .i64 0,.int .i64 0,.int .i64 0,.int .i64 0,.int .i64 0,.int .i64 0,.int .i64 0,.int .i64 0,.int .i64 0,.int .i64 0,.int .i64 0,.int .i64 0,.int .i64 0,.int .i64 0,.int .i64 0,.int .i64 0,.int .i64 0,(.slice none 0 0 false),.int .i64 0,.int .i64 0,.int .i64 0,.int .i64 0,.int .i64 0,(.int .u8 0),.int .i64 0,.int .i64 0],none,0,[3]⟩,
  ⟨some 4,.mv (.k (.bool false)),none,2,[4]⟩]
def r32_1 : List O := [⟨some 11,.fadr 0 (.t 1),none,0,[11,1]⟩,
  ⟨some 12,.load1 (.t 11),none,1,[12,11]⟩,
  ⟨some 13,.fadr 1 (.t 1),none,0,[13,1]⟩,
  ⟨some 14,.loadN 2 (.t 13),none,4,[14,13]⟩,
  ⟨some 15,.build [.int .i64 0,.int .i64 0,.int .i64 0,.int .i64 0,.int .i64 0,.int .i64 0,.int .i64 0,.int .i64 0,.int .i64 0,.str [],.str [],.str [],.int .i64 0,.str [],.int .i64 0,.int .i64 0,.int .i64 0,.int .i64 0,.int .i64 0,.int .i64 0,.int .i64 0,.int .i64 0,.int .i64 0,.str [],.str [],.str [],.int .i64 0,.int .i64 0,(.slice none 0 0 false),.int .i64 0,.int .i64 0,.int .i64 0,.int .i64 0,.int .i64 0,.int .i64 0,.int .i64 0,.int .i64 0,.int .i64 0,.int .i64 0,.int .i64 0,.int .i64 0,.int .i64 0,.int .i64 0,.int .i64 0,.int .i64 0,.int .i64 0,.int .i64 0,.int .i64 0,.int .i64 0,.int .i64 0,.int .i64 0,.int .i64 0,.int .i64 0,.int .i64 0,.int .i64 0,.int .i64 0,.int .i64 0,.int .i64 0,.int .i64 0,.int .i64 0,.int .i64 0,.int .i64 0,.int .i64 0,.int .i64 0,.int .i64 0,.int .i64 0,.int .i64 0,(.slice none 0 0 false),.int .i64 0,.int .i64 0,.int .i64 0,.int .i64 0,.int .i64 0,(.int .u8 0),.int .i64 0,.int .i64 0] [(0,1,(.t 12)),(1,2,(.t 14))],none,15,[15,12,14]⟩,
  ⟨some 5,.alloc 52 [.int .i64 0,.int .i64 0,.int .i64 0,.int .i64 0,.int .i64 0,.int .i64 0,.int .i64 0,.int .i64 0,.int .i64 0,.str [],.str [],.str [],.int .i64 0,.str [],.int .i64 0,.int .i64 0,.int .i64 0,.int .i64 0,.int .i64 0,.int .i64 0,.int .i64 0,.int .i64 0,.int .i64 0,.str [],.str [],.str [],.int .i64 0,.int .i64 0,(.slice none 0 0 false),.int .i64 0,.int .i64 0,.int .i64 0,.int .i64 0,.int .i64 0,.int .i64 0,.int .i64 0,.int .i64 0,.int .i64 0,.int .i64 0,.int .i64 0,.int .i64 0,.int .i64 0,.int .i64 0,.int .i64 0,.int .i64 0,.int .i64 0,.int .i64 0,.int .i64 0,.int .i64 0,.int .i64 0,.int .i64 0,.int .i64 0,.int .i64 0,.int .i64 0,.int .i64 0,.int .i64 0,.int .i64 0,.int .i64 0,.int .i64 0,.int .i64 0,.int .i64 0,.int .i64 0,.int .i64 0,.int .i64 0,.int .i64 0,.int .i64 0,.int .i64 0,(.slice none 0 0 false),.int .i64 0,.int .i64 0,.int .i64 0,.int .i64 0,.int .i64 0,(.int .u8 0),.int .i64 0,.int .i64 0],none,0,[5]⟩,
  ⟨none,.store 76 (.t 5) (.t 15),none,63,[5,15]⟩]
def r32_2 : List O := [⟨some 7,.mv (.k (.str [])),none,0,[7]⟩,
  ⟨some 8,.mv (.k (.str [])),none,1,[8]⟩]
def r32_3 : List O := [⟨some 16,.fadr 0 (.t 1),none,0,[16,1]⟩,
  ⟨some 17,.load1 (.t 16),none,1,[17,16]⟩]
def r32_4 : List O := [⟨some 19,.bin .eql (some .int) true (.t 17) (.k (.int .i64 1)),none,0,[19,17]⟩,
  ⟨some 18,.mv (.t 19),none,1,[18,19]⟩]
def r32_5 : List O := [⟨some 20,.fadr 1 (.t 1),none,0,[20,1]⟩,
  ⟨some 21,.loadN 2 (.t 20),none,1,[21,20]⟩,
  ⟨some 22,.call (.k (.func 43 [] [])) [(.k (.str [116,105,99,107])),(.t 21)],none,3,[22,21]⟩,
  ⟨some 8,.mv (.t 22),none,7,[8,22]⟩]
def r32_6 : List O := [⟨some 24,.bin .eql (some .int) true (.t 17) (.k (.int .i64 2)),none,0,[24,17]⟩,
  ⟨some 23,.mv (.t 24),none,1,[23,24]⟩]
def r32_7 : List O := [⟨some 25,.fadr 3 (.t 1),none,0,[25,1]⟩,
  ⟨some 26,.load1 (.t 25),none,1,[26,25]⟩,
  ⟨some 27,.fadr 4 (.t 1),none,0,[27,1]⟩,
  ⟨some 28,.loadN 8 (.t 27),none,4,[28,27]⟩,
  ⟨some 29,.fadr 3 (.t 5),none,3,[29,5]⟩,
  ⟨none,.store 1 (.t 29) (.t 26),none,19,[29,26]⟩,
  ⟨some 30,.fadr 4 (.t 5),none,63,[30,5]⟩,
  ⟨none,.store 8 (.t 30) (.t 28),none,127,[30,28]⟩]
theorem k32_7 (lo : Nat) (hx : XDK P E ro L K Q lo h [true, true, true, true, true, true, true, true] r32_7 ρ h) : XD P E ro L r32_7 K ρ h Q := XD_keeps rfl rfl hx
def r32_8 : List O := [⟨some 32,.fadr 4 (.t 1),none,0,[32,1]⟩,
  ⟨some 33,.loadN 8 (.t 32),none,1,[33,32]⟩,
  ⟨some 34,.call (.k (.func 44 [] [])) [(.t 33)],none,3,[34,33]⟩,
  ⟨some 31,.mv (.t 34),none,7,[31,34]⟩,
  ⟨some 35,.extract (.t 31) 0,none,15,[35,31]⟩,
  ⟨some 36,.extract (.t 31) 1,none,15,[36,31]⟩,
  ⟨some 7,.mv (.t 35),none,31,[7,35]⟩,
  ⟨some 6,.mv (.t 36),none,127,[6,36]⟩]
def r32_9 : List O := [⟨some 37,.fadr 1 (.t 1),none,0,[37,1]⟩,
  ⟨some 38,.loadN 2 (.t 37),none,1,[38,37]⟩,
  ⟨some 39,.call (.k (.func 43 [] [])) [(.k (.str [119,114,105,116,101])),(.t 38)],none,3,[39,38]⟩,
  ⟨some 40,.fadr 3 (.t 1),none,0,[40,1]⟩,
  ⟨some 41,.load1 (.t 40),none,8,[41,40]⟩,
  ⟨some 42,.bslice 3 1 [.int .i64 0] [(0,1,(.t 41))],none,24,[42,41]⟩,
  ⟨some 43,.call (.k (.func 31 [] [])) [(.t 42)],none,63,[43,42]⟩,
  ⟨some 44,.bin .add (some .str) false (.t 39) (.t 43),none,127,[44,39,43]⟩,
  ⟨some 45,.bin .add (some .str) true (.t 44) (.k (.str [32])),none,255,[45,44]⟩,
  ⟨some 46,.mv (.t 7),none,0,[46,7]⟩,
  ⟨some 47,.bin .add (some .str) false (.t 45) (.t 46),none,1023,[47,45,46]⟩,
  ⟨some 8,.mv (.t 47),none,2047,[8,47]⟩]
theorem d32_9 (hx : XDQ P E ro L K Q h [true, true, true, false, false, false, true, true, true, false, true, true] r32_9 ρ h) : XD P E ro L r32_9 K ρ h Q := XD_quiet rfl rfl hx
def r32_10 : List O := [⟨some 49,.bin .eql (some .int) true (.t 17) (.k (.int .i64 3)),none,0,[49,17]⟩,
  ⟨some 48,.mv (.t 49),none,1,[48,49]⟩]
def r32_11 : List O := [⟨some 50,.fadr 3 (.t 1),none,0,[50,1]⟩,
  ⟨some 51,.load1 (.t 50),none,1,[51,50]⟩,
  ⟨some 52,.fadr 3 (.t 5),none,3,[52,5]⟩,
  ⟨none,.store 1 (.t 52) (.t 51),none,7,[52,51]⟩]
def r32_12 : List O := [⟨some 53,.fadr 1 (.t 1),none,0,[53,1]⟩,
  ⟨some 54,.loadN 2 (.t 53),none,1,[54,53]⟩,
  ⟨some 55,.call (.k (.func 43 [] [])) [(.k (.str [114,101,116,114,121])),(.t 54)],none,3,[55,54]⟩,
  ⟨some 56,.fadr 3 (.t 1),none,0,[56,1]⟩,
  ⟨some 57,.load1 (.t 56),none,8,[57,56]⟩,
  ⟨some 58,.bslice 3 1 [.int .i64 0] [(0,1,(.t 57))],none,24,[58,57]⟩,
  ⟨some 59,.call (.k (.func 31 [] [])) [(.t 58)],none,63,[59,58]⟩,
  ⟨some 60,.bin .add (some .str) false (.t 55) (.t 59),none,127,[60,55,59]⟩,
  ⟨some 8,.mv (.t 60),none,255,[8,60]⟩]
theorem d32_12 (hx : XDQ P E ro L K Q h [true, true, true, false, false, false, true, true, true] r32_12 ρ h) : XD P E ro L r32_12 K ρ h Q := XD_quiet rfl rfl hx
def r32_13 : List O := [⟨some 62,.bin .eql (some .int) true (.t 17) (.k (.int .i64 4)),none,0,[62,17]⟩,
  ⟨some 61,.mv (.t 62),none,1,[61,62]⟩]
def r32_14 : List O := [⟨some 63,.fadr 3 (.t 1),none,0,[63,1]⟩,
  ⟨some 64,.load1 (.t 63),none,1,[64,63]⟩,
  ⟨some 65,.fadr 12 (.t 1),none,0,[65,1]⟩,
  ⟨some 66,.loadN 3 (.t 65),none,4,[66,65]⟩,
  ⟨some 67,.fadr 3 (.t 5),none,3,[67,5]⟩,
  ⟨none,.store 1 (.t 67) (.t 64),none,19,[67,64]⟩,
  ⟨some 68,.fadr 12 (.t 5),none,63,[68,5]⟩,
  ⟨none,.store 3 (.t 68) (.t 66),none,127,[68,66]⟩]
theorem k32_14 (lo : Nat) (hx : XDK P E ro L K Q lo h [true, true, true, true, true, true, true, true] r32_14 ρ h) : XD P E ro L r32_14 K ρ h Q := XD_keeps rfl rfl hx
def r32_15 : List O := [⟨some 70,.fadr 12 (.t 1),none,0,[70,1]⟩,
  ⟨some 71,.loadN 3 (.t 70),none,1,[71,70]⟩,
  ⟨some 72,.call (.k (.func 45 [] [])) [(.t 71)],none,3,[72,71]⟩,
  ⟨some 69,.mv (.t 72),none,7,[69,72]⟩,
  ⟨some 73,.extract (.t 69) 0,none,15,[73,69]⟩,
  ⟨some 74,.extract (.t 69) 1,none,15,[74,69]⟩,
  ⟨some 7,.mv (.t 73),none,31,[7,73]⟩,
  ⟨some 6,.mv (.t 74),none,127,[6,74]⟩]
def r32_16 : List O := [⟨some 75,.fadr 1 (.t 1),none,0,[75,1]⟩,
  ⟨some 76,.loadN 2 (.t 75),none,1,[76,75]⟩,
  ⟨some 77,.call (.k (.func 43 [] [])) [(.k (.str [114,101,97,100])),(.t 76)],none,3,[77,76]⟩,
  ⟨some 78,.fadr 3 (.t 1),none,0,[78,1]⟩,
  ⟨some 79,.load1 (.t 78),none,8,[79,78]⟩,
  ⟨some 80,.bslice 3 1 [.int .i64 0] [(0,1,(.t 79))],none,24,[80,79]⟩,
  ⟨some 81,.call (.k (.func 31 [] [])) [(.t 80)],none,63,[81,80]⟩,
  ⟨some 82,.bin .add (some .str) false (.t 77) (.t 81),none,127,[82,77,81]⟩,
  ⟨some 83,.bin .add (some .str) true (.t 82) (.k (.str [32])),none,255,[83,82]⟩,
  ⟨some 84,.mv (.t 7),none,0,[84,7]⟩,
  ⟨some 85,.bin .add (some .str) false (.t 83) (.t 84),none,1023,[85,83,84]⟩,
  ⟨some 8,.mv (.t 85),none,2047,[8,85]⟩]
theorem d32_16 (hx : XDQ P E ro L K Q h [true, true, true, false, false, false, true, true, true, false, true, true] r32_16 ρ h) : XD P E ro L r32_16 K ρ h Q := XD_quiet rfl rfl hx
def r32_17 : List O := [⟨some 87,.bin .eql (some .int) true (.t 17) (.k (.int .i64 5)),none,0,[87,17]⟩,
  ⟨some 86,.mv (.t 87),none,1,[86,87]⟩]
def r32_18 : List O := [⟨some 88,.fadr 15 (.t 1),none,0,[88,1]⟩,
  ⟨some 89,.loadN 56 (.t 88),none,1,[89,88]⟩,
  ⟨some 90,.fadr 15 (.t 5),none,3,[90,5]⟩,
  ⟨none,.store 56 (.t 90) (.t 89),none,7,[90,89]⟩]
def r32_19 : List O := [⟨some 92,.fadr 15 (.t 1),none,0,[92,1]⟩,
  ⟨some 93,.loadN 56 (.t 92),none,1,[93,92]⟩,
  ⟨some 94,.call (.k (.func 13 [] [])) [(.t 93)],none,3,[94,93]⟩,
  ⟨some 91,.mv (.t 94),none,7,[91,94]⟩,
  ⟨some 95,.extract (.t 91) 0,none,15,[95,91]⟩,
  ⟨some 96,.extract (.t 91) 1,none,15,[96,91]⟩,
  ⟨some 9,.mv (.t 95),none,31,[9,95]⟩,
  ⟨some 10,.mv (.t 96),none,127,[10,96]⟩]
def r32_20 : List O := [⟨some 97,.mv (.t 10),none,0,[97,10]⟩,
  ⟨some 98,.bin .eql (some .int) true (.t 97) (.k (.int .i64 0)),none,1,[98,97]⟩,
  ⟨some 6,.mv (.t 98),none,3,[6,98]⟩]
def r32_21 : List O := [⟨some 99,.fadr 1 (.t 1),none,0,[99,1]⟩,
  ⟨some 100,.loadN 2 (.t 99),none,1,[100,99]⟩,
  ⟨some 101,.call (.k (.func 43 [] [])) [(.k (.str [99,111,110,102])),(.t 100)],none,3,[101,100]⟩,
  ⟨some 102,.bin .add (some .str) true (.t 101) (.k (.str [32])),none,7,[102,101]⟩,
  ⟨some 103,.mv (.t 9),none,0,[103,9]⟩,
  ⟨some 104,.bin .add (some .str) false (.t 102) (.t 103),none,31,[104,102,103]⟩,
  ⟨some 8,.mv (.t 104),none,63,[8,104]⟩]
def r32_22 : List O := [⟨some 106,.bin .eql (some .int) true (.t 17) (.k (.int .i64 10)),none,0,[106,17]⟩,
  ⟨some 105,.mv (.t 106),none,1,[105,106]⟩]
def r32_23 : List O := [⟨some 107,.fadr 75 (.t 1),none,0,[107,1]⟩,
  ⟨some 108,.load1 (.t 107),none,1,[108,107]⟩,
  ⟨some 109,.fadr 75 (.t 5),none,3,[109,5]⟩,
  ⟨none,.store 1 (.t 109) (.t 108),none,7,[109,108]⟩]
def r32_24 : List O := [⟨some 110,.fadr 1 (.t 1),none,0,[110,1]⟩,
  ⟨some 111,.loadN 2 (.t 110),none,1,[111,110]⟩,
  ⟨some 112,.call (.k (.func 43 [] [])) [(.k (.str [99,114,97,115,104])),(.t 111)],none,3,[112,111]⟩,
  ⟨some 113,.fadr 75 (.t 1),none,0,[113,1]⟩,
  ⟨some 114,.load1 (.t 113),none,8,[114,113]⟩,
  ⟨some 115,.bslice 3 1 [.int .i64 0] [(0,1,(.t 114))],none,24,[115,114]⟩,
  ⟨some 116,.call (.k (.func 31 [] [])) [(.t 115)],none,63,[116,115]⟩,
  ⟨some 117,.bin .add (some .str) false (.t 112) (.t 116),none,127,[117,112,116]⟩,
  ⟨some 8,.mv (.t 117),none,255,[8,117]⟩]
theorem d32_24 (hx : XDQ P E ro L K Q h [true, true, true, false, false, false, true, true, true] r32_24 ρ h) : XD P E ro L r32_24 K ρ h Q := XD_quiet rfl rfl hx
def r32_25 : List O := [⟨some 119,.bin .eql (some .int) true (.t 17) (.k (.int .i64 11)),none,0,[119,17]⟩,
  ⟨some 118,.mv (.t 119),none,1,[118,119]⟩]
def r32_26 : List O := [⟨some 120,.fadr 74 (.t 1),none,0,[120,1]⟩,
  ⟨some 121,.load1 (.t 120),none,1,[121,120]⟩,
  ⟨some 122,.fadr 75 (.t 1),none,0,[122,1]⟩,
  ⟨some 123,.load1 (.t 122),none,4,[123,122]⟩,
  ⟨some 124,.fadr 74 (.t 5),none,3,[124,5]⟩,
  ⟨none,.store 1 (.t 124) (.t 121),none,19,[124,121]⟩,
  ⟨some 125,.fadr 75 (.t 5),none,63,[125,5]⟩,
  ⟨none,.store 1 (.t 125) (.t 123),none,127,[125,123]⟩]
theorem k32_26 (lo : Nat) (hx : XDK P E ro L K Q lo h [true, true, true, true, true, true, true, true] r32_26 ρ h) : XD P E ro L r32_26 K ρ h Q := XD_keeps rfl rfl hx
def r32_27 : List O := [⟨some 126,.fadr 1 (.t 1),none,0,[126,1]⟩,
  ⟨some 127,.loadN 2 (.t 126),none,1,[127,126]⟩,
  ⟨some 128,.call (.k (.func 43 [] [])) [(.k (.str [102,117,115,101])),(.t 127)],none,3,[128,127]⟩,
  ⟨some 129,.fadr 74 (.t 1),none,0,[129,1]⟩,
  ⟨some 130,.load1 (.t 129),none,8,[130,129]⟩,
  ⟨some 131,.fadr 75 (.t 1),none,0,[131,1]⟩,
  ⟨some 132,.load1 (.t 131),none,32,[132,131]⟩,
  ⟨some 133,.bslice 3 2 [.int .i64 0,.int .i64 0] [(0,1,(.t 130)),(1,1,(.t 132))],none,120,[133,130,132]⟩,
  ⟨some 134,.call (.k (.func 31 [] [])) [(.t 133)],none,255,[134,133]⟩,
  ⟨some 135,.bin .add (some .str) false (.t 128) (.t 134),none,511,[135,128,134]⟩,
  ⟨some 8,.mv (.t 135),none,1023,[8,135]⟩]
theorem d32_27 (hx : XDQ P E ro L K Q h [true, true, true, false, false, false, false, false, true, true, true] r32_27 ρ h) : XD P E ro L r32_27 K ρ h Q := XD_quiet rfl rfl hx
def r32_28 : List O := [⟨some 137,.bin .eql (some .int) true (.t 17) (.k (.int .i64 12)),none,0,[137,17]⟩,
  ⟨some 136,.mv (.t 137),none,1,[136,137]⟩]
def r32_29 : List O := [⟨some 138,.fadr 1 (.t 1),none,0,[138,1]⟩,
  ⟨some 139,.loadN 2 (.t 138),none,1,[139,138]⟩,
  ⟨some 140,.call (.k (.func 43 [] [])) [(.k (.str [114,101,115,116,97,114,116])),(.t 139)],none,3,[140,139]⟩,
  ⟨some 8,.mv (.t 140),none,7,[8,140]⟩]
def r32_30 : List O := [⟨some 141,.mv (.t 8),none,0,[141,8]⟩,
  ⟨some 142,.loadN 76 (.t 5),none,0,[142,5]⟩,
  ⟨some 143,.mv (.t 6),none,0,[143,6]⟩,
  ⟨some 144,.mv (.t 143),none,4,[144,143]⟩,
  ⟨some 145,.mv (.t 8),some (144,true),12,[145,144,8]⟩,
  ⟨some 146,.bin .neq (some .str) true (.t 145) (.k (.str [])),some (144,true),28,[146,144,145]⟩,
  ⟨some 147,.pick (.t 144) (.t 146) (.k (.bool false)),none,60,[147,144,146]⟩,
  ⟨some 2,.mv (.t 141),none,13,[2,141]⟩,
  ⟨none,.store 76 (.t 3) (.t 142),none,143,[3,142]⟩,
  ⟨some 4,.mv (.t 147),none,511,[4,147]⟩]
def c32 : C := .seq (.region r32_0) (.seq (.region r32_1) (.seq (.region [⟨some 6,.mv (.k (.bool true)),none,0,[6]⟩]) (.seq (.region r32_2) (.seq (.seq (.region r32_3) (.block 0 (.seq (.region r32_4) (.cond (.t 18) (.region r32_5) (.seq (.region r32_6) (.cond (.t 23) (.seq (.draw r32_7) (.seq (.region r32_8) (.draw r32_9))) (.seq (.region r32_10) (.cond (.t 48) (.seq (.region r32_11) (.draw r32_12)) (.seq (.region r32_13) (.cond (.t 61) (.seq (.draw r32_14) (.seq (.region r32_15) (.draw r32_16))) (.seq (.region r32_17) (.cond (.t 86) (.seq (.region r32_18) (.seq (.region r32_19) (.seq (.region r32_20) (.region r32_21)))) (.seq (.region r32_22) (.cond (.t 105) (.seq (.region r32_23) (.draw r32_24)) (.seq (.region r32_25) (.cond (.t 118) (.seq (.draw r32_26) (.draw r32_27)) (.seq (.region r32_28) (.cond (.t 136) (.region r32_29) (.skip))))))))))))))))))) (.seq (.draw r32_30) (.ret))))))
def fn32 : Fn := ⟨148, [.t 2, .c 3 76 true, .t 4], c32⟩
/-! 33: orchard/orchardref27.same -/
def r33_0 : List O := [⟨some 2,.box 52 (.t 0),none,0,[2,0]⟩,
  ⟨some 3,.box 52 (.t 1),none,0,[3,1]⟩,
  ⟨some 4,.mv (.k (.bool false)),none,0,[4]⟩]
def r33_1 : List O := [⟨some 5,.fadr 0 (.t 2),none,0,[5,2]⟩,
  ⟨some 6,.load1 (.t 5),none,1,[6,5]⟩,
  ⟨some 7,.fadr 0 (.t 3),none,0,[7,3]⟩,
  ⟨some 8,.load1 (.t 7),none,4,[8,7]⟩,
  ⟨some 9,.bin .eql (some .int) false (.t 6) (.t 8),none,15,[9,6,8]⟩,
  ⟨some 10,.mv (.t 9),none,31,[10,9]⟩,
  ⟨some 11,.fadr 1 (.t 2),some (10,true),63,[11,10,2]⟩,
  ⟨some 12,.loadN 2 (.t 11),some (10,true),127,[12,10,11]⟩,
  ⟨some 13,.fadr 1 (.t 3),some (10,true),63,[13,10,3]⟩,
  ⟨some 14,.loadN 2 (.t 13),some (10,true),319,[14,10,13]⟩,
  ⟨some 15,.bin .eql (some (.fcons 0 1 false .int (.fcons 1 1 false .int .fnil))) false (.t 12) (.t 14),some (10,true),1023,[15,10,12,14]⟩,
  ⟨some 16,.pick (.t 10) (.t 15) (.k (.bool false)),none,2047,[16,10,15]⟩,
  ⟨some 17,.mv (.t 16),none,4095,[17,16]⟩,
  ⟨some 18,.fadr 3 (.t 2),some (17,true),8191,[18,17,2]⟩,
  ⟨some 19,.load1 (.t 18),some (17,true),16383,[19,17,18]⟩,
  ⟨some 20,.fadr 3 (.t 3),some (17,true),8191,[20,17,3]⟩,
  ⟨some 21,.load1 (.t 20),some (17,true),40959,[21,17,20]⟩,
  ⟨some 22,.bin .eql (some .int) false (.t 19) (.t 21),some (17,true),131071,[22,17,19,21]⟩,
  ⟨some 23,.pick (.t 17) (.t 22) (.k (.bool false)),none,262143,[23,17,22]⟩,
  ⟨some 24,.mv (.t 23),none,524287,[24,23]⟩,
  ⟨some 25,.fadr 4 (.t 2),some (24,true),1048575,[25,24,2]⟩,
  ⟨some 26,.loadN 8 (.t 25),some (24,true),2097151,[26,24,25]⟩,
  ⟨some 27,.fadr 4 (.t 3),some (24,true),1048575,[27,24,3]⟩,
  ⟨some 28,.loadN 8 (.t 27),some (24,true),5242879,[28,24,27]⟩,
  ⟨some 29,.bin .eql (some (.fcons 0 2 true (.fcons 0 1 false .int (.fcons 1 1 false .int .fnil)) (.fcons 2 1 false .int (.fcons 3 1 false .int (.fcons 4 1 false .int (.fcons 5 1 false .str (.fcons 6 1 false .str (.fcons 7 1 false .str .fnil)))))))) false (.t 26) (.t 28),some (24,true),16777215,[29,24,26,28]⟩,
  ⟨some 30,.pick (.t 24) (.t 29) (.k (.bool false)),none,33554431,[30,24,29]⟩,
  ⟨some 31,.mv (.t 30),none,67108863,[31,30]⟩,
  ⟨some 32,.fadr 12 (.t 2),some (31,true),134217727,[32,31,2]⟩,
  ⟨some 33,.loadN 3 (.t 32),some (31,true),268435455,[33,31,32]⟩,
  ⟨some 34,.fadr 12 (.t 3),some (31,true),134217727,[34,31,3]⟩,
  ⟨some 35,.loadN 3 (.t 34),some (31,true),671088639,[35,31,34]⟩,
  ⟨some 36,.bin .eql (some (.fcons 0 1 false .int (.fcons 1 1 false .str (.fcons 2 1 false .int .fnil)))) false (.t 33) (.t 35),some (31,true),2147483647,[36,31,33,35]⟩,
  ⟨some 37,.pick (.t 31) (.t 36) (.k (.bool false)),none,4294967295,[37,31,36]⟩,
  ⟨some 38,.mv (.t 37),none,8589934591,[38,37]⟩,
  ⟨some 39,.fadr 15 (.t 2),some (38,true),17179869183,[39,38,2]⟩,
  ⟨some 40,.loadN 56 (.t 39),some (38,true),34359738367,[40,38,39]⟩,
  ⟨some 41,.fadr 15 (.t 3),some (38,true),17179869183,[41,38,3]⟩,
  ⟨some 42,.loadN 56 (.t 41),some (38,true),85899345919,[42,38,41]⟩,
  ⟨some 43,.call (.k (.func 35 [] [])) [(.t 40),(.t 42)],some (38,true),274877906943,[43,38,40,42]⟩,
  ⟨some 44,.pick (.t 38) (.t 43) (.k (.bool false)),none,549755813887,[44,38,43]⟩,
  ⟨some 45,.mv (.t 44),none,1099511627775,[45,44]⟩,
  ⟨some 46,.fadr 71 (.t 2),some (45,true),2199023255551,[46,45,2]⟩,
  ⟨some 47,.load1 (.t 46),some (45,true),4398046511103,[47,45,46]⟩,
  ⟨some 48,.fadr 71 (.t 3),some (45,true),2199023255551,[48,45,3]⟩,
  ⟨some 49,.load1 (.t 48),some (45,true),10995116277759,[49,45,48]⟩,
  ⟨some 50,.bin .eql (some .int) false (.t 47) (.t 49),some (45,true),35184372088831,[50,45,47,49]⟩,
  ⟨some 51,.pick (.t 45) (.t 50) (.k (.bool false)),none,70368744177663,[51,45,50]⟩,
  ⟨some 52,.mv (.t 51),none,140737488355327,[52,51]⟩,
  ⟨some 53,.fadr 72 (.t 2),some (52,true),281474976710655,[53,52,2]⟩,
  ⟨some 54,.load1 (.t 53),some (52,true),562949953421311,[54,52,53]⟩,
  ⟨some 55,.fadr 72 (.t 3),some (52,true),281474976710655,[55,52,3]⟩,
  ⟨some 56,.load1 (.t 55),some (52,true),1407374883553279,[56,52,55]⟩,
  ⟨some 57,.bin .eql (some .int) false (.t 54) (.t 56),some (52,true),4503599627370495,[57,52,54,56]⟩,
  ⟨some 58,.pick (.t 52) (.t 57) (.k (.bool false)),none,9007199254740991,[58,52,57]⟩,
  ⟨some 59,.mv (.t 58),none,18014398509481983,[59,58]⟩,
  ⟨some 60,.fadr 73 (.t 2),some (59,true),36028797018963967,[60,59,2]⟩,
  ⟨some 61,.load1 (.t 60),some (59,true),72057594037927935,[61,59,60]⟩,
  ⟨some 62,.fadr 73 (.t 3),some (59,true),36028797018963967,[62,59,3]⟩,
  ⟨some 63,.load1 (.t 62),some (59,true),180143985094819839,[63,59,62]⟩,
  ⟨some 64,.bin .eql (some .int) false (.t 61) (.t 63),some (59,true),576460752303423487,[64,59,61,63]⟩,
  ⟨some 65,.pick (.t 59) (.t 64) (.k (.bool false)),none,1152921504606846975,[65,59,64]⟩,
  ⟨some 66,.mv (.t 65),none,2305843009213693951,[66,65]⟩,
  ⟨some 67,.fadr 74 (.t 2),some (66,true),4611686018427387903,[67,66,2]⟩,
  ⟨some 68,.load1 (.t 67),some (66,true),9223372036854775807,[68,66,67]⟩,
  ⟨some 69,.fadr 74 (.t 3),some (66,true),4611686018427387903,[69,66,3]⟩,
  ⟨some 70,.load1 (.t 69),some (66,true),23058430092136939519,[70,66,69]⟩,
  ⟨some 71,.bin .eql (some .int) false (.t 68) (.t 70),some (66,true),73786976294838206463,[71,66,68,70]⟩,
  ⟨some 72,.pick (.t 66) (.t 71) (.k (.bool false)),none,147573952589676412927,[72,66,71]⟩,
  ⟨some 73,.mv (.t 72),none,295147905179352825855,[73,72]⟩,
  ⟨some 74,.fadr 75 (.t 2),some (73,true),590295810358705651711,[74,73,2]⟩,
  ⟨some 75,.load1 (.t 74),some (73,true),1180591620717411303423,[75,73,74]⟩,
  ⟨some 76,.fadr 75 (.t 3),some (73,true),590295810358705651711,[76,73,3]⟩,
  ⟨some 77,.load1 (.t 76),some (73,true),2951479051793528258559,[77,73,76]⟩,
  ⟨some 78,.bin .eql (some .int) false (.t 75) (.t 77),some (73,true),9444732965739290427391,[78,73,75,77]⟩,
  ⟨some 79,.pick (.t 73) (.t 78) (.k (.bool false)),none,18889465931478580854783,[79,73,78]⟩,
  ⟨some 4,.mv (.t 79),none,37778931862957161709567,[4,79]⟩]
def c33 : C := .seq (.region r33_0) (.seq (.region r33_1) (.ret))
def fn33 : Fn := ⟨80, [.t 4], c33⟩
/-! 34: orchard/script.flatten -/
def r34_0 : List O := [⟨some 1,.box 50 (.t 0),none,0,[1,0]⟩,
  ⟨some 2,.alloc 81 [.int .i64 0,.int .i64 0,.int .i64 0,.int .i64 0,.int .i64 0,.int .i64 0,.int .i64 0,.int .i64 0,.str [],.str [],.str [],.int .i64 0,.int .i64 0,.int .i64 0,.int .i64 0,.int .i64 0,.int .i64 0,.int .i64 0,.int .i64 0,.int .i64 0,.int .i64 0,.int .i64 0,.int .i64 0,.int .i64 0,.int .i64 0,.int .i64 0,.int .i64 0,.int .i64 0,.int .i64 0,.int .i64 0,.int .i64 0,.int .i64 0,.int .i64 0,.int .i64 0,.int .i64 0,.int .i64 0,.int .i64 0,.int .i64 0,.int .i64 0,.int .i64 0,.int .i64 0,.int .i64 0,.int .i64 0,.int .i64 0,.int .i64 0,.int .i64 0,.int .i64 0,.int .i64 0,.int .i64 0,.int .i64 0,.int .i64 0,.int .i64 0,.int .i64 0,.int .i64 0],none,0,[2]⟩,
  ⟨some 3,.mv (.k (.bool false)),none,0,[3]⟩]
def r34_1 : List O := [⟨some 4,.fadr 0 (.t 1),none,0,[4,1]⟩,
  ⟨some 5,.load1 (.t 4),none,1,[5,4]⟩,
  ⟨some 6,.fadr 1 (.t 1),none,0,[6,1]⟩,
  ⟨some 7,.load1 (.t 6),none,4,[7,6]⟩,
  ⟨some 8,.fadr 2 (.t 1),none,0,[8,1]⟩,
  ⟨some 9,.load1 (.t 8),none,16,[9,8]⟩,
  ⟨some 10,.fadr 3 (.t 1),none,0,[10,1]⟩,
  ⟨some 11,.loadN 8 (.t 10),none,64,[11,10]⟩,
  ⟨some 12,.fadr 11 (.t 1),none,0,[12,1]⟩,
  ⟨some 13,.load1 (.t 12),none,256,[13,12]⟩,
  ⟨some 14,.fadr 12 (.t 1),none,0,[14,1]⟩,
  ⟨some 15,.load1 (.t 14),none,1024,[15,14]⟩,
  ⟨some 16,.fadr 14 (.t 1),none,0,[16,1]⟩,
  ⟨some 17,.loadN 25 (.t 16),none,4096,[17,16]⟩,
  ⟨some 18,.fadr 39 (.t 1),none,0,[18,1]⟩,
  ⟨some 19,.load1 (.t 18),none,16384,[19,18]⟩,
  ⟨some 20,.fadr 40 (.t 1),none,0,[20,1]⟩,
  ⟨some 21,.loadN 8 (.t 20),none,65536,[21,20]⟩,
  ⟨some 22,.fadr 48 (.t 1),none,0,[22,1]⟩,
  ⟨some 23,.load1 (.t 22),none,262144,[23,22]⟩,
  ⟨some 24,.fadr 49 (.t 1),none,0,[24,1]⟩,
  ⟨some 25,.fadr 0 (.t 24),none,1048576,[25,24]⟩,
  ⟨some 26,.load1 (.t 25),none,3145728,[26,25]⟩,
  ⟨some 27,.fadr 49 (.t 1),none,0,[27,1]⟩,
  ⟨some 28,.fadr 1 (.t 27),none,8388608,[28,27]⟩,
  ⟨some 29,.load1 (.t 28),none,25165824,[29,28]⟩,
  ⟨some 30,.fadr 49 (.t 1),none,0,[30,1]⟩,
  ⟨some 31,.fadr 2 (.t 30),none,67108864,[31,30]⟩,
  ⟨some 32,.load1 (.t 31),none,201326592,[32,31]⟩,
  ⟨some 33,.fadr 53 (.t 1),none,0,[33,1]⟩,
  ⟨some 34,.load1 (.t 33),none,536870912,[34,33]⟩,
  ⟨some 35,.fadr 54 (.t 1),none,0,[35,1]⟩,
  ⟨some 36,.load1 (.t 35),none,2147483648,[36,35]⟩,
  ⟨some 37,.fadr 55 (.t 1),none,0,[37,1]⟩,
  ⟨some 38,.load1 (.t 37),none,8589934592,[38,37]⟩,
  ⟨some 39,.build [.int .i64 0,.int .i64 0,.int .i64 0,.int .i64 0,.int .i64 0,.int .i64 0,.int .i64 0,.int .i64 0,.str [],.str [],.str [],.int .i64 0,.int .i64 0,.int .i64 0,.int .i64 0,.int .i64 0,.int .i64 0,.int .i64 0,.int .i64 0,.int .i64 0,.int .i64 0,.int .i64 0,.int .i64 0,.int .i64 0,.int .i64 0,.int .i64 0,.int .i64 0,.int .i64 0,.int .i64 0,.int .i64 0,.int .i64 0,.int .i64 0,.int .i64 0,.int .i64 0,.int .i64 0,.int .i64 0,.int .i64 0,.int .i64 0,.int .i64 0,.int .i64 0,.int .i64 0,.int .i64 0,.int .i64 0,.int .i64 0,.int .i64 0,.int .i64 0,.int .i64 0,.int .i64 0,.int .i64 0,.int .i64 0,.int .i64 0,.int .i64 0,.int .i64 0,.int .i64 0] [(0,1,(.t 5)),(1,1,(.t 7)),(2,1,(.t 9)),(3,8,(.t 11)),(11,1,(.t 13)),(12,1,(.t 15)),(13,25,(.t 17)),(38,1,(.t 19)),(39,8,(.t 21)),(47,1,(.t 23)),(48,1,(.t 26)),(49,1,(.t 29)),(50,1,(.t 32)),(51,1,(.t 34)),(52,1,(.t 36)),(53,1,(.t 38))],none,34359738367,[39,5,7,9,11,13,15,17,19,21,23,26,29,32,34,36,38]⟩,
  ⟨some 40,.fadr 13 (.t 1),none,0,[40,1]⟩,
  ⟨some 41,.load1 (.t 40),none,68719476736,[41,40]⟩,
  ⟨some 42,.lenL (.t 41),none,206158430208,[42,41]⟩,
  ⟨some 43,.bin .eql (some .int) true (.t 42) (.k (.int .i64 0)),none,481036337152,[43,42]⟩,
  ⟨some 44,.mv (.t 43),none,1030792151040,[44,43]⟩,
  ⟨some 45,.fadr 49 (.t 1),some (44,true),2130303778816,[45,44,1]⟩,
  ⟨some 46,.fadr 3 (.t 45),some (44,true),4329327034368,[46,44,45]⟩,
  ⟨some 47,.load1 (.t 46),some (44,true),8727373545472,[47,44,46]⟩,
  ⟨some 48,.lenL (.t 47),some (44,true),17523466567680,[48,44,47]⟩,
  ⟨some 49,.bin .eql (some .int) true (.t 48) (.k (.int .i64 0)),some (44,true),35115652612096,[49,44,48]⟩,
  ⟨some 50,.pick (.t 44) (.t 49) (.k (.bool false)),none,70300024700928,[50,44,49]⟩,
  ⟨none,.store 54 (.t 2) (.t 39),none,2199023255551,[2,39]⟩,
  ⟨some 3,.mv (.t 50),none,281474976710655,[3,50]⟩]
theorem k34_1 (lo : Nat) (hx : XDK P E ro L K Q lo h [true, true, true, true, true, true, true, true, true, true, true, true, true, true, true, true, true, true, true, true, true, true, true, true, true, true, true, true, true, true, true, true, true, true, true, true, true, true, true, true, true, true, true, true, true, true, true, true, true] r34_1 ρ h) : XD P E ro L r34_1 K ρ h Q := XD_keeps rfl rfl hx
def c34 : C := .seq (.region r34_0) (.seq (.draw r34_1) (.ret))
def fn34 : Fn := ⟨51, [.c 2 54 true, .t 3], c34⟩
/-! 35: orchard/orchardref04.SameEntry -/
def r35_0 : List O := [⟨some 2,.box 50 (.t 0),none,0,[2,0]⟩,
  ⟨some 3,.box 50 (.t 1),none,0,[3,1]⟩,
  ⟨some 4,.mv (.k (.bool false)),none,0,[4]⟩]
def r35_1 : List O := [⟨some 5,.fadr 0 (.t 2),none,0,[5,2]⟩,
  ⟨some 6,.load1 (.t 5),none,1,[6,5]⟩,
  ⟨some 7,.fadr 0 (.t 3),none,0,[7,3]⟩,
  ⟨some 8,.load1 (.t 7),none,4,[8,7]⟩,
  ⟨some 9,.bin .eql (some .int) false (.t 6) (.t 8),none,15,[9,6,8]⟩,
  ⟨some 10,.mv (.t 9),none,31,[10,9]⟩,
  ⟨some 11,.fadr 1 (.t 2),some (10,true),63,[11,10,2]⟩,
  ⟨some 12,.load1 (.t 11),some (10,true),127,[12,10,11]⟩,
  ⟨some 13,.fadr 1 (.t 3),some (10,true),63,[13,10,3]⟩,
  ⟨some 14,.load1 (.t 13),some (10,true),319,[14,10,13]⟩,
  ⟨some 15,.bin .eql (some .int) false (.t 12) (.t 14),some (10,true),1023,[15,10,12,14]⟩,
  ⟨some 16,.pick (.t 10) (.t 15) (.k (.bool false)),none,2047,[16,10,15]⟩,
  ⟨some 17,.mv (.t 16),none,4095,[17,16]⟩,
  ⟨some 18,.fadr 2 (.t 2),some (17,true),8191,[18,17,2]⟩,
  ⟨some 19,.load1 (.t 18),some (17,true),16383,[19,17,18]⟩,
  ⟨some 20,.fadr 2 (.t 3),some (17,true),8191,[20,17,3]⟩,
  ⟨some 21,.load1 (.t 20),some (17,true),40959,[21,17,20]⟩,
  ⟨some 22,.bin .eql (some .int) false (.t 19) (.t 21),some (17,true),131071,[22,17,19,21]⟩,
  ⟨some 23,.pick (.t 17) (.t 22) (.k (.bool false)),none,262143,[23,17,22]⟩,
  ⟨some 24,.mv (.t 23),none,524287,[24,23]⟩,
  ⟨some 25,.fadr 3 (.t 2),some (24,true),1048575,[25,24,2]⟩,
  ⟨some 26,.loadN 8 (.t 25),some (24,true),2097151,[26,24,25]⟩,
  ⟨some 27,.fadr 3 (.t 3),some (24,true),1048575,[27,24,3]⟩,
  ⟨some 28,.loadN 8 (.t 27),some (24,true),5242879,[28,24,27]⟩,
  ⟨some 29,.bin .eql (some (.fcons 0 2 true (.fcons 0 1 false .int (.fcons 1 1 false .int .fnil)) (.fcons 2 1 false .int (.fcons 3 1 false .int (.fcons 4 1 false .int (.fcons 5 1 false .str (.fcons 6 1 false .str (.fcons 7 1 false .str .fnil)))))))) false (.t 26) (.t 28),some (24,true),16777215,[29,24,26,28]⟩,
  ⟨some 30,.pick (.t 24) (.t 29) (.k (.bool false)),none,33554431,[30,24,29]⟩,
  ⟨some 31,.mv (.t 30),none,67108863,[31,30]⟩,
  ⟨some 32,.fadr 11 (.t 2),some (31,true),134217727,[32,31,2]⟩,
  ⟨some 33,.load1 (.t 32),some (31,true),268435455,[33,31,32]⟩,
  ⟨some 34,.fadr 11 (.t 3),some (31,true),134217727,[34,31,3]⟩,
  ⟨some 35,.load1 (.t 34),some (31,true),671088639,[35,31,34]⟩,
  ⟨some 36,.bin .eql (some .int) false (.t 33) (.t 35),some (31,true),2147483647,[36,31,33,35]⟩,
  ⟨some 37,.pick (.t 31) (.t 36) (.k (.bool false)),none,4294967295,[37,31,36]⟩,
  ⟨some 38,.mv (.t 37),none,8589934591,[38,37]⟩,
  ⟨some 39,.fadr 12 (.t 2),some (38,true),17179869183,[39,38,2]⟩,
  ⟨some 40,.load1 (.t 39),some (38,true),34359738367,[40,38,39]⟩,
  ⟨some 41,.fadr 12 (.t 3),some (38,true),17179869183,[41,38,3]⟩,
  ⟨some 42,.load1 (.t 41),some (38,true),85899345919,[42,38,41]⟩,
  ⟨some 43,.bin .eql (some .int) false (.t 40) (.t 42),some (38,true),274877906943,[43,38,40,42]⟩,
  ⟨some 44,.pick (.t 38) (.t 43) (.k (.bool false)),none,549755813887,[44,38,43]⟩,
  ⟨some 45,.mv (.t 44),none,1099511627775,[45,44]⟩,
  ⟨some 46,.fadr 13 (.t 2),some (45,true),2199023255551,[46,45,2]⟩,
  ⟨some 47,.load1 (.t 46),some (45,true),4398046511103,[47,45,46]⟩,
  ⟨some 48,.fadr 13 (.t 3),some (45,true),2199023255551,[48,45,3]⟩,
  ⟨some 49,.load1 (.t 48),some (45,true),10995116277759,[49,45,48]⟩,
  ⟨some 50,.call (.k (.func 46 [] [])) [(.t 47),(.t 49)],some (45,true),35184372088831,[50,45,47,49]⟩,
  ⟨some 51,.pick (.t 45) (.t 50) (.k (.bool false)),none,70368744177663,[51,45,50]⟩,
  ⟨some 52,.mv (.t 51),none,140737488355327,[52,51]⟩,
  ⟨some 53,.fadr 14 (.t 2),some (52,true),281474976710655,[53,52,2]⟩,
  ⟨some 54,.loadN 25 (.t 53),some (52,true),562949953421311,[54,52,53]⟩,
  ⟨some 55,.fadr 14 (.t 3),some (52,true),281474976710655,[55,52,3]⟩,
  ⟨some 56,.loadN 25 (.t 55),some (52,true),1407374883553279,[56,52,55]⟩,
  ⟨some 57,.bin .eql (some (.fcons 0 1 false .int (.fcons 1 8 true (.ar 8 1 false .int) (.fcons 9 8 true (.ar 8 1 false .int) (.fcons 17 8 true (.ar 8 1 false .int) .fnil))))) false (.t 54) (.t 56),some (52,true),4503599627370495,[57,52,54,56]⟩,
  ⟨some 58,.pick (.t 52) (.t 57) (.k (.bool false)),none,9007199254740991,[58,52,57]⟩,
  ⟨some 59,.mv (.t 58),none,18014398509481983,[59,58]⟩,
  ⟨some 60,.fadr 39 (.t 2),some (59,true),36028797018963967,[60,59,2]⟩,
  ⟨some 61,.load1 (.t 60),some (59,true),72057594037927935,[61,59,60]⟩,
  ⟨some 62,.fadr 39 (.t 3),some (59,true),36028797018963967,[62,59,3]⟩,
  ⟨some 63,.load1 (.t 62),some (59,true),180143985094819839,[63,59,62]⟩,
  ⟨some 64,.bin .eql (some .int) false (.t 61) (.t 63),some (59,true),576460752303423487,[64,59,61,63]⟩,
  ⟨some 65,.pick (.t 59) (.t 64) (.k (.bool false)),none,1152921504606846975,[65,59,64]⟩,
  ⟨some 66,.mv (.t 65),none,2305843009213693951,[66,65]⟩,
  ⟨some 67,.fadr 40 (.t 2),some (66,true),4611686018427387903,[67,66,2]⟩,
  ⟨some 68,.loadN 8 (.t 67),some (66,true),9223372036854775807,[68,66,67]⟩,
  ⟨some 69,.fadr 40 (.t 3),some (66,true),4611686018427387903,[69,66,3]⟩,
  ⟨some 70,.loadN 8 (.t 69),some (66,true),23058430092136939519,[70,66,69]⟩,
  ⟨some 71,.bin .eql (some (.ar 8 1 false .int)) false (.t 68) (.t 70),some (66,true),73786976294838206463,[71,66,68,70]⟩,
  ⟨some 72,.pick (.t 66) (.t 71) (.k (.bool false)),none,147573952589676412927,[72,66,71]⟩,
  ⟨some 73,.mv (.t 72),none,295147905179352825855,[73,72]⟩,
  ⟨some 74,.fadr 48 (.t 2),some (73,true),590295810358705651711,[74,73,2]⟩,
  ⟨some 75,.load1 (.t 74),some (73,true),1180591620717411303423,[75,73,74]⟩,
  ⟨some 76,.fadr 48 (.t 3),some (73,true),590295810358705651711,[76,73,3]⟩,
  ⟨some 77,.load1 (.t 76),some (73,true),2951479051793528258559,[77,73,76]⟩,
  ⟨some 78,.bin .eql (some .int) false (.t 75) (.t 77),some (73,true),9444732965739290427391,[78,73,75,77]⟩,
  ⟨some 79,.pick (.t 73) (.t 78) (.k (.bool false)),none,18889465931478580854783,[79,73,78]⟩,
  ⟨some 80,.mv (.t 79),none,37778931862957161709567,[80,79]⟩,
  ⟨some 81,.fadr 49 (.t 2),some (80,true),75557863725914323419135,[81,80,2]⟩,
  ⟨some 82,.loadN 4 (.t 81),some (80,true),151115727451828646838271,[82,80,81]⟩,
  ⟨some 83,.fadr 49 (.t 3),some (80,true),75557863725914323419135,[83,80,3]⟩,
  ⟨some 84,.loadN 4 (.t 83),some (80,true),377789318629571617095679,[84,80,83]⟩,
  ⟨some 85,.call (.k (.func 47 [] [])) [(.t 82),(.t 84)],some (80,true),1208925819614629174706175,[85,80,82,84]⟩,
  ⟨some 86,.pick (.t 80) (.t 85) (.k (.bool false)),none,2417851639229258349412351,[86,80,85]⟩,
  ⟨some 87,.mv (.t 86),none,4835703278458516698824703,[87,86]⟩,
  ⟨some 88,.fadr 53 (.t 2),some (87,true),9671406556917033397649407,[88,87,2]⟩,
  ⟨some 89,.load1 (.t 88),some (87,true),19342813113834066795298815,[89,87,88]⟩,
  ⟨some 90,.fadr 53 (.t 3),some (87,true),9671406556917033397649407,[90,87,3]⟩,
  ⟨some 91,.load1 (.t 90),some (87,true),48357032784585166988247039,[91,87,90]⟩,
  ⟨some 92,.bin .eql (some .int) false (.t 89) (.t 91),some (87,true),154742504910672534362390527,[92,87,89,91]⟩,
  ⟨some 93,.pick (.t 87) (.t 92) (.k (.bool false)),none,309485009821345068724781055,[93,87,92]⟩,
  ⟨some 94,.mv (.t 93),none,618970019642690137449562111,[94,93]⟩,
  ⟨some 95,.fadr 54 (.t 2),some (94,true),1237940039285380274899124223,[95,94,2]⟩,
  ⟨some 96,.load1 (.t 95),some (94,true),2475880078570760549798248447,[96,94,95]⟩,
  ⟨some 97,.fadr 54 (.t 3),some (94,true),1237940039285380274899124223,[97,94,3]⟩,
  ⟨some 98,.load1 (.t 97),some (94,true),6189700196426901374495621119,[98,94,97]⟩,
  ⟨some 99,.bin .eql (some .int) false (.t 96) (.t 98),some (94,true),19807040628566084398385987583,[99,94,96,98]⟩,
  ⟨some 100,.pick (.t 94) (.t 99) (.k (.bool false)),none,39614081257132168796771975167,[100,94,99]⟩,
  ⟨some 101,.mv (.t 100),none,79228162514264337593543950335,[101,100]⟩,
  ⟨some 102,.fadr 55 (.t 2),some (101,true),158456325028528675187087900671,[102,101,2]⟩,
  ⟨some 103,.load1 (.t 102),some (101,true),316912650057057350374175801343,[103,101,102]⟩,
  ⟨some 104,.fadr 55 (.t 3),some (101,true),158456325028528675187087900671,[104,101,3]⟩,
  ⟨some 105,.load1 (.t 104),some (101,true),792281625142643375935439503359,[105,101,104]⟩,
  ⟨some 106,.bin .eql (some .int) false (.t 103) (.t 105),some (101,true),2535301200456458802993406410751,[106,101,103,105]⟩,
  ⟨some 107,.pick (.t 101) (.t 106) (.k (.bool false)),none,5070602400912917605986812821503,[107,101,106]⟩,
  ⟨some 4,.mv (.t 107),none,10141204801825835211973625643007,[4,107]⟩]
def c35 : C := .seq (.region r35_0) (.seq (.region r35_1) (.ret))
def fn35 : Fn := ⟨108, [.t 4], c35⟩
/-! 38: (*strings.Builder).WriteByte -/
def r38_0 : List O := [⟨some 5,.mv (.t 0),none,0,[5,0]⟩,
  ⟨some 6,.call (.k (.func 40 [] [])) [(.t 5)],none,1,[6,5]⟩]
def r38_1 : List O := [⟨some 7,.mv (.t 0),none,0,[7,0]⟩,
  ⟨some 8,.mv (.t 0),none,0,[8,0]⟩,
  ⟨some 9,.nilck (.t 8),none,2,[9,8]⟩,
  ⟨some 10,.fadr 1 (.t 9),none,6,[10,9]⟩,
  ⟨some 11,.load1 (.t 10),none,14,[11,10]⟩,
  ⟨some 12,.mv (.t 1),none,0,[12,1]⟩,
  ⟨some 13,.bslice 5 1 [(.int .u8 0)] [(0,1,(.t 12))],none,32,[13,12]⟩,
  ⟨some 14,.app 5 1 1 (.t 11) (.t 13),none,126,[14,11,13]⟩,
  ⟨some 15,.nilck (.t 7),none,255,[15,7]⟩,
  ⟨some 16,.fadr 1 (.t 15),none,511,[16,15]⟩,
  ⟨none,.store 1 (.t 16) (.t 14),none,1023,[16,14]⟩]
def c38 : C := .seq (.region [⟨some 4,.mv (.k .nilIface),none,0,[4]⟩]) (.seq (.region r38_0) (.seq (.region r38_1) (.seq (.region [⟨some 4,.mv (.k .nilIface),none,0,[4]⟩]) (.ret))))
def fn38 : Fn := ⟨17, [.t 4], c38⟩
/-! 39: strings.Join -/
def r39_0 : List O := [⟨some 11,.mv (.t 0),none,0,[11,0]⟩,
  ⟨some 12,.lenL (.t 11),none,1,[12,11]⟩]
def r39_1 : List O := [⟨some 14,.bin .eql (some .int) true (.t 12) (.k (.int .i64 0)),none,0,[14,12]⟩,
  ⟨some 13,.mv (.t 14),none,1,[13,14]⟩]
def r39_2 : List O := [⟨some 16,.bin .eql (some .int) true (.t 12) (.k (.int .i64 1)),none,0,[16,12]⟩,
  ⟨some 15,.mv (.t 16),none,1,[15,16]⟩]
def r39_3 : List O := [⟨some 17,.mv (.t 0),none,0,[17,0]⟩,
  ⟨some 18,.iadrL 1 (.t 17) (.k (.int .i64 0)),none,1,[18,17]⟩,
  ⟨some 19,.load1 (.t 18),none,3,[19,18]⟩,
  ⟨some 4,.mv (.t 19),none,7,[4,19]⟩]
def r39_4 : List O := [⟨some 20,.mv (.t 1),none,0,[20,1]⟩,
  ⟨some 21,.lenS (.t 20),none,1,[21,20]⟩,
  ⟨some 22,.bin .gtr (some .int) true (.t 21) (.k (.int .i64 0)),none,3,[22,21]⟩]
def r39_5 : List O := [⟨some 23,.mv (.t 1),none,0,[23,1]⟩,
  ⟨some 24,.lenS (.t 23),none,1,[24,23]⟩,
  ⟨some 25,.mv (.t 0),none,0,[25,0]⟩,
  ⟨some 26,.lenL (.t 25),none,4,[26,25]⟩,
  ⟨some 27,.bin .sub (some .int) true (.t 26) (.k (.int .i64 1)),none,12,[27,26]⟩,
  ⟨some 28,.bin .quo (some .int) true (.k (.int .i64 9223372036854775807)) (.t 27),none,28,[28,27]⟩,
  ⟨some 29,.bin .geq (some .int) false (.t 24) (.t 28),none,63,[29,24,28]⟩]
def r39_6 : List O := [⟨some 30,.mkI 9 (.k (.str [115,116,114,105,110,103,115,58,32,74,111,105,110,32,111,117,116,112,117,116,32,108,101,110,103,116,104,32,111,118,101,114,102,108,111,119])),none,0,[30]⟩,
  ⟨none,.bad,none,1,[]⟩]
def r39_7 : List O := [⟨some 31,.mv (.t 5),none,0,[31,5]⟩,
  ⟨some 32,.mv (.t 1),none,0,[32,1]⟩,
  ⟨some 33,.lenS (.t 32),none,2,[33,32]⟩,
  ⟨some 34,.mv (.t 0),none,0,[34,0]⟩,
  ⟨some 35,.lenL (.t 34),none,8,[35,34]⟩,
  ⟨some 36,.bin .sub (some .int) true (.t 35) (.k (.int .i64 1)),none,24,[36,35]⟩,
  ⟨some 37,.bin .mul (some .int) false (.t 33) (.t 36),none,62,[37,33,36]⟩,
  ⟨some 38,.bin .add (some .int) false (.t 31) (.t 37),none,127,[38,31,37]⟩,
  ⟨some 5,.mv (.t 38),none,255,[5,38]⟩]
def r39_8 : List O := [⟨some 39,.mv (.t 0),none,0,[39,0]⟩,
  ⟨some 40,.lenL (.t 39),none,1,[40,39]⟩,
  ⟨some 41,.mv (.k (.int .i64 0)),none,0,[41]⟩]
def r39_9 : List O := [⟨some 43,.iadrL 1 (.t 39) (.t 41),none,0,[43,39,41]⟩,
  ⟨some 44,.load1 (.t 43),none,1,[44,43]⟩,
  ⟨some 7,.mv (.t 44),none,3,[7,44]⟩]
def r39_10 : List O := [⟨some 45,.mv (.t 7),none,0,[45,7]⟩,
  ⟨some 46,.lenS (.t 45),none,1,[46,45]⟩,
  ⟨some 47,.mv (.t 5),none,0,[47,5]⟩,
  ⟨some 48,.bin .sub (some .int) true (.k (.int .i64 9223372036854775807)) (.t 47),none,4,[48,47]⟩,
  ⟨some 49,.bin .gtr (some .int) false (.t 46) (.t 48),none,15,[49,46,48]⟩]
def r39_11 : List O := [⟨some 50,.mkI 9 (.k (.str [115,116,114,105,110,103,115,58,32,74,111,105,110,32,111,117,116,112,117,116,32,108,101,110,103,116,104,32,111,118,101,114,102,108,111,119])),none,0,[50]⟩,
  ⟨none,.bad,none,1,[]⟩]
def r39_12 : List O := [⟨some 51,.mv (.t 5),none,0,[51,5]⟩,
  ⟨some 52,.mv (.t 7),none,0,[52,7]⟩,
  ⟨some 53,.lenS (.t 52),none,2,[53,52]⟩,
  ⟨some 54,.bin .add (some .int) false (.t 51) (.t 53),none,7,[54,51,53]⟩,
  ⟨some 5,.mv (.t 54),none,15,[5,54]⟩]
def r39_13 : List O := [⟨some 55,.bin .add (some .int) true (.t 41) (.k (.int .i64 1)),none,0,[55,41]⟩,
  ⟨some 41,.mv (.t 55),none,1,[41,55]⟩]
def b39_14 : C := .seq (.region [⟨some 42,.bin .lss (some .int) false (.t 41) (.t 40),none,0,[42,41,40]⟩]) (.seq (.cond (.t 42) (.skip) (.exit 1)) (.seq (.block 2 (.seq (.region r39_9) (.seq (.seq (.region r39_10) (.cond (.t 49) (.region r39_11) (.skip))) (.region r39_12)))) (.region r39_13)))
theorem u39_14 : XL P E ro L b39_14 K ρ h Q = X P E ro L (.c (.seq (.region [⟨some 42, .bin .lss (some .int) false (.t 41) (.t 40), none, 0, [42, 41, 40]⟩]) (.seq (.cond (.t 42) (.skip) (.exit 1)) (.seq (.block 2 (.seq (.region r39_9) (.seq (.seq (.region r39_10) (.cond (.t 49) (.region r39_11) (.skip))) (.region r39_12)))) (.region r39_13)))) :: .l b39_14 :: K) ρ h Q := XL_unroll b39_14
def r39_15 : List O := [⟨some 56,.mv (.t 5),none,0,[56,5]⟩,
  ⟨some 57,.call (.k (.func 51 [] [])) [(.t 8),(.t 56)],none,1,[57,8,56]⟩]
def r39_16 : List O := [⟨some 58,.mv (.t 0),none,0,[58,0]⟩,
  ⟨some 59,.iadrL 1 (.t 58) (.k (.int .i64 0)),none,1,[59,58]⟩,
  ⟨some 60,.load1 (.t 59),none,3,[60,59]⟩,
  ⟨some 61,.call (.k (.func 20 [] [])) [(.t 8),(.t 60)],none,7,[61,8,60]⟩]
def r39_17 : List O := [⟨some 62,.mv (.t 0),none,0,[62,0]⟩,
  ⟨some 63,.slL 1 (.t 62) (some (.k (.int .i64 1))) none none,none,1,[63,62]⟩,
  ⟨some 64,.lenL (.t 63),none,3,[64,63]⟩,
  ⟨some 65,.mv (.k (.int .i64 0)),none,0,[65]⟩]
def r39_18 : List O := [⟨some 67,.iadrL 1 (.t 63) (.t 65),none,0,[67,63,65]⟩,
  ⟨some 68,.load1 (.t 67),none,1,[68,67]⟩,
  ⟨some 10,.mv (.t 68),none,3,[10,68]⟩]
def r39_19 : List O := [⟨some 69,.mv (.t 1),none,0,[69,1]⟩,
  ⟨some 70,.call (.k (.func 20 [] [])) [(.t 8),(.t 69)],none,1,[70,8,69]⟩]
def r39_20 : List O := [⟨some 71,.mv (.t 10),none,0,[71,10]⟩,
  ⟨some 72,.call (.k (.func 20 [] [])) [(.t 8),(.t 71)],none,1,[72,8,71]⟩]
def r39_21 : List O := [⟨some 73,.bin .add (some .int) true (.t 65) (.k (.int .i64 1)),none,0,[73,65]⟩,
  ⟨some 65,.mv (.t 73),none,1,[65,73]⟩]
def b39_22 : C := .seq (.region [⟨some 66,.bin .lss (some .int) false (.t 65) (.t 64),none,0,[66,65,64]⟩]) (.seq (.cond (.t 66) (.skip) (.exit 3)) (.seq (.block 4 (.seq (.region r39_18) (.seq (.region r39_19) (.region r39_20)))) (.region r39_21)))
theorem u39_22 : XL P E ro L b39_22 K ρ h Q = X P E ro L (.c (.seq (.region [⟨some 66, .bin .lss (some .int) false (.t 65) (.t 64), none, 0, [66, 65, 64]⟩]) (.seq (.cond (.t 66) (.skip) (.exit 3)) (.seq (.block 4 (.seq (.region r39_18) (.seq (.region r39_19) (.region r39_20)))) (.region r39_21)))) :: .l b39_22 :: K) ρ h Q := XL_unroll b39_22
def r39_23 : List O := [⟨some 74,.call (.k (.func 22 [] [])) [(.t 8)],none,0,[74,8]⟩,
  ⟨some 4,.mv (.t 74),none,1,[4,74]⟩]
def c39 : C := .seq (.region [⟨some 4,.mv (.k (.str [])),none,0,[4]⟩]) (.seq (.seq (.region r39_0) (.block 0 (.seq (.region r39_1) (.cond (.t 13) (.seq (.region [⟨some 4,.mv (.k (.str [])),none,0,[4]⟩]) (.ret)) (.seq (.region r39_2) (.cond (.t 15) (.seq (.region r39_3) (.ret)) (.skip))))))) (.seq (.region [⟨some 5,.mv (.k (.int .i64 0)),none,0,[5]⟩]) (.seq (.seq (.region r39_4) (.cond (.t 22) (.seq (.seq (.region r39_5) (.cond (.t 29) (.region r39_6) (.skip))) (.region r39_7)) (.skip))) (.seq (.seq (.region r39_8) (.block 1 (.loop b39_14))) (.seq (.region [⟨some 8,.alloc 64 [(.ptr none),(.slice none 0 0 false)],none,0,[8]⟩]) (.seq (.region r39_15) (.seq (.region r39_16) (.seq (.seq (.region r39_17) (.block 3 (.loop b39_22))) (.seq (.region r39_23) (.ret))))))))))
def fn39 : Fn := ⟨75, [.t 4], c39⟩
/-! 40: (*strings.Builder).copyCheck -/
def r40_0 : List O := [⟨some 2,.mv (.t 0),none,0,[2,0]⟩,
  ⟨some 3,.nilck (.t 2),none,1,[3,2]⟩,
  ⟨some 4,.fadr 0 (.t 3),none,3,[4,3]⟩,
  ⟨some 5,.load1 (.t 4),none,7,[5,4]⟩,
  ⟨some 6,.bin .eql (some .ptr) true (.t 5) (.k (.ptr none)),none,15,[6,5]⟩]
def r40_1 : List O := [⟨some 7,.mv (.t 0),none,0,[7,0]⟩,
  ⟨some 8,.mv (.t 0),none,0,[8,0]⟩,
  ⟨some 9,.p2u (.t 8),none,2,[9,8]⟩,
  ⟨some 10,.mv (.t 9),none,6,[10,9]⟩,
  ⟨some 11,.u2p 64 (.t 10),none,14,[11,10]⟩,
  ⟨some 12,.nilck (.t 7),none,31,[12,7]⟩,
  ⟨some 13,.fadr 0 (.t 12),none,63,[13,12]⟩,
  ⟨none,.store 1 (.t 13) (.t 11),none,127,[13,11]⟩]
def r40_2 : List O := [⟨some 14,.mv (.t 0),none,0,[14,0]⟩,
  ⟨some 15,.nilck (.t 14),none,1,[15,14]⟩,
  ⟨some 16,.fadr 0 (.t 15),none,3,[16,15]⟩,
  ⟨some 17,.load1 (.t 16),none,7,[17,16]⟩,
  ⟨some 18,.mv (.t 0),none,0,[18,0]⟩,
  ⟨some 19,.bin .neq (some .ptr) false (.t 17) (.t 18),none,31,[19,17,18]⟩]
def c40 : C := .seq (.region r40_0) (.cond (.t 6) (.region r40_1) (.seq (.region r40_2) (.cond (.t 19) (.bad) (.skip))))
def fn40 : Fn := ⟨20, [], c40⟩
/-! 41: strconv.Itoa -/
def r41_0 : List O := [⟨some 3,.mv (.t 0),none,0,[3,0]⟩,
  ⟨some 4,.call (.k (.func 53 [] [])) [(.t 3)],none,1,[4,3]⟩,
  ⟨some 2,.mv (.t 4),none,3,[2,4]⟩]
def c41 : C := .seq (.region [⟨some 2,.mv (.k (.str [])),none,0,[2]⟩]) (.seq (.region r41_0) (.ret))
def fn41 : Fn := ⟨5, [.t 2], c41⟩
/-! 42: strconv.FormatInt -/
def r42_0 : List O := [⟨some 5,.mv (.t 0),none,0,[5,0]⟩,
  ⟨some 6,.mv (.t 1),none,0,[6,1]⟩,
  ⟨some 7,.call (.k (.func 54 [] [])) [(.t 5),(.t 6)],none,3,[7,5,6]⟩,
  ⟨some 4,.mv (.t 7),none,7,[4,7]⟩]
def c42 : C := .seq (.region [⟨some 4,.mv (.k (.str [])),none,0,[4]⟩]) (.seq (.region r42_0) (.ret))
def fn42 : Fn := ⟨8, [.t 4], c42⟩
/-! 43: orchard/orchardref27.at -/
def r43_0 : List O := [⟨some 3,.box 33 (.t 1),none,0,[3,1]⟩,
  ⟨some 4,.mv (.k (.str [])),none,0,[4]⟩]
def r43_1 : List O := [⟨some 5,.mv (.t 0),none,0,[5,0]⟩,
  ⟨some 6,.fadr 0 (.t 3),none,0,[6,3]⟩,
  ⟨some 7,.load1 (.t 6),none,2,[7,6]⟩,
  ⟨some 8,.fadr 1 (.t 3),none,0,[8,3]⟩,
  ⟨some 9,.load1 (.t 8),none,8,[9,8]⟩,
  ⟨some 10,.bslice 3 2 [.int .i64 0,.int .i64 0] [(0,1,(.t 7)),(1,1,(.t 9))],none,30,[10,7,9]⟩,
  ⟨some 11,.call (.k (.func 31 [] [])) [(.t 10)],none,62,[11,10]⟩,
  ⟨some 12,.bin .add (some .str) false (.t 5) (.t 11),none,127,[12,5,11]⟩,
  ⟨some 4,.mv (.t 12),none,255,[4,12]⟩]
def c43 : C := .seq (.region r43_0) (.seq (.region r43_1) (.ret))
def fn43 : Fn := ⟨13, [.t 4], c43⟩
/-! 44: orchard/orchardref27.opWords -/
def r44_0 : List O := [⟨some 1,.box 37 (.t 0),none,0,[1,0]⟩,
  ⟨some 2,.mv (.k (.str [])),none,0,[2]⟩,
  ⟨some 3,.mv (.k (.bool false)),none,2,[3]⟩]
def r44_1 : List O := [⟨some 6,.fadr 2 (.t 1),none,0,[6,1]⟩,
  ⟨some 7,.load1 (.t 6),none,1,[7,6]⟩,
  ⟨some 8,.build [.int .i64 0,.int .i64 0,.int .i64 0,.int .i64 0,.int .i64 0,.str [],.str [],.str []] [(2,1,(.t 7))],none,3,[8,7]⟩,
  ⟨some 4,.alloc 37 [.int .i64 0,.int .i64 0,.int .i64 0,.int .i64 0,.int .i64 0,.str [],.str [],.str []],none,0,[4]⟩,
  ⟨none,.store 8 (.t 4) (.t 8),none,15,[4,8]⟩]
def r44_2 : List O := [⟨some 9,.fadr 2 (.t 1),none,0,[9,1]⟩,
  ⟨some 10,.load1 (.t 9),none,1,[10,9]⟩]
def r44_3 : List O := [⟨some 12,.bin .eql (some .int) true (.t 10) (.k (.int .i64 1)),none,0,[12,10]⟩,
  ⟨some 11,.mv (.t 12),none,1,[11,12]⟩]
def r44_4 : List O := [⟨some 13,.fadr 4 (.t 1),none,0,[13,1]⟩,
  ⟨some 14,.load1 (.t 13),none,1,[14,13]⟩,
  ⟨some 15,.fadr 5 (.t 1),none,0,[15,1]⟩,
  ⟨some 16,.load1 (.t 15),none,4,[16,15]⟩,
  ⟨some 17,.fadr 4 (.t 4),none,3,[17,4]⟩,
  ⟨none,.store 1 (.t 17) (.t 14),none,19,[17,14]⟩,
  ⟨some 18,.fadr 5 (.t 4),none,63,[18,4]⟩,
  ⟨none,.store 1 (.t 18) (.t 16),none,127,[18,16]⟩]
theorem k44_4 (lo : Nat) (hx : XDK P E ro L K Q lo h [true, true, true, true, true, true, true, true] r44_4 ρ h) : XD P E ro L r44_4 K ρ h Q := XD_keeps rfl rfl hx
def r44_5 : List O := [⟨some 19,.fadr 4 (.t 1),none,0,[19,1]⟩,
  ⟨some 20,.load1 (.t 19),none,1,[20,19]⟩,
  ⟨some 21,.call (.k (.func 30 [] [])) [(.t 20)],none,3,[21,20]⟩,
  ⟨some 22,.bin .add (some .str) true (.k (.str [109,97,107,101,32])) (.t 21),none,7,[22,21]⟩,
  ⟨some 23,.bin .add (some .str) true (.t 22) (.k (.str [32])),none,15,[23,22]⟩,
  ⟨some 24,.fadr 5 (.t 1),none,0,[24,1]⟩,
  ⟨some 25,.load1 (.t 24),none,32,[25,24]⟩,
  ⟨some 26,.call (.k (.func 17 [] [])) [(.t 25)],none,103,[26,25]⟩,
  ⟨some 27,.bin .add (some .str) false (.t 23) (.t 26),none,255,[27,23,26]⟩,
  ⟨some 5,.mv (.t 27),none,511,[5,27]⟩]
theorem d44_5 (hx : XDQ P E ro L K Q h [true, true, true, true, true, false, false, true, true, true] r44_5 ρ h) : XD P E ro L r44_5 K ρ h Q := XD_quiet rfl rfl hx
def r44_6 : List O := [⟨some 29,.bin .eql (some .int) true (.t 10) (.k (.int .i64 2)),none,0,[29,10]⟩,
  ⟨some 28,.mv (.t 29),none,1,[28,29]⟩]
def r44_7 : List O := [⟨some 30,.fadr 3 (.t 1),none,0,[30,1]⟩,
  ⟨some 31,.load1 (.t 30),none,1,[31,30]⟩,
  ⟨some 32,.fadr 4 (.t 1),none,0,[32,1]⟩,
  ⟨some 33,.load1 (.t 32),none,4,[33,32]⟩,
  ⟨some 34,.fadr 5 (.t 1),none,0,[34,1]⟩,
  ⟨some 35,.load1 (.t 34),none,16,[35,34]⟩,
  ⟨some 36,.fadr 3 (.t 4),none,3,[36,4]⟩,
  ⟨none,.store 1 (.t 36) (.t 31),none,67,[36,31]⟩,
  ⟨some 37,.fadr 4 (.t 4),none,207,[37,4]⟩,
  ⟨none,.store 1 (.t 37) (.t 33),none,463,[37,33]⟩,
  ⟨some 38,.fadr 5 (.t 4),none,1023,[38,4]⟩,
  ⟨none,.store 1 (.t 38) (.t 35),none,2047,[38,35]⟩]
theorem k44_7 (lo : Nat) (hx : XDK P E ro L K Q lo h [true, true, true, true, true, true, true, true, true, true, true, true] r44_7 ρ h) : XD P E ro L r44_7 K ρ h Q := XD_keeps rfl rfl hx
def r44_8 : List O := [⟨some 39,.fadr 3 (.t 1),none,0,[39,1]⟩,
  ⟨some 40,.load1 (.t 39),none,1,[40,39]⟩,
  ⟨some 41,.call (.k (.func 30 [] [])) [(.t 40)],none,3,[41,40]⟩,
  ⟨some 42,.bin .add (some .str) true (.k (.str [109,111,118,101,32])) (.t 41),none,7,[42,41]⟩,
  ⟨some 43,.bin .add (some .str) true (.t 42) (.k (.str [32])),none,15,[43,42]⟩,
  ⟨some 44,.fadr 4 (.t 1),none,0,[44,1]⟩,
  ⟨some 45,.load1 (.t 44),none,32,[45,44]⟩,
  ⟨some 46,.call (.k (.func 30 [] [])) [(.t 45)],none,103,[46,45]⟩,
  ⟨some 47,.bin .add (some .str) false (.t 43) (.t 46),none,255,[47,43,46]⟩,
  ⟨some 48,.bin .add (some .str) true (.t 47) (.k (.str [32])),none,511,[48,47]⟩,
  ⟨some 49,.fadr 5 (.t 1),none,0,[49,1]⟩,
  ⟨some 50,.load1 (.t 49),none,1024,[50,49]⟩,
  ⟨some 51,.call (.k (.func 17 [] [])) [(.t 50)],none,3303,[51,50]⟩,
  ⟨some 52,.bin .add (some .str) false (.t 48) (.t 51),none,8191,[52,48,51]⟩,
  ⟨some 5,.mv (.t 52),none,16383,[5,52]⟩]
theorem d44_8 (hx : XDQ P E ro L K Q h [true, true, true, true, true, false, false, true, true, true, false, false, true, true, true] r44_8 ρ h) : XD P E ro L r44_8 K ρ h Q := XD_quiet rfl rfl hx
def r44_9 : List O := [⟨some 54,.bin .eql (some .int) true (.t 10) (.k (.int .i64 3)),none,0,[54,10]⟩,
  ⟨some 53,.mv (.t 54),none,1,[53,54]⟩]
def r44_10 : List O := [⟨some 55,.fadr 3 (.t 1),none,0,[55,1]⟩,
  ⟨some 56,.load1 (.t 55),none,1,[56,55]⟩,
  ⟨some 57,.fadr 6 (.t 1),none,0,[57,1]⟩,
  ⟨some 58,.load1 (.t 57),none,4,[58,57]⟩,
  ⟨some 59,.fadr 7 (.t 1),none,0,[59,1]⟩,
  ⟨some 60,.load1 (.t 59),none,16,[60,59]⟩,
  ⟨some 61,.fadr 3 (.t 4),none,3,[61,4]⟩,
  ⟨none,.store 1 (.t 61) (.t 56),none,67,[61,56]⟩,
  ⟨some 62,.fadr 6 (.t 4),none,207,[62,4]⟩,
  ⟨none,.store 1 (.t 62) (.t 58),none,463,[62,58]⟩,
  ⟨some 63,.fadr 7 (.t 4),none,1023,[63,4]⟩,
  ⟨none,.store 1 (.t 63) (.t 60),none,2047,[63,60]⟩]
theorem k44_10 (lo : Nat) (hx : XDK P E ro L K Q lo h [true, true, true, true, true, true, true, true, true, true, true, true] r44_10 ρ h) : XD P E ro L r44_10 K ρ h Q := XD_keeps rfl rfl hx
def r44_11 : List O := [⟨some 64,.fadr 3 (.t 1),none,0,[64,1]⟩,
  ⟨some 65,.load1 (.t 64),none,1,[65,64]⟩,
  ⟨some 66,.call (.k (.func 30 [] [])) [(.t 65)],none,3,[66,65]⟩,
  ⟨some 67,.bin .add (some .str) true (.k (.str [97,116,116,114,32])) (.t 66),none,7,[67,66]⟩,
  ⟨some 68,.bin .add (some .str) true (.t 67) (.k (.str [32])),none,15,[68,67]⟩,
  ⟨some 69,.fadr 6 (.t 1),none,0,[69,1]⟩,
  ⟨some 70,.load1 (.t 69),none,32,[70,69]⟩,
  ⟨some 71,.call (.k (.func 17 [] [])) [(.t 70)],none,103,[71,70]⟩,
  ⟨some 72,.bin .add (some .str) false (.t 68) (.t 71),none,255,[72,68,71]⟩,
  ⟨some 73,.bin .add (some .str) true (.t 72) (.k (.str [32])),none,511,[73,72]⟩,
  ⟨some 74,.fadr 7 (.t 1),none,0,[74,1]⟩,
  ⟨some 75,.load1 (.t 74),none,1024,[75,74]⟩,
  ⟨some 76,.call (.k (.func 17 [] [])) [(.t 75)],none,3303,[76,75]⟩,
  ⟨some 77,.bin .add (some .str) false (.t 73) (.t 76),none,8191,[77,73,76]⟩,
  ⟨some 5,.mv (.t 77),none,16383,[5,77]⟩]
theorem d44_11 (hx : XDQ P E ro L K Q h [true, true, true, true, true, false, false, true, true, true, false, false, true, true, true] r44_11 ρ h) : XD P E ro L r44_11 K ρ h Q := XD_quiet rfl rfl hx
def r44_12 : List O := [⟨some 2,.mv (.k (.str [])),none,0,[2]⟩,
  ⟨some 3,.mv (.k (.bool false)),none,1,[3]⟩]
def r44_13 : List O := [⟨some 78,.mv (.t 5),none,0,[78,5]⟩,
  ⟨some 79,.loadN 8 (.t 4),none,0,[79,4]⟩,
  ⟨some 80,.loadN 8 (.t 1),none,0,[80,1]⟩,
  ⟨some 81,.bin .eql (some (.fcons 0 2 true (.fcons 0 1 false .int (.fcons 1 1 false .int .fnil)) (.fcons 2 1 false .int (.fcons 3 1 false .int (.fcons 4 1 false .int (.fcons 5 1 false .str (.fcons 6 1 false .str (.fcons 7 1 false .str .fnil)))))))) false (.t 79) (.t 80),none,6,[81,79,80]⟩,
  ⟨some 2,.mv (.t 78),none,1,[2,78]⟩,
  ⟨some 3,.mv (.t 81),none,31,[3,81]⟩]
theorem d44_13 : XD P E ro L r44_13 K ρ h Q = XO P E ro L r44_13 K ρ h Q := XD_still rfl
def c44 : C := .seq (.region r44_0) (.seq (.region r44_1) (.seq (.region [⟨some 5,.mv (.k (.str [])),none,0,[5]⟩]) (.seq (.seq (.region r44_2) (.block 0 (.seq (.region r44_3) (.cond (.t 11) (.seq (.draw r44_4) (.draw r44_5)) (.seq (.region r44_6) (.cond (.t 28) (.seq (.draw r44_7) (.draw r44_8)) (.seq (.region r44_9) (.cond (.t 53) (.seq (.draw r44_10) (.draw r44_11)) (.seq (.region r44_12) (.ret)))))))))) (.seq (.draw r44_13) (.ret)))))
def fn44 : Fn := ⟨82, [.t 2, .t 3], c44⟩
/-! 45: orchard/orchardref27.queryWords -/
def r45_0 : List O := [⟨some 1,.box 39 (.t 0),none,0,[1,0]⟩,
  ⟨some 2,.mv (.k (.str [])),none,0,[2]⟩,
  ⟨some 3,.mv (.k (.bool false)),none,2,[3]⟩]
def r45_1 : List O := [⟨some 5,.bslice 9 4 [.str [],.str [],.str [],.str []] [(0,1,(.k (.str []))),(1,1,(.k (.str [110,111,100,101,32]))),(2,1,(.k (.str [108,105,115,116,32]))),(3,1,(.k (.str [97,116,116,114,115,32])))],none,0,[5]⟩,
  ⟨some 4,.mv (.t 5),none,1,[4,5]⟩]
def r45_2 : List O := [⟨some 6,.fadr 0 (.t 1),none,0,[6,1]⟩,
  ⟨some 7,.load1 (.t 6),none,1,[7,6]⟩,
  ⟨some 8,.bin .geq (some .int) true (.t 7) (.k (.int .i64 1)),none,3,[8,7]⟩,
  ⟨some 9,.mv (.t 8),none,7,[9,8]⟩,
  ⟨some 10,.fadr 0 (.t 1),some (9,true),15,[10,9,1]⟩,
  ⟨some 11,.load1 (.t 10),some (9,true),31,[11,9,10]⟩,
  ⟨some 12,.bin .leq (some .int) true (.t 11) (.k (.int .i64 3)),some (9,true),63,[12,9,11]⟩,
  ⟨some 13,.pick (.t 9) (.t 12) (.k (.bool false)),none,127,[13,9,12]⟩]
def r45_3 : List O := [⟨some 14,.mv (.t 4),none,0,[14,4]⟩,
  ⟨some 15,.fadr 0 (.t 1),none,0,[15,1]⟩,
  ⟨some 16,.load1 (.t 15),none,2,[16,15]⟩,
  ⟨some 17,.iadrL 1 (.t 14) (.t 16),none,7,[17,14,16]⟩,
  ⟨some 18,.load1 (.t 17),none,15,[18,17]⟩,
  ⟨some 19,.fadr 1 (.t 1),none,0,[19,1]⟩,
  ⟨some 20,.load1 (.t 19),none,32,[20,19]⟩,
  ⟨some 21,.call (.k (.func 17 [] [])) [(.t 20)],none,96,[21,20]⟩,
  ⟨some 22,.bin .add (some .str) false (.t 18) (.t 21),none,255,[22,18,21]⟩,
  ⟨some 23,.fadr 2 (.t 1),none,0,[23,1]⟩,
  ⟨some 24,.load1 (.t 23),none,512,[24,23]⟩,
  ⟨some 25,.bin .eql (some .int) true (.t 24) (.k (.int .i64 0)),none,1536,[25,24]⟩,
  ⟨some 2,.mv (.t 22),none,511,[2,22]⟩,
  ⟨some 3,.mv (.t 25),none,8191,[3,25]⟩]
theorem d45_3 (hx : XDQ P E ro L K Q h [true, true, true, true, true, true, true, true, true, false, false, false, true, true] r45_3 ρ h) : XD P E ro L r45_3 K ρ h Q := XD_quiet rfl rfl hx
def r45_4 : List O := [⟨some 26,.fadr 2 (.t 1),none,0,[26,1]⟩,
  ⟨some 27,.load1 (.t 26),none,1,[27,26]⟩,
  ⟨some 28,.call (.k (.func 30 [] [])) [(.t 27)],none,3,[28,27]⟩,
  ⟨some 29,.bin .add (some .str) true (.k (.str [112,97,116,104,32])) (.t 28),none,7,[29,28]⟩,
  ⟨some 30,.fadr 0 (.t 1),none,0,[30,1]⟩,
  ⟨some 31,.load1 (.t 30),none,16,[31,30]⟩,
  ⟨some 32,.bin .eql (some .int) true (.t 31) (.k (.int .i64 4)),none,48,[32,31]⟩,
  ⟨some 33,.mv (.t 32),none,119,[33,32]⟩,
  ⟨some 34,.fadr 1 (.t 1),some (33,true),247,[34,33,1]⟩,
  ⟨some 35,.load1 (.t 34),some (33,true),503,[35,33,34]⟩,
  ⟨some 36,.bin .eql (some .str) true (.t 35) (.k (.str [])),some (33,true),1015,[36,33,35]⟩,
  ⟨some 37,.pick (.t 33) (.t 36) (.k (.bool false)),none,2039,[37,33,36]⟩,
  ⟨some 2,.mv (.t 29),none,255,[2,29]⟩,
  ⟨some 3,.mv (.t 37),none,8191,[3,37]⟩]
theorem d45_4 (hx : XDQ P E ro L K Q h [true, true, true, true, false, false, false, true, true, true, true, true, true, true] r45_4 ρ h) : XD P E ro L r45_4 K ρ h Q := XD_quiet rfl rfl hx
def c45 : C := .seq (.region r45_0) (.seq (.region r45_1) (.seq (.seq (.region r45_2) (.cond (.t 13) (.seq (.draw r45_3) (.ret)) (.skip))) (.seq (.draw r45_4) (.ret))))
def fn45 : Fn := ⟨38, [.t 2, .t 3], c45⟩
/-! 46: orchard/orchardref04.sameOps -/
def r46_0 : List O := [⟨some 6,.mv (.t 0),none,0,[6,0]⟩,
  ⟨some 7,.lenL (.t 6),none,1,[7,6]⟩,
  ⟨some 8,.mv (.t 1),none,0,[8,1]⟩,
  ⟨some 9,.lenL (.t 8),none,4,[9,8]⟩,
  ⟨some 10,.bin .neq (some .int) false (.t 7) (.t 9),none,15,[10,7,9]⟩]
def r46_1 : List O := [⟨some 11,.mv (.t 5),none,0,[11,5]⟩,
  ⟨some 12,.mv (.t 0),none,0,[12,0]⟩,
  ⟨some 13,.lenL (.t 12),none,2,[13,12]⟩,
  ⟨some 14,.bin .lss (some .int) false (.t 11) (.t 13),none,7,[14,11,13]⟩]
def r46_2 : List O := [⟨some 17,.mv (.t 0),none,0,[17,0]⟩,
  ⟨some 18,.mv (.t 5),none,0,[18,5]⟩,
  ⟨some 19,.iadrL 8 (.t 17) (.t 18),none,3,[19,17,18]⟩,
  ⟨some 20,.loadN 8 (.t 19),none,7,[20,19]⟩,
  ⟨some 21,.mv (.t 1),none,0,[21,1]⟩,
  ⟨some 22,.mv (.t 5),none,0,[22,5]⟩,
  ⟨some 23,.iadrL 8 (.t 21) (.t 22),none,48,[23,21,22]⟩,
  ⟨some 24,.loadN 8 (.t 23),none,112,[24,23]⟩,
  ⟨some 25,.bin .neq (some (.fcons 0 2 true (.fcons 0 1 false .int (.fcons 1 1 false .int .fnil)) (.fcons 2 1 false .int (.fcons 3 1 false .int (.fcons 4 1 false .int (.fcons 5 1 false .str (.fcons 6 1 false .str (.fcons 7 1 false .str .fnil)))))))) false (.t 20) (.t 24),none,255,[25,20,24]⟩]
def r46_3 : List O := [⟨some 15,.mv (.t 5),none,0,[15,5]⟩,
  ⟨some 16,.bin .add (some .int) true (.t 15) (.k (.int .i64 1)),none,1,[16,15]⟩,
  ⟨some 5,.mv (.t 16),none,3,[5,16]⟩]
def b46_4 : C := .seq (.seq (.region r46_1) (.cond (.t 14) (.skip) (.exit 0))) (.seq (.block 1 (.seq (.draw r46_2) (.cond (.t 25) (.seq (.region [⟨some 4,.mv (.k (.bool false)),none,0,[4]⟩]) (.ret)) (.skip)))) (.region r46_3))
theorem u46_4 : XL P E ro L b46_4 K ρ h Q = X P E ro L (.c (.seq (.seq (.region r46_1) (.cond (.t 14) (.skip) (.exit 0))) (.seq (.block 1 (.seq (.draw r46_2) (.cond (.t 25) (.seq (.region [⟨some 4, .mv (.k (.bool false)), none, 0, [4]⟩]) (.ret)) (.skip)))) (.region r46_3))) :: .l b46_4 :: K) ρ h Q := XL_unroll b46_4
def c46 : C := .seq (.region [⟨some 4,.mv (.k (.bool false)),none,0,[4]⟩]) (.seq (.seq (.region r46_0) (.cond (.t 10) (.seq (.region [⟨some 4,.mv (.k (.bool false)),none,0,[4]⟩]) (.ret)) (.skip))) (.seq (.seq (.region [⟨some 5,.mv (.k (.int .i64 0)),none,0,[5]⟩]) (.block 0 (.loop b46_4))) (.seq (.region [⟨some 4,.mv (.k (.bool true)),none,0,[4]⟩]) (.ret))))
def fn46 : Fn := ⟨26, [.t 4], c46⟩
/-! 47: orchard/orchardref04.SamePart -/
def r47_0 : List O := [⟨some 2,.box 48 (.t 0),none,0,[2,0]⟩,
  ⟨some 3,.box 48 (.t 1),none,0,[3,1]⟩,
  ⟨some 4,.mv (.k (.bool false)),none,0,[4]⟩]
def r47_1 : List O := [⟨some 5,.fadr 0 (.t 2),none,0,[5,2]⟩,
  ⟨some 6,.load1 (.t 5),none,1,[6,5]⟩,
  ⟨some 7,.fadr 0 (.t 3),none,0,[7,3]⟩,
  ⟨some 8,.load1 (.t 7),none,4,[8,7]⟩,
  ⟨some 9,.bin .eql (some .int) false (.t 6) (.t 8),none,15,[9,6,8]⟩,
  ⟨some 10,.mv (.t 9),none,31,[10,9]⟩,
  ⟨some 11,.fadr 1 (.t 2),some (10,true),63,[11,10,2]⟩,
  ⟨some 12,.load1 (.t 11),some (10,true),127,[12,10,11]⟩,
  ⟨some 13,.fadr 1 (.t 3),some (10,true),63,[13,10,3]⟩,
  ⟨some 14,.load1 (.t 13),some (10,true),319,[14,10,13]⟩,
  ⟨some 15,.bin .eql (some .int) false (.t 12) (.t 14),some (10,true),1023,[15,10,12,14]⟩,
  ⟨some 16,.pick (.t 10) (.t 15) (.k (.bool false)),none,2047,[16,10,15]⟩,
  ⟨some 17,.mv (.t 16),none,4095,[17,16]⟩,
  ⟨some 18,.fadr 2 (.t 2),some (17,true),8191,[18,17,2]⟩,
  ⟨some 19,.load1 (.t 18),some (17,true),16383,[19,17,18]⟩,
  ⟨some 20,.fadr 2 (.t 3),some (17,true),8191,[20,17,3]⟩,
  ⟨some 21,.load1 (.t 20),some (17,true),40959,[21,17,20]⟩,
  ⟨some 22,.bin .eql (some .int) false (.t 19) (.t 21),some (17,true),131071,[22,17,19,21]⟩,
  ⟨some 23,.pick (.t 17) (.t 22) (.k (.bool false)),none,262143,[23,17,22]⟩,
  ⟨some 24,.mv (.t 23),none,524287,[24,23]⟩,
  ⟨some 25,.fadr 3 (.t 2),some (24,true),1048575,[25,24,2]⟩,
  ⟨some 26,.load1 (.t 25),some (24,true),2097151,[26,24,25]⟩,
  ⟨some 27,.b2s (.t 26),some (24,true),4194303,[27,24,26]⟩,
  ⟨some 28,.fadr 3 (.t 3),some (24,true),1048575,[28,24,3]⟩,
  ⟨some 29,.load1 (.t 28),some (24,true),9437183,[29,24,28]⟩,
  ⟨some 30,.b2s (.t 29),some (24,true),26214399,[30,24,29]⟩,
  ⟨some 31,.bin .eql (some .str) false (.t 27) (.t 30),some (24,true),67108863,[31,24,27,30]⟩,
  ⟨some 32,.pick (.t 24) (.t 31) (.k (.bool false)),none,134217727,[32,24,31]⟩,
  ⟨some 4,.mv (.t 32),none,268435455,[4,32]⟩]
def c47 : C := .seq (.region r47_0) (.seq (.region r47_1) (.ret))
def fn47 : Fn := ⟨33, [.t 4], c47⟩
/-! 51: (*strings.Builder).Grow -/
def r51_0 : List O := [⟨some 4,.mv (.t 0),none,0,[4,0]⟩,
  ⟨some 5,.call (.k (.func 40 [] [])) [(.t 4)],none,1,[5,4]⟩]
def r51_1 : List O := [⟨some 6,.mv (.t 1),none,0,[6,1]⟩,
  ⟨some 7,.bin .lss (some .int) true (.t 6) (.k (.int .i64 0)),none,1,[7,6]⟩]
def r51_2 : List O := [⟨some 8,.mkI 9 (.k (.str [115,116,114,105,110,103,115,46,66,117,105,108,100,101,114,46,71,114,111,119,58,32,110,101,103,97,116,105,118,101,32,99,111,117,110,116])),none,0,[8]⟩,
  ⟨none,.bad,none,1,[]⟩]
def r51_3 : List O := [⟨some 9,.mv (.t 0),none,0,[9,0]⟩,
  ⟨some 10,.nilck (.t 9),none,1,[10,9]⟩,
  ⟨some 11,.fadr 1 (.t 10),none,3,[11,10]⟩,
  ⟨some 12,.load1 (.t 11),none,7,[12,11]⟩,
  ⟨some 13,.capL (.t 12),none,15,[13,12]⟩,
  ⟨some 14,.mv (.t 0),none,0,[14,0]⟩,
  ⟨some 15,.nilck (.t 14),none,32,[15,14]⟩,
  ⟨some 16,.fadr 1 (.t 15),none,96,[16,15]⟩,
  ⟨some 17,.load1 (.t 16),none,224,[17,16]⟩,
  ⟨some 18,.lenL (.t 17),none,480,[18,17]⟩,
  ⟨some 19,.bin .sub (some .int) false (.t 13) (.t 18),none,1023,[19,13,18]⟩,
  ⟨some 20,.mv (.t 1),none,0,[20,1]⟩,
  ⟨some 21,.bin .lss (some .int) false (.t 19) (.t 20),none,4095,[21,19,20]⟩]
theorem d51_3 : XD P E ro L r51_3 K ρ h Q = XO P E ro L r51_3 K ρ h Q := XD_still rfl
def r51_4 : List O := [⟨some 22,.mv (.t 0),none,0,[22,0]⟩,
  ⟨some 23,.mv (.t 1),none,0,[23,1]⟩,
  ⟨some 24,.call (.k (.func 59 [] [])) [(.t 22),(.t 23)],none,3,[24,22,23]⟩]
def c51 : C := .seq (.region r51_0) (.seq (.seq (.region r51_1) (.cond (.t 7) (.region r51_2) (.skip))) (.seq (.draw r51_3) (.cond (.t 21) (.region r51_4) (.skip))))
def fn51 : Fn := ⟨25, [], c51⟩
/-! 59: (*strings.Builder).grow -/
def r59_0 : List O := [⟨some 5,.mv (.t 0),none,0,[5,0]⟩,
  ⟨some 6,.nilck (.t 5),none,1,[6,5]⟩,
  ⟨some 7,.fadr 1 (.t 6),none,3,[7,6]⟩,
  ⟨some 8,.load1 (.t 7),none,7,[8,7]⟩,
  ⟨some 9,.capL (.t 8),none,15,[9,8]⟩,
  ⟨some 10,.bin .mul (some .int) true (.k (.int .i64 2)) (.t 9),none,31,[10,9]⟩,
  ⟨some 11,.mv (.t 1),none,0,[11,1]⟩,
  ⟨some 12,.bin .add (some .int) false (.t 10) (.t 11),none,127,[12,10,11]⟩,
  ⟨some 13,.mkNZ 5 (.t 12),none,255,[13,12]⟩,
  ⟨some 14,.mv (.t 0),none,0,[14,0]⟩,
  ⟨some 15,.nilck (.t 14),none,512,[15,14]⟩,
  ⟨some 16,.fadr 1 (.t 15),none,1536,[16,15]⟩,
  ⟨some 17,.load1 (.t 16),none,3584,[17,16]⟩,
  ⟨some 18,.lenL (.t 17),none,7680,[18,17]⟩,
  ⟨some 19,.slL 1 (.t 13) none (some (.t 18)) none,none,16383,[19,13,18]⟩,
  ⟨some 4,.mv (.t 19),none,32767,[4,19]⟩]
theorem d59_0 (hx : XDQ P E ro L K Q h [true, true, true, true, true, true, true, true, true, false, false, false, false, false, true, true] r59_0 ρ h) : XD P E ro L r59_0 K ρ h Q := XD_quiet rfl rfl hx
def r59_1 : List O := [⟨some 20,.mv (.t 4),none,0,[20,4]⟩,
  ⟨some 21,.mv (.t 0),none,0,[21,0]⟩,
  ⟨some 22,.nilck (.t 21),none,2,[22,21]⟩,
  ⟨some 23,.fadr 1 (.t 22),none,6,[23,22]⟩,
  ⟨some 24,.load1 (.t 23),none,14,[24,23]⟩,
  ⟨some 25,.copy 1 (.t 20) (.t 24),none,31,[25,20,24]⟩]
def r59_2 : List O := [⟨some 26,.mv (.t 0),none,0,[26,0]⟩,
  ⟨some 27,.mv (.t 4),none,0,[27,4]⟩,
  ⟨some 28,.nilck (.t 26),none,3,[28,26]⟩,
  ⟨some 29,.fadr 1 (.t 28),none,7,[29,28]⟩,
  ⟨none,.store 1 (.t 29) (.t 27),none,15,[29,27]⟩]
def c59 : C := .seq (.draw r59_0) (.seq (.region r59_1) (.region r59_2))
def fn59 : Fn := ⟨30, [], c59⟩
end Go.AM.Sc
