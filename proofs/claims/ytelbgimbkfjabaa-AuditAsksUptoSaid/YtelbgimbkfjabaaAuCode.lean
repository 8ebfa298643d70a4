/- My own texts of the evaluator, its soundness and its symbolic runs, laid for this claim. -/
import Derived.Test.YtelbgimbkfjabaaScData
set_option linter.unusedSimpArgs false
set_option linter.unusedVariables false
namespace Go.AM.Sc
/-! 5: orchard/orchardlaw26.AuditAsks -/
def r5_0 : List O := [⟨some 13,.call (.k (.func 6 [] [])) [],none,0,[13]⟩,
  ⟨some 14,.un .not (.t 13),none,1,[14,13]⟩,
  ⟨some 15,.mv (.t 14),none,3,[15,14]⟩,
  ⟨some 16,.mv (.t 0),some (15,false),7,[16,15,0]⟩,
  ⟨some 17,.call (.k (.func 13 [] [])) [(.t 16)],some (15,false),15,[17,15,16]⟩,
  ⟨some 18,.mv (.t 0),some (15,false),7,[18,15,0]⟩,
  ⟨some 19,.call (.k (.func 14 [] [])) [(.t 18)],some (15,false),63,[19,15,18]⟩,
  ⟨some 20,.call (.k (.func 12 [] [])) [(.t 17),(.t 19)],some (15,false),127,[20,15,17,19]⟩,
  ⟨some 21,.un .not (.t 20),some (15,false),255,[21,15,20]⟩,
  ⟨some 22,.pick (.t 15) (.k (.bool true)) (.t 21),none,511,[22,15,21]⟩,
  ⟨some 23,.mv (.t 22),none,1023,[23,22]⟩,
  ⟨some 24,.mv (.t 0),some (23,false),2047,[24,23,0]⟩,
  ⟨some 25,.mv (.t 1),some (23,false),2047,[25,23,1]⟩,
  ⟨some 26,.call (.k (.func 15 [] [])) [(.t 24),(.t 25)],some (23,false),8191,[26,23,24,25]⟩,
  ⟨some 27,.mv (.t 0),some (23,false),2047,[27,23,0]⟩,
  ⟨some 28,.mv (.t 1),some (23,false),2047,[28,23,1]⟩,
  ⟨some 29,.call (.k (.func 16 [] [])) [(.t 27),(.t 28)],some (23,false),65535,[29,23,27,28]⟩,
  ⟨some 30,.bin .neq (some .bool) false (.t 26) (.t 29),some (23,false),131071,[30,23,26,29]⟩,
  ⟨some 31,.pick (.t 23) (.k (.bool true)) (.t 30),none,262143,[31,23,30]⟩]
def r5_1 : List O := [⟨some 33,.mv (.t 0),none,0,[33,0]⟩,
  ⟨some 34,.mv (.t 2),none,0,[34,2]⟩,
  ⟨some 35,.call (.k (.func 10 [] [])) [(.t 33),(.t 34)],none,3,[35,33,34]⟩,
  ⟨some 32,.mv (.t 35),none,7,[32,35]⟩,
  ⟨some 36,.extract (.t 32) 0,none,15,[36,32]⟩,
  ⟨some 37,.extract (.t 32) 1,none,15,[37,32]⟩,
  ⟨some 7,.mv (.t 36),none,31,[7,36]⟩,
  ⟨some 8,.mv (.t 37),none,127,[8,37]⟩]
def r5_2 : List O := [⟨some 39,.mv (.t 0),none,0,[39,0]⟩,
  ⟨some 40,.mv (.t 2),none,0,[40,2]⟩,
  ⟨some 41,.call (.k (.func 9 [] [])) [(.t 39),(.t 40)],none,3,[41,39,40]⟩,
  ⟨some 38,.mv (.t 41),none,7,[38,41]⟩,
  ⟨some 42,.extract (.t 38) 0,none,15,[42,38]⟩,
  ⟨some 43,.extract (.t 38) 1,none,15,[43,38]⟩,
  ⟨some 9,.mv (.t 42),none,31,[9,42]⟩,
  ⟨some 10,.mv (.t 43),none,127,[10,43]⟩]
def r5_3 : List O := [⟨some 44,.mv (.t 7),none,0,[44,7]⟩,
  ⟨some 45,.mv (.t 9),none,0,[45,9]⟩,
  ⟨some 46,.bin .neq (some .int) false (.t 44) (.t 45),none,3,[46,44,45]⟩,
  ⟨some 47,.mv (.t 46),none,7,[47,46]⟩,
  ⟨some 48,.mv (.t 8),some (47,false),15,[48,47,8]⟩,
  ⟨some 49,.lenL (.t 48),some (47,false),31,[49,47,48]⟩,
  ⟨some 50,.mv (.t 10),some (47,false),15,[50,47,10]⟩,
  ⟨some 51,.lenL (.t 50),some (47,false),79,[51,47,50]⟩,
  ⟨some 52,.bin .neq (some .int) false (.t 49) (.t 51),some (47,false),255,[52,47,49,51]⟩,
  ⟨some 53,.pick (.t 47) (.k (.bool true)) (.t 52),none,511,[53,47,52]⟩]
def r5_4 : List O := [⟨some 54,.mv (.t 8),none,0,[54,8]⟩,
  ⟨some 55,.lenL (.t 54),none,1,[55,54]⟩,
  ⟨some 56,.mv (.k (.int .i64 0)),none,0,[56]⟩]
def r5_5 : List O := [⟨some 58,.mv (.t 56),none,0,[58,56]⟩,
  ⟨some 11,.mv (.t 58),none,1,[11,58]⟩]
def r5_6 : List O := [⟨some 59,.mv (.t 8),none,0,[59,8]⟩,
  ⟨some 60,.mv (.t 11),none,0,[60,11]⟩,
  ⟨some 61,.iadrL 56 (.t 59) (.t 60),none,3,[61,59,60]⟩,
  ⟨some 62,.loadN 56 (.t 61),none,7,[62,61]⟩,
  ⟨some 63,.mv (.t 10),none,0,[63,10]⟩,
  ⟨some 64,.mv (.t 11),none,0,[64,11]⟩,
  ⟨some 65,.iadrL 56 (.t 63) (.t 64),none,48,[65,63,64]⟩,
  ⟨some 66,.loadN 56 (.t 65),none,112,[66,65]⟩,
  ⟨some 67,.call (.k (.func 11 [] [])) [(.t 62),(.t 66)],none,255,[67,62,66]⟩,
  ⟨some 68,.un .not (.t 67),none,511,[68,67]⟩]
theorem d5_6 {P : Program} {E : Env} {ro : Option Nat} {L : Nat} {K : List Fr} {ρ : Nat → V} {h : H} {Q : Po} (hx : XDO P E ro L r5_6 K ρ h Q) : XD P E ro L r5_6 K ρ h Q := XD_ord rfl hx
def r5_7 : List O := [⟨some 69,.bin .add (some .int) true (.t 56) (.k (.int .i64 1)),none,0,[69,56]⟩,
  ⟨some 56,.mv (.t 69),none,1,[56,69]⟩]
def b5_8 : C := .seq (.region [⟨some 57,.bin .lss (some .int) false (.t 56) (.t 55),none,0,[57,56,55]⟩]) (.seq (.cond (.t 57) (.skip) (.exit 0)) (.seq (.block 1 (.seq (.region r5_5) (.seq (.draw r5_6) (.cond (.t 68) (.seq (.region [⟨some 6,.mv (.k (.bool false)),none,0,[6]⟩]) (.ret)) (.skip))))) (.region r5_7)))
theorem u5_8 {P : Program} {E : Env} {ro : Option Nat} {L : Nat} {K : List Fr} {ρ : Nat → V} {h : H} {Q : Po} : XL P E ro L b5_8 K ρ h Q = X P E ro L (.c (.seq (.region [⟨some 57, .bin .lss (some .int) false (.t 56) (.t 55), none, 0, [57, 56, 55]⟩]) (.seq (.cond (.t 57) (.skip) (.exit 0)) (.seq (.block 1 (.seq (.region r5_5) (.seq (.draw r5_6) (.cond (.t 68) (.seq (.region [⟨some 6, .mv (.k (.bool false)), none, 0, [6]⟩]) (.ret)) (.skip))))) (.region r5_7)))) :: .l b5_8 :: K) ρ h Q := XL_unroll b5_8
def r5_9 : List O := [⟨some 70,.mv (.t 0),none,0,[70,0]⟩,
  ⟨some 71,.lenL (.t 70),none,1,[71,70]⟩,
  ⟨some 72,.mv (.k (.int .i64 0)),none,0,[72]⟩]
def r5_10 : List O := [⟨some 74,.mv (.t 72),none,0,[74,72]⟩,
  ⟨some 12,.mv (.t 74),none,1,[12,74]⟩]
def r5_11 : List O := [⟨some 75,.mv (.t 0),none,0,[75,0]⟩,
  ⟨some 76,.iadrL 21 (.t 75) (.k (.int .i64 0)),none,1,[76,75]⟩,
  ⟨some 77,.loadN 21 (.t 76),none,3,[77,76]⟩,
  ⟨some 78,.mv (.t 0),none,0,[78,0]⟩,
  ⟨some 79,.mv (.t 12),none,0,[79,12]⟩,
  ⟨some 80,.iadrL 21 (.t 78) (.t 79),none,24,[80,78,79]⟩,
  ⟨some 81,.loadN 21 (.t 80),none,56,[81,80]⟩,
  ⟨some 82,.call (.k (.func 17 [] [])) [(.t 77),(.t 81)],none,127,[82,77,81]⟩,
  ⟨some 83,.mv (.t 0),none,0,[83,0]⟩,
  ⟨some 84,.iadrL 21 (.t 83) (.k (.int .i64 0)),none,256,[84,83]⟩,
  ⟨some 85,.loadN 21 (.t 84),none,768,[85,84]⟩,
  ⟨some 86,.mv (.t 0),none,0,[86,0]⟩,
  ⟨some 87,.mv (.t 12),none,0,[87,12]⟩,
  ⟨some 88,.iadrL 21 (.t 86) (.t 87),none,6144,[88,86,87]⟩,
  ⟨some 89,.loadN 21 (.t 88),none,14336,[89,88]⟩,
  ⟨some 90,.call (.k (.func 18 [] [])) [(.t 85),(.t 89)],none,32767,[90,85,89]⟩,
  ⟨some 91,.bin .neq (some .bool) false (.t 82) (.t 90),none,65535,[91,82,90]⟩]
theorem d5_11 {P : Program} {E : Env} {ro : Option Nat} {L : Nat} {K : List Fr} {ρ : Nat → V} {h : H} {Q : Po} (hx : XDQ P E ro L K Q h [true, true, true, true, true, true, true, true, false, false, false, false, false, false, false, true, true] r5_11 ρ h) : XD P E ro L r5_11 K ρ h Q := XD_quiet rfl rfl hx
theorem k5_11 {P : Program} {E : Env} {ro : Option Nat} {L : Nat} {K : List Fr} {ρ : Nat → V} {h : H} {Q : Po} (lo : Nat) (hx : XDK P E ro L K Q lo h [true, true, true, true, true, true, true, true, false, false, false, false, false, false, false, true, true] r5_11 ρ h) : XD P E ro L r5_11 K ρ h Q := XD_keeps rfl rfl hx
def r5_12 : List O := [⟨some 92,.bin .add (some .int) true (.t 72) (.k (.int .i64 1)),none,0,[92,72]⟩,
  ⟨some 72,.mv (.t 92),none,1,[72,92]⟩]
def b5_13 : C := .seq (.region [⟨some 73,.bin .lss (some .int) false (.t 72) (.t 71),none,0,[73,72,71]⟩]) (.seq (.cond (.t 73) (.skip) (.exit 2)) (.seq (.block 3 (.seq (.region r5_10) (.seq (.draw r5_11) (.cond (.t 91) (.seq (.region [⟨some 6,.mv (.k (.bool false)),none,0,[6]⟩]) (.ret)) (.skip))))) (.region r5_12)))
theorem u5_13 {P : Program} {E : Env} {ro : Option Nat} {L : Nat} {K : List Fr} {ρ : Nat → V} {h : H} {Q : Po} : XL P E ro L b5_13 K ρ h Q = X P E ro L (.c (.seq (.region [⟨some 73, .bin .lss (some .int) false (.t 72) (.t 71), none, 0, [73, 72, 71]⟩]) (.seq (.cond (.t 73) (.skip) (.exit 2)) (.seq (.block 3 (.seq (.region r5_10) (.seq (.draw r5_11) (.cond (.t 91) (.seq (.region [⟨some 6, .mv (.k (.bool false)), none, 0, [6]⟩]) (.ret)) (.skip))))) (.region r5_12)))) :: .l b5_13 :: K) ρ h Q := XL_unroll b5_13
def c5 : C := .seq (.region [⟨some 6,.mv (.k (.bool false)),none,0,[6]⟩]) (.seq (.seq (.region r5_0) (.cond (.t 31) (.seq (.region [⟨some 6,.mv (.k (.bool false)),none,0,[6]⟩]) (.ret)) (.skip))) (.seq (.region r5_1) (.seq (.region r5_2) (.seq (.seq (.region r5_3) (.cond (.t 53) (.seq (.region [⟨some 6,.mv (.k (.bool false)),none,0,[6]⟩]) (.ret)) (.skip))) (.seq (.seq (.region r5_4) (.block 0 (.loop b5_8))) (.seq (.seq (.region r5_9) (.block 2 (.loop b5_13))) (.seq (.region [⟨some 6,.mv (.k (.bool true)),none,0,[6]⟩]) (.ret))))))))
def fn5 : Fn := ⟨93, [.t 6], c5⟩
/-! 9: orchard/orchardref26.Log -/
def r9_0 : List O := [⟨some 4,.mv (.k (.int .i64 0)),none,0,[4]⟩,
  ⟨some 5,.mv (.k (.slice none 0 0 false)),none,1,[5]⟩]
def r9_1 : List O := [⟨some 15,.mv (.t 8),none,0,[15,8]⟩,
  ⟨some 16,.mv (.t 0),none,0,[16,0]⟩,
  ⟨some 17,.lenL (.t 16),none,2,[17,16]⟩,
  ⟨some 18,.bin .lss (some .int) false (.t 15) (.t 17),none,7,[18,15,17]⟩]
def r9_2 : List O := [⟨some 21,.mv (.t 0),none,0,[21,0]⟩,
  ⟨some 22,.mv (.t 8),none,0,[22,8]⟩,
  ⟨some 23,.iadrL 21 (.t 21) (.t 22),none,3,[23,21,22]⟩,
  ⟨some 24,.fadr 2 (.t 23),none,7,[24,23]⟩,
  ⟨some 25,.load1 (.t 24),none,15,[25,24]⟩,
  ⟨some 26,.mv (.t 25),none,31,[26,25]⟩,
  ⟨some 27,.mv (.t 0),some (26,true),63,[27,26,0]⟩,
  ⟨some 28,.mv (.t 8),some (26,true),63,[28,26,8]⟩,
  ⟨some 29,.iadrL 21 (.t 27) (.t 28),some (26,true),255,[29,26,27,28]⟩,
  ⟨some 30,.fadr 0 (.t 29),some (26,true),511,[30,26,29]⟩,
  ⟨some 31,.fadr 0 (.t 30),some (26,true),1023,[31,26,30]⟩,
  ⟨some 32,.load1 (.t 31),some (26,true),2047,[32,26,31]⟩,
  ⟨some 33,.mv (.t 1),some (26,true),63,[33,26,1]⟩,
  ⟨some 34,.bin .eql (some .int) false (.t 32) (.t 33),some (26,true),8191,[34,26,32,33]⟩,
  ⟨some 35,.pick (.t 26) (.t 34) (.k (.bool false)),none,16383,[35,26,34]⟩,
  ⟨some 36,.mv (.t 35),none,32767,[36,35]⟩,
  ⟨some 37,.mv (.t 0),some (36,true),65535,[37,36,0]⟩,
  ⟨some 38,.mv (.t 8),some (36,true),65535,[38,36,8]⟩,
  ⟨some 39,.iadrL 21 (.t 37) (.t 38),some (36,true),262143,[39,36,37,38]⟩,
  ⟨some 40,.loadN 21 (.t 39),some (36,true),524287,[40,36,39]⟩,
  ⟨some 41,.call (.k (.func 27 [] [])) [(.t 40)],some (36,true),1048575,[41,36,40]⟩,
  ⟨some 42,.pick (.t 36) (.t 41) (.k (.bool false)),none,2097151,[42,36,41]⟩,
  ⟨some 43,.mv (.t 42),none,4194303,[43,42]⟩,
  ⟨some 44,.mv (.t 7),some (43,true),8388607,[44,43,7]⟩,
  ⟨some 45,.un .not (.t 44),some (43,true),16777215,[45,43,44]⟩,
  ⟨some 46,.mv (.t 45),some (43,true),33554431,[46,43,45]⟩,
  ⟨some 47,.mv (.t 0),some (46,false),67108863,[47,46,0]⟩,
  ⟨some 48,.mv (.t 8),some (46,false),67108863,[48,46,8]⟩,
  ⟨some 49,.iadrL 21 (.t 47) (.t 48),some (46,false),268435455,[49,46,47,48]⟩,
  ⟨some 50,.fadr 6 (.t 49),some (46,false),536870911,[50,46,49]⟩,
  ⟨some 51,.load1 (.t 50),some (46,false),1073741823,[51,46,50]⟩,
  ⟨some 52,.mv (.t 6),some (46,false),67108863,[52,46,6]⟩,
  ⟨some 53,.bin .lss (some .int) false (.t 51) (.t 52),some (46,false),4294967295,[53,46,51,52]⟩,
  ⟨some 54,.pick (.t 46) (.k (.bool true)) (.t 53),some (43,true),8589934591,[54,43,46,53]⟩,
  ⟨some 55,.pick (.t 43) (.t 54) (.k (.bool false)),none,17179869183,[55,43,54]⟩]
def r9_3 : List O := [⟨some 56,.mv (.t 0),none,0,[56,0]⟩,
  ⟨some 57,.mv (.t 8),none,0,[57,8]⟩,
  ⟨some 58,.iadrL 21 (.t 56) (.t 57),none,3,[58,56,57]⟩,
  ⟨some 59,.fadr 6 (.t 58),none,7,[59,58]⟩,
  ⟨some 60,.load1 (.t 59),none,15,[60,59]⟩,
  ⟨some 6,.mv (.t 60),none,31,[6,60]⟩]
def r9_4 : List O := [⟨some 19,.mv (.t 8),none,0,[19,8]⟩,
  ⟨some 20,.bin .add (some .int) true (.t 19) (.k (.int .i64 1)),none,1,[20,19]⟩,
  ⟨some 8,.mv (.t 20),none,3,[8,20]⟩]
def b9_5 : C := .seq (.seq (.region r9_1) (.cond (.t 18) (.skip) (.exit 0))) (.seq (.block 1 (.seq (.region r9_2) (.cond (.t 55) (.seq (.region r9_3) (.region [⟨some 7,.mv (.k (.bool true)),none,0,[7]⟩])) (.skip)))) (.region r9_4))
theorem u9_5 {P : Program} {E : Env} {ro : Option Nat} {L : Nat} {K : List Fr} {ρ : Nat → V} {h : H} {Q : Po} : XL P E ro L b9_5 K ρ h Q = X P E ro L (.c (.seq (.seq (.region r9_1) (.cond (.t 18) (.skip) (.exit 0))) (.seq (.block 1 (.seq (.region r9_2) (.cond (.t 55) (.seq (.region r9_3) (.region [⟨some 7, .mv (.k (.bool true)), none, 0, [7]⟩])) (.skip)))) (.region r9_4))) :: .l b9_5 :: K) ρ h Q := XL_unroll b9_5
def r9_6 : List O := [⟨some 61,.mv (.t 6),none,0,[61,6]⟩,
  ⟨some 10,.mv (.t 61),none,1,[10,61]⟩]
def r9_7 : List O := [⟨some 65,.mv (.t 12),none,0,[65,12]⟩,
  ⟨some 66,.mv (.t 0),none,0,[66,0]⟩,
  ⟨some 67,.lenL (.t 66),none,2,[67,66]⟩,
  ⟨some 68,.bin .lss (some .int) false (.t 65) (.t 67),none,7,[68,65,67]⟩,
  ⟨some 69,.mv (.t 68),none,15,[69,68]⟩,
  ⟨some 70,.mv (.t 11),some (69,true),31,[70,69,11]⟩,
  ⟨some 71,.un .not (.t 70),some (69,true),63,[71,69,70]⟩,
  ⟨some 72,.pick (.t 69) (.t 71) (.k (.bool false)),none,127,[72,69,71]⟩]
def r9_8 : List O := [⟨some 75,.mv (.t 0),none,0,[75,0]⟩,
  ⟨some 76,.mv (.t 12),none,0,[76,12]⟩,
  ⟨some 77,.iadrL 21 (.t 75) (.t 76),none,3,[77,75,76]⟩,
  ⟨some 78,.fadr 2 (.t 77),none,7,[78,77]⟩,
  ⟨some 79,.load1 (.t 78),none,15,[79,78]⟩,
  ⟨some 80,.mv (.t 79),none,31,[80,79]⟩,
  ⟨some 81,.mv (.t 0),some (80,true),63,[81,80,0]⟩,
  ⟨some 82,.mv (.t 12),some (80,true),63,[82,80,12]⟩,
  ⟨some 83,.iadrL 21 (.t 81) (.t 82),some (80,true),255,[83,80,81,82]⟩,
  ⟨some 84,.fadr 0 (.t 83),some (80,true),511,[84,80,83]⟩,
  ⟨some 85,.fadr 0 (.t 84),some (80,true),1023,[85,80,84]⟩,
  ⟨some 86,.load1 (.t 85),some (80,true),2047,[86,80,85]⟩,
  ⟨some 87,.mv (.t 1),some (80,true),63,[87,80,1]⟩,
  ⟨some 88,.bin .eql (some .int) false (.t 86) (.t 87),some (80,true),8191,[88,80,86,87]⟩,
  ⟨some 89,.pick (.t 80) (.t 88) (.k (.bool false)),none,16383,[89,80,88]⟩]
def r9_9 : List O := [⟨some 91,.mv (.t 0),none,0,[91,0]⟩,
  ⟨some 92,.mv (.t 12),none,0,[92,12]⟩,
  ⟨some 93,.iadrL 21 (.t 91) (.t 92),none,3,[93,91,92]⟩,
  ⟨some 94,.loadN 21 (.t 93),none,7,[94,93]⟩,
  ⟨some 95,.mv (.t 10),none,0,[95,10]⟩,
  ⟨some 96,.call (.k (.func 28 [] [])) [(.t 94),(.t 95)],none,31,[96,94,95]⟩,
  ⟨some 90,.mv (.t 96),none,63,[90,96]⟩,
  ⟨some 97,.extract (.t 90) 0,none,127,[97,90]⟩,
  ⟨some 98,.extract (.t 90) 1,none,127,[98,90]⟩,
  ⟨some 13,.alloc 49 [.int .i64 0,.int .i64 0,.int .i64 0,.int .i64 0,.int .i64 0,.int .i64 0,.int .i64 0,.int .i64 0,.str [],.str [],.str [],.int .i64 0,.int .i64 0,(.slice none 0 0 false),.int .i64 0,.int .i64 0,.int .i64 0,.int .i64 0,.int .i64 0,.int .i64 0,.int .i64 0,.int .i64 0,.int .i64 0,.int .i64 0,.int .i64 0,.int .i64 0,.int .i64 0,.int .i64 0,.int .i64 0,.int .i64 0,.int .i64 0,.int .i64 0,.int .i64 0,.int .i64 0,.int .i64 0,.int .i64 0,.int .i64 0,.int .i64 0,.int .i64 0,.int .i64 0,.int .i64 0,.int .i64 0,.int .i64 0,.int .i64 0,.int .i64 0,.int .i64 0,.int .i64 0,.int .i64 0,.int .i64 0,.int .i64 0,.int .i64 0,.int .i64 0,(.slice none 0 0 false),.int .i64 0,.int .i64 0,.int .i64 0],none,0,[13]⟩,
  ⟨none,.store 56 (.t 13) (.t 97),none,767,[13,97]⟩,
  ⟨some 14,.mv (.t 98),none,2047,[14,98]⟩]
def r9_10 : List O := [⟨some 100,.mv (.t 9),none,0,[100,9]⟩,
  ⟨some 101,.loadN 56 (.t 13),none,0,[101,13]⟩,
  ⟨some 102,.call (.k (.func 29 [] [])) [(.t 101)],none,2,[102,101]⟩,
  ⟨some 103,.bslice 49 1 [.int .i64 0,.int .i64 0,.int .i64 0,.int .i64 0,.int .i64 0,.int .i64 0,.int .i64 0,.int .i64 0,.str [],.str [],.str [],.int .i64 0,.int .i64 0,(.slice none 0 0 false),.int .i64 0,.int .i64 0,.int .i64 0,.int .i64 0,.int .i64 0,.int .i64 0,.int .i64 0,.int .i64 0,.int .i64 0,.int .i64 0,.int .i64 0,.int .i64 0,.int .i64 0,.int .i64 0,.int .i64 0,.int .i64 0,.int .i64 0,.int .i64 0,.int .i64 0,.int .i64 0,.int .i64 0,.int .i64 0,.int .i64 0,.int .i64 0,.int .i64 0,.int .i64 0,.int .i64 0,.int .i64 0,.int .i64 0,.int .i64 0,.int .i64 0,.int .i64 0,.int .i64 0,.int .i64 0,.int .i64 0,.int .i64 0,.int .i64 0,.int .i64 0,(.slice none 0 0 false),.int .i64 0,.int .i64 0,.int .i64 0] [(0,56,(.t 102))],none,6,[103,102]⟩,
  ⟨some 104,.app 49 56 504 (.t 100) (.t 103),none,15,[104,100,103]⟩,
  ⟨some 9,.mv (.t 104),none,31,[9,104]⟩]
def r9_11 : List O := [⟨some 73,.mv (.t 12),none,0,[73,12]⟩,
  ⟨some 74,.bin .add (some .int) true (.t 73) (.k (.int .i64 1)),none,1,[74,73]⟩,
  ⟨some 12,.mv (.t 74),none,3,[12,74]⟩]
def b9_12 : C := .seq (.seq (.region r9_7) (.cond (.t 72) (.skip) (.exit 4))) (.seq (.block 5 (.seq (.region r9_8) (.cond (.t 89) (.seq (.region r9_9) (.seq (.region [⟨some 99,.mv (.t 14),none,0,[99,14]⟩]) (.cond (.t 99) (.seq (.region r9_10) (.region [⟨some 11,.mv (.k (.bool true)),none,0,[11]⟩])) (.skip)))) (.skip)))) (.region r9_11))
theorem u9_12 {P : Program} {E : Env} {ro : Option Nat} {L : Nat} {K : List Fr} {ρ : Nat → V} {h : H} {Q : Po} : XL P E ro L b9_12 K ρ h Q = X P E ro L (.c (.seq (.seq (.region r9_7) (.cond (.t 72) (.skip) (.exit 4))) (.seq (.block 5 (.seq (.region r9_8) (.cond (.t 89) (.seq (.region r9_9) (.seq (.region [⟨some 99, .mv (.t 14), none, 0, [99, 14]⟩]) (.cond (.t 99) (.seq (.region r9_10) (.region [⟨some 11, .mv (.k (.bool true)), none, 0, [11]⟩])) (.skip)))) (.skip)))) (.region r9_11))) :: .l b9_12 :: K) ρ h Q := XL_unroll b9_12
def r9_13 : List O := [⟨some 105,.mv (.t 11),none,0,[105,11]⟩,
  ⟨some 106,.un .not (.t 105),none,1,[106,105]⟩]
def r9_14 : List O := [⟨some 63,.mv (.t 10),none,0,[63,10]⟩,
  ⟨some 64,.bin .add (some .int) true (.t 63) (.k (.int .i64 1)),none,1,[64,63]⟩,
  ⟨some 10,.mv (.t 64),none,3,[10,64]⟩]
def b9_15 : C := .seq (.seq (.region [⟨some 62,.mv (.t 7),none,0,[62,7]⟩]) (.cond (.t 62) (.skip) (.exit 2))) (.seq (.block 3 (.seq (.region [⟨some 11,.mv (.k (.bool false)),none,0,[11]⟩]) (.seq (.seq (.region [⟨some 12,.mv (.k (.int .i64 0)),none,0,[12]⟩]) (.block 4 (.loop b9_12))) (.seq (.region r9_13) (.cond (.t 106) (.exit 2) (.skip)))))) (.region r9_14))
theorem u9_15 {P : Program} {E : Env} {ro : Option Nat} {L : Nat} {K : List Fr} {ρ : Nat → V} {h : H} {Q : Po} : XL P E ro L b9_15 K ρ h Q = X P E ro L (.c (.seq (.seq (.region [⟨some 62, .mv (.t 7), none, 0, [62, 7]⟩]) (.cond (.t 62) (.skip) (.exit 2))) (.seq (.block 3 (.seq (.region [⟨some 11, .mv (.k (.bool false)), none, 0, [11]⟩]) (.seq (.seq (.region [⟨some 12, .mv (.k (.int .i64 0)), none, 0, [12]⟩]) (.block 4 (.loop b9_12))) (.seq (.region r9_13) (.cond (.t 106) (.exit 2) (.skip)))))) (.region r9_14))) :: .l b9_15 :: K) ρ h Q := XL_unroll b9_15
def r9_16 : List O := [⟨some 107,.mv (.t 6),none,0,[107,6]⟩,
  ⟨some 108,.mv (.t 9),none,0,[108,9]⟩,
  ⟨some 4,.mv (.t 107),none,1,[4,107]⟩,
  ⟨some 5,.mv (.t 108),none,7,[5,108]⟩]
def c9 : C := .seq (.region r9_0) (.seq (.region [⟨some 6,.mv (.k (.int .i64 0)),none,0,[6]⟩]) (.seq (.region [⟨some 7,.mv (.k (.bool false)),none,0,[7]⟩]) (.seq (.seq (.region [⟨some 8,.mv (.k (.int .i64 0)),none,0,[8]⟩]) (.block 0 (.loop b9_5))) (.seq (.region [⟨some 9,.mv (.k (.slice none 0 0 false)),none,0,[9]⟩]) (.seq (.seq (.region r9_6) (.block 2 (.loop b9_15))) (.seq (.region r9_16) (.ret)))))))
def fn9 : Fn := ⟨109, [.t 4, .t 5], c9⟩
/-! 10: orchard/audit.Log -/
def r10_0 : List O := [⟨some 4,.mv (.k (.int .i64 0)),none,0,[4]⟩,
  ⟨some 5,.mv (.k (.slice none 0 0 false)),none,1,[5]⟩]
def r10_1 : List O := [⟨some 18,.mv (.t 0),none,0,[18,0]⟩,
  ⟨some 19,.lenL (.t 18),none,1,[19,18]⟩,
  ⟨some 20,.mv (.k (.int .i64 0)),none,0,[20]⟩]
def r10_2 : List O := [⟨some 22,.iadrL 21 (.t 18) (.t 20),none,0,[22,18,20]⟩,
  ⟨some 23,.loadN 21 (.t 22),none,1,[23,22]⟩,
  ⟨some 8,.alloc 63 [.int .i64 0,.int .i64 0,(.bool false),(.bool false),(.bool false),.int .i64 0,.int .i64 0,(.slice none 0 0 false),.int .i64 0,.int .i64 0,.int .i64 0,.int .i64 0,.int .i64 0,.int .i64 0,.int .i64 0,.int .i64 0,.int .i64 0,.int .i64 0,.int .i64 0,(.slice none 0 0 false),(.slice none 0 0 false)],none,0,[8]⟩,
  ⟨none,.store 21 (.t 8) (.t 23),none,7,[8,23]⟩]
def r10_3 : List O := [⟨some 24,.fadr 2 (.t 8),none,0,[24,8]⟩,
  ⟨some 25,.load1 (.t 24),none,1,[25,24]⟩,
  ⟨some 26,.mv (.t 25),none,3,[26,25]⟩,
  ⟨some 27,.fadr 0 (.t 8),some (26,true),7,[27,26,8]⟩,
  ⟨some 28,.fadr 0 (.t 27),some (26,true),15,[28,26,27]⟩,
  ⟨some 29,.load1 (.t 28),some (26,true),31,[29,26,28]⟩,
  ⟨some 30,.mv (.t 1),some (26,true),7,[30,26,1]⟩,
  ⟨some 31,.bin .eql (some .int) false (.t 29) (.t 30),some (26,true),127,[31,26,29,30]⟩,
  ⟨some 32,.pick (.t 26) (.t 31) (.k (.bool false)),none,255,[32,26,31]⟩,
  ⟨some 33,.mv (.t 32),none,511,[33,32]⟩,
  ⟨some 34,.fadr 6 (.t 8),some (33,true),1023,[34,33,8]⟩,
  ⟨some 35,.load1 (.t 34),some (33,true),2047,[35,33,34]⟩,
  ⟨some 36,.call (.k (.func 30 [] [])) [(.t 35)],some (33,true),4095,[36,33,35]⟩,
  ⟨some 37,.pick (.t 33) (.t 36) (.k (.bool false)),none,8191,[37,33,36]⟩]
def r10_4 : List O := [⟨some 38,.mv (.t 6),none,0,[38,6]⟩,
  ⟨some 39,.loadN 21 (.t 8),none,0,[39,8]⟩,
  ⟨some 40,.bslice 63 1 [.int .i64 0,.int .i64 0,(.bool false),(.bool false),(.bool false),.int .i64 0,.int .i64 0,(.slice none 0 0 false),.int .i64 0,.int .i64 0,.int .i64 0,.int .i64 0,.int .i64 0,.int .i64 0,.int .i64 0,.int .i64 0,.int .i64 0,.int .i64 0,.int .i64 0,(.slice none 0 0 false),(.slice none 0 0 false)] [(0,21,(.t 39))],none,2,[40,39]⟩,
  ⟨some 41,.app 63 21 200 (.t 38) (.t 40),none,7,[41,38,40]⟩,
  ⟨some 6,.mv (.t 41),none,15,[6,41]⟩]
def r10_5 : List O := [⟨some 42,.bin .add (some .int) true (.t 20) (.k (.int .i64 1)),none,0,[42,20]⟩,
  ⟨some 20,.mv (.t 42),none,1,[20,42]⟩]
def b10_6 : C := .seq (.region [⟨some 21,.bin .lss (some .int) false (.t 20) (.t 19),none,0,[21,20,19]⟩]) (.seq (.cond (.t 21) (.skip) (.exit 0)) (.seq (.block 1 (.seq (.region r10_2) (.seq (.region r10_3) (.cond (.t 37) (.region r10_4) (.skip))))) (.region r10_5)))
theorem u10_6 {P : Program} {E : Env} {ro : Option Nat} {L : Nat} {K : List Fr} {ρ : Nat → V} {h : H} {Q : Po} : XL P E ro L b10_6 K ρ h Q = X P E ro L (.c (.seq (.region [⟨some 21, .bin .lss (some .int) false (.t 20) (.t 19), none, 0, [21, 20, 19]⟩]) (.seq (.cond (.t 21) (.skip) (.exit 0)) (.seq (.block 1 (.seq (.region r10_2) (.seq (.region r10_3) (.cond (.t 37) (.region r10_4) (.skip))))) (.region r10_5)))) :: .l b10_6 :: K) ρ h Q := XL_unroll b10_6
def r10_7 : List O := [⟨some 43,.mv (.t 6),none,0,[43,6]⟩,
  ⟨some 44,.lenL (.t 43),none,1,[44,43]⟩,
  ⟨some 45,.bin .eql (some .int) true (.t 44) (.k (.int .i64 0)),none,3,[45,44]⟩]
def r10_8 : List O := [⟨some 4,.mv (.k (.int .i64 0)),none,0,[4]⟩,
  ⟨some 5,.mv (.k (.slice none 0 0 false)),none,1,[5]⟩]
def r10_9 : List O := [⟨some 46,.mv (.t 6),none,0,[46,6]⟩,
  ⟨some 47,.iadrL 21 (.t 46) (.k (.int .i64 0)),none,1,[47,46]⟩,
  ⟨some 48,.fadr 6 (.t 47),none,3,[48,47]⟩,
  ⟨some 49,.load1 (.t 48),none,7,[49,48]⟩,
  ⟨some 9,.mv (.t 49),none,15,[9,49]⟩]
def r10_10 : List O := [⟨some 50,.mv (.t 6),none,0,[50,6]⟩,
  ⟨some 51,.lenL (.t 50),none,1,[51,50]⟩,
  ⟨some 52,.mv (.k (.int .i64 0)),none,0,[52]⟩]
def r10_11 : List O := [⟨some 54,.iadrL 21 (.t 50) (.t 52),none,0,[54,50,52]⟩,
  ⟨some 55,.loadN 21 (.t 54),none,1,[55,54]⟩,
  ⟨some 11,.alloc 63 [.int .i64 0,.int .i64 0,(.bool false),(.bool false),(.bool false),.int .i64 0,.int .i64 0,(.slice none 0 0 false),.int .i64 0,.int .i64 0,.int .i64 0,.int .i64 0,.int .i64 0,.int .i64 0,.int .i64 0,.int .i64 0,.int .i64 0,.int .i64 0,.int .i64 0,(.slice none 0 0 false),(.slice none 0 0 false)],none,0,[11]⟩,
  ⟨none,.store 21 (.t 11) (.t 55),none,7,[11,55]⟩]
def r10_12 : List O := [⟨some 56,.mv (.t 9),none,0,[56,9]⟩,
  ⟨some 57,.fadr 6 (.t 11),none,0,[57,11]⟩,
  ⟨some 58,.load1 (.t 57),none,2,[58,57]⟩,
  ⟨some 59,.minmax false [(.t 56),(.t 58)],none,7,[59,56,58]⟩,
  ⟨some 9,.mv (.t 59),none,15,[9,59]⟩]
def r10_13 : List O := [⟨some 60,.bin .add (some .int) true (.t 52) (.k (.int .i64 1)),none,0,[60,52]⟩,
  ⟨some 52,.mv (.t 60),none,1,[52,60]⟩]
def b10_14 : C := .seq (.region [⟨some 53,.bin .lss (some .int) false (.t 52) (.t 51),none,0,[53,52,51]⟩]) (.seq (.cond (.t 53) (.skip) (.exit 2)) (.seq (.block 3 (.seq (.region r10_11) (.region r10_12))) (.region r10_13)))
theorem u10_14 {P : Program} {E : Env} {ro : Option Nat} {L : Nat} {K : List Fr} {ρ : Nat → V} {h : H} {Q : Po} : XL P E ro L b10_14 K ρ h Q = X P E ro L (.c (.seq (.region [⟨some 53, .bin .lss (some .int) false (.t 52) (.t 51), none, 0, [53, 52, 51]⟩]) (.seq (.cond (.t 53) (.skip) (.exit 2)) (.seq (.block 3 (.seq (.region r10_11) (.region r10_12))) (.region r10_13)))) :: .l b10_14 :: K) ρ h Q := XL_unroll b10_14
def r10_15 : List O := [⟨some 61,.mv (.t 9),none,0,[61,9]⟩,
  ⟨some 13,.mv (.t 61),none,1,[13,61]⟩]
def r10_16 : List O := [⟨some 64,.mv (.t 6),none,0,[64,6]⟩,
  ⟨some 65,.lenL (.t 64),none,1,[65,64]⟩,
  ⟨some 66,.mv (.k (.int .i64 0)),none,0,[66]⟩]
def r10_17 : List O := [⟨some 68,.iadrL 21 (.t 64) (.t 66),none,0,[68,64,66]⟩,
  ⟨some 69,.loadN 21 (.t 68),none,1,[69,68]⟩,
  ⟨some 15,.alloc 63 [.int .i64 0,.int .i64 0,(.bool false),(.bool false),(.bool false),.int .i64 0,.int .i64 0,(.slice none 0 0 false),.int .i64 0,.int .i64 0,.int .i64 0,.int .i64 0,.int .i64 0,.int .i64 0,.int .i64 0,.int .i64 0,.int .i64 0,.int .i64 0,.int .i64 0,(.slice none 0 0 false),(.slice none 0 0 false)],none,0,[15]⟩,
  ⟨none,.store 21 (.t 15) (.t 69),none,7,[15,69]⟩]
def r10_18 : List O := [⟨some 71,.loadN 21 (.t 15),none,0,[71,15]⟩,
  ⟨some 72,.mv (.t 13),none,0,[72,13]⟩,
  ⟨some 73,.call (.k (.func 31 [] [])) [(.t 71),(.t 72)],none,3,[73,71,72]⟩,
  ⟨some 70,.mv (.t 73),none,7,[70,73]⟩,
  ⟨some 74,.extract (.t 70) 0,none,15,[74,70]⟩,
  ⟨some 75,.extract (.t 70) 1,none,15,[75,70]⟩,
  ⟨some 16,.alloc 49 [.int .i64 0,.int .i64 0,.int .i64 0,.int .i64 0,.int .i64 0,.int .i64 0,.int .i64 0,.int .i64 0,.str [],.str [],.str [],.int .i64 0,.int .i64 0,(.slice none 0 0 false),.int .i64 0,.int .i64 0,.int .i64 0,.int .i64 0,.int .i64 0,.int .i64 0,.int .i64 0,.int .i64 0,.int .i64 0,.int .i64 0,.int .i64 0,.int .i64 0,.int .i64 0,.int .i64 0,.int .i64 0,.int .i64 0,.int .i64 0,.int .i64 0,.int .i64 0,.int .i64 0,.int .i64 0,.int .i64 0,.int .i64 0,.int .i64 0,.int .i64 0,.int .i64 0,.int .i64 0,.int .i64 0,.int .i64 0,.int .i64 0,.int .i64 0,.int .i64 0,.int .i64 0,.int .i64 0,.int .i64 0,.int .i64 0,.int .i64 0,.int .i64 0,(.slice none 0 0 false),.int .i64 0,.int .i64 0,.int .i64 0],none,0,[16]⟩,
  ⟨none,.store 56 (.t 16) (.t 74),none,95,[16,74]⟩,
  ⟨some 17,.mv (.t 75),none,255,[17,75]⟩]
def r10_19 : List O := [⟨some 77,.mv (.t 12),none,0,[77,12]⟩,
  ⟨some 78,.loadN 56 (.t 16),none,0,[78,16]⟩,
  ⟨some 79,.call (.k (.func 32 [] [])) [(.t 78)],none,2,[79,78]⟩,
  ⟨some 80,.bslice 49 1 [.int .i64 0,.int .i64 0,.int .i64 0,.int .i64 0,.int .i64 0,.int .i64 0,.int .i64 0,.int .i64 0,.str [],.str [],.str [],.int .i64 0,.int .i64 0,(.slice none 0 0 false),.int .i64 0,.int .i64 0,.int .i64 0,.int .i64 0,.int .i64 0,.int .i64 0,.int .i64 0,.int .i64 0,.int .i64 0,.int .i64 0,.int .i64 0,.int .i64 0,.int .i64 0,.int .i64 0,.int .i64 0,.int .i64 0,.int .i64 0,.int .i64 0,.int .i64 0,.int .i64 0,.int .i64 0,.int .i64 0,.int .i64 0,.int .i64 0,.int .i64 0,.int .i64 0,.int .i64 0,.int .i64 0,.int .i64 0,.int .i64 0,.int .i64 0,.int .i64 0,.int .i64 0,.int .i64 0,.int .i64 0,.int .i64 0,.int .i64 0,.int .i64 0,(.slice none 0 0 false),.int .i64 0,.int .i64 0,.int .i64 0] [(0,56,(.t 79))],none,6,[80,79]⟩,
  ⟨some 81,.app 49 56 504 (.t 77) (.t 80),none,15,[81,77,80]⟩,
  ⟨some 12,.mv (.t 81),none,31,[12,81]⟩]
def r10_20 : List O := [⟨some 82,.bin .add (some .int) true (.t 66) (.k (.int .i64 1)),none,0,[82,66]⟩,
  ⟨some 66,.mv (.t 82),none,1,[66,82]⟩]
def b10_21 : C := .seq (.region [⟨some 67,.bin .lss (some .int) false (.t 66) (.t 65),none,0,[67,66,65]⟩]) (.seq (.cond (.t 67) (.skip) (.exit 6)) (.seq (.block 7 (.seq (.region r10_17) (.seq (.region r10_18) (.seq (.region [⟨some 76,.mv (.t 17),none,0,[76,17]⟩]) (.cond (.t 76) (.seq (.region r10_19) (.exit 5)) (.skip)))))) (.region r10_20)))
theorem u10_21 {P : Program} {E : Env} {ro : Option Nat} {L : Nat} {K : List Fr} {ρ : Nat → V} {h : H} {Q : Po} : XL P E ro L b10_21 K ρ h Q = X P E ro L (.c (.seq (.region [⟨some 67, .bin .lss (some .int) false (.t 66) (.t 65), none, 0, [67, 66, 65]⟩]) (.seq (.cond (.t 67) (.skip) (.exit 6)) (.seq (.block 7 (.seq (.region r10_17) (.seq (.region r10_18) (.seq (.region [⟨some 76, .mv (.t 17), none, 0, [76, 17]⟩]) (.cond (.t 76) (.seq (.region r10_19) (.exit 5)) (.skip)))))) (.region r10_20)))) :: .l b10_21 :: K) ρ h Q := XL_unroll b10_21
def r10_22 : List O := [⟨some 83,.mv (.t 9),none,0,[83,9]⟩,
  ⟨some 84,.mv (.t 12),none,0,[84,12]⟩,
  ⟨some 4,.mv (.t 83),none,1,[4,83]⟩,
  ⟨some 5,.mv (.t 84),none,7,[5,84]⟩]
def r10_23 : List O := [⟨some 62,.mv (.t 13),none,0,[62,13]⟩,
  ⟨some 63,.bin .add (some .int) true (.t 62) (.k (.int .i64 1)),none,1,[63,62]⟩,
  ⟨some 13,.mv (.t 63),none,3,[13,63]⟩]
def b10_24 : C := .seq (.block 5 (.seq (.seq (.region r10_16) (.block 6 (.loop b10_21))) (.seq (.region r10_22) (.ret)))) (.region r10_23)
theorem u10_24 {P : Program} {E : Env} {ro : Option Nat} {L : Nat} {K : List Fr} {ρ : Nat → V} {h : H} {Q : Po} : XL P E ro L b10_24 K ρ h Q = X P E ro L (.c (.seq (.block 5 (.seq (.seq (.region r10_16) (.block 6 (.loop b10_21))) (.seq (.region r10_22) (.ret)))) (.region r10_23)) :: .l b10_24 :: K) ρ h Q := XL_unroll b10_24
def c10 : C := .seq (.region r10_0) (.seq (.region [⟨some 6,.mv (.k (.slice none 0 0 false)),none,0,[6]⟩]) (.seq (.seq (.region r10_1) (.block 0 (.loop b10_6))) (.seq (.seq (.region r10_7) (.cond (.t 45) (.seq (.region r10_8) (.ret)) (.skip))) (.seq (.region r10_9) (.seq (.seq (.region r10_10) (.block 2 (.loop b10_14))) (.seq (.region [⟨some 12,.mv (.k (.slice none 0 0 false)),none,0,[12]⟩]) (.seq (.skip) (.seq (.region r10_15) (.block 4 (.loop b10_24))))))))))
def fn10 : Fn := ⟨85, [.t 4, .t 5], c10⟩
/-! 11: orchard/orchardref04.SameEntry -/
def r11_0 : List O := [⟨some 2,.box 49 (.t 0),none,0,[2,0]⟩,
  ⟨some 3,.box 49 (.t 1),none,0,[3,1]⟩,
  ⟨some 4,.mv (.k (.bool false)),none,0,[4]⟩]
def r11_1 : List O := [⟨some 5,.fadr 0 (.t 2),none,0,[5,2]⟩,
  ⟨some 6,.load1 (.t 5),none,1,[6,5]⟩,
  ⟨some 7,.fadr 0 (.t 3),none,0,[7,3]⟩,
  ⟨some 8,.load1 (.t 7),none,4,[8,7]⟩,
  ⟨some 9,.bin .eql (some .int) false (.t 6) (.t 8),none,15,[9,6,8]⟩,
  ⟨some 10,.mv (.t 9),none,31,[10,9]⟩,
  ⟨some 11,.fadr 1 (.t 2),some (10,true),63,[11,10,2]⟩,
  ⟨some 12,.load1 (.t 11),some (10,true),127,[12,10,11]⟩,
  ⟨some 13,.fadr 1 (.t 3),some (10,true),63,[13,10,3]⟩,
  ⟨some 14,.load1 (.t 13),some (10,true),319,[14,10,13]⟩,
  ⟨some 15,.bin .eql (some .int) false (.t 12) (.t 14),some (10,true),1023,[15,10,12,14]⟩,
  ⟨some 16,.pick (.t 10) (.t 15) (.k (.bool false)),none,2047,[16,10,15]⟩,
  ⟨some 17,.mv (.t 16),none,4095,[17,16]⟩,
  ⟨some 18,.fadr 2 (.t 2),some (17,true),8191,[18,17,2]⟩,
  ⟨some 19,.load1 (.t 18),some (17,true),16383,[19,17,18]⟩,
  ⟨some 20,.fadr 2 (.t 3),some (17,true),8191,[20,17,3]⟩,
  ⟨some 21,.load1 (.t 20),some (17,true),40959,[21,17,20]⟩,
  ⟨some 22,.bin .eql (some .int) false (.t 19) (.t 21),some (17,true),131071,[22,17,19,21]⟩,
  ⟨some 23,.pick (.t 17) (.t 22) (.k (.bool false)),none,262143,[23,17,22]⟩,
  ⟨some 24,.mv (.t 23),none,524287,[24,23]⟩,
  ⟨some 25,.fadr 3 (.t 2),some (24,true),1048575,[25,24,2]⟩,
  ⟨some 26,.loadN 8 (.t 25),some (24,true),2097151,[26,24,25]⟩,
  ⟨some 27,.fadr 3 (.t 3),some (24,true),1048575,[27,24,3]⟩,
  ⟨some 28,.loadN 8 (.t 27),some (24,true),5242879,[28,24,27]⟩,
  ⟨some 29,.bin .eql (some (.fcons 0 2 true (.fcons 0 1 false .int (.fcons 1 1 false .int .fnil)) (.fcons 2 1 false .int (.fcons 3 1 false .int (.fcons 4 1 false .int (.fcons 5 1 false .str (.fcons 6 1 false .str (.fcons 7 1 false .str .fnil)))))))) false (.t 26) (.t 28),some (24,true),16777215,[29,24,26,28]⟩,
  ⟨some 30,.pick (.t 24) (.t 29) (.k (.bool false)),none,33554431,[30,24,29]⟩,
  ⟨some 31,.mv (.t 30),none,67108863,[31,30]⟩,
  ⟨some 32,.fadr 11 (.t 2),some (31,true),134217727,[32,31,2]⟩,
  ⟨some 33,.load1 (.t 32),some (31,true),268435455,[33,31,32]⟩,
  ⟨some 34,.fadr 11 (.t 3),some (31,true),134217727,[34,31,3]⟩,
  ⟨some 35,.load1 (.t 34),some (31,true),671088639,[35,31,34]⟩,
  ⟨some 36,.bin .eql (some .int) false (.t 33) (.t 35),some (31,true),2147483647,[36,31,33,35]⟩,
  ⟨some 37,.pick (.t 31) (.t 36) (.k (.bool false)),none,4294967295,[37,31,36]⟩,
  ⟨some 38,.mv (.t 37),none,8589934591,[38,37]⟩,
  ⟨some 39,.fadr 12 (.t 2),some (38,true),17179869183,[39,38,2]⟩,
  ⟨some 40,.load1 (.t 39),some (38,true),34359738367,[40,38,39]⟩,
  ⟨some 41,.fadr 12 (.t 3),some (38,true),17179869183,[41,38,3]⟩,
  ⟨some 42,.load1 (.t 41),some (38,true),85899345919,[42,38,41]⟩,
  ⟨some 43,.bin .eql (some .int) false (.t 40) (.t 42),some (38,true),274877906943,[43,38,40,42]⟩,
  ⟨some 44,.pick (.t 38) (.t 43) (.k (.bool false)),none,549755813887,[44,38,43]⟩,
  ⟨some 45,.mv (.t 44),none,1099511627775,[45,44]⟩,
  ⟨some 46,.fadr 13 (.t 2),some (45,true),2199023255551,[46,45,2]⟩,
  ⟨some 47,.load1 (.t 46),some (45,true),4398046511103,[47,45,46]⟩,
  ⟨some 48,.fadr 13 (.t 3),some (45,true),2199023255551,[48,45,3]⟩,
  ⟨some 49,.load1 (.t 48),some (45,true),10995116277759,[49,45,48]⟩,
  ⟨some 50,.call (.k (.func 33 [] [])) [(.t 47),(.t 49)],some (45,true),35184372088831,[50,45,47,49]⟩,
  ⟨some 51,.pick (.t 45) (.t 50) (.k (.bool false)),none,70368744177663,[51,45,50]⟩,
  ⟨some 52,.mv (.t 51),none,140737488355327,[52,51]⟩,
  ⟨some 53,.fadr 14 (.t 2),some (52,true),281474976710655,[53,52,2]⟩,
  ⟨some 54,.loadN 25 (.t 53),some (52,true),562949953421311,[54,52,53]⟩,
  ⟨some 55,.fadr 14 (.t 3),some (52,true),281474976710655,[55,52,3]⟩,
  ⟨some 56,.loadN 25 (.t 55),some (52,true),1407374883553279,[56,52,55]⟩,
  ⟨some 57,.bin .eql (some (.fcons 0 1 false .int (.fcons 1 8 true (.ar 8 1 false .int) (.fcons 9 8 true (.ar 8 1 false .int) (.fcons 17 8 true (.ar 8 1 false .int) .fnil))))) false (.t 54) (.t 56),some (52,true),4503599627370495,[57,52,54,56]⟩,
  ⟨some 58,.pick (.t 52) (.t 57) (.k (.bool false)),none,9007199254740991,[58,52,57]⟩,
  ⟨some 59,.mv (.t 58),none,18014398509481983,[59,58]⟩,
  ⟨some 60,.fadr 39 (.t 2),some (59,true),36028797018963967,[60,59,2]⟩,
  ⟨some 61,.load1 (.t 60),some (59,true),72057594037927935,[61,59,60]⟩,
  ⟨some 62,.fadr 39 (.t 3),some (59,true),36028797018963967,[62,59,3]⟩,
  ⟨some 63,.load1 (.t 62),some (59,true),180143985094819839,[63,59,62]⟩,
  ⟨some 64,.bin .eql (some .int) false (.t 61) (.t 63),some (59,true),576460752303423487,[64,59,61,63]⟩,
  ⟨some 65,.pick (.t 59) (.t 64) (.k (.bool false)),none,1152921504606846975,[65,59,64]⟩,
  ⟨some 66,.mv (.t 65),none,2305843009213693951,[66,65]⟩,
  ⟨some 67,.fadr 40 (.t 2),some (66,true),4611686018427387903,[67,66,2]⟩,
  ⟨some 68,.loadN 8 (.t 67),some (66,true),9223372036854775807,[68,66,67]⟩,
  ⟨some 69,.fadr 40 (.t 3),some (66,true),4611686018427387903,[69,66,3]⟩,
  ⟨some 70,.loadN 8 (.t 69),some (66,true),23058430092136939519,[70,66,69]⟩,
  ⟨some 71,.bin .eql (some (.ar 8 1 false .int)) false (.t 68) (.t 70),some (66,true),73786976294838206463,[71,66,68,70]⟩,
  ⟨some 72,.pick (.t 66) (.t 71) (.k (.bool false)),none,147573952589676412927,[72,66,71]⟩,
  ⟨some 73,.mv (.t 72),none,295147905179352825855,[73,72]⟩,
  ⟨some 74,.fadr 48 (.t 2),some (73,true),590295810358705651711,[74,73,2]⟩,
  ⟨some 75,.load1 (.t 74),some (73,true),1180591620717411303423,[75,73,74]⟩,
  ⟨some 76,.fadr 48 (.t 3),some (73,true),590295810358705651711,[76,73,3]⟩,
  ⟨some 77,.load1 (.t 76),some (73,true),2951479051793528258559,[77,73,76]⟩,
  ⟨some 78,.bin .eql (some .int) false (.t 75) (.t 77),some (73,true),9444732965739290427391,[78,73,75,77]⟩,
  ⟨some 79,.pick (.t 73) (.t 78) (.k (.bool false)),none,18889465931478580854783,[79,73,78]⟩,
  ⟨some 80,.mv (.t 79),none,37778931862957161709567,[80,79]⟩,
  ⟨some 81,.fadr 49 (.t 2),some (80,true),75557863725914323419135,[81,80,2]⟩,
  ⟨some 82,.loadN 4 (.t 81),some (80,true),151115727451828646838271,[82,80,81]⟩,
  ⟨some 83,.fadr 49 (.t 3),some (80,true),75557863725914323419135,[83,80,3]⟩,
  ⟨some 84,.loadN 4 (.t 83),some (80,true),377789318629571617095679,[84,80,83]⟩,
  ⟨some 85,.call (.k (.func 34 [] [])) [(.t 82),(.t 84)],some (80,true),1208925819614629174706175,[85,80,82,84]⟩,
  ⟨some 86,.pick (.t 80) (.t 85) (.k (.bool false)),none,2417851639229258349412351,[86,80,85]⟩,
  ⟨some 87,.mv (.t 86),none,4835703278458516698824703,[87,86]⟩,
  ⟨some 88,.fadr 53 (.t 2),some (87,true),9671406556917033397649407,[88,87,2]⟩,
  ⟨some 89,.load1 (.t 88),some (87,true),19342813113834066795298815,[89,87,88]⟩,
  ⟨some 90,.fadr 53 (.t 3),some (87,true),9671406556917033397649407,[90,87,3]⟩,
  ⟨some 91,.load1 (.t 90),some (87,true),48357032784585166988247039,[91,87,90]⟩,
  ⟨some 92,.bin .eql (some .int) false (.t 89) (.t 91),some (87,true),154742504910672534362390527,[92,87,89,91]⟩,
  ⟨some 93,.pick (.t 87) (.t 92) (.k (.bool false)),none,309485009821345068724781055,[93,87,92]⟩,
  ⟨some 94,.mv (.t 93),none,618970019642690137449562111,[94,93]⟩,
  ⟨some 95,.fadr 54 (.t 2),some (94,true),1237940039285380274899124223,[95,94,2]⟩,
  ⟨some 96,.load1 (.t 95),some (94,true),2475880078570760549798248447,[96,94,95]⟩,
  ⟨some 97,.fadr 54 (.t 3),some (94,true),1237940039285380274899124223,[97,94,3]⟩,
  ⟨some 98,.load1 (.t 97),some (94,true),6189700196426901374495621119,[98,94,97]⟩,
  ⟨some 99,.bin .eql (some .int) false (.t 96) (.t 98),some (94,true),19807040628566084398385987583,[99,94,96,98]⟩,
  ⟨some 100,.pick (.t 94) (.t 99) (.k (.bool false)),none,39614081257132168796771975167,[100,94,99]⟩,
  ⟨some 101,.mv (.t 100),none,79228162514264337593543950335,[101,100]⟩,
  ⟨some 102,.fadr 55 (.t 2),some (101,true),158456325028528675187087900671,[102,101,2]⟩,
  ⟨some 103,.load1 (.t 102),some (101,true),316912650057057350374175801343,[103,101,102]⟩,
  ⟨some 104,.fadr 55 (.t 3),some (101,true),158456325028528675187087900671,[104,101,3]⟩,
  ⟨some 105,.load1 (.t 104),some (101,true),792281625142643375935439503359,[105,101,104]⟩,
  ⟨some 106,.bin .eql (some .int) false (.t 103) (.t 105),some (101,true),2535301200456458802993406410751,[106,101,103,105]⟩,
  ⟨some 107,.pick (.t 101) (.t 106) (.k (.bool false)),none,5070602400912917605986812821503,[107,101,106]⟩,
  ⟨some 4,.mv (.t 107),none,10141204801825835211973625643007,[4,107]⟩]
def c11 : C := .seq (.region r11_0) (.seq (.region r11_1) (.ret))
def fn11 : Fn := ⟨108, [.t 4], c11⟩
/-! 12: orchard/orchardlaw26.addrs -/
def r12_0 : List O := [⟨some 6,.mv (.t 0),none,0,[6,0]⟩,
  ⟨some 7,.lenL (.t 6),none,1,[7,6]⟩,
  ⟨some 8,.mv (.t 1),none,0,[8,1]⟩,
  ⟨some 9,.lenL (.t 8),none,4,[9,8]⟩,
  ⟨some 10,.bin .neq (some .int) false (.t 7) (.t 9),none,15,[10,7,9]⟩]
def r12_1 : List O := [⟨some 11,.mv (.t 0),none,0,[11,0]⟩,
  ⟨some 12,.lenL (.t 11),none,1,[12,11]⟩,
  ⟨some 13,.mv (.k (.int .i64 0)),none,0,[13]⟩]
def r12_2 : List O := [⟨some 15,.mv (.t 13),none,0,[15,13]⟩,
  ⟨some 5,.mv (.t 15),none,1,[5,15]⟩]
def r12_3 : List O := [⟨some 16,.mv (.t 0),none,0,[16,0]⟩,
  ⟨some 17,.mv (.t 5),none,0,[17,5]⟩,
  ⟨some 18,.iadrL 2 (.t 16) (.t 17),none,3,[18,16,17]⟩,
  ⟨some 19,.loadN 2 (.t 18),none,7,[19,18]⟩,
  ⟨some 20,.mv (.t 1),none,0,[20,1]⟩,
  ⟨some 21,.mv (.t 5),none,0,[21,5]⟩,
  ⟨some 22,.iadrL 2 (.t 20) (.t 21),none,48,[22,20,21]⟩,
  ⟨some 23,.loadN 2 (.t 22),none,112,[23,22]⟩,
  ⟨some 24,.bin .neq (some (.fcons 0 1 false .int (.fcons 1 1 false .int .fnil))) false (.t 19) (.t 23),none,255,[24,19,23]⟩]
theorem d12_3 {P : Program} {E : Env} {ro : Option Nat} {L : Nat} {K : List Fr} {ρ : Nat → V} {h : H} {Q : Po} : XD P E ro L r12_3 K ρ h Q = XO P E ro L r12_3 K ρ h Q := XD_still rfl
def r12_4 : List O := [⟨some 25,.bin .add (some .int) true (.t 13) (.k (.int .i64 1)),none,0,[25,13]⟩,
  ⟨some 13,.mv (.t 25),none,1,[13,25]⟩]
def b12_5 : C := .seq (.region [⟨some 14,.bin .lss (some .int) false (.t 13) (.t 12),none,0,[14,13,12]⟩]) (.seq (.cond (.t 14) (.skip) (.exit 0)) (.seq (.block 1 (.seq (.region r12_2) (.seq (.draw r12_3) (.cond (.t 24) (.seq (.region [⟨some 4,.mv (.k (.bool false)),none,0,[4]⟩]) (.ret)) (.skip))))) (.region r12_4)))
theorem u12_5 {P : Program} {E : Env} {ro : Option Nat} {L : Nat} {K : List Fr} {ρ : Nat → V} {h : H} {Q : Po} : XL P E ro L b12_5 K ρ h Q = X P E ro L (.c (.seq (.region [⟨some 14, .bin .lss (some .int) false (.t 13) (.t 12), none, 0, [14, 13, 12]⟩]) (.seq (.cond (.t 14) (.skip) (.exit 0)) (.seq (.block 1 (.seq (.region r12_2) (.seq (.draw r12_3) (.cond (.t 24) (.seq (.region [⟨some 4, .mv (.k (.bool false)), none, 0, [4]⟩]) (.ret)) (.skip))))) (.region r12_4)))) :: .l b12_5 :: K) ρ h Q := XL_unroll b12_5
def c12 : C := .seq (.region [⟨some 4,.mv (.k (.bool false)),none,0,[4]⟩]) (.seq (.seq (.region r12_0) (.cond (.t 10) (.seq (.region [⟨some 4,.mv (.k (.bool false)),none,0,[4]⟩]) (.ret)) (.skip))) (.seq (.seq (.region r12_1) (.block 0 (.loop b12_5))) (.seq (.region [⟨some 4,.mv (.k (.bool true)),none,0,[4]⟩]) (.ret))))
def fn12 : Fn := ⟨26, [.t 4], c12⟩
/-! 13: orchard/audit.Leaders -/
def r13_0 : List O := [⟨some 6,.mv (.t 0),none,0,[6,0]⟩,
  ⟨some 7,.lenL (.t 6),none,1,[7,6]⟩,
  ⟨some 8,.mv (.k (.int .i64 0)),none,0,[8]⟩]
def r13_1 : List O := [⟨some 10,.iadrL 21 (.t 6) (.t 8),none,0,[10,6,8]⟩,
  ⟨some 11,.loadN 21 (.t 10),none,1,[11,10]⟩,
  ⟨some 5,.alloc 63 [.int .i64 0,.int .i64 0,(.bool false),(.bool false),(.bool false),.int .i64 0,.int .i64 0,(.slice none 0 0 false),.int .i64 0,.int .i64 0,.int .i64 0,.int .i64 0,.int .i64 0,.int .i64 0,.int .i64 0,.int .i64 0,.int .i64 0,.int .i64 0,.int .i64 0,(.slice none 0 0 false),(.slice none 0 0 false)],none,0,[5]⟩,
  ⟨none,.store 21 (.t 5) (.t 11),none,7,[5,11]⟩]
def r13_2 : List O := [⟨some 12,.fadr 2 (.t 5),none,0,[12,5]⟩,
  ⟨some 13,.load1 (.t 12),none,1,[13,12]⟩,
  ⟨some 14,.mv (.t 13),none,3,[14,13]⟩,
  ⟨some 15,.fadr 3 (.t 5),some (14,true),7,[15,14,5]⟩,
  ⟨some 16,.load1 (.t 15),some (14,true),15,[16,14,15]⟩,
  ⟨some 17,.pick (.t 14) (.t 16) (.k (.bool false)),none,31,[17,14,16]⟩]
def r13_3 : List O := [⟨some 18,.mv (.t 3),none,0,[18,3]⟩,
  ⟨some 19,.fadr 0 (.t 5),none,0,[19,5]⟩,
  ⟨some 20,.loadN 2 (.t 19),none,2,[20,19]⟩,
  ⟨some 21,.bslice 59 1 [.int .i64 0,.int .i64 0] [(0,2,(.t 20))],none,6,[21,20]⟩,
  ⟨some 22,.app 59 2 16 (.t 18) (.t 21),none,15,[22,18,21]⟩,
  ⟨some 3,.mv (.t 22),none,31,[3,22]⟩]
def r13_4 : List O := [⟨some 23,.bin .add (some .int) true (.t 8) (.k (.int .i64 1)),none,0,[23,8]⟩,
  ⟨some 8,.mv (.t 23),none,1,[8,23]⟩]
def b13_5 : C := .seq (.region [⟨some 9,.bin .lss (some .int) false (.t 8) (.t 7),none,0,[9,8,7]⟩]) (.seq (.cond (.t 9) (.skip) (.exit 0)) (.seq (.block 1 (.seq (.region r13_1) (.seq (.region r13_2) (.cond (.t 17) (.region r13_3) (.skip))))) (.region r13_4)))
theorem u13_5 {P : Program} {E : Env} {ro : Option Nat} {L : Nat} {K : List Fr} {ρ : Nat → V} {h : H} {Q : Po} : XL P E ro L b13_5 K ρ h Q = X P E ro L (.c (.seq (.region [⟨some 9, .bin .lss (some .int) false (.t 8) (.t 7), none, 0, [9, 8, 7]⟩]) (.seq (.cond (.t 9) (.skip) (.exit 0)) (.seq (.block 1 (.seq (.region r13_1) (.seq (.region r13_2) (.cond (.t 17) (.region r13_3) (.skip))))) (.region r13_4)))) :: .l b13_5 :: K) ρ h Q := XL_unroll b13_5
def r13_6 : List O := [⟨some 24,.mv (.t 3),none,0,[24,3]⟩,
  ⟨some 2,.mv (.t 24),none,1,[2,24]⟩]
def c13 : C := .seq (.region [⟨some 2,.mv (.k (.slice none 0 0 false)),none,0,[2]⟩]) (.seq (.region [⟨some 3,.mv (.k (.slice none 0 0 false)),none,0,[3]⟩]) (.seq (.seq (.region r13_0) (.block 0 (.loop b13_5))) (.seq (.region r13_6) (.ret))))
def fn13 : Fn := ⟨25, [.t 2], c13⟩
/-! 14: orchard/orchardref26.Leaders -/
def r14_0 : List O := [⟨some 5,.mv (.t 4),none,0,[5,4]⟩,
  ⟨some 6,.mv (.t 0),none,0,[6,0]⟩,
  ⟨some 7,.lenL (.t 6),none,2,[7,6]⟩,
  ⟨some 8,.bin .lss (some .int) false (.t 5) (.t 7),none,7,[8,5,7]⟩]
def r14_1 : List O := [⟨some 11,.mv (.t 0),none,0,[11,0]⟩,
  ⟨some 12,.mv (.t 4),none,0,[12,4]⟩,
  ⟨some 13,.iadrL 21 (.t 11) (.t 12),none,3,[13,11,12]⟩,
  ⟨some 14,.fadr 2 (.t 13),none,7,[14,13]⟩,
  ⟨some 15,.load1 (.t 14),none,15,[15,14]⟩,
  ⟨some 16,.mv (.t 15),none,31,[16,15]⟩,
  ⟨some 17,.mv (.t 0),some (16,true),63,[17,16,0]⟩,
  ⟨some 18,.mv (.t 4),some (16,true),63,[18,16,4]⟩,
  ⟨some 19,.iadrL 21 (.t 17) (.t 18),some (16,true),255,[19,16,17,18]⟩,
  ⟨some 20,.fadr 3 (.t 19),some (16,true),511,[20,16,19]⟩,
  ⟨some 21,.load1 (.t 20),some (16,true),1023,[21,16,20]⟩,
  ⟨some 22,.pick (.t 16) (.t 21) (.k (.bool false)),none,2047,[22,16,21]⟩]
def r14_2 : List O := [⟨some 23,.mv (.t 3),none,0,[23,3]⟩,
  ⟨some 24,.mv (.t 0),none,0,[24,0]⟩,
  ⟨some 25,.mv (.t 4),none,0,[25,4]⟩,
  ⟨some 26,.iadrL 21 (.t 24) (.t 25),none,6,[26,24,25]⟩,
  ⟨some 27,.fadr 0 (.t 26),none,14,[27,26]⟩,
  ⟨some 28,.loadN 2 (.t 27),none,30,[28,27]⟩,
  ⟨some 29,.bslice 59 1 [.int .i64 0,.int .i64 0] [(0,2,(.t 28))],none,62,[29,28]⟩,
  ⟨some 30,.app 59 2 16 (.t 23) (.t 29),none,127,[30,23,29]⟩,
  ⟨some 3,.mv (.t 30),none,255,[3,30]⟩]
def r14_3 : List O := [⟨some 9,.mv (.t 4),none,0,[9,4]⟩,
  ⟨some 10,.bin .add (some .int) true (.t 9) (.k (.int .i64 1)),none,1,[10,9]⟩,
  ⟨some 4,.mv (.t 10),none,3,[4,10]⟩]
def b14_4 : C := .seq (.seq (.region r14_0) (.cond (.t 8) (.skip) (.exit 0))) (.seq (.block 1 (.seq (.region r14_1) (.cond (.t 22) (.region r14_2) (.skip)))) (.region r14_3))
theorem u14_4 {P : Program} {E : Env} {ro : Option Nat} {L : Nat} {K : List Fr} {ρ : Nat → V} {h : H} {Q : Po} : XL P E ro L b14_4 K ρ h Q = X P E ro L (.c (.seq (.seq (.region r14_0) (.cond (.t 8) (.skip) (.exit 0))) (.seq (.block 1 (.seq (.region r14_1) (.cond (.t 22) (.region r14_2) (.skip)))) (.region r14_3))) :: .l b14_4 :: K) ρ h Q := XL_unroll b14_4
def r14_5 : List O := [⟨some 31,.mv (.t 3),none,0,[31,3]⟩,
  ⟨some 2,.mv (.t 31),none,1,[2,31]⟩]
def c14 : C := .seq (.region [⟨some 2,.mv (.k (.slice none 0 0 false)),none,0,[2]⟩]) (.seq (.region [⟨some 3,.mv (.k (.slice none 0 0 false)),none,0,[3]⟩]) (.seq (.seq (.region [⟨some 4,.mv (.k (.int .i64 0)),none,0,[4]⟩]) (.block 0 (.loop b14_4))) (.seq (.region r14_5) (.ret))))
def fn14 : Fn := ⟨32, [.t 2], c14⟩
/-! 15: orchard/audit.Equal -/
def r15_0 : List O := [⟨some 8,.mv (.t 0),none,0,[8,0]⟩,
  ⟨some 9,.lenL (.t 8),none,1,[9,8]⟩,
  ⟨some 10,.mv (.k (.int .i64 0)),none,0,[10]⟩]
def r15_1 : List O := [⟨some 12,.iadrL 21 (.t 8) (.t 10),none,0,[12,8,10]⟩,
  ⟨some 13,.loadN 21 (.t 12),none,1,[13,12]⟩,
  ⟨some 7,.alloc 63 [.int .i64 0,.int .i64 0,(.bool false),(.bool false),(.bool false),.int .i64 0,.int .i64 0,(.slice none 0 0 false),.int .i64 0,.int .i64 0,.int .i64 0,.int .i64 0,.int .i64 0,.int .i64 0,.int .i64 0,.int .i64 0,.int .i64 0,.int .i64 0,.int .i64 0,(.slice none 0 0 false),(.slice none 0 0 false)],none,0,[7]⟩,
  ⟨none,.store 21 (.t 7) (.t 13),none,7,[7,13]⟩]
def r15_2 : List O := [⟨some 14,.fadr 2 (.t 7),none,0,[14,7]⟩,
  ⟨some 15,.load1 (.t 14),none,1,[15,14]⟩,
  ⟨some 16,.mv (.t 15),none,3,[16,15]⟩,
  ⟨some 17,.fadr 4 (.t 7),some (16,true),7,[17,16,7]⟩,
  ⟨some 18,.load1 (.t 17),some (16,true),15,[18,16,17]⟩,
  ⟨some 19,.pick (.t 16) (.t 18) (.k (.bool false)),none,31,[19,16,18]⟩,
  ⟨some 20,.mv (.t 19),none,63,[20,19]⟩,
  ⟨some 21,.mv (.t 1),some (20,true),127,[21,20,1]⟩,
  ⟨some 22,.fadr 0 (.t 7),some (20,true),127,[22,20,7]⟩,
  ⟨some 23,.fadr 0 (.t 22),some (20,true),383,[23,20,22]⟩,
  ⟨some 24,.load1 (.t 23),some (20,true),895,[24,20,23]⟩,
  ⟨some 25,.call (.k (.func 35 [] [])) [(.t 21),(.t 24)],some (20,true),2047,[25,20,21,24]⟩,
  ⟨some 26,.pick (.t 20) (.t 25) (.k (.bool false)),none,4095,[26,20,25]⟩]
def r15_3 : List O := [⟨some 27,.load1 (.t 5),none,0,[27,5]⟩,
  ⟨some 28,.loadN 21 (.t 7),none,0,[28,7]⟩,
  ⟨some 29,.bslice 63 1 [.int .i64 0,.int .i64 0,(.bool false),(.bool false),(.bool false),.int .i64 0,.int .i64 0,(.slice none 0 0 false),.int .i64 0,.int .i64 0,.int .i64 0,.int .i64 0,.int .i64 0,.int .i64 0,.int .i64 0,.int .i64 0,.int .i64 0,.int .i64 0,.int .i64 0,(.slice none 0 0 false),(.slice none 0 0 false)] [(0,21,(.t 28))],none,2,[29,28]⟩,
  ⟨some 30,.app 63 21 200 (.t 27) (.t 29),none,7,[30,27,29]⟩,
  ⟨none,.store 1 (.t 5) (.t 30),none,15,[5,30]⟩]
def r15_4 : List O := [⟨some 31,.bin .add (some .int) true (.t 10) (.k (.int .i64 1)),none,0,[31,10]⟩,
  ⟨some 10,.mv (.t 31),none,1,[10,31]⟩]
def b15_5 : C := .seq (.region [⟨some 11,.bin .lss (some .int) false (.t 10) (.t 9),none,0,[11,10,9]⟩]) (.seq (.cond (.t 11) (.skip) (.exit 0)) (.seq (.block 1 (.seq (.region r15_1) (.seq (.region r15_2) (.cond (.t 26) (.region r15_3) (.skip))))) (.region r15_4)))
theorem u15_5 {P : Program} {E : Env} {ro : Option Nat} {L : Nat} {K : List Fr} {ρ : Nat → V} {h : H} {Q : Po} : XL P E ro L b15_5 K ρ h Q = X P E ro L (.c (.seq (.region [⟨some 11, .bin .lss (some .int) false (.t 10) (.t 9), none, 0, [11, 10, 9]⟩]) (.seq (.cond (.t 11) (.skip) (.exit 0)) (.seq (.block 1 (.seq (.region r15_1) (.seq (.region r15_2) (.cond (.t 26) (.region r15_3) (.skip))))) (.region r15_4)))) :: .l b15_5 :: K) ρ h Q := XL_unroll b15_5
def r15_6 : List O := [⟨some 32,.load1 (.t 5),none,0,[32,5]⟩,
  ⟨some 33,.mkF 37 [] [(.t 5)],none,0,[33,5]⟩,
  ⟨some 34,.call (.k (.func 36 [] [])) [(.t 32),(.t 33)],none,3,[34,32,33]⟩,
  ⟨some 35,.un .not (.t 34),none,7,[35,34]⟩,
  ⟨some 4,.mv (.t 35),none,15,[4,35]⟩]
def c15 : C := .seq (.region [⟨some 4,.mv (.k (.bool false)),none,0,[4]⟩]) (.seq (.region [⟨some 5,.alloc 22 [(.slice none 0 0 false)],none,0,[5]⟩]) (.seq (.seq (.region r15_0) (.block 0 (.loop b15_5))) (.seq (.region r15_6) (.ret))))
def fn15 : Fn := ⟨36, [.t 4], c15⟩
/-! 16: orchard/orchardref26.Equal -/
def r16_0 : List O := [⟨some 9,.mv (.t 6),none,0,[9,6]⟩,
  ⟨some 10,.mv (.t 0),none,0,[10,0]⟩,
  ⟨some 11,.lenL (.t 10),none,2,[11,10]⟩,
  ⟨some 12,.bin .lss (some .int) false (.t 9) (.t 11),none,7,[12,9,11]⟩]
def r16_1 : List O := [⟨some 15,.mv (.t 8),none,0,[15,8]⟩,
  ⟨some 16,.mv (.t 1),none,0,[16,1]⟩,
  ⟨some 17,.lenL (.t 16),none,2,[17,16]⟩,
  ⟨some 18,.bin .lss (some .int) false (.t 15) (.t 17),none,7,[18,15,17]⟩]
def r16_2 : List O := [⟨some 21,.mv (.t 7),none,0,[21,7]⟩,
  ⟨some 22,.mv (.t 21),none,1,[22,21]⟩,
  ⟨some 23,.mv (.t 1),some (22,false),3,[23,22,1]⟩,
  ⟨some 24,.mv (.t 8),some (22,false),3,[24,22,8]⟩,
  ⟨some 25,.iadrL 1 (.t 23) (.t 24),some (22,false),15,[25,22,23,24]⟩,
  ⟨some 26,.load1 (.t 25),some (22,false),31,[26,22,25]⟩,
  ⟨some 27,.mv (.t 0),some (22,false),3,[27,22,0]⟩,
  ⟨some 28,.mv (.t 6),some (22,false),3,[28,22,6]⟩,
  ⟨some 29,.iadrL 21 (.t 27) (.t 28),some (22,false),195,[29,22,27,28]⟩,
  ⟨some 30,.fadr 0 (.t 29),some (22,false),451,[30,22,29]⟩,
  ⟨some 31,.fadr 0 (.t 30),some (22,false),963,[31,22,30]⟩,
  ⟨some 32,.load1 (.t 31),some (22,false),1987,[32,22,31]⟩,
  ⟨some 33,.bin .eql (some .int) false (.t 26) (.t 32),some (22,false),4095,[33,22,26,32]⟩,
  ⟨some 34,.pick (.t 22) (.k (.bool true)) (.t 33),none,8191,[34,22,33]⟩,
  ⟨some 7,.mv (.t 34),none,16383,[7,34]⟩]
theorem d16_2 {P : Program} {E : Env} {ro : Option Nat} {L : Nat} {K : List Fr} {ρ : Nat → V} {h : H} {Q : Po} : XD P E ro L r16_2 K ρ h Q = XO P E ro L r16_2 K ρ h Q := XD_still rfl
def r16_3 : List O := [⟨some 19,.mv (.t 8),none,0,[19,8]⟩,
  ⟨some 20,.bin .add (some .int) true (.t 19) (.k (.int .i64 1)),none,1,[20,19]⟩,
  ⟨some 8,.mv (.t 20),none,3,[8,20]⟩]
def b16_4 : C := .seq (.seq (.region r16_1) (.cond (.t 18) (.skip) (.exit 2))) (.seq (.block 3 (.draw r16_2)) (.region r16_3))
theorem u16_4 {P : Program} {E : Env} {ro : Option Nat} {L : Nat} {K : List Fr} {ρ : Nat → V} {h : H} {Q : Po} : XL P E ro L b16_4 K ρ h Q = X P E ro L (.c (.seq (.seq (.region r16_1) (.cond (.t 18) (.skip) (.exit 2))) (.seq (.block 3 (.draw r16_2)) (.region r16_3))) :: .l b16_4 :: K) ρ h Q := XL_unroll b16_4
def r16_5 : List O := [⟨some 35,.mv (.t 0),none,0,[35,0]⟩,
  ⟨some 36,.mv (.t 6),none,0,[36,6]⟩,
  ⟨some 37,.iadrL 21 (.t 35) (.t 36),none,3,[37,35,36]⟩,
  ⟨some 38,.fadr 2 (.t 37),none,7,[38,37]⟩,
  ⟨some 39,.load1 (.t 38),none,15,[39,38]⟩,
  ⟨some 40,.un .not (.t 39),none,31,[40,39]⟩,
  ⟨some 41,.mv (.t 40),none,63,[41,40]⟩,
  ⟨some 42,.mv (.t 0),some (41,false),127,[42,41,0]⟩,
  ⟨some 43,.mv (.t 6),some (41,false),127,[43,41,6]⟩,
  ⟨some 44,.iadrL 21 (.t 42) (.t 43),some (41,false),511,[44,41,42,43]⟩,
  ⟨some 45,.fadr 4 (.t 44),some (41,false),1023,[45,41,44]⟩,
  ⟨some 46,.load1 (.t 45),some (41,false),2047,[46,41,45]⟩,
  ⟨some 47,.un .not (.t 46),some (41,false),4095,[47,41,46]⟩,
  ⟨some 48,.pick (.t 41) (.k (.bool true)) (.t 47),none,8191,[48,41,47]⟩,
  ⟨some 49,.mv (.t 48),none,16383,[49,48]⟩,
  ⟨some 50,.mv (.t 7),some (49,false),32767,[50,49,7]⟩,
  ⟨some 51,.un .not (.t 50),some (49,false),65535,[51,49,50]⟩,
  ⟨some 52,.pick (.t 49) (.k (.bool true)) (.t 51),none,131071,[52,49,51]⟩]
def r16_6 : List O := [⟨some 53,.mv (.t 5),none,0,[53,5]⟩,
  ⟨some 54,.bin .geq (some .int) true (.t 53) (.k (.int .i64 0)),none,1,[54,53]⟩,
  ⟨some 55,.mv (.t 54),none,3,[55,54]⟩,
  ⟨some 56,.mv (.t 0),some (55,true),7,[56,55,0]⟩,
  ⟨some 57,.mv (.t 6),some (55,true),7,[57,55,6]⟩,
  ⟨some 58,.iadrL 21 (.t 56) (.t 57),some (55,true),31,[58,55,56,57]⟩,
  ⟨some 59,.fadr 11 (.t 58),some (55,true),63,[59,55,58]⟩,
  ⟨some 60,.loadN 8 (.t 59),some (55,true),127,[60,55,59]⟩,
  ⟨some 61,.mv (.t 0),some (55,true),7,[61,55,0]⟩,
  ⟨some 62,.mv (.t 5),some (55,true),7,[62,55,5]⟩,
  ⟨some 63,.iadrL 21 (.t 61) (.t 62),some (55,true),775,[63,55,61,62]⟩,
  ⟨some 64,.fadr 11 (.t 63),some (55,true),1799,[64,55,63]⟩,
  ⟨some 65,.loadN 8 (.t 64),some (55,true),3847,[65,55,64]⟩,
  ⟨some 66,.bin .neq (some (.ar 8 1 false .int)) false (.t 60) (.t 65),some (55,true),8191,[66,55,60,65]⟩,
  ⟨some 67,.pick (.t 55) (.t 66) (.k (.bool false)),none,16383,[67,55,66]⟩]
theorem d16_6 {P : Program} {E : Env} {ro : Option Nat} {L : Nat} {K : List Fr} {ρ : Nat → V} {h : H} {Q : Po} : XD P E ro L r16_6 K ρ h Q = XO P E ro L r16_6 K ρ h Q := XD_still rfl
def r16_7 : List O := [⟨some 68,.mv (.t 5),none,0,[68,5]⟩,
  ⟨some 69,.bin .lss (some .int) true (.t 68) (.k (.int .i64 0)),none,1,[69,68]⟩]
def r16_8 : List O := [⟨some 70,.mv (.t 6),none,0,[70,6]⟩,
  ⟨some 5,.mv (.t 70),none,1,[5,70]⟩]
def r16_9 : List O := [⟨some 13,.mv (.t 6),none,0,[13,6]⟩,
  ⟨some 14,.bin .add (some .int) true (.t 13) (.k (.int .i64 1)),none,1,[14,13]⟩,
  ⟨some 6,.mv (.t 14),none,3,[6,14]⟩]
def b16_10 : C := .seq (.seq (.region r16_0) (.cond (.t 12) (.skip) (.exit 0))) (.seq (.block 1 (.seq (.region [⟨some 7,.mv (.k (.bool false)),none,0,[7]⟩]) (.seq (.seq (.region [⟨some 8,.mv (.k (.int .i64 0)),none,0,[8]⟩]) (.block 2 (.loop b16_4))) (.seq (.seq (.region r16_5) (.cond (.t 52) (.exit 1) (.skip))) (.seq (.seq (.draw r16_6) (.cond (.t 67) (.seq (.region [⟨some 4,.mv (.k (.bool false)),none,0,[4]⟩]) (.ret)) (.skip))) (.seq (.region r16_7) (.cond (.t 69) (.region r16_8) (.skip)))))))) (.region r16_9))
theorem u16_10 {P : Program} {E : Env} {ro : Option Nat} {L : Nat} {K : List Fr} {ρ : Nat → V} {h : H} {Q : Po} : XL P E ro L b16_10 K ρ h Q = X P E ro L (.c (.seq (.seq (.region r16_0) (.cond (.t 12) (.skip) (.exit 0))) (.seq (.block 1 (.seq (.region [⟨some 7, .mv (.k (.bool false)), none, 0, [7]⟩]) (.seq (.seq (.region [⟨some 8, .mv (.k (.int .i64 0)), none, 0, [8]⟩]) (.block 2 (.loop b16_4))) (.seq (.seq (.region r16_5) (.cond (.t 52) (.exit 1) (.skip))) (.seq (.seq (.draw r16_6) (.cond (.t 67) (.seq (.region [⟨some 4, .mv (.k (.bool false)), none, 0, [4]⟩]) (.ret)) (.skip))) (.seq (.region r16_7) (.cond (.t 69) (.region r16_8) (.skip)))))))) (.region r16_9))) :: .l b16_10 :: K) ρ h Q := XL_unroll b16_10
def c16 : C := .seq (.region [⟨some 4,.mv (.k (.bool false)),none,0,[4]⟩]) (.seq (.region [⟨some 5,.mv (.k (.int .i64 (-1))),none,0,[5]⟩]) (.seq (.seq (.region [⟨some 6,.mv (.k (.int .i64 0)),none,0,[6]⟩]) (.block 0 (.loop b16_10))) (.seq (.region [⟨some 4,.mv (.k (.bool true)),none,0,[4]⟩]) (.ret))))
def fn16 : Fn := ⟨71, [.t 4], c16⟩
/-! 17: orchard/audit.Same -/
def r17_0 : List O := [⟨some 2,.box 63 (.t 0),none,0,[2,0]⟩,
  ⟨some 3,.box 63 (.t 1),none,0,[3,1]⟩,
  ⟨some 4,.mv (.k (.bool false)),none,0,[4]⟩]
def r17_1 : List O := [⟨some 5,.fadr 0 (.t 2),none,0,[5,2]⟩,
  ⟨some 6,.loadN 2 (.t 5),none,1,[6,5]⟩,
  ⟨some 7,.fadr 0 (.t 3),none,0,[7,3]⟩,
  ⟨some 8,.loadN 2 (.t 7),none,4,[8,7]⟩,
  ⟨some 9,.bin .eql (some (.fcons 0 1 false .int (.fcons 1 1 false .int .fnil))) false (.t 6) (.t 8),none,15,[9,6,8]⟩,
  ⟨some 10,.mv (.t 9),none,31,[10,9]⟩,
  ⟨some 11,.fadr 2 (.t 2),some (10,true),63,[11,10,2]⟩,
  ⟨some 12,.load1 (.t 11),some (10,true),127,[12,10,11]⟩,
  ⟨some 13,.fadr 2 (.t 3),some (10,true),63,[13,10,3]⟩,
  ⟨some 14,.load1 (.t 13),some (10,true),319,[14,10,13]⟩,
  ⟨some 15,.bin .eql (some .bool) false (.t 12) (.t 14),some (10,true),1023,[15,10,12,14]⟩,
  ⟨some 16,.pick (.t 10) (.t 15) (.k (.bool false)),none,2047,[16,10,15]⟩,
  ⟨some 17,.mv (.t 16),none,4095,[17,16]⟩,
  ⟨some 18,.fadr 3 (.t 2),some (17,true),8191,[18,17,2]⟩,
  ⟨some 19,.load1 (.t 18),some (17,true),16383,[19,17,18]⟩,
  ⟨some 20,.fadr 3 (.t 3),some (17,true),8191,[20,17,3]⟩,
  ⟨some 21,.load1 (.t 20),some (17,true),40959,[21,17,20]⟩,
  ⟨some 22,.bin .eql (some .bool) false (.t 19) (.t 21),some (17,true),131071,[22,17,19,21]⟩,
  ⟨some 23,.pick (.t 17) (.t 22) (.k (.bool false)),none,262143,[23,17,22]⟩,
  ⟨some 24,.mv (.t 23),none,524287,[24,23]⟩,
  ⟨some 25,.fadr 5 (.t 2),some (24,true),1048575,[25,24,2]⟩,
  ⟨some 26,.load1 (.t 25),some (24,true),2097151,[26,24,25]⟩,
  ⟨some 27,.fadr 5 (.t 3),some (24,true),1048575,[27,24,3]⟩,
  ⟨some 28,.load1 (.t 27),some (24,true),5242879,[28,24,27]⟩,
  ⟨some 29,.bin .eql (some .int) false (.t 26) (.t 28),some (24,true),16777215,[29,24,26,28]⟩,
  ⟨some 30,.pick (.t 24) (.t 29) (.k (.bool false)),none,33554431,[30,24,29]⟩,
  ⟨some 31,.mv (.t 30),none,67108863,[31,30]⟩,
  ⟨some 32,.fadr 6 (.t 2),some (31,true),134217727,[32,31,2]⟩,
  ⟨some 33,.load1 (.t 32),some (31,true),268435455,[33,31,32]⟩,
  ⟨some 34,.fadr 6 (.t 3),some (31,true),134217727,[34,31,3]⟩,
  ⟨some 35,.load1 (.t 34),some (31,true),671088639,[35,31,34]⟩,
  ⟨some 36,.bin .eql (some .int) false (.t 33) (.t 35),some (31,true),2147483647,[36,31,33,35]⟩,
  ⟨some 37,.pick (.t 31) (.t 36) (.k (.bool false)),none,4294967295,[37,31,36]⟩,
  ⟨some 38,.mv (.t 37),none,8589934591,[38,37]⟩,
  ⟨some 39,.fadr 7 (.t 2),some (38,true),17179869183,[39,38,2]⟩,
  ⟨some 40,.load1 (.t 39),some (38,true),34359738367,[40,38,39]⟩,
  ⟨some 41,.fadr 7 (.t 3),some (38,true),17179869183,[41,38,3]⟩,
  ⟨some 42,.load1 (.t 41),some (38,true),85899345919,[42,38,41]⟩,
  ⟨some 43,.call (.k (.func 38 [] [])) [(.t 40),(.t 42),(.k (.func 39 [] []))],some (38,true),274877906943,[43,38,40,42]⟩,
  ⟨some 44,.pick (.t 38) (.t 43) (.k (.bool false)),none,549755813887,[44,38,43]⟩,
  ⟨some 45,.mv (.t 44),none,1099511627775,[45,44]⟩,
  ⟨some 46,.loadN 21 (.t 2),some (45,true),2199023255551,[46,45,2]⟩,
  ⟨some 47,.loadN 21 (.t 3),some (45,true),2199023255551,[47,45,3]⟩,
  ⟨some 48,.call (.k (.func 40 [] [])) [(.t 46),(.t 47)],some (45,true),8796093022207,[48,45,46,47]⟩,
  ⟨some 49,.pick (.t 45) (.t 48) (.k (.bool false)),none,17592186044415,[49,45,48]⟩,
  ⟨some 4,.mv (.t 49),none,35184372088831,[4,49]⟩]
def c17 : C := .seq (.region r17_0) (.seq (.region r17_1) (.ret))
def fn17 : Fn := ⟨50, [.t 4], c17⟩
/-! 18: orchard/orchardref26.Same -/
def r18_0 : List O := [⟨some 2,.box 63 (.t 0),none,0,[2,0]⟩,
  ⟨some 3,.box 63 (.t 1),none,0,[3,1]⟩,
  ⟨some 4,.mv (.k (.bool false)),none,0,[4]⟩]
def r18_1 : List O := [⟨some 5,.fadr 0 (.t 2),none,0,[5,2]⟩,
  ⟨some 6,.loadN 2 (.t 5),none,1,[6,5]⟩,
  ⟨some 7,.fadr 0 (.t 3),none,0,[7,3]⟩,
  ⟨some 8,.loadN 2 (.t 7),none,4,[8,7]⟩,
  ⟨some 9,.bin .eql (some (.fcons 0 1 false .int (.fcons 1 1 false .int .fnil))) false (.t 6) (.t 8),none,15,[9,6,8]⟩,
  ⟨some 10,.mv (.t 9),none,31,[10,9]⟩,
  ⟨some 11,.fadr 2 (.t 2),some (10,true),63,[11,10,2]⟩,
  ⟨some 12,.load1 (.t 11),some (10,true),127,[12,10,11]⟩,
  ⟨some 13,.fadr 2 (.t 3),some (10,true),63,[13,10,3]⟩,
  ⟨some 14,.load1 (.t 13),some (10,true),319,[14,10,13]⟩,
  ⟨some 15,.bin .eql (some .bool) false (.t 12) (.t 14),some (10,true),1023,[15,10,12,14]⟩,
  ⟨some 16,.pick (.t 10) (.t 15) (.k (.bool false)),none,2047,[16,10,15]⟩,
  ⟨some 17,.mv (.t 16),none,4095,[17,16]⟩,
  ⟨some 18,.fadr 3 (.t 2),some (17,true),8191,[18,17,2]⟩,
  ⟨some 19,.load1 (.t 18),some (17,true),16383,[19,17,18]⟩,
  ⟨some 20,.fadr 3 (.t 3),some (17,true),8191,[20,17,3]⟩,
  ⟨some 21,.load1 (.t 20),some (17,true),40959,[21,17,20]⟩,
  ⟨some 22,.bin .eql (some .bool) false (.t 19) (.t 21),some (17,true),131071,[22,17,19,21]⟩,
  ⟨some 23,.pick (.t 17) (.t 22) (.k (.bool false)),none,262143,[23,17,22]⟩,
  ⟨some 24,.mv (.t 23),none,524287,[24,23]⟩,
  ⟨some 25,.fadr 5 (.t 2),some (24,true),1048575,[25,24,2]⟩,
  ⟨some 26,.load1 (.t 25),some (24,true),2097151,[26,24,25]⟩,
  ⟨some 27,.fadr 5 (.t 3),some (24,true),1048575,[27,24,3]⟩,
  ⟨some 28,.load1 (.t 27),some (24,true),5242879,[28,24,27]⟩,
  ⟨some 29,.bin .eql (some .int) false (.t 26) (.t 28),some (24,true),16777215,[29,24,26,28]⟩,
  ⟨some 30,.pick (.t 24) (.t 29) (.k (.bool false)),none,33554431,[30,24,29]⟩,
  ⟨some 31,.mv (.t 30),none,67108863,[31,30]⟩,
  ⟨some 32,.fadr 6 (.t 2),some (31,true),134217727,[32,31,2]⟩,
  ⟨some 33,.load1 (.t 32),some (31,true),268435455,[33,31,32]⟩,
  ⟨some 34,.fadr 6 (.t 3),some (31,true),134217727,[34,31,3]⟩,
  ⟨some 35,.load1 (.t 34),some (31,true),671088639,[35,31,34]⟩,
  ⟨some 36,.bin .eql (some .int) false (.t 33) (.t 35),some (31,true),2147483647,[36,31,33,35]⟩,
  ⟨some 37,.pick (.t 31) (.t 36) (.k (.bool false)),none,4294967295,[37,31,36]⟩,
  ⟨some 38,.mv (.t 37),none,8589934591,[38,37]⟩,
  ⟨some 39,.fadr 7 (.t 2),some (38,true),17179869183,[39,38,2]⟩,
  ⟨some 40,.load1 (.t 39),some (38,true),34359738367,[40,38,39]⟩,
  ⟨some 41,.fadr 7 (.t 3),some (38,true),17179869183,[41,38,3]⟩,
  ⟨some 42,.load1 (.t 41),some (38,true),85899345919,[42,38,41]⟩,
  ⟨some 43,.call (.k (.func 41 [] [])) [(.t 40),(.t 42)],some (38,true),274877906943,[43,38,40,42]⟩,
  ⟨some 44,.pick (.t 38) (.t 43) (.k (.bool false)),none,549755813887,[44,38,43]⟩,
  ⟨some 45,.mv (.t 44),none,1099511627775,[45,44]⟩,
  ⟨some 46,.loadN 21 (.t 2),some (45,true),2199023255551,[46,45,2]⟩,
  ⟨some 47,.loadN 21 (.t 3),some (45,true),2199023255551,[47,45,3]⟩,
  ⟨some 48,.call (.k (.func 21 [] [])) [(.t 46),(.t 47)],some (45,true),8796093022207,[48,45,46,47]⟩,
  ⟨some 49,.pick (.t 45) (.t 48) (.k (.bool false)),none,17592186044415,[49,45,48]⟩,
  ⟨some 4,.mv (.t 49),none,35184372088831,[4,49]⟩]
def c18 : C := .seq (.region r18_0) (.seq (.region r18_1) (.ret))
def fn18 : Fn := ⟨50, [.t 4], c18⟩
/-! 21: orchard/orchardref26.state -/
def r21_0 : List O := [⟨some 2,.box 63 (.t 0),none,0,[2,0]⟩,
  ⟨some 3,.box 63 (.t 1),none,0,[3,1]⟩,
  ⟨some 4,.mv (.k (.bool false)),none,0,[4]⟩]
def r21_1 : List O := [⟨some 5,.fadr 4 (.t 2),none,0,[5,2]⟩,
  ⟨some 6,.load1 (.t 5),none,1,[6,5]⟩,
  ⟨some 7,.fadr 4 (.t 3),none,0,[7,3]⟩,
  ⟨some 8,.load1 (.t 7),none,4,[8,7]⟩,
  ⟨some 9,.bin .eql (some .bool) false (.t 6) (.t 8),none,15,[9,6,8]⟩,
  ⟨some 10,.mv (.t 9),none,31,[10,9]⟩,
  ⟨some 11,.fadr 8 (.t 2),some (10,true),63,[11,10,2]⟩,
  ⟨some 12,.load1 (.t 11),some (10,true),127,[12,10,11]⟩,
  ⟨some 13,.fadr 8 (.t 3),some (10,true),63,[13,10,3]⟩,
  ⟨some 14,.load1 (.t 13),some (10,true),319,[14,10,13]⟩,
  ⟨some 15,.bin .eql (some .int) false (.t 12) (.t 14),some (10,true),1023,[15,10,12,14]⟩,
  ⟨some 16,.pick (.t 10) (.t 15) (.k (.bool false)),none,2047,[16,10,15]⟩,
  ⟨some 17,.mv (.t 16),none,4095,[17,16]⟩,
  ⟨some 18,.fadr 9 (.t 2),some (17,true),8191,[18,17,2]⟩,
  ⟨some 19,.load1 (.t 18),some (17,true),16383,[19,17,18]⟩,
  ⟨some 20,.fadr 9 (.t 3),some (17,true),8191,[20,17,3]⟩,
  ⟨some 21,.load1 (.t 20),some (17,true),40959,[21,17,20]⟩,
  ⟨some 22,.bin .eql (some .int) false (.t 19) (.t 21),some (17,true),131071,[22,17,19,21]⟩,
  ⟨some 23,.pick (.t 17) (.t 22) (.k (.bool false)),none,262143,[23,17,22]⟩,
  ⟨some 24,.mv (.t 23),none,524287,[24,23]⟩,
  ⟨some 25,.fadr 10 (.t 2),some (24,true),1048575,[25,24,2]⟩,
  ⟨some 26,.load1 (.t 25),some (24,true),2097151,[26,24,25]⟩,
  ⟨some 27,.fadr 10 (.t 3),some (24,true),1048575,[27,24,3]⟩,
  ⟨some 28,.load1 (.t 27),some (24,true),5242879,[28,24,27]⟩,
  ⟨some 29,.bin .eql (some .int) false (.t 26) (.t 28),some (24,true),16777215,[29,24,26,28]⟩,
  ⟨some 30,.pick (.t 24) (.t 29) (.k (.bool false)),none,33554431,[30,24,29]⟩,
  ⟨some 31,.mv (.t 30),none,67108863,[31,30]⟩,
  ⟨some 32,.fadr 11 (.t 2),some (31,true),134217727,[32,31,2]⟩,
  ⟨some 33,.loadN 8 (.t 32),some (31,true),268435455,[33,31,32]⟩,
  ⟨some 34,.fadr 11 (.t 3),some (31,true),134217727,[34,31,3]⟩,
  ⟨some 35,.loadN 8 (.t 34),some (31,true),671088639,[35,31,34]⟩,
  ⟨some 36,.bin .eql (some (.ar 8 1 false .int)) false (.t 33) (.t 35),some (31,true),2147483647,[36,31,33,35]⟩,
  ⟨some 37,.pick (.t 31) (.t 36) (.k (.bool false)),none,4294967295,[37,31,36]⟩,
  ⟨some 38,.mv (.t 37),none,8589934591,[38,37]⟩,
  ⟨some 39,.fadr 19 (.t 2),some (38,true),17179869183,[39,38,2]⟩,
  ⟨some 40,.load1 (.t 39),some (38,true),34359738367,[40,38,39]⟩,
  ⟨some 41,.fadr 19 (.t 3),some (38,true),17179869183,[41,38,3]⟩,
  ⟨some 42,.load1 (.t 41),some (38,true),85899345919,[42,38,41]⟩,
  ⟨some 43,.call (.k (.func 22 [] [])) [(.t 40),(.t 42)],some (38,true),274877906943,[43,38,40,42]⟩,
  ⟨some 44,.pick (.t 38) (.t 43) (.k (.bool false)),none,549755813887,[44,38,43]⟩,
  ⟨some 45,.mv (.t 44),none,1099511627775,[45,44]⟩,
  ⟨some 46,.fadr 20 (.t 2),some (45,true),2199023255551,[46,45,2]⟩,
  ⟨some 47,.load1 (.t 46),some (45,true),4398046511103,[47,45,46]⟩,
  ⟨some 48,.fadr 20 (.t 3),some (45,true),2199023255551,[48,45,3]⟩,
  ⟨some 49,.load1 (.t 48),some (45,true),10995116277759,[49,45,48]⟩,
  ⟨some 50,.call (.k (.func 42 [] [])) [(.t 47),(.t 49)],some (45,true),35184372088831,[50,45,47,49]⟩,
  ⟨some 51,.pick (.t 45) (.t 50) (.k (.bool false)),none,70368744177663,[51,45,50]⟩,
  ⟨some 4,.mv (.t 51),none,140737488355327,[4,51]⟩]
def c21 : C := .seq (.region r21_0) (.seq (.region r21_1) (.ret))
def fn21 : Fn := ⟨52, [.t 4], c21⟩
/-! 22: orchard/orchardref12.Same -/
def r22_0 : List O := [⟨some 6,.mv (.t 0),none,0,[6,0]⟩,
  ⟨some 7,.lenL (.t 6),none,1,[7,6]⟩,
  ⟨some 8,.mv (.t 1),none,0,[8,1]⟩,
  ⟨some 9,.lenL (.t 8),none,4,[9,8]⟩,
  ⟨some 10,.bin .neq (some .int) false (.t 7) (.t 9),none,15,[10,7,9]⟩]
def r22_1 : List O := [⟨some 11,.mv (.t 5),none,0,[11,5]⟩,
  ⟨some 12,.mv (.t 0),none,0,[12,0]⟩,
  ⟨some 13,.lenL (.t 12),none,2,[13,12]⟩,
  ⟨some 14,.bin .lss (some .int) false (.t 11) (.t 13),none,7,[14,11,13]⟩]
def r22_2 : List O := [⟨some 17,.mv (.t 0),none,0,[17,0]⟩,
  ⟨some 18,.mv (.t 5),none,0,[18,5]⟩,
  ⟨some 19,.iadrL 4 (.t 17) (.t 18),none,3,[19,17,18]⟩,
  ⟨some 20,.loadN 4 (.t 19),none,7,[20,19]⟩,
  ⟨some 21,.mv (.t 1),none,0,[21,1]⟩,
  ⟨some 22,.mv (.t 5),none,0,[22,5]⟩,
  ⟨some 23,.iadrL 4 (.t 21) (.t 22),none,48,[23,21,22]⟩,
  ⟨some 24,.loadN 4 (.t 23),none,112,[24,23]⟩,
  ⟨some 25,.call (.k (.func 43 [] [])) [(.t 20),(.t 24)],none,255,[25,20,24]⟩,
  ⟨some 26,.un .not (.t 25),none,511,[26,25]⟩]
theorem d22_2 {P : Program} {E : Env} {ro : Option Nat} {L : Nat} {K : List Fr} {ρ : Nat → V} {h : H} {Q : Po} (hx : XDO P E ro L r22_2 K ρ h Q) : XD P E ro L r22_2 K ρ h Q := XD_ord rfl hx
def r22_3 : List O := [⟨some 15,.mv (.t 5),none,0,[15,5]⟩,
  ⟨some 16,.bin .add (some .int) true (.t 15) (.k (.int .i64 1)),none,1,[16,15]⟩,
  ⟨some 5,.mv (.t 16),none,3,[5,16]⟩]
def b22_4 : C := .seq (.seq (.region r22_1) (.cond (.t 14) (.skip) (.exit 0))) (.seq (.block 1 (.seq (.draw r22_2) (.cond (.t 26) (.seq (.region [⟨some 4,.mv (.k (.bool false)),none,0,[4]⟩]) (.ret)) (.skip)))) (.region r22_3))
theorem u22_4 {P : Program} {E : Env} {ro : Option Nat} {L : Nat} {K : List Fr} {ρ : Nat → V} {h : H} {Q : Po} : XL P E ro L b22_4 K ρ h Q = X P E ro L (.c (.seq (.seq (.region r22_1) (.cond (.t 14) (.skip) (.exit 0))) (.seq (.block 1 (.seq (.draw r22_2) (.cond (.t 26) (.seq (.region [⟨some 4, .mv (.k (.bool false)), none, 0, [4]⟩]) (.ret)) (.skip)))) (.region r22_3))) :: .l b22_4 :: K) ρ h Q := XL_unroll b22_4
def c22 : C := .seq (.region [⟨some 4,.mv (.k (.bool false)),none,0,[4]⟩]) (.seq (.seq (.region r22_0) (.cond (.t 10) (.seq (.region [⟨some 4,.mv (.k (.bool false)),none,0,[4]⟩]) (.ret)) (.skip))) (.seq (.seq (.region [⟨some 5,.mv (.k (.int .i64 0)),none,0,[5]⟩]) (.block 0 (.loop b22_4))) (.seq (.region [⟨some 4,.mv (.k (.bool true)),none,0,[4]⟩]) (.ret))))
def fn22 : Fn := ⟨27, [.t 4], c22⟩
/-! 27: orchard/orchardref26.starts -/
def r27_0 : List O := [⟨some 1,.box 63 (.t 0),none,0,[1,0]⟩,
  ⟨some 2,.mv (.k (.bool false)),none,0,[2]⟩]
def r27_1 : List O := [⟨some 3,.fadr 6 (.t 1),none,0,[3,1]⟩,
  ⟨some 4,.load1 (.t 3),none,1,[4,3]⟩,
  ⟨some 5,.bin .geq (some .int) true (.t 4) (.k (.int .i64 0)),none,3,[5,4]⟩,
  ⟨some 6,.mv (.t 5),none,7,[6,5]⟩,
  ⟨some 7,.fadr 6 (.t 1),some (6,true),15,[7,6,1]⟩,
  ⟨some 8,.load1 (.t 7),some (6,true),31,[8,6,7]⟩,
  ⟨some 9,.bin .leq (some .int) true (.t 8) (.k (.int .i64 1099511627776)),some (6,true),63,[9,6,8]⟩,
  ⟨some 10,.pick (.t 6) (.t 9) (.k (.bool false)),none,127,[10,6,9]⟩,
  ⟨some 2,.mv (.t 10),none,255,[2,10]⟩]
def c27 : C := .seq (.region r27_0) (.seq (.region r27_1) (.ret))
def fn27 : Fn := ⟨11, [.t 2], c27⟩
/-! 28: orchard/orchardref26.at -/
def r28_0 : List O := [⟨some 2,.box 63 (.t 0),none,0,[2,0]⟩,
  ⟨some 4,.alloc 49 [.int .i64 0,.int .i64 0,.int .i64 0,.int .i64 0,.int .i64 0,.int .i64 0,.int .i64 0,.int .i64 0,.str [],.str [],.str [],.int .i64 0,.int .i64 0,(.slice none 0 0 false),.int .i64 0,.int .i64 0,.int .i64 0,.int .i64 0,.int .i64 0,.int .i64 0,.int .i64 0,.int .i64 0,.int .i64 0,.int .i64 0,.int .i64 0,.int .i64 0,.int .i64 0,.int .i64 0,.int .i64 0,.int .i64 0,.int .i64 0,.int .i64 0,.int .i64 0,.int .i64 0,.int .i64 0,.int .i64 0,.int .i64 0,.int .i64 0,.int .i64 0,.int .i64 0,.int .i64 0,.int .i64 0,.int .i64 0,.int .i64 0,.int .i64 0,.int .i64 0,.int .i64 0,.int .i64 0,.int .i64 0,.int .i64 0,.int .i64 0,.int .i64 0,(.slice none 0 0 false),.int .i64 0,.int .i64 0,.int .i64 0],none,0,[4]⟩,
  ⟨some 5,.mv (.k (.bool false)),none,0,[5]⟩]
def r28_1 : List O := [⟨some 6,.loadN 21 (.t 2),none,0,[6,2]⟩,
  ⟨some 7,.call (.k (.func 27 [] [])) [(.t 6)],none,1,[7,6]⟩,
  ⟨some 8,.un .not (.t 7),none,3,[8,7]⟩,
  ⟨some 9,.mv (.t 8),none,7,[9,8]⟩,
  ⟨some 10,.mv (.t 1),some (9,false),15,[10,9,1]⟩,
  ⟨some 11,.fadr 6 (.t 2),some (9,false),15,[11,9,2]⟩,
  ⟨some 12,.load1 (.t 11),some (9,false),47,[12,9,11]⟩,
  ⟨some 13,.bin .lss (some .int) false (.t 10) (.t 12),some (9,false),127,[13,9,10,12]⟩,
  ⟨some 14,.pick (.t 9) (.k (.bool true)) (.t 13),none,255,[14,9,13]⟩,
  ⟨some 15,.mv (.t 14),none,511,[15,14]⟩,
  ⟨some 16,.mv (.t 1),some (15,false),1023,[16,15,1]⟩,
  ⟨some 17,.fadr 6 (.t 2),some (15,false),1023,[17,15,2]⟩,
  ⟨some 18,.load1 (.t 17),some (15,false),3071,[18,15,17]⟩,
  ⟨some 19,.bin .sub (some .int) false (.t 16) (.t 18),some (15,false),8191,[19,15,16,18]⟩,
  ⟨some 20,.fadr 7 (.t 2),some (15,false),1023,[20,15,2]⟩,
  ⟨some 21,.load1 (.t 20),some (15,false),17407,[21,15,20]⟩,
  ⟨some 22,.lenL (.t 21),some (15,false),50175,[22,15,21]⟩,
  ⟨some 23,.bin .geq (some .int) false (.t 19) (.t 22),some (15,false),131071,[23,15,19,22]⟩,
  ⟨some 24,.pick (.t 15) (.k (.bool true)) (.t 23),none,262143,[24,15,23]⟩]
def r28_2 : List O := [⟨some 25,.build [.int .i64 0,.int .i64 0,.int .i64 0,.int .i64 0,.int .i64 0,.int .i64 0,.int .i64 0,.int .i64 0,.str [],.str [],.str [],.int .i64 0,.int .i64 0,(.slice none 0 0 false),.int .i64 0,.int .i64 0,.int .i64 0,.int .i64 0,.int .i64 0,.int .i64 0,.int .i64 0,.int .i64 0,.int .i64 0,.int .i64 0,.int .i64 0,.int .i64 0,.int .i64 0,.int .i64 0,.int .i64 0,.int .i64 0,.int .i64 0,.int .i64 0,.int .i64 0,.int .i64 0,.int .i64 0,.int .i64 0,.int .i64 0,.int .i64 0,.int .i64 0,.int .i64 0,.int .i64 0,.int .i64 0,.int .i64 0,.int .i64 0,.int .i64 0,.int .i64 0,.int .i64 0,.int .i64 0,.int .i64 0,.int .i64 0,.int .i64 0,.int .i64 0,(.slice none 0 0 false),.int .i64 0,.int .i64 0,.int .i64 0] [],none,0,[25]⟩,
  ⟨none,.store 56 (.t 4) (.t 25),none,1,[4,25]⟩,
  ⟨some 5,.mv (.k (.bool false)),none,3,[5]⟩]
def r28_3 : List O := [⟨some 26,.fadr 7 (.t 2),none,0,[26,2]⟩,
  ⟨some 27,.load1 (.t 26),none,1,[27,26]⟩,
  ⟨some 28,.mv (.t 1),none,0,[28,1]⟩,
  ⟨some 29,.fadr 6 (.t 2),none,0,[29,2]⟩,
  ⟨some 30,.load1 (.t 29),none,8,[30,29]⟩,
  ⟨some 31,.bin .sub (some .int) false (.t 28) (.t 30),none,28,[31,28,30]⟩,
  ⟨some 32,.iadrL 56 (.t 27) (.t 31),none,63,[32,27,31]⟩,
  ⟨some 33,.loadN 56 (.t 32),none,127,[33,32]⟩,
  ⟨none,.store 56 (.t 4) (.t 33),none,255,[4,33]⟩,
  ⟨some 5,.mv (.k (.bool true)),none,511,[5]⟩]
def c28 : C := .seq (.region r28_0) (.seq (.seq (.region r28_1) (.cond (.t 24) (.seq (.region r28_2) (.ret)) (.skip))) (.seq (.region r28_3) (.ret)))
def fn28 : Fn := ⟨34, [.c 4 56 true, .t 5], c28⟩
/-! 29: orchard/orchardref04.CloneEntry -/
def r29_0 : List O := [⟨some 1,.box 49 (.t 0),none,0,[1,0]⟩,
  ⟨some 2,.alloc 49 [.int .i64 0,.int .i64 0,.int .i64 0,.int .i64 0,.int .i64 0,.int .i64 0,.int .i64 0,.int .i64 0,.str [],.str [],.str [],.int .i64 0,.int .i64 0,(.slice none 0 0 false),.int .i64 0,.int .i64 0,.int .i64 0,.int .i64 0,.int .i64 0,.int .i64 0,.int .i64 0,.int .i64 0,.int .i64 0,.int .i64 0,.int .i64 0,.int .i64 0,.int .i64 0,.int .i64 0,.int .i64 0,.int .i64 0,.int .i64 0,.int .i64 0,.int .i64 0,.int .i64 0,.int .i64 0,.int .i64 0,.int .i64 0,.int .i64 0,.int .i64 0,.int .i64 0,.int .i64 0,.int .i64 0,.int .i64 0,.int .i64 0,.int .i64 0,.int .i64 0,.int .i64 0,.int .i64 0,.int .i64 0,.int .i64 0,.int .i64 0,.int .i64 0,(.slice none 0 0 false),.int .i64 0,.int .i64 0,.int .i64 0],none,0,[2]⟩]
def r29_1 : List O := [⟨some 3,.fadr 13 (.t 1),none,0,[3,1]⟩,
  ⟨some 4,.load1 (.t 3),none,1,[4,3]⟩,
  ⟨some 5,.app 38 8 88 (.k (.slice none 0 0 false)) (.t 4),none,3,[5,4]⟩,
  ⟨some 6,.fadr 13 (.t 1),none,7,[6,1]⟩,
  ⟨none,.store 1 (.t 6) (.t 5),none,15,[6,5]⟩]
def r29_2 : List O := [⟨some 7,.fadr 49 (.t 1),none,0,[7,1]⟩,
  ⟨some 8,.fadr 3 (.t 7),none,1,[8,7]⟩,
  ⟨some 9,.load1 (.t 8),none,3,[9,8]⟩,
  ⟨some 10,.app 5 1 1 (.k (.slice none 0 0 false)) (.t 9),none,7,[10,9]⟩,
  ⟨some 11,.fadr 49 (.t 1),none,15,[11,1]⟩,
  ⟨some 12,.fadr 3 (.t 11),none,31,[12,11]⟩,
  ⟨none,.store 1 (.t 12) (.t 10),none,63,[12,10]⟩]
def r29_3 : List O := [⟨some 13,.loadN 56 (.t 1),none,0,[13,1]⟩,
  ⟨none,.store 56 (.t 2) (.t 13),none,1,[2,13]⟩]
def c29 : C := .seq (.region r29_0) (.seq (.region r29_1) (.seq (.region r29_2) (.seq (.region r29_3) (.ret))))
def fn29 : Fn := ⟨14, [.c 2 56 true], c29⟩
/-! 30: orchard/audit.count -/
def r30_0 : List O := [⟨some 3,.mv (.t 0),none,0,[3,0]⟩,
  ⟨some 4,.bin .geq (some .int) true (.t 3) (.k (.int .i64 0)),none,1,[4,3]⟩,
  ⟨some 5,.mv (.t 4),none,3,[5,4]⟩,
  ⟨some 6,.mv (.t 0),some (5,true),7,[6,5,0]⟩,
  ⟨some 7,.bin .leq (some .int) true (.t 6) (.k (.int .i64 1099511627776)),some (5,true),15,[7,5,6]⟩,
  ⟨some 8,.pick (.t 5) (.t 7) (.k (.bool false)),none,31,[8,5,7]⟩,
  ⟨some 2,.mv (.t 8),none,63,[2,8]⟩]
def c30 : C := .seq (.region [⟨some 2,.mv (.k (.bool false)),none,0,[2]⟩]) (.seq (.region r30_0) (.ret))
def fn30 : Fn := ⟨9, [.t 2], c30⟩
/-! 31: orchard/audit.at -/
def r31_0 : List O := [⟨some 2,.box 63 (.t 0),none,0,[2,0]⟩,
  ⟨some 4,.alloc 49 [.int .i64 0,.int .i64 0,.int .i64 0,.int .i64 0,.int .i64 0,.int .i64 0,.int .i64 0,.int .i64 0,.str [],.str [],.str [],.int .i64 0,.int .i64 0,(.slice none 0 0 false),.int .i64 0,.int .i64 0,.int .i64 0,.int .i64 0,.int .i64 0,.int .i64 0,.int .i64 0,.int .i64 0,.int .i64 0,.int .i64 0,.int .i64 0,.int .i64 0,.int .i64 0,.int .i64 0,.int .i64 0,.int .i64 0,.int .i64 0,.int .i64 0,.int .i64 0,.int .i64 0,.int .i64 0,.int .i64 0,.int .i64 0,.int .i64 0,.int .i64 0,.int .i64 0,.int .i64 0,.int .i64 0,.int .i64 0,.int .i64 0,.int .i64 0,.int .i64 0,.int .i64 0,.int .i64 0,.int .i64 0,.int .i64 0,.int .i64 0,.int .i64 0,(.slice none 0 0 false),.int .i64 0,.int .i64 0,.int .i64 0],none,0,[4]⟩,
  ⟨some 5,.mv (.k (.bool false)),none,0,[5]⟩]
def r31_1 : List O := [⟨some 6,.mv (.t 1),none,0,[6,1]⟩,
  ⟨some 7,.fadr 6 (.t 2),none,0,[7,2]⟩,
  ⟨some 8,.load1 (.t 7),none,2,[8,7]⟩,
  ⟨some 9,.bin .lss (some .int) false (.t 6) (.t 8),none,7,[9,6,8]⟩,
  ⟨some 10,.mv (.t 9),none,15,[10,9]⟩,
  ⟨some 11,.mv (.t 1),some (10,false),31,[11,10,1]⟩,
  ⟨some 12,.cvt .u64 (.t 11),some (10,false),63,[12,10,11]⟩,
  ⟨some 13,.fadr 6 (.t 2),some (10,false),31,[13,10,2]⟩,
  ⟨some 14,.load1 (.t 13),some (10,false),159,[14,10,13]⟩,
  ⟨some 15,.cvt .u64 (.t 14),some (10,false),415,[15,10,14]⟩,
  ⟨some 16,.bin .sub (some .int) false (.t 12) (.t 15),some (10,false),1023,[16,10,12,15]⟩,
  ⟨some 17,.fadr 7 (.t 2),some (10,false),31,[17,10,2]⟩,
  ⟨some 18,.load1 (.t 17),some (10,false),2079,[18,10,17]⟩,
  ⟨some 19,.lenL (.t 18),some (10,false),6175,[19,10,18]⟩,
  ⟨some 20,.cvt .u64 (.t 19),some (10,false),14367,[20,10,19]⟩,
  ⟨some 21,.bin .geq (some .int) false (.t 16) (.t 20),some (10,false),32767,[21,10,16,20]⟩,
  ⟨some 22,.pick (.t 10) (.k (.bool true)) (.t 21),none,65535,[22,10,21]⟩]
def r31_2 : List O := [⟨some 23,.build [.int .i64 0,.int .i64 0,.int .i64 0,.int .i64 0,.int .i64 0,.int .i64 0,.int .i64 0,.int .i64 0,.str [],.str [],.str [],.int .i64 0,.int .i64 0,(.slice none 0 0 false),.int .i64 0,.int .i64 0,.int .i64 0,.int .i64 0,.int .i64 0,.int .i64 0,.int .i64 0,.int .i64 0,.int .i64 0,.int .i64 0,.int .i64 0,.int .i64 0,.int .i64 0,.int .i64 0,.int .i64 0,.int .i64 0,.int .i64 0,.int .i64 0,.int .i64 0,.int .i64 0,.int .i64 0,.int .i64 0,.int .i64 0,.int .i64 0,.int .i64 0,.int .i64 0,.int .i64 0,.int .i64 0,.int .i64 0,.int .i64 0,.int .i64 0,.int .i64 0,.int .i64 0,.int .i64 0,.int .i64 0,.int .i64 0,.int .i64 0,.int .i64 0,(.slice none 0 0 false),.int .i64 0,.int .i64 0,.int .i64 0] [],none,0,[23]⟩,
  ⟨none,.store 56 (.t 4) (.t 23),none,1,[4,23]⟩,
  ⟨some 5,.mv (.k (.bool false)),none,3,[5]⟩]
def r31_3 : List O := [⟨some 24,.fadr 7 (.t 2),none,0,[24,2]⟩,
  ⟨some 25,.load1 (.t 24),none,1,[25,24]⟩,
  ⟨some 26,.mv (.t 1),none,0,[26,1]⟩,
  ⟨some 27,.fadr 6 (.t 2),none,0,[27,2]⟩,
  ⟨some 28,.load1 (.t 27),none,8,[28,27]⟩,
  ⟨some 29,.bin .sub (some .int) false (.t 26) (.t 28),none,28,[29,26,28]⟩,
  ⟨some 30,.iadrL 56 (.t 25) (.t 29),none,63,[30,25,29]⟩,
  ⟨some 31,.loadN 56 (.t 30),none,127,[31,30]⟩,
  ⟨none,.store 56 (.t 4) (.t 31),none,255,[4,31]⟩,
  ⟨some 5,.mv (.k (.bool true)),none,511,[5]⟩]
def c31 : C := .seq (.region r31_0) (.seq (.seq (.region r31_1) (.cond (.t 22) (.seq (.region r31_2) (.ret)) (.skip))) (.seq (.region r31_3) (.ret)))
def fn31 : Fn := ⟨32, [.c 4 56 true, .t 5], c31⟩
/-! 32: orchard/record.CloneEntry -/
def r32_0 : List O := [⟨some 1,.box 49 (.t 0),none,0,[1,0]⟩,
  ⟨some 2,.alloc 49 [.int .i64 0,.int .i64 0,.int .i64 0,.int .i64 0,.int .i64 0,.int .i64 0,.int .i64 0,.int .i64 0,.str [],.str [],.str [],.int .i64 0,.int .i64 0,(.slice none 0 0 false),.int .i64 0,.int .i64 0,.int .i64 0,.int .i64 0,.int .i64 0,.int .i64 0,.int .i64 0,.int .i64 0,.int .i64 0,.int .i64 0,.int .i64 0,.int .i64 0,.int .i64 0,.int .i64 0,.int .i64 0,.int .i64 0,.int .i64 0,.int .i64 0,.int .i64 0,.int .i64 0,.int .i64 0,.int .i64 0,.int .i64 0,.int .i64 0,.int .i64 0,.int .i64 0,.int .i64 0,.int .i64 0,.int .i64 0,.int .i64 0,.int .i64 0,.int .i64 0,.int .i64 0,.int .i64 0,.int .i64 0,.int .i64 0,.int .i64 0,.int .i64 0,(.slice none 0 0 false),.int .i64 0,.int .i64 0,.int .i64 0],none,0,[2]⟩]
def r32_1 : List O := [⟨some 3,.fadr 13 (.t 1),none,0,[3,1]⟩,
  ⟨some 4,.load1 (.t 3),none,1,[4,3]⟩,
  ⟨some 5,.call (.k (.func 56 [] [])) [(.t 4)],none,3,[5,4]⟩,
  ⟨some 6,.fadr 13 (.t 1),none,7,[6,1]⟩,
  ⟨none,.store 1 (.t 6) (.t 5),none,15,[6,5]⟩]
def r32_2 : List O := [⟨some 7,.fadr 49 (.t 1),none,0,[7,1]⟩,
  ⟨some 8,.fadr 3 (.t 7),none,1,[8,7]⟩,
  ⟨some 9,.load1 (.t 8),none,3,[9,8]⟩,
  ⟨some 10,.call (.k (.func 57 [] [])) [(.t 9)],none,7,[10,9]⟩,
  ⟨some 11,.fadr 49 (.t 1),none,15,[11,1]⟩,
  ⟨some 12,.fadr 3 (.t 11),none,31,[12,11]⟩,
  ⟨none,.store 1 (.t 12) (.t 10),none,63,[12,10]⟩]
def r32_3 : List O := [⟨some 13,.loadN 56 (.t 1),none,0,[13,1]⟩,
  ⟨none,.store 56 (.t 2) (.t 13),none,1,[2,13]⟩]
def c32 : C := .seq (.region r32_0) (.seq (.region r32_1) (.seq (.region r32_2) (.seq (.region r32_3) (.ret))))
def fn32 : Fn := ⟨14, [.c 2 56 true], c32⟩
/-! 33: orchard/orchardref04.sameOps -/
def r33_0 : List O := [⟨some 6,.mv (.t 0),none,0,[6,0]⟩,
  ⟨some 7,.lenL (.t 6),none,1,[7,6]⟩,
  ⟨some 8,.mv (.t 1),none,0,[8,1]⟩,
  ⟨some 9,.lenL (.t 8),none,4,[9,8]⟩,
  ⟨some 10,.bin .neq (some .int) false (.t 7) (.t 9),none,15,[10,7,9]⟩]
def r33_1 : List O := [⟨some 11,.mv (.t 5),none,0,[11,5]⟩,
  ⟨some 12,.mv (.t 0),none,0,[12,0]⟩,
  ⟨some 13,.lenL (.t 12),none,2,[13,12]⟩,
  ⟨some 14,.bin .lss (some .int) false (.t 11) (.t 13),none,7,[14,11,13]⟩]
def r33_2 : List O := [⟨some 17,.mv (.t 0),none,0,[17,0]⟩,
  ⟨some 18,.mv (.t 5),none,0,[18,5]⟩,
  ⟨some 19,.iadrL 8 (.t 17) (.t 18),none,3,[19,17,18]⟩,
  ⟨some 20,.loadN 8 (.t 19),none,7,[20,19]⟩,
  ⟨some 21,.mv (.t 1),none,0,[21,1]⟩,
  ⟨some 22,.mv (.t 5),none,0,[22,5]⟩,
  ⟨some 23,.iadrL 8 (.t 21) (.t 22),none,48,[23,21,22]⟩,
  ⟨some 24,.loadN 8 (.t 23),none,112,[24,23]⟩,
  ⟨some 25,.bin .neq (some (.fcons 0 2 true (.fcons 0 1 false .int (.fcons 1 1 false .int .fnil)) (.fcons 2 1 false .int (.fcons 3 1 false .int (.fcons 4 1 false .int (.fcons 5 1 false .str (.fcons 6 1 false .str (.fcons 7 1 false .str .fnil)))))))) false (.t 20) (.t 24),none,255,[25,20,24]⟩]
theorem d33_2 {P : Program} {E : Env} {ro : Option Nat} {L : Nat} {K : List Fr} {ρ : Nat → V} {h : H} {Q : Po} : XD P E ro L r33_2 K ρ h Q = XO P E ro L r33_2 K ρ h Q := XD_still rfl
def r33_3 : List O := [⟨some 15,.mv (.t 5),none,0,[15,5]⟩,
  ⟨some 16,.bin .add (some .int) true (.t 15) (.k (.int .i64 1)),none,1,[16,15]⟩,
  ⟨some 5,.mv (.t 16),none,3,[5,16]⟩]
def b33_4 : C := .seq (.seq (.region r33_1) (.cond (.t 14) (.skip) (.exit 0))) (.seq (.block 1 (.seq (.draw r33_2) (.cond (.t 25) (.seq (.region [⟨some 4,.mv (.k (.bool false)),none,0,[4]⟩]) (.ret)) (.skip)))) (.region r33_3))
theorem u33_4 {P : Program} {E : Env} {ro : Option Nat} {L : Nat} {K : List Fr} {ρ : Nat → V} {h : H} {Q : Po} : XL P E ro L b33_4 K ρ h Q = X P E ro L (.c (.seq (.seq (.region r33_1) (.cond (.t 14) (.skip) (.exit 0))) (.seq (.block 1 (.seq (.draw r33_2) (.cond (.t 25) (.seq (.region [⟨some 4, .mv (.k (.bool false)), none, 0, [4]⟩]) (.ret)) (.skip)))) (.region r33_3))) :: .l b33_4 :: K) ρ h Q := XL_unroll b33_4
def c33 : C := .seq (.region [⟨some 4,.mv (.k (.bool false)),none,0,[4]⟩]) (.seq (.seq (.region r33_0) (.cond (.t 10) (.seq (.region [⟨some 4,.mv (.k (.bool false)),none,0,[4]⟩]) (.ret)) (.skip))) (.seq (.seq (.region [⟨some 5,.mv (.k (.int .i64 0)),none,0,[5]⟩]) (.block 0 (.loop b33_4))) (.seq (.region [⟨some 4,.mv (.k (.bool true)),none,0,[4]⟩]) (.ret))))
def fn33 : Fn := ⟨26, [.t 4], c33⟩
/-! 34: orchard/orchardref04.SamePart -/
def r34_0 : List O := [⟨some 2,.box 47 (.t 0),none,0,[2,0]⟩,
  ⟨some 3,.box 47 (.t 1),none,0,[3,1]⟩,
  ⟨some 4,.mv (.k (.bool false)),none,0,[4]⟩]
def r34_1 : List O := [⟨some 5,.fadr 0 (.t 2),none,0,[5,2]⟩,
  ⟨some 6,.load1 (.t 5),none,1,[6,5]⟩,
  ⟨some 7,.fadr 0 (.t 3),none,0,[7,3]⟩,
  ⟨some 8,.load1 (.t 7),none,4,[8,7]⟩,
  ⟨some 9,.bin .eql (some .int) false (.t 6) (.t 8),none,15,[9,6,8]⟩,
  ⟨some 10,.mv (.t 9),none,31,[10,9]⟩,
  ⟨some 11,.fadr 1 (.t 2),some (10,true),63,[11,10,2]⟩,
  ⟨some 12,.load1 (.t 11),some (10,true),127,[12,10,11]⟩,
  ⟨some 13,.fadr 1 (.t 3),some (10,true),63,[13,10,3]⟩,
  ⟨some 14,.load1 (.t 13),some (10,true),319,[14,10,13]⟩,
  ⟨some 15,.bin .eql (some .int) false (.t 12) (.t 14),some (10,true),1023,[15,10,12,14]⟩,
  ⟨some 16,.pick (.t 10) (.t 15) (.k (.bool false)),none,2047,[16,10,15]⟩,
  ⟨some 17,.mv (.t 16),none,4095,[17,16]⟩,
  ⟨some 18,.fadr 2 (.t 2),some (17,true),8191,[18,17,2]⟩,
  ⟨some 19,.load1 (.t 18),some (17,true),16383,[19,17,18]⟩,
  ⟨some 20,.fadr 2 (.t 3),some (17,true),8191,[20,17,3]⟩,
  ⟨some 21,.load1 (.t 20),some (17,true),40959,[21,17,20]⟩,
  ⟨some 22,.bin .eql (some .int) false (.t 19) (.t 21),some (17,true),131071,[22,17,19,21]⟩,
  ⟨some 23,.pick (.t 17) (.t 22) (.k (.bool false)),none,262143,[23,17,22]⟩,
  ⟨some 24,.mv (.t 23),none,524287,[24,23]⟩,
  ⟨some 25,.fadr 3 (.t 2),some (24,true),1048575,[25,24,2]⟩,
  ⟨some 26,.load1 (.t 25),some (24,true),2097151,[26,24,25]⟩,
  ⟨some 27,.b2s (.t 26),some (24,true),4194303,[27,24,26]⟩,
  ⟨some 28,.fadr 3 (.t 3),some (24,true),1048575,[28,24,3]⟩,
  ⟨some 29,.load1 (.t 28),some (24,true),9437183,[29,24,28]⟩,
  ⟨some 30,.b2s (.t 29),some (24,true),26214399,[30,24,29]⟩,
  ⟨some 31,.bin .eql (some .str) false (.t 27) (.t 30),some (24,true),67108863,[31,24,27,30]⟩,
  ⟨some 32,.pick (.t 24) (.t 31) (.k (.bool false)),none,134217727,[32,24,31]⟩,
  ⟨some 4,.mv (.t 32),none,268435455,[4,32]⟩]
def c34 : C := .seq (.region r34_0) (.seq (.region r34_1) (.ret))
def fn34 : Fn := ⟨33, [.t 4], c34⟩
/-! 35: slices.Contains[[]int,int] -/
def r35_0 : List O := [⟨some 5,.mv (.t 0),none,0,[5,0]⟩,
  ⟨some 6,.mv (.t 1),none,0,[6,1]⟩,
  ⟨some 7,.call (.k (.func 58 [] [])) [(.t 5),(.t 6)],none,3,[7,5,6]⟩,
  ⟨some 8,.bin .geq (some .int) true (.t 7) (.k (.int .i64 0)),none,7,[8,7]⟩,
  ⟨some 4,.mv (.t 8),none,15,[4,8]⟩]
def c35 : C := .seq (.region [⟨some 4,.mv (.k (.bool false)),none,0,[4]⟩]) (.seq (.region r35_0) (.ret))
def fn35 : Fn := ⟨9, [.t 4], c35⟩
/-! 36: slices.ContainsFunc[[]orchard/api.View,orchard/api.View] -/
def r36_0 : List O := [⟨some 5,.mv (.t 0),none,0,[5,0]⟩,
  ⟨some 6,.mv (.t 1),none,0,[6,1]⟩,
  ⟨some 7,.call (.k (.func 59 [] [])) [(.t 5),(.t 6)],none,3,[7,5,6]⟩,
  ⟨some 8,.bin .geq (some .int) true (.t 7) (.k (.int .i64 0)),none,7,[8,7]⟩,
  ⟨some 4,.mv (.t 8),none,15,[4,8]⟩]
def c36 : C := .seq (.region [⟨some 4,.mv (.k (.bool false)),none,0,[4]⟩]) (.seq (.region r36_0) (.ret))
def fn36 : Fn := ⟨9, [.t 4], c36⟩
/-! 37: orchard/audit.Equal$1 -/
def r37_0 : List O := [⟨some 2,.box 63 (.t 0),none,0,[2,0]⟩,
  ⟨some 3,.mv (.k (.bool false)),none,0,[3]⟩]
def r37_1 : List O := [⟨some 4,.fadr 11 (.t 2),none,0,[4,2]⟩,
  ⟨some 5,.loadN 8 (.t 4),none,1,[5,4]⟩,
  ⟨some 6,.load1 (.t 1),none,0,[6,1]⟩,
  ⟨some 7,.iadrL 21 (.t 6) (.k (.int .i64 0)),none,4,[7,6]⟩,
  ⟨some 8,.fadr 11 (.t 7),none,12,[8,7]⟩,
  ⟨some 9,.loadN 8 (.t 8),none,28,[9,8]⟩,
  ⟨some 10,.bin .neq (some (.ar 8 1 false .int)) false (.t 5) (.t 9),none,63,[10,5,9]⟩,
  ⟨some 3,.mv (.t 10),none,127,[3,10]⟩]
theorem d37_1 {P : Program} {E : Env} {ro : Option Nat} {L : Nat} {K : List Fr} {ρ : Nat → V} {h : H} {Q : Po} : XD P E ro L r37_1 K ρ h Q = XO P E ro L r37_1 K ρ h Q := XD_still rfl
def c37 : C := .seq (.region r37_0) (.seq (.draw r37_1) (.ret))
def fn37 : Fn := ⟨11, [.t 3], c37⟩
/-! 38: slices.EqualFunc[[]orchard/api.Entry,[]orchard/api.Entry,orchard/api.Entry,orchard/api.Entry] -/
def r38_0 : List O := [⟨some 10,.mv (.t 0),none,0,[10,0]⟩,
  ⟨some 11,.lenL (.t 10),none,1,[11,10]⟩,
  ⟨some 12,.mv (.t 1),none,0,[12,1]⟩,
  ⟨some 13,.lenL (.t 12),none,4,[13,12]⟩,
  ⟨some 14,.bin .neq (some .int) false (.t 11) (.t 13),none,15,[14,11,13]⟩]
def r38_1 : List O := [⟨some 15,.mv (.t 0),none,0,[15,0]⟩,
  ⟨some 16,.lenL (.t 15),none,1,[16,15]⟩,
  ⟨some 17,.mv (.k (.int .i64 0)),none,0,[17]⟩]
def r38_2 : List O := [⟨some 19,.mv (.t 17),none,0,[19,17]⟩,
  ⟨some 20,.iadrL 56 (.t 15) (.t 17),none,0,[20,15,17]⟩,
  ⟨some 21,.loadN 56 (.t 20),none,2,[21,20]⟩,
  ⟨some 8,.alloc 49 [.int .i64 0,.int .i64 0,.int .i64 0,.int .i64 0,.int .i64 0,.int .i64 0,.int .i64 0,.int .i64 0,.str [],.str [],.str [],.int .i64 0,.int .i64 0,(.slice none 0 0 false),.int .i64 0,.int .i64 0,.int .i64 0,.int .i64 0,.int .i64 0,.int .i64 0,.int .i64 0,.int .i64 0,.int .i64 0,.int .i64 0,.int .i64 0,.int .i64 0,.int .i64 0,.int .i64 0,.int .i64 0,.int .i64 0,.int .i64 0,.int .i64 0,.int .i64 0,.int .i64 0,.int .i64 0,.int .i64 0,.int .i64 0,.int .i64 0,.int .i64 0,.int .i64 0,.int .i64 0,.int .i64 0,.int .i64 0,.int .i64 0,.int .i64 0,.int .i64 0,.int .i64 0,.int .i64 0,.int .i64 0,.int .i64 0,.int .i64 0,.int .i64 0,(.slice none 0 0 false),.int .i64 0,.int .i64 0,.int .i64 0],none,0,[8]⟩,
  ⟨some 7,.mv (.t 19),none,15,[7,19]⟩,
  ⟨none,.store 56 (.t 8) (.t 21),none,31,[8,21]⟩]
def r38_3 : List O := [⟨some 22,.mv (.t 1),none,0,[22,1]⟩,
  ⟨some 23,.mv (.t 7),none,0,[23,7]⟩,
  ⟨some 24,.iadrL 56 (.t 22) (.t 23),none,3,[24,22,23]⟩,
  ⟨some 25,.loadN 56 (.t 24),none,7,[25,24]⟩,
  ⟨some 9,.alloc 49 [.int .i64 0,.int .i64 0,.int .i64 0,.int .i64 0,.int .i64 0,.int .i64 0,.int .i64 0,.int .i64 0,.str [],.str [],.str [],.int .i64 0,.int .i64 0,(.slice none 0 0 false),.int .i64 0,.int .i64 0,.int .i64 0,.int .i64 0,.int .i64 0,.int .i64 0,.int .i64 0,.int .i64 0,.int .i64 0,.int .i64 0,.int .i64 0,.int .i64 0,.int .i64 0,.int .i64 0,.int .i64 0,.int .i64 0,.int .i64 0,.int .i64 0,.int .i64 0,.int .i64 0,.int .i64 0,.int .i64 0,.int .i64 0,.int .i64 0,.int .i64 0,.int .i64 0,.int .i64 0,.int .i64 0,.int .i64 0,.int .i64 0,.int .i64 0,.int .i64 0,.int .i64 0,.int .i64 0,.int .i64 0,.int .i64 0,.int .i64 0,.int .i64 0,(.slice none 0 0 false),.int .i64 0,.int .i64 0,.int .i64 0],none,0,[9]⟩,
  ⟨none,.store 56 (.t 9) (.t 25),none,31,[9,25]⟩]
def r38_4 : List O := [⟨some 26,.mv (.t 2),none,0,[26,2]⟩,
  ⟨some 27,.loadN 56 (.t 8),none,0,[27,8]⟩,
  ⟨some 28,.loadN 56 (.t 9),none,0,[28,9]⟩,
  ⟨some 29,.call (.t 26) [(.t 27),(.t 28)],none,7,[29,26,27,28]⟩,
  ⟨some 30,.un .not (.t 29),none,15,[30,29]⟩]
def r38_5 : List O := [⟨some 31,.bin .add (some .int) true (.t 17) (.k (.int .i64 1)),none,0,[31,17]⟩,
  ⟨some 17,.mv (.t 31),none,1,[17,31]⟩]
def b38_6 : C := .seq (.region [⟨some 18,.bin .lss (some .int) false (.t 17) (.t 16),none,0,[18,17,16]⟩]) (.seq (.cond (.t 18) (.skip) (.exit 0)) (.seq (.block 1 (.seq (.region r38_2) (.seq (.region r38_3) (.seq (.region r38_4) (.cond (.t 30) (.seq (.region [⟨some 6,.mv (.k (.bool false)),none,0,[6]⟩]) (.ret)) (.skip)))))) (.region r38_5)))
theorem u38_6 {P : Program} {E : Env} {ro : Option Nat} {L : Nat} {K : List Fr} {ρ : Nat → V} {h : H} {Q : Po} : XL P E ro L b38_6 K ρ h Q = X P E ro L (.c (.seq (.region [⟨some 18, .bin .lss (some .int) false (.t 17) (.t 16), none, 0, [18, 17, 16]⟩]) (.seq (.cond (.t 18) (.skip) (.exit 0)) (.seq (.block 1 (.seq (.region r38_2) (.seq (.region r38_3) (.seq (.region r38_4) (.cond (.t 30) (.seq (.region [⟨some 6, .mv (.k (.bool false)), none, 0, [6]⟩]) (.ret)) (.skip)))))) (.region r38_5)))) :: .l b38_6 :: K) ρ h Q := XL_unroll b38_6
def c38 : C := .seq (.region [⟨some 6,.mv (.k (.bool false)),none,0,[6]⟩]) (.seq (.seq (.region r38_0) (.cond (.t 14) (.seq (.region [⟨some 6,.mv (.k (.bool false)),none,0,[6]⟩]) (.ret)) (.skip))) (.seq (.seq (.region r38_1) (.block 0 (.loop b38_6))) (.seq (.region [⟨some 6,.mv (.k (.bool true)),none,0,[6]⟩]) (.ret))))
def fn38 : Fn := ⟨32, [.t 6], c38⟩
/-! 39: orchard/record.SameEntry -/
def r39_0 : List O := [⟨some 2,.box 49 (.t 0),none,0,[2,0]⟩,
  ⟨some 3,.box 49 (.t 1),none,0,[3,1]⟩,
  ⟨some 4,.mv (.k (.bool false)),none,0,[4]⟩]
def r39_1 : List O := [⟨some 5,.fadr 0 (.t 2),none,0,[5,2]⟩,
  ⟨some 6,.load1 (.t 5),none,1,[6,5]⟩,
  ⟨some 7,.fadr 0 (.t 3),none,0,[7,3]⟩,
  ⟨some 8,.load1 (.t 7),none,4,[8,7]⟩,
  ⟨some 9,.bin .eql (some .int) false (.t 6) (.t 8),none,15,[9,6,8]⟩,
  ⟨some 10,.mv (.t 9),none,31,[10,9]⟩,
  ⟨some 11,.fadr 1 (.t 2),some (10,true),63,[11,10,2]⟩,
  ⟨some 12,.load1 (.t 11),some (10,true),127,[12,10,11]⟩,
  ⟨some 13,.fadr 1 (.t 3),some (10,true),63,[13,10,3]⟩,
  ⟨some 14,.load1 (.t 13),some (10,true),319,[14,10,13]⟩,
  ⟨some 15,.bin .eql (some .int) false (.t 12) (.t 14),some (10,true),1023,[15,10,12,14]⟩,
  ⟨some 16,.pick (.t 10) (.t 15) (.k (.bool false)),none,2047,[16,10,15]⟩,
  ⟨some 17,.mv (.t 16),none,4095,[17,16]⟩,
  ⟨some 18,.fadr 2 (.t 2),some (17,true),8191,[18,17,2]⟩,
  ⟨some 19,.load1 (.t 18),some (17,true),16383,[19,17,18]⟩,
  ⟨some 20,.fadr 2 (.t 3),some (17,true),8191,[20,17,3]⟩,
  ⟨some 21,.load1 (.t 20),some (17,true),40959,[21,17,20]⟩,
  ⟨some 22,.bin .eql (some .int) false (.t 19) (.t 21),some (17,true),131071,[22,17,19,21]⟩,
  ⟨some 23,.pick (.t 17) (.t 22) (.k (.bool false)),none,262143,[23,17,22]⟩,
  ⟨some 24,.mv (.t 23),none,524287,[24,23]⟩,
  ⟨some 25,.fadr 3 (.t 2),some (24,true),1048575,[25,24,2]⟩,
  ⟨some 26,.loadN 8 (.t 25),some (24,true),2097151,[26,24,25]⟩,
  ⟨some 27,.fadr 3 (.t 3),some (24,true),1048575,[27,24,3]⟩,
  ⟨some 28,.loadN 8 (.t 27),some (24,true),5242879,[28,24,27]⟩,
  ⟨some 29,.bin .eql (some (.fcons 0 2 true (.fcons 0 1 false .int (.fcons 1 1 false .int .fnil)) (.fcons 2 1 false .int (.fcons 3 1 false .int (.fcons 4 1 false .int (.fcons 5 1 false .str (.fcons 6 1 false .str (.fcons 7 1 false .str .fnil)))))))) false (.t 26) (.t 28),some (24,true),16777215,[29,24,26,28]⟩,
  ⟨some 30,.pick (.t 24) (.t 29) (.k (.bool false)),none,33554431,[30,24,29]⟩,
  ⟨some 31,.mv (.t 30),none,67108863,[31,30]⟩,
  ⟨some 32,.fadr 11 (.t 2),some (31,true),134217727,[32,31,2]⟩,
  ⟨some 33,.load1 (.t 32),some (31,true),268435455,[33,31,32]⟩,
  ⟨some 34,.fadr 11 (.t 3),some (31,true),134217727,[34,31,3]⟩,
  ⟨some 35,.load1 (.t 34),some (31,true),671088639,[35,31,34]⟩,
  ⟨some 36,.bin .eql (some .int) false (.t 33) (.t 35),some (31,true),2147483647,[36,31,33,35]⟩,
  ⟨some 37,.pick (.t 31) (.t 36) (.k (.bool false)),none,4294967295,[37,31,36]⟩,
  ⟨some 38,.mv (.t 37),none,8589934591,[38,37]⟩,
  ⟨some 39,.fadr 12 (.t 2),some (38,true),17179869183,[39,38,2]⟩,
  ⟨some 40,.load1 (.t 39),some (38,true),34359738367,[40,38,39]⟩,
  ⟨some 41,.fadr 12 (.t 3),some (38,true),17179869183,[41,38,3]⟩,
  ⟨some 42,.load1 (.t 41),some (38,true),85899345919,[42,38,41]⟩,
  ⟨some 43,.bin .eql (some .int) false (.t 40) (.t 42),some (38,true),274877906943,[43,38,40,42]⟩,
  ⟨some 44,.pick (.t 38) (.t 43) (.k (.bool false)),none,549755813887,[44,38,43]⟩,
  ⟨some 45,.mv (.t 44),none,1099511627775,[45,44]⟩,
  ⟨some 46,.fadr 13 (.t 2),some (45,true),2199023255551,[46,45,2]⟩,
  ⟨some 47,.load1 (.t 46),some (45,true),4398046511103,[47,45,46]⟩,
  ⟨some 48,.fadr 13 (.t 3),some (45,true),2199023255551,[48,45,3]⟩,
  ⟨some 49,.load1 (.t 48),some (45,true),10995116277759,[49,45,48]⟩,
  ⟨some 50,.call (.k (.func 60 [] [])) [(.t 47),(.t 49)],some (45,true),35184372088831,[50,45,47,49]⟩,
  ⟨some 51,.pick (.t 45) (.t 50) (.k (.bool false)),none,70368744177663,[51,45,50]⟩,
  ⟨some 52,.mv (.t 51),none,140737488355327,[52,51]⟩,
  ⟨some 53,.fadr 14 (.t 2),some (52,true),281474976710655,[53,52,2]⟩,
  ⟨some 54,.loadN 25 (.t 53),some (52,true),562949953421311,[54,52,53]⟩,
  ⟨some 55,.fadr 14 (.t 3),some (52,true),281474976710655,[55,52,3]⟩,
  ⟨some 56,.loadN 25 (.t 55),some (52,true),1407374883553279,[56,52,55]⟩,
  ⟨some 57,.bin .eql (some (.fcons 0 1 false .int (.fcons 1 8 true (.ar 8 1 false .int) (.fcons 9 8 true (.ar 8 1 false .int) (.fcons 17 8 true (.ar 8 1 false .int) .fnil))))) false (.t 54) (.t 56),some (52,true),4503599627370495,[57,52,54,56]⟩,
  ⟨some 58,.pick (.t 52) (.t 57) (.k (.bool false)),none,9007199254740991,[58,52,57]⟩,
  ⟨some 59,.mv (.t 58),none,18014398509481983,[59,58]⟩,
  ⟨some 60,.fadr 39 (.t 2),some (59,true),36028797018963967,[60,59,2]⟩,
  ⟨some 61,.load1 (.t 60),some (59,true),72057594037927935,[61,59,60]⟩,
  ⟨some 62,.fadr 39 (.t 3),some (59,true),36028797018963967,[62,59,3]⟩,
  ⟨some 63,.load1 (.t 62),some (59,true),180143985094819839,[63,59,62]⟩,
  ⟨some 64,.bin .eql (some .int) false (.t 61) (.t 63),some (59,true),576460752303423487,[64,59,61,63]⟩,
  ⟨some 65,.pick (.t 59) (.t 64) (.k (.bool false)),none,1152921504606846975,[65,59,64]⟩,
  ⟨some 66,.mv (.t 65),none,2305843009213693951,[66,65]⟩,
  ⟨some 67,.fadr 40 (.t 2),some (66,true),4611686018427387903,[67,66,2]⟩,
  ⟨some 68,.loadN 8 (.t 67),some (66,true),9223372036854775807,[68,66,67]⟩,
  ⟨some 69,.fadr 40 (.t 3),some (66,true),4611686018427387903,[69,66,3]⟩,
  ⟨some 70,.loadN 8 (.t 69),some (66,true),23058430092136939519,[70,66,69]⟩,
  ⟨some 71,.bin .eql (some (.ar 8 1 false .int)) false (.t 68) (.t 70),some (66,true),73786976294838206463,[71,66,68,70]⟩,
  ⟨some 72,.pick (.t 66) (.t 71) (.k (.bool false)),none,147573952589676412927,[72,66,71]⟩,
  ⟨some 73,.mv (.t 72),none,295147905179352825855,[73,72]⟩,
  ⟨some 74,.fadr 48 (.t 2),some (73,true),590295810358705651711,[74,73,2]⟩,
  ⟨some 75,.load1 (.t 74),some (73,true),1180591620717411303423,[75,73,74]⟩,
  ⟨some 76,.fadr 48 (.t 3),some (73,true),590295810358705651711,[76,73,3]⟩,
  ⟨some 77,.load1 (.t 76),some (73,true),2951479051793528258559,[77,73,76]⟩,
  ⟨some 78,.bin .eql (some .int) false (.t 75) (.t 77),some (73,true),9444732965739290427391,[78,73,75,77]⟩,
  ⟨some 79,.pick (.t 73) (.t 78) (.k (.bool false)),none,18889465931478580854783,[79,73,78]⟩,
  ⟨some 80,.mv (.t 79),none,37778931862957161709567,[80,79]⟩,
  ⟨some 81,.fadr 49 (.t 2),some (80,true),75557863725914323419135,[81,80,2]⟩,
  ⟨some 82,.loadN 4 (.t 81),some (80,true),151115727451828646838271,[82,80,81]⟩,
  ⟨some 83,.fadr 49 (.t 3),some (80,true),75557863725914323419135,[83,80,3]⟩,
  ⟨some 84,.loadN 4 (.t 83),some (80,true),377789318629571617095679,[84,80,83]⟩,
  ⟨some 85,.call (.k (.func 61 [] [])) [(.t 82),(.t 84)],some (80,true),1208925819614629174706175,[85,80,82,84]⟩,
  ⟨some 86,.pick (.t 80) (.t 85) (.k (.bool false)),none,2417851639229258349412351,[86,80,85]⟩,
  ⟨some 87,.mv (.t 86),none,4835703278458516698824703,[87,86]⟩,
  ⟨some 88,.fadr 53 (.t 2),some (87,true),9671406556917033397649407,[88,87,2]⟩,
  ⟨some 89,.load1 (.t 88),some (87,true),19342813113834066795298815,[89,87,88]⟩,
  ⟨some 90,.fadr 53 (.t 3),some (87,true),9671406556917033397649407,[90,87,3]⟩,
  ⟨some 91,.load1 (.t 90),some (87,true),48357032784585166988247039,[91,87,90]⟩,
  ⟨some 92,.bin .eql (some .int) false (.t 89) (.t 91),some (87,true),154742504910672534362390527,[92,87,89,91]⟩,
  ⟨some 93,.pick (.t 87) (.t 92) (.k (.bool false)),none,309485009821345068724781055,[93,87,92]⟩,
  ⟨some 94,.mv (.t 93),none,618970019642690137449562111,[94,93]⟩,
  ⟨some 95,.fadr 54 (.t 2),some (94,true),1237940039285380274899124223,[95,94,2]⟩,
  ⟨some 96,.load1 (.t 95),some (94,true),2475880078570760549798248447,[96,94,95]⟩,
  ⟨some 97,.fadr 54 (.t 3),some (94,true),1237940039285380274899124223,[97,94,3]⟩,
  ⟨some 98,.load1 (.t 97),some (94,true),6189700196426901374495621119,[98,94,97]⟩,
  ⟨some 99,.bin .eql (some .int) false (.t 96) (.t 98),some (94,true),19807040628566084398385987583,[99,94,96,98]⟩,
  ⟨some 100,.pick (.t 94) (.t 99) (.k (.bool false)),none,39614081257132168796771975167,[100,94,99]⟩,
  ⟨some 101,.mv (.t 100),none,79228162514264337593543950335,[101,100]⟩,
  ⟨some 102,.fadr 55 (.t 2),some (101,true),158456325028528675187087900671,[102,101,2]⟩,
  ⟨some 103,.load1 (.t 102),some (101,true),316912650057057350374175801343,[103,101,102]⟩,
  ⟨some 104,.fadr 55 (.t 3),some (101,true),158456325028528675187087900671,[104,101,3]⟩,
  ⟨some 105,.load1 (.t 104),some (101,true),792281625142643375935439503359,[105,101,104]⟩,
  ⟨some 106,.bin .eql (some .int) false (.t 103) (.t 105),some (101,true),2535301200456458802993406410751,[106,101,103,105]⟩,
  ⟨some 107,.pick (.t 101) (.t 106) (.k (.bool false)),none,5070602400912917605986812821503,[107,101,106]⟩,
  ⟨some 4,.mv (.t 107),none,10141204801825835211973625643007,[4,107]⟩]
def c39 : C := .seq (.region r39_0) (.seq (.region r39_1) (.ret))
def fn39 : Fn := ⟨108, [.t 4], c39⟩
/-! 40: orchard/audit.sameState -/
def r40_0 : List O := [⟨some 2,.box 63 (.t 0),none,0,[2,0]⟩,
  ⟨some 3,.box 63 (.t 1),none,0,[3,1]⟩,
  ⟨some 4,.mv (.k (.bool false)),none,0,[4]⟩]
def r40_1 : List O := [⟨some 5,.fadr 4 (.t 2),none,0,[5,2]⟩,
  ⟨some 6,.load1 (.t 5),none,1,[6,5]⟩,
  ⟨some 7,.fadr 4 (.t 3),none,0,[7,3]⟩,
  ⟨some 8,.load1 (.t 7),none,4,[8,7]⟩,
  ⟨some 9,.bin .eql (some .bool) false (.t 6) (.t 8),none,15,[9,6,8]⟩,
  ⟨some 10,.mv (.t 9),none,31,[10,9]⟩,
  ⟨some 11,.fadr 8 (.t 2),some (10,true),63,[11,10,2]⟩,
  ⟨some 12,.load1 (.t 11),some (10,true),127,[12,10,11]⟩,
  ⟨some 13,.fadr 8 (.t 3),some (10,true),63,[13,10,3]⟩,
  ⟨some 14,.load1 (.t 13),some (10,true),319,[14,10,13]⟩,
  ⟨some 15,.bin .eql (some .int) false (.t 12) (.t 14),some (10,true),1023,[15,10,12,14]⟩,
  ⟨some 16,.pick (.t 10) (.t 15) (.k (.bool false)),none,2047,[16,10,15]⟩,
  ⟨some 17,.mv (.t 16),none,4095,[17,16]⟩,
  ⟨some 18,.fadr 9 (.t 2),some (17,true),8191,[18,17,2]⟩,
  ⟨some 19,.load1 (.t 18),some (17,true),16383,[19,17,18]⟩,
  ⟨some 20,.fadr 9 (.t 3),some (17,true),8191,[20,17,3]⟩,
  ⟨some 21,.load1 (.t 20),some (17,true),40959,[21,17,20]⟩,
  ⟨some 22,.bin .eql (some .int) false (.t 19) (.t 21),some (17,true),131071,[22,17,19,21]⟩,
  ⟨some 23,.pick (.t 17) (.t 22) (.k (.bool false)),none,262143,[23,17,22]⟩,
  ⟨some 24,.mv (.t 23),none,524287,[24,23]⟩,
  ⟨some 25,.fadr 10 (.t 2),some (24,true),1048575,[25,24,2]⟩,
  ⟨some 26,.load1 (.t 25),some (24,true),2097151,[26,24,25]⟩,
  ⟨some 27,.fadr 10 (.t 3),some (24,true),1048575,[27,24,3]⟩,
  ⟨some 28,.load1 (.t 27),some (24,true),5242879,[28,24,27]⟩,
  ⟨some 29,.bin .eql (some .int) false (.t 26) (.t 28),some (24,true),16777215,[29,24,26,28]⟩,
  ⟨some 30,.pick (.t 24) (.t 29) (.k (.bool false)),none,33554431,[30,24,29]⟩,
  ⟨some 31,.mv (.t 30),none,67108863,[31,30]⟩,
  ⟨some 32,.fadr 11 (.t 2),some (31,true),134217727,[32,31,2]⟩,
  ⟨some 33,.loadN 8 (.t 32),some (31,true),268435455,[33,31,32]⟩,
  ⟨some 34,.fadr 11 (.t 3),some (31,true),134217727,[34,31,3]⟩,
  ⟨some 35,.loadN 8 (.t 34),some (31,true),671088639,[35,31,34]⟩,
  ⟨some 36,.bin .eql (some (.ar 8 1 false .int)) false (.t 33) (.t 35),some (31,true),2147483647,[36,31,33,35]⟩,
  ⟨some 37,.pick (.t 31) (.t 36) (.k (.bool false)),none,4294967295,[37,31,36]⟩,
  ⟨some 38,.mv (.t 37),none,8589934591,[38,37]⟩,
  ⟨some 39,.fadr 19 (.t 2),some (38,true),17179869183,[39,38,2]⟩,
  ⟨some 40,.load1 (.t 39),some (38,true),34359738367,[40,38,39]⟩,
  ⟨some 41,.fadr 19 (.t 3),some (38,true),17179869183,[41,38,3]⟩,
  ⟨some 42,.load1 (.t 41),some (38,true),85899345919,[42,38,41]⟩,
  ⟨some 43,.call (.k (.func 62 [] [])) [(.t 40),(.t 42)],some (38,true),274877906943,[43,38,40,42]⟩,
  ⟨some 44,.pick (.t 38) (.t 43) (.k (.bool false)),none,549755813887,[44,38,43]⟩,
  ⟨some 45,.mv (.t 44),none,1099511627775,[45,44]⟩,
  ⟨some 46,.fadr 20 (.t 2),some (45,true),2199023255551,[46,45,2]⟩,
  ⟨some 47,.load1 (.t 46),some (45,true),4398046511103,[47,45,46]⟩,
  ⟨some 48,.fadr 20 (.t 3),some (45,true),2199023255551,[48,45,3]⟩,
  ⟨some 49,.load1 (.t 48),some (45,true),10995116277759,[49,45,48]⟩,
  ⟨some 50,.call (.k (.func 63 [] [])) [(.t 47),(.t 49)],some (45,true),35184372088831,[50,45,47,49]⟩,
  ⟨some 51,.pick (.t 45) (.t 50) (.k (.bool false)),none,70368744177663,[51,45,50]⟩,
  ⟨some 4,.mv (.t 51),none,140737488355327,[4,51]⟩]
def c40 : C := .seq (.region r40_0) (.seq (.region r40_1) (.ret))
def fn40 : Fn := ⟨52, [.t 4], c40⟩
/-! 41: orchard/orchardref26.sameEntries -/
def r41_0 : List O := [⟨some 6,.mv (.t 0),none,0,[6,0]⟩,
  ⟨some 7,.lenL (.t 6),none,1,[7,6]⟩,
  ⟨some 8,.mv (.t 1),none,0,[8,1]⟩,
  ⟨some 9,.lenL (.t 8),none,4,[9,8]⟩,
  ⟨some 10,.bin .neq (some .int) false (.t 7) (.t 9),none,15,[10,7,9]⟩]
def r41_1 : List O := [⟨some 11,.mv (.t 5),none,0,[11,5]⟩,
  ⟨some 12,.mv (.t 0),none,0,[12,0]⟩,
  ⟨some 13,.lenL (.t 12),none,2,[13,12]⟩,
  ⟨some 14,.bin .lss (some .int) false (.t 11) (.t 13),none,7,[14,11,13]⟩]
def r41_2 : List O := [⟨some 17,.mv (.t 0),none,0,[17,0]⟩,
  ⟨some 18,.mv (.t 5),none,0,[18,5]⟩,
  ⟨some 19,.iadrL 56 (.t 17) (.t 18),none,3,[19,17,18]⟩,
  ⟨some 20,.loadN 56 (.t 19),none,7,[20,19]⟩,
  ⟨some 21,.mv (.t 1),none,0,[21,1]⟩,
  ⟨some 22,.mv (.t 5),none,0,[22,5]⟩,
  ⟨some 23,.iadrL 56 (.t 21) (.t 22),none,48,[23,21,22]⟩,
  ⟨some 24,.loadN 56 (.t 23),none,112,[24,23]⟩,
  ⟨some 25,.call (.k (.func 11 [] [])) [(.t 20),(.t 24)],none,255,[25,20,24]⟩,
  ⟨some 26,.un .not (.t 25),none,511,[26,25]⟩]
theorem d41_2 {P : Program} {E : Env} {ro : Option Nat} {L : Nat} {K : List Fr} {ρ : Nat → V} {h : H} {Q : Po} (hx : XDO P E ro L r41_2 K ρ h Q) : XD P E ro L r41_2 K ρ h Q := XD_ord rfl hx
def r41_3 : List O := [⟨some 15,.mv (.t 5),none,0,[15,5]⟩,
  ⟨some 16,.bin .add (some .int) true (.t 15) (.k (.int .i64 1)),none,1,[16,15]⟩,
  ⟨some 5,.mv (.t 16),none,3,[5,16]⟩]
def b41_4 : C := .seq (.seq (.region r41_1) (.cond (.t 14) (.skip) (.exit 0))) (.seq (.block 1 (.seq (.draw r41_2) (.cond (.t 26) (.seq (.region [⟨some 4,.mv (.k (.bool false)),none,0,[4]⟩]) (.ret)) (.skip)))) (.region r41_3))
theorem u41_4 {P : Program} {E : Env} {ro : Option Nat} {L : Nat} {K : List Fr} {ρ : Nat → V} {h : H} {Q : Po} : XL P E ro L b41_4 K ρ h Q = X P E ro L (.c (.seq (.seq (.region r41_1) (.cond (.t 14) (.skip) (.exit 0))) (.seq (.block 1 (.seq (.draw r41_2) (.cond (.t 26) (.seq (.region [⟨some 4, .mv (.k (.bool false)), none, 0, [4]⟩]) (.ret)) (.skip)))) (.region r41_3))) :: .l b41_4 :: K) ρ h Q := XL_unroll b41_4
def c41 : C := .seq (.region [⟨some 4,.mv (.k (.bool false)),none,0,[4]⟩]) (.seq (.seq (.region r41_0) (.cond (.t 10) (.seq (.region [⟨some 4,.mv (.k (.bool false)),none,0,[4]⟩]) (.ret)) (.skip))) (.seq (.seq (.region [⟨some 5,.mv (.k (.int .i64 0)),none,0,[5]⟩]) (.block 0 (.loop b41_4))) (.seq (.region [⟨some 4,.mv (.k (.bool true)),none,0,[4]⟩]) (.ret))))
def fn41 : Fn := ⟨27, [.t 4], c41⟩
/-! 42: orchard/orchardref26.sameRows -/
def r42_0 : List O := [⟨some 6,.mv (.t 0),none,0,[6,0]⟩,
  ⟨some 7,.lenL (.t 6),none,1,[7,6]⟩,
  ⟨some 8,.mv (.t 1),none,0,[8,1]⟩,
  ⟨some 9,.lenL (.t 8),none,4,[9,8]⟩,
  ⟨some 10,.bin .neq (some .int) false (.t 7) (.t 9),none,15,[10,7,9]⟩]
def r42_1 : List O := [⟨some 11,.mv (.t 5),none,0,[11,5]⟩,
  ⟨some 12,.mv (.t 0),none,0,[12,0]⟩,
  ⟨some 13,.lenL (.t 12),none,2,[13,12]⟩,
  ⟨some 14,.bin .lss (some .int) false (.t 11) (.t 13),none,7,[14,11,13]⟩]
def r42_2 : List O := [⟨some 17,.mv (.t 0),none,0,[17,0]⟩,
  ⟨some 18,.mv (.t 5),none,0,[18,5]⟩,
  ⟨some 19,.iadrL 6 (.t 17) (.t 18),none,3,[19,17,18]⟩,
  ⟨some 20,.loadN 6 (.t 19),none,7,[20,19]⟩,
  ⟨some 21,.mv (.t 1),none,0,[21,1]⟩,
  ⟨some 22,.mv (.t 5),none,0,[22,5]⟩,
  ⟨some 23,.iadrL 6 (.t 21) (.t 22),none,48,[23,21,22]⟩,
  ⟨some 24,.loadN 6 (.t 23),none,112,[24,23]⟩,
  ⟨some 25,.bin .neq (some (.fcons 0 1 false .int (.fcons 1 1 false .int (.fcons 2 4 true (.fcons 0 1 false .int (.fcons 1 2 true (.fcons 0 1 false .int (.fcons 1 1 false .int .fnil)) (.fcons 3 1 false .int .fnil))) .fnil)))) false (.t 20) (.t 24),none,255,[25,20,24]⟩]
theorem d42_2 {P : Program} {E : Env} {ro : Option Nat} {L : Nat} {K : List Fr} {ρ : Nat → V} {h : H} {Q : Po} : XD P E ro L r42_2 K ρ h Q = XO P E ro L r42_2 K ρ h Q := XD_still rfl
def r42_3 : List O := [⟨some 15,.mv (.t 5),none,0,[15,5]⟩,
  ⟨some 16,.bin .add (some .int) true (.t 15) (.k (.int .i64 1)),none,1,[16,15]⟩,
  ⟨some 5,.mv (.t 16),none,3,[5,16]⟩]
def b42_4 : C := .seq (.seq (.region r42_1) (.cond (.t 14) (.skip) (.exit 0))) (.seq (.block 1 (.seq (.draw r42_2) (.cond (.t 25) (.seq (.region [⟨some 4,.mv (.k (.bool false)),none,0,[4]⟩]) (.ret)) (.skip)))) (.region r42_3))
theorem u42_4 {P : Program} {E : Env} {ro : Option Nat} {L : Nat} {K : List Fr} {ρ : Nat → V} {h : H} {Q : Po} : XL P E ro L b42_4 K ρ h Q = X P E ro L (.c (.seq (.seq (.region r42_1) (.cond (.t 14) (.skip) (.exit 0))) (.seq (.block 1 (.seq (.draw r42_2) (.cond (.t 25) (.seq (.region [⟨some 4, .mv (.k (.bool false)), none, 0, [4]⟩]) (.ret)) (.skip)))) (.region r42_3))) :: .l b42_4 :: K) ρ h Q := XL_unroll b42_4
def c42 : C := .seq (.region [⟨some 4,.mv (.k (.bool false)),none,0,[4]⟩]) (.seq (.seq (.region r42_0) (.cond (.t 10) (.seq (.region [⟨some 4,.mv (.k (.bool false)),none,0,[4]⟩]) (.ret)) (.skip))) (.seq (.seq (.region [⟨some 5,.mv (.k (.int .i64 0)),none,0,[5]⟩]) (.block 0 (.loop b42_4))) (.seq (.region [⟨some 4,.mv (.k (.bool true)),none,0,[4]⟩]) (.ret))))
def fn42 : Fn := ⟨26, [.t 4], c42⟩
/-! 43: orchard/orchardref12.SameNode -/
def r43_0 : List O := [⟨some 2,.box 67 (.t 0),none,0,[2,0]⟩,
  ⟨some 3,.box 67 (.t 1),none,0,[3,1]⟩,
  ⟨some 4,.mv (.k (.bool false)),none,0,[4]⟩]
def r43_1 : List O := [⟨some 6,.fadr 0 (.t 2),none,0,[6,2]⟩,
  ⟨some 7,.load1 (.t 6),none,1,[7,6]⟩,
  ⟨some 8,.fadr 0 (.t 3),none,0,[8,3]⟩,
  ⟨some 9,.load1 (.t 8),none,4,[9,8]⟩,
  ⟨some 10,.bin .neq (some .int) false (.t 7) (.t 9),none,15,[10,7,9]⟩,
  ⟨some 11,.mv (.t 10),none,31,[11,10]⟩,
  ⟨some 12,.fadr 1 (.t 2),some (11,false),63,[12,11,2]⟩,
  ⟨some 13,.load1 (.t 12),some (11,false),127,[13,11,12]⟩,
  ⟨some 14,.fadr 1 (.t 3),some (11,false),63,[14,11,3]⟩,
  ⟨some 15,.load1 (.t 14),some (11,false),319,[15,11,14]⟩,
  ⟨some 16,.bin .neq (some .int) false (.t 13) (.t 15),some (11,false),1023,[16,11,13,15]⟩,
  ⟨some 17,.pick (.t 11) (.k (.bool true)) (.t 16),none,2047,[17,11,16]⟩,
  ⟨some 18,.mv (.t 17),none,4095,[18,17]⟩,
  ⟨some 19,.fadr 2 (.t 2),some (18,false),8191,[19,18,2]⟩,
  ⟨some 20,.load1 (.t 19),some (18,false),16383,[20,18,19]⟩,
  ⟨some 21,.fadr 2 (.t 3),some (18,false),8191,[21,18,3]⟩,
  ⟨some 22,.load1 (.t 21),some (18,false),40959,[22,18,21]⟩,
  ⟨some 23,.bin .neq (some .str) false (.t 20) (.t 22),some (18,false),131071,[23,18,20,22]⟩,
  ⟨some 24,.pick (.t 18) (.k (.bool true)) (.t 23),none,262143,[24,18,23]⟩,
  ⟨some 25,.mv (.t 24),none,524287,[25,24]⟩,
  ⟨some 26,.fadr 3 (.t 2),some (25,false),1048575,[26,25,2]⟩,
  ⟨some 27,.load1 (.t 26),some (25,false),2097151,[27,25,26]⟩,
  ⟨some 28,.lenL (.t 27),some (25,false),4194303,[28,25,27]⟩,
  ⟨some 29,.fadr 3 (.t 3),some (25,false),1048575,[29,25,3]⟩,
  ⟨some 30,.load1 (.t 29),some (25,false),9437183,[30,25,29]⟩,
  ⟨some 31,.lenL (.t 30),some (25,false),26214399,[31,25,30]⟩,
  ⟨some 32,.bin .neq (some .int) false (.t 28) (.t 31),some (25,false),67108863,[32,25,28,31]⟩,
  ⟨some 33,.pick (.t 25) (.k (.bool true)) (.t 32),none,134217727,[33,25,32]⟩]
def r43_2 : List O := [⟨some 34,.mv (.t 5),none,0,[34,5]⟩,
  ⟨some 35,.fadr 3 (.t 2),none,0,[35,2]⟩,
  ⟨some 36,.load1 (.t 35),none,2,[36,35]⟩,
  ⟨some 37,.lenL (.t 36),none,6,[37,36]⟩,
  ⟨some 38,.bin .lss (some .int) false (.t 34) (.t 37),none,15,[38,34,37]⟩]
def r43_3 : List O := [⟨some 41,.fadr 3 (.t 2),none,0,[41,2]⟩,
  ⟨some 42,.load1 (.t 41),none,1,[42,41]⟩,
  ⟨some 43,.mv (.t 5),none,0,[43,5]⟩,
  ⟨some 44,.iadrL 2 (.t 42) (.t 43),none,7,[44,42,43]⟩,
  ⟨some 45,.loadN 2 (.t 44),none,15,[45,44]⟩,
  ⟨some 46,.fadr 3 (.t 3),none,0,[46,3]⟩,
  ⟨some 47,.load1 (.t 46),none,32,[47,46]⟩,
  ⟨some 48,.mv (.t 5),none,0,[48,5]⟩,
  ⟨some 49,.iadrL 2 (.t 47) (.t 48),none,224,[49,47,48]⟩,
  ⟨some 50,.loadN 2 (.t 49),none,480,[50,49]⟩,
  ⟨some 51,.bin .neq (some (.fcons 0 1 false .str (.fcons 1 1 false .str .fnil))) false (.t 45) (.t 50),none,1023,[51,45,50]⟩]
theorem d43_3 {P : Program} {E : Env} {ro : Option Nat} {L : Nat} {K : List Fr} {ρ : Nat → V} {h : H} {Q : Po} : XD P E ro L r43_3 K ρ h Q = XO P E ro L r43_3 K ρ h Q := XD_still rfl
def r43_4 : List O := [⟨some 39,.mv (.t 5),none,0,[39,5]⟩,
  ⟨some 40,.bin .add (some .int) true (.t 39) (.k (.int .i64 1)),none,1,[40,39]⟩,
  ⟨some 5,.mv (.t 40),none,3,[5,40]⟩]
def b43_5 : C := .seq (.seq (.region r43_2) (.cond (.t 38) (.skip) (.exit 0))) (.seq (.block 1 (.seq (.draw r43_3) (.cond (.t 51) (.seq (.region [⟨some 4,.mv (.k (.bool false)),none,0,[4]⟩]) (.ret)) (.skip)))) (.region r43_4))
theorem u43_5 {P : Program} {E : Env} {ro : Option Nat} {L : Nat} {K : List Fr} {ρ : Nat → V} {h : H} {Q : Po} : XL P E ro L b43_5 K ρ h Q = X P E ro L (.c (.seq (.seq (.region r43_2) (.cond (.t 38) (.skip) (.exit 0))) (.seq (.block 1 (.seq (.draw r43_3) (.cond (.t 51) (.seq (.region [⟨some 4, .mv (.k (.bool false)), none, 0, [4]⟩]) (.ret)) (.skip)))) (.region r43_4))) :: .l b43_5 :: K) ρ h Q := XL_unroll b43_5
def c43 : C := .seq (.region r43_0) (.seq (.seq (.region r43_1) (.cond (.t 33) (.seq (.region [⟨some 4,.mv (.k (.bool false)),none,0,[4]⟩]) (.ret)) (.skip))) (.seq (.seq (.region [⟨some 5,.mv (.k (.int .i64 0)),none,0,[5]⟩]) (.block 0 (.loop b43_5))) (.seq (.region [⟨some 4,.mv (.k (.bool true)),none,0,[4]⟩]) (.ret))))
def fn43 : Fn := ⟨52, [.t 4], c43⟩
/-! 56: slices.Clone[[]orchard/api.Op,orchard/api.Op] -/
def r56_0 : List O := [⟨some 3,.mv (.t 0),none,0,[3,0]⟩,
  ⟨some 4,.bin .eql (some .sl) true (.t 3) (.k (.slice none 0 0 false)),none,1,[4,3]⟩]
def r56_1 : List O := [⟨some 5,.bslice 38 0 [] [],none,0,[5]⟩,
  ⟨some 6,.mv (.t 0),none,0,[6,0]⟩,
  ⟨some 7,.app 38 8 88 (.t 5) (.t 6),none,3,[7,5,6]⟩,
  ⟨some 2,.mv (.t 7),none,7,[2,7]⟩]
def c56 : C := .seq (.region [⟨some 2,.mv (.k (.slice none 0 0 false)),none,0,[2]⟩]) (.seq (.seq (.region r56_0) (.cond (.t 4) (.seq (.region [⟨some 2,.mv (.k (.slice none 0 0 false)),none,0,[2]⟩]) (.ret)) (.skip))) (.seq (.region r56_1) (.ret)))
def fn56 : Fn := ⟨8, [.t 2], c56⟩
/-! 57: slices.Clone[[]byte,byte] -/
def r57_0 : List O := [⟨some 3,.mv (.t 0),none,0,[3,0]⟩,
  ⟨some 4,.bin .eql (some .sl) true (.t 3) (.k (.slice none 0 0 false)),none,1,[4,3]⟩]
def r57_1 : List O := [⟨some 5,.bslice 5 0 [] [],none,0,[5]⟩,
  ⟨some 6,.mv (.t 0),none,0,[6,0]⟩,
  ⟨some 7,.app 5 1 1 (.t 5) (.t 6),none,3,[7,5,6]⟩,
  ⟨some 2,.mv (.t 7),none,7,[2,7]⟩]
def c57 : C := .seq (.region [⟨some 2,.mv (.k (.slice none 0 0 false)),none,0,[2]⟩]) (.seq (.seq (.region r57_0) (.cond (.t 4) (.seq (.region [⟨some 2,.mv (.k (.slice none 0 0 false)),none,0,[2]⟩]) (.ret)) (.skip))) (.seq (.region r57_1) (.ret)))
def fn57 : Fn := ⟨8, [.t 2], c57⟩
/-! 58: slices.Index[[]int,int] -/
def r58_0 : List O := [⟨some 6,.mv (.t 0),none,0,[6,0]⟩,
  ⟨some 7,.lenL (.t 6),none,1,[7,6]⟩,
  ⟨some 8,.mv (.k (.int .i64 0)),none,0,[8]⟩]
def r58_1 : List O := [⟨some 10,.mv (.t 8),none,0,[10,8]⟩,
  ⟨some 5,.mv (.t 10),none,1,[5,10]⟩]
def r58_2 : List O := [⟨some 11,.mv (.t 1),none,0,[11,1]⟩,
  ⟨some 12,.mv (.t 0),none,0,[12,0]⟩,
  ⟨some 13,.mv (.t 5),none,0,[13,5]⟩,
  ⟨some 14,.iadrL 1 (.t 12) (.t 13),none,6,[14,12,13]⟩,
  ⟨some 15,.load1 (.t 14),none,14,[15,14]⟩,
  ⟨some 16,.bin .eql (some .int) false (.t 11) (.t 15),none,31,[16,11,15]⟩]
def r58_3 : List O := [⟨some 17,.mv (.t 5),none,0,[17,5]⟩,
  ⟨some 4,.mv (.t 17),none,1,[4,17]⟩]
def r58_4 : List O := [⟨some 18,.bin .add (some .int) true (.t 8) (.k (.int .i64 1)),none,0,[18,8]⟩,
  ⟨some 8,.mv (.t 18),none,1,[8,18]⟩]
def b58_5 : C := .seq (.region [⟨some 9,.bin .lss (some .int) false (.t 8) (.t 7),none,0,[9,8,7]⟩]) (.seq (.cond (.t 9) (.skip) (.exit 0)) (.seq (.block 1 (.seq (.region r58_1) (.seq (.region r58_2) (.cond (.t 16) (.seq (.region r58_3) (.ret)) (.skip))))) (.region r58_4)))
theorem u58_5 {P : Program} {E : Env} {ro : Option Nat} {L : Nat} {K : List Fr} {ρ : Nat → V} {h : H} {Q : Po} : XL P E ro L b58_5 K ρ h Q = X P E ro L (.c (.seq (.region [⟨some 9, .bin .lss (some .int) false (.t 8) (.t 7), none, 0, [9, 8, 7]⟩]) (.seq (.cond (.t 9) (.skip) (.exit 0)) (.seq (.block 1 (.seq (.region r58_1) (.seq (.region r58_2) (.cond (.t 16) (.seq (.region r58_3) (.ret)) (.skip))))) (.region r58_4)))) :: .l b58_5 :: K) ρ h Q := XL_unroll b58_5
def c58 : C := .seq (.region [⟨some 4,.mv (.k (.int .i64 0)),none,0,[4]⟩]) (.seq (.seq (.region r58_0) (.block 0 (.loop b58_5))) (.seq (.region [⟨some 4,.mv (.k (.int .i64 (-1))),none,0,[4]⟩]) (.ret)))
def fn58 : Fn := ⟨19, [.t 4], c58⟩
/-! 59: slices.IndexFunc[[]orchard/api.View,orchard/api.View] -/
def r59_0 : List O := [⟨some 6,.mv (.t 0),none,0,[6,0]⟩,
  ⟨some 7,.lenL (.t 6),none,1,[7,6]⟩,
  ⟨some 8,.mv (.k (.int .i64 0)),none,0,[8]⟩]
def r59_1 : List O := [⟨some 10,.mv (.t 8),none,0,[10,8]⟩,
  ⟨some 5,.mv (.t 10),none,1,[5,10]⟩]
def r59_2 : List O := [⟨some 11,.mv (.t 1),none,0,[11,1]⟩,
  ⟨some 12,.mv (.t 0),none,0,[12,0]⟩,
  ⟨some 13,.mv (.t 5),none,0,[13,5]⟩,
  ⟨some 14,.iadrL 21 (.t 12) (.t 13),none,6,[14,12,13]⟩,
  ⟨some 15,.loadN 21 (.t 14),none,14,[15,14]⟩,
  ⟨some 16,.call (.t 11) [(.t 15)],none,31,[16,11,15]⟩]
def r59_3 : List O := [⟨some 17,.mv (.t 5),none,0,[17,5]⟩,
  ⟨some 4,.mv (.t 17),none,1,[4,17]⟩]
def r59_4 : List O := [⟨some 18,.bin .add (some .int) true (.t 8) (.k (.int .i64 1)),none,0,[18,8]⟩,
  ⟨some 8,.mv (.t 18),none,1,[8,18]⟩]
def b59_5 : C := .seq (.region [⟨some 9,.bin .lss (some .int) false (.t 8) (.t 7),none,0,[9,8,7]⟩]) (.seq (.cond (.t 9) (.skip) (.exit 0)) (.seq (.block 1 (.seq (.region r59_1) (.seq (.region r59_2) (.cond (.t 16) (.seq (.region r59_3) (.ret)) (.skip))))) (.region r59_4)))
theorem u59_5 {P : Program} {E : Env} {ro : Option Nat} {L : Nat} {K : List Fr} {ρ : Nat → V} {h : H} {Q : Po} : XL P E ro L b59_5 K ρ h Q = X P E ro L (.c (.seq (.region [⟨some 9, .bin .lss (some .int) false (.t 8) (.t 7), none, 0, [9, 8, 7]⟩]) (.seq (.cond (.t 9) (.skip) (.exit 0)) (.seq (.block 1 (.seq (.region r59_1) (.seq (.region r59_2) (.cond (.t 16) (.seq (.region r59_3) (.ret)) (.skip))))) (.region r59_4)))) :: .l b59_5 :: K) ρ h Q := XL_unroll b59_5
def c59 : C := .seq (.region [⟨some 4,.mv (.k (.int .i64 0)),none,0,[4]⟩]) (.seq (.seq (.region r59_0) (.block 0 (.loop b59_5))) (.seq (.region [⟨some 4,.mv (.k (.int .i64 (-1))),none,0,[4]⟩]) (.ret)))
def fn59 : Fn := ⟨19, [.t 4], c59⟩
/-! 60: slices.Equal[[]orchard/api.Op,orchard/api.Op] -/
def r60_0 : List O := [⟨some 6,.mv (.t 0),none,0,[6,0]⟩,
  ⟨some 7,.lenL (.t 6),none,1,[7,6]⟩,
  ⟨some 8,.mv (.t 1),none,0,[8,1]⟩,
  ⟨some 9,.lenL (.t 8),none,4,[9,8]⟩,
  ⟨some 10,.bin .neq (some .int) false (.t 7) (.t 9),none,15,[10,7,9]⟩]
def r60_1 : List O := [⟨some 11,.mv (.t 0),none,0,[11,0]⟩,
  ⟨some 12,.lenL (.t 11),none,1,[12,11]⟩,
  ⟨some 13,.mv (.k (.int .i64 0)),none,0,[13]⟩]
def r60_2 : List O := [⟨some 15,.mv (.t 13),none,0,[15,13]⟩,
  ⟨some 5,.mv (.t 15),none,1,[5,15]⟩]
def r60_3 : List O := [⟨some 16,.mv (.t 0),none,0,[16,0]⟩,
  ⟨some 17,.mv (.t 5),none,0,[17,5]⟩,
  ⟨some 18,.iadrL 8 (.t 16) (.t 17),none,3,[18,16,17]⟩,
  ⟨some 19,.loadN 8 (.t 18),none,7,[19,18]⟩,
  ⟨some 20,.mv (.t 1),none,0,[20,1]⟩,
  ⟨some 21,.mv (.t 5),none,0,[21,5]⟩,
  ⟨some 22,.iadrL 8 (.t 20) (.t 21),none,48,[22,20,21]⟩,
  ⟨some 23,.loadN 8 (.t 22),none,112,[23,22]⟩,
  ⟨some 24,.bin .neq (some (.fcons 0 2 true (.fcons 0 1 false .int (.fcons 1 1 false .int .fnil)) (.fcons 2 1 false .int (.fcons 3 1 false .int (.fcons 4 1 false .int (.fcons 5 1 false .str (.fcons 6 1 false .str (.fcons 7 1 false .str .fnil)))))))) false (.t 19) (.t 23),none,255,[24,19,23]⟩]
theorem d60_3 {P : Program} {E : Env} {ro : Option Nat} {L : Nat} {K : List Fr} {ρ : Nat → V} {h : H} {Q : Po} : XD P E ro L r60_3 K ρ h Q = XO P E ro L r60_3 K ρ h Q := XD_still rfl
def r60_4 : List O := [⟨some 25,.bin .add (some .int) true (.t 13) (.k (.int .i64 1)),none,0,[25,13]⟩,
  ⟨some 13,.mv (.t 25),none,1,[13,25]⟩]
def b60_5 : C := .seq (.region [⟨some 14,.bin .lss (some .int) false (.t 13) (.t 12),none,0,[14,13,12]⟩]) (.seq (.cond (.t 14) (.skip) (.exit 0)) (.seq (.block 1 (.seq (.region r60_2) (.seq (.draw r60_3) (.cond (.t 24) (.seq (.region [⟨some 4,.mv (.k (.bool false)),none,0,[4]⟩]) (.ret)) (.skip))))) (.region r60_4)))
theorem u60_5 {P : Program} {E : Env} {ro : Option Nat} {L : Nat} {K : List Fr} {ρ : Nat → V} {h : H} {Q : Po} : XL P E ro L b60_5 K ρ h Q = X P E ro L (.c (.seq (.region [⟨some 14, .bin .lss (some .int) false (.t 13) (.t 12), none, 0, [14, 13, 12]⟩]) (.seq (.cond (.t 14) (.skip) (.exit 0)) (.seq (.block 1 (.seq (.region r60_2) (.seq (.draw r60_3) (.cond (.t 24) (.seq (.region [⟨some 4, .mv (.k (.bool false)), none, 0, [4]⟩]) (.ret)) (.skip))))) (.region r60_4)))) :: .l b60_5 :: K) ρ h Q := XL_unroll b60_5
def c60 : C := .seq (.region [⟨some 4,.mv (.k (.bool false)),none,0,[4]⟩]) (.seq (.seq (.region r60_0) (.cond (.t 10) (.seq (.region [⟨some 4,.mv (.k (.bool false)),none,0,[4]⟩]) (.ret)) (.skip))) (.seq (.seq (.region r60_1) (.block 0 (.loop b60_5))) (.seq (.region [⟨some 4,.mv (.k (.bool true)),none,0,[4]⟩]) (.ret))))
def fn60 : Fn := ⟨26, [.t 4], c60⟩
/-! 61: orchard/record.samePart -/
def r61_0 : List O := [⟨some 2,.box 47 (.t 0),none,0,[2,0]⟩,
  ⟨some 3,.box 47 (.t 1),none,0,[3,1]⟩,
  ⟨some 4,.mv (.k (.bool false)),none,0,[4]⟩]
def r61_1 : List O := [⟨some 5,.fadr 0 (.t 2),none,0,[5,2]⟩,
  ⟨some 6,.load1 (.t 5),none,1,[6,5]⟩,
  ⟨some 7,.fadr 0 (.t 3),none,0,[7,3]⟩,
  ⟨some 8,.load1 (.t 7),none,4,[8,7]⟩,
  ⟨some 9,.bin .eql (some .int) false (.t 6) (.t 8),none,15,[9,6,8]⟩,
  ⟨some 10,.mv (.t 9),none,31,[10,9]⟩,
  ⟨some 11,.fadr 1 (.t 2),some (10,true),63,[11,10,2]⟩,
  ⟨some 12,.load1 (.t 11),some (10,true),127,[12,10,11]⟩,
  ⟨some 13,.fadr 1 (.t 3),some (10,true),63,[13,10,3]⟩,
  ⟨some 14,.load1 (.t 13),some (10,true),319,[14,10,13]⟩,
  ⟨some 15,.bin .eql (some .int) false (.t 12) (.t 14),some (10,true),1023,[15,10,12,14]⟩,
  ⟨some 16,.pick (.t 10) (.t 15) (.k (.bool false)),none,2047,[16,10,15]⟩,
  ⟨some 17,.mv (.t 16),none,4095,[17,16]⟩,
  ⟨some 18,.fadr 2 (.t 2),some (17,true),8191,[18,17,2]⟩,
  ⟨some 19,.load1 (.t 18),some (17,true),16383,[19,17,18]⟩,
  ⟨some 20,.fadr 2 (.t 3),some (17,true),8191,[20,17,3]⟩,
  ⟨some 21,.load1 (.t 20),some (17,true),40959,[21,17,20]⟩,
  ⟨some 22,.bin .eql (some .int) false (.t 19) (.t 21),some (17,true),131071,[22,17,19,21]⟩,
  ⟨some 23,.pick (.t 17) (.t 22) (.k (.bool false)),none,262143,[23,17,22]⟩,
  ⟨some 24,.mv (.t 23),none,524287,[24,23]⟩,
  ⟨some 25,.fadr 3 (.t 2),some (24,true),1048575,[25,24,2]⟩,
  ⟨some 26,.load1 (.t 25),some (24,true),2097151,[26,24,25]⟩,
  ⟨some 27,.b2s (.t 26),some (24,true),4194303,[27,24,26]⟩,
  ⟨some 28,.fadr 3 (.t 3),some (24,true),1048575,[28,24,3]⟩,
  ⟨some 29,.load1 (.t 28),some (24,true),9437183,[29,24,28]⟩,
  ⟨some 30,.b2s (.t 29),some (24,true),26214399,[30,24,29]⟩,
  ⟨some 31,.bin .eql (some .str) false (.t 27) (.t 30),some (24,true),67108863,[31,24,27,30]⟩,
  ⟨some 32,.pick (.t 24) (.t 31) (.k (.bool false)),none,134217727,[32,24,31]⟩,
  ⟨some 4,.mv (.t 32),none,268435455,[4,32]⟩]
def c61 : C := .seq (.region r61_0) (.seq (.region r61_1) (.ret))
def fn61 : Fn := ⟨33, [.t 4], c61⟩
/-! 62: orchard/tree.Same -/
def r62_0 : List O := [⟨some 5,.mv (.t 0),none,0,[5,0]⟩,
  ⟨some 6,.mv (.t 1),none,0,[6,1]⟩,
  ⟨some 7,.call (.k (.func 68 [] [])) [(.t 5),(.t 6),(.k (.func 69 [] []))],none,3,[7,5,6]⟩,
  ⟨some 4,.mv (.t 7),none,7,[4,7]⟩]
def c62 : C := .seq (.region [⟨some 4,.mv (.k (.bool false)),none,0,[4]⟩]) (.seq (.region r62_0) (.ret))
def fn62 : Fn := ⟨8, [.t 4], c62⟩
/-! 63: slices.Equal[[]orchard/api.Row,orchard/api.Row] -/
def r63_0 : List O := [⟨some 6,.mv (.t 0),none,0,[6,0]⟩,
  ⟨some 7,.lenL (.t 6),none,1,[7,6]⟩,
  ⟨some 8,.mv (.t 1),none,0,[8,1]⟩,
  ⟨some 9,.lenL (.t 8),none,4,[9,8]⟩,
  ⟨some 10,.bin .neq (some .int) false (.t 7) (.t 9),none,15,[10,7,9]⟩]
def r63_1 : List O := [⟨some 11,.mv (.t 0),none,0,[11,0]⟩,
  ⟨some 12,.lenL (.t 11),none,1,[12,11]⟩,
  ⟨some 13,.mv (.k (.int .i64 0)),none,0,[13]⟩]
def r63_2 : List O := [⟨some 15,.mv (.t 13),none,0,[15,13]⟩,
  ⟨some 5,.mv (.t 15),none,1,[5,15]⟩]
def r63_3 : List O := [⟨some 16,.mv (.t 0),none,0,[16,0]⟩,
  ⟨some 17,.mv (.t 5),none,0,[17,5]⟩,
  ⟨some 18,.iadrL 6 (.t 16) (.t 17),none,3,[18,16,17]⟩,
  ⟨some 19,.loadN 6 (.t 18),none,7,[19,18]⟩,
  ⟨some 20,.mv (.t 1),none,0,[20,1]⟩,
  ⟨some 21,.mv (.t 5),none,0,[21,5]⟩,
  ⟨some 22,.iadrL 6 (.t 20) (.t 21),none,48,[22,20,21]⟩,
  ⟨some 23,.loadN 6 (.t 22),none,112,[23,22]⟩,
  ⟨some 24,.bin .neq (some (.fcons 0 1 false .int (.fcons 1 1 false .int (.fcons 2 4 true (.fcons 0 1 false .int (.fcons 1 2 true (.fcons 0 1 false .int (.fcons 1 1 false .int .fnil)) (.fcons 3 1 false .int .fnil))) .fnil)))) false (.t 19) (.t 23),none,255,[24,19,23]⟩]
theorem d63_3 {P : Program} {E : Env} {ro : Option Nat} {L : Nat} {K : List Fr} {ρ : Nat → V} {h : H} {Q : Po} : XD P E ro L r63_3 K ρ h Q = XO P E ro L r63_3 K ρ h Q := XD_still rfl
def r63_4 : List O := [⟨some 25,.bin .add (some .int) true (.t 13) (.k (.int .i64 1)),none,0,[25,13]⟩,
  ⟨some 13,.mv (.t 25),none,1,[13,25]⟩]
def b63_5 : C := .seq (.region [⟨some 14,.bin .lss (some .int) false (.t 13) (.t 12),none,0,[14,13,12]⟩]) (.seq (.cond (.t 14) (.skip) (.exit 0)) (.seq (.block 1 (.seq (.region r63_2) (.seq (.draw r63_3) (.cond (.t 24) (.seq (.region [⟨some 4,.mv (.k (.bool false)),none,0,[4]⟩]) (.ret)) (.skip))))) (.region r63_4)))
theorem u63_5 {P : Program} {E : Env} {ro : Option Nat} {L : Nat} {K : List Fr} {ρ : Nat → V} {h : H} {Q : Po} : XL P E ro L b63_5 K ρ h Q = X P E ro L (.c (.seq (.region [⟨some 14, .bin .lss (some .int) false (.t 13) (.t 12), none, 0, [14, 13, 12]⟩]) (.seq (.cond (.t 14) (.skip) (.exit 0)) (.seq (.block 1 (.seq (.region r63_2) (.seq (.draw r63_3) (.cond (.t 24) (.seq (.region [⟨some 4, .mv (.k (.bool false)), none, 0, [4]⟩]) (.ret)) (.skip))))) (.region r63_4)))) :: .l b63_5 :: K) ρ h Q := XL_unroll b63_5
def c63 : C := .seq (.region [⟨some 4,.mv (.k (.bool false)),none,0,[4]⟩]) (.seq (.seq (.region r63_0) (.cond (.t 10) (.seq (.region [⟨some 4,.mv (.k (.bool false)),none,0,[4]⟩]) (.ret)) (.skip))) (.seq (.seq (.region r63_1) (.block 0 (.loop b63_5))) (.seq (.region [⟨some 4,.mv (.k (.bool true)),none,0,[4]⟩]) (.ret))))
def fn63 : Fn := ⟨26, [.t 4], c63⟩
/-! 68: slices.EqualFunc[[]orchard/api.TreeNode,[]orchard/api.TreeNode,orchard/api.TreeNode,orchard/api.TreeNode] -/
def r68_0 : List O := [⟨some 10,.mv (.t 0),none,0,[10,0]⟩,
  ⟨some 11,.lenL (.t 10),none,1,[11,10]⟩,
  ⟨some 12,.mv (.t 1),none,0,[12,1]⟩,
  ⟨some 13,.lenL (.t 12),none,4,[13,12]⟩,
  ⟨some 14,.bin .neq (some .int) false (.t 11) (.t 13),none,15,[14,11,13]⟩]
def r68_1 : List O := [⟨some 15,.mv (.t 0),none,0,[15,0]⟩,
  ⟨some 16,.lenL (.t 15),none,1,[16,15]⟩,
  ⟨some 17,.mv (.k (.int .i64 0)),none,0,[17]⟩]
def r68_2 : List O := [⟨some 19,.mv (.t 17),none,0,[19,17]⟩,
  ⟨some 20,.iadrL 4 (.t 15) (.t 17),none,0,[20,15,17]⟩,
  ⟨some 21,.loadN 4 (.t 20),none,2,[21,20]⟩,
  ⟨some 8,.alloc 67 [.int .i64 0,.int .i64 0,.str [],(.slice none 0 0 false)],none,0,[8]⟩,
  ⟨some 7,.mv (.t 19),none,15,[7,19]⟩,
  ⟨none,.store 4 (.t 8) (.t 21),none,31,[8,21]⟩]
def r68_3 : List O := [⟨some 22,.mv (.t 1),none,0,[22,1]⟩,
  ⟨some 23,.mv (.t 7),none,0,[23,7]⟩,
  ⟨some 24,.iadrL 4 (.t 22) (.t 23),none,3,[24,22,23]⟩,
  ⟨some 25,.loadN 4 (.t 24),none,7,[25,24]⟩,
  ⟨some 9,.alloc 67 [.int .i64 0,.int .i64 0,.str [],(.slice none 0 0 false)],none,0,[9]⟩,
  ⟨none,.store 4 (.t 9) (.t 25),none,31,[9,25]⟩]
def r68_4 : List O := [⟨some 26,.mv (.t 2),none,0,[26,2]⟩,
  ⟨some 27,.loadN 4 (.t 8),none,0,[27,8]⟩,
  ⟨some 28,.loadN 4 (.t 9),none,0,[28,9]⟩,
  ⟨some 29,.call (.t 26) [(.t 27),(.t 28)],none,7,[29,26,27,28]⟩,
  ⟨some 30,.un .not (.t 29),none,15,[30,29]⟩]
def r68_5 : List O := [⟨some 31,.bin .add (some .int) true (.t 17) (.k (.int .i64 1)),none,0,[31,17]⟩,
  ⟨some 17,.mv (.t 31),none,1,[17,31]⟩]
def b68_6 : C := .seq (.region [⟨some 18,.bin .lss (some .int) false (.t 17) (.t 16),none,0,[18,17,16]⟩]) (.seq (.cond (.t 18) (.skip) (.exit 0)) (.seq (.block 1 (.seq (.region r68_2) (.seq (.region r68_3) (.seq (.region r68_4) (.cond (.t 30) (.seq (.region [⟨some 6,.mv (.k (.bool false)),none,0,[6]⟩]) (.ret)) (.skip)))))) (.region r68_5)))
theorem u68_6 {P : Program} {E : Env} {ro : Option Nat} {L : Nat} {K : List Fr} {ρ : Nat → V} {h : H} {Q : Po} : XL P E ro L b68_6 K ρ h Q = X P E ro L (.c (.seq (.region [⟨some 18, .bin .lss (some .int) false (.t 17) (.t 16), none, 0, [18, 17, 16]⟩]) (.seq (.cond (.t 18) (.skip) (.exit 0)) (.seq (.block 1 (.seq (.region r68_2) (.seq (.region r68_3) (.seq (.region r68_4) (.cond (.t 30) (.seq (.region [⟨some 6, .mv (.k (.bool false)), none, 0, [6]⟩]) (.ret)) (.skip)))))) (.region r68_5)))) :: .l b68_6 :: K) ρ h Q := XL_unroll b68_6
def c68 : C := .seq (.region [⟨some 6,.mv (.k (.bool false)),none,0,[6]⟩]) (.seq (.seq (.region r68_0) (.cond (.t 14) (.seq (.region [⟨some 6,.mv (.k (.bool false)),none,0,[6]⟩]) (.ret)) (.skip))) (.seq (.seq (.region r68_1) (.block 0 (.loop b68_6))) (.seq (.region [⟨some 6,.mv (.k (.bool true)),none,0,[6]⟩]) (.ret))))
def fn68 : Fn := ⟨32, [.t 6], c68⟩
/-! 69: orchard/tree.Same$1 -/
def r69_0 : List O := [⟨some 2,.box 67 (.t 0),none,0,[2,0]⟩,
  ⟨some 3,.box 67 (.t 1),none,0,[3,1]⟩,
  ⟨some 4,.mv (.k (.bool false)),none,0,[4]⟩]
def r69_1 : List O := [⟨some 5,.fadr 0 (.t 2),none,0,[5,2]⟩,
  ⟨some 6,.load1 (.t 5),none,1,[6,5]⟩,
  ⟨some 7,.fadr 0 (.t 3),none,0,[7,3]⟩,
  ⟨some 8,.load1 (.t 7),none,4,[8,7]⟩,
  ⟨some 9,.bin .eql (some .int) false (.t 6) (.t 8),none,15,[9,6,8]⟩,
  ⟨some 10,.mv (.t 9),none,31,[10,9]⟩,
  ⟨some 11,.fadr 1 (.t 2),some (10,true),63,[11,10,2]⟩,
  ⟨some 12,.load1 (.t 11),some (10,true),127,[12,10,11]⟩,
  ⟨some 13,.fadr 1 (.t 3),some (10,true),63,[13,10,3]⟩,
  ⟨some 14,.load1 (.t 13),some (10,true),319,[14,10,13]⟩,
  ⟨some 15,.bin .eql (some .int) false (.t 12) (.t 14),some (10,true),1023,[15,10,12,14]⟩,
  ⟨some 16,.pick (.t 10) (.t 15) (.k (.bool false)),none,2047,[16,10,15]⟩,
  ⟨some 17,.mv (.t 16),none,4095,[17,16]⟩,
  ⟨some 18,.fadr 2 (.t 2),some (17,true),8191,[18,17,2]⟩,
  ⟨some 19,.load1 (.t 18),some (17,true),16383,[19,17,18]⟩,
  ⟨some 20,.fadr 2 (.t 3),some (17,true),8191,[20,17,3]⟩,
  ⟨some 21,.load1 (.t 20),some (17,true),40959,[21,17,20]⟩,
  ⟨some 22,.bin .eql (some .str) false (.t 19) (.t 21),some (17,true),131071,[22,17,19,21]⟩,
  ⟨some 23,.pick (.t 17) (.t 22) (.k (.bool false)),none,262143,[23,17,22]⟩,
  ⟨some 24,.mv (.t 23),none,524287,[24,23]⟩,
  ⟨some 25,.fadr 3 (.t 2),some (24,true),1048575,[25,24,2]⟩,
  ⟨some 26,.load1 (.t 25),some (24,true),2097151,[26,24,25]⟩,
  ⟨some 27,.fadr 3 (.t 3),some (24,true),1048575,[27,24,3]⟩,
  ⟨some 28,.load1 (.t 27),some (24,true),5242879,[28,24,27]⟩,
  ⟨some 29,.call (.k (.func 70 [] [])) [(.t 26),(.t 28)],some (24,true),16777215,[29,24,26,28]⟩,
  ⟨some 30,.pick (.t 24) (.t 29) (.k (.bool false)),none,33554431,[30,24,29]⟩,
  ⟨some 4,.mv (.t 30),none,67108863,[4,30]⟩]
def c69 : C := .seq (.region r69_0) (.seq (.region r69_1) (.ret))
def fn69 : Fn := ⟨31, [.t 4], c69⟩
/-! 70: slices.Equal[[]orchard/api.Attr,orchard/api.Attr] -/
def r70_0 : List O := [⟨some 6,.mv (.t 0),none,0,[6,0]⟩,
  ⟨some 7,.lenL (.t 6),none,1,[7,6]⟩,
  ⟨some 8,.mv (.t 1),none,0,[8,1]⟩,
  ⟨some 9,.lenL (.t 8),none,4,[9,8]⟩,
  ⟨some 10,.bin .neq (some .int) false (.t 7) (.t 9),none,15,[10,7,9]⟩]
def r70_1 : List O := [⟨some 11,.mv (.t 0),none,0,[11,0]⟩,
  ⟨some 12,.lenL (.t 11),none,1,[12,11]⟩,
  ⟨some 13,.mv (.k (.int .i64 0)),none,0,[13]⟩]
def r70_2 : List O := [⟨some 15,.mv (.t 13),none,0,[15,13]⟩,
  ⟨some 5,.mv (.t 15),none,1,[5,15]⟩]
def r70_3 : List O := [⟨some 16,.mv (.t 0),none,0,[16,0]⟩,
  ⟨some 17,.mv (.t 5),none,0,[17,5]⟩,
  ⟨some 18,.iadrL 2 (.t 16) (.t 17),none,3,[18,16,17]⟩,
  ⟨some 19,.loadN 2 (.t 18),none,7,[19,18]⟩,
  ⟨some 20,.mv (.t 1),none,0,[20,1]⟩,
  ⟨some 21,.mv (.t 5),none,0,[21,5]⟩,
  ⟨some 22,.iadrL 2 (.t 20) (.t 21),none,48,[22,20,21]⟩,
  ⟨some 23,.loadN 2 (.t 22),none,112,[23,22]⟩,
  ⟨some 24,.bin .neq (some (.fcons 0 1 false .str (.fcons 1 1 false .str .fnil))) false (.t 19) (.t 23),none,255,[24,19,23]⟩]
theorem d70_3 {P : Program} {E : Env} {ro : Option Nat} {L : Nat} {K : List Fr} {ρ : Nat → V} {h : H} {Q : Po} : XD P E ro L r70_3 K ρ h Q = XO P E ro L r70_3 K ρ h Q := XD_still rfl
def r70_4 : List O := [⟨some 25,.bin .add (some .int) true (.t 13) (.k (.int .i64 1)),none,0,[25,13]⟩,
  ⟨some 13,.mv (.t 25),none,1,[13,25]⟩]
def b70_5 : C := .seq (.region [⟨some 14,.bin .lss (some .int) false (.t 13) (.t 12),none,0,[14,13,12]⟩]) (.seq (.cond (.t 14) (.skip) (.exit 0)) (.seq (.block 1 (.seq (.region r70_2) (.seq (.draw r70_3) (.cond (.t 24) (.seq (.region [⟨some 4,.mv (.k (.bool false)),none,0,[4]⟩]) (.ret)) (.skip))))) (.region r70_4)))
theorem u70_5 {P : Program} {E : Env} {ro : Option Nat} {L : Nat} {K : List Fr} {ρ : Nat → V} {h : H} {Q : Po} : XL P E ro L b70_5 K ρ h Q = X P E ro L (.c (.seq (.region [⟨some 14, .bin .lss (some .int) false (.t 13) (.t 12), none, 0, [14, 13, 12]⟩]) (.seq (.cond (.t 14) (.skip) (.exit 0)) (.seq (.block 1 (.seq (.region r70_2) (.seq (.draw r70_3) (.cond (.t 24) (.seq (.region [⟨some 4, .mv (.k (.bool false)), none, 0, [4]⟩]) (.ret)) (.skip))))) (.region r70_4)))) :: .l b70_5 :: K) ρ h Q := XL_unroll b70_5
def c70 : C := .seq (.region [⟨some 4,.mv (.k (.bool false)),none,0,[4]⟩]) (.seq (.seq (.region r70_0) (.cond (.t 10) (.seq (.region [⟨some 4,.mv (.k (.bool false)),none,0,[4]⟩]) (.ret)) (.skip))) (.seq (.seq (.region r70_1) (.block 0 (.loop b70_5))) (.seq (.region [⟨some 4,.mv (.k (.bool true)),none,0,[4]⟩]) (.ret))))
def fn70 : Fn := ⟨26, [.t 4], c70⟩
end Go.AM.Sc
