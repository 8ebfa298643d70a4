/- My own texts of the evaluator, its soundness and its symbolic runs, laid for this claim. -/
import Derived.Test.YtbdbikdeolanfaaGreatDoorXJToXPrim
set_option linter.unusedSimpArgs false
set_option linter.unusedVariables false
namespace Go.AM.Wn
/-! 3: orchard/orchardlaw05.WalNames -/
def r3_0 : List O := [⟨some 16,.call (.k (.func 4 [] [])) [(.k (.int .i64 100))],none,0,[16]⟩,
  ⟨some 15,.mv (.t 16),none,1,[15,16]⟩,
  ⟨some 17,.extract (.t 15) 0,none,3,[17,15]⟩,
  ⟨some 18,.extract (.t 15) 1,none,3,[18,15]⟩,
  ⟨some 5,.mv (.t 17),none,7,[5,17]⟩,
  ⟨some 6,.mv (.t 18),none,31,[6,18]⟩]
def r3_1 : List O := [⟨some 20,.call (.k (.func 5 [] [])) [(.k (.int .i64 100))],none,0,[20]⟩,
  ⟨some 19,.mv (.t 20),none,1,[19,20]⟩,
  ⟨some 21,.extract (.t 19) 0,none,3,[21,19]⟩,
  ⟨some 22,.extract (.t 19) 1,none,3,[22,19]⟩,
  ⟨some 7,.mv (.t 21),none,7,[7,21]⟩,
  ⟨some 8,.mv (.t 22),none,31,[8,22]⟩]
def r3_2 : List O := [⟨some 23,.mv (.t 6),none,0,[23,6]⟩,
  ⟨some 24,.bin .neq (some .int) true (.t 23) (.k (.int .i64 0)),none,1,[24,23]⟩,
  ⟨some 25,.mv (.t 24),none,3,[25,24]⟩,
  ⟨some 26,.call (.k (.func 6 [] [])) [],some (25,false),7,[26,25]⟩,
  ⟨some 27,.un .not (.t 26),some (25,false),15,[27,25,26]⟩,
  ⟨some 28,.pick (.t 25) (.k (.bool true)) (.t 27),none,31,[28,25,27]⟩]
def r3_3 : List O := [⟨some 30,.mv (.t 5),none,0,[30,5]⟩,
  ⟨some 31,.mv (.t 0),none,0,[31,0]⟩,
  ⟨some 32,.call (.k (.func 7 [] [])) [(.t 30),(.t 31)],none,3,[32,30,31]⟩,
  ⟨some 29,.mv (.t 32),none,7,[29,32]⟩,
  ⟨some 33,.extract (.t 29) 0,none,15,[33,29]⟩,
  ⟨some 34,.extract (.t 29) 1,none,15,[34,29]⟩,
  ⟨some 9,.mv (.t 33),none,31,[9,33]⟩,
  ⟨some 10,.mv (.t 34),none,127,[10,34]⟩]
def r3_4 : List O := [⟨some 36,.mv (.t 7),none,0,[36,7]⟩,
  ⟨some 37,.mv (.t 0),none,0,[37,0]⟩,
  ⟨some 38,.call (.k (.func 8 [] [])) [(.t 36),(.t 37)],none,3,[38,36,37]⟩,
  ⟨some 35,.mv (.t 38),none,7,[35,38]⟩,
  ⟨some 39,.extract (.t 35) 0,none,15,[39,35]⟩,
  ⟨some 40,.extract (.t 35) 1,none,15,[40,35]⟩,
  ⟨some 11,.mv (.t 39),none,31,[11,39]⟩,
  ⟨some 12,.mv (.t 40),none,127,[12,40]⟩]
def r3_5 : List O := [⟨some 42,.call (.k (.func 7 [] [])) [(.k (.ptr none)),(.k (.str [108,111,103]))],none,0,[42]⟩,
  ⟨some 41,.mv (.t 42),none,1,[41,42]⟩,
  ⟨some 43,.extract (.t 41) 0,none,3,[43,41]⟩,
  ⟨some 44,.extract (.t 41) 1,none,3,[44,41]⟩,
  ⟨some 13,.mv (.t 43),none,7,[13,43]⟩,
  ⟨some 14,.mv (.t 44),none,31,[14,44]⟩]
def r3_6 : List O := [⟨some 45,.mv (.t 0),none,0,[45,0]⟩,
  ⟨some 46,.mv (.t 1),none,0,[46,1]⟩,
  ⟨some 47,.call (.k (.func 9 [] [])) [(.t 45),(.t 46)],none,3,[47,45,46]⟩,
  ⟨some 48,.mv (.t 0),none,0,[48,0]⟩,
  ⟨some 49,.mv (.t 1),none,0,[49,1]⟩,
  ⟨some 50,.call (.k (.func 10 [] [])) [(.t 48),(.t 49)],none,31,[50,48,49]⟩,
  ⟨some 51,.bin .eql (some .str) false (.t 47) (.t 50),none,63,[51,47,50]⟩,
  ⟨some 52,.mv (.t 51),none,127,[52,51]⟩,
  ⟨some 53,.mv (.t 10),some (52,true),255,[53,52,10]⟩,
  ⟨some 54,.mv (.t 12),some (52,true),255,[54,52,12]⟩,
  ⟨some 55,.bin .eql (some .int) false (.t 53) (.t 54),some (52,true),1023,[55,52,53,54]⟩,
  ⟨some 56,.pick (.t 52) (.t 55) (.k (.bool false)),none,2047,[56,52,55]⟩,
  ⟨some 57,.mv (.t 56),none,4095,[57,56]⟩,
  ⟨some 58,.mv (.t 9),some (57,true),8191,[58,57,9]⟩,
  ⟨some 59,.bin .neq (some .ptr) true (.t 58) (.k (.ptr none)),some (57,true),16383,[59,57,58]⟩,
  ⟨some 60,.mv (.t 12),some (57,true),8191,[60,57,12]⟩,
  ⟨some 61,.bin .eql (some .int) true (.t 60) (.k (.int .i64 0)),some (57,true),40959,[61,57,60]⟩,
  ⟨some 62,.bin .eql (some .bool) false (.t 59) (.t 61),some (57,true),131071,[62,57,59,61]⟩,
  ⟨some 63,.pick (.t 57) (.t 62) (.k (.bool false)),none,262143,[63,57,62]⟩,
  ⟨some 64,.mv (.t 63),none,524287,[64,63]⟩,
  ⟨some 65,.mv (.t 14),some (64,true),1048575,[65,64,14]⟩,
  ⟨some 66,.bin .eql (some .int) true (.t 65) (.k (.int .i64 2)),some (64,true),2097151,[66,64,65]⟩,
  ⟨some 67,.pick (.t 64) (.t 66) (.k (.bool false)),none,4194303,[67,64,66]⟩,
  ⟨some 4,.mv (.t 67),none,8388607,[4,67]⟩]
def c3 : C := .seq (.region [⟨some 4,.mv (.k (.bool false)),none,0,[4]⟩]) (.seq (.region r3_0) (.seq (.region r3_1) (.seq (.seq (.region r3_2) (.cond (.t 28) (.seq (.region [⟨some 4,.mv (.k (.bool false)),none,0,[4]⟩]) (.ret)) (.skip))) (.seq (.region r3_3) (.seq (.region r3_4) (.seq (.region r3_5) (.seq (.region r3_6) (.ret))))))))
def fn3 : Fn := ⟨68, [.t 4], c3⟩
/-! 7: orchard/wal.Open -/
def r7_0 : List O := [⟨some 4,.mv (.k (.ptr none)),none,0,[4]⟩,
  ⟨some 5,.mv (.k (.int .i64 0)),none,1,[5]⟩]
def r7_1 : List O := [⟨some 20,.mv (.t 1),none,0,[20,1]⟩,
  ⟨some 21,.call (.k (.func 15 [] [])) [(.t 20)],none,1,[21,20]⟩,
  ⟨some 22,.un .not (.t 21),none,3,[22,21]⟩,
  ⟨some 19,.mv (.t 22),none,7,[19,22]⟩]
def r7_2 : List O := [⟨some 4,.mv (.k (.ptr none)),none,0,[4]⟩,
  ⟨some 5,.mv (.k (.int .i64 1)),none,1,[5]⟩]
def r7_3 : List O := [⟨some 24,.mv (.t 0),none,0,[24,0]⟩,
  ⟨some 25,.call (.k (.func 16 [] [])) [(.t 24)],none,1,[25,24]⟩,
  ⟨some 23,.mv (.t 25),none,3,[23,25]⟩]
def r7_4 : List O := [⟨some 4,.mv (.k (.ptr none)),none,0,[4]⟩,
  ⟨some 5,.mv (.k (.int .i64 7)),none,1,[5]⟩]
def r7_5 : List O := [⟨some 27,.mv (.t 0),none,0,[27,0]⟩,
  ⟨some 28,.call (.k (.func 17 [] [])) [(.t 27)],none,1,[28,27]⟩,
  ⟨some 29,.bin .eql (some .ptr) true (.t 28) (.k (.ptr none)),none,3,[29,28]⟩,
  ⟨some 26,.mv (.t 29),none,7,[26,29]⟩]
def r7_6 : List O := [⟨some 4,.mv (.k (.ptr none)),none,0,[4]⟩,
  ⟨some 5,.mv (.k (.int .i64 2)),none,1,[5]⟩]
def r7_7 : List O := [⟨some 30,.mv (.t 0),none,0,[30,0]⟩,
  ⟨some 31,.mv (.t 1),none,0,[31,1]⟩,
  ⟨some 32,.build [(.ptr none),.str [],(.slice none 0 0 false),.int .i64 0,.int .i64 0,(.bool false)] [(0,1,(.t 30)),(1,1,(.t 31))],none,3,[32,30,31]⟩,
  ⟨some 33,.box 55 (.t 32),none,7,[33,32]⟩,
  ⟨some 6,.mv (.t 33),none,15,[6,33]⟩]
def r7_8 : List O := [⟨some 34,.mv (.t 0),none,0,[34,0]⟩,
  ⟨some 35,.mv (.t 1),none,0,[35,1]⟩,
  ⟨some 36,.call (.k (.func 18 [] [])) [(.t 34),(.t 35)],none,3,[36,34,35]⟩,
  ⟨some 7,.mv (.t 36),none,7,[7,36]⟩]
def r7_9 : List O := [⟨some 37,.mv (.t 7),none,0,[37,7]⟩,
  ⟨some 38,.lenL (.t 37),none,1,[38,37]⟩,
  ⟨some 39,.mv (.k (.int .i64 0)),none,0,[39]⟩]
def r7_10 : List O := [⟨some 41,.mv (.t 39),none,0,[41,39]⟩,
  ⟨some 42,.iadrL 1 (.t 37) (.t 39),none,0,[42,37,39]⟩,
  ⟨some 43,.load1 (.t 42),none,2,[43,42]⟩,
  ⟨some 8,.mv (.t 41),none,7,[8,41]⟩,
  ⟨some 9,.mv (.t 43),none,15,[9,43]⟩]
def r7_11 : List O := [⟨some 45,.mv (.t 0),none,0,[45,0]⟩,
  ⟨some 46,.mv (.t 1),none,0,[46,1]⟩,
  ⟨some 47,.mv (.t 9),none,0,[47,9]⟩,
  ⟨some 48,.call (.k (.func 9 [] [])) [(.t 46),(.t 47)],none,6,[48,46,47]⟩,
  ⟨some 49,.call (.k (.func 19 [] [])) [(.t 45),(.t 48)],none,15,[49,45,48]⟩,
  ⟨some 44,.mv (.t 49),none,31,[44,49]⟩,
  ⟨some 50,.extract (.t 44) 0,none,63,[50,44]⟩,
  ⟨some 51,.extract (.t 44) 1,none,63,[51,44]⟩,
  ⟨some 10,.mv (.t 50),none,127,[10,50]⟩,
  ⟨some 11,.mv (.t 51),none,511,[11,51]⟩]
def r7_12 : List O := [⟨some 52,.mv (.t 11),none,0,[52,11]⟩,
  ⟨some 53,.bin .neq (some .int) true (.t 52) (.k (.int .i64 0)),none,1,[53,52]⟩]
def r7_13 : List O := [⟨some 54,.mv (.t 11),none,0,[54,11]⟩,
  ⟨some 4,.mv (.k (.ptr none)),none,0,[4]⟩,
  ⟨some 5,.mv (.t 54),none,3,[5,54]⟩]
def r7_14 : List O := [⟨some 55,.mv (.t 9),none,0,[55,9]⟩,
  ⟨some 56,.build [.int .i64 0,(.slice none 0 0 false),.int .i64 0,(.bool false)] [(0,1,(.t 55))],none,1,[56,55]⟩,
  ⟨some 12,.alloc 62 [.int .i64 0,(.slice none 0 0 false),.int .i64 0,(.bool false)],none,0,[12]⟩,
  ⟨none,.store 4 (.t 12) (.t 56),none,7,[12,56]⟩]
def r7_15 : List O := [⟨some 58,.mv (.t 10),none,0,[58,10]⟩,
  ⟨some 59,.call (.k (.func 20 [] [])) [(.t 58)],none,1,[59,58]⟩,
  ⟨some 57,.mv (.t 59),none,3,[57,59]⟩,
  ⟨some 60,.extract (.t 57) 0,none,7,[60,57]⟩,
  ⟨some 61,.extract (.t 57) 1,none,7,[61,57]⟩,
  ⟨some 62,.fadr 1 (.t 12),none,15,[62,12]⟩,
  ⟨none,.store 1 (.t 62) (.t 60),none,47,[62,60]⟩,
  ⟨some 63,.fadr 2 (.t 12),none,127,[63,12]⟩,
  ⟨none,.store 1 (.t 63) (.t 61),none,255,[63,61]⟩]
def r7_16 : List O := [⟨some 64,.mv (.t 6),none,0,[64,6]⟩,
  ⟨some 65,.loadN 4 (.t 12),none,0,[65,12]⟩,
  ⟨some 66,.call (.k (.func 21 [] [])) [(.t 65)],none,2,[66,65]⟩,
  ⟨some 67,.nilck (.t 64),none,7,[67,64]⟩,
  ⟨some 68,.fadr 3 (.t 67),none,15,[68,67]⟩,
  ⟨none,.store 1 (.t 68) (.t 66),none,31,[68,66]⟩]
def r7_17 : List O := [⟨some 70,.mv (.t 8),none,0,[70,8]⟩,
  ⟨some 71,.mv (.t 7),none,0,[71,7]⟩,
  ⟨some 72,.lenL (.t 71),none,2,[72,71]⟩,
  ⟨some 73,.bin .sub (some .int) true (.t 72) (.k (.int .i64 1)),none,6,[73,72]⟩,
  ⟨some 74,.bin .lss (some .int) false (.t 70) (.t 73),none,15,[74,70,73]⟩,
  ⟨some 75,.mv (.t 74),none,31,[75,74]⟩,
  ⟨some 76,.fadr 2 (.t 12),some (75,true),63,[76,75,12]⟩,
  ⟨some 77,.load1 (.t 76),some (75,true),127,[77,75,76]⟩,
  ⟨some 78,.mv (.t 10),some (75,true),63,[78,75,10]⟩,
  ⟨some 79,.lenL (.t 78),some (75,true),319,[79,75,78]⟩,
  ⟨some 80,.bin .lss (some .int) false (.t 77) (.t 79),some (75,true),1023,[80,75,77,79]⟩,
  ⟨some 81,.mv (.t 80),some (75,true),2047,[81,75,80]⟩,
  ⟨some 82,.loadN 4 (.t 12),some (81,false),4095,[82,81,12]⟩,
  ⟨some 83,.call (.k (.func 21 [] [])) [(.t 82)],some (81,false),8191,[83,81,82]⟩,
  ⟨some 84,.mv (.t 7),some (81,false),4095,[84,81,7]⟩,
  ⟨some 85,.mv (.t 8),some (81,false),4095,[85,81,8]⟩,
  ⟨some 86,.bin .add (some .int) true (.t 85) (.k (.int .i64 1)),some (81,false),36863,[86,81,85]⟩,
  ⟨some 87,.iadrL 1 (.t 84) (.t 86),some (81,false),118783,[87,81,84,86]⟩,
  ⟨some 88,.load1 (.t 87),some (81,false),249855,[88,81,87]⟩,
  ⟨some 89,.bin .neq (some .int) false (.t 83) (.t 88),some (81,false),524287,[89,81,83,88]⟩,
  ⟨some 90,.pick (.t 81) (.k (.bool true)) (.t 89),some (75,true),1048575,[90,75,81,89]⟩,
  ⟨some 91,.pick (.t 75) (.t 90) (.k (.bool false)),none,2097151,[91,75,90]⟩,
  ⟨some 69,.mv (.t 91),none,4194303,[69,91]⟩]
theorem d7_17 {P : Program} {E : Env} {ro : Option Nat} {L : Nat} {K : List Fr} {ρ : Nat → V} {h : H} {Q : Po} (hx : XDQ P E ro L K Q h [true, true, true, true, true, true, true, true, true, true, true, true, true, true, false, false, false, false, false, true, true, true, true] r7_17 ρ h) : XD P E ro L r7_17 K ρ h Q := XD_quiet rfl rfl hx
theorem k7_17 {P : Program} {E : Env} {ro : Option Nat} {L : Nat} {K : List Fr} {ρ : Nat → V} {h : H} {Q : Po} (lo : Nat) (hx : XDK P E ro L K Q lo h [true, true, true, true, true, true, true, true, true, true, true, true, true, true, false, false, false, false, false, true, true, true, true] r7_17 ρ h) : XD P E ro L r7_17 K ρ h Q := XD_keeps rfl rfl hx
def r7_18 : List O := [⟨some 4,.mv (.k (.ptr none)),none,0,[4]⟩,
  ⟨some 5,.mv (.k (.int .i64 51)),none,1,[5]⟩]
def r7_19 : List O := [⟨some 93,.fadr 2 (.t 12),none,0,[93,12]⟩,
  ⟨some 94,.load1 (.t 93),none,1,[94,93]⟩,
  ⟨some 95,.mv (.t 10),none,0,[95,10]⟩,
  ⟨some 96,.lenL (.t 95),none,4,[96,95]⟩,
  ⟨some 97,.bin .lss (some .int) false (.t 94) (.t 96),none,15,[97,94,96]⟩,
  ⟨some 92,.mv (.t 97),none,31,[92,97]⟩]
def r7_20 : List O := [⟨some 98,.mv (.t 6),none,0,[98,6]⟩,
  ⟨some 99,.loadN 4 (.t 12),none,0,[99,12]⟩,
  ⟨some 100,.mv (.t 10),none,0,[100,10]⟩,
  ⟨some 101,.fadr 2 (.t 12),none,0,[101,12]⟩,
  ⟨some 102,.load1 (.t 101),none,8,[102,101]⟩,
  ⟨some 103,.slL 1 (.t 100) none (some (.t 102)) none,none,28,[103,100,102]⟩,
  ⟨some 104,.call (.k (.func 22 [] [])) [(.t 98),(.t 99),(.t 103)],none,63,[104,98,99,103]⟩,
  ⟨some 13,.mv (.t 104),none,127,[13,104]⟩]
theorem d7_20 {P : Program} {E : Env} {ro : Option Nat} {L : Nat} {K : List Fr} {ρ : Nat → V} {h : H} {Q : Po} (hx : XDO P E ro L r7_20 K ρ h Q) : XD P E ro L r7_20 K ρ h Q := XD_ord rfl hx
def r7_21 : List O := [⟨some 105,.mv (.t 13),none,0,[105,13]⟩,
  ⟨some 106,.bin .neq (some .int) true (.t 105) (.k (.int .i64 0)),none,1,[106,105]⟩]
def r7_22 : List O := [⟨some 107,.mv (.t 13),none,0,[107,13]⟩,
  ⟨some 4,.mv (.k (.ptr none)),none,0,[4]⟩,
  ⟨some 5,.mv (.t 107),none,3,[5,107]⟩]
def r7_23 : List O := [⟨some 108,.fadr 1 (.t 12),none,0,[108,12]⟩,
  ⟨some 109,.load1 (.t 108),none,1,[109,108]⟩,
  ⟨some 110,.lenL (.t 109),none,3,[110,109]⟩,
  ⟨some 111,.bin .eql (some .int) true (.t 110) (.k (.int .i64 0)),none,7,[111,110]⟩]
def r7_24 : List O := [⟨some 112,.mv (.t 6),none,0,[112,6]⟩,
  ⟨some 113,.mv (.t 6),none,0,[113,6]⟩,
  ⟨some 114,.nilck (.t 113),none,2,[114,113]⟩,
  ⟨some 115,.fadr 2 (.t 114),none,6,[115,114]⟩,
  ⟨some 116,.load1 (.t 115),none,14,[116,115]⟩,
  ⟨some 117,.loadN 4 (.t 12),none,0,[117,12]⟩,
  ⟨some 118,.bslice 62 1 [.int .i64 0,(.slice none 0 0 false),.int .i64 0,(.bool false)] [(0,4,(.t 117))],none,32,[118,117]⟩,
  ⟨some 119,.app 62 4 48 (.t 116) (.t 118),none,126,[119,116,118]⟩,
  ⟨some 120,.nilck (.t 112),none,255,[120,112]⟩,
  ⟨some 121,.fadr 2 (.t 120),none,511,[121,120]⟩,
  ⟨none,.store 1 (.t 121) (.t 119),none,1023,[121,119]⟩]
theorem d7_24 {P : Program} {E : Env} {ro : Option Nat} {L : Nat} {K : List Fr} {ρ : Nat → V} {h : H} {Q : Po} (hx : XDQ P E ro L K Q h [true, true, true, true, true, true, true, true, true, true, true] r7_24 ρ h) : XD P E ro L r7_24 K ρ h Q := XD_quiet rfl rfl hx
theorem k7_24 {P : Program} {E : Env} {ro : Option Nat} {L : Nat} {K : List Fr} {ρ : Nat → V} {h : H} {Q : Po} (lo : Nat) (hx : XDK P E ro L K Q lo h [true, true, true, true, true, true, true, true, true, true, true] r7_24 ρ h) : XD P E ro L r7_24 K ρ h Q := XD_keeps rfl rfl hx
def r7_25 : List O := [⟨some 122,.bin .add (some .int) true (.t 39) (.k (.int .i64 1)),none,0,[122,39]⟩,
  ⟨some 39,.mv (.t 122),none,1,[39,122]⟩]
def b7_26 : C := .seq (.region [⟨some 40,.bin .lss (some .int) false (.t 39) (.t 38),none,0,[40,39,38]⟩]) (.seq (.cond (.t 40) (.skip) (.exit 1)) (.seq (.block 2 (.seq (.region r7_10) (.seq (.region r7_11) (.seq (.seq (.region r7_12) (.cond (.t 53) (.seq (.region r7_13) (.ret)) (.skip))) (.seq (.region r7_14) (.seq (.region r7_15) (.seq (.region r7_16) (.seq (.block 3 (.seq (.draw r7_17) (.cond (.t 69) (.seq (.region r7_18) (.ret)) (.seq (.region r7_19) (.cond (.t 92) (.seq (.seq (.draw r7_20) (.seq (.region r7_21) (.cond (.t 106) (.seq (.region r7_22) (.ret)) (.skip)))) (.seq (.region r7_23) (.cond (.t 111) (.exit 1) (.skip)))) (.skip)))))) (.draw r7_24))))))))) (.region r7_25)))
theorem u7_26 {P : Program} {E : Env} {ro : Option Nat} {L : Nat} {K : List Fr} {ρ : Nat → V} {h : H} {Q : Po} : XL P E ro L b7_26 K ρ h Q = X P E ro L (.c (.seq (.region [⟨some 40, .bin .lss (some .int) false (.t 39) (.t 38), none, 0, [40, 39, 38]⟩]) (.seq (.cond (.t 40) (.skip) (.exit 1)) (.seq (.block 2 (.seq (.region r7_10) (.seq (.region r7_11) (.seq (.seq (.region r7_12) (.cond (.t 53) (.seq (.region r7_13) (.ret)) (.skip))) (.seq (.region r7_14) (.seq (.region r7_15) (.seq (.region r7_16) (.seq (.block 3 (.seq (.draw r7_17) (.cond (.t 69) (.seq (.region r7_18) (.ret)) (.seq (.region r7_19) (.cond (.t 92) (.seq (.seq (.draw r7_20) (.seq (.region r7_21) (.cond (.t 106) (.seq (.region r7_22) (.ret)) (.skip)))) (.seq (.region r7_23) (.cond (.t 111) (.exit 1) (.skip)))) (.skip)))))) (.draw r7_24))))))))) (.region r7_25)))) :: .l b7_26 :: K) ρ h Q := XL_unroll b7_26
def r7_27 : List O := [⟨some 123,.mv (.t 6),none,0,[123,6]⟩,
  ⟨some 124,.nilck (.t 123),none,1,[124,123]⟩,
  ⟨some 125,.fadr 2 (.t 124),none,3,[125,124]⟩,
  ⟨some 126,.load1 (.t 125),none,7,[126,125]⟩,
  ⟨some 127,.lenL (.t 126),none,15,[127,126]⟩,
  ⟨some 128,.mv (.k (.int .i64 0)),none,0,[128]⟩]
def r7_28 : List O := [⟨some 130,.iadrL 4 (.t 126) (.t 128),none,0,[130,126,128]⟩,
  ⟨some 131,.loadN 4 (.t 130),none,1,[131,130]⟩,
  ⟨some 15,.alloc 62 [.int .i64 0,(.slice none 0 0 false),.int .i64 0,(.bool false)],none,0,[15]⟩,
  ⟨none,.store 4 (.t 15) (.t 131),none,7,[15,131]⟩]
def r7_29 : List O := [⟨some 133,.mv (.t 0),none,0,[133,0]⟩,
  ⟨some 134,.mv (.t 1),none,0,[134,1]⟩,
  ⟨some 135,.fadr 0 (.t 15),none,0,[135,15]⟩,
  ⟨some 136,.load1 (.t 135),none,4,[136,135]⟩,
  ⟨some 137,.call (.k (.func 9 [] [])) [(.t 134),(.t 136)],none,14,[137,134,136]⟩,
  ⟨some 138,.call (.k (.func 23 [] [])) [(.t 133),(.t 137)],none,31,[138,133,137]⟩,
  ⟨some 132,.mv (.t 138),none,63,[132,138]⟩,
  ⟨some 139,.extract (.t 132) 0,none,127,[139,132]⟩,
  ⟨some 140,.extract (.t 132) 1,none,127,[140,132]⟩,
  ⟨some 141,.extract (.t 132) 2,none,127,[141,132]⟩,
  ⟨some 16,.mv (.t 139),none,255,[16,139]⟩,
  ⟨some 17,.mv (.t 140),none,1535,[17,140]⟩,
  ⟨some 18,.mv (.t 141),none,4095,[18,141]⟩]
def r7_30 : List O := [⟨some 142,.mv (.t 18),none,0,[142,18]⟩,
  ⟨some 143,.bin .eql (some .int) true (.t 142) (.k (.int .i64 0)),none,1,[143,142]⟩,
  ⟨some 144,.mv (.t 143),none,3,[144,143]⟩,
  ⟨some 145,.mv (.t 17),some (144,true),7,[145,144,17]⟩,
  ⟨some 146,.mv (.t 16),some (144,true),7,[146,144,16]⟩,
  ⟨some 147,.bin .lss (some .int) false (.t 145) (.t 146),some (144,true),31,[147,144,145,146]⟩,
  ⟨some 148,.pick (.t 144) (.t 147) (.k (.bool false)),none,63,[148,144,147]⟩]
def r7_31 : List O := [⟨some 149,.mv (.t 0),none,0,[149,0]⟩,
  ⟨some 150,.mv (.t 1),none,0,[150,1]⟩,
  ⟨some 151,.fadr 0 (.t 15),none,0,[151,15]⟩,
  ⟨some 152,.load1 (.t 151),none,4,[152,151]⟩,
  ⟨some 153,.call (.k (.func 9 [] [])) [(.t 150),(.t 152)],none,14,[153,150,152]⟩,
  ⟨some 154,.call (.k (.func 24 [] [])) [(.t 149),(.t 153)],none,31,[154,149,153]⟩,
  ⟨some 18,.mv (.t 154),none,63,[18,154]⟩]
def r7_32 : List O := [⟨some 155,.mv (.t 18),none,0,[155,18]⟩,
  ⟨some 156,.bin .neq (some .int) true (.t 155) (.k (.int .i64 0)),none,1,[156,155]⟩]
def r7_33 : List O := [⟨some 157,.mv (.t 18),none,0,[157,18]⟩,
  ⟨some 4,.mv (.k (.ptr none)),none,0,[4]⟩,
  ⟨some 5,.mv (.t 157),none,3,[5,157]⟩]
def r7_34 : List O := [⟨some 158,.bin .add (some .int) true (.t 128) (.k (.int .i64 1)),none,0,[158,128]⟩,
  ⟨some 128,.mv (.t 158),none,1,[128,158]⟩]
def b7_35 : C := .seq (.region [⟨some 129,.bin .lss (some .int) false (.t 128) (.t 127),none,0,[129,128,127]⟩]) (.seq (.cond (.t 129) (.skip) (.exit 4)) (.seq (.block 5 (.seq (.region r7_28) (.seq (.region r7_29) (.seq (.seq (.region r7_30) (.cond (.t 148) (.region r7_31) (.skip))) (.seq (.region r7_32) (.cond (.t 156) (.seq (.region r7_33) (.ret)) (.skip))))))) (.region r7_34)))
theorem u7_35 {P : Program} {E : Env} {ro : Option Nat} {L : Nat} {K : List Fr} {ρ : Nat → V} {h : H} {Q : Po} : XL P E ro L b7_35 K ρ h Q = X P E ro L (.c (.seq (.region [⟨some 129, .bin .lss (some .int) false (.t 128) (.t 127), none, 0, [129, 128, 127]⟩]) (.seq (.cond (.t 129) (.skip) (.exit 4)) (.seq (.block 5 (.seq (.region r7_28) (.seq (.region r7_29) (.seq (.seq (.region r7_30) (.cond (.t 148) (.region r7_31) (.skip))) (.seq (.region r7_32) (.cond (.t 156) (.seq (.region r7_33) (.ret)) (.skip))))))) (.region r7_34)))) :: .l b7_35 :: K) ρ h Q := XL_unroll b7_35
def r7_36 : List O := [⟨some 159,.mv (.t 6),none,0,[159,6]⟩,
  ⟨some 160,.mv (.t 6),none,0,[160,6]⟩,
  ⟨some 161,.nilck (.t 160),none,2,[161,160]⟩,
  ⟨some 162,.fadr 3 (.t 161),none,6,[162,161]⟩,
  ⟨some 163,.load1 (.t 162),none,14,[163,162]⟩,
  ⟨some 164,.nilck (.t 159),none,31,[164,159]⟩,
  ⟨some 165,.fadr 4 (.t 164),none,63,[165,164]⟩,
  ⟨none,.store 1 (.t 165) (.t 163),none,127,[165,163]⟩]
def r7_37 : List O := [⟨some 166,.mv (.t 6),none,0,[166,6]⟩,
  ⟨some 4,.mv (.t 166),none,1,[4,166]⟩,
  ⟨some 5,.mv (.k (.int .i64 0)),none,3,[5]⟩]
def c7 : C := .seq (.region r7_0) (.seq (.block 0 (.seq (.region r7_1) (.cond (.t 19) (.seq (.region r7_2) (.ret)) (.seq (.region r7_3) (.cond (.t 23) (.seq (.region r7_4) (.ret)) (.seq (.region r7_5) (.cond (.t 26) (.seq (.region r7_6) (.ret)) (.skip)))))))) (.seq (.region r7_7) (.seq (.region r7_8) (.seq (.skip) (.seq (.seq (.region r7_9) (.block 1 (.loop b7_26))) (.seq (.seq (.region r7_27) (.block 4 (.loop b7_35))) (.seq (.region r7_36) (.seq (.region r7_37) (.ret)))))))))
def fn7 : Fn := ⟨167, [.t 4, .t 5], c7⟩
/-! 8: orchard/orchardref05.Open -/
def r8_0 : List O := [⟨some 4,.mv (.k (.ptr none)),none,0,[4]⟩,
  ⟨some 5,.mv (.k (.int .i64 0)),none,1,[5]⟩]
def r8_1 : List O := [⟨some 24,.mv (.t 1),none,0,[24,1]⟩,
  ⟨some 25,.call (.k (.func 25 [] [])) [(.t 24)],none,1,[25,24]⟩,
  ⟨some 26,.un .not (.t 25),none,3,[26,25]⟩]
def r8_2 : List O := [⟨some 4,.mv (.k (.ptr none)),none,0,[4]⟩,
  ⟨some 5,.mv (.k (.int .i64 1)),none,1,[5]⟩]
def r8_3 : List O := [⟨some 27,.mv (.t 0),none,0,[27,0]⟩,
  ⟨some 28,.call (.k (.func 26 [] [])) [(.t 27)],none,1,[28,27]⟩]
def r8_4 : List O := [⟨some 4,.mv (.k (.ptr none)),none,0,[4]⟩,
  ⟨some 5,.mv (.k (.int .i64 7)),none,1,[5]⟩]
def r8_5 : List O := [⟨some 29,.mv (.t 0),none,0,[29,0]⟩,
  ⟨some 30,.mv (.t 1),none,0,[30,1]⟩,
  ⟨some 31,.build [(.ptr none),.str [],(.slice none 0 0 false),.int .i64 0,.int .i64 0,(.bool false)] [(0,1,(.t 29)),(1,1,(.t 30))],none,3,[31,29,30]⟩,
  ⟨some 32,.box 71 (.t 31),none,7,[32,31]⟩,
  ⟨some 6,.mv (.t 32),none,15,[6,32]⟩]
def r8_6 : List O := [⟨some 33,.mv (.t 0),none,0,[33,0]⟩,
  ⟨some 34,.call (.k (.func 27 [] [])) [(.t 33)],none,1,[34,33]⟩,
  ⟨some 7,.mv (.t 34),none,3,[7,34]⟩]
def r8_7 : List O := [⟨some 35,.mv (.t 9),none,0,[35,9]⟩,
  ⟨some 36,.mv (.t 7),none,0,[36,7]⟩,
  ⟨some 37,.lenL (.t 36),none,2,[37,36]⟩,
  ⟨some 38,.bin .lss (some .int) false (.t 35) (.t 37),none,7,[38,35,37]⟩]
def r8_8 : List O := [⟨some 42,.mv (.t 1),none,0,[42,1]⟩,
  ⟨some 43,.mv (.t 7),none,0,[43,7]⟩,
  ⟨some 44,.mv (.t 9),none,0,[44,9]⟩,
  ⟨some 45,.iadrL 1 (.t 43) (.t 44),none,6,[45,43,44]⟩,
  ⟨some 46,.load1 (.t 45),none,14,[46,45]⟩,
  ⟨some 47,.call (.k (.func 28 [] [])) [(.t 42),(.t 46)],none,31,[47,42,46]⟩,
  ⟨some 41,.mv (.t 47),none,63,[41,47]⟩,
  ⟨some 48,.extract (.t 41) 0,none,127,[48,41]⟩,
  ⟨some 49,.extract (.t 41) 1,none,127,[49,41]⟩,
  ⟨some 10,.mv (.t 48),none,255,[10,48]⟩,
  ⟨some 11,.mv (.t 49),none,1023,[11,49]⟩]
def r8_9 : List O := [⟨some 51,.mv (.t 8),none,0,[51,8]⟩,
  ⟨some 52,.mv (.t 10),none,0,[52,10]⟩,
  ⟨some 53,.bslice 2 1 [.int .i64 0] [(0,1,(.t 52))],none,2,[53,52]⟩,
  ⟨some 54,.app 2 1 8 (.t 51) (.t 53),none,7,[54,51,53]⟩,
  ⟨some 8,.mv (.t 54),none,15,[8,54]⟩]
def r8_10 : List O := [⟨some 39,.mv (.t 9),none,0,[39,9]⟩,
  ⟨some 40,.bin .add (some .int) true (.t 39) (.k (.int .i64 1)),none,1,[40,39]⟩,
  ⟨some 9,.mv (.t 40),none,3,[9,40]⟩]
def b8_11 : C := .seq (.seq (.region r8_7) (.cond (.t 38) (.skip) (.exit 0))) (.seq (.block 1 (.seq (.region r8_8) (.seq (.region [⟨some 50,.mv (.t 11),none,0,[50,11]⟩]) (.cond (.t 50) (.region r8_9) (.skip))))) (.region r8_10))
theorem u8_11 {P : Program} {E : Env} {ro : Option Nat} {L : Nat} {K : List Fr} {ρ : Nat → V} {h : H} {Q : Po} : XL P E ro L b8_11 K ρ h Q = X P E ro L (.c (.seq (.seq (.region r8_7) (.cond (.t 38) (.skip) (.exit 0))) (.seq (.block 1 (.seq (.region r8_8) (.seq (.region [⟨some 50, .mv (.t 11), none, 0, [50, 11]⟩]) (.cond (.t 50) (.region r8_9) (.skip))))) (.region r8_10))) :: .l b8_11 :: K) ρ h Q := XL_unroll b8_11
def r8_12 : List O := [⟨some 55,.mv (.t 12),none,0,[55,12]⟩,
  ⟨some 56,.mv (.t 8),none,0,[56,8]⟩,
  ⟨some 57,.lenL (.t 56),none,2,[57,56]⟩,
  ⟨some 58,.bin .lss (some .int) false (.t 55) (.t 57),none,7,[58,55,57]⟩]
def r8_13 : List O := [⟨some 61,.mv (.t 1),none,0,[61,1]⟩,
  ⟨some 62,.mv (.t 8),none,0,[62,8]⟩,
  ⟨some 63,.mv (.t 12),none,0,[63,12]⟩,
  ⟨some 64,.iadrL 1 (.t 62) (.t 63),none,6,[64,62,63]⟩,
  ⟨some 65,.load1 (.t 64),none,14,[65,64]⟩,
  ⟨some 66,.call (.k (.func 10 [] [])) [(.t 61),(.t 65)],none,31,[66,61,65]⟩,
  ⟨some 13,.mv (.t 66),none,63,[13,66]⟩]
def r8_14 : List O := [⟨some 68,.mv (.t 0),none,0,[68,0]⟩,
  ⟨some 69,.mv (.t 13),none,0,[69,13]⟩,
  ⟨some 70,.call (.k (.func 29 [] [])) [(.t 68),(.t 69)],none,3,[70,68,69]⟩,
  ⟨some 67,.mv (.t 70),none,7,[67,70]⟩,
  ⟨some 71,.extract (.t 67) 0,none,15,[71,67]⟩,
  ⟨some 72,.extract (.t 67) 1,none,15,[72,67]⟩,
  ⟨some 14,.mv (.t 71),none,31,[14,71]⟩,
  ⟨some 15,.mv (.t 72),none,127,[15,72]⟩]
def r8_15 : List O := [⟨some 73,.mv (.t 15),none,0,[73,15]⟩,
  ⟨some 74,.bin .neq (some .int) true (.t 73) (.k (.int .i64 0)),none,1,[74,73]⟩]
def r8_16 : List O := [⟨some 75,.mv (.t 15),none,0,[75,15]⟩,
  ⟨some 4,.mv (.k (.ptr none)),none,0,[4]⟩,
  ⟨some 5,.mv (.t 75),none,3,[5,75]⟩]
def r8_17 : List O := [⟨some 77,.mv (.t 14),none,0,[77,14]⟩,
  ⟨some 78,.call (.k (.func 30 [] [])) [(.t 77)],none,1,[78,77]⟩,
  ⟨some 76,.mv (.t 78),none,3,[76,78]⟩,
  ⟨some 79,.extract (.t 76) 0,none,7,[79,76]⟩,
  ⟨some 80,.extract (.t 76) 1,none,7,[80,76]⟩,
  ⟨some 16,.mv (.t 79),none,15,[16,79]⟩,
  ⟨some 17,.mv (.t 80),none,63,[17,80]⟩]
def r8_18 : List O := [⟨some 81,.mv (.t 6),none,0,[81,6]⟩,
  ⟨some 82,.mv (.t 8),none,0,[82,8]⟩,
  ⟨some 83,.mv (.t 12),none,0,[83,12]⟩,
  ⟨some 84,.iadrL 1 (.t 82) (.t 83),none,6,[84,82,83]⟩,
  ⟨some 85,.load1 (.t 84),none,14,[85,84]⟩,
  ⟨some 86,.mv (.t 16),none,0,[86,16]⟩,
  ⟨some 87,.lenL (.t 86),none,32,[87,86]⟩,
  ⟨some 88,.bin .add (some .int) false (.t 85) (.t 87),none,126,[88,85,87]⟩,
  ⟨some 89,.nilck (.t 81),none,255,[89,81]⟩,
  ⟨some 90,.fadr 3 (.t 89),none,511,[90,89]⟩,
  ⟨none,.store 1 (.t 90) (.t 88),none,1023,[90,88]⟩]
def r8_19 : List O := [⟨some 91,.mv (.t 12),none,0,[91,12]⟩,
  ⟨some 92,.mv (.t 8),none,0,[92,8]⟩,
  ⟨some 93,.lenL (.t 92),none,2,[93,92]⟩,
  ⟨some 94,.bin .sub (some .int) true (.t 93) (.k (.int .i64 1)),none,6,[94,93]⟩,
  ⟨some 95,.bin .lss (some .int) false (.t 91) (.t 94),none,15,[95,91,94]⟩]
def r8_20 : List O := [⟨some 96,.mv (.t 17),none,0,[96,17]⟩,
  ⟨some 97,.mv (.t 14),none,0,[97,14]⟩,
  ⟨some 98,.lenL (.t 97),none,2,[98,97]⟩,
  ⟨some 99,.bin .neq (some .int) false (.t 96) (.t 98),none,7,[99,96,98]⟩,
  ⟨some 100,.mv (.t 99),none,15,[100,99]⟩,
  ⟨some 101,.mv (.t 6),some (100,false),31,[101,100,6]⟩,
  ⟨some 102,.nilck (.t 101),some (100,false),63,[102,100,101]⟩,
  ⟨some 103,.fadr 3 (.t 102),some (100,false),127,[103,100,102]⟩,
  ⟨some 104,.load1 (.t 103),some (100,false),255,[104,100,103]⟩,
  ⟨some 105,.mv (.t 8),some (100,false),31,[105,100,8]⟩,
  ⟨some 106,.mv (.t 12),some (100,false),31,[106,100,12]⟩,
  ⟨some 107,.bin .add (some .int) true (.t 106) (.k (.int .i64 1)),some (100,false),1055,[107,100,106]⟩,
  ⟨some 108,.iadrL 1 (.t 105) (.t 107),some (100,false),3615,[108,100,105,107]⟩,
  ⟨some 109,.load1 (.t 108),some (100,false),7711,[109,100,108]⟩,
  ⟨some 110,.bin .neq (some .int) false (.t 104) (.t 109),some (100,false),16383,[110,100,104,109]⟩,
  ⟨some 111,.pick (.t 100) (.k (.bool true)) (.t 110),none,32767,[111,100,110]⟩]
theorem d8_20 {P : Program} {E : Env} {ro : Option Nat} {L : Nat} {K : List Fr} {ρ : Nat → V} {h : H} {Q : Po} : XD P E ro L r8_20 K ρ h Q = XO P E ro L r8_20 K ρ h Q := XD_still rfl
def r8_21 : List O := [⟨some 4,.mv (.k (.ptr none)),none,0,[4]⟩,
  ⟨some 5,.mv (.k (.int .i64 51)),none,1,[5]⟩]
def r8_22 : List O := [⟨some 112,.mv (.t 17),none,0,[112,17]⟩,
  ⟨some 113,.mv (.t 14),none,0,[113,14]⟩,
  ⟨some 114,.lenL (.t 113),none,2,[114,113]⟩,
  ⟨some 115,.bin .lss (some .int) false (.t 112) (.t 114),none,7,[115,112,114]⟩]
def r8_23 : List O := [⟨some 116,.mv (.t 0),none,0,[116,0]⟩,
  ⟨some 117,.mv (.t 13),none,0,[117,13]⟩,
  ⟨some 118,.mv (.t 14),none,0,[118,14]⟩,
  ⟨some 119,.mv (.t 17),none,0,[119,17]⟩,
  ⟨some 120,.slL 1 (.t 118) none (some (.t 119)) none,none,12,[120,118,119]⟩,
  ⟨some 121,.call (.k (.func 31 [] [])) [(.t 116),(.t 117),(.t 120)],none,31,[121,116,117,120]⟩,
  ⟨some 18,.mv (.t 121),none,63,[18,121]⟩]
def r8_24 : List O := [⟨some 122,.mv (.t 18),none,0,[122,18]⟩,
  ⟨some 123,.bin .neq (some .int) true (.t 122) (.k (.int .i64 0)),none,1,[123,122]⟩]
def r8_25 : List O := [⟨some 124,.mv (.t 18),none,0,[124,18]⟩,
  ⟨some 4,.mv (.k (.ptr none)),none,0,[4]⟩,
  ⟨some 5,.mv (.t 124),none,3,[5,124]⟩]
def r8_26 : List O := [⟨some 125,.mv (.t 17),none,0,[125,17]⟩,
  ⟨some 126,.bin .gtr (some .int) true (.t 125) (.k (.int .i64 0)),none,1,[126,125]⟩,
  ⟨some 127,.mv (.t 126),none,3,[127,126]⟩,
  ⟨some 128,.mv (.t 14),some (127,false),7,[128,127,14]⟩,
  ⟨some 129,.lenL (.t 128),some (127,false),15,[129,127,128]⟩,
  ⟨some 130,.bin .eql (some .int) true (.t 129) (.k (.int .i64 0)),some (127,false),31,[130,127,129]⟩,
  ⟨some 131,.pick (.t 127) (.k (.bool true)) (.t 130),none,63,[131,127,130]⟩]
def r8_27 : List O := [⟨some 132,.mv (.t 6),none,0,[132,6]⟩,
  ⟨some 133,.mv (.t 6),none,0,[133,6]⟩,
  ⟨some 134,.nilck (.t 133),none,2,[134,133]⟩,
  ⟨some 135,.fadr 2 (.t 134),none,6,[135,134]⟩,
  ⟨some 136,.load1 (.t 135),none,14,[136,135]⟩,
  ⟨some 137,.mv (.t 8),none,0,[137,8]⟩,
  ⟨some 138,.mv (.t 12),none,0,[138,12]⟩,
  ⟨some 139,.iadrL 1 (.t 137) (.t 138),none,96,[139,137,138]⟩,
  ⟨some 140,.load1 (.t 139),none,224,[140,139]⟩,
  ⟨some 141,.mv (.t 17),none,0,[141,17]⟩,
  ⟨some 142,.mv (.t 16),none,0,[142,16]⟩,
  ⟨some 143,.build [.int .i64 0,.int .i64 0,(.slice none 0 0 false),(.bool false)] [(0,1,(.t 140)),(1,1,(.t 141)),(2,1,(.t 142))],none,2016,[143,140,141,142]⟩,
  ⟨some 144,.bslice 78 1 [.int .i64 0,.int .i64 0,(.slice none 0 0 false),(.bool false)] [(0,4,(.t 143))],none,4064,[144,143]⟩,
  ⟨some 145,.app 78 4 48 (.t 136) (.t 144),none,8190,[145,136,144]⟩,
  ⟨some 146,.nilck (.t 132),none,16383,[146,132]⟩,
  ⟨some 147,.fadr 2 (.t 146),none,32767,[147,146]⟩,
  ⟨none,.store 1 (.t 147) (.t 145),none,65535,[147,145]⟩]
theorem d8_27 {P : Program} {E : Env} {ro : Option Nat} {L : Nat} {K : List Fr} {ρ : Nat → V} {h : H} {Q : Po} (hx : XDQ P E ro L K Q h [true, true, true, true, true, true, true, true, true, true, true, true, true, true, true, true, true] r8_27 ρ h) : XD P E ro L r8_27 K ρ h Q := XD_quiet rfl rfl hx
theorem k8_27 {P : Program} {E : Env} {ro : Option Nat} {L : Nat} {K : List Fr} {ρ : Nat → V} {h : H} {Q : Po} (lo : Nat) (hx : XDK P E ro L K Q lo h [true, true, true, true, true, true, true, true, true, true, true, true, true, true, true, true, true] r8_27 ρ h) : XD P E ro L r8_27 K ρ h Q := XD_keeps rfl rfl hx
def r8_28 : List O := [⟨some 59,.mv (.t 12),none,0,[59,12]⟩,
  ⟨some 60,.bin .add (some .int) true (.t 59) (.k (.int .i64 1)),none,1,[60,59]⟩,
  ⟨some 12,.mv (.t 60),none,3,[12,60]⟩]
def b8_29 : C := .seq (.seq (.region r8_12) (.cond (.t 58) (.skip) (.exit 2))) (.seq (.block 3 (.seq (.region r8_13) (.seq (.region r8_14) (.seq (.seq (.region r8_15) (.cond (.t 74) (.seq (.region r8_16) (.ret)) (.skip))) (.seq (.region r8_17) (.seq (.region r8_18) (.seq (.seq (.region r8_19) (.cond (.t 95) (.seq (.draw r8_20) (.cond (.t 111) (.seq (.region r8_21) (.ret)) (.skip))) (.seq (.region r8_22) (.cond (.t 115) (.seq (.region r8_23) (.seq (.region r8_24) (.cond (.t 123) (.seq (.region r8_25) (.ret)) (.skip)))) (.skip))))) (.seq (.region r8_26) (.cond (.t 131) (.draw r8_27) (.skip)))))))))) (.region r8_28))
theorem u8_29 {P : Program} {E : Env} {ro : Option Nat} {L : Nat} {K : List Fr} {ρ : Nat → V} {h : H} {Q : Po} : XL P E ro L b8_29 K ρ h Q = X P E ro L (.c (.seq (.seq (.region r8_12) (.cond (.t 58) (.skip) (.exit 2))) (.seq (.block 3 (.seq (.region r8_13) (.seq (.region r8_14) (.seq (.seq (.region r8_15) (.cond (.t 74) (.seq (.region r8_16) (.ret)) (.skip))) (.seq (.region r8_17) (.seq (.region r8_18) (.seq (.seq (.region r8_19) (.cond (.t 95) (.seq (.draw r8_20) (.cond (.t 111) (.seq (.region r8_21) (.ret)) (.skip))) (.seq (.region r8_22) (.cond (.t 115) (.seq (.region r8_23) (.seq (.region r8_24) (.cond (.t 123) (.seq (.region r8_25) (.ret)) (.skip)))) (.skip))))) (.seq (.region r8_26) (.cond (.t 131) (.draw r8_27) (.skip)))))))))) (.region r8_28))) :: .l b8_29 :: K) ρ h Q := XL_unroll b8_29
def r8_30 : List O := [⟨some 148,.mv (.t 19),none,0,[148,19]⟩,
  ⟨some 149,.mv (.t 6),none,0,[149,6]⟩,
  ⟨some 150,.nilck (.t 149),none,2,[150,149]⟩,
  ⟨some 151,.fadr 2 (.t 150),none,6,[151,150]⟩,
  ⟨some 152,.load1 (.t 151),none,14,[152,151]⟩,
  ⟨some 153,.lenL (.t 152),none,30,[153,152]⟩,
  ⟨some 154,.bin .lss (some .int) false (.t 148) (.t 153),none,63,[154,148,153]⟩]
def r8_31 : List O := [⟨some 157,.mv (.t 1),none,0,[157,1]⟩,
  ⟨some 158,.mv (.t 6),none,0,[158,6]⟩,
  ⟨some 159,.nilck (.t 158),none,2,[159,158]⟩,
  ⟨some 160,.fadr 2 (.t 159),none,6,[160,159]⟩,
  ⟨some 161,.load1 (.t 160),none,14,[161,160]⟩,
  ⟨some 162,.mv (.t 19),none,0,[162,19]⟩,
  ⟨some 163,.iadrL 4 (.t 161) (.t 162),none,62,[163,161,162]⟩,
  ⟨some 164,.fadr 0 (.t 163),none,126,[164,163]⟩,
  ⟨some 165,.load1 (.t 164),none,254,[165,164]⟩,
  ⟨some 166,.call (.k (.func 10 [] [])) [(.t 157),(.t 165)],none,511,[166,157,165]⟩,
  ⟨some 20,.mv (.t 166),none,1023,[20,166]⟩]
def r8_32 : List O := [⟨some 168,.mv (.t 0),none,0,[168,0]⟩,
  ⟨some 169,.mv (.t 20),none,0,[169,20]⟩,
  ⟨some 170,.call (.k (.func 32 [] [])) [(.t 168),(.t 169)],none,3,[170,168,169]⟩,
  ⟨some 167,.mv (.t 170),none,7,[167,170]⟩,
  ⟨some 171,.extract (.t 167) 0,none,15,[171,167]⟩,
  ⟨some 172,.extract (.t 167) 1,none,15,[172,167]⟩,
  ⟨some 173,.extract (.t 167) 2,none,15,[173,167]⟩,
  ⟨some 21,.mv (.t 171),none,31,[21,171]⟩,
  ⟨some 22,.mv (.t 172),none,191,[22,172]⟩,
  ⟨some 23,.mv (.t 173),none,511,[23,173]⟩]
def r8_33 : List O := [⟨some 174,.mv (.t 23),none,0,[174,23]⟩,
  ⟨some 175,.bin .eql (some .int) true (.t 174) (.k (.int .i64 0)),none,1,[175,174]⟩,
  ⟨some 176,.mv (.t 175),none,3,[176,175]⟩,
  ⟨some 177,.mv (.t 22),some (176,true),7,[177,176,22]⟩,
  ⟨some 178,.mv (.t 21),some (176,true),7,[178,176,21]⟩,
  ⟨some 179,.bin .lss (some .int) false (.t 177) (.t 178),some (176,true),31,[179,176,177,178]⟩,
  ⟨some 180,.pick (.t 176) (.t 179) (.k (.bool false)),none,63,[180,176,179]⟩]
def r8_34 : List O := [⟨some 181,.mv (.t 0),none,0,[181,0]⟩,
  ⟨some 182,.mv (.t 20),none,0,[182,20]⟩,
  ⟨some 183,.call (.k (.func 33 [] [])) [(.t 181),(.t 182)],none,3,[183,181,182]⟩,
  ⟨some 23,.mv (.t 183),none,7,[23,183]⟩]
def r8_35 : List O := [⟨some 184,.mv (.t 23),none,0,[184,23]⟩,
  ⟨some 185,.bin .neq (some .int) true (.t 184) (.k (.int .i64 0)),none,1,[185,184]⟩]
def r8_36 : List O := [⟨some 186,.mv (.t 23),none,0,[186,23]⟩,
  ⟨some 4,.mv (.k (.ptr none)),none,0,[4]⟩,
  ⟨some 5,.mv (.t 186),none,3,[5,186]⟩]
def r8_37 : List O := [⟨some 155,.mv (.t 19),none,0,[155,19]⟩,
  ⟨some 156,.bin .add (some .int) true (.t 155) (.k (.int .i64 1)),none,1,[156,155]⟩,
  ⟨some 19,.mv (.t 156),none,3,[19,156]⟩]
def b8_38 : C := .seq (.seq (.region r8_30) (.cond (.t 154) (.skip) (.exit 4))) (.seq (.block 5 (.seq (.region r8_31) (.seq (.region r8_32) (.seq (.seq (.region r8_33) (.cond (.t 180) (.region r8_34) (.skip))) (.seq (.region r8_35) (.cond (.t 185) (.seq (.region r8_36) (.ret)) (.skip))))))) (.region r8_37))
theorem u8_38 {P : Program} {E : Env} {ro : Option Nat} {L : Nat} {K : List Fr} {ρ : Nat → V} {h : H} {Q : Po} : XL P E ro L b8_38 K ρ h Q = X P E ro L (.c (.seq (.seq (.region r8_30) (.cond (.t 154) (.skip) (.exit 4))) (.seq (.block 5 (.seq (.region r8_31) (.seq (.region r8_32) (.seq (.seq (.region r8_33) (.cond (.t 180) (.region r8_34) (.skip))) (.seq (.region r8_35) (.cond (.t 185) (.seq (.region r8_36) (.ret)) (.skip))))))) (.region r8_37))) :: .l b8_38 :: K) ρ h Q := XL_unroll b8_38
def r8_39 : List O := [⟨some 187,.mv (.t 6),none,0,[187,6]⟩,
  ⟨some 188,.mv (.t 6),none,0,[188,6]⟩,
  ⟨some 189,.nilck (.t 188),none,2,[189,188]⟩,
  ⟨some 190,.fadr 3 (.t 189),none,6,[190,189]⟩,
  ⟨some 191,.load1 (.t 190),none,14,[191,190]⟩,
  ⟨some 192,.nilck (.t 187),none,31,[192,187]⟩,
  ⟨some 193,.fadr 4 (.t 192),none,63,[193,192]⟩,
  ⟨none,.store 1 (.t 193) (.t 191),none,127,[193,191]⟩]
def r8_40 : List O := [⟨some 194,.mv (.t 6),none,0,[194,6]⟩,
  ⟨some 4,.mv (.t 194),none,1,[4,194]⟩,
  ⟨some 5,.mv (.k (.int .i64 0)),none,3,[5]⟩]
def c8 : C := .seq (.region r8_0) (.seq (.seq (.region r8_1) (.cond (.t 26) (.seq (.region r8_2) (.ret)) (.skip))) (.seq (.seq (.region r8_3) (.cond (.t 28) (.seq (.region r8_4) (.ret)) (.skip))) (.seq (.region r8_5) (.seq (.region r8_6) (.seq (.region [⟨some 8,.mv (.k (.slice none 0 0 false)),none,0,[8]⟩]) (.seq (.seq (.region [⟨some 9,.mv (.k (.int .i64 0)),none,0,[9]⟩]) (.block 0 (.loop b8_11))) (.seq (.seq (.region [⟨some 12,.mv (.k (.int .i64 0)),none,0,[12]⟩]) (.block 2 (.loop b8_29))) (.seq (.seq (.region [⟨some 19,.mv (.k (.int .i64 0)),none,0,[19]⟩]) (.block 4 (.loop b8_38))) (.seq (.region r8_39) (.seq (.region r8_40) (.ret)))))))))))
def fn8 : Fn := ⟨195, [.t 4, .t 5], c8⟩
/-! 9: orchard/wal.Segment -/
def r9_0 : List O := [⟨some 6,.mv (.t 0),none,0,[6,0]⟩,
  ⟨some 7,.call (.k (.func 15 [] [])) [(.t 6)],none,1,[7,6]⟩,
  ⟨some 8,.un .not (.t 7),none,3,[8,7]⟩,
  ⟨some 9,.mv (.t 8),none,7,[9,8]⟩,
  ⟨some 10,.mv (.t 1),some (9,false),15,[10,9,1]⟩,
  ⟨some 11,.bin .lss (some .int) true (.t 10) (.k (.int .i64 0)),some (9,false),31,[11,9,10]⟩,
  ⟨some 12,.pick (.t 9) (.k (.bool true)) (.t 11),none,63,[12,9,11]⟩,
  ⟨some 13,.mv (.t 12),none,127,[13,12]⟩,
  ⟨some 14,.mv (.t 1),some (13,false),255,[14,13,1]⟩,
  ⟨some 15,.bin .gtr (some .int) true (.t 14) (.k (.int .i64 999999999999)),some (13,false),511,[15,13,14]⟩,
  ⟨some 16,.pick (.t 13) (.k (.bool true)) (.t 15),none,1023,[16,13,15]⟩]
def r9_1 : List O := [⟨some 17,.mv (.t 1),none,0,[17,1]⟩,
  ⟨some 18,.call (.k (.func 34 [] [])) [(.t 17),(.k (.int .i64 10))],none,1,[18,17]⟩,
  ⟨some 5,.mv (.t 18),none,3,[5,18]⟩]
def r9_2 : List O := [⟨some 19,.mv (.t 0),none,0,[19,0]⟩,
  ⟨some 20,.bin .add (some .str) true (.t 19) (.k (.str [46])),none,1,[20,19]⟩,
  ⟨some 21,.mv (.t 5),none,0,[21,5]⟩,
  ⟨some 22,.lenS (.t 21),none,4,[22,21]⟩,
  ⟨some 23,.bin .sub (some .int) true (.k (.int .i64 12)) (.t 22),none,12,[23,22]⟩,
  ⟨some 24,.call (.k (.func 35 [] [])) [(.k (.str [48])),(.t 23)],none,28,[24,23]⟩,
  ⟨some 25,.bin .add (some .str) false (.t 20) (.t 24),none,63,[25,20,24]⟩,
  ⟨some 26,.mv (.t 5),none,0,[26,5]⟩,
  ⟨some 27,.bin .add (some .str) false (.t 25) (.t 26),none,255,[27,25,26]⟩,
  ⟨some 4,.mv (.t 27),none,511,[4,27]⟩]
def c9 : C := .seq (.region [⟨some 4,.mv (.k (.str [])),none,0,[4]⟩]) (.seq (.seq (.region r9_0) (.cond (.t 16) (.seq (.region [⟨some 4,.mv (.k (.str [])),none,0,[4]⟩]) (.ret)) (.skip))) (.seq (.region r9_1) (.seq (.region r9_2) (.ret))))
def fn9 : Fn := ⟨28, [.t 4], c9⟩
/-! 10: orchard/orchardref05.Segment -/
def r10_0 : List O := [⟨some 6,.mv (.t 0),none,0,[6,0]⟩,
  ⟨some 7,.call (.k (.func 25 [] [])) [(.t 6)],none,1,[7,6]⟩,
  ⟨some 8,.un .not (.t 7),none,3,[8,7]⟩,
  ⟨some 9,.mv (.t 8),none,7,[9,8]⟩,
  ⟨some 10,.mv (.t 1),some (9,false),15,[10,9,1]⟩,
  ⟨some 11,.bin .lss (some .int) true (.t 10) (.k (.int .i64 0)),some (9,false),31,[11,9,10]⟩,
  ⟨some 12,.pick (.t 9) (.k (.bool true)) (.t 11),none,63,[12,9,11]⟩,
  ⟨some 13,.mv (.t 12),none,127,[13,12]⟩,
  ⟨some 14,.mv (.t 1),some (13,false),255,[14,13,1]⟩,
  ⟨some 15,.bin .gtr (some .int) true (.t 14) (.k (.int .i64 999999999999)),some (13,false),511,[15,13,14]⟩,
  ⟨some 16,.pick (.t 13) (.k (.bool true)) (.t 15),none,1023,[16,13,15]⟩]
def r10_1 : List O := [⟨some 17,.mv (.t 1),none,0,[17,1]⟩,
  ⟨some 18,.call (.k (.func 34 [] [])) [(.t 17),(.k (.int .i64 10))],none,1,[18,17]⟩,
  ⟨some 5,.mv (.t 18),none,3,[5,18]⟩]
def r10_2 : List O := [⟨some 19,.mv (.t 5),none,0,[19,5]⟩,
  ⟨some 20,.lenS (.t 19),none,1,[20,19]⟩,
  ⟨some 21,.bin .lss (some .int) true (.t 20) (.k (.int .i64 12)),none,3,[21,20]⟩]
def r10_3 : List O := [⟨some 22,.mv (.t 5),none,0,[22,5]⟩,
  ⟨some 23,.bin .add (some .str) true (.k (.str [48])) (.t 22),none,1,[23,22]⟩,
  ⟨some 5,.mv (.t 23),none,3,[5,23]⟩]
def b10_4 : C := .seq (.seq (.region r10_2) (.cond (.t 21) (.skip) (.exit 0))) (.block 1 (.region r10_3))
theorem u10_4 {P : Program} {E : Env} {ro : Option Nat} {L : Nat} {K : List Fr} {ρ : Nat → V} {h : H} {Q : Po} : XL P E ro L b10_4 K ρ h Q = X P E ro L (.c (.seq (.seq (.region r10_2) (.cond (.t 21) (.skip) (.exit 0))) (.block 1 (.region r10_3))) :: .l b10_4 :: K) ρ h Q := XL_unroll b10_4
def r10_5 : List O := [⟨some 24,.mv (.t 0),none,0,[24,0]⟩,
  ⟨some 25,.bin .add (some .str) true (.t 24) (.k (.str [46])),none,1,[25,24]⟩,
  ⟨some 26,.mv (.t 5),none,0,[26,5]⟩,
  ⟨some 27,.bin .add (some .str) false (.t 25) (.t 26),none,7,[27,25,26]⟩,
  ⟨some 4,.mv (.t 27),none,15,[4,27]⟩]
def c10 : C := .seq (.region [⟨some 4,.mv (.k (.str [])),none,0,[4]⟩]) (.seq (.seq (.region r10_0) (.cond (.t 16) (.seq (.region [⟨some 4,.mv (.k (.str [])),none,0,[4]⟩]) (.ret)) (.skip))) (.seq (.region r10_1) (.seq (.block 0 (.loop b10_4)) (.seq (.region r10_5) (.ret)))))
def fn10 : Fn := ⟨28, [.t 4], c10⟩
/-! 15: orchard/wal.named -/
def r15_0 : List O := [⟨some 5,.mv (.t 0),none,0,[5,0]⟩,
  ⟨some 6,.s2b 5 (.t 5),none,1,[6,5]⟩,
  ⟨some 7,.lenL (.t 6),none,3,[7,6]⟩,
  ⟨some 8,.mv (.k (.int .i64 0)),none,0,[8]⟩]
def r15_1 : List O := [⟨some 10,.iadrL 1 (.t 6) (.t 8),none,0,[10,6,8]⟩,
  ⟨some 11,.load1 (.t 10),none,1,[11,10]⟩,
  ⟨some 4,.mv (.t 11),none,3,[4,11]⟩]
def r15_2 : List O := [⟨some 12,.mv (.t 4),none,0,[12,4]⟩,
  ⟨some 13,.bin .lss (some .int) true (.t 12) (.k (.int .u8 97)),none,1,[13,12]⟩,
  ⟨some 14,.mv (.t 13),none,3,[14,13]⟩,
  ⟨some 15,.mv (.t 4),some (14,false),7,[15,14,4]⟩,
  ⟨some 16,.bin .gtr (some .int) true (.t 15) (.k (.int .u8 122)),some (14,false),15,[16,14,15]⟩,
  ⟨some 17,.pick (.t 14) (.k (.bool true)) (.t 16),none,31,[17,14,16]⟩]
def r15_3 : List O := [⟨some 18,.bin .add (some .int) true (.t 8) (.k (.int .i64 1)),none,0,[18,8]⟩,
  ⟨some 8,.mv (.t 18),none,1,[8,18]⟩]
def b15_4 : C := .seq (.region [⟨some 9,.bin .lss (some .int) false (.t 8) (.t 7),none,0,[9,8,7]⟩]) (.seq (.cond (.t 9) (.skip) (.exit 0)) (.seq (.block 1 (.seq (.region r15_1) (.seq (.region r15_2) (.cond (.t 17) (.seq (.region [⟨some 2,.mv (.k (.bool false)),none,0,[2]⟩]) (.ret)) (.skip))))) (.region r15_3)))
theorem u15_4 {P : Program} {E : Env} {ro : Option Nat} {L : Nat} {K : List Fr} {ρ : Nat → V} {h : H} {Q : Po} : XL P E ro L b15_4 K ρ h Q = X P E ro L (.c (.seq (.region [⟨some 9, .bin .lss (some .int) false (.t 8) (.t 7), none, 0, [9, 8, 7]⟩]) (.seq (.cond (.t 9) (.skip) (.exit 0)) (.seq (.block 1 (.seq (.region r15_1) (.seq (.region r15_2) (.cond (.t 17) (.seq (.region [⟨some 2, .mv (.k (.bool false)), none, 0, [2]⟩]) (.ret)) (.skip))))) (.region r15_3)))) :: .l b15_4 :: K) ρ h Q := XL_unroll b15_4
def r15_5 : List O := [⟨some 19,.mv (.t 0),none,0,[19,0]⟩,
  ⟨some 20,.lenS (.t 19),none,1,[20,19]⟩,
  ⟨some 21,.bin .geq (some .int) true (.t 20) (.k (.int .i64 1)),none,3,[21,20]⟩,
  ⟨some 22,.mv (.t 21),none,7,[22,21]⟩,
  ⟨some 23,.mv (.t 0),some (22,true),15,[23,22,0]⟩,
  ⟨some 24,.lenS (.t 23),some (22,true),31,[24,22,23]⟩,
  ⟨some 25,.bin .leq (some .int) true (.t 24) (.k (.int .i64 20)),some (22,true),63,[25,22,24]⟩,
  ⟨some 26,.pick (.t 22) (.t 25) (.k (.bool false)),none,127,[26,22,25]⟩,
  ⟨some 2,.mv (.t 26),none,255,[2,26]⟩]
def c15 : C := .seq (.region [⟨some 2,.mv (.k (.bool false)),none,0,[2]⟩]) (.seq (.seq (.region r15_0) (.block 0 (.loop b15_4))) (.seq (.region r15_5) (.ret)))
def fn15 : Fn := ⟨27, [.t 2], c15⟩
/-! 25: orchard/orchardref05.name -/
def r25_0 : List O := [⟨some 4,.mv (.t 3),none,0,[4,3]⟩,
  ⟨some 5,.mv (.t 0),none,0,[5,0]⟩,
  ⟨some 6,.lenS (.t 5),none,2,[6,5]⟩,
  ⟨some 7,.bin .lss (some .int) false (.t 4) (.t 6),none,7,[7,4,6]⟩]
def r25_1 : List O := [⟨some 10,.mv (.t 0),none,0,[10,0]⟩,
  ⟨some 11,.mv (.t 3),none,0,[11,3]⟩,
  ⟨some 12,.idxS (.t 10) (.t 11),none,3,[12,10,11]⟩,
  ⟨some 13,.bin .lss (some .int) true (.t 12) (.k (.int .u8 97)),none,7,[13,12]⟩,
  ⟨some 14,.mv (.t 13),none,15,[14,13]⟩,
  ⟨some 15,.mv (.t 0),some (14,false),31,[15,14,0]⟩,
  ⟨some 16,.mv (.t 3),some (14,false),31,[16,14,3]⟩,
  ⟨some 17,.idxS (.t 15) (.t 16),some (14,false),127,[17,14,15,16]⟩,
  ⟨some 18,.bin .gtr (some .int) true (.t 17) (.k (.int .u8 122)),some (14,false),255,[18,14,17]⟩,
  ⟨some 19,.pick (.t 14) (.k (.bool true)) (.t 18),none,511,[19,14,18]⟩]
def r25_2 : List O := [⟨some 8,.mv (.t 3),none,0,[8,3]⟩,
  ⟨some 9,.bin .add (some .int) true (.t 8) (.k (.int .i64 1)),none,1,[9,8]⟩,
  ⟨some 3,.mv (.t 9),none,3,[3,9]⟩]
def b25_3 : C := .seq (.seq (.region r25_0) (.cond (.t 7) (.skip) (.exit 0))) (.seq (.block 1 (.seq (.region r25_1) (.cond (.t 19) (.seq (.region [⟨some 2,.mv (.k (.bool false)),none,0,[2]⟩]) (.ret)) (.skip)))) (.region r25_2))
theorem u25_3 {P : Program} {E : Env} {ro : Option Nat} {L : Nat} {K : List Fr} {ρ : Nat → V} {h : H} {Q : Po} : XL P E ro L b25_3 K ρ h Q = X P E ro L (.c (.seq (.seq (.region r25_0) (.cond (.t 7) (.skip) (.exit 0))) (.seq (.block 1 (.seq (.region r25_1) (.cond (.t 19) (.seq (.region [⟨some 2, .mv (.k (.bool false)), none, 0, [2]⟩]) (.ret)) (.skip)))) (.region r25_2))) :: .l b25_3 :: K) ρ h Q := XL_unroll b25_3
def r25_4 : List O := [⟨some 20,.mv (.t 0),none,0,[20,0]⟩,
  ⟨some 21,.lenS (.t 20),none,1,[21,20]⟩,
  ⟨some 22,.bin .geq (some .int) true (.t 21) (.k (.int .i64 1)),none,3,[22,21]⟩,
  ⟨some 23,.mv (.t 22),none,7,[23,22]⟩,
  ⟨some 24,.mv (.t 0),some (23,true),15,[24,23,0]⟩,
  ⟨some 25,.lenS (.t 24),some (23,true),31,[25,23,24]⟩,
  ⟨some 26,.bin .leq (some .int) true (.t 25) (.k (.int .i64 20)),some (23,true),63,[26,23,25]⟩,
  ⟨some 27,.pick (.t 23) (.t 26) (.k (.bool false)),none,127,[27,23,26]⟩,
  ⟨some 2,.mv (.t 27),none,255,[2,27]⟩]
def c25 : C := .seq (.region [⟨some 2,.mv (.k (.bool false)),none,0,[2]⟩]) (.seq (.seq (.region [⟨some 3,.mv (.k (.int .i64 0)),none,0,[3]⟩]) (.block 0 (.loop b25_3))) (.seq (.region r25_4) (.ret)))
def fn25 : Fn := ⟨28, [.t 2], c25⟩
end Go.AM.Wn
