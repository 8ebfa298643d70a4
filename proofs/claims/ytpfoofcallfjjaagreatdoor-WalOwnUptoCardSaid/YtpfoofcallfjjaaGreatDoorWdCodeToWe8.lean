/- My own texts, laid for this claim. -/
import Derived.Test.YtpfoofcallfjjaaGreatDoorWe2ToWd6
set_option linter.unusedSimpArgs false
set_option linter.unusedVariables false
namespace Go.AM.Wd
variable {P : Program} {E : Env} {ro : Option Nat} {L : Nat} {K : List Fr} {ρ : Nat → V} {h : H} {Q : Po}
def r5_0 : List O := [⟨some 19,.call (.k (.func 6 [] [])) [],none,0,[19]⟩,
 ono 20 19 1]
def r5_1 : List O := [⟨some 22,.call (.k (.func 7 [] [])) [(.k (.int .i64 1048576))],none,0,[22]⟩,
 om 21 22 1,
 ox 23 21 0 3,
 ox 24 21 1 3,
 om 5 23 7,
 om 6 24 31]
def r5_2 : List O := [om 26 5 0,
 ⟨some 27,.call (.k (.func 8 [] [])) [(.t 26),(.k (.str [108,111,103]))],none,1,[27,26]⟩,
 om 25 27 3,
 ox 28 25 0 7,
 ox 29 25 1 7,
 om 7 28 15,
 om 8 29 63]
def r5_3 : List O := [om 30 6 0,
 ⟨some 31,.bin .neq (some .int) true (.t 30) (.k (.int .i64 0)),none,1,[31,30]⟩,
 om 32 31 3,
 ⟨some 33,.mv (.t 8),some (32,false),7,[33,32,8]⟩,
 ⟨some 34,.bin .neq (some .int) true (.t 33) (.k (.int .i64 0)),some (32,false),15,[34,32,33]⟩,
 ⟨some 35,.pick (.t 32) (.k (.bool true)) (.t 34),none,31,[35,32,34]⟩,
 om 36 35 63,
 ⟨some 37,.mv (.t 7),some (36,false),127,[37,36,7]⟩,
 ⟨some 38,.bin .eql (some .ptr) true (.t 37) (.k (.ptr none)),some (36,false),255,[38,36,37]⟩,
 ⟨some 39,.pick (.t 36) (.k (.bool true)) (.t 38),none,511,[39,36,38]⟩]
def r5_4 : List O := [om 40 0 0,
 oL 41 40 1,
 ⟨some 42,.mv (.k (.int .i64 0)),none,0,[42]⟩]
def r5_5 : List O := [oi 44 5 40 42 0,
 oN 45 5 44 1,
 ⟨some 10,.alloc 33 [(.int .i64 0),(.slice none 0 0 false),(.int .i64 0),(.int .i64 0),(.int .i64 0)],none,0,[10]⟩,
 ost 5 10 45 7]
def r5_6 : List O := [oa 46 0 10 0,
 ol 47 46 1]
def r5_7 : List O := [⟨some 49,.bin .eql (some .int) true (.t 47) (.k (.int .i64 0)),none,0,[49,47]⟩,
 om 48 49 1]
def r5_8 : List O := [om 50 7 0,
 oa 51 1 10 0,
 ol 52 51 2,
 ⟨some 53,.call (.k (.func 9 [] [])) [(.t 50),(.t 52)],none,7,[53,50,52]⟩]
def r5_9 : List O := [⟨some 55,.bin .eql (some .int) true (.t 47) (.k (.int .i64 1)),none,0,[55,47]⟩,
 om 54 55 1]
def r5_10 : List O := [om 56 7 0,
 ⟨some 57,.call (.k (.func 18 [] [])) [(.t 56)],none,1,[57,56]⟩]
def r5_11 : List O := [⟨some 59,.bin .eql (some .int) true (.t 47) (.k (.int .i64 2)),none,0,[59,47]⟩,
 om 58 59 1]
def r5_12 : List O := [om 60 7 0,
 oa 61 2 10 0,
 ol 62 61 2,
 ⟨some 63,.call (.k (.func 13 [] [])) [(.t 60),(.t 62)],none,7,[63,60,62]⟩]
def r5_13 : List O := [op1 64 42 0,
 om 42 64 1]
def b5_14 : C := .seq (.region [olt 43 42 41 0]) (.seq (.cond (.t 43) (.skip) (.exit 0)) (.seq (.block 1 (.seq (.region r5_5) (.seq (.region r5_6) (.block 2 (.seq (.region r5_7) (.cond (.t 48) (.region r5_8) (.seq (.region r5_9) (.cond (.t 54) (.region r5_10) (.seq (.region r5_11) (.cond (.t 58) (.region r5_12) (.skip))))))))))) (.region r5_13)))
def r5_15 : List O := [om 66 5 0,
 ⟨some 67,.call (.k (.func 8 [] [])) [(.t 66),(.k (.str [108,111,103]))],none,1,[67,66]⟩,
 om 65 67 3,
 ox 68 65 0 7,
 ox 69 65 1 7,
 om 11 68 15,
 om 6 69 63]
def r5_16 : List O := [om 70 6 0,
 ⟨some 71,.bin .neq (some .int) true (.t 70) (.k (.int .i64 0)),none,1,[71,70]⟩,
 om 72 71 3,
 ⟨some 73,.mv (.t 11),some (72,false),7,[73,72,11]⟩,
 ⟨some 74,.bin .eql (some .ptr) true (.t 73) (.k (.ptr none)),some (72,false),15,[74,72,73]⟩,
 ⟨some 75,.pick (.t 72) (.k (.bool true)) (.t 74),none,31,[75,72,74]⟩,
 om 76 75 63,
 ⟨some 77,.mv (.t 11),some (76,false),127,[77,76,11]⟩,
 ⟨some 78,.call (.k (.func 10 [] [])) [(.t 77)],some (76,false),255,[78,76,77]⟩,
 ⟨some 79,.mv (.t 7),some (76,false),127,[79,76,7]⟩,
 ⟨some 80,.call (.k (.func 10 [] [])) [(.t 79)],some (76,false),1023,[80,76,79]⟩,
 ⟨some 81,.bin .neq (some .int) false (.t 78) (.t 80),some (76,false),2047,[81,76,78,80]⟩,
 ⟨some 82,.pick (.t 76) (.k (.bool true)) (.t 81),none,4095,[82,76,81]⟩,
 om 83 82 8191,
 ⟨some 84,.mv (.t 11),some (83,false),16383,[84,83,11]⟩,
 ⟨some 85,.call (.k (.func 11 [] [])) [(.t 84)],some (83,false),32767,[85,83,84]⟩,
 ⟨some 86,.mv (.t 7),some (83,false),16383,[86,83,7]⟩,
 ⟨some 87,.call (.k (.func 11 [] [])) [(.t 86)],some (83,false),131071,[87,83,86]⟩,
 ⟨some 88,.bin .neq (some .int) false (.t 85) (.t 87),some (83,false),262143,[88,83,85,87]⟩,
 ⟨some 89,.pick (.t 83) (.k (.bool true)) (.t 88),none,524287,[89,83,88]⟩,
 om 90 89 1048575,
 ⟨some 91,.mv (.t 11),some (90,false),2097151,[91,90,11]⟩,
 ⟨some 92,.call (.k (.func 12 [] [])) [(.t 91)],some (90,false),4194303,[92,90,91]⟩,
 ⟨some 93,.mv (.t 7),some (90,false),2097151,[93,90,7]⟩,
 ⟨some 94,.call (.k (.func 12 [] [])) [(.t 93)],some (90,false),16777215,[94,90,93]⟩,
 ⟨some 95,.bin .neq (some .int) false (.t 92) (.t 94),some (90,false),33554431,[95,90,92,94]⟩,
 ⟨some 96,.pick (.t 90) (.k (.bool true)) (.t 95),none,67108863,[96,90,95]⟩,
 om 97 96 134217727,
 ⟨some 98,.mv (.t 11),some (97,false),268435455,[98,97,11]⟩,
 ⟨some 99,.call (.k (.func 19 [] [])) [(.t 98)],some (97,false),536870911,[99,97,98]⟩,
 ⟨some 100,.mv (.t 11),some (97,false),268435455,[100,97,11]⟩,
 ⟨some 101,.call (.k (.func 11 [] [])) [(.t 100)],some (97,false),2147483647,[101,97,100]⟩,
 ⟨some 102,.bin .neq (some .int) false (.t 99) (.t 101),some (97,false),4294967295,[102,97,99,101]⟩,
 ⟨some 103,.pick (.t 97) (.k (.bool true)) (.t 102),none,8589934591,[103,97,102]⟩]
def r5_17 : List O := [om 104 7 0,
 ⟨some 105,.call (.k (.func 14 [] [])) [(.t 104)],none,1,[105,104]⟩]
def a5_18 : C := .region [om 14 107 0]
def r5_19 : List O := [ol 108 12 0,
 om 109 14 0,
 ⟨some 110,.bslice 45 1 [(.slice none 0 0 false)] [(0,1,(.t 109))],none,2,[110,109]⟩,
 ⟨some 111,.app 45 1 24 (.t 108) (.t 110),none,7,[111,108,110]⟩,
 ost 1 12 111 15]
def b5_20 : C := .block 4 (.region r5_19)
def r5_21 : List O := [om 112 5 0,
 om 113 1 0,
 ⟨some 114,.cvt .i64 (.t 113),none,2,[114,113]⟩,
 ⟨some 115,.call (.k (.func 20 [] [])) [(.t 112),(.t 114)],none,7,[115,112,114]⟩]
def r5_22 : List O := [om 116 5 0,
 ⟨some 117,.call (.k (.func 21 [] [])) [(.t 116)],none,1,[117,116]⟩]
def r5_23 : List O := [om 119 5 0,
 ⟨some 120,.call (.k (.func 8 [] [])) [(.t 119),(.k (.str [108,111,103]))],none,1,[120,119]⟩,
 om 118 120 3,
 ox 121 118 0 7,
 ox 122 118 1 7,
 om 15 121 15,
 om 6 122 63]
def r5_24 : List O := [om 123 6 0,
 ⟨some 124,.bin .neq (some .int) true (.t 123) (.k (.int .i64 0)),none,1,[124,123]⟩,
 om 125 124 3,
 ⟨some 126,.mv (.t 15),some (125,false),7,[126,125,15]⟩,
 ⟨some 127,.bin .eql (some .ptr) true (.t 126) (.k (.ptr none)),some (125,false),15,[127,125,126]⟩,
 ⟨some 128,.pick (.t 125) (.k (.bool true)) (.t 127),none,31,[128,125,127]⟩,
 om 129 128 63,
 ⟨some 130,.mv (.t 15),some (129,false),127,[130,129,15]⟩,
 ⟨some 131,.call (.k (.func 11 [] [])) [(.t 130)],some (129,false),255,[131,129,130]⟩,
 ⟨some 132,.mv (.t 11),some (129,false),127,[132,129,11]⟩,
 ⟨some 133,.call (.k (.func 11 [] [])) [(.t 132)],some (129,false),1023,[133,129,132]⟩,
 ⟨some 134,.bin .neq (some .int) false (.t 131) (.t 133),some (129,false),2047,[134,129,131,133]⟩,
 ⟨some 135,.pick (.t 129) (.k (.bool true)) (.t 134),none,4095,[135,129,134]⟩]
def r5_25 : List O := [⟨some 16,.alloc 3 [(.int .i64 0)],none,0,[16]⟩,
 ⟨none,.store 1 (.t 16) (.k (.int .i64 0)),none,1,[16]⟩]
def r5_26 : List O := [om 136 15 0,
 ⟨some 137,.call (.k (.func 14 [] [])) [(.t 136)],none,1,[137,136]⟩]
def a5_27 : C := .region [om 18 139 0]
def r5_28 : List O := [ol 140 16 0,
 ol 141 12 0,
 oL 142 141 2,
 ⟨some 143,.bin .geq (some .int) false (.t 140) (.t 142),none,7,[143,140,142]⟩,
 om 144 143 15,
 ⟨some 145,.mv (.t 18),some (144,false),31,[145,144,18]⟩,
 olf 146 12 144 31,
 olf 147 16 144 31,
 ⟨some 148,.iadrL 1 (.t 146) (.t 147),some (144,false),223,[148,144,146,147]⟩,
 olf 149 148 144 479,
 ⟨some 150,.call (.k (.func 22 [] [])) [(.t 145),(.t 149)],some (144,false),1023,[150,144,145,149]⟩,
 ⟨some 151,.un .not (.t 150),some (144,false),2047,[151,144,150]⟩,
 ⟨some 152,.pick (.t 144) (.k (.bool true)) (.t 151),none,4095,[152,144,151]⟩]
def r5_29 : List O := [ol 153 16 0,
 op1 154 153 1,
 ost 1 16 154 3]
def b5_30 : C := .block 6 (.seq (.seq (.region r5_28) (.cond (.t 152) (.seq (.region [⟨none,.store 1 (.t 4) (.k (.bool false)),none,0,[4]⟩]) (.ret)) (.skip))) (.region r5_29))
def r5_31 : List O := [ol 155 16 0,
 ol 156 12 0,
 oL 157 156 2,
 ⟨some 158,.bin .eql (some .int) false (.t 155) (.t 157),none,7,[158,155,157]⟩,
 ost 1 4 158 15]
def c5 : C := .seq (.region [⟨some 4,.alloc 4 [(.bool false)],none,0,[4]⟩]) (.seq (.seq (.region r5_0) (.cond (.t 20) (.seq (.region [⟨none,.store 1 (.t 4) (.k (.bool false)),none,0,[4]⟩]) (.ret)) (.skip))) (.seq (.region r5_1) (.seq (.region r5_2) (.seq (.seq (.region r5_3) (.cond (.t 39) (.seq (.region [⟨none,.store 1 (.t 4) (.k (.bool false)),none,0,[4]⟩]) (.ret)) (.skip))) (.seq (.seq (.region r5_4) (.block 0 (.loop b5_14))) (.seq (.region r5_15) (.seq (.seq (.region r5_16) (.cond (.t 103) (.seq (.region [⟨none,.store 1 (.t 4) (.k (.bool false)),none,0,[4]⟩]) (.ret)) (.skip))) (.seq (.region [⟨some 12,.alloc 31 [(.slice none 0 0 false)],none,0,[12]⟩]) (.seq (.seq (.region r5_17) (.block 3 (.range (.t 105) [106,107] a5_18 b5_20))) (.seq (.region r5_21) (.seq (.region r5_22) (.seq (.region r5_23) (.seq (.seq (.region r5_24) (.cond (.t 135) (.seq (.region [⟨none,.store 1 (.t 4) (.k (.bool false)),none,0,[4]⟩]) (.ret)) (.skip))) (.seq (.region r5_25) (.seq (.seq (.region r5_26) (.block 5 (.range (.t 137) [138,139] a5_27 b5_30))) (.seq (.region r5_31) (.ret)))))))))))))))))
def r19_0 : List O := [om 3 0 0,
 ⟨some 4,.call (.k (.func 34 [] [])) [(.t 3)],none,1,[4,3]⟩]
def r19_1 : List O := [om 5 0 0,
 ⟨some 6,.nilck (.t 5),none,1,[6,5]⟩,
 oa 7 4 6 3,
 ol 8 7 7,
 om 2 8 15]
def c19 : C := .seq (.region [⟨some 2,.mv (.k (.int .i64 0)),none,0,[2]⟩]) (.seq (.seq (.region r19_0) (.cond (.t 4) (.seq (.region [⟨some 2,.mv (.k (.int .i64 0)),none,0,[2]⟩]) (.ret)) (.skip))) (.seq (.region r19_1) (.ret)))
def fn19 : Fn := ⟨9,[.t 2],c19⟩
def r21_0 : List O := [om 3 0 0,
 ⟨some 4,.call (.k (.func 55 [] [])) [(.t 3)],none,1,[4,3]⟩]
def r21_1 : List O := [om 5 0 0,
 ⟨some 6,.nilck (.t 5),none,1,[6,5]⟩,
 oa 7 4 6 3,
 ol 8 7 7,
 ono 9 8 15]
def r21_2 : List O := [om 10 0 0,
 ⟨some 11,.nilck (.t 10),none,1,[11,10]⟩,
 oa 12 4 11 3,
 ⟨none,.store 1 (.t 12) (.k (.bool false)),none,7,[12]⟩]
def c21 : C := .seq (.region [⟨some 2,.mv (.k (.int .i64 0)),none,0,[2]⟩]) (.seq (.seq (.region r21_0) (.cond (.t 4) (.seq (.region [⟨some 2,.mv (.k (.int .i64 2)),none,0,[2]⟩]) (.ret)) (.skip))) (.seq (.seq (.region r21_1) (.cond (.t 9) (.seq (.region [⟨some 2,.mv (.k (.int .i64 1)),none,0,[2]⟩]) (.ret)) (.skip))) (.seq (.region r21_2) (.seq (.region [⟨some 2,.mv (.k (.int .i64 0)),none,0,[2]⟩]) (.ret)))))
def fn21 : Fn := ⟨13,[.t 2],c21⟩
def r28_0 : List O := [⟨some 4,.mv (.k (.slice none 0 0 false)),none,0,[4]⟩,
 ⟨some 5,.mv (.k (.int .i64 0)),none,1,[5]⟩]
def r28_1 : List O := [om 7 0 0,
 om 8 1 0,
 ⟨some 9,.bslice 9 1 [(.str [])] [(0,1,(.t 8))],none,2,[9,8]⟩,
 ⟨some 10,.call (.k (.func 63 [] [])) [(.t 7),(.t 9)],none,7,[10,7,9]⟩,
 om 6 10 15]
def r28_2 : List O := [om 11 6 0,
 ⟨some 12,.bin .neq (some .int) true (.t 11) (.k (.int .i64 0)),none,1,[12,11]⟩]
def r28_3 : List O := [om 13 6 0,
 ⟨some 4,.mv (.k (.slice none 0 0 false)),none,0,[4]⟩,
 om 5 13 3]
def r28_4 : List O := [om 14 0 0,
 ⟨some 15,.nilck (.t 14),none,1,[15,14]⟩,
 oa 16 0 15 3,
 ol 17 16 7,
 om 18 1 0,
 ⟨some 19,.lookup .str (.ptr none) false (.t 17) (.t 18),none,31,[19,17,18]⟩,
 ⟨some 20,.nilck (.t 19),none,63,[20,19]⟩,
 oa 21 0 20 127,
 ol 22 21 255,
 ⟨some 23,.call (.k (.func 42 [] [])) [(.t 22)],none,511,[23,22]⟩,
 om 4 23 1023,
 ⟨some 5,.mv (.k (.int .i64 0)),none,2047,[5]⟩]
def c28 : C := .seq (.region r28_0) (.seq (.seq (.region r28_1) (.seq (.region r28_2) (.cond (.t 12) (.seq (.region r28_3) (.ret)) (.skip)))) (.seq (.region r28_4) (.ret)))
def fn28 : Fn := ⟨24,[.t 4,.t 5],c28⟩
def r59_0 : List O := [om 4 0 0,
 ⟨some 5,.call (.k (.func 55 [] [])) [(.t 4)],none,1,[5,4]⟩,
 ono 6 5 3]
def r59_1 : List O := [om 7 0 0,
 ⟨some 8,.nilck (.t 7),none,1,[8,7]⟩,
 oa 9 0 8 3,
 ol 10 9 7,
 ⟨some 11,.call (.k (.func 93 [] [])) [(.t 10)],none,15,[11,10]⟩,
 ost 1 3 11 31]
def r59_2 : List O := [⟨some 12,.mkF 94 [] [(.t 3)],none,0,[12,3]⟩,
 om 2 12 1]
def c59 : C := .seq (.region [⟨some 2,.mv (.k .nilFunc),none,0,[2]⟩]) (.seq (.region [⟨some 3,.alloc 136 [(.slice none 0 0 false)],none,0,[3]⟩]) (.seq (.seq (.region r59_0) (.cond (.t 6) (.region r59_1) (.skip))) (.seq (.region r59_2) (.ret))))
def fn59 : Fn := ⟨13,[.t 2],c59⟩
def r93_0 : List O := [om 3 0 0,
 ⟨some 4,.call (.k (.func 124 [] [])) [(.t 3)],none,1,[4,3]⟩,
 ⟨some 5,.call (.k (.func 123 [] [])) [(.t 4)],none,3,[5,4]⟩,
 om 2 5 7]
def c93 : C := .seq (.region [⟨some 2,.mv (.k (.slice none 0 0 false)),none,0,[2]⟩]) (.seq (.region r93_0) (.ret))
def fn93 : Fn := ⟨6,[.t 2],c93⟩
def r94_0 : List O := [ol 5 1 0,
 oL 6 5 1,
 ⟨some 7,.mv (.k (.int .i64 0)),none,0,[7]⟩]
def r94_1 : List O := [oi 9 1 5 7 0,
 ol 10 9 1,
 om 4 10 3]
def r94_2 : List O := [om 11 0 0,
 om 12 4 0,
 ⟨some 13,.call (.t 11) [(.t 12)],none,3,[13,11,12]⟩,
 ono 14 13 7]
def r94_3 : List O := [op1 15 7 0,
 om 7 15 1]
abbrev e94_4 : C := .seq (.region [olt 8 7 6 0]) (.seq (.cond (.t 8) (.skip) (.exit 0)) (.seq (.block 1 (.seq (.region r94_1) (.seq (.region r94_2) (.cond (.t 14) (.ret) (.skip))))) (.region r94_3)))
def b94_4 : C := e94_4
theorem u94_4 : XL P E ro L b94_4 K ρ h Q = X P E ro L (.c e94_4 :: .l b94_4 :: K) ρ h Q := XL_unroll b94_4
def c94 : C := .seq (.region r94_0) (.block 0 (.loop b94_4))
def fn94 : Fn := ⟨16,[],c94⟩
def r124_0 : List O := [⟨some 1,.box 59 (.t 0),none,0,[1,0]⟩,
 ⟨some 2,.mv (.k .nilFunc),none,0,[2]⟩]
def r124_1 : List O := [⟨some 3,.mkF 153 [] [(.t 1)],none,0,[3,1]⟩,
 om 2 3 1]
def c124 : C := .seq (.region r124_0) (.seq (.region r124_1) (.ret))
def fn124 : Fn := ⟨4,[.t 2],c124⟩
end Go.AM.Wd
namespace Go.AM.We
variable {P : Program} {E : Env} {ro : Option Nat} {L : Nat} {K : List Fr} {ρ : Nat → V} {h : H} {Q : Po}
def r4_0 : List O := [⟨some 14,.call (.k (.func 6 [] [])) [],none,0,[14]⟩,
 ono 15 14 1]
def r4_1 : List O := [⟨some 17,.call (.k (.func 15 [] [])) [(.k (.int .i64 4194304))],none,0,[17]⟩,
 om 16 17 1,
 ox 18 16 0 3,
 ox 19 16 1 3,
 om 3 18 7,
 om 4 19 31]
def r4_2 : List O := [om 20 4 0,
 ono 21 20 1]
def r4_3 : List O := [om 22 0 0,
 oL 23 22 1,
 ⟨some 24,.mv (.k (.int .i64 0)),none,0,[24]⟩]
def r4_4 : List O := [oi 26 1 22 24 0,
 ol 27 26 1,
 om 7 27 3]
def r4_5 : List O := [om 28 5 0,
 ⟨some 29,.bslice 5 0 [] [],none,0,[29]⟩,
 om 30 7 0,
 ⟨some 31,.app 5 1 1 (.t 29) (.t 30),none,6,[31,29,30]⟩,
 ⟨some 32,.bslice 45 1 [(.slice none 0 0 false)] [(0,1,(.t 31))],none,14,[32,31]⟩,
 ⟨some 33,.app 45 1 24 (.t 28) (.t 32),none,31,[33,28,32]⟩,
 om 5 33 63]
def r4_6 : List O := [op1 34 24 0,
 om 24 34 1]
abbrev e4_7 : C := .seq (.region [olt 25 24 23 0]) (.seq (.cond (.t 25) (.skip) (.exit 0)) (.seq (.block 1 (.seq (.region r4_4) (.region r4_5))) (.region r4_6)))
def b4_7 : C := e4_7
theorem u4_7 : XL P E ro L b4_7 K ρ h Q = X P E ro L (.c e4_7 :: .l b4_7 :: K) ρ h Q := XL_unroll b4_7
def r4_8 : List O := [om 35 3 0,
 ⟨some 36,.nilck (.t 35),none,1,[36,35]⟩,
 oa 37 1 36 3,
 ol 38 37 7,
 om 39 5 0,
 ⟨some 40,.call (.k (.func 9 [] [])) [(.t 38),(.t 39)],none,31,[40,38,39]⟩,
 om 41 3 0,
 ⟨some 42,.nilck (.t 41),none,64,[42,41]⟩,
 oa 43 3 42 192,
 ol 44 43 448,
 om 45 0 0,
 ⟨some 46,.call (.k (.func 16 [] [])) [(.t 44),(.t 45)],none,2047,[46,44,45]⟩,
 ⟨some 47,.bin .neq (some .int) false (.t 40) (.t 46),none,4095,[47,40,46]⟩]
def r4_9 : List O := [om 48 5 0,
 oL 49 48 1,
 ⟨some 50,.mv (.k (.int .i64 0)),none,0,[50]⟩]
def r4_10 : List O := [oi 52 1 48 50 0,
 ol 53 52 1,
 om 9 53 3]
def r4_11 : List O := [om 54 9 0,
 oL 55 54 1,
 ⟨some 56,.mv (.k (.int .i64 0)),none,0,[56]⟩]
def r4_12 : List O := [om 58 56 0,
 om 10 58 1]
def r4_13 : List O := [om 59 9 0,
 om 60 10 0,
 oi 61 1 59 60 3,
 ol 62 61 7,
 ⟨some 63,.bin .xor (some .int) true (.t 62) (.k (.int .u8 255)),none,15,[63,62]⟩,
 oi 64 1 59 60 31,
 ost 1 64 63 63]
def r4_14 : List O := [op1 65 56 0,
 om 56 65 1]
abbrev e4_15 : C := .seq (.region [olt 57 56 55 0]) (.seq (.cond (.t 57) (.skip) (.exit 4)) (.seq (.block 5 (.seq (.region r4_12) (.region r4_13))) (.region r4_14)))
def b4_15 : C := e4_15
theorem u4_15 : XL P E ro L b4_15 K ρ h Q = X P E ro L (.c e4_15 :: .l b4_15 :: K) ρ h Q := XL_unroll b4_15
def r4_16 : List O := [op1 66 50 0,
 om 50 66 1]
abbrev e4_17 : C := .seq (.region [olt 51 50 49 0]) (.seq (.cond (.t 51) (.skip) (.exit 2)) (.seq (.block 3 (.seq (.region r4_10) (.seq (.region r4_11) (.block 4 (.loop b4_15))))) (.region r4_16)))
def b4_17 : C := e4_17
theorem u4_17 : XL P E ro L b4_17 K ρ h Q = X P E ro L (.c e4_17 :: .l b4_17 :: K) ρ h Q := XL_unroll b4_17
def r4_18 : List O := [om 67 3 0,
 ⟨some 68,.nilck (.t 67),none,1,[68,67]⟩,
 oa 69 1 68 3,
 ol 70 69 7,
 ⟨some 71,.call (.k (.func 14 [] [])) [(.t 70)],none,15,[71,70]⟩]
def a4_19 : C := .region [om 12 73 0]
def r4_20 : List O := [om 74 12 0,
 oL 75 74 1,
 ⟨some 76,.mv (.k (.int .i64 0)),none,0,[76]⟩]
def r4_21 : List O := [om 78 76 0,
 om 13 78 1]
def r4_22 : List O := [om 79 12 0,
 om 80 13 0,
 oi 81 1 79 80 3,
 ol 82 81 7,
 ⟨some 83,.bin .xor (some .int) true (.t 82) (.k (.int .u8 255)),none,15,[83,82]⟩,
 oi 84 1 79 80 31,
 ost 1 84 83 63]
def r4_23 : List O := [op1 85 76 0,
 om 76 85 1]
abbrev e4_24 : C := .seq (.region [olt 77 76 75 0]) (.seq (.cond (.t 77) (.skip) (.exit 8)) (.seq (.block 9 (.seq (.region r4_21) (.region r4_22))) (.region r4_23)))
def b4_24 : C := e4_24
theorem u4_24 : XL P E ro L b4_24 K ρ h Q = X P E ro L (.c e4_24 :: .l b4_24 :: K) ρ h Q := XL_unroll b4_24
def b4_25 : C := .block 7 (.seq (.region r4_20) (.block 8 (.loop b4_24)))
def r4_26 : List O := [om 86 3 0,
 ⟨some 87,.call (.k (.func 17 [] [])) [(.t 86),(.k (.int .i64 0))],none,1,[87,86]⟩,
 om 2 87 3]
def c4 : C := .seq (.region [⟨some 2,.mv (.k (.bool false)),none,0,[2]⟩]) (.seq (.seq (.region r4_0) (.cond (.t 15) (.seq (.region [⟨some 2,.mv (.k (.bool false)),none,0,[2]⟩]) (.ret)) (.skip))) (.seq (.region r4_1) (.seq (.seq (.region r4_2) (.cond (.t 21) (.seq (.region [⟨some 2,.mv (.k (.bool false)),none,0,[2]⟩]) (.ret)) (.skip))) (.seq (.region [⟨some 5,.mv (.k (.slice none 0 0 false)),none,0,[5]⟩]) (.seq (.seq (.region r4_3) (.block 0 (.loop b4_7))) (.seq (.seq (.draw r4_8) (.cond (.t 47) (.seq (.region [⟨some 2,.mv (.k (.bool false)),none,0,[2]⟩]) (.ret)) (.skip))) (.seq (.seq (.region r4_9) (.block 2 (.loop b4_17))) (.seq (.seq (.region r4_18) (.block 6 (.range (.t 71) [72,73] a4_19 b4_25))) (.seq (.region r4_26) (.ret))))))))))
def fn4 : Fn := ⟨88,[.t 2],c4⟩
def r15_0 : List O := [⟨some 2,.mv (.k (.ptr none)),none,0,[2]⟩,
 ⟨some 3,.mv (.k (.bool false)),none,1,[3]⟩]
def r15_1 : List O := [om 10 0 0,
 ⟨some 11,.call (.k (.func 7 [] [])) [(.t 10)],none,1,[11,10]⟩,
 om 9 11 3,
 ox 12 9 0 7,
 ox 13 9 1 7,
 om 4 12 15,
 om 5 13 63]
def r15_2 : List O := [om 15 0 0,
 ⟨some 16,.call (.k (.func 43 [] [])) [(.t 15)],none,1,[16,15]⟩,
 om 14 16 3,
 ox 17 14 0 7,
 ox 18 14 1 7,
 om 6 17 15,
 om 7 18 63]
def r15_3 : List O := [om 19 4 0,
 om 20 6 0,
 ⟨some 21,.build [(.ptr none),(.ptr none),(.ptr none),(.ptr none)] [(0,1,(.t 19)),(2,1,(.t 20))],none,3,[21,19,20]⟩,
 ⟨some 22,.box 49 (.t 21),none,7,[22,21]⟩,
 om 8 22 15]
def r15_4 : List O := [om 23 5 0,
 om 24 7 0,
 ⟨some 25,.bin .neq (some .int) false (.t 23) (.t 24),none,3,[25,23,24]⟩,
 om 26 25 7,
 ⟨some 27,.mv (.t 5),some (26,false),15,[27,26,5]⟩,
 ⟨some 28,.bin .neq (some .int) true (.t 27) (.k (.int .i64 0)),some (26,false),31,[28,26,27]⟩,
 ⟨some 29,.pick (.t 26) (.k (.bool true)) (.t 28),none,63,[29,26,28]⟩,
 om 30 29 127,
 ⟨some 31,.mv (.t 4),some (30,false),255,[31,30,4]⟩,
 ⟨some 32,.bin .eql (some .ptr) true (.t 31) (.k (.ptr none)),some (30,false),511,[32,30,31]⟩,
 ⟨some 33,.pick (.t 30) (.k (.bool true)) (.t 32),none,1023,[33,30,32]⟩]
def r15_5 : List O := [om 34 8 0,
 om 2 34 1,
 ⟨some 3,.mv (.k (.bool false)),none,3,[3]⟩]
def r15_6 : List O := [om 35 8 0,
 om 36 8 0,
 ⟨some 37,.call (.k (.func 44 [] [])) [(.t 36),(.k (.str [108,111,103]))],none,2,[37,36]⟩,
 om 2 35 7,
 om 3 37 15]
def c15 : C := .seq (.region r15_0) (.seq (.region r15_1) (.seq (.region r15_2) (.seq (.region r15_3) (.seq (.seq (.region r15_4) (.cond (.t 33) (.seq (.region r15_5) (.ret)) (.skip))) (.seq (.region r15_6) (.ret))))))
def fn15 : Fn := ⟨38,[.t 2,.t 3],c15⟩
def r16_0 : List O := [om 15 0 0,
 om 16 1 0,
 ⟨some 17,.call (.k (.func 45 [] [])) [(.t 15),(.t 16)],none,3,[17,15,16]⟩,
 om 5 17 7]
def r16_1 : List O := [om 18 5 0,
 ⟨some 19,.bin .neq (some .int) true (.t 18) (.k (.int .i64 0)),none,1,[19,18]⟩]
def r16_2 : List O := [om 20 5 0,
 om 4 20 1]
def r16_3 : List O := [om 21 6 0,
 om 22 1 0,
 oL 23 22 2,
 olt 24 21 23 7]
def r16_4 : List O := [om 27 0 0,
 ⟨some 28,.nilck (.t 27),none,1,[28,27]⟩,
 oa 29 2 28 3,
 ol 30 29 7,
 oL 31 30 15,
 ⟨some 32,.bin .sub (some .int) true (.t 31) (.k (.int .i64 1)),none,31,[32,31]⟩,
 om 7 32 63]
def r16_5 : List O := [om 33 7 0,
 ⟨some 34,.bin .lss (some .int) true (.t 33) (.k (.int .i64 0)),none,1,[34,33]⟩,
 om 35 34 3,
 ⟨some 36,.mv (.t 0),some (35,false),7,[36,35,0]⟩,
 ⟨some 37,.nilck (.t 36),some (35,false),15,[37,35,36]⟩,
 oaf 38 2 37 35 31,
 olf 39 38 35 63,
 ⟨some 40,.mv (.t 7),some (35,false),7,[40,35,7]⟩,
 ⟨some 41,.iadrL 4 (.t 39) (.t 40),some (35,false),255,[41,35,39,40]⟩,
 oaf 42 1 41 35 511,
 olf 43 42 35 1023,
 ⟨some 44,.bin .geq (some .int) true (.t 43) (.k (.int .i64 1024)),some (35,false),2047,[44,35,43]⟩,
 ⟨some 45,.pick (.t 35) (.k (.bool true)) (.t 44),none,4095,[45,35,44]⟩,
 om 8 45 8191]
def r16_6 : List O := [om 46 0 0,
 ⟨some 47,.nilck (.t 46),none,1,[47,46]⟩,
 oa 48 3 47 3,
 ol 49 48 7,
 om 9 49 15]
def r16_7 : List O := [om 50 8 0,
 ono 51 50 1]
def r16_8 : List O := [om 52 0 0,
 ⟨some 53,.nilck (.t 52),none,1,[53,52]⟩,
 oa 54 2 53 3,
 ol 55 54 7,
 om 56 7 0,
 oi 57 4 55 56 31,
 oa 58 0 57 63,
 ol 59 58 127,
 om 9 59 255]
def r16_9 : List O := [om 60 8 0,
 om 61 60 1,
 og 62 7 61 3,
 ⟨some 63,.bin .geq (some .int) true (.t 62) (.k (.int .i64 0)),some (61,true),7,[63,61,62]⟩,
 oe 64 63 61 15,
 om 65 64 31,
 og 66 0 65 63,
 ⟨some 67,.nilck (.t 66),some (65,true),127,[67,65,66]⟩,
 oag 68 2 67 65 255,
 olg 69 68 65 511,
 og 70 7 65 63,
 oig 71 4 69 70 65 2047,
 oag 72 3 71 65 4095,
 olg 73 72 65 8191,
 oe 74 73 65 16383]
def r16_10 : List O := [om 75 0 0,
 ⟨some 76,.nilck (.t 75),none,1,[76,75]⟩,
 oa 77 0 76 3,
 ol 78 77 7,
 om 79 0 0,
 ⟨some 80,.nilck (.t 79),none,16,[80,79]⟩,
 oa 81 1 80 48,
 ol 82 81 112,
 om 83 0 0,
 ⟨some 84,.nilck (.t 83),none,256,[84,83]⟩,
 oa 85 2 84 768,
 ol 86 85 1792,
 om 87 7 0,
 oi 88 4 86 87 7936,
 oa 89 0 88 16128,
 ol 90 89 32512,
 ⟨some 91,.call (.k (.func 47 [] [])) [(.t 82),(.t 90)],none,65520,[91,82,90]⟩,
 ⟨some 92,.call (.k (.func 46 [] [])) [(.t 78),(.t 91)],none,131071,[92,78,91]⟩,
 om 10 92 262143]
def r16_11 : List O := [om 93 10 0,
 ⟨some 94,.bin .neq (some .int) true (.t 93) (.k (.int .i64 0)),none,1,[94,93]⟩]
def r16_12 : List O := [om 95 0 0,
 ⟨some 96,.nilck (.t 95),none,1,[96,95]⟩,
 oa 97 5 96 3,
 ⟨none,.store 1 (.t 97) (.k (.bool true)),none,7,[97]⟩]
def r16_13 : List O := [om 98 10 0,
 om 4 98 1]
def r16_14 : List O := [om 99 0 0,
 ⟨some 100,.nilck (.t 99),none,1,[100,99]⟩,
 oa 101 2 100 3,
 ol 102 101 7,
 om 103 7 0,
 oi 104 4 102 103 31,
 oa 105 3 104 63,
 ⟨none,.store 1 (.t 105) (.k (.bool false)),none,127,[105]⟩]
def r16_15 : List O := [om 107 1 0,
 om 108 6 0,
 oi 109 1 107 108 3,
 ol 110 109 7,
 ⟨some 111,.call (.k (.func 48 [] [])) [(.t 110)],none,15,[111,110]⟩,
 om 106 111 31,
 ox 112 106 0 63,
 ox 113 106 1 63,
 om 11 112 127,
 om 12 113 511]
def r16_16 : List O := [om 114 0 0,
 ⟨some 115,.nilck (.t 114),none,1,[115,114]⟩,
 oa 116 0 115 3,
 ol 117 116 7,
 om 118 0 0,
 ⟨some 119,.nilck (.t 118),none,16,[119,118]⟩,
 oa 120 1 119 48,
 ol 121 120 112,
 om 122 9 0,
 ⟨some 123,.call (.k (.func 47 [] [])) [(.t 121),(.t 122)],none,496,[123,121,122]⟩,
 om 124 11 0,
 ⟨some 125,.call (.k (.func 49 [] [])) [(.t 117),(.t 123),(.t 124)],none,2047,[125,117,123,124]⟩,
 om 13 125 4095]
def r16_17 : List O := [om 126 13 0,
 ⟨some 127,.bin .neq (some .int) true (.t 126) (.k (.int .i64 0)),none,1,[127,126]⟩]
def r16_18 : List O := [om 128 0 0,
 ⟨some 129,.nilck (.t 128),none,1,[129,128]⟩,
 oa 130 5 129 3,
 ⟨none,.store 1 (.t 130) (.k (.bool true)),none,7,[130]⟩]
def r16_19 : List O := [om 131 13 0,
 om 4 131 1]
def r16_20 : List O := [om 133 0 0,
 om 134 0 0,
 ⟨some 135,.nilck (.t 134),none,2,[135,134]⟩,
 oa 136 2 135 6,
 ol 137 136 14,
 om 138 9 0,
 ⟨some 139,.build [(.int .i64 0),(.int .i64 0),(.slice none 0 0 false),(.bool false)] [(0,1,(.t 138))],none,32,[139,138]⟩,
 ⟨some 140,.bslice 94 1 [(.int .i64 0),(.int .i64 0),(.slice none 0 0 false),(.bool false)] [(0,4,(.t 139))],none,96,[140,139]⟩,
 ⟨some 141,.app 94 4 48 (.t 137) (.t 140),none,254,[141,137,140]⟩,
 ⟨some 142,.nilck (.t 133),none,511,[142,133]⟩,
 oa 143 2 142 1023,
 ost 1 143 141 2047]
def r16_21 : List O := [om 144 7 0,
 op1 145 144 1,
 om 7 145 3]
def r16_22 : List O := [om 146 0 0,
 ⟨some 147,.nilck (.t 146),none,1,[147,146]⟩,
 oa 148 2 147 3,
 ol 149 148 7,
 om 150 7 0,
 oi 151 4 149 150 31,
 om 14 151 63]
def r16_23 : List O := [om 152 14 0,
 ⟨some 153,.nilck (.t 152),none,1,[153,152]⟩,
 oa 154 1 153 3,
 ol 155 154 7,
 om 156 11 0,
 oL 157 156 16,
 ⟨some 158,.bin .add (some .int) false (.t 155) (.t 157),none,63,[158,155,157]⟩,
 ⟨some 159,.nilck (.t 152),none,127,[159,152]⟩,
 oa 160 1 159 255,
 ost 1 160 158 511]
def r16_24 : List O := [om 161 14 0,
 ⟨some 162,.nilck (.t 161),none,1,[162,161]⟩,
 oa 163 3 162 3,
 ⟨none,.store 1 (.t 163) (.k (.bool true)),none,7,[163]⟩]
def r16_25 : List O := [om 164 14 0,
 om 165 14 0,
 ⟨some 166,.nilck (.t 165),none,2,[166,165]⟩,
 oa 167 2 166 6,
 ol 168 167 14,
 om 169 1 0,
 om 170 6 0,
 oi 171 1 169 170 96,
 ol 172 171 224,
 ⟨some 173,.bslice 45 1 [(.slice none 0 0 false)] [(0,1,(.t 172))],none,480,[173,172]⟩,
 ⟨some 174,.app 45 1 24 (.t 168) (.t 173),none,1022,[174,168,173]⟩,
 ⟨some 175,.nilck (.t 164),none,2047,[175,164]⟩,
 oa 176 2 175 4095,
 ost 1 176 174 8191]
def r16_26 : List O := [om 177 0 0,
 ⟨some 178,.nilck (.t 177),none,1,[178,177]⟩,
 oa 179 3 178 3,
 ol 180 179 7,
 op1 181 180 15,
 ⟨some 182,.nilck (.t 177),none,31,[182,177]⟩,
 oa 183 3 182 63,
 ost 1 183 181 127]
def r16_27 : List O := [om 25 6 0,
 op1 26 25 1,
 om 6 26 3]
abbrev e16_28 : C := .seq (.seq (.region r16_3) (.cond (.t 24) (.skip) (.exit 0))) (.seq (.block 1 (.seq (.region r16_4) (.seq (.region r16_5) (.seq (.region r16_6) (.seq (.seq (.region r16_7) (.cond (.t 51) (.region r16_8) (.skip))) (.seq (.seq (.region r16_9) (.cond (.t 74) (.seq (.seq (.draw r16_10) (.seq (.region r16_11) (.cond (.t 94) (.seq (.region r16_12) (.seq (.region r16_13) (.ret))) (.skip)))) (.region r16_14)) (.skip))) (.seq (.region r16_15) (.seq (.seq (.draw r16_16) (.seq (.region r16_17) (.cond (.t 127) (.seq (.region r16_18) (.seq (.region r16_19) (.ret))) (.skip)))) (.seq (.seq (.region [om 132 8 0]) (.cond (.t 132) (.seq (.region r16_20) (.region r16_21)) (.skip))) (.seq (.region r16_22) (.seq (.region r16_23) (.seq (.region r16_24) (.seq (.draw r16_25) (.region r16_26)))))))))))))) (.region r16_27))
def b16_28 : C := e16_28
theorem u16_28 : XL P E ro L b16_28 K ρ h Q = X P E ro L (.c e16_28 :: .l b16_28 :: K) ρ h Q := XL_unroll b16_28
def c16 : C := .seq (.region [⟨some 4,.mv (.k (.int .i64 0)),none,0,[4]⟩]) (.seq (.seq (.region r16_0) (.seq (.region r16_1) (.cond (.t 19) (.seq (.region r16_2) (.ret)) (.skip)))) (.seq (.seq (.region [⟨some 6,.mv (.k (.int .i64 0)),none,0,[6]⟩]) (.block 0 (.loop b16_28))) (.seq (.region [⟨some 4,.mv (.k (.int .i64 0)),none,0,[4]⟩]) (.ret))))
def fn16 : Fn := ⟨184,[.t 4],c16⟩
def r17_0 : List O := [⟨some 2,.box 42 (.t 0),none,0,[2,0]⟩,
 ⟨some 3,.box 3 (.t 1),none,0,[3,1]⟩,
 ⟨some 4,.alloc 4 [(.bool false)],none,0,[4]⟩]
def r17_1 : List O := [ol 10 2 0,
 ⟨some 11,.nilck (.t 10),none,1,[11,10]⟩,
 oa 12 1 11 3,
 ol 13 12 7,
 ⟨some 14,.bin .eql (some .ptr) true (.t 13) (.k (.ptr none)),none,15,[14,13]⟩,
 ol 15 2 0,
 ⟨some 16,.nilck (.t 15),none,32,[16,15]⟩,
 oa 17 3 16 96,
 ol 18 17 224,
 ⟨some 19,.bin .eql (some .ptr) true (.t 18) (.k (.ptr none)),none,480,[19,18]⟩,
 ⟨some 20,.bin .neq (some .bool) false (.t 14) (.t 19),none,1023,[20,14,19]⟩,
 om 21 20 2047,
 olf 22 2 21 4095,
 ⟨some 23,.call (.k (.func 50 [] [])) [(.t 22)],some (21,false),8191,[23,21,22]⟩,
 ⟨some 24,.un .not (.t 23),some (21,false),16383,[24,21,23]⟩,
 ⟨some 25,.pick (.t 21) (.k (.bool true)) (.t 24),none,32767,[25,21,24]⟩]
theorem d17_1 (hx : XDO P E ro L r17_1 K ρ h Q) : XD P E ro L r17_1 K ρ h Q := XD_ord rfl hx
def r17_2 : List O := [ol 26 2 0,
 ⟨some 27,.nilck (.t 26),none,1,[27,26]⟩,
 oa 28 1 27 3,
 ol 29 28 7,
 ⟨some 30,.bin .eql (some .ptr) true (.t 29) (.k (.ptr none)),none,15,[30,29]⟩]
def r17_3 : List O := [ol 31 2 0,
 ⟨some 32,.nilck (.t 31),none,1,[32,31]⟩,
 oa 33 1 32 3,
 ol 34 33 7,
 ⟨some 35,.call (.k (.func 10 [] [])) [(.t 34)],none,15,[35,34]⟩,
 ol 36 2 0,
 ⟨some 37,.nilck (.t 36),none,32,[37,36]⟩,
 oa 38 3 37 96,
 ol 39 38 224,
 ⟨some 40,.call (.k (.func 51 [] [])) [(.t 39)],none,511,[40,39]⟩,
 ⟨some 41,.bin .neq (some .int) false (.t 35) (.t 40),none,1023,[41,35,40]⟩,
 om 42 41 2047,
 olf 43 2 42 4095,
 ⟨some 44,.nilck (.t 43),some (42,false),8191,[44,42,43]⟩,
 oaf 45 1 44 42 16383,
 olf 46 45 42 32767,
 ⟨some 47,.call (.k (.func 11 [] [])) [(.t 46)],some (42,false),65535,[47,42,46]⟩,
 olf 48 2 42 4095,
 ⟨some 49,.nilck (.t 48),some (42,false),135167,[49,42,48]⟩,
 oaf 50 3 49 42 397311,
 olf 51 50 42 921599,
 ⟨some 52,.call (.k (.func 52 [] [])) [(.t 51)],some (42,false),2097151,[52,42,51]⟩,
 ⟨some 53,.bin .neq (some .int) false (.t 47) (.t 52),some (42,false),4194303,[53,42,47,52]⟩,
 ⟨some 54,.pick (.t 42) (.k (.bool true)) (.t 53),none,8388607,[54,42,53]⟩,
 om 55 54 16777215,
 olf 56 2 55 33554431,
 ⟨some 57,.nilck (.t 56),some (55,false),67108863,[57,55,56]⟩,
 oaf 58 1 57 55 134217727,
 olf 59 58 55 268435455,
 ⟨some 60,.call (.k (.func 19 [] [])) [(.t 59)],some (55,false),536870911,[60,55,59]⟩,
 olf 61 2 55 33554431,
 ⟨some 62,.nilck (.t 61),some (55,false),1107296255,[62,55,61]⟩,
 oaf 63 3 62 55 3254779903,
 olf 64 63 55 7549747199,
 ⟨some 65,.nilck (.t 64),some (55,false),16139681791,[65,55,64]⟩,
 oaf 66 4 65 55 33319550975,
 olf 67 66 55 67679289343,
 ⟨some 68,.bin .neq (some .int) false (.t 60) (.t 67),some (55,false),137438953471,[68,55,60,67]⟩,
 ⟨some 69,.pick (.t 55) (.k (.bool true)) (.t 68),none,274877906943,[69,55,68]⟩,
 om 70 69 549755813887,
 olf 71 2 70 1099511627775,
 ⟨some 72,.nilck (.t 71),some (70,false),2199023255551,[72,70,71]⟩,
 oaf 73 1 72 70 4398046511103,
 olf 74 73 70 8796093022207,
 ⟨some 75,.call (.k (.func 12 [] [])) [(.t 74)],some (70,false),17592186044415,[75,70,74]⟩,
 olf 76 2 70 1099511627775,
 ⟨some 77,.nilck (.t 76),some (70,false),36283883716607,[77,70,76]⟩,
 oaf 78 3 77 70 106652627894271,
 olf 79 78 70 247390116249599,
 ⟨some 80,.call (.k (.func 53 [] [])) [(.t 79)],some (70,false),562949953421311,[80,70,79]⟩,
 ⟨some 81,.bin .neq (some .int) false (.t 75) (.t 80),some (70,false),1125899906842623,[81,70,75,80]⟩,
 ⟨some 82,.pick (.t 70) (.k (.bool true)) (.t 81),none,2251799813685247,[82,70,81]⟩]
theorem d17_3 (hx : XDQ P E ro L K Q h [true,true,true,true,true,false,false,false,false,true,true,true,true,true,true,true,true,false,false,false,false,true,true,true,true,true,true,true,true,true,false,false,false,false,false,false,false,true,true,true,true,true,true,true,true,false,false,false,false,true,true,true] r17_3 ρ h) : XD P E ro L r17_3 K ρ h Q := XD_quiet rfl rfl hx
def r17_4 : List O := [ol 83 2 0,
 ⟨some 84,.nilck (.t 83),none,1,[84,83]⟩,
 oa 85 3 84 3,
 ol 86 85 7,
 ⟨some 87,.call (.k (.func 54 [] [])) [(.t 86)],none,15,[87,86]⟩,
 ⟨some 5,.alloc 31 [(.slice none 0 0 false)],none,0,[5]⟩,
 ost 1 5 87 63]
def r17_5 : List O := [ol 88 2 0,
 ⟨some 89,.nilck (.t 88),none,1,[89,88]⟩,
 oa 90 1 89 3,
 ol 91 90 7,
 ⟨some 92,.call (.k (.func 14 [] [])) [(.t 91)],none,15,[92,91]⟩,
 om 6 92 31]
def r17_6 : List O := [⟨some 7,.alloc 3 [(.int .i64 0)],none,0,[7]⟩,
 ⟨none,.store 1 (.t 7) (.k (.int .i64 0)),none,1,[7]⟩]
def a17_7 : C := .seq (.region [om 8 96 0]) (.region [om 9 97 0])
def r17_8 : List O := [ol 98 7 0,
 ol 99 5 0,
 oL 100 99 2,
 ⟨some 101,.bin .geq (some .int) false (.t 98) (.t 100),none,7,[101,98,100]⟩,
 om 102 101 15,
 ⟨some 103,.mv (.t 8),some (102,false),31,[103,102,8]⟩,
 olf 104 2 102 31,
 ⟨some 105,.nilck (.t 104),some (102,false),95,[105,102,104]⟩,
 oaf 106 3 105 102 223,
 olf 107 106 102 479,
 ⟨some 108,.call (.k (.func 51 [] [])) [(.t 107)],some (102,false),991,[108,102,107]⟩,
 olf 109 7 102 31,
 ⟨some 110,.bin .add (some .int) false (.t 108) (.t 109),some (102,false),4063,[110,102,108,109]⟩,
 ⟨some 111,.bin .neq (some .int) false (.t 103) (.t 110),some (102,false),8191,[111,102,103,110]⟩,
 ⟨some 112,.pick (.t 102) (.k (.bool true)) (.t 111),none,16383,[112,102,111]⟩,
 om 113 112 32767,
 ⟨some 114,.mv (.t 9),some (113,false),65535,[114,113,9]⟩,
 olf 115 5 113 65535,
 olf 116 7 113 65535,
 ⟨some 117,.iadrL 1 (.t 115) (.t 116),some (113,false),458751,[117,113,115,116]⟩,
 olf 118 117 113 983039,
 ⟨some 119,.call (.k (.func 22 [] [])) [(.t 114),(.t 118)],some (113,false),2097151,[119,113,114,118]⟩,
 ⟨some 120,.un .not (.t 119),some (113,false),4194303,[120,113,119]⟩,
 ⟨some 121,.pick (.t 113) (.k (.bool true)) (.t 120),none,8388607,[121,113,120]⟩]
theorem d17_8 (hx : XDQ P E ro L K Q h [true,true,true,true,true,true,true,true,true,true,true,false,true,true,true,true,true,true,true,true,true,true,true,true] r17_8 ρ h) : XD P E ro L r17_8 K ρ h Q := XD_quiet rfl rfl hx
def r17_9 : List O := [ol 122 7 0,
 op1 123 122 1,
 ost 1 7 123 3]
def r17_10 : List O := [ol 124 7 0,
 ol 125 3 0,
 ⟨some 126,.bin .eql (some .int) false (.t 124) (.t 125),none,3,[126,124,125]⟩]
def b17_11 : C := .block 3 (.seq (.seq (.draw r17_8) (.cond (.t 121) (.seq (.region [⟨none,.store 1 (.t 4) (.k (.bool false)),none,0,[4]⟩]) (.ret)) (.skip))) (.seq (.region r17_9) (.seq (.region r17_10) (.cond (.t 126) (.exit 2) (.skip)))))
def r17_12 : List O := [ol 127 7 0,
 ol 128 5 0,
 oL 129 128 2,
 ⟨some 130,.bin .neq (some .int) false (.t 127) (.t 129),none,7,[130,127,129]⟩,
 om 131 130 15,
 olg 132 7 131 31,
 olg 133 3 131 31,
 ⟨some 134,.bin .neq (some .int) false (.t 132) (.t 133),some (131,true),127,[134,131,132,133]⟩,
 oe 135 134 131 255]
def r17_13 : List O := [op1 136 93 0,
 om 93 136 1]
abbrev e17_14 : C := .seq (.region [⟨some 94,.bin .lss (some .int) true (.t 93) (.k (.int .i64 2)),none,0,[94,93]⟩]) (.seq (.cond (.t 94) (.skip) (.exit 0)) (.seq (.block 1 (.seq (.region r17_6) (.seq (.seq (.region [om 95 6 0]) (.block 2 (.range (.t 95) [96,97] a17_7 b17_11))) (.seq (.region r17_12) (.cond (.t 135) (.seq (.region [⟨none,.store 1 (.t 4) (.k (.bool false)),none,0,[4]⟩]) (.ret)) (.skip)))))) (.region r17_13)))
def b17_14 : C := e17_14
theorem u17_14 : XL P E ro L b17_14 K ρ h Q = X P E ro L (.c e17_14 :: .l b17_14 :: K) ρ h Q := XL_unroll b17_14
def c17 : C := .seq (.region r17_0) (.seq (.seq (.draw r17_1) (.cond (.t 25) (.seq (.region [⟨none,.store 1 (.t 4) (.k (.bool false)),none,0,[4]⟩]) (.ret)) (.skip))) (.seq (.seq (.region r17_2) (.cond (.t 30) (.seq (.region [⟨none,.store 1 (.t 4) (.k (.bool true)),none,0,[4]⟩]) (.ret)) (.skip))) (.seq (.seq (.draw r17_3) (.cond (.t 82) (.seq (.region [⟨none,.store 1 (.t 4) (.k (.bool false)),none,0,[4]⟩]) (.ret)) (.skip))) (.seq (.region r17_4) (.seq (.region r17_5) (.seq (.seq (.region [⟨some 93,.mv (.k (.int .i64 0)),none,0,[93]⟩]) (.block 0 (.loop b17_14))) (.seq (.region [⟨none,.store 1 (.t 4) (.k (.bool true)),none,0,[4]⟩]) (.ret))))))))
def fn17 : Fn := ⟨137,[.c 4 1 false],c17⟩
def r22_0 : List O := [om 5 0 0,
 ⟨some 6,.b2s (.t 5),none,1,[6,5]⟩,
 om 7 1 0,
 ⟨some 8,.b2s (.t 7),none,4,[8,7]⟩,
 ⟨some 9,.bin .eql (some .str) false (.t 6) (.t 8),none,15,[9,6,8]⟩,
 om 4 9 31]
def c22 : C := .seq (.region [⟨some 4,.mv (.k (.bool false)),none,0,[4]⟩]) (.seq (.region r22_0) (.ret))
def fn22 : Fn := ⟨10,[.t 4],c22⟩
def r43_0 : List O := [⟨some 2,.mv (.k (.ptr none)),none,0,[2]⟩,
 ⟨some 3,.mv (.k (.int .i64 0)),none,1,[3]⟩]
def r43_1 : List O := [om 4 0 0,
 ⟨some 5,.bin .lss (some .int) true (.t 4) (.k (.int .i64 0)),none,1,[5,4]⟩]
def r43_2 : List O := [⟨some 2,.mv (.k (.ptr none)),none,0,[2]⟩,
 ⟨some 3,.mv (.k (.int .i64 1)),none,1,[3]⟩]
def r43_3 : List O := [om 6 0 0,
 ⟨some 7,.build [(.int .i64 0),(.slice none 0 0 false),(.int .i64 0),(.int .i64 0),(.bool false)] [(0,1,(.t 6))],none,1,[7,6]⟩,
 ⟨some 8,.box 123 (.t 7),none,3,[8,7]⟩,
 om 2 8 7,
 ⟨some 3,.mv (.k (.int .i64 0)),none,15,[3]⟩]
def c43 : C := .seq (.region r43_0) (.seq (.seq (.region r43_1) (.cond (.t 5) (.seq (.region r43_2) (.ret)) (.skip))) (.seq (.region r43_3) (.ret)))
def fn43 : Fn := ⟨9,[.t 2,.t 3],c43⟩
def r44_0 : List O := [om 9 0 0,
 ⟨some 10,.nilck (.t 9),none,1,[10,9]⟩,
 oa 11 0 10 3,
 ol 12 11 7,
 ⟨some 13,.call (.k (.func 21 [] [])) [(.t 12)],none,15,[13,12]⟩]
def r44_1 : List O := [om 14 0 0,
 ⟨some 15,.nilck (.t 14),none,1,[15,14]⟩,
 oa 16 2 15 3,
 ol 17 16 7,
 ⟨some 18,.call (.k (.func 70 [] [])) [(.t 17)],none,15,[18,17]⟩]
def r44_2 : List O := [om 20 0 0,
 ⟨some 21,.nilck (.t 20),none,1,[21,20]⟩,
 oa 22 0 21 3,
 ol 23 22 7,
 om 24 1 0,
 ⟨some 25,.call (.k (.func 8 [] [])) [(.t 23),(.t 24)],none,31,[25,23,24]⟩,
 om 19 25 63,
 ox 26 19 0 127,
 ox 27 19 1 127,
 om 5 26 255,
 om 6 27 1023]
def r44_3 : List O := [om 29 0 0,
 ⟨some 30,.nilck (.t 29),none,1,[30,29]⟩,
 oa 31 2 30 3,
 ol 32 31 7,
 om 33 1 0,
 ⟨some 34,.call (.k (.func 71 [] [])) [(.t 32),(.t 33)],none,31,[34,32,33]⟩,
 om 28 34 63,
 ox 35 28 0 127,
 ox 36 28 1 127,
 om 7 35 255,
 om 8 36 1023]
def r44_4 : List O := [om 37 0 0,
 om 38 0 0,
 om 39 5 0,
 om 40 7 0,
 ⟨some 41,.nilck (.t 37),none,5,[41,37]⟩,
 oa 42 1 41 21,
 ost 1 42 39 53,
 ⟨some 43,.nilck (.t 38),none,127,[43,38]⟩,
 oa 44 3 43 255,
 ost 1 44 40 511]
def r44_5 : List O := [om 45 6 0,
 om 46 8 0,
 ⟨some 47,.bin .eql (some .int) false (.t 45) (.t 46),none,3,[47,45,46]⟩,
 om 48 47 7,
 og 49 5 48 15,
 ⟨some 50,.bin .neq (some .ptr) true (.t 49) (.k (.ptr none)),some (48,true),31,[50,48,49]⟩,
 og 51 6 48 15,
 ⟨some 52,.bin .eql (some .int) true (.t 51) (.k (.int .i64 0)),some (48,true),79,[52,48,51]⟩,
 ⟨some 53,.bin .eql (some .bool) false (.t 50) (.t 52),some (48,true),255,[53,48,50,52]⟩,
 oe 54 53 48 511,
 om 4 54 1023]
def c44 : C := .seq (.region [⟨some 4,.mv (.k (.bool false)),none,0,[4]⟩]) (.seq (.region r44_0) (.seq (.region r44_1) (.seq (.region r44_2) (.seq (.region r44_3) (.seq (.region r44_4) (.seq (.region r44_5) (.ret)))))))
def fn44 : Fn := ⟨55,[.t 4],c44⟩
def r45_0 : List O := [om 6 0 0,
 ⟨some 7,.nilck (.t 6),none,1,[7,6]⟩,
 oa 8 5 7 3,
 ol 9 8 7]
def r45_1 : List O := [om 10 5 0,
 om 11 1 0,
 oL 12 11 2,
 olt 13 10 12 7]
def r45_2 : List O := [om 16 1 0,
 om 17 5 0,
 oi 18 1 16 17 3,
 ol 19 18 7,
 oL 20 19 15,
 ⟨some 21,.bin .eql (some .int) true (.t 20) (.k (.int .i64 0)),none,31,[21,20]⟩,
 om 22 21 63,
 ⟨some 23,.mv (.t 1),some (22,false),127,[23,22,1]⟩,
 ⟨some 24,.mv (.t 5),some (22,false),127,[24,22,5]⟩,
 ⟨some 25,.iadrL 1 (.t 23) (.t 24),some (22,false),511,[25,22,23,24]⟩,
 olf 26 25 22 1023,
 ⟨some 27,.lenL (.t 26),some (22,false),2047,[27,22,26]⟩,
 ⟨some 28,.bin .gtr (some .int) true (.t 27) (.k (.int .i64 65536)),some (22,false),4095,[28,22,27]⟩,
 ⟨some 29,.pick (.t 22) (.k (.bool true)) (.t 28),none,8191,[29,22,28]⟩]
def r45_3 : List O := [om 14 5 0,
 op1 15 14 1,
 om 5 15 3]
abbrev e45_4 : C := .seq (.seq (.region r45_1) (.cond (.t 13) (.skip) (.exit 0))) (.seq (.block 1 (.seq (.region r45_2) (.cond (.t 29) (.seq (.region [⟨some 4,.mv (.k (.int .i64 50)),none,0,[4]⟩]) (.ret)) (.skip)))) (.region r45_3))
def b45_4 : C := e45_4
theorem u45_4 : XL P E ro L b45_4 K ρ h Q = X P E ro L (.c e45_4 :: .l b45_4 :: K) ρ h Q := XL_unroll b45_4
def r45_5 : List O := [om 30 1 0,
 oL 31 30 1,
 om 32 0 0,
 ⟨some 33,.nilck (.t 32),none,4,[33,32]⟩,
 oa 34 3 33 12,
 ol 35 34 28,
 ⟨some 36,.bin .sub (some .int) true (.k (.int .i64 1000000000000)) (.t 35),none,60,[36,35]⟩,
 ⟨some 37,.bin .gtr (some .int) false (.t 31) (.t 36),none,127,[37,31,36]⟩]
def c45 : C := .seq (.region [⟨some 4,.mv (.k (.int .i64 0)),none,0,[4]⟩]) (.seq (.seq (.region r45_0) (.cond (.t 9) (.seq (.region [⟨some 4,.mv (.k (.int .i64 51)),none,0,[4]⟩]) (.ret)) (.skip))) (.seq (.seq (.region [⟨some 5,.mv (.k (.int .i64 0)),none,0,[5]⟩]) (.block 0 (.loop b45_4))) (.seq (.seq (.region r45_5) (.cond (.t 37) (.seq (.region [⟨some 4,.mv (.k (.int .i64 3)),none,0,[4]⟩]) (.ret)) (.skip))) (.seq (.region [⟨some 4,.mv (.k (.int .i64 0)),none,0,[4]⟩]) (.ret)))))
def fn45 : Fn := ⟨38,[.t 4],c45⟩
def r46_0 : List O := [om 8 0 0,
 om 9 1 0,
 ⟨some 10,.bslice 9 1 [(.str [])] [(0,1,(.t 9))],none,2,[10,9]⟩,
 ⟨some 11,.call (.k (.func 72 [] [])) [(.t 8),(.t 10)],none,7,[11,8,10]⟩,
 om 7 11 15,
 ox 12 7 0 31,
 ox 13 7 1 31,
 om 5 12 63,
 om 6 13 255]
def r46_1 : List O := [om 14 6 0,
 ⟨some 15,.bin .neq (some .int) true (.t 14) (.k (.int .i64 0)),none,1,[15,14]⟩]
def r46_2 : List O := [om 16 6 0,
 om 4 16 1]
def r46_3 : List O := [om 17 0 0,
 ⟨some 18,.call (.k (.func 73 [] [])) [(.t 17)],none,1,[18,17]⟩]
def r46_4 : List O := [om 19 0 0,
 om 20 0 0,
 ⟨some 21,.nilck (.t 20),none,2,[21,20]⟩,
 oa 22 3 21 6,
 ol 23 22 14,
 ⟨some 24,.call (.k (.func 74 [] [])) [(.t 19),(.t 23)],none,31,[24,19,23]⟩]
def r46_5 : List O := [om 25 0 0,
 ⟨some 26,.nilck (.t 25),none,1,[26,25]⟩,
 oa 27 1 26 3,
 ol 28 27 7,
 om 29 5 0,
 om 30 0 0,
 ⟨some 31,.nilck (.t 30),none,32,[31,30]⟩,
 oa 32 1 31 96,
 ol 33 32 224,
 om 34 5 0,
 oi 35 3 33 34 992,
 oa 36 1 35 2016,
 ol 37 36 4064,
 oL 38 37 8160,
 oi 39 3 28 29 16383,
 oa 40 2 39 32767,
 ost 1 40 38 65535]
theorem d46_5 (hx : XDO P E ro L r46_5 K ρ h Q) : XD P E ro L r46_5 K ρ h Q := XD_ord rfl hx
def c46 : C := .seq (.region [⟨some 4,.mv (.k (.int .i64 0)),none,0,[4]⟩]) (.seq (.region r46_0) (.seq (.seq (.region r46_1) (.cond (.t 15) (.seq (.region r46_2) (.ret)) (.skip))) (.seq (.seq (.region r46_3) (.cond (.t 18) (.seq (.region r46_4) (.seq (.region [⟨some 4,.mv (.k (.int .i64 7)),none,0,[4]⟩]) (.ret))) (.skip))) (.seq (.draw r46_5) (.seq (.region [⟨some 4,.mv (.k (.int .i64 0)),none,0,[4]⟩]) (.ret))))))
def fn46 : Fn := ⟨41,[.t 4],c46⟩
def r47_0 : List O := [om 6 0 0,
 ⟨some 7,.call (.k (.func 75 [] [])) [(.t 6)],none,1,[7,6]⟩,
 ono 8 7 3,
 om 9 8 7,
 ⟨some 10,.mv (.t 1),some (9,false),15,[10,9,1]⟩,
 ⟨some 11,.bin .lss (some .int) true (.t 10) (.k (.int .i64 0)),some (9,false),31,[11,9,10]⟩,
 ⟨some 12,.pick (.t 9) (.k (.bool true)) (.t 11),none,63,[12,9,11]⟩,
 om 13 12 127,
 ⟨some 14,.mv (.t 1),some (13,false),255,[14,13,1]⟩,
 ⟨some 15,.bin .gtr (some .int) true (.t 14) (.k (.int .i64 999999999999)),some (13,false),511,[15,13,14]⟩,
 ⟨some 16,.pick (.t 13) (.k (.bool true)) (.t 15),none,1023,[16,13,15]⟩]
def r47_1 : List O := [om 17 1 0,
 ⟨some 18,.call (.k (.func 57 [] [])) [(.t 17),(.k (.int .i64 10))],none,1,[18,17]⟩,
 om 5 18 3]
def r47_2 : List O := [om 19 5 0,
 ⟨some 20,.lenS (.t 19),none,1,[20,19]⟩,
 ⟨some 21,.bin .lss (some .int) true (.t 20) (.k (.int .i64 12)),none,3,[21,20]⟩]
def r47_3 : List O := [om 22 5 0,
 ⟨some 23,.bin .add (some .str) true (.k (.str [48])) (.t 22),none,1,[23,22]⟩,
 om 5 23 3]
abbrev e47_4 : C := .seq (.seq (.region r47_2) (.cond (.t 21) (.skip) (.exit 0))) (.block 1 (.region r47_3))
def b47_4 : C := e47_4
theorem u47_4 : XL P E ro L b47_4 K ρ h Q = X P E ro L (.c e47_4 :: .l b47_4 :: K) ρ h Q := XL_unroll b47_4
def r47_5 : List O := [om 24 0 0,
 ⟨some 25,.bin .add (some .str) true (.t 24) (.k (.str [46])),none,1,[25,24]⟩,
 om 26 5 0,
 ⟨some 27,.bin .add (some .str) false (.t 25) (.t 26),none,7,[27,25,26]⟩,
 om 4 27 15]
def c47 : C := .seq (.region [⟨some 4,.mv (.k (.str [])),none,0,[4]⟩]) (.seq (.seq (.region r47_0) (.cond (.t 16) (.seq (.region [⟨some 4,.mv (.k (.str [])),none,0,[4]⟩]) (.ret)) (.skip))) (.seq (.region r47_1) (.seq (.block 0 (.loop b47_4)) (.seq (.region r47_5) (.ret)))))
def fn47 : Fn := ⟨28,[.t 4],c47⟩
def r48_0 : List O := [⟨some 2,.mv (.k (.slice none 0 0 false)),none,0,[2]⟩,
 ⟨some 3,.mv (.k (.int .i64 0)),none,1,[3]⟩]
def r48_1 : List O := [om 5 0 0,
 oL 6 5 1,
 ⟨some 7,.bin .gtr (some .int) true (.t 6) (.k (.int .i64 1048576)),none,3,[7,6]⟩]
def r48_2 : List O := [⟨some 2,.mv (.k (.slice none 0 0 false)),none,0,[2]⟩,
 ⟨some 3,.mv (.k (.int .i64 3)),none,1,[3]⟩]
def r48_3 : List O := [om 8 0 0,
 ⟨some 9,.call (.k (.func 76 [] [])) [(.t 8)],none,1,[9,8]⟩,
 om 4 9 3]
def r48_4 : List O := [om 10 0 0,
 ⟨some 11,.call (.k (.func 77 [] [])) [(.t 10)],none,1,[11,10]⟩,
 om 12 4 0,
 ⟨some 13,.cvt .u8 (.t 12),none,4,[13,12]⟩,
 om 14 4 0,
 ⟨some 15,.bin .shr (some .int) true (.t 14) (.k (.int .u64 8)),none,16,[15,14]⟩,
 ⟨some 16,.cvt .u8 (.t 15),none,48,[16,15]⟩,
 om 17 4 0,
 ⟨some 18,.bin .shr (some .int) true (.t 17) (.k (.int .u64 16)),none,128,[18,17]⟩,
 ⟨some 19,.cvt .u8 (.t 18),none,384,[19,18]⟩,
 om 20 4 0,
 ⟨some 21,.bin .shr (some .int) true (.t 20) (.k (.int .u64 24)),none,1024,[21,20]⟩,
 ⟨some 22,.cvt .u8 (.t 21),none,3072,[22,21]⟩,
 ⟨some 23,.bslice 5 4 [(.int .u8 0),(.int .u8 0),(.int .u8 0),(.int .u8 0)] [(0,1,(.t 13)),(1,1,(.t 16)),(2,1,(.t 19)),(3,1,(.t 22))],none,8188,[23,13,16,19,22]⟩,
 ⟨some 24,.app 5 1 1 (.t 11) (.t 23),none,16383,[24,11,23]⟩,
 om 2 24 32767,
 ⟨some 3,.mv (.k (.int .i64 0)),none,65535,[3]⟩]
def c48 : C := .seq (.region r48_0) (.seq (.seq (.region r48_1) (.cond (.t 7) (.seq (.region r48_2) (.ret)) (.skip))) (.seq (.region r48_3) (.seq (.region r48_4) (.ret))))
def fn48 : Fn := ⟨25,[.t 2,.t 3],c48⟩
def r49_0 : List O := [om 11 0 0,
 om 12 1 0,
 ⟨some 13,.bslice 9 1 [(.str [])] [(0,1,(.t 12))],none,2,[13,12]⟩,
 ⟨some 14,.call (.k (.func 78 [] [])) [(.t 11),(.t 13)],none,7,[14,11,13]⟩,
 om 7 14 15]
def r49_1 : List O := [om 15 7 0,
 ⟨some 16,.bin .neq (some .int) true (.t 15) (.k (.int .i64 0)),none,1,[16,15]⟩]
def r49_2 : List O := [om 17 7 0,
 om 6 17 1]
def r49_3 : List O := [om 19 0 0,
 om 20 1 0,
 ⟨some 21,.call (.k (.func 79 [] [])) [(.t 19),(.t 20)],none,3,[21,19,20]⟩,
 om 18 21 7,
 ox 22 18 0 15,
 ox 23 18 1 15,
 om 8 22 31,
 om 9 23 127]
def r49_4 : List O := [om 24 9 0,
 ono 25 24 1,
 om 26 25 3,
 og 27 0 26 7,
 ⟨some 28,.nilck (.t 27),some (26,true),15,[28,26,27]⟩,
 oag 29 1 28 26 31,
 olg 30 29 26 63,
 ⟨some 31,.lenL (.t 30),some (26,true),127,[31,26,30]⟩,
 ⟨some 32,.bin .geq (some .int) true (.t 31) (.k (.int .i64 1024)),some (26,true),255,[32,26,31]⟩,
 oe 33 32 26 511]
def r49_5 : List O := [om 34 2 0,
 oL 35 34 1,
 om 36 0 0,
 ⟨some 37,.nilck (.t 36),none,4,[37,36]⟩,
 oa 38 0 37 12,
 ol 39 38 28,
 om 40 0 0,
 ⟨some 41,.call (.k (.func 80 [] [])) [(.t 40)],none,64,[41,40]⟩,
 ⟨some 42,.bin .sub (some .int) false (.t 39) (.t 41),none,252,[42,39,41]⟩,
 ⟨some 43,.bin .gtr (some .int) false (.t 35) (.t 42),none,511,[43,35,42]⟩]
theorem d49_5 (hx : XDQ P E ro L K Q h [true,true,true,true,true,true,true,true,true,true] r49_5 ρ h) : XD P E ro L r49_5 K ρ h Q := XD_quiet rfl rfl hx
def r49_6 : List O := [om 44 0 0,
 ⟨some 45,.call (.k (.func 73 [] [])) [(.t 44)],none,1,[45,44]⟩,
 om 10 45 3]
def r49_7 : List O := [om 46 0 0,
 om 47 1 0,
 om 48 2 0,
 ⟨some 49,.call (.k (.func 81 [] [])) [(.t 46),(.t 47),(.t 48)],none,7,[49,46,47,48]⟩]
def r49_8 : List O := [om 51 0 0,
 om 52 0 0,
 ⟨some 53,.nilck (.t 52),none,2,[53,52]⟩,
 oa 54 3 53 6,
 ol 55 54 14,
 ⟨some 56,.call (.k (.func 74 [] [])) [(.t 51),(.t 55)],none,31,[56,51,55]⟩]
def c49 : C := .seq (.region [⟨some 6,.mv (.k (.int .i64 0)),none,0,[6]⟩]) (.seq (.seq (.region r49_0) (.seq (.region r49_1) (.cond (.t 16) (.seq (.region r49_2) (.ret)) (.skip)))) (.seq (.seq (.region r49_3) (.seq (.region r49_4) (.cond (.t 33) (.seq (.region [⟨some 6,.mv (.k (.int .i64 3)),none,0,[6]⟩]) (.ret)) (.skip)))) (.seq (.seq (.draw r49_5) (.cond (.t 43) (.seq (.region [⟨some 6,.mv (.k (.int .i64 6)),none,0,[6]⟩]) (.ret)) (.skip))) (.seq (.region r49_6) (.seq (.region r49_7) (.seq (.seq (.region [om 50 10 0]) (.cond (.t 50) (.seq (.region r49_8) (.seq (.region [⟨some 6,.mv (.k (.int .i64 7)),none,0,[6]⟩]) (.ret))) (.skip))) (.seq (.region [⟨some 6,.mv (.k (.int .i64 0)),none,0,[6]⟩]) (.ret))))))))
def fn49 : Fn := ⟨57,[.t 6],c49⟩
def r50_0 : List O := [om 12 0 0,
 ⟨some 13,.nilck (.t 12),none,1,[13,12]⟩,
 oa 14 0 13 3,
 ol 15 14 7,
 ⟨some 16,.call (.k (.func 59 [] [])) [(.t 15)],none,15,[16,15]⟩]
def a50_1 : C := .region [om 4 17 0]
def r50_2 : List O := [ol 18 3 0,
 om 19 4 0,
 ⟨some 20,.bslice 9 1 [(.str [])] [(0,1,(.t 19))],none,2,[20,19]⟩,
 ⟨some 21,.app 9 1 16 (.t 18) (.t 20),none,7,[21,18,20]⟩,
 ost 1 3 21 15]
def b50_3 : C := .block 1 (.region r50_2)
def r50_4 : List O := [om 22 0 0,
 ⟨some 23,.nilck (.t 22),none,1,[23,22]⟩,
 oa 24 2 23 3,
 ol 25 24 7,
 ⟨some 26,.call (.k (.func 82 [] [])) [(.t 25)],none,15,[26,25]⟩,
 om 5 26 31]
def r50_5 : List O := [ol 27 3 0,
 oL 28 27 1,
 om 29 5 0,
 oL 30 29 4,
 ⟨some 31,.bin .neq (some .int) false (.t 28) (.t 30),none,15,[31,28,30]⟩,
 om 32 31 31,
 ⟨some 33,.mv (.t 0),some (32,false),63,[33,32,0]⟩,
 ⟨some 34,.nilck (.t 33),some (32,false),127,[34,32,33]⟩,
 oaf 35 0 34 32 255,
 olf 36 35 32 511,
 ⟨some 37,.call (.k (.func 25 [] [])) [(.t 36)],some (32,false),1023,[37,32,36]⟩,
 ⟨some 38,.mv (.t 0),some (32,false),63,[38,32,0]⟩,
 ⟨some 39,.nilck (.t 38),some (32,false),2111,[39,32,38]⟩,
 oaf 40 2 39 32 6207,
 olf 41 40 32 14399,
 ⟨some 42,.call (.k (.func 83 [] [])) [(.t 41)],some (32,false),32767,[42,32,41]⟩,
 ⟨some 43,.bin .neq (some .bool) false (.t 37) (.t 42),some (32,false),65535,[43,32,37,42]⟩,
 ⟨some 44,.pick (.t 32) (.k (.bool true)) (.t 43),none,131071,[44,32,43]⟩]
theorem d50_5 (hx : XDQ P E ro L K Q h [true,true,true,true,true,true,true,true,true,true,true,false,false,false,false,true,true,true] r50_5 ρ h) : XD P E ro L r50_5 K ρ h Q := XD_quiet rfl rfl hx
def r50_6 : List O := [ol 45 3 0,
 oL 46 45 1,
 ⟨some 47,.mv (.k (.int .i64 0)),none,0,[47]⟩]
def r50_7 : List O := [om 49 47 0,
 oi 50 1 45 47 0,
 ol 51 50 2,
 om 6 49 7,
 om 7 51 15]
def r50_8 : List O := [om 53 0 0,
 ⟨some 54,.nilck (.t 53),none,1,[54,53]⟩,
 oa 55 0 54 3,
 ol 56 55 7,
 om 57 7 0,
 ⟨some 58,.call (.k (.func 28 [] [])) [(.t 56),(.t 57)],none,31,[58,56,57]⟩,
 om 52 58 63,
 ox 59 52 0 127,
 ox 60 52 1 127,
 om 8 59 255,
 om 9 60 1023]
def r50_9 : List O := [om 62 0 0,
 ⟨some 63,.nilck (.t 62),none,1,[63,62]⟩,
 oa 64 2 63 3,
 ol 65 64 7,
 om 66 7 0,
 ⟨some 67,.call (.k (.func 84 [] [])) [(.t 65),(.t 66)],none,31,[67,65,66]⟩,
 om 61 67 63,
 ox 68 61 0 127,
 ox 69 61 1 127,
 om 10 68 255,
 om 11 69 1023]
def r50_10 : List O := [om 70 7 0,
 om 71 5 0,
 om 72 6 0,
 oi 73 1 71 72 6,
 ol 74 73 14,
 ⟨some 75,.bin .neq (some .str) false (.t 70) (.t 74),none,31,[75,70,74]⟩,
 om 76 75 63,
 ⟨some 77,.mv (.t 9),some (76,false),127,[77,76,9]⟩,
 ⟨some 78,.mv (.t 11),some (76,false),127,[78,76,11]⟩,
 ⟨some 79,.bin .neq (some .int) false (.t 77) (.t 78),some (76,false),511,[79,76,77,78]⟩,
 ⟨some 80,.pick (.t 76) (.k (.bool true)) (.t 79),none,1023,[80,76,79]⟩,
 om 81 80 2047,
 ⟨some 82,.mv (.t 8),some (81,false),4095,[82,81,8]⟩,
 ⟨some 83,.mv (.t 10),some (81,false),4095,[83,81,10]⟩,
 ⟨some 84,.call (.k (.func 22 [] [])) [(.t 82),(.t 83)],some (81,false),16383,[84,81,82,83]⟩,
 ⟨some 85,.un .not (.t 84),some (81,false),32767,[85,81,84]⟩,
 ⟨some 86,.pick (.t 81) (.k (.bool true)) (.t 85),none,65535,[86,81,85]⟩]
def r50_11 : List O := [op1 87 47 0,
 om 47 87 1]
abbrev e50_12 : C := .seq (.region [olt 48 47 46 0]) (.seq (.cond (.t 48) (.skip) (.exit 2)) (.seq (.block 3 (.seq (.region r50_7) (.seq (.region r50_8) (.seq (.region r50_9) (.seq (.region r50_10) (.cond (.t 86) (.seq (.region [⟨some 2,.mv (.k (.bool false)),none,0,[2]⟩]) (.ret)) (.skip))))))) (.region r50_11)))
def b50_12 : C := e50_12
theorem u50_12 : XL P E ro L b50_12 K ρ h Q = X P E ro L (.c e50_12 :: .l b50_12 :: K) ρ h Q := XL_unroll b50_12
def c50 : C := .seq (.region [⟨some 2,.mv (.k (.bool false)),none,0,[2]⟩]) (.seq (.region [⟨some 3,.alloc 136 [(.slice none 0 0 false)],none,0,[3]⟩]) (.seq (.seq (.region r50_0) (.block 0 (.range (.t 16) [17] a50_1 b50_3))) (.seq (.region r50_4) (.seq (.seq (.draw r50_5) (.cond (.t 44) (.seq (.region [⟨some 2,.mv (.k (.bool false)),none,0,[2]⟩]) (.ret)) (.skip))) (.seq (.seq (.region r50_6) (.block 2 (.loop b50_12))) (.seq (.region [⟨some 2,.mv (.k (.bool true)),none,0,[2]⟩]) (.ret)))))))
def fn50 : Fn := ⟨88,[.t 2],c50⟩
def r51_0 : List O := [om 3 0 0,
 ⟨some 4,.nilck (.t 3),none,1,[4,3]⟩,
 oa 5 2 4 3,
 ol 6 5 7,
 oL 7 6 15,
 ⟨some 8,.bin .eql (some .int) true (.t 7) (.k (.int .i64 0)),none,31,[8,7]⟩]
def r51_1 : List O := [om 9 0 0,
 ⟨some 10,.nilck (.t 9),none,1,[10,9]⟩,
 oa 11 3 10 3,
 ol 12 11 7,
 om 2 12 15]
def r51_2 : List O := [om 13 0 0,
 ⟨some 14,.nilck (.t 13),none,1,[14,13]⟩,
 oa 15 2 14 3,
 ol 16 15 7,
 ⟨some 17,.iadrL 4 (.t 16) (.k (.int .i64 0)),none,15,[17,16]⟩,
 oa 18 0 17 31,
 ol 19 18 63,
 om 2 19 127]
def c51 : C := .seq (.region [⟨some 2,.mv (.k (.int .i64 0)),none,0,[2]⟩]) (.seq (.seq (.region r51_0) (.cond (.t 8) (.seq (.region r51_1) (.ret)) (.skip))) (.seq (.region r51_2) (.ret)))
def fn51 : Fn := ⟨20,[.t 2],c51⟩
def r52_0 : List O := [om 3 0 0,
 ⟨some 4,.nilck (.t 3),none,1,[4,3]⟩,
 oa 5 3 4 3,
 ol 6 5 7,
 om 2 6 15]
def c52 : C := .seq (.region [⟨some 2,.mv (.k (.int .i64 0)),none,0,[2]⟩]) (.seq (.region r52_0) (.ret))
def fn52 : Fn := ⟨7,[.t 2],c52⟩
def r53_0 : List O := [om 3 0 0,
 ⟨some 4,.nilck (.t 3),none,1,[4,3]⟩,
 oa 5 2 4 3,
 ol 6 5 7,
 oL 7 6 15,
 om 2 7 31]
def c53 : C := .seq (.region [⟨some 2,.mv (.k (.int .i64 0)),none,0,[2]⟩]) (.seq (.region r53_0) (.ret))
def fn53 : Fn := ⟨8,[.t 2],c53⟩
def r54_0 : List O := [om 5 4 0,
 om 6 0 0,
 ⟨some 7,.nilck (.t 6),none,2,[7,6]⟩,
 oa 8 2 7 6,
 ol 9 8 14,
 oL 10 9 30,
 olt 11 5 10 63]
def r54_1 : List O := [om 14 3 0,
 om 15 0 0,
 ⟨some 16,.nilck (.t 15),none,2,[16,15]⟩,
 oa 17 2 16 6,
 ol 18 17 14,
 om 19 4 0,
 oi 20 4 18 19 62,
 oa 21 2 20 126,
 ol 22 21 254,
 ⟨some 23,.app 45 1 24 (.t 14) (.t 22),none,511,[23,14,22]⟩,
 om 3 23 1023]
def r54_2 : List O := [om 12 4 0,
 op1 13 12 1,
 om 4 13 3]
abbrev e54_3 : C := .seq (.seq (.region r54_0) (.cond (.t 11) (.skip) (.exit 0))) (.seq (.block 1 (.region r54_1)) (.region r54_2))
def b54_3 : C := e54_3
theorem u54_3 : XL P E ro L b54_3 K ρ h Q = X P E ro L (.c e54_3 :: .l b54_3 :: K) ρ h Q := XL_unroll b54_3
def r54_4 : List O := [om 24 3 0,
 om 2 24 1]
def c54 : C := .seq (.region [⟨some 2,.mv (.k (.slice none 0 0 false)),none,0,[2]⟩]) (.seq (.region [⟨some 3,.mv (.k (.slice none 0 0 false)),none,0,[3]⟩]) (.seq (.seq (.region [⟨some 4,.mv (.k (.int .i64 0)),none,0,[4]⟩]) (.block 0 (.loop b54_3))) (.seq (.region r54_4) (.ret))))
def fn54 : Fn := ⟨25,[.t 2],c54⟩
def r70_0 : List O := [om 3 0 0,
 ⟨some 4,.nilck (.t 3),none,1,[4,3]⟩,
 oa 5 4 4 3,
 ol 6 5 7,
 ono 7 6 15]
def r70_1 : List O := [om 8 0 0,
 ⟨some 9,.nilck (.t 8),none,1,[9,8]⟩,
 oa 10 4 9 3,
 ⟨none,.store 1 (.t 10) (.k (.bool false)),none,7,[10]⟩]
def c70 : C := .seq (.region [⟨some 2,.mv (.k (.int .i64 0)),none,0,[2]⟩]) (.seq (.seq (.region r70_0) (.cond (.t 7) (.seq (.region [⟨some 2,.mv (.k (.int .i64 1)),none,0,[2]⟩]) (.ret)) (.skip))) (.seq (.region r70_1) (.seq (.region [⟨some 2,.mv (.k (.int .i64 0)),none,0,[2]⟩]) (.ret))))
def fn70 : Fn := ⟨11,[.t 2],c70⟩
def r71_0 : List O := [⟨some 4,.mv (.k (.ptr none)),none,0,[4]⟩,
 ⟨some 5,.mv (.k (.int .i64 0)),none,1,[5]⟩]
def r71_1 : List O := [om 24 1 0,
 ⟨some 25,.call (.k (.func 75 [] [])) [(.t 24)],none,1,[25,24]⟩,
 ono 26 25 3]
def r71_2 : List O := [⟨some 4,.mv (.k (.ptr none)),none,0,[4]⟩,
 ⟨some 5,.mv (.k (.int .i64 1)),none,1,[5]⟩]
def r71_3 : List O := [om 27 0 0,
 ⟨some 28,.call (.k (.func 83 [] [])) [(.t 27)],none,1,[28,27]⟩]
def r71_4 : List O := [⟨some 4,.mv (.k (.ptr none)),none,0,[4]⟩,
 ⟨some 5,.mv (.k (.int .i64 7)),none,1,[5]⟩]
def r71_5 : List O := [om 29 0 0,
 om 30 1 0,
 ⟨some 31,.build [(.ptr none),(.str []),(.slice none 0 0 false),(.int .i64 0),(.int .i64 0),(.bool false)] [(0,1,(.t 29)),(1,1,(.t 30))],none,3,[31,29,30]⟩,
 ⟨some 32,.box 92 (.t 31),none,7,[32,31]⟩,
 om 6 32 15]
def r71_6 : List O := [om 33 0 0,
 ⟨some 34,.call (.k (.func 82 [] [])) [(.t 33)],none,1,[34,33]⟩,
 om 7 34 3]
def r71_7 : List O := [om 35 9 0,
 om 36 7 0,
 oL 37 36 2,
 olt 38 35 37 7]
def r71_8 : List O := [om 42 1 0,
 om 43 7 0,
 om 44 9 0,
 oi 45 1 43 44 6,
 ol 46 45 14,
 ⟨some 47,.call (.k (.func 109 [] [])) [(.t 42),(.t 46)],none,31,[47,42,46]⟩,
 om 41 47 63,
 ox 48 41 0 127,
 ox 49 41 1 127,
 om 10 48 255,
 om 11 49 1023]
def r71_9 : List O := [om 51 8 0,
 om 52 10 0,
 ⟨some 53,.bslice 2 1 [(.int .i64 0)] [(0,1,(.t 52))],none,2,[53,52]⟩,
 ⟨some 54,.app 2 1 8 (.t 51) (.t 53),none,7,[54,51,53]⟩,
 om 8 54 15]
def r71_10 : List O := [om 39 9 0,
 op1 40 39 1,
 om 9 40 3]
abbrev e71_11 : C := .seq (.seq (.region r71_7) (.cond (.t 38) (.skip) (.exit 0))) (.seq (.block 1 (.seq (.region r71_8) (.seq (.region [om 50 11 0]) (.cond (.t 50) (.region r71_9) (.skip))))) (.region r71_10))
def b71_11 : C := e71_11
theorem u71_11 : XL P E ro L b71_11 K ρ h Q = X P E ro L (.c e71_11 :: .l b71_11 :: K) ρ h Q := XL_unroll b71_11
def r71_12 : List O := [om 55 12 0,
 om 56 8 0,
 oL 57 56 2,
 olt 58 55 57 7]
def r71_13 : List O := [om 61 1 0,
 om 62 8 0,
 om 63 12 0,
 oi 64 1 62 63 6,
 ol 65 64 14,
 ⟨some 66,.call (.k (.func 47 [] [])) [(.t 61),(.t 65)],none,31,[66,61,65]⟩,
 om 13 66 63]
def r71_14 : List O := [om 68 0 0,
 om 69 13 0,
 ⟨some 70,.call (.k (.func 84 [] [])) [(.t 68),(.t 69)],none,3,[70,68,69]⟩,
 om 67 70 7,
 ox 71 67 0 15,
 ox 72 67 1 15,
 om 14 71 31,
 om 15 72 127]
def r71_15 : List O := [om 73 15 0,
 ⟨some 74,.bin .neq (some .int) true (.t 73) (.k (.int .i64 0)),none,1,[74,73]⟩]
def r71_16 : List O := [om 75 15 0,
 ⟨some 4,.mv (.k (.ptr none)),none,0,[4]⟩,
 om 5 75 3]
def r71_17 : List O := [om 77 14 0,
 ⟨some 78,.call (.k (.func 110 [] [])) [(.t 77)],none,1,[78,77]⟩,
 om 76 78 3,
 ox 79 76 0 7,
 ox 80 76 1 7,
 om 16 79 15,
 om 17 80 63]
def r71_18 : List O := [om 81 6 0,
 om 82 8 0,
 om 83 12 0,
 oi 84 1 82 83 6,
 ol 85 84 14,
 om 86 16 0,
 oL 87 86 32,
 ⟨some 88,.bin .add (some .int) false (.t 85) (.t 87),none,126,[88,85,87]⟩,
 ⟨some 89,.nilck (.t 81),none,255,[89,81]⟩,
 oa 90 3 89 511,
 ost 1 90 88 1023]
def r71_19 : List O := [om 91 12 0,
 om 92 8 0,
 oL 93 92 2,
 ⟨some 94,.bin .sub (some .int) true (.t 93) (.k (.int .i64 1)),none,6,[94,93]⟩,
 olt 95 91 94 15]
def r71_20 : List O := [om 96 17 0,
 om 97 14 0,
 oL 98 97 2,
 ⟨some 99,.bin .neq (some .int) false (.t 96) (.t 98),none,7,[99,96,98]⟩,
 om 100 99 15,
 ⟨some 101,.mv (.t 6),some (100,false),31,[101,100,6]⟩,
 ⟨some 102,.nilck (.t 101),some (100,false),63,[102,100,101]⟩,
 oaf 103 3 102 100 127,
 olf 104 103 100 255,
 ⟨some 105,.mv (.t 8),some (100,false),31,[105,100,8]⟩,
 ⟨some 106,.mv (.t 12),some (100,false),31,[106,100,12]⟩,
 ⟨some 107,.bin .add (some .int) true (.t 106) (.k (.int .i64 1)),some (100,false),1055,[107,100,106]⟩,
 ⟨some 108,.iadrL 1 (.t 105) (.t 107),some (100,false),3615,[108,100,105,107]⟩,
 olf 109 108 100 7711,
 ⟨some 110,.bin .neq (some .int) false (.t 104) (.t 109),some (100,false),16383,[110,100,104,109]⟩,
 ⟨some 111,.pick (.t 100) (.k (.bool true)) (.t 110),none,32767,[111,100,110]⟩]
def r71_21 : List O := [⟨some 4,.mv (.k (.ptr none)),none,0,[4]⟩,
 ⟨some 5,.mv (.k (.int .i64 51)),none,1,[5]⟩]
def r71_22 : List O := [om 112 17 0,
 om 113 14 0,
 oL 114 113 2,
 olt 115 112 114 7]
def r71_23 : List O := [om 116 0 0,
 om 117 13 0,
 om 118 14 0,
 om 119 17 0,
 ⟨some 120,.slL 1 (.t 118) none (some (.t 119)) none,none,12,[120,118,119]⟩,
 ⟨some 121,.call (.k (.func 111 [] [])) [(.t 116),(.t 117),(.t 120)],none,31,[121,116,117,120]⟩,
 om 18 121 63]
def r71_24 : List O := [om 122 18 0,
 ⟨some 123,.bin .neq (some .int) true (.t 122) (.k (.int .i64 0)),none,1,[123,122]⟩]
def r71_25 : List O := [om 124 18 0,
 ⟨some 4,.mv (.k (.ptr none)),none,0,[4]⟩,
 om 5 124 3]
def r71_26 : List O := [om 125 17 0,
 ⟨some 126,.bin .gtr (some .int) true (.t 125) (.k (.int .i64 0)),none,1,[126,125]⟩,
 om 127 126 3,
 ⟨some 128,.mv (.t 14),some (127,false),7,[128,127,14]⟩,
 ⟨some 129,.lenL (.t 128),some (127,false),15,[129,127,128]⟩,
 ⟨some 130,.bin .eql (some .int) true (.t 129) (.k (.int .i64 0)),some (127,false),31,[130,127,129]⟩,
 ⟨some 131,.pick (.t 127) (.k (.bool true)) (.t 130),none,63,[131,127,130]⟩]
def r71_27 : List O := [om 132 6 0,
 om 133 6 0,
 ⟨some 134,.nilck (.t 133),none,2,[134,133]⟩,
 oa 135 2 134 6,
 ol 136 135 14,
 om 137 8 0,
 om 138 12 0,
 oi 139 1 137 138 96,
 ol 140 139 224,
 om 141 17 0,
 om 142 16 0,
 ⟨some 143,.build [(.int .i64 0),(.int .i64 0),(.slice none 0 0 false),(.bool false)] [(0,1,(.t 140)),(1,1,(.t 141)),(2,1,(.t 142))],none,2016,[143,140,141,142]⟩,
 ⟨some 144,.bslice 94 1 [(.int .i64 0),(.int .i64 0),(.slice none 0 0 false),(.bool false)] [(0,4,(.t 143))],none,4064,[144,143]⟩,
 ⟨some 145,.app 94 4 48 (.t 136) (.t 144),none,8190,[145,136,144]⟩,
 ⟨some 146,.nilck (.t 132),none,16383,[146,132]⟩,
 oa 147 2 146 32767,
 ost 1 147 145 65535]
def r71_28 : List O := [om 59 12 0,
 op1 60 59 1,
 om 12 60 3]
abbrev e71_29 : C := .seq (.seq (.region r71_12) (.cond (.t 58) (.skip) (.exit 2))) (.seq (.block 3 (.seq (.region r71_13) (.seq (.region r71_14) (.seq (.seq (.region r71_15) (.cond (.t 74) (.seq (.region r71_16) (.ret)) (.skip))) (.seq (.region r71_17) (.seq (.region r71_18) (.seq (.seq (.region r71_19) (.cond (.t 95) (.seq (.draw r71_20) (.cond (.t 111) (.seq (.region r71_21) (.ret)) (.skip))) (.seq (.region r71_22) (.cond (.t 115) (.seq (.region r71_23) (.seq (.region r71_24) (.cond (.t 123) (.seq (.region r71_25) (.ret)) (.skip)))) (.skip))))) (.seq (.region r71_26) (.cond (.t 131) (.draw r71_27) (.skip)))))))))) (.region r71_28))
def b71_29 : C := e71_29
theorem u71_29 : XL P E ro L b71_29 K ρ h Q = X P E ro L (.c e71_29 :: .l b71_29 :: K) ρ h Q := XL_unroll b71_29
def r71_30 : List O := [om 148 19 0,
 om 149 6 0,
 ⟨some 150,.nilck (.t 149),none,2,[150,149]⟩,
 oa 151 2 150 6,
 ol 152 151 14,
 oL 153 152 30,
 olt 154 148 153 63]
def r71_31 : List O := [om 157 1 0,
 om 158 6 0,
 ⟨some 159,.nilck (.t 158),none,2,[159,158]⟩,
 oa 160 2 159 6,
 ol 161 160 14,
 om 162 19 0,
 oi 163 4 161 162 62,
 oa 164 0 163 126,
 ol 165 164 254,
 ⟨some 166,.call (.k (.func 47 [] [])) [(.t 157),(.t 165)],none,511,[166,157,165]⟩,
 om 20 166 1023]
def r71_32 : List O := [om 168 0 0,
 om 169 20 0,
 ⟨some 170,.call (.k (.func 112 [] [])) [(.t 168),(.t 169)],none,3,[170,168,169]⟩,
 om 167 170 7,
 ox 171 167 0 15,
 ox 172 167 1 15,
 ox 173 167 2 15,
 om 21 171 31,
 om 22 172 191,
 om 23 173 511]
def r71_33 : List O := [om 174 23 0,
 ⟨some 175,.bin .eql (some .int) true (.t 174) (.k (.int .i64 0)),none,1,[175,174]⟩,
 om 176 175 3,
 og 177 22 176 7,
 og 178 21 176 7,
 ⟨some 179,.bin .lss (some .int) false (.t 177) (.t 178),some (176,true),31,[179,176,177,178]⟩,
 oe 180 179 176 63]
def r71_34 : List O := [om 181 0 0,
 om 182 20 0,
 ⟨some 183,.call (.k (.func 46 [] [])) [(.t 181),(.t 182)],none,3,[183,181,182]⟩,
 om 23 183 7]
def r71_35 : List O := [om 184 23 0,
 ⟨some 185,.bin .neq (some .int) true (.t 184) (.k (.int .i64 0)),none,1,[185,184]⟩]
def r71_36 : List O := [om 186 23 0,
 ⟨some 4,.mv (.k (.ptr none)),none,0,[4]⟩,
 om 5 186 3]
def r71_37 : List O := [om 155 19 0,
 op1 156 155 1,
 om 19 156 3]
abbrev e71_38 : C := .seq (.seq (.region r71_30) (.cond (.t 154) (.skip) (.exit 4))) (.seq (.block 5 (.seq (.region r71_31) (.seq (.region r71_32) (.seq (.seq (.region r71_33) (.cond (.t 180) (.region r71_34) (.skip))) (.seq (.region r71_35) (.cond (.t 185) (.seq (.region r71_36) (.ret)) (.skip))))))) (.region r71_37))
def b71_38 : C := e71_38
theorem u71_38 : XL P E ro L b71_38 K ρ h Q = X P E ro L (.c e71_38 :: .l b71_38 :: K) ρ h Q := XL_unroll b71_38
def r71_39 : List O := [om 187 6 0,
 om 188 6 0,
 ⟨some 189,.nilck (.t 188),none,2,[189,188]⟩,
 oa 190 3 189 6,
 ol 191 190 14,
 ⟨some 192,.nilck (.t 187),none,31,[192,187]⟩,
 oa 193 4 192 63,
 ost 1 193 191 127]
def r71_40 : List O := [om 194 6 0,
 om 4 194 1,
 ⟨some 5,.mv (.k (.int .i64 0)),none,3,[5]⟩]
def c71 : C := .seq (.region r71_0) (.seq (.seq (.region r71_1) (.cond (.t 26) (.seq (.region r71_2) (.ret)) (.skip))) (.seq (.seq (.region r71_3) (.cond (.t 28) (.seq (.region r71_4) (.ret)) (.skip))) (.seq (.region r71_5) (.seq (.region r71_6) (.seq (.region [⟨some 8,.mv (.k (.slice none 0 0 false)),none,0,[8]⟩]) (.seq (.seq (.region [⟨some 9,.mv (.k (.int .i64 0)),none,0,[9]⟩]) (.block 0 (.loop b71_11))) (.seq (.seq (.region [⟨some 12,.mv (.k (.int .i64 0)),none,0,[12]⟩]) (.block 2 (.loop b71_29))) (.seq (.seq (.region [⟨some 19,.mv (.k (.int .i64 0)),none,0,[19]⟩]) (.block 4 (.loop b71_38))) (.seq (.region r71_39) (.seq (.region r71_40) (.ret)))))))))))
def fn71 : Fn := ⟨195,[.t 4,.t 5],c71⟩
def r72_0 : List O := [⟨some 4,.mv (.k (.int .i64 0)),none,0,[4]⟩,
 ⟨some 5,.mv (.k (.int .i64 0)),none,1,[5]⟩]
def r72_1 : List O := [om 9 0 0,
 om 10 1 0,
 ⟨some 11,.call (.k (.func 78 [] [])) [(.t 9),(.t 10)],none,3,[11,9,10]⟩,
 om 6 11 7]
def r72_2 : List O := [om 12 6 0,
 ⟨some 13,.bin .neq (some .int) true (.t 12) (.k (.int .i64 0)),none,1,[13,12]⟩]
def r72_3 : List O := [om 14 6 0,
 ⟨some 4,.mv (.k (.int .i64 0)),none,0,[4]⟩,
 om 5 14 3]
def r72_4 : List O := [om 16 0 0,
 om 17 1 0,
 ⟨some 18,.iadrL 1 (.t 17) (.k (.int .i64 0)),none,2,[18,17]⟩,
 ol 19 18 6,
 ⟨some 20,.call (.k (.func 79 [] [])) [(.t 16),(.t 19)],none,15,[20,16,19]⟩,
 om 15 20 31,
 ox 21 15 0 63,
 ox 22 15 1 63,
 om 7 21 127,
 om 8 22 511]
def r72_5 : List O := [om 23 8 0,
 ono 24 23 1]
def r72_6 : List O := [⟨some 4,.mv (.k (.int .i64 0)),none,0,[4]⟩,
 ⟨some 5,.mv (.k (.int .i64 4)),none,1,[5]⟩]
def r72_7 : List O := [om 25 7 0,
 om 4 25 1,
 ⟨some 5,.mv (.k (.int .i64 0)),none,3,[5]⟩]
def c72 : C := .seq (.region r72_0) (.seq (.seq (.region r72_1) (.seq (.region r72_2) (.cond (.t 13) (.seq (.region r72_3) (.ret)) (.skip)))) (.seq (.region r72_4) (.seq (.seq (.region r72_5) (.cond (.t 24) (.seq (.region r72_6) (.ret)) (.skip))) (.seq (.region r72_7) (.ret)))))
def fn72 : Fn := ⟨26,[.t 4,.t 5],c72⟩
def r73_0 : List O := [om 3 0 0,
 ⟨some 4,.nilck (.t 3),none,1,[4,3]⟩,
 oa 5 2 4 3,
 ol 6 5 7,
 ⟨some 7,.bin .eql (some .int) true (.t 6) (.k (.int .i64 0)),none,15,[7,6]⟩]
def r73_1 : List O := [om 8 0 0,
 ⟨some 9,.nilck (.t 8),none,1,[9,8]⟩,
 oa 10 2 9 3,
 ol 11 10 7,
 ⟨some 12,.bin .sub (some .int) true (.t 11) (.k (.int .i64 1)),none,15,[12,11]⟩,
 ⟨some 13,.nilck (.t 8),none,31,[13,8]⟩,
 oa 14 2 13 63,
 ost 1 14 12 127]
def r73_2 : List O := [om 15 0 0,
 ⟨some 16,.nilck (.t 15),none,1,[16,15]⟩,
 oa 17 2 16 3,
 ol 18 17 7,
 ⟨some 19,.bin .eql (some .int) true (.t 18) (.k (.int .i64 0)),none,15,[19,18]⟩,
 om 2 19 31]
def c73 : C := .seq (.region [⟨some 2,.mv (.k (.bool false)),none,0,[2]⟩]) (.seq (.seq (.region r73_0) (.cond (.t 7) (.seq (.region [⟨some 2,.mv (.k (.bool false)),none,0,[2]⟩]) (.ret)) (.skip))) (.seq (.region r73_1) (.seq (.region r73_2) (.ret))))
def fn73 : Fn := ⟨20,[.t 2],c73⟩
def r75_0 : List O := [om 4 3 0,
 om 5 0 0,
 ⟨some 6,.lenS (.t 5),none,2,[6,5]⟩,
 olt 7 4 6 7]
def r75_1 : List O := [om 10 0 0,
 om 11 3 0,
 ⟨some 12,.idxS (.t 10) (.t 11),none,3,[12,10,11]⟩,
 ⟨some 13,.bin .lss (some .int) true (.t 12) (.k (.int .u8 97)),none,7,[13,12]⟩,
 om 14 13 15,
 ⟨some 15,.mv (.t 0),some (14,false),31,[15,14,0]⟩,
 ⟨some 16,.mv (.t 3),some (14,false),31,[16,14,3]⟩,
 ⟨some 17,.idxS (.t 15) (.t 16),some (14,false),127,[17,14,15,16]⟩,
 ⟨some 18,.bin .gtr (some .int) true (.t 17) (.k (.int .u8 122)),some (14,false),255,[18,14,17]⟩,
 ⟨some 19,.pick (.t 14) (.k (.bool true)) (.t 18),none,511,[19,14,18]⟩]
def r75_2 : List O := [om 8 3 0,
 op1 9 8 1,
 om 3 9 3]
abbrev e75_3 : C := .seq (.seq (.region r75_0) (.cond (.t 7) (.skip) (.exit 0))) (.seq (.block 1 (.seq (.region r75_1) (.cond (.t 19) (.seq (.region [⟨some 2,.mv (.k (.bool false)),none,0,[2]⟩]) (.ret)) (.skip)))) (.region r75_2))
def b75_3 : C := e75_3
theorem u75_3 : XL P E ro L b75_3 K ρ h Q = X P E ro L (.c e75_3 :: .l b75_3 :: K) ρ h Q := XL_unroll b75_3
def r75_4 : List O := [om 20 0 0,
 ⟨some 21,.lenS (.t 20),none,1,[21,20]⟩,
 ⟨some 22,.bin .geq (some .int) true (.t 21) (.k (.int .i64 1)),none,3,[22,21]⟩,
 om 23 22 7,
 og 24 0 23 15,
 ⟨some 25,.lenS (.t 24),some (23,true),31,[25,23,24]⟩,
 ⟨some 26,.bin .leq (some .int) true (.t 25) (.k (.int .i64 20)),some (23,true),63,[26,23,25]⟩,
 oe 27 26 23 127,
 om 2 27 255]
def c75 : C := .seq (.region [⟨some 2,.mv (.k (.bool false)),none,0,[2]⟩]) (.seq (.seq (.region [⟨some 3,.mv (.k (.int .i64 0)),none,0,[3]⟩]) (.block 0 (.loop b75_3))) (.seq (.region r75_4) (.ret)))
def fn75 : Fn := ⟨28,[.t 2],c75⟩
def r76_0 : List O := [om 6 4 0,
 om 7 0 0,
 oL 8 7 2,
 olt 9 6 8 7]
def r76_1 : List O := [om 12 3 0,
 om 13 0 0,
 om 14 4 0,
 oi 15 1 13 14 6,
 ol 16 15 14,
 ⟨some 17,.cvt .u32 (.t 16),none,30,[17,16]⟩,
 ⟨some 18,.bin .xor (some .int) false (.t 12) (.t 17),none,63,[18,12,17]⟩,
 om 3 18 127]
def r76_2 : List O := [om 19 5 0,
 ⟨some 20,.bin .lss (some .int) true (.t 19) (.k (.int .i64 8)),none,1,[20,19]⟩]
def r76_3 : List O := [om 23 3 0,
 ⟨some 24,.bin .rem (some .int) true (.t 23) (.k (.int .u32 2)),none,1,[24,23]⟩,
 ⟨some 25,.bin .eql (some .int) true (.t 24) (.k (.int .u32 1)),none,3,[25,24]⟩]
def r76_4 : List O := [om 26 3 0,
 ⟨some 27,.bin .quo (some .int) true (.t 26) (.k (.int .u32 2)),none,1,[27,26]⟩,
 ⟨some 28,.bin .xor (some .int) true (.t 27) (.k (.int .u32 3988292384)),none,3,[28,27]⟩,
 om 3 28 7]
def r76_5 : List O := [om 29 3 0,
 ⟨some 30,.bin .quo (some .int) true (.t 29) (.k (.int .u32 2)),none,1,[30,29]⟩,
 om 3 30 3]
def r76_6 : List O := [om 21 5 0,
 op1 22 21 1,
 om 5 22 3]
abbrev e76_7 : C := .seq (.seq (.region r76_2) (.cond (.t 20) (.skip) (.exit 2))) (.seq (.block 3 (.seq (.region r76_3) (.cond (.t 25) (.region r76_4) (.region r76_5)))) (.region r76_6))
def b76_7 : C := e76_7
theorem u76_7 : XL P E ro L b76_7 K ρ h Q = X P E ro L (.c e76_7 :: .l b76_7 :: K) ρ h Q := XL_unroll b76_7
def r76_8 : List O := [om 10 4 0,
 op1 11 10 1,
 om 4 11 3]
abbrev e76_9 : C := .seq (.seq (.region r76_0) (.cond (.t 9) (.skip) (.exit 0))) (.seq (.block 1 (.seq (.region r76_1) (.seq (.region [⟨some 5,.mv (.k (.int .i64 0)),none,0,[5]⟩]) (.block 2 (.loop b76_7))))) (.region r76_8))
def b76_9 : C := e76_9
theorem u76_9 : XL P E ro L b76_9 K ρ h Q = X P E ro L (.c e76_9 :: .l b76_9 :: K) ρ h Q := XL_unroll b76_9
def r76_10 : List O := [om 31 3 0,
 ⟨some 32,.un .xor (.t 31),none,1,[32,31]⟩,
 om 2 32 3]
def c76 : C := .seq (.region [⟨some 2,.mv (.k (.int .u32 0)),none,0,[2]⟩]) (.seq (.region [⟨some 3,.mv (.k (.int .u32 4294967295)),none,0,[3]⟩]) (.seq (.seq (.region [⟨some 4,.mv (.k (.int .i64 0)),none,0,[4]⟩]) (.block 0 (.loop b76_9))) (.seq (.region r76_10) (.ret))))
def fn76 : Fn := ⟨33,[.t 2],c76⟩
def r77_0 : List O := [om 3 0 0,
 oL 4 3 1,
 ⟨some 5,.call (.k (.func 113 [] [])) [(.t 4)],none,3,[5,4]⟩,
 om 6 0 0,
 ⟨some 7,.app 5 1 1 (.t 5) (.t 6),none,15,[7,5,6]⟩,
 om 2 7 31]
def c77 : C := .seq (.region [⟨some 2,.mv (.k (.slice none 0 0 false)),none,0,[2]⟩]) (.seq (.region r77_0) (.ret))
def fn77 : Fn := ⟨8,[.t 2],c77⟩
def r78_0 : List O := [om 6 0 0,
 ⟨some 7,.nilck (.t 6),none,1,[7,6]⟩,
 oa 8 4 7 3,
 ol 9 8 7]
def r78_1 : List O := [om 10 5 0,
 om 11 1 0,
 oL 12 11 2,
 olt 13 10 12 7]
def r78_2 : List O := [om 16 1 0,
 om 17 5 0,
 oi 18 1 16 17 3,
 ol 19 18 7,
 ⟨some 20,.bin .eql (some .str) true (.t 19) (.k (.str [])),none,15,[20,19]⟩,
 om 21 20 31,
 ⟨some 22,.mv (.t 1),some (21,false),63,[22,21,1]⟩,
 ⟨some 23,.mv (.t 5),some (21,false),63,[23,21,5]⟩,
 ⟨some 24,.iadrL 1 (.t 22) (.t 23),some (21,false),255,[24,21,22,23]⟩,
 olf 25 24 21 511,
 ⟨some 26,.lenS (.t 25),some (21,false),1023,[26,21,25]⟩,
 ⟨some 27,.bin .gtr (some .int) true (.t 26) (.k (.int .i64 64)),some (21,false),2047,[27,21,26]⟩,
 ⟨some 28,.pick (.t 21) (.k (.bool true)) (.t 27),none,4095,[28,21,27]⟩]
def r78_3 : List O := [om 14 5 0,
 op1 15 14 1,
 om 5 15 3]
abbrev e78_4 : C := .seq (.seq (.region r78_1) (.cond (.t 13) (.skip) (.exit 0))) (.seq (.block 1 (.seq (.region r78_2) (.cond (.t 28) (.seq (.region [⟨some 4,.mv (.k (.int .i64 20)),none,0,[4]⟩]) (.ret)) (.skip)))) (.region r78_3))
def b78_4 : C := e78_4
theorem u78_4 : XL P E ro L b78_4 K ρ h Q = X P E ro L (.c e78_4 :: .l b78_4 :: K) ρ h Q := XL_unroll b78_4
def c78 : C := .seq (.region [⟨some 4,.mv (.k (.int .i64 0)),none,0,[4]⟩]) (.seq (.seq (.region r78_0) (.cond (.t 9) (.seq (.region [⟨some 4,.mv (.k (.int .i64 7)),none,0,[4]⟩]) (.ret)) (.skip))) (.seq (.seq (.region [⟨some 5,.mv (.k (.int .i64 0)),none,0,[5]⟩]) (.block 0 (.loop b78_4))) (.seq (.region [⟨some 4,.mv (.k (.int .i64 0)),none,0,[4]⟩]) (.ret))))
def fn78 : Fn := ⟨29,[.t 4],c78⟩
def r79_0 : List O := [⟨some 4,.mv (.k (.int .i64 0)),none,0,[4]⟩,
 ⟨some 5,.mv (.k (.bool false)),none,1,[5]⟩]
def r79_1 : List O := [om 7 6 0,
 om 8 0 0,
 ⟨some 9,.nilck (.t 8),none,2,[9,8]⟩,
 oa 10 1 9 6,
 ol 11 10 14,
 oL 12 11 30,
 olt 13 7 12 63,
 om 14 13 127,
 og 15 0 14 255,
 ⟨some 16,.nilck (.t 15),some (14,true),511,[16,14,15]⟩,
 oag 17 1 16 14 1023,
 olg 18 17 14 2047,
 og 19 6 14 255,
 oig 20 3 18 19 14 8191,
 oag 21 0 20 14 16383,
 olg 22 21 14 32767,
 og 23 1 14 255,
 ⟨some 24,.bin .lss (some .str) false (.t 22) (.t 23),some (14,true),131071,[24,14,22,23]⟩,
 oe 25 24 14 262143]
def r79_2 : List O := [om 26 6 0,
 op1 27 26 1,
 om 6 27 3]
abbrev e79_3 : C := .seq (.seq (.region r79_1) (.cond (.t 25) (.skip) (.exit 0))) (.block 1 (.region r79_2))
def b79_3 : C := e79_3
theorem u79_3 : XL P E ro L b79_3 K ρ h Q = X P E ro L (.c e79_3 :: .l b79_3 :: K) ρ h Q := XL_unroll b79_3
def r79_4 : List O := [om 28 6 0,
 om 29 6 0,
 om 30 0 0,
 ⟨some 31,.nilck (.t 30),none,4,[31,30]⟩,
 oa 32 1 31 12,
 ol 33 32 28,
 oL 34 33 60,
 olt 35 29 34 126,
 om 36 35 254,
 og 37 0 36 510,
 ⟨some 38,.nilck (.t 37),some (36,true),1022,[38,36,37]⟩,
 oag 39 1 38 36 2046,
 olg 40 39 36 4094,
 og 41 6 36 510,
 oig 42 3 40 41 36 16382,
 oag 43 0 42 36 32766,
 olg 44 43 36 65534,
 og 45 1 36 510,
 ⟨some 46,.bin .eql (some .str) false (.t 44) (.t 45),some (36,true),262142,[46,36,44,45]⟩,
 oe 47 46 36 524286,
 om 4 28 511,
 om 5 47 2097151]
theorem d79_4 : XD P E ro L r79_4 K ρ h Q = XO P E ro L r79_4 K ρ h Q := XD_still rfl
def c79 : C := .seq (.region r79_0) (.seq (.region [⟨some 6,.mv (.k (.int .i64 0)),none,0,[6]⟩]) (.seq (.block 0 (.loop b79_3)) (.seq (.draw r79_4) (.ret))))
def fn79 : Fn := ⟨48,[.t 4,.t 5],c79⟩
def r80_0 : List O := [om 5 4 0,
 om 6 0 0,
 ⟨some 7,.nilck (.t 6),none,2,[7,6]⟩,
 oa 8 1 7 6,
 ol 9 8 14,
 oL 10 9 30,
 olt 11 5 10 63]
def r80_1 : List O := [om 14 3 0,
 om 15 0 0,
 ⟨some 16,.nilck (.t 15),none,2,[16,15]⟩,
 oa 17 1 16 6,
 ol 18 17 14,
 om 19 4 0,
 oi 20 3 18 19 62,
 oa 21 1 20 126,
 ol 22 21 254,
 oL 23 22 510,
 ⟨some 24,.bin .add (some .int) false (.t 14) (.t 23),none,1023,[24,14,23]⟩,
 om 3 24 2047]
def r80_2 : List O := [om 12 4 0,
 op1 13 12 1,
 om 4 13 3]
abbrev e80_3 : C := .seq (.seq (.region r80_0) (.cond (.t 11) (.skip) (.exit 0))) (.seq (.block 1 (.region r80_1)) (.region r80_2))
def b80_3 : C := e80_3
theorem u80_3 : XL P E ro L b80_3 K ρ h Q = X P E ro L (.c e80_3 :: .l b80_3 :: K) ρ h Q := XL_unroll b80_3
def r80_4 : List O := [om 25 3 0,
 om 2 25 1]
def c80 : C := .seq (.region [⟨some 2,.mv (.k (.int .i64 0)),none,0,[2]⟩]) (.seq (.region [⟨some 3,.mv (.k (.int .i64 0)),none,0,[3]⟩]) (.seq (.seq (.region [⟨some 4,.mv (.k (.int .i64 0)),none,0,[4]⟩]) (.block 0 (.loop b80_3))) (.seq (.region r80_4) (.ret))))
def fn80 : Fn := ⟨26,[.t 2],c80⟩
def r81_0 : List O := [om 10 0 0,
 om 11 1 0,
 ⟨some 12,.call (.k (.func 79 [] [])) [(.t 10),(.t 11)],none,3,[12,10,11]⟩,
 om 9 12 7,
 ox 13 9 0 15,
 ox 14 9 1 15,
 om 6 13 31,
 om 7 14 127]
def r81_1 : List O := [om 15 7 0,
 ono 16 15 1]
def r81_2 : List O := [om 17 0 0,
 ⟨some 18,.nilck (.t 17),none,1,[18,17]⟩,
 oa 19 1 18 3,
 ol 20 19 7,
 om 21 6 0,
 ⟨some 22,.slL 3 (.t 20) none (some (.t 21)) none,none,31,[22,20,21]⟩,
 ⟨some 23,.app 129 3 48 (.k (.slice none 0 0 false)) (.t 22),none,63,[23,22]⟩,
 om 8 23 127]
def r81_3 : List O := [om 24 8 0,
 om 25 1 0,
 ⟨some 26,.build [(.str []),(.slice none 0 0 false),(.int .i64 0)] [(0,1,(.t 25))],none,2,[26,25]⟩,
 ⟨some 27,.bslice 129 1 [(.str []),(.slice none 0 0 false),(.int .i64 0)] [(0,3,(.t 26))],none,6,[27,26]⟩,
 ⟨some 28,.app 129 3 48 (.t 24) (.t 27),none,15,[28,24,27]⟩,
 om 8 28 31]
def r81_4 : List O := [om 29 0 0,
 om 30 8 0,
 om 31 0 0,
 ⟨some 32,.nilck (.t 31),none,4,[32,31]⟩,
 oa 33 1 32 12,
 ol 34 33 28,
 om 35 6 0,
 ⟨some 36,.slL 3 (.t 34) (some (.t 35)) none none,none,124,[36,34,35]⟩,
 ⟨some 37,.app 129 3 48 (.t 30) (.t 36),none,254,[37,30,36]⟩,
 ⟨some 38,.nilck (.t 29),none,511,[38,29]⟩,
 oa 39 1 38 1023,
 ost 1 39 37 2047]
def r81_5 : List O := [om 40 0 0,
 ⟨some 41,.nilck (.t 40),none,1,[41,40]⟩,
 oa 42 1 41 3,
 ol 43 42 7,
 om 44 6 0,
 om 45 0 0,
 ⟨some 46,.nilck (.t 45),none,32,[46,45]⟩,
 oa 47 1 46 96,
 ol 48 47 224,
 om 49 6 0,
 oi 50 3 48 49 992,
 oa 51 1 50 2016,
 ol 52 51 4064,
 ⟨some 53,.app 5 1 1 (.k (.slice none 0 0 false)) (.t 52),none,8160,[53,52]⟩,
 om 54 2 0,
 ⟨some 55,.app 5 1 1 (.t 53) (.t 54),none,32736,[55,53,54]⟩,
 oi 56 3 43 44 65535,
 oa 57 1 56 131071,
 ost 1 57 55 262143]
def c81 : C := .seq (.region r81_0) (.seq (.seq (.region r81_1) (.cond (.t 16) (.seq (.region r81_2) (.seq (.region r81_3) (.region r81_4))) (.skip))) (.draw r81_5))
def fn81 : Fn := ⟨58,[],c81⟩
def r82_0 : List O := [om 5 4 0,
 om 6 0 0,
 ⟨some 7,.nilck (.t 6),none,2,[7,6]⟩,
 oa 8 1 7 6,
 ol 9 8 14,
 oL 10 9 30,
 olt 11 5 10 63]
def r82_1 : List O := [om 14 3 0,
 om 15 0 0,
 ⟨some 16,.nilck (.t 15),none,2,[16,15]⟩,
 oa 17 1 16 6,
 ol 18 17 14,
 om 19 4 0,
 oi 20 3 18 19 62,
 oa 21 0 20 126,
 ol 22 21 254,
 ⟨some 23,.bslice 9 1 [(.str [])] [(0,1,(.t 22))],none,510,[23,22]⟩,
 ⟨some 24,.app 9 1 16 (.t 14) (.t 23),none,1023,[24,14,23]⟩,
 om 3 24 2047]
def r82_2 : List O := [om 12 4 0,
 op1 13 12 1,
 om 4 13 3]
abbrev e82_3 : C := .seq (.seq (.region r82_0) (.cond (.t 11) (.skip) (.exit 0))) (.seq (.block 1 (.region r82_1)) (.region r82_2))
def b82_3 : C := e82_3
theorem u82_3 : XL P E ro L b82_3 K ρ h Q = X P E ro L (.c e82_3 :: .l b82_3 :: K) ρ h Q := XL_unroll b82_3
def r82_4 : List O := [om 25 3 0,
 om 2 25 1]
def c82 : C := .seq (.region [⟨some 2,.mv (.k (.slice none 0 0 false)),none,0,[2]⟩]) (.seq (.region [⟨some 3,.mv (.k (.slice none 0 0 false)),none,0,[3]⟩]) (.seq (.seq (.region [⟨some 4,.mv (.k (.int .i64 0)),none,0,[4]⟩]) (.block 0 (.loop b82_3))) (.seq (.region r82_4) (.ret))))
def fn82 : Fn := ⟨26,[.t 2],c82⟩
def r83_0 : List O := [om 3 0 0,
 ⟨some 4,.nilck (.t 3),none,1,[4,3]⟩,
 oa 5 4 4 3,
 ol 6 5 7,
 om 2 6 15]
def c83 : C := .seq (.region [⟨some 2,.mv (.k (.bool false)),none,0,[2]⟩]) (.seq (.region r83_0) (.ret))
def fn83 : Fn := ⟨7,[.t 2],c83⟩
def r84_0 : List O := [⟨some 4,.mv (.k (.slice none 0 0 false)),none,0,[4]⟩,
 ⟨some 5,.mv (.k (.int .i64 0)),none,1,[5]⟩]
def r84_1 : List O := [om 9 0 0,
 om 10 1 0,
 ⟨some 11,.bslice 9 1 [(.str [])] [(0,1,(.t 10))],none,2,[11,10]⟩,
 ⟨some 12,.call (.k (.func 72 [] [])) [(.t 9),(.t 11)],none,7,[12,9,11]⟩,
 om 8 12 15,
 ox 13 8 0 31,
 ox 14 8 1 31,
 om 6 13 63,
 om 7 14 255]
def r84_2 : List O := [om 15 7 0,
 ⟨some 16,.bin .neq (some .int) true (.t 15) (.k (.int .i64 0)),none,1,[16,15]⟩]
def r84_3 : List O := [om 17 7 0,
 ⟨some 4,.mv (.k (.slice none 0 0 false)),none,0,[4]⟩,
 om 5 17 3]
def r84_4 : List O := [om 18 0 0,
 ⟨some 19,.nilck (.t 18),none,1,[19,18]⟩,
 oa 20 1 19 3,
 ol 21 20 7,
 om 22 6 0,
 oi 23 3 21 22 31,
 oa 24 1 23 63,
 ol 25 24 127,
 ⟨some 26,.app 5 1 1 (.k (.slice none 0 0 false)) (.t 25),none,255,[26,25]⟩,
 om 4 26 511,
 ⟨some 5,.mv (.k (.int .i64 0)),none,1023,[5]⟩]
def c84 : C := .seq (.region r84_0) (.seq (.region r84_1) (.seq (.seq (.region r84_2) (.cond (.t 16) (.seq (.region r84_3) (.ret)) (.skip))) (.seq (.region r84_4) (.ret))))
def fn84 : Fn := ⟨27,[.t 4,.t 5],c84⟩
def r113_0 : List O := [om 5 0 0,
 ⟨some 6,.cvt .u64 (.t 5),none,1,[6,5]⟩,
 ⟨some 7,.bin .mul (some .int) true (.t 6) (.k (.int .u64 2)),none,3,[7,6]⟩,
 om 3 7 7]
def r113_1 : List O := [om 8 0 0,
 ⟨some 9,.bin .lss (some .int) true (.t 8) (.k (.int .i64 0)),none,1,[9,8]⟩]
def r113_2 : List O := [om 10 0 0,
 op1 11 10 1,
 ⟨some 12,.un .neg (.t 11),none,3,[12,11]⟩,
 ⟨some 13,.cvt .u64 (.t 12),none,7,[13,12]⟩,
 ⟨some 14,.bin .mul (some .int) true (.t 13) (.k (.int .u64 2)),none,15,[14,13]⟩,
 ⟨some 15,.bin .add (some .int) true (.t 14) (.k (.int .u64 1)),none,31,[15,14]⟩,
 om 3 15 63]
def r113_3 : List O := [om 16 3 0,
 ⟨some 17,.bin .geq (some .int) true (.t 16) (.k (.int .u64 128)),none,1,[17,16]⟩]
def r113_4 : List O := [om 18 4 0,
 om 19 3 0,
 ⟨some 20,.bin .rem (some .int) true (.t 19) (.k (.int .u64 128)),none,2,[20,19]⟩,
 ⟨some 21,.cvt .u8 (.t 20),none,6,[21,20]⟩,
 ⟨some 22,.bin .add (some .int) true (.t 21) (.k (.int .u8 128)),none,14,[22,21]⟩,
 ⟨some 23,.bslice 5 1 [(.int .u8 0)] [(0,1,(.t 22))],none,30,[23,22]⟩,
 ⟨some 24,.app 5 1 1 (.t 18) (.t 23),none,63,[24,18,23]⟩,
 om 4 24 127]
def r113_5 : List O := [om 25 3 0,
 ⟨some 26,.bin .quo (some .int) true (.t 25) (.k (.int .u64 128)),none,1,[26,25]⟩,
 om 3 26 3]
abbrev e113_6 : C := .seq (.seq (.region r113_3) (.cond (.t 17) (.skip) (.exit 0))) (.block 1 (.seq (.region r113_4) (.region r113_5)))
def b113_6 : C := e113_6
theorem u113_6 : XL P E ro L b113_6 K ρ h Q = X P E ro L (.c e113_6 :: .l b113_6 :: K) ρ h Q := XL_unroll b113_6
def r113_7 : List O := [om 27 4 0,
 om 28 3 0,
 ⟨some 29,.cvt .u8 (.t 28),none,2,[29,28]⟩,
 ⟨some 30,.bslice 5 1 [(.int .u8 0)] [(0,1,(.t 29))],none,6,[30,29]⟩,
 ⟨some 31,.app 5 1 1 (.t 27) (.t 30),none,15,[31,27,30]⟩,
 om 2 31 31]
def c113 : C := .seq (.region [⟨some 2,.mv (.k (.slice none 0 0 false)),none,0,[2]⟩]) (.seq (.region r113_0) (.seq (.seq (.region r113_1) (.cond (.t 9) (.region r113_2) (.skip))) (.seq (.region [⟨some 4,.mv (.k (.slice none 0 0 false)),none,0,[4]⟩]) (.seq (.block 0 (.loop b113_6)) (.seq (.region r113_7) (.ret))))))
def fn113 : Fn := ⟨32,[.t 2],c113⟩
end Go.AM.We
namespace Go.AM.Wc
open Go.AM Go.AM.Wd Go.AM.We
variable {P : Program} {E : Env} {T : H → Prop}
structure Fd (P : Program) (E : Env) : Prop where
 f4 : E.fns 4 = some fn4
 p4 : E.prim 4 = none
 f15 : E.fns 15 = some fn15
 p15 : E.prim 15 = none
 f16 : E.fns 16 = some fn16
 p16 : E.prim 16 = none
 f17 : E.fns 17 = some fn17
 p17 : E.prim 17 = none
 f22 : E.fns 22 = some fn22
 p22 : E.prim 22 = none
 f43 : E.fns 43 = some fn43
 p43 : E.prim 43 = none
 f44 : E.fns 44 = some fn44
 p44 : E.prim 44 = none
 f45 : E.fns 45 = some fn45
 p45 : E.prim 45 = none
 f46 : E.fns 46 = some fn46
 p46 : E.prim 46 = none
 f47 : E.fns 47 = some fn47
 p47 : E.prim 47 = none
 f48 : E.fns 48 = some fn48
 p48 : E.prim 48 = none
 f49 : E.fns 49 = some fn49
 p49 : E.prim 49 = none
 f50 : E.fns 50 = some fn50
 p50 : E.prim 50 = none
 f51 : E.fns 51 = some fn51
 p51 : E.prim 51 = none
 f52 : E.fns 52 = some fn52
 p52 : E.prim 52 = none
 f53 : E.fns 53 = some fn53
 p53 : E.prim 53 = none
 f54 : E.fns 54 = some fn54
 p54 : E.prim 54 = none
 f70 : E.fns 70 = some fn70
 p70 : E.prim 70 = none
 f71 : E.fns 71 = some fn71
 p71 : E.prim 71 = none
 f72 : E.fns 72 = some fn72
 p72 : E.prim 72 = none
 f73 : E.fns 73 = some fn73
 p73 : E.prim 73 = none
 f75 : E.fns 75 = some fn75
 p75 : E.prim 75 = none
 f76 : E.fns 76 = some fn76
 p76 : E.prim 76 = none
 f77 : E.fns 77 = some fn77
 p77 : E.prim 77 = none
 f78 : E.fns 78 = some fn78
 p78 : E.prim 78 = none
 f79 : E.fns 79 = some fn79
 p79 : E.prim 79 = none
 f80 : E.fns 80 = some fn80
 p80 : E.prim 80 = none
 f81 : E.fns 81 = some fn81
 p81 : E.prim 81 = none
 f82 : E.fns 82 = some fn82
 p82 : E.prim 82 = none
 f83 : E.fns 83 = some fn83
 p83 : E.prim 83 = none
 f84 : E.fns 84 = some fn84
 p84 : E.prim 84 = none
 f113 : E.fns 113 = some fn113
 p113 : E.prim 113 = none
 f19 : E.fns 19 = some fn19
 p19 : E.prim 19 = none
 f21 : E.fns 21 = some fn21
 p21 : E.prim 21 = none
 f28 : E.fns 28 = some fn28
 p28 : E.prim 28 = none
 f59 : E.fns 59 = some fn59
 p59 : E.prim 59 = none
 f93 : E.fns 93 = some fn93
 p93 : E.prim 93 = none
 f94 : E.fns 94 = some fn94
 p94 : E.prim 94 = none
 f124 : E.fns 124 = some fn124
 p124 : E.prim 124 = none
theorem wrap8 (u : Nat) : IntKind.u8.wrap (u : Int) = ((u % 256 : Nat) : Int) := by
 simp [IntKind.wrap,IntKind.signed,IntKind.bits,IntKind.max]
theorem wrap64 {u : Int} (h1 : 0 ≤ u) (h2 : u < 18446744073709551616) : IntKind.u64.wrap u = u := by
 simp [IntKind.wrap,IntKind.signed,IntKind.bits,IntKind.max]
 omega
theorem wrap32 {u : Int} (h1 : 0 ≤ u) (h2 : u < 4294967296) : IntKind.u32.wrap u = u := by
 simp [IntKind.wrap,IntKind.signed,IntKind.bits,IntKind.max]
 omega
theorem orB_add {u : Int} (hu : 0 ≤ u) : orB u = V.int .u8 (IntKind.u8.wrap (IntKind.u8.wrap (u.tmod 128) + 128)) := by
 obtain ⟨n,rfl⟩ := Int.eq_ofNat_of_zero_le hu
 unfold orB
 have e1 : (n : Int).tmod 128 = ((n % 128 : Nat) : Int) := by rw [Int.tmod_eq_emod_of_nonneg (by omega)]; rfl
 have hb : BitVec.ofInt IntKind.u8.bits (IntKind.u8.wrap (n : Int)) = BitVec.ofInt 8 ((n % 256 : Nat) : Int) := by rw [wrap8]; rfl
 have h2 := byte_or (n % 256) (by omega)
 have e2 : (BitVec.ofInt IntKind.u8.bits (IntKind.u8.wrap (n : Int)) ||| BitVec.ofInt IntKind.u8.bits 128).toNat = n % 256 % 128 + 128 := by rw [hb]; exact h2
 rw [e2,e1,wrap8,wrap8]
 have e3 : ((n % 128 % 256 : Nat) : Int) + 128 = ((n % 128 % 256 + 128 : Nat) : Int) := by omega
 rw [e3,wrap8]
 congr 2
 omega
set_option maxHeartbeats 1000000 in
theorem int113 (D : Fd P E) {h0 : H} {n : Int} (hn0 : 0 ≤ n) (hn1 : n ≤ 1048576) : Sp P E (.func 113 [] []) [.int .i64 n] h0 fun r h' => Nx h0 h' r (numF n) := by
 have n1 : ¬ n < 0 := by omega
 have hmu : IntKind.u64.wrap (n * 2) = 2 * n := by rw [wrap64 (by omega) (by omega)]; omega
 have hw0 := wrap64 (u := n) hn0 (by omega)
 have z128 : ¬ (128 : Int) = 0 := by decide
 have fin : ∀ (ρ : Nat → V) (h : H) (b : Option Nat) (cs : List V) (u : Int),cs ++ [V.int .u8 (IntKind.u8.wrap u)] = numF n → 0 ≤ u → ρ 3 = .int .u64 u → ρ 4 = vl b cs.length → (b = none → cs = []) → cs.length ≤ 4 → Bs cs → Ow h0.size h (fpt b 5 cs ++ []) → Kp h0 h → XO P E none 32 r113_7 [.c .ret] ρ h (Fin [.t 2] fun r h' => Nx h0 h' r (numF n)) := by
  intro ρ h b cs u htot hu q3 q4 hb hc hbs ow kk
  have k1 : Kp h (h.psh (.cells [.int .u8 (IntKind.u8.wrap u)] 5 false false none)) := Keeps.psh (Nat.le_refl _) _
  obtain ⟨b',h',e1,e2,e3,e4,_⟩ := Ow.appc (m1 := []) (bytes := 1) (ds := [V.int .u8 (IntKind.u8.wrap u)]) (x := .slice (some (h.size,0)) 1 1 false) (ow.kp k1) hb (Nat.le_trans kk.size k1.size) rfl (one_elems h _) rfl (by simp; omega)
  cases b' with
  | none => exact absurd (e3 rfl) (by simp)
  | some b' =>
  have hd0 : List.drop 1 [V.int .u8 0] = [] := rfl
  simp only [GR,evK,binV,intOp,strOp,shOp,unV,Nat.reduceLT,Nat.reduceEqDiff,Nat.reduceAdd,↓reduceIte,Nat.reduceLeDiff,reduceCtorEq,r113_7,q4,q3,hd0,e1]
  rw [htot] at e2
  rw [← htot]
  exact nx_of (by rw [htot]; exact e2) (Bs.app hbs (by intro x hx; rw [List.mem_singleton.1 hx]; exact ⟨_,rfl⟩)) (Keeps.trans (n := h0.size) (Kp.trans kk k1) e4)
 have loop : ∀ (d : Nat) (u : Int) (ρ : Nat → V) (h : H) (b : Option Nat) (cs : List V),cs ++ varF d u = numF n → 0 ≤ u → u < 128 ^ (d + 1) ∧ u ≤ 268435455 → d ≤ 3 → ρ 3 = .int .u64 u → ρ 4 = vl b cs.length → (b = none → cs = []) → cs.length + d ≤ 4 → Bs cs → Ow h0.size h (fpt b 5 cs ++ []) → Kp h0 h →
   XL P E none 32 b113_6 [.b 0,.c (.seq (.region r113_7) (.ret))] ρ h (Fin [.t 2] fun r h' => Nx h0 h' r (numF n)) := by
  intro d
  induction d with
  | zero =>
   intro u ρ h b cs htot hu0 hu1 hd q3 q4 hb hc hbs ow kk
   have hge : ¬ u ≥ 128 := by have := hu1.1; simp at this; omega
   rw [u113_6]
   simp only [GR,evK,binV,intOp,strOp,shOp,unV,Nat.reduceLT,Nat.reduceEqDiff,Nat.reduceAdd,↓reduceIte,Nat.reduceLeDiff,reduceCtorEq,r113_3,q3,hge]
   exact fin _ h b cs u htot hu0 (by exact q3) (by exact q4) hb (by omega) hbs ow kk
  | succ d ih =>
   intro u ρ h b cs htot hu0 hu1 hd q3 q4 hb hc hbs ow kk
   rw [u113_6]
   by_cases hge : u ≥ 128
   ·obtain ⟨z,hx⟩ : ∃ z,z = IntKind.u8.wrap (IntKind.u8.wrap (u.tmod 128) + 128) := ⟨_,rfl⟩
    have hor : orB u = .int .u8 z := by rw [hx]; exact orB_add hu0
    have k1 : Kp h (h.psh (.cells [.int .u8 z] 5 false false none)) := Keeps.psh (Nat.le_refl _) _
    obtain ⟨b',h',e1,e2,e3,e4,_⟩ := Ow.appc (m1 := []) (bytes := 1) (ds := [V.int .u8 z]) (x := .slice (some (h.size,0)) 1 1 false) (ow.kp k1) hb (Nat.le_trans kk.size k1.size) rfl (one_elems h _) rfl (by simp; omega)
    have hd0 : List.drop 1 [V.int .u8 0] = [] := rfl
    have hdv : IntKind.u64.wrap (u.tdiv 128) = u / 128 := by
     rw [Int.tdiv_eq_ediv_of_nonneg hu0,wrap64 (by omega) (by omega)]
    simp only [GR,evK,binV,intOp,strOp,shOp,unV,Nat.reduceLT,Nat.reduceEqDiff,Nat.reduceAdd,↓reduceIte,Nat.reduceLeDiff,reduceCtorEq,r113_3,q3,hge,r113_4,q4,hd0,z128,← hx,e1,r113_5,hdv]
    refine ih (u / 128) _ h' b' _ (by rw [← htot]; simp only [varF]; rw [if_pos hge]; simp [hor]) (by omega) ?_ (by omega) ?_ ?_ e3 (by simp; omega) (Bs.app hbs (by intro y hy; rw [List.mem_singleton.1 hy]; exact ⟨_,rfl⟩)) e2 (Keeps.trans (n := h0.size) (Kp.trans kk k1) e4)
    ·have h1 := hu1.1
     rw [Int.pow_succ] at h1
     exact ⟨Int.ediv_lt_of_lt_mul (by decide) h1,by omega⟩
    ·rfl
    ·rfl
   ·simp only [GR,evK,binV,intOp,strOp,shOp,unV,Nat.reduceLT,Nat.reduceEqDiff,Nat.reduceAdd,↓reduceIte,Nat.reduceLeDiff,reduceCtorEq,r113_3,q3,hge]
    exact fin _ h b cs u (by rw [← htot]; simp only [varF]; rw [if_neg hge]) hu0 (by exact q3) (by exact q4) hb (by omega) hbs ow kk
 refine Sp_fn D.f113 D.p113 (by simp [fn113]) ?_
 simp only [GR,evK,binV,intOp,strOp,shOp,unV,Nat.reduceLT,Nat.reduceEqDiff,Nat.reduceAdd,↓reduceIte,Nat.reduceLeDiff,reduceCtorEq,fn113,c113,r113_0,hw0,hmu,r113_1,n1]
 refine loop 3 (2 * n) _ h0 none [] rfl (by omega) ⟨by omega,by omega⟩ (Nat.le_refl _) ?_ ?_ (fun _ => rfl) (by simp) (by intro x hx; cases hx) (by simpa [fpt] using Ow.nil _ _) (Keeps.refl _ _)
 ·rfl
 ·rfl
end Go.AM.Wc
