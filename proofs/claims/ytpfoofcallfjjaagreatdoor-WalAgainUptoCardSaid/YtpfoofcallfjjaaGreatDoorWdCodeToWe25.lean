/- My own texts, laid for this claim. -/
import Derived.Test.YtpfoofcallfjjaaGreatDoorWe2ToWd6
import Derived.Sort.KeysCollected
import Derived.Shelf.SlIter.Sorted
set_option linter.unusedSimpArgs false
set_option linter.unusedVariables false
namespace Go.AM.Wd
variable {P : Program} {E : Env} {ro : Option Nat} {L : Nat} {K : List Fr} {ρ : Nat → V} {h : H} {Q : Po}
def r5_0 : List O := [⟨some 19,.call (.k (.func 6 [] [])) [],none,0,[19]⟩,
 ono 20 19 1]
def r5_1 : List O := [⟨some 22,.call (.k (.func 7 [] [])) [(.k (.int .i64 1048576))],none,0,[22]⟩,
 om 21 22 1,
 ox 23 21 0 3,
 ox 24 21 1 3,
 om 5 23 7,
 om 6 24 31]
def r5_2 : List O := [om 26 5 0,
 ⟨some 27,.call (.k (.func 8 [] [])) [(.t 26),(.k (.str [108,111,103]))],none,1,[27,26]⟩,
 om 25 27 3,
 ox 28 25 0 7,
 ox 29 25 1 7,
 om 7 28 15,
 om 8 29 63]
def r5_3 : List O := [om 30 6 0,
 ⟨some 31,.bin .neq (some .int) true (.t 30) (.k (.int .i64 0)),none,1,[31,30]⟩,
 om 32 31 3,
 ⟨some 33,.mv (.t 8),some (32,false),7,[33,32,8]⟩,
 ⟨some 34,.bin .neq (some .int) true (.t 33) (.k (.int .i64 0)),some (32,false),15,[34,32,33]⟩,
 ⟨some 35,.pick (.t 32) (.k (.bool true)) (.t 34),none,31,[35,32,34]⟩,
 om 36 35 63,
 ⟨some 37,.mv (.t 7),some (36,false),127,[37,36,7]⟩,
 ⟨some 38,.bin .eql (some .ptr) true (.t 37) (.k (.ptr none)),some (36,false),255,[38,36,37]⟩,
 ⟨some 39,.pick (.t 36) (.k (.bool true)) (.t 38),none,511,[39,36,38]⟩]
def r5_4 : List O := [om 40 0 0,
 oL 41 40 1,
 ⟨some 42,.mv (.k (.int .i64 0)),none,0,[42]⟩]
def r5_5 : List O := [oi 44 5 40 42 0,
 oN 45 5 44 1,
 ⟨some 10,.alloc 33 [(.int .i64 0),(.slice none 0 0 false),(.int .i64 0),(.int .i64 0),(.int .i64 0)],none,0,[10]⟩,
 ost 5 10 45 7]
def r5_6 : List O := [oa 46 0 10 0,
 ol 47 46 1]
def r5_7 : List O := [⟨some 49,.bin .eql (some .int) true (.t 47) (.k (.int .i64 0)),none,0,[49,47]⟩,
 om 48 49 1]
def r5_8 : List O := [om 50 7 0,
 oa 51 1 10 0,
 ol 52 51 2,
 ⟨some 53,.call (.k (.func 9 [] [])) [(.t 50),(.t 52)],none,7,[53,50,52]⟩]
def r5_9 : List O := [⟨some 55,.bin .eql (some .int) true (.t 47) (.k (.int .i64 1)),none,0,[55,47]⟩,
 om 54 55 1]
def r5_10 : List O := [om 56 7 0,
 ⟨some 57,.call (.k (.func 18 [] [])) [(.t 56)],none,1,[57,56]⟩]
def r5_11 : List O := [⟨some 59,.bin .eql (some .int) true (.t 47) (.k (.int .i64 2)),none,0,[59,47]⟩,
 om 58 59 1]
def r5_12 : List O := [om 60 7 0,
 oa 61 2 10 0,
 ol 62 61 2,
 ⟨some 63,.call (.k (.func 13 [] [])) [(.t 60),(.t 62)],none,7,[63,60,62]⟩]
def r5_13 : List O := [op1 64 42 0,
 om 42 64 1]
abbrev e5_14 : C := .seq (.region [olt 43 42 41 0]) (.seq (.cond (.t 43) (.skip) (.exit 0)) (.seq (.block 1 (.seq (.region r5_5) (.seq (.region r5_6) (.block 2 (.seq (.region r5_7) (.cond (.t 48) (.region r5_8) (.seq (.region r5_9) (.cond (.t 54) (.region r5_10) (.seq (.region r5_11) (.cond (.t 58) (.region r5_12) (.skip))))))))))) (.region r5_13)))
def b5_14 : C := e5_14
theorem u5_14 : XL P E ro L b5_14 K ρ h Q = X P E ro L (.c e5_14 :: .l b5_14 :: K) ρ h Q := XL_unroll b5_14
def r5_15 : List O := [om 66 5 0,
 ⟨some 67,.call (.k (.func 8 [] [])) [(.t 66),(.k (.str [108,111,103]))],none,1,[67,66]⟩,
 om 65 67 3,
 ox 68 65 0 7,
 ox 69 65 1 7,
 om 11 68 15,
 om 6 69 63]
def r5_16 : List O := [om 70 6 0,
 ⟨some 71,.bin .neq (some .int) true (.t 70) (.k (.int .i64 0)),none,1,[71,70]⟩,
 om 72 71 3,
 ⟨some 73,.mv (.t 11),some (72,false),7,[73,72,11]⟩,
 ⟨some 74,.bin .eql (some .ptr) true (.t 73) (.k (.ptr none)),some (72,false),15,[74,72,73]⟩,
 ⟨some 75,.pick (.t 72) (.k (.bool true)) (.t 74),none,31,[75,72,74]⟩,
 om 76 75 63,
 ⟨some 77,.mv (.t 11),some (76,false),127,[77,76,11]⟩,
 ⟨some 78,.call (.k (.func 10 [] [])) [(.t 77)],some (76,false),255,[78,76,77]⟩,
 ⟨some 79,.mv (.t 7),some (76,false),127,[79,76,7]⟩,
 ⟨some 80,.call (.k (.func 10 [] [])) [(.t 79)],some (76,false),1023,[80,76,79]⟩,
 ⟨some 81,.bin .neq (some .int) false (.t 78) (.t 80),some (76,false),2047,[81,76,78,80]⟩,
 ⟨some 82,.pick (.t 76) (.k (.bool true)) (.t 81),none,4095,[82,76,81]⟩,
 om 83 82 8191,
 ⟨some 84,.mv (.t 11),some (83,false),16383,[84,83,11]⟩,
 ⟨some 85,.call (.k (.func 11 [] [])) [(.t 84)],some (83,false),32767,[85,83,84]⟩,
 ⟨some 86,.mv (.t 7),some (83,false),16383,[86,83,7]⟩,
 ⟨some 87,.call (.k (.func 11 [] [])) [(.t 86)],some (83,false),131071,[87,83,86]⟩,
 ⟨some 88,.bin .neq (some .int) false (.t 85) (.t 87),some (83,false),262143,[88,83,85,87]⟩,
 ⟨some 89,.pick (.t 83) (.k (.bool true)) (.t 88),none,524287,[89,83,88]⟩,
 om 90 89 1048575,
 ⟨some 91,.mv (.t 11),some (90,false),2097151,[91,90,11]⟩,
 ⟨some 92,.call (.k (.func 12 [] [])) [(.t 91)],some (90,false),4194303,[92,90,91]⟩,
 ⟨some 93,.mv (.t 7),some (90,false),2097151,[93,90,7]⟩,
 ⟨some 94,.call (.k (.func 12 [] [])) [(.t 93)],some (90,false),16777215,[94,90,93]⟩,
 ⟨some 95,.bin .neq (some .int) false (.t 92) (.t 94),some (90,false),33554431,[95,90,92,94]⟩,
 ⟨some 96,.pick (.t 90) (.k (.bool true)) (.t 95),none,67108863,[96,90,95]⟩,
 om 97 96 134217727,
 ⟨some 98,.mv (.t 11),some (97,false),268435455,[98,97,11]⟩,
 ⟨some 99,.call (.k (.func 19 [] [])) [(.t 98)],some (97,false),536870911,[99,97,98]⟩,
 ⟨some 100,.mv (.t 11),some (97,false),268435455,[100,97,11]⟩,
 ⟨some 101,.call (.k (.func 11 [] [])) [(.t 100)],some (97,false),2147483647,[101,97,100]⟩,
 ⟨some 102,.bin .neq (some .int) false (.t 99) (.t 101),some (97,false),4294967295,[102,97,99,101]⟩,
 ⟨some 103,.pick (.t 97) (.k (.bool true)) (.t 102),none,8589934591,[103,97,102]⟩]
def r5_17 : List O := [om 104 7 0,
 ⟨some 105,.call (.k (.func 14 [] [])) [(.t 104)],none,1,[105,104]⟩]
def a5_18 : C := .region [om 14 107 0]
def r5_19 : List O := [ol 108 12 0,
 om 109 14 0,
 ⟨some 110,.bslice 45 1 [(.slice none 0 0 false)] [(0,1,(.t 109))],none,2,[110,109]⟩,
 ⟨some 111,.app 45 1 24 (.t 108) (.t 110),none,7,[111,108,110]⟩,
 ost 1 12 111 15]
def b5_20 : C := .block 4 (.region r5_19)
def r5_21 : List O := [om 112 5 0,
 om 113 1 0,
 ⟨some 114,.cvt .i64 (.t 113),none,2,[114,113]⟩,
 ⟨some 115,.call (.k (.func 20 [] [])) [(.t 112),(.t 114)],none,7,[115,112,114]⟩]
def r5_22 : List O := [om 116 5 0,
 ⟨some 117,.call (.k (.func 21 [] [])) [(.t 116)],none,1,[117,116]⟩]
def r5_23 : List O := [om 119 5 0,
 ⟨some 120,.call (.k (.func 8 [] [])) [(.t 119),(.k (.str [108,111,103]))],none,1,[120,119]⟩,
 om 118 120 3,
 ox 121 118 0 7,
 ox 122 118 1 7,
 om 15 121 15,
 om 6 122 63]
def r5_24 : List O := [om 123 6 0,
 ⟨some 124,.bin .neq (some .int) true (.t 123) (.k (.int .i64 0)),none,1,[124,123]⟩,
 om 125 124 3,
 ⟨some 126,.mv (.t 15),some (125,false),7,[126,125,15]⟩,
 ⟨some 127,.bin .eql (some .ptr) true (.t 126) (.k (.ptr none)),some (125,false),15,[127,125,126]⟩,
 ⟨some 128,.pick (.t 125) (.k (.bool true)) (.t 127),none,31,[128,125,127]⟩,
 om 129 128 63,
 ⟨some 130,.mv (.t 15),some (129,false),127,[130,129,15]⟩,
 ⟨some 131,.call (.k (.func 11 [] [])) [(.t 130)],some (129,false),255,[131,129,130]⟩,
 ⟨some 132,.mv (.t 11),some (129,false),127,[132,129,11]⟩,
 ⟨some 133,.call (.k (.func 11 [] [])) [(.t 132)],some (129,false),1023,[133,129,132]⟩,
 ⟨some 134,.bin .neq (some .int) false (.t 131) (.t 133),some (129,false),2047,[134,129,131,133]⟩,
 ⟨some 135,.pick (.t 129) (.k (.bool true)) (.t 134),none,4095,[135,129,134]⟩]
def r5_25 : List O := [⟨some 16,.alloc 3 [(.int .i64 0)],none,0,[16]⟩,
 ⟨none,.store 1 (.t 16) (.k (.int .i64 0)),none,1,[16]⟩]
def r5_26 : List O := [om 136 15 0,
 ⟨some 137,.call (.k (.func 14 [] [])) [(.t 136)],none,1,[137,136]⟩]
def a5_27 : C := .region [om 18 139 0]
def r5_28 : List O := [ol 140 16 0,
 ol 141 12 0,
 oL 142 141 2,
 ⟨some 143,.bin .geq (some .int) false (.t 140) (.t 142),none,7,[143,140,142]⟩,
 om 144 143 15,
 ⟨some 145,.mv (.t 18),some (144,false),31,[145,144,18]⟩,
 olf 146 12 144 31,
 olf 147 16 144 31,
 ⟨some 148,.iadrL 1 (.t 146) (.t 147),some (144,false),223,[148,144,146,147]⟩,
 olf 149 148 144 479,
 ⟨some 150,.call (.k (.func 22 [] [])) [(.t 145),(.t 149)],some (144,false),1023,[150,144,145,149]⟩,
 ⟨some 151,.un .not (.t 150),some (144,false),2047,[151,144,150]⟩,
 ⟨some 152,.pick (.t 144) (.k (.bool true)) (.t 151),none,4095,[152,144,151]⟩]
def r5_29 : List O := [ol 153 16 0,
 op1 154 153 1,
 ost 1 16 154 3]
def b5_30 : C := .block 6 (.seq (.seq (.region r5_28) (.cond (.t 152) (.seq (.region [⟨none,.store 1 (.t 4) (.k (.bool false)),none,0,[4]⟩]) (.ret)) (.skip))) (.region r5_29))
def r5_31 : List O := [ol 155 16 0,
 ol 156 12 0,
 oL 157 156 2,
 ⟨some 158,.bin .eql (some .int) false (.t 155) (.t 157),none,7,[158,155,157]⟩,
 ost 1 4 158 15]
def c5 : C := .seq (.region [⟨some 4,.alloc 4 [(.bool false)],none,0,[4]⟩]) (.seq (.seq (.region r5_0) (.cond (.t 20) (.seq (.region [⟨none,.store 1 (.t 4) (.k (.bool false)),none,0,[4]⟩]) (.ret)) (.skip))) (.seq (.region r5_1) (.seq (.region r5_2) (.seq (.seq (.region r5_3) (.cond (.t 39) (.seq (.region [⟨none,.store 1 (.t 4) (.k (.bool false)),none,0,[4]⟩]) (.ret)) (.skip))) (.seq (.seq (.region r5_4) (.block 0 (.loop b5_14))) (.seq (.region r5_15) (.seq (.seq (.region r5_16) (.cond (.t 103) (.seq (.region [⟨none,.store 1 (.t 4) (.k (.bool false)),none,0,[4]⟩]) (.ret)) (.skip))) (.seq (.region [⟨some 12,.alloc 31 [(.slice none 0 0 false)],none,0,[12]⟩]) (.seq (.seq (.region r5_17) (.block 3 (.range (.t 105) [106,107] a5_18 b5_20))) (.seq (.region r5_21) (.seq (.region r5_22) (.seq (.region r5_23) (.seq (.seq (.region r5_24) (.cond (.t 135) (.seq (.region [⟨none,.store 1 (.t 4) (.k (.bool false)),none,0,[4]⟩]) (.ret)) (.skip))) (.seq (.region r5_25) (.seq (.seq (.region r5_26) (.block 5 (.range (.t 137) [138,139] a5_27 b5_30))) (.seq (.region r5_31) (.ret)))))))))))))))))
def fn5 : Fn := ⟨159,[.c 4 1 false],c5⟩
def r18_0 : List O := [om 7 0 0,
 ⟨some 8,.call (.k (.func 34 [] [])) [(.t 7)],none,1,[8,7]⟩,
 om 6 8 3]
def r18_1 : List O := [om 10 0 0,
 ⟨some 11,.nilck (.t 10),none,1,[11,10]⟩,
 oa 12 5 11 3,
 ol 13 12 7,
 om 9 13 15]
def r18_2 : List O := [om 14 0 0,
 ⟨some 15,.nilck (.t 14),none,1,[15,14]⟩,
 oa 16 2 15 3,
 ol 17 16 7,
 oL 18 17 15,
 ⟨some 19,.mv (.k (.int .i64 0)),none,0,[19]⟩]
def r18_3 : List O := [om 21 19 0,
 om 3 21 1]
def r18_4 : List O := [om 22 0 0,
 ⟨some 23,.nilck (.t 22),none,1,[23,22]⟩,
 oa 24 2 23 3,
 ol 25 24 7,
 om 26 3 0,
 oi 27 4 25 26 31,
 om 4 27 63]
def r18_5 : List O := [om 28 4 0,
 ⟨some 29,.nilck (.t 28),none,1,[29,28]⟩,
 oa 30 3 29 3,
 ol 31 30 7,
 ono 32 31 15]
def r18_6 : List O := [om 33 0 0,
 om 34 0 0,
 ⟨some 35,.nilck (.t 34),none,2,[35,34]⟩,
 oa 36 0 35 6,
 ol 37 36 14,
 om 38 0 0,
 ⟨some 39,.nilck (.t 38),none,32,[39,38]⟩,
 oa 40 1 39 96,
 ol 41 40 224,
 om 42 4 0,
 ⟨some 43,.nilck (.t 42),none,512,[43,42]⟩,
 oa 44 0 43 1536,
 ol 45 44 3584,
 ⟨some 46,.call (.k (.func 23 [] [])) [(.t 41),(.t 45)],none,8160,[46,41,45]⟩,
 ⟨some 47,.call (.k (.func 33 [] [])) [(.t 37),(.t 46)],none,16382,[47,37,46]⟩,
 ⟨some 48,.call (.k (.func 37 [] [])) [(.t 33),(.t 47)],none,32767,[48,33,47]⟩,
 om 5 48 65535]
def r18_7 : List O := [om 49 5 0,
 ⟨some 50,.bin .neq (some .int) true (.t 49) (.k (.int .i64 0)),none,1,[50,49]⟩]
def r18_8 : List O := [om 51 5 0,
 om 2 51 1]
def r18_9 : List O := [om 52 4 0,
 ⟨some 53,.nilck (.t 52),none,1,[53,52]⟩,
 oa 54 3 53 3,
 ⟨none,.store 1 (.t 54) (.k (.bool false)),none,7,[54]⟩]
def r18_10 : List O := [op1 55 19 0,
 om 19 55 1]
abbrev e18_11 : C := .seq (.region [olt 20 19 18 0]) (.seq (.cond (.t 20) (.skip) (.exit 1)) (.seq (.block 2 (.seq (.region r18_3) (.seq (.region r18_4) (.seq (.seq (.region r18_5) (.cond (.t 32) (.exit 2) (.skip))) (.seq (.seq (.draw r18_6) (.seq (.region r18_7) (.cond (.t 50) (.seq (.region r18_8) (.ret)) (.skip)))) (.region r18_9)))))) (.region r18_10)))
def b18_11 : C := e18_11
theorem u18_11 : XL P E ro L b18_11 K ρ h Q = X P E ro L (.c e18_11 :: .l b18_11 :: K) ρ h Q := XL_unroll b18_11
def r18_12 : List O := [om 56 0 0,
 om 57 0 0,
 ⟨some 58,.nilck (.t 57),none,2,[58,57]⟩,
 oa 59 3 58 6,
 ol 60 59 14,
 ⟨some 61,.nilck (.t 56),none,31,[61,56]⟩,
 oa 62 4 61 63,
 ost 1 62 60 127]
def c18 : C := .seq (.region [⟨some 2,.mv (.k (.int .i64 0)),none,0,[2]⟩]) (.seq (.block 0 (.seq (.region r18_0) (.cond (.t 6) (.seq (.region [⟨some 2,.mv (.k (.int .i64 2)),none,0,[2]⟩]) (.ret)) (.seq (.region r18_1) (.cond (.t 9) (.seq (.region [⟨some 2,.mv (.k (.int .i64 51)),none,0,[2]⟩]) (.ret)) (.skip)))))) (.seq (.seq (.region r18_2) (.block 1 (.loop b18_11))) (.seq (.region r18_12) (.seq (.region [⟨some 2,.mv (.k (.int .i64 0)),none,0,[2]⟩]) (.ret)))))
def fn18 : Fn := ⟨63,[.t 2],c18⟩
def r19_0 : List O := [om 3 0 0,
 ⟨some 4,.call (.k (.func 34 [] [])) [(.t 3)],none,1,[4,3]⟩]
def r19_1 : List O := [om 5 0 0,
 ⟨some 6,.nilck (.t 5),none,1,[6,5]⟩,
 oa 7 4 6 3,
 ol 8 7 7,
 om 2 8 15]
def c19 : C := .seq (.region [⟨some 2,.mv (.k (.int .i64 0)),none,0,[2]⟩]) (.seq (.seq (.region r19_0) (.cond (.t 4) (.seq (.region [⟨some 2,.mv (.k (.int .i64 0)),none,0,[2]⟩]) (.ret)) (.skip))) (.seq (.region r19_1) (.ret)))
def fn19 : Fn := ⟨9,[.t 2],c19⟩
def r20_0 : List O := [om 5 0 0,
 ⟨some 6,.call (.k (.func 55 [] [])) [(.t 5)],none,1,[6,5]⟩]
def r20_1 : List O := [om 7 1 0,
 ⟨some 8,.bin .lss (some .int) true (.t 7) (.k (.int .i64 0)),none,1,[8,7]⟩]
def r20_2 : List O := [om 9 0 0,
 ⟨some 10,.nilck (.t 9),none,1,[10,9]⟩,
 oa 11 4 10 3,
 ol 12 11 7]
def r20_3 : List O := [om 13 0 0,
 om 14 1 0,
 ⟨some 15,.call (.k (.func 56 [] [])) [(.t 13),(.t 14)],none,3,[15,13,14]⟩]
def c20 : C := .seq (.region [⟨some 4,.mv (.k (.int .i64 0)),none,0,[4]⟩]) (.seq (.seq (.region r20_0) (.cond (.t 6) (.seq (.region [⟨some 4,.mv (.k (.int .i64 2)),none,0,[4]⟩]) (.ret)) (.skip))) (.seq (.seq (.region r20_1) (.cond (.t 8) (.seq (.region [⟨some 4,.mv (.k (.int .i64 1)),none,0,[4]⟩]) (.ret)) (.skip))) (.seq (.seq (.region r20_2) (.cond (.t 12) (.seq (.region [⟨some 4,.mv (.k (.int .i64 7)),none,0,[4]⟩]) (.ret)) (.skip))) (.seq (.region r20_3) (.seq (.region [⟨some 4,.mv (.k (.int .i64 0)),none,0,[4]⟩]) (.ret))))))
def fn20 : Fn := ⟨16,[.t 4],c20⟩
def r21_0 : List O := [om 3 0 0,
 ⟨some 4,.call (.k (.func 55 [] [])) [(.t 3)],none,1,[4,3]⟩]
def r21_1 : List O := [om 5 0 0,
 ⟨some 6,.nilck (.t 5),none,1,[6,5]⟩,
 oa 7 4 6 3,
 ol 8 7 7,
 ono 9 8 15]
def r21_2 : List O := [om 10 0 0,
 ⟨some 11,.nilck (.t 10),none,1,[11,10]⟩,
 oa 12 4 11 3,
 ⟨none,.store 1 (.t 12) (.k (.bool false)),none,7,[12]⟩]
def c21 : C := .seq (.region [⟨some 2,.mv (.k (.int .i64 0)),none,0,[2]⟩]) (.seq (.seq (.region r21_0) (.cond (.t 4) (.seq (.region [⟨some 2,.mv (.k (.int .i64 2)),none,0,[2]⟩]) (.ret)) (.skip))) (.seq (.seq (.region r21_1) (.cond (.t 9) (.seq (.region [⟨some 2,.mv (.k (.int .i64 1)),none,0,[2]⟩]) (.ret)) (.skip))) (.seq (.region r21_2) (.seq (.region [⟨some 2,.mv (.k (.int .i64 0)),none,0,[2]⟩]) (.ret)))))
def fn21 : Fn := ⟨13,[.t 2],c21⟩
def r27_0 : List O := [⟨some 3,.box 9 (.t 1),none,0,[3,1]⟩,
 ⟨some 4,.mv (.k (.slice none 0 0 false)),none,0,[4]⟩]
def r27_1 : List O := [om 11 0 0,
 ⟨some 12,.call (.k (.func 59 [] [])) [(.t 11)],none,1,[12,11]⟩]
def a27_2 : C := .region [om 6 13 0]
def r27_3 : List O := [om 15 6 0,
 ol 16 3 0,
 ⟨some 17,.bin .add (some .str) true (.t 16) (.k (.str [46])),none,2,[17,16]⟩,
 ⟨some 18,.call (.k (.func 60 [] [])) [(.t 15),(.t 17)],none,7,[18,15,17]⟩,
 om 14 18 15,
 ox 19 14 0 31,
 ox 20 14 1 31,
 om 7 19 63,
 om 8 20 255]
def r27_4 : List O := [om 22 7 0,
 ⟨some 23,.call (.k (.func 61 [] [])) [(.t 22),(.k (.int .i64 10)),(.k (.int .i64 64))],none,1,[23,22]⟩,
 om 21 23 3,
 ox 24 21 0 7,
 ox 25 21 1 7,
 om 9 24 15,
 om 10 25 63]
def r27_5 : List O := [om 26 8 0,
 om 27 26 1,
 og 28 10 27 3,
 ⟨some 29,.bin .eql (some .ifc) true (.t 28) (.k .nilIface),some (27,true),7,[29,27,28]⟩,
 oe 30 29 27 15,
 om 31 30 31,
 olg 32 3 31 63,
 og 33 9 31 63,
 ⟨some 34,.call (.k (.func 23 [] [])) [(.t 32),(.t 33)],some (31,true),255,[34,31,32,33]⟩,
 og 35 6 31 63,
 ⟨some 36,.bin .eql (some .str) false (.t 34) (.t 35),some (31,true),1023,[36,31,34,35]⟩,
 oe 37 36 31 2047]
def r27_6 : List O := [ol 38 5 0,
 om 39 9 0,
 ⟨some 40,.bslice 2 1 [(.int .i64 0)] [(0,1,(.t 39))],none,2,[40,39]⟩,
 ⟨some 41,.app 2 1 8 (.t 38) (.t 40),none,7,[41,38,40]⟩,
 ost 1 5 41 15]
def b27_7 : C := .block 1 (.seq (.region r27_3) (.seq (.region r27_4) (.seq (.region r27_5) (.cond (.t 37) (.region r27_6) (.skip)))))
def r27_8 : List O := [ol 42 5 0,
 ⟨some 43,.call (.k (.func 62 [] [])) [(.t 42)],none,1,[43,42]⟩]
def r27_9 : List O := [ol 44 5 0,
 om 4 44 1]
def c27 : C := .seq (.region r27_0) (.seq (.region [⟨some 5,.alloc 69 [(.slice none 0 0 false)],none,0,[5]⟩]) (.seq (.seq (.region r27_1) (.block 0 (.range (.t 12) [13] a27_2 b27_7))) (.seq (.region r27_8) (.seq (.region r27_9) (.ret)))))
def fn27 : Fn := ⟨45,[.t 4],c27⟩
def r28_0 : List O := [⟨some 4,.mv (.k (.slice none 0 0 false)),none,0,[4]⟩,
 ⟨some 5,.mv (.k (.int .i64 0)),none,1,[5]⟩]
def r28_1 : List O := [om 7 0 0,
 om 8 1 0,
 ⟨some 9,.bslice 9 1 [(.str [])] [(0,1,(.t 8))],none,2,[9,8]⟩,
 ⟨some 10,.call (.k (.func 63 [] [])) [(.t 7),(.t 9)],none,7,[10,7,9]⟩,
 om 6 10 15]
def r28_2 : List O := [om 11 6 0,
 ⟨some 12,.bin .neq (some .int) true (.t 11) (.k (.int .i64 0)),none,1,[12,11]⟩]
def r28_3 : List O := [om 13 6 0,
 ⟨some 4,.mv (.k (.slice none 0 0 false)),none,0,[4]⟩,
 om 5 13 3]
def r28_4 : List O := [om 14 0 0,
 ⟨some 15,.nilck (.t 14),none,1,[15,14]⟩,
 oa 16 0 15 3,
 ol 17 16 7,
 om 18 1 0,
 ⟨some 19,.lookup .str (.ptr none) false (.t 17) (.t 18),none,31,[19,17,18]⟩,
 ⟨some 20,.nilck (.t 19),none,63,[20,19]⟩,
 oa 21 0 20 127,
 ol 22 21 255,
 ⟨some 23,.call (.k (.func 42 [] [])) [(.t 22)],none,511,[23,22]⟩,
 om 4 23 1023,
 ⟨some 5,.mv (.k (.int .i64 0)),none,2047,[5]⟩]
def c28 : C := .seq (.region r28_0) (.seq (.seq (.region r28_1) (.seq (.region r28_2) (.cond (.t 12) (.seq (.region r28_3) (.ret)) (.skip)))) (.seq (.region r28_4) (.ret)))
def fn28 : Fn := ⟨24,[.t 4,.t 5],c28⟩
def r29_0 : List O := [⟨some 2,.mv (.k (.slice none 0 0 false)),none,0,[2]⟩,
 ⟨some 3,.mv (.k (.int .i64 0)),none,1,[3]⟩]
def r29_1 : List O := [om 9 5 0,
 om 10 0 0,
 oL 11 10 2,
 olt 12 9 11 7]
def r29_2 : List O := [om 14 0 0,
 om 15 5 0,
 ⟨some 16,.slL 1 (.t 14) (some (.t 15)) none none,none,3,[16,14,15]⟩,
 ⟨some 17,.call (.k (.func 64 [] [])) [(.t 16)],none,7,[17,16]⟩,
 om 13 17 15,
 ox 18 13 0 31,
 ox 19 13 1 31,
 ox 20 13 2 31,
 om 6 18 63,
 om 7 19 383,
 om 8 20 1023]
def r29_3 : List O := [om 21 8 0,
 ⟨some 22,.bin .neq (some .int) true (.t 21) (.k (.int .i64 0)),none,1,[22,21]⟩,
 om 23 22 3,
 ⟨some 24,.mv (.t 6),some (23,false),7,[24,23,6]⟩,
 ⟨some 25,.lenL (.t 24),some (23,false),15,[25,23,24]⟩,
 ⟨some 26,.bin .eql (some .int) true (.t 25) (.k (.int .i64 0)),some (23,false),31,[26,23,25]⟩,
 ⟨some 27,.pick (.t 23) (.k (.bool true)) (.t 26),none,63,[27,23,26]⟩]
def r29_4 : List O := [om 28 4 0,
 om 29 6 0,
 ⟨some 30,.bslice 45 1 [(.slice none 0 0 false)] [(0,1,(.t 29))],none,2,[30,29]⟩,
 ⟨some 31,.app 45 1 24 (.t 28) (.t 30),none,7,[31,28,30]⟩,
 om 4 31 15]
def r29_5 : List O := [om 32 5 0,
 om 33 7 0,
 ⟨some 34,.bin .add (some .int) false (.t 32) (.t 33),none,3,[34,32,33]⟩,
 om 5 34 7]
abbrev e29_6 : C := .seq (.seq (.region r29_1) (.cond (.t 12) (.skip) (.exit 0))) (.block 1 (.seq (.region r29_2) (.seq (.seq (.region r29_3) (.cond (.t 27) (.exit 0) (.skip))) (.seq (.region r29_4) (.region r29_5)))))
def b29_6 : C := e29_6
theorem u29_6 : XL P E ro L b29_6 K ρ h Q = X P E ro L (.c e29_6 :: .l b29_6 :: K) ρ h Q := XL_unroll b29_6
def r29_7 : List O := [om 35 4 0,
 om 36 5 0,
 om 2 35 1,
 om 3 36 7]
def c29 : C := .seq (.region r29_0) (.seq (.region [⟨some 4,.mv (.k (.slice none 0 0 false)),none,0,[4]⟩]) (.seq (.region [⟨some 5,.mv (.k (.int .i64 0)),none,0,[5]⟩]) (.seq (.block 0 (.loop b29_6)) (.seq (.region r29_7) (.ret)))))
def fn29 : Fn := ⟨37,[.t 2,.t 3],c29⟩
def r31_0 : List O := [⟨some 3,.box 28 (.t 0),none,0,[3,0]⟩,
 ⟨some 4,.box 74 (.t 1),none,0,[4,1]⟩,
 ⟨some 6,.alloc 25 [(.int .i64 0)],none,0,[6]⟩]
def r31_1 : List O := [ol 12 3 0,
 ⟨some 13,.nilck (.t 12),none,1,[13,12]⟩,
 oa 14 1 13 3,
 ol 15 14 7,
 oa 16 0 4 0,
 ol 17 16 16,
 ⟨some 18,.call (.k (.func 23 [] [])) [(.t 15),(.t 17)],none,63,[18,15,17]⟩,
 om 7 18 127]
def r31_2 : List O := [oa 19 1 4 0,
 ol 20 19 1,
 oL 21 20 3,
 ⟨some 22,.bin .eql (some .int) true (.t 21) (.k (.int .i64 0)),none,7,[22,21]⟩]
def r31_3 : List O := [ol 23 3 0,
 ⟨some 24,.nilck (.t 23),none,1,[24,23]⟩,
 oa 25 0 24 3,
 ol 26 25 7,
 om 27 7 0,
 ⟨some 28,.call (.k (.func 39 [] [])) [(.t 26),(.t 27)],none,31,[28,26,27]⟩,
 ost 1 6 28 63]
def r31_4 : List O := [ol 29 3 0,
 ⟨some 30,.nilck (.t 29),none,1,[30,29]⟩,
 oa 31 0 30 3,
 ol 32 31 7,
 ⟨some 33,.call (.k (.func 59 [] [])) [(.t 32)],none,15,[33,32]⟩]
def a31_5 : C := .region [om 8 34 0]
def r31_6 : List O := [om 35 8 0,
 ⟨some 36,.bin .eql (some .str) true (.t 35) (.k (.str [110,101,119])),none,1,[36,35]⟩]
def r31_7 : List O := [ol 37 3 0,
 ⟨some 38,.nilck (.t 37),none,1,[38,37]⟩,
 oa 39 0 38 3,
 ol 40 39 7,
 ⟨some 41,.call (.k (.func 39 [] [])) [(.t 40),(.k (.str [110,101,119]))],none,15,[41,40]⟩,
 om 9 41 31]
def r31_8 : List O := [om 42 9 0,
 ⟨some 43,.bin .neq (some .int) true (.t 42) (.k (.int .i64 0)),none,1,[43,42]⟩]
def r31_9 : List O := [om 44 9 0,
 ost 1 6 44 1]
def b31_10 : C := .block 1 (.seq (.region r31_6) (.cond (.t 36) (.seq (.seq (.region r31_7) (.seq (.region r31_8) (.cond (.t 43) (.seq (.region r31_9) (.ret)) (.skip)))) (.exit 0)) (.skip)))
def r31_11 : List O := [ol 45 3 0,
 ⟨some 46,.nilck (.t 45),none,1,[46,45]⟩,
 oa 47 0 46 3,
 ol 48 47 7,
 om 49 2 0,
 ⟨some 50,.call (.k (.func 65 [] [])) [(.t 48),(.k (.str [110,101,119])),(.t 49)],none,31,[50,48,49]⟩,
 om 10 50 63]
def r31_12 : List O := [om 51 10 0,
 ⟨some 52,.bin .neq (some .int) true (.t 51) (.k (.int .i64 0)),none,1,[52,51]⟩]
def r31_13 : List O := [om 53 10 0,
 ost 1 6 53 1]
def r31_14 : List O := [ol 54 3 0,
 ⟨some 55,.nilck (.t 54),none,1,[55,54]⟩,
 oa 56 0 55 3,
 ol 57 56 7,
 ⟨some 58,.call (.k (.func 33 [] [])) [(.t 57),(.k (.str [110,101,119]))],none,15,[58,57]⟩,
 om 11 58 31]
def r31_15 : List O := [om 59 11 0,
 ⟨some 60,.bin .neq (some .int) true (.t 59) (.k (.int .i64 0)),none,1,[60,59]⟩]
def r31_16 : List O := [om 61 11 0,
 ost 1 6 61 1]
def r31_17 : List O := [ol 62 3 0,
 ⟨some 63,.nilck (.t 62),none,1,[63,62]⟩,
 oa 64 0 63 3,
 ol 65 64 7,
 om 66 7 0,
 ⟨some 67,.call (.k (.func 66 [] [])) [(.t 65),(.k (.str [110,101,119])),(.t 66)],none,31,[67,65,66]⟩,
 ost 1 6 67 63]
def c31 : C := .seq (.region r31_0) (.seq (.draw r31_1) (.seq (.seq (.region r31_2) (.cond (.t 22) (.seq (.region r31_3) (.ret)) (.skip))) (.seq (.seq (.region r31_4) (.block 0 (.range (.t 33) [34] a31_5 b31_10))) (.seq (.seq (.region r31_11) (.seq (.region r31_12) (.cond (.t 52) (.seq (.region r31_13) (.ret)) (.skip)))) (.seq (.seq (.region r31_14) (.seq (.region r31_15) (.cond (.t 60) (.seq (.region r31_16) (.ret)) (.skip)))) (.seq (.region r31_17) (.ret)))))))
def r32_0 : List O := [⟨some 4,.mv (.k (.int .i64 0)),none,0,[4]⟩,
 ⟨some 5,.mv (.k (.int .i64 0)),none,1,[5]⟩,
 ⟨some 6,.mv (.k (.int .i64 0)),none,3,[6]⟩]
def r32_1 : List O := [om 9 0 0,
 om 10 1 0,
 ⟨some 11,.bslice 9 1 [(.str [])] [(0,1,(.t 10))],none,2,[11,10]⟩,
 ⟨some 12,.call (.k (.func 63 [] [])) [(.t 9),(.t 11)],none,7,[12,9,11]⟩,
 om 7 12 15]
def r32_2 : List O := [om 13 7 0,
 ⟨some 14,.bin .neq (some .int) true (.t 13) (.k (.int .i64 0)),none,1,[14,13]⟩]
def r32_3 : List O := [om 15 7 0,
 ⟨some 4,.mv (.k (.int .i64 0)),none,0,[4]⟩,
 ⟨some 5,.mv (.k (.int .i64 0)),none,2,[5]⟩,
 om 6 15 7]
def r32_4 : List O := [om 16 0 0,
 ⟨some 17,.nilck (.t 16),none,1,[17,16]⟩,
 oa 18 0 17 3,
 ol 19 18 7,
 om 20 1 0,
 ⟨some 21,.lookup .str (.ptr none) false (.t 19) (.t 20),none,31,[21,19,20]⟩,
 om 8 21 63]
def r32_5 : List O := [om 22 8 0,
 ⟨some 23,.nilck (.t 22),none,1,[23,22]⟩,
 oa 24 0 23 3,
 ol 25 24 7,
 oL 26 25 15,
 om 27 8 0,
 ⟨some 28,.nilck (.t 27),none,32,[28,27]⟩,
 oa 29 1 28 96,
 ol 30 29 224,
 om 4 26 31,
 om 5 30 1023,
 ⟨some 6,.mv (.k (.int .i64 0)),none,2047,[6]⟩]
theorem d32_5 : XD P E ro L r32_5 K ρ h Q = XO P E ro L r32_5 K ρ h Q := XD_still rfl
def c32 : C := .seq (.region r32_0) (.seq (.seq (.region r32_1) (.seq (.region r32_2) (.cond (.t 14) (.seq (.region r32_3) (.ret)) (.skip)))) (.seq (.region r32_4) (.seq (.draw r32_5) (.ret))))
def fn32 : Fn := ⟨31,[.t 4,.t 5,.t 6],c32⟩
def r56_0 : List O := [om 7 0 0,
 ⟨some 8,.nilck (.t 7),none,1,[8,7]⟩,
 oa 9 0 8 3,
 ol 10 9 7,
 ⟨some 11,.rng false (.t 10),none,15,[11,10]⟩]
def r56_1 : List O := [⟨some 12,.next false (.t 11),none,0,[12,11]⟩,
 ox 13 12 0 1]
def r56_2 : List O := [⟨some 14,.entry (.t 11),none,0,[14,11]⟩,
 ox 15 14 1 1,
 om 5 15 3]
def r56_3 : List O := [om 16 5 0,
 ⟨some 17,.nilck (.t 16),none,1,[17,16]⟩,
 oa 18 1 17 3,
 ol 19 18 7,
 om 20 1 0,
 om 21 5 0,
 ⟨some 22,.nilck (.t 21),none,32,[22,21]⟩,
 oa 23 0 22 96,
 ol 24 23 224,
 oL 25 24 480,
 om 26 5 0,
 ⟨some 27,.nilck (.t 26),none,1024,[27,26]⟩,
 oa 28 1 27 3072,
 ol 29 28 7168,
 ⟨some 30,.bin .sub (some .int) false (.t 25) (.t 29),none,16352,[30,25,29]⟩,
 ⟨some 31,.minmax false [(.t 20),(.t 30)],none,32752,[31,20,30]⟩,
 ⟨some 32,.bin .add (some .int) false (.t 19) (.t 31),none,65535,[32,19,31]⟩,
 om 6 32 131071]
theorem d56_3 : XD P E ro L r56_3 K ρ h Q = XO P E ro L r56_3 K ρ h Q := XD_still rfl
def r56_4 : List O := [om 33 5 0,
 om 34 5 0,
 ⟨some 35,.nilck (.t 34),none,2,[35,34]⟩,
 oa 36 0 35 6,
 ol 37 36 14,
 om 38 6 0,
 ⟨some 39,.slL 1 (.t 37) none (some (.t 38)) none,none,62,[39,37,38]⟩,
 ⟨some 40,.call (.k (.func 85 [] [])) [(.t 39)],none,126,[40,39]⟩,
 ⟨some 41,.nilck (.t 33),none,255,[41,33]⟩,
 oa 42 0 41 511,
 ost 1 42 40 1023]
def r56_5 : List O := [om 43 5 0,
 om 44 6 0,
 ⟨some 45,.nilck (.t 43),none,3,[45,43]⟩,
 oa 46 1 45 7,
 ost 1 46 44 15]
def b56_6 : C := .seq (.region r56_1) (.seq (.cond (.t 13) (.skip) (.exit 0)) (.block 1 (.seq (.region r56_2) (.seq (.draw r56_3) (.seq (.region r56_4) (.region r56_5))))))
def r56_7 : List O := [om 47 0 0,
 ⟨some 48,.build [(.int .i64 0),(.int .i64 0)] [],none,0,[48]⟩,
 ⟨some 49,.nilck (.t 47),none,3,[49,47]⟩,
 oa 50 1 49 7,
 ost 2 50 48 15]
def r56_8 : List O := [om 51 0 0,
 ⟨some 52,.nilck (.t 51),none,1,[52,51]⟩,
 oa 53 4 52 3,
 ⟨none,.store 1 (.t 53) (.k (.bool true)),none,7,[53]⟩]
def c56 : C := .seq (.seq (.region r56_0) (.block 0 (.loop b56_6))) (.seq (.region r56_7) (.region r56_8))
def fn56 : Fn := ⟨54,[],c56⟩
def r59_0 : List O := [om 4 0 0,
 ⟨some 5,.call (.k (.func 55 [] [])) [(.t 4)],none,1,[5,4]⟩,
 ono 6 5 3]
def r59_1 : List O := [om 7 0 0,
 ⟨some 8,.nilck (.t 7),none,1,[8,7]⟩,
 oa 9 0 8 3,
 ol 10 9 7,
 ⟨some 11,.call (.k (.func 93 [] [])) [(.t 10)],none,15,[11,10]⟩,
 ost 1 3 11 31]
def r59_2 : List O := [⟨some 12,.mkF 94 [] [(.t 3)],none,0,[12,3]⟩,
 om 2 12 1]
def c59 : C := .seq (.region [⟨some 2,.mv (.k .nilFunc),none,0,[2]⟩]) (.seq (.region [⟨some 3,.alloc 136 [(.slice none 0 0 false)],none,0,[3]⟩]) (.seq (.seq (.region r59_0) (.cond (.t 6) (.region r59_1) (.skip))) (.seq (.region r59_2) (.ret))))
def fn59 : Fn := ⟨13,[.t 2],c59⟩
def r60_0 : List O := [⟨some 4,.mv (.k (.str [])),none,0,[4]⟩,
 ⟨some 5,.mv (.k (.bool false)),none,1,[5]⟩]
def r60_1 : List O := [om 6 0 0,
 om 7 1 0,
 ⟨some 8,.call (.k (.func 95 [] [])) [(.t 6),(.t 7)],none,3,[8,6,7]⟩,
 ox 9 8 0 7,
 ox 10 8 1 7,
 om 4 9 31,
 om 5 10 63]
def c60 : C := .seq (.region r60_0) (.seq (.region r60_1) (.ret))
def fn60 : Fn := ⟨11,[.t 4,.t 5],c60⟩
def r64_0 : List O := [⟨some 2,.mv (.k (.slice none 0 0 false)),none,0,[2]⟩,
 ⟨some 3,.mv (.k (.int .i64 0)),none,1,[3]⟩,
 ⟨some 4,.mv (.k (.int .i64 0)),none,3,[4]⟩]
def r64_1 : List O := [om 10 0 0,
 ⟨some 11,.call (.k (.func 101 [] [])) [(.t 10)],none,1,[11,10]⟩,
 om 9 11 3,
 ox 12 9 0 7,
 ox 13 9 1 7,
 ox 14 9 2 7,
 om 5 12 15,
 om 6 13 95,
 om 7 14 255]
def r64_2 : List O := [om 16 7 0,
 ⟨some 17,.bin .neq (some .int) true (.t 16) (.k (.int .i64 0)),none,1,[17,16]⟩,
 om 15 17 3]
def r64_3 : List O := [om 18 7 0,
 ⟨some 2,.mv (.k (.slice none 0 0 false)),none,0,[2]⟩,
 ⟨some 3,.mv (.k (.int .i64 0)),none,2,[3]⟩,
 om 4 18 7]
def r64_4 : List O := [om 20 5 0,
 ⟨some 21,.bin .lss (some .int) true (.t 20) (.k (.int .i64 0)),none,1,[21,20]⟩,
 om 19 21 3]
def r64_5 : List O := [⟨some 2,.mv (.k (.slice none 0 0 false)),none,0,[2]⟩,
 ⟨some 3,.mv (.k (.int .i64 0)),none,1,[3]⟩,
 ⟨some 4,.mv (.k (.int .i64 11)),none,3,[4]⟩]
def r64_6 : List O := [om 23 5 0,
 ⟨some 24,.bin .gtr (some .int) true (.t 23) (.k (.int .i64 1048576)),none,1,[24,23]⟩,
 om 22 24 3]
def r64_7 : List O := [⟨some 2,.mv (.k (.slice none 0 0 false)),none,0,[2]⟩,
 ⟨some 3,.mv (.k (.int .i64 0)),none,1,[3]⟩,
 ⟨some 4,.mv (.k (.int .i64 3)),none,3,[4]⟩]
def r64_8 : List O := [om 26 5 0,
 ⟨some 27,.bin .add (some .int) true (.t 26) (.k (.int .i64 4)),none,1,[27,26]⟩,
 om 28 0 0,
 oL 29 28 4,
 om 30 6 0,
 ⟨some 31,.bin .sub (some .int) false (.t 29) (.t 30),none,28,[31,29,30]⟩,
 ⟨some 32,.bin .gtr (some .int) false (.t 27) (.t 31),none,63,[32,27,31]⟩,
 om 25 32 127]
def r64_9 : List O := [⟨some 2,.mv (.k (.slice none 0 0 false)),none,0,[2]⟩,
 ⟨some 3,.mv (.k (.int .i64 0)),none,1,[3]⟩,
 ⟨some 4,.mv (.k (.int .i64 10)),none,3,[4]⟩]
def r64_10 : List O := [om 33 6 0,
 om 34 5 0,
 ⟨some 35,.bin .add (some .int) false (.t 33) (.t 34),none,3,[35,33,34]⟩,
 om 8 35 7]
def r64_11 : List O := [om 36 0 0,
 om 37 8 0,
 om 38 8 0,
 ⟨some 39,.bin .add (some .int) true (.t 38) (.k (.int .i64 4)),none,4,[39,38]⟩,
 ⟨some 40,.slL 1 (.t 36) (some (.t 37)) (some (.t 39)) none,none,15,[40,36,37,39]⟩,
 om 41 0 0,
 om 42 6 0,
 om 43 8 0,
 ⟨some 44,.slL 1 (.t 41) (some (.t 42)) (some (.t 43)) none,none,224,[44,41,42,43]⟩,
 ⟨some 45,.bslice 45 1 [(.slice none 0 0 false)] [(0,1,(.t 44))],none,480,[45,44]⟩,
 ⟨some 46,.call (.k (.func 104 [] [])) [(.t 45)],none,992,[46,45]⟩,
 ⟨some 47,.call (.k (.func 103 [] [])) [(.t 46)],none,2016,[47,46]⟩,
 ⟨some 48,.call (.k (.func 102 [] [])) [(.t 40),(.t 47)],none,4095,[48,40,47]⟩,
 ono 49 48 8191]
theorem k64_11 (lo : Nat) (hx : XDK P E ro L K Q lo h [true,true,true,true,true,true,true,true,true,true,true,true,true,true] r64_11 ρ h) : XD P E ro L r64_11 K ρ h Q := XD_keeps rfl rfl hx
def r64_12 : List O := [⟨some 2,.mv (.k (.slice none 0 0 false)),none,0,[2]⟩,
 ⟨some 3,.mv (.k (.int .i64 0)),none,1,[3]⟩,
 ⟨some 4,.mv (.k (.int .i64 12)),none,3,[4]⟩]
def r64_13 : List O := [om 50 0 0,
 om 51 6 0,
 om 52 8 0,
 ⟨some 53,.slL 1 (.t 50) (some (.t 51)) (some (.t 52)) none,none,7,[53,50,51,52]⟩,
 ⟨some 54,.call (.k (.func 42 [] [])) [(.t 53)],none,15,[54,53]⟩,
 om 55 8 0,
 ⟨some 56,.bin .add (some .int) true (.t 55) (.k (.int .i64 4)),none,32,[56,55]⟩,
 om 2 54 31,
 om 3 56 255,
 ⟨some 4,.mv (.k (.int .i64 0)),none,511,[4]⟩]
def c64 : C := .seq (.region r64_0) (.seq (.region r64_1) (.seq (.block 0 (.seq (.region r64_2) (.cond (.t 15) (.seq (.region r64_3) (.ret)) (.seq (.region r64_4) (.cond (.t 19) (.seq (.region r64_5) (.ret)) (.seq (.region r64_6) (.cond (.t 22) (.seq (.region r64_7) (.ret)) (.seq (.region r64_8) (.cond (.t 25) (.seq (.region r64_9) (.ret)) (.skip)))))))))) (.seq (.region r64_10) (.seq (.seq (.draw r64_11) (.cond (.t 49) (.seq (.region r64_12) (.ret)) (.skip))) (.seq (.region r64_13) (.ret))))))
def fn64 : Fn := ⟨57,[.t 2,.t 3,.t 4],c64⟩
def r93_0 : List O := [om 3 0 0,
 ⟨some 4,.call (.k (.func 124 [] [])) [(.t 3)],none,1,[4,3]⟩,
 ⟨some 5,.call (.k (.func 123 [] [])) [(.t 4)],none,3,[5,4]⟩,
 om 2 5 7]
def c93 : C := .seq (.region [⟨some 2,.mv (.k (.slice none 0 0 false)),none,0,[2]⟩]) (.seq (.region r93_0) (.ret))
def fn93 : Fn := ⟨6,[.t 2],c93⟩
def r94_0 : List O := [ol 5 1 0,
 oL 6 5 1,
 ⟨some 7,.mv (.k (.int .i64 0)),none,0,[7]⟩]
def r94_1 : List O := [oi 9 1 5 7 0,
 ol 10 9 1,
 om 4 10 3]
def r94_2 : List O := [om 11 0 0,
 om 12 4 0,
 ⟨some 13,.call (.t 11) [(.t 12)],none,3,[13,11,12]⟩,
 ono 14 13 7]
def r94_3 : List O := [op1 15 7 0,
 om 7 15 1]
abbrev e94_4 : C := .seq (.region [olt 8 7 6 0]) (.seq (.cond (.t 8) (.skip) (.exit 0)) (.seq (.block 1 (.seq (.region r94_1) (.seq (.region r94_2) (.cond (.t 14) (.ret) (.skip))))) (.region r94_3)))
def b94_4 : C := e94_4
theorem u94_4 : XL P E ro L b94_4 K ρ h Q = X P E ro L (.c e94_4 :: .l b94_4 :: K) ρ h Q := XL_unroll b94_4
def c94 : C := .seq (.region r94_0) (.block 0 (.loop b94_4))
def fn94 : Fn := ⟨16,[],c94⟩
def r101_0 : List O := [⟨some 2,.mv (.k (.int .i64 0)),none,0,[2]⟩,
 ⟨some 3,.mv (.k (.int .i64 0)),none,1,[3]⟩,
 ⟨some 4,.mv (.k (.int .i64 0)),none,3,[4]⟩]
def r101_1 : List O := [om 10 8 0,
 om 6 10 1]
def r101_2 : List O := [om 11 6 0,
 om 12 0 0,
 oL 13 12 2,
 ⟨some 14,.bin .geq (some .int) false (.t 11) (.t 13),none,7,[14,11,13]⟩]
def r101_3 : List O := [⟨some 2,.mv (.k (.int .i64 0)),none,0,[2]⟩,
 ⟨some 3,.mv (.k (.int .i64 0)),none,1,[3]⟩,
 ⟨some 4,.mv (.k (.int .i64 10)),none,3,[4]⟩]
def r101_4 : List O := [om 15 0 0,
 om 16 6 0,
 oi 17 1 15 16 3,
 ol 18 17 7,
 om 7 18 15]
def r101_5 : List O := [om 19 6 0,
 ⟨some 20,.bin .eql (some .int) true (.t 19) (.k (.int .i64 9)),none,1,[20,19]⟩,
 om 21 20 3,
 og 22 7 21 7,
 ⟨some 23,.bin .gtr (some .int) true (.t 22) (.k (.int .u8 1)),some (21,true),15,[23,21,22]⟩,
 oe 24 23 21 31,
 om 25 24 63,
 ⟨some 26,.mv (.t 7),some (25,false),127,[26,25,7]⟩,
 ⟨some 27,.bin .eql (some .int) true (.t 26) (.k (.int .u8 0)),some (25,false),255,[27,25,26]⟩,
 ⟨some 28,.mv (.t 27),some (25,false),511,[28,25,27]⟩,
 og 29 6 28 1023,
 ⟨some 30,.bin .gtr (some .int) true (.t 29) (.k (.int .i64 0)),some (28,true),2047,[30,28,29]⟩,
 ⟨some 31,.pick (.t 28) (.t 30) (.k (.bool false)),some (25,false),4095,[31,25,28,30]⟩,
 ⟨some 32,.pick (.t 25) (.k (.bool true)) (.t 31),none,8191,[32,25,31]⟩]
def r101_6 : List O := [⟨some 2,.mv (.k (.int .i64 0)),none,0,[2]⟩,
 ⟨some 3,.mv (.k (.int .i64 0)),none,1,[3]⟩,
 ⟨some 4,.mv (.k (.int .i64 11)),none,3,[4]⟩]
def r101_7 : List O := [om 33 5 0,
 om 34 7 0,
 ⟨some 35,.bin .and (some .int) true (.t 34) (.k (.int .u8 127)),none,2,[35,34]⟩,
 ⟨some 36,.cvt .u64 (.t 35),none,6,[36,35]⟩,
 om 37 6 0,
 ⟨some 38,.bin .mul (some .int) true (.k (.int .i64 7)) (.t 37),none,16,[38,37]⟩,
 ⟨some 39,.bin .shl (some .int) false (.t 36) (.t 38),none,62,[39,36,38]⟩,
 ⟨some 40,.bin .or (some .int) false (.t 33) (.t 39),none,127,[40,33,39]⟩,
 om 5 40 255]
def r101_8 : List O := [om 41 7 0,
 ⟨some 42,.bin .lss (some .int) true (.t 41) (.k (.int .u8 128)),none,1,[42,41]⟩]
def r101_9 : List O := [om 43 5 0,
 ⟨some 44,.bin .and (some .int) true (.t 43) (.k (.int .u64 1)),none,1,[44,43]⟩,
 ⟨some 45,.bin .eql (some .int) true (.t 44) (.k (.int .u64 1)),none,3,[45,44]⟩]
def r101_10 : List O := [om 46 5 0,
 ⟨some 47,.bin .shr (some .int) true (.t 46) (.k (.int .u64 1)),none,1,[47,46]⟩,
 ⟨some 48,.un .xor (.t 47),none,3,[48,47]⟩,
 ⟨some 49,.cvt .i64 (.t 48),none,7,[49,48]⟩,
 om 50 6 0,
 op1 51 50 16,
 om 2 49 15,
 om 3 51 127,
 ⟨some 4,.mv (.k (.int .i64 0)),none,255,[4]⟩]
def r101_11 : List O := [om 52 5 0,
 ⟨some 53,.bin .shr (some .int) true (.t 52) (.k (.int .u64 1)),none,1,[53,52]⟩,
 ⟨some 54,.cvt .i64 (.t 53),none,3,[54,53]⟩,
 om 55 6 0,
 op1 56 55 8,
 om 2 54 7,
 om 3 56 63,
 ⟨some 4,.mv (.k (.int .i64 0)),none,127,[4]⟩]
def r101_12 : List O := [op1 57 8 0,
 om 8 57 1]
abbrev e101_13 : C := .seq (.region [⟨some 9,.bin .lss (some .int) true (.t 8) (.k (.int .i64 10)),none,0,[9,8]⟩]) (.seq (.cond (.t 9) (.skip) (.exit 0)) (.seq (.block 1 (.seq (.region r101_1) (.seq (.seq (.region r101_2) (.cond (.t 14) (.seq (.region r101_3) (.ret)) (.skip))) (.seq (.region r101_4) (.seq (.seq (.region r101_5) (.cond (.t 32) (.seq (.region r101_6) (.ret)) (.skip))) (.seq (.region r101_7) (.seq (.region r101_8) (.cond (.t 42) (.seq (.seq (.region r101_9) (.cond (.t 45) (.seq (.region r101_10) (.ret)) (.skip))) (.seq (.region r101_11) (.ret))) (.skip))))))))) (.region r101_12)))
def b101_13 : C := e101_13
theorem u101_13 : XL P E ro L b101_13 K ρ h Q = X P E ro L (.c e101_13 :: .l b101_13 :: K) ρ h Q := XL_unroll b101_13
def r101_14 : List O := [⟨some 2,.mv (.k (.int .i64 0)),none,0,[2]⟩,
 ⟨some 3,.mv (.k (.int .i64 0)),none,1,[3]⟩,
 ⟨some 4,.mv (.k (.int .i64 11)),none,3,[4]⟩]
def c101 : C := .seq (.region r101_0) (.seq (.region [⟨some 5,.mv (.k (.int .u64 0)),none,0,[5]⟩]) (.seq (.seq (.region [⟨some 8,.mv (.k (.int .i64 0)),none,0,[8]⟩]) (.block 0 (.loop b101_13))) (.seq (.region r101_14) (.ret))))
def fn101 : Fn := ⟨58,[.t 2,.t 3,.t 4],c101⟩
def r102_0 : List O := [om 6 0 0,
 oL 7 6 1,
 om 8 1 0,
 oL 9 8 4,
 ⟨some 10,.bin .neq (some .int) false (.t 7) (.t 9),none,15,[10,7,9]⟩]
def r102_1 : List O := [om 11 0 0,
 oL 12 11 1,
 ⟨some 13,.mv (.k (.int .i64 0)),none,0,[13]⟩]
def r102_2 : List O := [om 15 13 0,
 om 5 15 1]
def r102_3 : List O := [om 16 0 0,
 om 17 5 0,
 oi 18 1 16 17 3,
 ol 19 18 7,
 om 20 1 0,
 om 21 5 0,
 oi 22 1 20 21 48,
 ol 23 22 112,
 ⟨some 24,.bin .neq (some .int) false (.t 19) (.t 23),none,255,[24,19,23]⟩]
theorem d102_3 : XD P E ro L r102_3 K ρ h Q = XO P E ro L r102_3 K ρ h Q := XD_still rfl
def r102_4 : List O := [op1 25 13 0,
 om 13 25 1]
abbrev e102_5 : C := .seq (.region [olt 14 13 12 0]) (.seq (.cond (.t 14) (.skip) (.exit 0)) (.seq (.block 1 (.seq (.region r102_2) (.seq (.draw r102_3) (.cond (.t 24) (.seq (.region [⟨some 4,.mv (.k (.bool false)),none,0,[4]⟩]) (.ret)) (.skip))))) (.region r102_4)))
def b102_5 : C := e102_5
theorem u102_5 : XL P E ro L b102_5 K ρ h Q = X P E ro L (.c e102_5 :: .l b102_5 :: K) ρ h Q := XL_unroll b102_5
def c102 : C := .seq (.region [⟨some 4,.mv (.k (.bool false)),none,0,[4]⟩]) (.seq (.seq (.region r102_0) (.cond (.t 10) (.seq (.region [⟨some 4,.mv (.k (.bool false)),none,0,[4]⟩]) (.ret)) (.skip))) (.seq (.seq (.region r102_1) (.block 0 (.loop b102_5))) (.seq (.region [⟨some 4,.mv (.k (.bool true)),none,0,[4]⟩]) (.ret))))
def fn102 : Fn := ⟨26,[.t 4],c102⟩
def r124_0 : List O := [⟨some 1,.box 59 (.t 0),none,0,[1,0]⟩,
 ⟨some 2,.mv (.k .nilFunc),none,0,[2]⟩]
def r124_1 : List O := [⟨some 3,.mkF 153 [] [(.t 1)],none,0,[3,1]⟩,
 om 2 3 1]
def c124 : C := .seq (.region r124_0) (.seq (.region r124_1) (.ret))
def fn124 : Fn := ⟨4,[.t 2],c124⟩
end Go.AM.Wd
namespace Go.AM.We
variable {P : Program} {E : Env} {ro : Option Nat} {L : Nat} {K : List Fr} {ρ : Nat → V} {h : H} {Q : Po}
def r4_0 : List O := [⟨some 14,.call (.k (.func 6 [] [])) [],none,0,[14]⟩,
 ono 15 14 1]
def r4_1 : List O := [⟨some 17,.call (.k (.func 15 [] [])) [(.k (.int .i64 4194304))],none,0,[17]⟩,
 om 16 17 1,
 ox 18 16 0 3,
 ox 19 16 1 3,
 om 3 18 7,
 om 4 19 31]
def r4_2 : List O := [om 20 4 0,
 ono 21 20 1]
def r4_3 : List O := [om 22 0 0,
 oL 23 22 1,
 ⟨some 24,.mv (.k (.int .i64 0)),none,0,[24]⟩]
def r4_4 : List O := [oi 26 1 22 24 0,
 ol 27 26 1,
 om 7 27 3]
def r4_5 : List O := [om 28 5 0,
 ⟨some 29,.bslice 5 0 [] [],none,0,[29]⟩,
 om 30 7 0,
 ⟨some 31,.app 5 1 1 (.t 29) (.t 30),none,6,[31,29,30]⟩,
 ⟨some 32,.bslice 45 1 [(.slice none 0 0 false)] [(0,1,(.t 31))],none,14,[32,31]⟩,
 ⟨some 33,.app 45 1 24 (.t 28) (.t 32),none,31,[33,28,32]⟩,
 om 5 33 63]
def r4_6 : List O := [op1 34 24 0,
 om 24 34 1]
def b4_7 : C := .seq (.region [olt 25 24 23 0]) (.seq (.cond (.t 25) (.skip) (.exit 0)) (.seq (.block 1 (.seq (.region r4_4) (.region r4_5))) (.region r4_6)))
def r4_8 : List O := [om 35 3 0,
 ⟨some 36,.nilck (.t 35),none,1,[36,35]⟩,
 oa 37 1 36 3,
 ol 38 37 7,
 om 39 5 0,
 ⟨some 40,.call (.k (.func 9 [] [])) [(.t 38),(.t 39)],none,31,[40,38,39]⟩,
 om 41 3 0,
 ⟨some 42,.nilck (.t 41),none,64,[42,41]⟩,
 oa 43 3 42 192,
 ol 44 43 448,
 om 45 0 0,
 ⟨some 46,.call (.k (.func 16 [] [])) [(.t 44),(.t 45)],none,2047,[46,44,45]⟩,
 ⟨some 47,.bin .neq (some .int) false (.t 40) (.t 46),none,4095,[47,40,46]⟩]
def r4_9 : List O := [om 48 5 0,
 oL 49 48 1,
 ⟨some 50,.mv (.k (.int .i64 0)),none,0,[50]⟩]
def r4_10 : List O := [oi 52 1 48 50 0,
 ol 53 52 1,
 om 9 53 3]
def r4_11 : List O := [om 54 9 0,
 oL 55 54 1,
 ⟨some 56,.mv (.k (.int .i64 0)),none,0,[56]⟩]
def r4_12 : List O := [om 58 56 0,
 om 10 58 1]
def r4_13 : List O := [om 59 9 0,
 om 60 10 0,
 oi 61 1 59 60 3,
 ol 62 61 7,
 ⟨some 63,.bin .xor (some .int) true (.t 62) (.k (.int .u8 255)),none,15,[63,62]⟩,
 oi 64 1 59 60 31,
 ost 1 64 63 63]
def r4_14 : List O := [op1 65 56 0,
 om 56 65 1]
def b4_15 : C := .seq (.region [olt 57 56 55 0]) (.seq (.cond (.t 57) (.skip) (.exit 4)) (.seq (.block 5 (.seq (.region r4_12) (.region r4_13))) (.region r4_14)))
def r4_16 : List O := [op1 66 50 0,
 om 50 66 1]
def b4_17 : C := .seq (.region [olt 51 50 49 0]) (.seq (.cond (.t 51) (.skip) (.exit 2)) (.seq (.block 3 (.seq (.region r4_10) (.seq (.region r4_11) (.block 4 (.loop b4_15))))) (.region r4_16)))
def r4_18 : List O := [om 67 3 0,
 ⟨some 68,.nilck (.t 67),none,1,[68,67]⟩,
 oa 69 1 68 3,
 ol 70 69 7,
 ⟨some 71,.call (.k (.func 14 [] [])) [(.t 70)],none,15,[71,70]⟩]
def a4_19 : C := .region [om 12 73 0]
def r4_20 : List O := [om 74 12 0,
 oL 75 74 1,
 ⟨some 76,.mv (.k (.int .i64 0)),none,0,[76]⟩]
def r4_21 : List O := [om 78 76 0,
 om 13 78 1]
def r4_22 : List O := [om 79 12 0,
 om 80 13 0,
 oi 81 1 79 80 3,
 ol 82 81 7,
 ⟨some 83,.bin .xor (some .int) true (.t 82) (.k (.int .u8 255)),none,15,[83,82]⟩,
 oi 84 1 79 80 31,
 ost 1 84 83 63]
def r4_23 : List O := [op1 85 76 0,
 om 76 85 1]
def b4_24 : C := .seq (.region [olt 77 76 75 0]) (.seq (.cond (.t 77) (.skip) (.exit 8)) (.seq (.block 9 (.seq (.region r4_21) (.region r4_22))) (.region r4_23)))
def b4_25 : C := .block 7 (.seq (.region r4_20) (.block 8 (.loop b4_24)))
def r4_26 : List O := [om 86 3 0,
 ⟨some 87,.call (.k (.func 17 [] [])) [(.t 86),(.k (.int .i64 0))],none,1,[87,86]⟩,
 om 2 87 3]
def c4 : C := .seq (.region [⟨some 2,.mv (.k (.bool false)),none,0,[2]⟩]) (.seq (.seq (.region r4_0) (.cond (.t 15) (.seq (.region [⟨some 2,.mv (.k (.bool false)),none,0,[2]⟩]) (.ret)) (.skip))) (.seq (.region r4_1) (.seq (.seq (.region r4_2) (.cond (.t 21) (.seq (.region [⟨some 2,.mv (.k (.bool false)),none,0,[2]⟩]) (.ret)) (.skip))) (.seq (.region [⟨some 5,.mv (.k (.slice none 0 0 false)),none,0,[5]⟩]) (.seq (.seq (.region r4_3) (.block 0 (.loop b4_7))) (.seq (.seq (.draw r4_8) (.cond (.t 47) (.seq (.region [⟨some 2,.mv (.k (.bool false)),none,0,[2]⟩]) (.ret)) (.skip))) (.seq (.seq (.region r4_9) (.block 2 (.loop b4_17))) (.seq (.seq (.region r4_18) (.block 6 (.range (.t 71) [72,73] a4_19 b4_25))) (.seq (.region r4_26) (.ret))))))))))
def r22_0 : List O := [om 5 0 0,
 ⟨some 6,.b2s (.t 5),none,1,[6,5]⟩,
 om 7 1 0,
 ⟨some 8,.b2s (.t 7),none,4,[8,7]⟩,
 ⟨some 9,.bin .eql (some .str) false (.t 6) (.t 8),none,15,[9,6,8]⟩,
 om 4 9 31]
def c22 : C := .seq (.region [⟨some 4,.mv (.k (.bool false)),none,0,[4]⟩]) (.seq (.region r22_0) (.ret))
def fn22 : Fn := ⟨10,[.t 4],c22⟩
def r45_0 : List O := [om 6 0 0,
 ⟨some 7,.nilck (.t 6),none,1,[7,6]⟩,
 oa 8 5 7 3,
 ol 9 8 7]
def r45_1 : List O := [om 10 5 0,
 om 11 1 0,
 oL 12 11 2,
 olt 13 10 12 7]
def r45_2 : List O := [om 16 1 0,
 om 17 5 0,
 oi 18 1 16 17 3,
 ol 19 18 7,
 oL 20 19 15,
 ⟨some 21,.bin .eql (some .int) true (.t 20) (.k (.int .i64 0)),none,31,[21,20]⟩,
 om 22 21 63,
 ⟨some 23,.mv (.t 1),some (22,false),127,[23,22,1]⟩,
 ⟨some 24,.mv (.t 5),some (22,false),127,[24,22,5]⟩,
 ⟨some 25,.iadrL 1 (.t 23) (.t 24),some (22,false),511,[25,22,23,24]⟩,
 olf 26 25 22 1023,
 ⟨some 27,.lenL (.t 26),some (22,false),2047,[27,22,26]⟩,
 ⟨some 28,.bin .gtr (some .int) true (.t 27) (.k (.int .i64 65536)),some (22,false),4095,[28,22,27]⟩,
 ⟨some 29,.pick (.t 22) (.k (.bool true)) (.t 28),none,8191,[29,22,28]⟩]
def r45_3 : List O := [om 14 5 0,
 op1 15 14 1,
 om 5 15 3]
def b45_4 : C := .seq (.seq (.region r45_1) (.cond (.t 13) (.skip) (.exit 0))) (.seq (.block 1 (.seq (.region r45_2) (.cond (.t 29) (.seq (.region [⟨some 4,.mv (.k (.int .i64 50)),none,0,[4]⟩]) (.ret)) (.skip)))) (.region r45_3))
def r45_5 : List O := [om 30 1 0,
 oL 31 30 1,
 om 32 0 0,
 ⟨some 33,.nilck (.t 32),none,4,[33,32]⟩,
 oa 34 3 33 12,
 ol 35 34 28,
 ⟨some 36,.bin .sub (some .int) true (.k (.int .i64 1000000000000)) (.t 35),none,60,[36,35]⟩,
 ⟨some 37,.bin .gtr (some .int) false (.t 31) (.t 36),none,127,[37,31,36]⟩]
def c45 : C := .seq (.region [⟨some 4,.mv (.k (.int .i64 0)),none,0,[4]⟩]) (.seq (.seq (.region r45_0) (.cond (.t 9) (.seq (.region [⟨some 4,.mv (.k (.int .i64 51)),none,0,[4]⟩]) (.ret)) (.skip))) (.seq (.seq (.region [⟨some 5,.mv (.k (.int .i64 0)),none,0,[5]⟩]) (.block 0 (.loop b45_4))) (.seq (.seq (.region r45_5) (.cond (.t 37) (.seq (.region [⟨some 4,.mv (.k (.int .i64 3)),none,0,[4]⟩]) (.ret)) (.skip))) (.seq (.region [⟨some 4,.mv (.k (.int .i64 0)),none,0,[4]⟩]) (.ret)))))
def r46_0 : List O := [om 8 0 0,
 om 9 1 0,
 ⟨some 10,.bslice 9 1 [(.str [])] [(0,1,(.t 9))],none,2,[10,9]⟩,
 ⟨some 11,.call (.k (.func 72 [] [])) [(.t 8),(.t 10)],none,7,[11,8,10]⟩,
 om 7 11 15,
 ox 12 7 0 31,
 ox 13 7 1 31,
 om 5 12 63,
 om 6 13 255]
def r46_1 : List O := [om 14 6 0,
 ⟨some 15,.bin .neq (some .int) true (.t 14) (.k (.int .i64 0)),none,1,[15,14]⟩]
def r46_2 : List O := [om 16 6 0,
 om 4 16 1]
def r46_3 : List O := [om 17 0 0,
 ⟨some 18,.call (.k (.func 73 [] [])) [(.t 17)],none,1,[18,17]⟩]
def r46_4 : List O := [om 19 0 0,
 om 20 0 0,
 ⟨some 21,.nilck (.t 20),none,2,[21,20]⟩,
 oa 22 3 21 6,
 ol 23 22 14,
 ⟨some 24,.call (.k (.func 74 [] [])) [(.t 19),(.t 23)],none,31,[24,19,23]⟩]
def r46_5 : List O := [om 25 0 0,
 ⟨some 26,.nilck (.t 25),none,1,[26,25]⟩,
 oa 27 1 26 3,
 ol 28 27 7,
 om 29 5 0,
 om 30 0 0,
 ⟨some 31,.nilck (.t 30),none,32,[31,30]⟩,
 oa 32 1 31 96,
 ol 33 32 224,
 om 34 5 0,
 oi 35 3 33 34 992,
 oa 36 1 35 2016,
 ol 37 36 4064,
 oL 38 37 8160,
 oi 39 3 28 29 16383,
 oa 40 2 39 32767,
 ost 1 40 38 65535]
def c46 : C := .seq (.region [⟨some 4,.mv (.k (.int .i64 0)),none,0,[4]⟩]) (.seq (.region r46_0) (.seq (.seq (.region r46_1) (.cond (.t 15) (.seq (.region r46_2) (.ret)) (.skip))) (.seq (.seq (.region r46_3) (.cond (.t 18) (.seq (.region r46_4) (.seq (.region [⟨some 4,.mv (.k (.int .i64 7)),none,0,[4]⟩]) (.ret))) (.skip))) (.seq (.draw r46_5) (.seq (.region [⟨some 4,.mv (.k (.int .i64 0)),none,0,[4]⟩]) (.ret))))))
def r51_0 : List O := [om 3 0 0,
 ⟨some 4,.nilck (.t 3),none,1,[4,3]⟩,
 oa 5 2 4 3,
 ol 6 5 7,
 oL 7 6 15,
 ⟨some 8,.bin .eql (some .int) true (.t 7) (.k (.int .i64 0)),none,31,[8,7]⟩]
def r51_1 : List O := [om 9 0 0,
 ⟨some 10,.nilck (.t 9),none,1,[10,9]⟩,
 oa 11 3 10 3,
 ol 12 11 7,
 om 2 12 15]
def r51_2 : List O := [om 13 0 0,
 ⟨some 14,.nilck (.t 13),none,1,[14,13]⟩,
 oa 15 2 14 3,
 ol 16 15 7,
 ⟨some 17,.iadrL 4 (.t 16) (.k (.int .i64 0)),none,15,[17,16]⟩,
 oa 18 0 17 31,
 ol 19 18 63,
 om 2 19 127]
def c51 : C := .seq (.region [⟨some 2,.mv (.k (.int .i64 0)),none,0,[2]⟩]) (.seq (.seq (.region r51_0) (.cond (.t 8) (.seq (.region r51_1) (.ret)) (.skip))) (.seq (.region r51_2) (.ret)))
def r53_0 : List O := [om 3 0 0,
 ⟨some 4,.nilck (.t 3),none,1,[4,3]⟩,
 oa 5 2 4 3,
 ol 6 5 7,
 oL 7 6 15,
 om 2 7 31]
def c53 : C := .seq (.region [⟨some 2,.mv (.k (.int .i64 0)),none,0,[2]⟩]) (.seq (.region r53_0) (.ret))
def r75_0 : List O := [om 4 3 0,
 om 5 0 0,
 ⟨some 6,.lenS (.t 5),none,2,[6,5]⟩,
 olt 7 4 6 7]
def r75_1 : List O := [om 10 0 0,
 om 11 3 0,
 ⟨some 12,.idxS (.t 10) (.t 11),none,3,[12,10,11]⟩,
 ⟨some 13,.bin .lss (some .int) true (.t 12) (.k (.int .u8 97)),none,7,[13,12]⟩,
 om 14 13 15,
 ⟨some 15,.mv (.t 0),some (14,false),31,[15,14,0]⟩,
 ⟨some 16,.mv (.t 3),some (14,false),31,[16,14,3]⟩,
 ⟨some 17,.idxS (.t 15) (.t 16),some (14,false),127,[17,14,15,16]⟩,
 ⟨some 18,.bin .gtr (some .int) true (.t 17) (.k (.int .u8 122)),some (14,false),255,[18,14,17]⟩,
 ⟨some 19,.pick (.t 14) (.k (.bool true)) (.t 18),none,511,[19,14,18]⟩]
def r75_2 : List O := [om 8 3 0,
 op1 9 8 1,
 om 3 9 3]
def b75_3 : C := .seq (.seq (.region r75_0) (.cond (.t 7) (.skip) (.exit 0))) (.seq (.block 1 (.seq (.region r75_1) (.cond (.t 19) (.seq (.region [⟨some 2,.mv (.k (.bool false)),none,0,[2]⟩]) (.ret)) (.skip)))) (.region r75_2))
def r75_4 : List O := [om 20 0 0,
 ⟨some 21,.lenS (.t 20),none,1,[21,20]⟩,
 ⟨some 22,.bin .geq (some .int) true (.t 21) (.k (.int .i64 1)),none,3,[22,21]⟩,
 om 23 22 7,
 og 24 0 23 15,
 ⟨some 25,.lenS (.t 24),some (23,true),31,[25,23,24]⟩,
 ⟨some 26,.bin .leq (some .int) true (.t 25) (.k (.int .i64 20)),some (23,true),63,[26,23,25]⟩,
 oe 27 26 23 127,
 om 2 27 255]
def c75 : C := .seq (.region [⟨some 2,.mv (.k (.bool false)),none,0,[2]⟩]) (.seq (.seq (.region [⟨some 3,.mv (.k (.int .i64 0)),none,0,[3]⟩]) (.block 0 (.loop b75_3))) (.seq (.region r75_4) (.ret)))
def r80_0 : List O := [om 5 4 0,
 om 6 0 0,
 ⟨some 7,.nilck (.t 6),none,2,[7,6]⟩,
 oa 8 1 7 6,
 ol 9 8 14,
 oL 10 9 30,
 olt 11 5 10 63]
def r80_1 : List O := [om 14 3 0,
 om 15 0 0,
 ⟨some 16,.nilck (.t 15),none,2,[16,15]⟩,
 oa 17 1 16 6,
 ol 18 17 14,
 om 19 4 0,
 oi 20 3 18 19 62,
 oa 21 1 20 126,
 ol 22 21 254,
 oL 23 22 510,
 ⟨some 24,.bin .add (some .int) false (.t 14) (.t 23),none,1023,[24,14,23]⟩,
 om 3 24 2047]
def r80_2 : List O := [om 12 4 0,
 op1 13 12 1,
 om 4 13 3]
def b80_3 : C := .seq (.seq (.region r80_0) (.cond (.t 11) (.skip) (.exit 0))) (.seq (.block 1 (.region r80_1)) (.region r80_2))
def r80_4 : List O := [om 25 3 0,
 om 2 25 1]
def c80 : C := .seq (.region [⟨some 2,.mv (.k (.int .i64 0)),none,0,[2]⟩]) (.seq (.region [⟨some 3,.mv (.k (.int .i64 0)),none,0,[3]⟩]) (.seq (.seq (.region [⟨some 4,.mv (.k (.int .i64 0)),none,0,[4]⟩]) (.block 0 (.loop b80_3))) (.seq (.region r80_4) (.ret))))
end Go.AM.We
namespace Go.AM.Wc
open Go.AM Go.AM.Wd Go.AM.We
variable {P : Program} {E : Env} {T : H → Prop}
structure Fd (P : Program) (E : Env) : Prop where
 f22 : E.fns 22 = some fn22
 p22 : E.prim 22 = none
 f19 : E.fns 19 = some fn19
 p19 : E.prim 19 = none
 f21 : E.fns 21 = some fn21
 p21 : E.prim 21 = none
 f28 : E.fns 28 = some fn28
 p28 : E.prim 28 = none
 f59 : E.fns 59 = some fn59
 p59 : E.prim 59 = none
 f93 : E.fns 93 = some fn93
 p93 : E.prim 93 = none
 f94 : E.fns 94 = some fn94
 p94 : E.prim 94 = none
 f124 : E.fns 124 = some fn124
 p124 : E.prim 124 = none
theorem wrap8 (u : Nat) : IntKind.u8.wrap (u : Int) = ((u % 256 : Nat) : Int) := by
 simp [IntKind.wrap,IntKind.signed,IntKind.bits,IntKind.max]
end Go.AM.Wc
namespace Go.AM.Wc
open Go.AM Go.AM.Wd Go.AM.We
variable {P : Program} {E : Env} {T : H → Prop}
theorem Nx.app {h0 h h1 : H} {r x : V} {cs ds : List V} (a : Nx h0 h r cs) (k1 : Kp h h1) (hl : lenV x = some ds.length) (he : elemsV h1 1 ds.length x = some ds) (hd : Bs ds) (hm : cs.length + ds.length ≤ 4294967296) (h1p : 1 ≤ cs.length) :
  ∃ r' h2,appV h1 5 1 1 r x = some (.eff r' h2) ∧ Nx h0 h2 r' (cs ++ ds) ∧ Kp h0 h2 := by
 obtain ⟨b,rfl,hb,hsz,hg,k⟩ := a
 have ow : Ow h0.size h1 ([] ++ (fpt (some b) 5 cs ++ [])) := by
  refine ⟨fun p hp => ?_,fun p hp => ?_,by simp [fpt]⟩
  ·simp only [fpt,List.nil_append,List.append_nil,List.mem_singleton] at hp; subst hp; exact k1.of hg
  ·simp only [fpt,List.nil_append,List.append_nil,List.mem_singleton] at hp; subst hp; exact hsz
 obtain ⟨b',h2,e1,e2,e3,e4,_⟩ := Ow.appc (bytes := 1) (ds := ds) (x := x) ow (by simp) (Nat.le_trans k.size k1.size) hl he hd.one (by omega)
 cases b' with
 | none => have := e3 rfl; simp at this; rw [this.1] at h1p; simp at h1p
 | some b' =>
  have kk : Kp h0 h2 := Keeps.trans (n := h0.size) (Kp.trans k k1) e4
  exact ⟨_,h2,e1,nx_of e2 (hb.app hd) kk,kk⟩
end Go.AM.Wc
namespace Go.AM.Wc
open Go.AM Go.AM.Wd Go.AM.We
open Go.Lib (itoa decDigits)
variable {P : Program} {E : Env} {T : H → Prop}
theorem dval_acc : ∀ (l : List UInt8) (a : Nat),l.foldl (fun a c => a * 10 + (c.toNat - 48)) a = a * 10 ^ l.length + dval l
 | [],a => by simp [dval]
 | c :: l,a => by
  have h1 := dval_acc l (a * 10 + (c.toNat - 48))
  have h2 : dval (c :: l) = (0 * 10 + (c.toNat - 48)) * 10 ^ l.length + dval l := dval_acc l (0 * 10 + (c.toNat - 48))
  rw [List.foldl_cons,h1,h2,List.length_cons,Nat.pow_succ,Nat.add_mul,Nat.zero_mul,Nat.zero_add]
  have : a * 10 * 10 ^ l.length = a * (10 ^ l.length * 10) := by rw [Nat.mul_assoc,Nat.mul_comm 10]
  omega
theorem dval_cons (c : UInt8) (l : List UInt8) : dval (c :: l) = (c.toNat - 48) * 10 ^ l.length + dval l := by
 have := dval_acc l (0 * 10 + (c.toNat - 48))
 simpa [dval] using this
def dig (c : UInt8) : Prop := 48 ≤ c.toNat ∧ c.toNat ≤ 57
theorem dval_lt : ∀ (l : List UInt8),(∀ c ∈ l,dig c) → dval l < 10 ^ l.length
 | [],_ => by simp [dval]
 | c :: l,h => by
  have h1 := dval_lt l fun x hx => h x (List.mem_cons_of_mem _ hx)
  have hc := h c List.mem_cons_self
  rw [dval_cons,List.length_cons,Nat.pow_succ]
  have h2 : (c.toNat - 48) * 10 ^ l.length ≤ 9 * 10 ^ l.length := Nat.mul_le_mul_right _ (by have := hc.2; omega)
  omega
theorem less_dig : ∀ (x y : List UInt8),x.length = y.length → (∀ c ∈ x,dig c) → (∀ c ∈ y,dig c) → dval x < dval y → Op.bytesLess x y = true
 | [],[],_,_,_,h => by simp [dval] at h
 | [],_ :: _,h,_,_,_ => by simp at h
 | _ :: _,[],h,_,_,_ => by simp at h
 | a :: x,b :: y,hl,hx,hy,h => by
  have ha := hx a List.mem_cons_self
  have hb := hy b List.mem_cons_self
  have h1 := dval_lt x fun c hc => hx c (List.mem_cons_of_mem _ hc)
  have h2 := dval_lt y fun c hc => hy c (List.mem_cons_of_mem _ hc)
  have hl' : x.length = y.length := by simpa using hl
  rw [dval_cons,dval_cons,hl'] at h
  rw [hl'] at h1
  simp only [Op.bytesLess,Bool.or_eq_true,Bool.and_eq_true,decide_eq_true_eq,beq_iff_eq]
  rcases Nat.lt_trichotomy a.toNat b.toNat with hab | hab | hab
  ·exact .inl (UInt8.lt_iff_toNat_lt.2 hab)
  ·refine .inr ⟨UInt8.toNat_inj.1 hab,less_dig x y hl' (fun c hc => hx c (List.mem_cons_of_mem _ hc)) (fun c hc => hy c (List.mem_cons_of_mem _ hc)) ?_⟩
   rw [hab] at h; omega
  ·exfalso
   have : (b.toNat - 48 + 1) * 10 ^ y.length ≤ (a.toNat - 48) * 10 ^ y.length := Nat.mul_le_mul_right _ (by have := hb.1; omega)
   rw [Nat.add_mul] at this
   omega
theorem less_pre (p x y : List UInt8) : Op.bytesLess (p ++ x) (p ++ y) = Op.bytesLess x y := by
 induction p with
 | nil => rfl
 | cons a p ih =>
  have : ¬ a < a := UInt8.lt_irrefl a
  simp [Op.bytesLess,ih,this]
theorem less_self : ∀ x : List UInt8,Op.bytesLess x x = false
 | [] => rfl
 | a :: x => by
  have : ¬ a < a := UInt8.lt_irrefl a
  simp [Op.bytesLess,less_self x,this]
theorem dig_dec : ∀ u, ∀ c ∈ decDigits u,dig c := by
 intro u
 induction u using Nat.strongRecOn with
 | _ u ih =>
  rw [decDigits]
  split
  ·rename_i h
   intro c hc
   rw [List.mem_singleton] at hc
   subst hc
   have : (UInt8.ofNat (48 + u)).toNat = 48 + u := by rw [UInt8.toNat_ofNat']; omega
   unfold dig; omega
  ·rename_i h
   intro c hc
   rcases List.mem_append.1 hc with hc | hc
   ·exact ih _ (by omega) c hc
   ·rw [List.mem_singleton] at hc
    subst hc
    have : (UInt8.ofNat (48 + u % 10)).toNat = 48 + u % 10 := by rw [UInt8.toNat_ofNat']; omega
    unfold dig; omega
def digs (n : Nat) : List UInt8 := List.replicate (12 - (decDigits n).length) 48 ++ decDigits n
theorem digs_len {n : Nat} (h : n ≤ 999999999999) : (digs n).length = 12 := by
 have : (decDigits n).length ≤ 12 := dec_le 11 n (by omega)
 simp only [digs,List.length_append,List.length_replicate]; omega
theorem digs_dig (n : Nat) : ∀ c ∈ digs n,dig c := by
 intro c hc
 rcases List.mem_append.1 hc with hc | hc
 ·rw [List.eq_of_mem_replicate hc]; unfold dig; decide
 ·exact dig_dec n c hc
theorem digs_val (n : Nat) : dval (digs n) = n := by unfold digs; rw [dval_zeros,dval_dec]
theorem segN_digs {n : Nat} (h : n ≤ 999999999999) : segN n = [108,111,103,46] ++ digs n := segN_eq h
theorem segN_less {n m : Nat} (h : n < m) (hm : m ≤ 999999999999) : Op.bytesLess (segN n) (segN m) = true := by
 rw [segN_digs (by omega),segN_digs hm,less_pre]
 exact less_dig _ _ (by rw [digs_len (by omega),digs_len hm]) (digs_dig n) (digs_dig m) (by rw [digs_val,digs_val]; exact h)
end Go.AM.Wc
namespace Go.AM
def BK (B : List Nat) (h h' : H) : Prop := ∀ i ∈ B,h'.get i = h.get i
theorem BK.refl (B : List Nat) (h : H) : BK B h h := fun _ _ => rfl
theorem BK.trans {B : List Nat} {h h1 h2 : H} (a : BK B h h1) (b : BK B h1 h2) : BK B h h2 := fun i hi => (b i hi).trans (a i hi)
section
variable (P : Program) (E : Env) (ro : Option Nat) (L : Nat) (S : List Fr) (Q : Po) (lo : List Nat) (h0 : H)
def RdB (P : Program) (lo : List Nat) (T : List V) (h : H) (k : AM.K) (v : V) : Prop := ∀ h',BK lo h h' → evK P T h' k = some (.rd v)
end
variable {P : Program} {E : Env} {ro : Option Nat} {L : Nat} {S : List Fr} {Q : Po} {lo : List Nat} {h0 : H}
section
variable {ρ : Nat → V} {h : H} {f : Bool} {fs : List Bool} {r : List O}
theorem RdB.load1 {T : List V} {a : A} {i o : Nat} {vs : List V} {ty : Nat} {op ro : Bool} {fz : Option Nat} {v : V} (ha : a.ev T = some (.ptr (some (i,o)))) (hi : i ∈ lo) (hg : h.get i = some (.cells vs ty op ro fz)) (hv : vs[o]? = some v) : RdB P lo T h (.load1 a) v := by
 intro h' hk
 simp only [evK,ha,hk i hi,hg,hv,Option.map_some]
end
end Go.AM
namespace Go.AM
variable {P : Program} {E : Env} {ro : Option Nat} {L : Nat} {S : List Fr} {Q : Po} {D : List Nat} {h0 : H}
end Go.AM
namespace Go.AM.We
variable {P : Program} {E : Env} {ro : Option Nat} {L : Nat} {K : List Fr} {ρ : Nat → V} {h : H} {Q : Po}
open Go.AM
end Go.AM.We
namespace Go.AM.Wc
open Go.AM Go.AM.Wd Go.AM.We
variable {P : Program} {E : Env} {T : H → Prop}
structure Rq where
 name : List UInt8
 b : Option Nat
 cs : List V
 syn : Int
def Rq.cells (q : Rq) : List V := [.str q.name,vl q.b q.cs.length,.int .i64 q.syn]
def Rq.foot (q : Rq) : List Cell := fpt q.b 5 q.cs
def rdC (R : Nat) (fv : V) : List V := [.int .i64 R,fv,.int .i64 0,.int .i64 0,.bool false]
def rdO (R : Nat) (fv : V) : Obj := .cells (rdC R fv) 123 false false none
def rdX (R rd : Nat) (fb : Option Nat) (qs : List Rq) : List Cell := (rd,rdO R (vl fb qs.length)) :: (fpt fb 129 (qs.flatMap Rq.cells) ++ qs.flatMap Rq.foot)
def totQ (qs : List Rq) : Nat := (qs.map fun q => q.cs.length).sum
structure RqX (R : Nat) (fb : Option Nat) (qs : List Rq) : Prop where
 nn : fb = none → qs = []
 emp : ∀ q ∈ qs,q.b = none → q.cs = []
 room : totQ qs ≤ R
 byt : ∀ q ∈ qs,Bs q.cs
 cap : R ≤ 4194304
 few : qs.length ≤ 1024
theorem rq_mid (q1 : List Rq) (q : Rq) (q2 : List Rq) : (q1 ++ q :: q2).flatMap Rq.cells = q1.flatMap Rq.cells ++ (q.cells ++ q2.flatMap Rq.cells) := by simp
structure RdH (h : H) (R rd : Nat) (fb : Option Nat) (qs : List Rq) : Prop where
 gd : h.get rd = some (rdO R (vl fb qs.length))
 nn : fb = none → qs = []
 gf : ∀ b,fb = some b → h.get b = some (.cells (qs.flatMap Rq.cells) 129 true false none)
theorem RdH.kp {h h' : H} {R rd : Nat} {fb : Option Nat} {qs : List Rq} (a : RdH h R rd fb qs) (k : Kp h h') : RdH h' R rd fb qs := ⟨k.of a.gd,a.nn,fun b hb => k.of (a.gf b hb)⟩
theorem RdH.of {lo : Nat} {h : H} {R rd : Nat} {fb : Option Nat} {qs : List Rq} {m1 m2 : List Cell} (a : Ow lo h (m1 ++ (rdX R rd fb qs ++ m2))) (nn : fb = none → qs = []) : RdH h R rd fb qs where
 gd := a.at (by simp [rdX])
 nn := nn
 gf := fun b hb => by subst hb; exact a.at (by simp [rdX,fpt])
theorem RdH.shape {h : H} {R rd : Nat} {fb : Option Nat} {qs : List Rq} (a : RdH h R rd fb qs) : ∃ p c o,vl fb qs.length = .slice p qs.length c o := vl_shape fb qs.length fun h => by rw [a.nn h]; rfl
theorem RdH.some {h : H} {R rd : Nat} {fb : Option Nat} {q1 : List Rq} {q : Rq} {q2 : List Rq} (a : RdH h R rd fb (q1 ++ q :: q2)) : ∃ b,fb = some b ∧ h.get b = some (.cells (q1.flatMap Rq.cells ++ (q.cells ++ q2.flatMap Rq.cells)) 129 true false none) := by
 cases fb with
 | none => have := a.nn rfl; simp at this
 | some b => exact ⟨b,rfl,by rw [← rq_mid]; exact a.gf b rfl⟩
theorem totQ_mid (q1 : List Rq) (q : Rq) (q2 : List Rq) : totQ (q1 ++ q :: q2) = totQ (q1 ++ q2) + q.cs.length := by simp [totQ]; omega
end Go.AM.Wc
namespace Go.AM.Wc
open Go.AM Go.AM.Wd Go.AM.We
variable {P : Program} {E : Env} {T : H → Prop}
end Go.AM.Wc
namespace Go.AM.Wc
open Go.AM Go.AM.Wd Go.AM.We
variable {P : Program} {E : Env} {T : H → Prop}
theorem RqX.put {R : Nat} {fb : Option Nat} {q1 : List Rq} {q : Rq} {q2 : List Rq} {b' : Option Nat} {cs' : List V} {z : Int} (a : RqX R fb (q1 ++ q :: q2)) (he : b' = none → cs' = []) (hb : Bs cs') (hr : totQ (q1 ++ q :: q2) + cs'.length ≤ R + q.cs.length) : RqX R fb (q1 ++ { q with b := b',cs := cs',syn := z } :: q2) where
 nn := by have := a.nn; simp at this; simpa using this
 emp := by
  intro g hg
  rcases List.mem_append.1 hg with h | h
  ·exact a.emp g (List.mem_append_left _ h)
  ·rcases List.mem_cons.1 h with rfl | h
   ·exact he
   ·exact a.emp g (List.mem_append_right _ (List.mem_cons_of_mem _ h))
 room := by
  rw [totQ_mid] at hr ⊢
  simp only
  omega
 byt := by
  intro g hg
  rcases List.mem_append.1 hg with h | h
  ·exact a.byt g (List.mem_append_left _ h)
  ·rcases List.mem_cons.1 h with rfl | h
   ·exact hb
   ·exact a.byt g (List.mem_append_right _ (List.mem_cons_of_mem _ h))
 cap := a.cap
 few := by have := a.few; simpa using this
end Go.AM.Wc
namespace Go.AM.Wc
open Go.AM Go.AM.Wd Go.AM.We
variable {P : Program} {E : Env} {T : H → Prop}
end Go.AM.Wc
namespace Go.AM.Wc
open Go.AM Go.AM.Wd Go.AM.We
variable {P : Program} {E : Env} {T : H → Prop}
structure Sq where
 fst : Nat
 size : Int
 rb : Option Nat
 rs : List (V × List V)
 dirty : Bool
def Sq.cells (s : Sq) : List V := [.int .i64 s.fst,.int .i64 s.size,vl s.rb s.rs.length,.bool s.dirty]
def Sq.foot (s : Sq) : List Cell := fpt s.rb 45 (s.rs.map (·.1))
def Sq.byt (s : Sq) : List V := s.rs.flatMap fun r => frameF r.2
def Sq.sh (s : Sq) : SegA := (s.fst,s.rs.map (·.2))
def chA : List SegA → Nat → Nat → Prop
 | [],a,z => a = z
 | s :: r,a,z => s.1 = a ∧ s.2 ≠ [] ∧ chA r (a + s.2.length) z
theorem chA_len : ∀ {A : List SegA} {a z : Nat},chA A a z → a + A.length ≤ z
 | [],a,z,h => by simp only [chA] at h; simp; omega
 | s :: r,a,z,h => by
  obtain ⟨h1,h2,h3⟩ := h
  have := chA_len h3
  have : 1 ≤ s.2.length := List.length_pos_iff.2 h2
  simp only [List.length_cons]; omega
theorem chA_mem : ∀ {A : List SegA} {a z : Nat},chA A a z → ∀ s ∈ A,s.2 ≠ [] ∧ a ≤ s.1 ∧ s.1 + s.2.length ≤ z
 | [],_,_,_,s,hs => by cases hs
 | p :: r,a,z,h,s,hs => by
  obtain ⟨h1,h2,h3⟩ := h
  have := chA_len h3
  rcases List.mem_cons.1 hs with rfl | hs
  ·exact ⟨h2,by omega,by omega⟩
  ·obtain ⟨q1,q2,q3⟩ := chA_mem h3 s hs
   exact ⟨q1,by omega,q3⟩
end Go.AM.Wc
namespace Go.AM.Wc
open Go.AM Go.AM.Wd Go.AM.We
variable {P : Program} {E : Env} {T : H → Prop}
end Go.AM.Wc
namespace Go.AM.Wc
open Go.AM Go.AM.Wd Go.AM.We
variable {P : Program} {E : Env} {T : H → Prop}
end Go.AM.Wc
namespace Go.AM.Wc
open Go.AM Go.AM.Wd Go.AM.We
variable {P : Program} {E : Env} {T : H → Prop}
end Go.AM.Wc
namespace Go.AM
open Go.RowKit Go.Maps Go.Sort Go.Shelf Go.Proofs Go.WideElems Go.MapKept
variable {P : Program}
def strsV : List (V × V × Nat) → Option (List (List UInt8))
 | [] => some []
 | (.str s,_,_) :: r => (strsV r).map (s :: ·)
 | _ => none
def leS (x y : List UInt8) : Bool := decide (x ≤ y)
def srt (ns : List (List UInt8)) : List (List UInt8) := ns.mergeSort leS
def goodM (es : List (V × V × Nat)) (cl : Nat) (ns : List (List UInt8)) : Prop := ns.Nodup ∧ (es.map (·.2.2)).Nodup ∧ (∀ e ∈ es,e.2.2 < cl) ∧ ns.length ≤ 1048576 ∧ ∀ n ∈ ns,n.length ≤ 1048576
def newNames (h : H) (ns : List (List UInt8)) : V × H := if ns = [] then (.slice none 0 0 false,h) else (.slice (some (h.size,0)) ns.length ns.length true,h.psh (.cells ((srt ns).map V.str) 9 true false none))
open Classical in
noncomputable def sortedG (fK tb : Nat) : List V → H → Option (V × H) := fun args h => match args with
 | [.func g [] [.ptr (some (kb,0))]] => if g = fK then match h.get kb with
  | some (.cells [.map (some bm)] ty false false none) => if ty = tb then match h.get bm with
   | some (.map es cl) => match strsV es with
    | some ns => if goodM es cl ns then some (newNames h ns) else none
    | none => none
   | _ => none
   else none
  | _ => none
  else none
 | _ => none
theorem strsV_get : ∀ {es : List (V × V × Nat)} {ns : List (List UInt8)},strsV es = some ns → es.map (·.1) = ns.map V.str
 | [],ns,h => by simp [strsV] at h; subst h; rfl
 | (k,v,c) :: es,ns,h => by
  cases k with
  | str s =>
   simp only [strsV,Option.map_eq_some_iff] at h
   obtain ⟨r,h1,rfl⟩ := h
   simp [strsV_get h1]
  | _ => simp [strsV] at h
theorem strsV_of : ∀ {es : List (V × V × Nat)} {ns : List (List UInt8)},es.map (·.1) = ns.map V.str → strsV es = some ns
 | [],ns,h => by
  cases ns with
  | nil => rfl
  | cons a b => simp at h
 | (k,v,c) :: es,ns,h => by
  cases ns with
  | nil => simp at h
  | cons a b =>
   simp only [List.map_cons,List.cons.injEq] at h
   obtain ⟨rfl,h2⟩ := h
   simp [strsV,strsV_of h2]
def nilR : Value → Option (DataW Unit × List MemPlace) := fun _ => some (.nil,[])
theorem er_keys {m : Mp} : ∀ {es : List (V × V × Nat)} {ys : List MapEntry} {ns : List (List UInt8)},ER m es ys → es.map (·.1) = ns.map V.str → ys.map (·.key) = ns.map encStr ∧ ys.map (·.born) = es.map (·.2.2)
 | [],ys,ns,h,hn => by
  cases h
  cases ns with
  | nil => exact ⟨rfl,rfl⟩
  | cons a b => simp at hn
 | e :: es,_,ns,h,hn => by
  obtain ⟨y,ys,h1,h2,h3,h4,rfl⟩ := h
  cases ns with
  | nil => simp at hn
  | cons a b =>
   simp only [List.map_cons,List.cons.injEq] at hn
   obtain ⟨hk,hn⟩ := hn
   obtain ⟨q1,q2⟩ := er_keys h4 hn
   rw [hk] at h1
   refine ⟨?_,?_⟩
   ·simp only [List.map_cons,q1,List.cons.injEq,and_true]; exact h1
   ·simp only [List.map_cons,q2,h3]
theorem owns_of {m : Mp} {h : H} {w : World} {ks : TypeId} {bm r sh e cl : Nat} {es : List (V × V × Nat)} {ns : List (List UInt8)} (hk : P.underlying ks = some .string) (hr : HR P m h w) (hg : h.get bm = some (.map es cl)) (hm : m bm = some (r,sh,e)) (hn : es.map (·.1) = ns.map V.str) (gd : goodM es cl ns) :
  ∃ D0 : DataW Unit,w.ownsMap P ks nilR r ns.length D0 ∧ (strKeys D0).Perm ns ∧ Maps.size D0 = ns.length := by
 obtain ⟨es',hb,her⟩ := hr.map hg hm
 obtain ⟨k1,k2⟩ := er_keys her hn
 obtain ⟨g1,g2,g3,g4,g5⟩ := gd
 have hl : es'.toList.length = ns.length := by have := congrArg List.length k1; simpa using this
 have hsz : es'.size = ns.length := by rw [← hl,Array.length_toList]
 have hkey : ∀ x ∈ es'.toList, ∃ n ∈ ns,x.key = encStr n := fun x hx => by
  have : x.key ∈ es'.toList.map (·.key) := List.mem_map.2 ⟨x,hx,rfl⟩
  rw [k1] at this
  obtain ⟨n,h1,h2⟩ := List.mem_map.1 this
  exact ⟨n,h1,h2.symm⟩
 have hrd : ∀ x ∈ es'.toList, ∀ n,x.key = encStr n → n ∈ ns → rd P ks nilR x = some (.string n,.nil) := fun x hx n hkx hn' => by
  have : keyOf P ks x.key = some (.string n) := by
   rw [hkx]
   have hle := g5 n hn'
   have := Go.WideMaps.keyOf_string_mk hk (s := ⟨n.toArray⟩) (by show n.toArray.size ≤ _; rw [List.size_toArray]; exact Nat.le_trans hle (by decide))
   simpa using this
  unfold rd
  rw [this]; rfl
 have F : Fit P ks nilR es' cl := by
  refine ⟨?_,⟨?_,?_,?_⟩,?_⟩
  ·rw [hsz]; exact Nat.le_trans g4 (by decide)
  ·intro x hx
   have : x.born ∈ es'.toList.map (·.born) := List.mem_map.2 ⟨x,hx,rfl⟩
   rw [k2] at this
   obtain ⟨e',h1,h2⟩ := List.mem_map.1 this
   rw [← h2]; exact g3 e' h1
  ·rw [k2]; exact g2
  ·rw [k1]
   exact List.pairwise_map.2 (g1.imp fun {a b} hne he => hne (encStr_inj he))
  ·intro x hx
   obtain ⟨n,h1,h2⟩ := hkey x hx
   exact ⟨_,hrd x hx n h2 h1⟩
 have hrg : (es'.toList.map (rg P ks nilR)).map (fun p => strOf p.1) = ns := by
  have e1 : (es'.toList.map (rg P ks nilR)).map (fun p => strOf p.1) = (es'.toList.map (·.key)).map fun k => match k with | .string b => b.data.toList | _ => [] := by
   rw [List.map_map,List.map_map]
   refine List.map_congr_left fun x hx => ?_
   obtain ⟨n,h1,h2⟩ := hkey x hx
   simp only [Function.comp,rg_of (hrd x hx n h2 h1),h2,strOf]
  rw [e1,k1,List.map_map]
  simp [Function.comp_def]
 have hperm := Go.WideShapes.sorted_perm (es'.toList.map (rg P ks nilR))
 refine ⟨_,by have := World.ownsMap_of_fit (R := nilR) hb F (fun _ _ _ h => h); rwa [hsz] at this,?_,?_⟩
 ·show (List.map (fun p : Lit × DataW Unit => strOf p.1) _).Perm ns
  have := hperm.map fun p : Lit × DataW Unit => strOf p.1
  rwa [hrg] at this
 ·show List.length _ = ns.length
  rw [hperm.length_eq,List.length_map,hl]
theorem VRL_strs (m : Mp) : ∀ ns : List (List UInt8),VRL m (ns.map V.str) (ns.map encStr)
 | [] => rfl
 | n :: ns => ⟨_,_,rfl,VRL_strs m ns,rfl⟩
theorem sorted_ok {fS fK tb : Nat} (hk : P.underlying 9 = some .string) (hc9 : P.cellsOf 9 = 1)
  (hc : ∀ (w : World) (Bm b nn : Nat) (D0 : DataW Unit),Bm < w.heap.size → w.cell? ⟨Bm,0,none⟩ = some (.map (some b)) → w.ownsMap P 9 nilR b nn D0 → Maps.size D0 ≤ maxLen → Maps.size D0 * 16 ≤ 140737488355328 →
   Calls P fS #[.func (.func fK) #[] #[.pointer (some ⟨Bm,0,none⟩)]] w fun e w' => ∃ (v : Value) (ss : List (List UInt8)),e = .returned v ∧ ss.Perm (strKeys D0) ∧
    w'.ownsRow w.heap.size 9 1 v ss.length ((ss.mergeSort (fun x y => decide (x ≤ y))).map encStr) ∧ (v = .slice none 0 0 ↔ ss = []) ∧ Below w.heap.size w w')
  {args : List V} {h : H} {v : V} {h' : H} {m : Mp} {w : World} {xs : List Value} (he : sortedG fK tb args h = some (v,h')) (hr : HR P m h w) (hx : VRL m args xs) (n : Nat) : CallsIn (FF none) n P fS xs.toArray w (Post P m h w v h') := by
 unfold sortedG at he
 split at he
 ·rename_i g kb
  split at he
  ·rename_i hgk
   subst hgk
   split at he
   ·rename_i bm ty hgb
    split at he
    ·split at he
     ·rename_i es cl hgm
      split at he
      ·rename_i ns hns
       split at he
       ·rename_i gd
        have hn := strsV_get hns
        obtain ⟨y,ys,⟨fx,cx,hf1,⟨yp,ycs,⟨rk,shk,ek,hmk,rfl⟩,hf3,rfl⟩,rfl⟩,h3,rfl⟩ := hx
        cases hf1; cases hf3; cases h3
        obtain ⟨ck,fzk,hbk,_,_,hopk,_⟩ := hr.cells hgb hmk
        simp only [Bool.false_eq_true,if_false] at hopk
        obtain ⟨rfl,_,_⟩ := hopk
        obtain ⟨x,hcx,hvx⟩ := hr.load1 hgb hmk (o := 0) rfl
        obtain ⟨rb,shb,eb,hmb,rfl⟩ := hvx
        obtain ⟨D0,ho,hp,hs⟩ := owns_of hk hr hgm hmb hn gd
        have hlk := hr.blk _ _ _ _ hmk
        have hsz : ns.length ≤ 1048576 := gd.2.2.2.1
        have hcall := hc w rk rb _ D0 hlk (by simpa using hcx) ho (by rw [hs]; exact Nat.le_trans hsz (by decide)) (by rw [hs]; omega)
        refine callsIn_wide.2 (hcall.mono fun e w' ⟨v',ss,hev,hss,hrow,hnil,hb⟩ => ?_)
        obtain ⟨a,b⟩ := hr.below hb
        have hperm : ss.Perm ns := hss.trans hp
        have hsort : ss.mergeSort (fun x y => decide (x ≤ y)) = srt ns := mergeSort_of_perm hperm
        rw [hsort] at hrow
        have hlen := hperm.length_eq
        have he' : newNames h ns = (v,h') := Option.some.inj he
        unfold newNames at he'
        by_cases h0 : ns = []
        ·have hs0 : ss = [] := by rw [h0] at hperm; exact hperm.eq_nil
         rw [if_pos h0] at he'
         cases he'
         exact ⟨m,_,hev,hnil.2 hs0,a,b⟩
        ·have hs0 : ss ≠ [] := fun e => h0 (by rw [e] at hperm; exact hperm.symm.eq_nil)
         rw [if_neg h0] at he'
         cases he'
         obtain ⟨hrl,hrow⟩ := hrow
         rcases hrow with ⟨_,hz⟩ | ⟨gb,cap,cur,hv',hbase,hgbk,r1,r2,r3,r4⟩
         ·exact absurd (List.eq_nil_of_length_eq_zero hz) hs0
         ·have pend : Pend w.heap.size m w' gb (.cells cur 9 (0,0)) := ⟨hbase,hgbk,fun i y hmi => by
           obtain ⟨y1,y2⟩ := y
           have := hr.blk _ _ _ _ hmi
           omega⟩
          have hsl : ((srt ns).map V.str).length = ns.length := by rw [List.length_map]; exact List.length_mergeSort ..
          have hor : OR P m (.cells cur 9 (0,0)) 0 (cap - ns.length) (.cells ((srt ns).map V.str) 9 true false none) := by
           refine ⟨cur,(0,0),rfl,?_,?_,fun _ => rfl⟩
           ·rw [hsl,List.drop_zero]
            rw [hlen,Nat.mul_one] at r4
            rw [r4]
            exact VRL_strs m _
           ·rw [if_pos rfl,hsl,hc9,r3]
            rw [hlen] at r1
            omega
          refine ⟨_,v',hev,?_,a.adopt pend hor,b.adopt a.fresh pend⟩
          rw [hlen] at r1
          refine ⟨gb,0,cap - ns.length,⟨gb,0,none⟩,upd_self _ _ _,?_,.inl rfl⟩
          rw [hv',hlen,if_pos rfl]
          congr 1; omega
       ·cases he
      ·cases he
     ·cases he
    ·cases he
   ·cases he
  ·cases he
 ·cases he
end Go.AM
namespace Go.AM.Wc
open Go.AM Go.AM.Wd Go.AM.We
variable {P : Program} {E : Env} {T : H → Prop}
def Nms (h h' : H) (v : V) (ns : List (List UInt8)) : Prop := ∃ b,v = vl b ns.length ∧ (b = none → ns = []) ∧ (∀ b',b = some b' → h.size ≤ b' ∧ h'.get b' = some (.cells (ns.map V.str) 9 true false none)) ∧ Kp h h'
theorem Nms.shape {h h' : H} {v : V} {ns : List (List UInt8)} (a : Nms h h' v ns) : ∃ p c o,v = .slice p ns.length c o := by
 obtain ⟨b,rfl,hb,_,_⟩ := a
 exact vl_shape b ns.length (fun h => by rw [hb h]; rfl)
theorem srt_len (ns : List (List UInt8)) : (srt ns).length = ns.length := List.length_mergeSort ..
theorem mos_good {k : Nat} {l : List (V × V)} {ns : List (List UInt8)} (hn : l.map (·.1) = ns.map V.str) (nd : ns.Nodup) (hl : ns.length ≤ 1048576) (hs : ∀ n ∈ ns,n.length ≤ 1048576) : strsV (mos l k) = some ns ∧ goodM (mos l k) (k + l.length) ns := by
 have h1 : (mos l k).map (·.1) = ns.map V.str := by
  rw [← hn]
  clear hn
  induction l generalizing k with
  | nil => rfl
  | cons x r ih => simp [mos,ih]
 have h2 : ∀ (l : List (V × V)) (k : Nat),(mos l k).map (·.2.2) = List.range' k l.length := by
  intro l
  induction l with
  | nil => intro k; rfl
  | cons x r ih => intro k; simp [mos,ih,List.range'_succ]
 refine ⟨strsV_of h1,nd,?_,?_,hl,hs⟩
 ·rw [h2]; exact List.nodup_range'
 ·intro e he
  obtain ⟨i,h3,h4⟩ := mos_mem he
  have := (List.getElem?_eq_some_iff.1 h3).1
  omega
theorem names93 (D : Fd P E) (hs : E.prim 123 = some (sortedG 153 59)) {h : H} {bm k : Nat} {l : List (V × V)} {ns : List (List UInt8)} (gm : h.get bm = some (mok k l)) (hn : l.map (·.1) = ns.map V.str) (nd : ns.Nodup) (hl : ns.length ≤ 1048576) (hsm : ∀ n ∈ ns,n.length ≤ 1048576) :
  Sp P E (.func 93 [] []) [.map (some bm)] h fun v h' => Nms h h' v (srt ns) := by
 have k1 : Kp h (h.psh (.cells [.map (some bm)] 59 false false none)) := Keeps.psh (Nat.le_refl _) _
 have g1 := psh_same h (.cells [.map (some bm)] 59 false false none)
 have gm1 := k1.of gm
 obtain ⟨hst,hgd⟩ := mos_good (k := k) hn nd hl hsm
 have hk : Sp P E (.func 124 [] []) [.map (some bm)] h fun v h' => v = .func 153 [] [.ptr (some (h.size,0))] ∧ h' = h.psh (.cells [.map (some bm)] 59 false false none) := by
  refine Sp_fn D.f124 D.p124 (by simp [fn124]) ?_
  simp only [GR,evK,binV,intOp,strOp,shOp,unV,Nat.reduceLT,Nat.reduceEqDiff,Nat.reduceAdd,↓reduceIte,Nat.reduceLeDiff,reduceCtorEq,fn124,c124,r124_0,r124_1]
 have hso : sortedG 153 59 [.func 153 [] [.ptr (some (h.size,0))]] (h.psh (.cells [.map (some bm)] 59 false false none)) = some (newNames (h.psh (.cells [.map (some bm)] 59 false false none)) ns) := by
  unfold mok at gm1
  unfold sortedG
  simp only [if_true,g1,gm1,hst,if_pos hgd]
 refine Sp_fn D.f93 D.p93 (by simp [fn93]) ?_
 simp only [GR,evK,binV,intOp,strOp,shOp,unV,Nat.reduceLT,Nat.reduceEqDiff,Nat.reduceAdd,↓reduceIte,Nat.reduceLeDiff,reduceCtorEq,fn93,c93,r93_0]
 refine XC_of hk ?_
 rintro _ h1 ⟨rfl,e1⟩
 rw [← e1] at hso k1
 have hsz : h.size ≤ h1.size := k1.size
 clear e1
 simp only [GR,evK,binV,intOp,strOp,shOp,unV,Nat.reduceLT,Nat.reduceEqDiff,Nat.reduceAdd,↓reduceIte,Nat.reduceLeDiff,reduceCtorEq]
 refine XC_of (R := fun v h' => Nms h h' v (srt ns)) ⟨(newNames h1 ns).1,(newNames h1 ns).2,by rw [AP_prim hs]; exact hso,?_⟩ ?_
 ·unfold newNames
  by_cases h0 : ns = []
  ·rw [if_pos h0]
   subst h0
   exact ⟨none,rfl,fun _ => by simp [srt],by simp,k1⟩
  ·rw [if_neg h0]
   have hne : srt ns ≠ [] := fun e => h0 (List.eq_nil_of_length_eq_zero (by rw [← srt_len,e]; rfl))
   refine ⟨some h1.size,?_,by simp,?_,Kp.trans k1 (Keeps.psh (Nat.le_refl _) _)⟩
   ·rw [srt_len]; rfl
   ·intro b' hb'
    simp only [Option.some.injEq] at hb'
    subst hb'
    exact ⟨hsz,psh_same _ _⟩
 ·intro v h2 hn2
  simp only [GR,evK,binV,intOp,strOp,shOp,unV,Nat.reduceLT,Nat.reduceEqDiff,Nat.reduceAdd,↓reduceIte,Nat.reduceLeDiff,reduceCtorEq]
  exact hn2
theorem names59 (F : Fw P E T) (D : Fd P E) (hs : E.prim 123 = some (sortedG 153 59)) {h : H} {R bd bm k : Nat} {l : List (V × V)} {ns : List (List UInt8)} (gd : h.get bd = some (.cells (diskX R bm) 63 false false none)) (gm : h.get bm = some (mok k l)) (hn : l.map (·.1) = ns.map V.str) (nd : ns.Nodup) (hl : ns.length ≤ 1048576) (hsm : ∀ n ∈ ns,n.length ≤ 1048576) :
  Sp P E (.func 59 [] []) [.ptr (some (bd,0))] h fun r h' => ∃ tb v h0,r = .func 94 [] [.ptr (some (tb,0))] ∧ h.size ≤ tb ∧ h'.get tb = some (.cells [v] 136 false false none) ∧ Nms h h0 v (srt ns) ∧ (∀ b vs,h0.get b = some (.cells vs 9 true false none) → h'.get b = some (.cells vs 9 true false none)) ∧ Kp h h' := by
 have k1 : Kp h (h.psh (.cells [.slice none 0 0 false] 136 false false none)) := Keeps.psh (Nat.le_refl _) _
 have g1 := psh_same h (.cells [.slice none 0 0 false] 136 false false none)
 have gd1 := k1.of gd
 have gm1 := k1.of gm
 refine Sp_fn D.f59 D.p59 (by simp [fn59]) ?_
 simp only [GR,evK,binV,intOp,strOp,shOp,unV,Nat.reduceLT,Nat.reduceEqDiff,Nat.reduceAdd,↓reduceIte,Nat.reduceLeDiff,reduceCtorEq,fn59,c59]
 generalize h.psh (.cells [.slice none 0 0 false] 136 false false none) = h1 at *
 simp only [GR,evK,binV,intOp,strOp,shOp,unV,Nat.reduceLT,Nat.reduceEqDiff,Nat.reduceAdd,↓reduceIte,Nat.reduceLeDiff,reduceCtorEq,r59_0]
 refine XC_of (none55x F gd1) ?_
 rintro _ hx ⟨rfl,e2⟩
 rw [e2]
 clear e2 hx
 have gd1' := gd1
 unfold diskX at gd1'
 simp only [GR,evK,binV,intOp,strOp,shOp,unV,Nat.reduceLT,Nat.reduceEqDiff,Nat.reduceAdd,↓reduceIte,Nat.reduceLeDiff,reduceCtorEq,Bool.not_false,r59_1,gd1']
 refine XC_of (names93 D hs gm1 hn nd hl hsm) ?_
 rintro v h2 hn2
 have hk2 : Kp h1 h2 := by obtain ⟨b,_,_,_,k⟩ := hn2; exact k
 have g2 := hk2.of g1
 obtain ⟨p',c',o',hv⟩ := hn2.shape
 rw [hv] at hn2 ⊢
 have e4 := put_at (ws := [.slice p' (srt ns).length c' o']) (o := 0) g2 (by simp) rfl rfl
 have hset : setR [V.slice none 0 0 false] 0 [.slice p' (srt ns).length c' o'] = [.slice p' (srt ns).length c' o'] := rfl
 rw [hset] at e4
 have hlt := H.get_lt g2
 have k3 : Kp h (h2.set h.size (.cells [.slice p' (srt ns).length c' o'] 136 false false none)) := Keeps.trans (n := h.size) (k1.trans hk2) (Keeps.set hlt (Nat.le_refl _) _)
 simp only [GR,evK,binV,intOp,strOp,shOp,unV,Nat.reduceLT,Nat.reduceEqDiff,Nat.reduceAdd,↓reduceIte,Nat.reduceLeDiff,reduceCtorEq,e4,r59_2]
 refine ⟨h.size,_,h2,rfl,Nat.le_refl _,hset_same hlt _,?_,?_,k3⟩
 ·obtain ⟨b,q1,q2,q3,q4⟩ := hn2
  exact ⟨b,q1,q2,fun b' hb' => ⟨Nat.le_trans k1.size (q3 b' hb').1,(q3 b' hb').2⟩,Kp.trans k1 q4⟩
 ·intro b vs hg
  rw [hset_other hlt (by rintro rfl; rw [g2] at hg; cases hg)]
  exact hg
theorem iter94 (D : Fd P E) {h : H} {tb l : Nat} {v : V} {ns : List (List UInt8)} (hm : ns.length ≤ 1048576) (Inv : Nat → H → Prop) (Stp : H → Prop) (hv : ∃ p c o,v = .slice p ns.length c o)
  (hT : ∀ k h1,Inv k h1 → h1.get tb = some (.cells [v] 136 false false none))
  (hE : ∀ k h1,Inv k h1 → ∀ hk : k < ns.length, ∃ b o c q cs ty op ro fz,v = .slice (some (b,o)) ns.length c q ∧ h1.get b = some (.cells cs ty op ro fz) ∧ cs[o + k]? = some (.str ns[k]))
  (hY : ∀ k h1 (hk : k < ns.length),Inv k h1 → Sp P E (.yield l) [.str ns[k]] h1 fun r h2 => ((r = .bool true ∧ Inv (k + 1) h2) ∨ (r = .bool false ∧ Stp h2)))
  (h0 : Inv 0 h) : Sp P E (.func 94 [] [.ptr (some (tb,0))]) [.yield l] h fun _ h' => Inv ns.length h' ∨ Stp h' := by
 have loop : ∀ (d k : Nat) (ρ : Nat → V) (h1 : H),ns.length - k = d → k ≤ ns.length → Inv k h1 → ρ 0 = .yield l → ρ 5 = v → ρ 6 = .int .i64 ns.length → ρ 7 = .int .i64 k →
   XL P E none 16 b94_4 [.b 0] ρ h1 (Fin [] fun _ h' => Inv ns.length h' ∨ Stp h') := by
  intro d
  induction d with
  | zero =>
   intro k ρ h1 hd hk inv q0 q5 q6 q7
   have hke : ¬ k < ns.length := by omega
   have : k = ns.length := by omega
   subst this
   rw [u94_4]
   simp only [GR,evK,binV,intOp,strOp,shOp,unV,Nat.reduceLT,Nat.reduceEqDiff,Nat.reduceAdd,↓reduceIte,Nat.reduceLeDiff,reduceCtorEq,q6,q7,Int.ofNat_lt,hke]
   exact .inl inv
  | succ d ih =>
   intro k ρ h1 hd hk inv q0 q5 q6 q7
   have hke : k < ns.length := by omega
   obtain ⟨b,o,c,q,cs,ty,op,ro,fz,hvb,hg,hx⟩ := hE k h1 inv hke
   have q5' := q5.trans hvb
   have hw : IntKind.i64.wrap ((k : Int) + 1) = ((k + 1 : Nat) : Int) := wrap_nat (n := k + 1) (by omega)
   rw [u94_4]
   simp only [GR,evK,binV,intOp,strOp,shOp,unV,Nat.reduceLT,Nat.reduceEqDiff,Nat.reduceAdd,↓reduceIte,Nat.reduceLeDiff,reduceCtorEq,q6,q7,Int.ofNat_lt,hke,r94_1,q5',Int.natCast_nonneg,Int.toNat_natCast,Nat.mul_one,hg,hx,r94_2,q0]
   refine XC_of (hY k h1 hke inv) ?_
   rintro r h2 (⟨rfl,inv2⟩ | ⟨rfl,st⟩)
   ·simp only [GR,evK,binV,intOp,strOp,shOp,unV,Nat.reduceLT,Nat.reduceEqDiff,Nat.reduceAdd,↓reduceIte,Nat.reduceLeDiff,reduceCtorEq,Bool.not_true,r94_3,q7,hw]
    refine ih (k + 1) _ h2 (by omega) (by omega) inv2 ?_ ?_ ?_ ?_
    ·exact q0
    ·exact q5
    ·exact q6
    ·rfl
   ·simp only [GR,evK,binV,intOp,strOp,shOp,unV,Nat.reduceLT,Nat.reduceEqDiff,Nat.reduceAdd,↓reduceIte,Nat.reduceLeDiff,reduceCtorEq,Bool.not_false]
    exact .inr st
 have gt := hT 0 h h0
 obtain ⟨p,c,o,hvv⟩ := hv
 rw [hvv] at gt loop
 refine Sp_fn D.f94 D.p94 (by simp [fn94]) ?_
 simp only [GR,evK,binV,intOp,strOp,shOp,unV,Nat.reduceLT,Nat.reduceEqDiff,Nat.reduceAdd,↓reduceIte,Nat.reduceLeDiff,reduceCtorEq,fn94,c94,r94_0,gt]
 refine loop ns.length 0 _ h rfl (Nat.zero_le _) h0 ?_ ?_ ?_ ?_
 ·rfl
 ·rfl
 ·rfl
 ·rfl
end Go.AM.Wc
namespace Go.AM.Wc
open Go.AM Go.AM.Wd Go.AM.We
variable {P : Program} {E : Env} {T : H → Prop}
theorem new7x (F : Fw P E T) {h : H} {R : Nat} : Sp P E (.func 7 [] []) [.int .i64 R] h fun r h' => ∃ bd bm,r = .tup [.ptr (some (bd,0)),.int .i64 0] ∧ Ow h.size h' (dkX R bd bm 0 []) ∧ Kp h h' := by
 have c1 : ¬ (R : Int) < 0 := by omega
 have k1 : Kp h (h.psh (.map [] 0)) := Keeps.psh (Nat.le_refl _) _
 have k2 : Kp (h.psh (.map [] 0)) ((h.psh (.map [] 0)).psh (.cells [.map (some h.size),.int .i64 0,.int .i64 0,.int .i64 R,.bool false] 63 false false none)) := Keeps.psh (Nat.le_refl _) _
 have a1 := (Ow.nil h.size h).push (Nat.le_refl _) (.map [] 0)
 have a2 := a1.push k1.size (.cells [.map (some h.size),.int .i64 0,.int .i64 0,.int .i64 R,.bool false] 63 false false none)
 refine Sp_fn F.f7 F.p7 (by simp [fn7]) ?_
 simp only [GR,evK,binV,intOp,strOp,shOp,unV,Nat.reduceLT,Nat.reduceEqDiff,Nat.reduceAdd,↓reduceIte,Nat.reduceLeDiff,reduceCtorEq,fn7,c7,r7_0,r7_1,c1,r7_3]
 exact ⟨_,_,rfl,a2,Kp.trans k1 k2⟩
theorem down25x (F : Fw P E T) {h : H} {R bd bm : Nat} (gd : h.get bd = some (.cells (diskX R bm) 63 false false none)) : Sp P E (.func 25 [] []) [.ptr (some (bd,0))] h fun v h' => v = .bool false ∧ h' = h := by
 refine Sp_fn F.f25 F.p25 (by simp [fn25]) ?_
 simp only [GR,evK,binV,intOp,strOp,shOp,unV,Nat.reduceLT,Nat.reduceEqDiff,Nat.reduceAdd,↓reduceIte,Nat.reduceLeDiff,reduceCtorEq,fn25,c25,r25_0]
 refine XC_of (none55x F gd) ?_
 rintro _ hx ⟨rfl,e2⟩
 rw [e2]
 clear e2 hx
 unfold diskX at gd
 simp only [GR,evK,binV,intOp,strOp,shOp,unV,Nat.reduceLT,Nat.reduceEqDiff,Nat.reduceAdd,↓reduceIte,Nat.reduceLeDiff,reduceCtorEq,Bool.not_false,gd]
end Go.AM.Wc
namespace Go.AM.Wc
open Go.AM Go.AM.Wd Go.AM.We
variable {P : Program} {E : Env} {T : H → Prop}
end Go.AM.Wc
namespace Go.AM.Wc
open Go.AM Go.AM.Wd Go.AM.We
variable {P : Program} {E : Env} {T : H → Prop}
def recs (sgs : List Sg) : List (List V) := sgs.flatMap fun s => s.rs.map Rc.cs
theorem recs_len : ∀ {sgs : List Sg} {a z : Nat},chain sgs a z → a + (recs sgs).length = z
 | [],a,z,h => by simpa [recs,chain] using h
 | s :: r,a,z,h => by
  obtain ⟨h1,h2,h3⟩ := h
  have := recs_len h3
  simp only [recs,List.flatMap_cons,List.length_append,List.length_map] at this ⊢
  omega
theorem recs_at {pre r : List Sg} {s : Sg} {a z i : Nat} (hc : chain (pre ++ s :: r) a z) (hi : i < s.rs.length) : (recs (pre ++ s :: r))[s.fst + i - a]? = some s.rs[i].cs := by
 obtain ⟨b,h1,h2⟩ := chain_app.1 hc
 have hl := recs_len h1
 have hf : s.fst = b := h2.1
 have e : recs (pre ++ s :: r) = recs pre ++ (s.rs.map Rc.cs ++ recs r) := by simp [recs]
 rw [e,List.getElem?_append_right (by omega),show s.fst + i - a - (recs pre).length = i by omega,List.getElem?_append_left (by simpa using hi),List.getElem?_map,List.getElem?_eq_getElem hi]
 rfl
def Rsx (h : H) (sv : V) (sgs : List Sg) : Prop := ∃ p c o,sv = .slice p sgs.length c o ∧ elemsV h 4 sgs.length sv = some (sgs.flatMap Sg.cells) ∧ ∀ s ∈ sgs,Rlx h (vl s.rb s.rs.length) (s.rs.map fun c => (c.v,c.cs))
theorem Rsx.rs {h : H} {sv : V} {sgs : List Sg} (a : Rsx h sv sgs) : Rs h sv sgs := by
 obtain ⟨p,c,o,h1,h2,h3⟩ := a
 refine ⟨p,c,o,h1,h2,fun s hs => ?_⟩
 have := (h3 s hs).rl
 rwa [show (s.rs.map fun c => (c.v,c.cs)).map (fun p => (p.1,p.2.length)) = s.xs by rw [List.map_map]; rfl] at this
theorem Rsx.at {h : H} {sv : V} {sgs : List Sg} {k : Nat} (a : Rsx h sv sgs) (hk : k < sgs.length) : ∃ b o c q cs ty op ro fz,sv = .slice (some (b,o)) sgs.length c q ∧ h.get b = some (.cells cs ty op ro fz) ∧ o + k * 4 + 4 ≤ cs.length ∧ List.take 4 (List.drop (o + k * 4) cs) = sgs[k].cells := a.rs.at hk
theorem Rsx.kp {h h' : H} {sv : V} {sgs : List Sg} (a : Rsx h sv sgs) (k : Kp h h') : Rsx h' sv sgs := by
 obtain ⟨p,c,o,h1,h2,h3⟩ := a
 exact ⟨p,c,o,h1,elems_kp k h2,fun s hs => (h3 s hs).kp k⟩
theorem Rsx.cl {h : H} {sv sv' : V} {sgs : List Sg} (a : Rsx h sv sgs) (c : Cl h sv' sgs) : Rsx h sv' sgs := by
 obtain ⟨_,_,_,_,_,h3⟩ := a
 obtain ⟨p,c,o,rfl,hc⟩ := c
 refine ⟨p,c,o,rfl,?_,h3⟩
 rcases hc with rfl | ⟨b,rfl,hg⟩
 ·cases p <;> simp [elemsV]
 ·have hl := seg_len sgs
  simp only [elemsV,hg,Nat.zero_add,← hl,Nat.le_refl,if_true]
  by_cases h0 : (sgs.flatMap Sg.cells).length = 0
  ·rw [if_pos h0,List.eq_nil_of_length_eq_zero h0]
  ·rw [if_neg h0,getR_whole' rfl]
theorem rlx_of {h : H} {s : Sg} (oks : okS s) (hf : ∀ p ∈ s.foot,h.get p.1 = some p.2) : Rlx h (vl s.rb s.rs.length) (s.rs.map fun c => (c.v,c.cs)) := by
 obtain ⟨p,c,o,hsv⟩ := vl_shape s.rb s.rs.length (fun h => by rw [oks.nn h]; rfl)
 have hxl : (s.rs.map fun c => (c.v,c.cs)).length = s.rs.length := List.length_map ..
 refine ⟨p,c,o,by rw [hxl]; exact hsv,?_,fun q hq => ?_⟩
 ·have hxm : (s.rs.map fun c => (c.v,c.cs)).map (·.1) = s.rs.map Rc.v := by rw [List.map_map]; rfl
  rw [hxl,hxm]
  cases hb : s.rb with
  | none => exact (oks.ne (oks.nn hb)).elim
  | some b =>
   have hg := hf (b,.cells (s.rs.map Rc.v) 45 true false none) (by simp [Sg.foot,hb,fpt])
   have := vl_elems hg
   rw [List.length_map] at this
   exact this
 ·obtain ⟨c1,hc1,rfl⟩ := List.mem_map.1 hq
  have hg := hf c1.cell (by simp only [Sg.foot,List.mem_append]; exact .inr (List.mem_map.2 ⟨c1,hc1,rfl⟩))
  exact ⟨_,_,_,rfl,vl_elems hg,(oks.rc c1 hc1).1⟩
theorem rsx_log {lo : Nat} {h : H} {lb bd : Nat} {sb : Option Nat} {gc : List V} {sgs : List Sg} {nx a z : Nat} {sy : Int} {br : Bool} {m1 m2 : List Cell} (ow : Ow lo h (m1 ++ (lgX lb bd sb gc sgs nx sy br ++ m2))) (hn : sb = none → sgs = [] ∧ gc = []) (hc : chain sgs a z) : Rsx h (vlo sb gc.length sgs.length) sgs := by
 obtain ⟨p,c,o,hsv⟩ := vlo_shape sb gc.length sgs.length (fun h => by rw [(hn h).1]; rfl)
 refine ⟨p,c,o,hsv,?_,fun s hs => ?_⟩
 ·cases sb with
  | none => rw [(hn rfl).1]; simp [vlo,elemsV]
  | some b =>
   have g := ow.at (i := b) (o := .cells (gc ++ sgs.flatMap Sg.cells) 74 true false none) (by simp [lgX,fpt])
   have hl := seg_len sgs
   simp only [vlo,elemsV,g]
   by_cases h0 : sgs.length * 4 = 0
   ·rw [if_pos h0,List.eq_nil_of_length_eq_zero (hl.trans h0)]
   ·rw [if_neg h0,if_pos (by rw [List.length_append,hl]; omega)]
    unfold getR
    rw [List.drop_left,List.take_of_length_le (by omega)]
 ·refine rlx_of (chain_mem hc s hs).1 fun p hp => ow.get p ?_
  simp only [lgX,List.mem_append,List.mem_cons]
  exact .inr (.inl (.inr (.inr (List.mem_flatMap.2 ⟨s,hs,hp⟩))))
set_option maxHeartbeats 1000000 in
theorem iter41x (F : Fw P E T) {h : H} {tb l : Nat} {sv : V} {sgs : List Sg} {a nx : Nat} (hc : chain sgs a nx) (hm : nx ≤ 1000000000000) (Inv : Nat → H → Prop) (Stp : H → Prop)
  (hKp : ∀ k h1 h2,Inv k h1 → Kp h1 h2 → Inv k h2)
  (hRd : ∀ k h1,Inv k h1 → h1.get tb = some (.cells [sv] 66 false false none) ∧ Rsx h1 sv sgs)
  (hY : ∀ k h0 h1 r c,a ≤ k → k < nx → (recs sgs)[k - a]? = some c → 1 ≤ c.length → Inv k h0 → Nx h0 h1 r c → Sp P E (.yield l) [.int .i64 (k : Nat),r] h1 fun v h2 => F74 h1 h2 ∧ ((v = .bool true ∧ Inv (k + 1) h2) ∨ (v = .bool false ∧ Stp h2)))
  (h0 : Inv a h) : Sp P E (.func 41 [] [.ptr (some (tb,0))]) [.yield l] h fun _ h' => Inv nx h' ∨ Stp h' := by
 have hnl := chain_len hc
 have hmem := chain_mem hc
 have inner : ∀ (s : Sg) (K : List Fr) (Q : Po) (ρ0 : Nat → V) (b4 : Nat),s ∈ sgs → (∀ i (hi : i < s.rs.length),(recs sgs)[s.fst + i - a]? = some s.rs[i].cs) → ρ0 0 = .yield l → ρ0 4 = .ptr (some (b4,0)) → ρ0 14 = vl s.rb s.rs.length → ρ0 15 = .int .i64 s.rs.length →
   (∀ (ρ' : Nat → V) (h' : H),(∀ j,j < 16 → j ≠ 5 → j ≠ 6 → ρ' j = ρ0 j) → Inv (s.fst + s.rs.length) h' → X P E none 32 K ρ' h' Q) →
   (∀ (T' : List V) (h' : H),Stp h' → Q .ret T' h') →
   ∀ (d k : Nat) (ρ : Nat → V) (h1 : H),s.rs.length - k = d → k ≤ s.rs.length → (∀ j,j < 16 → j ≠ 5 → j ≠ 6 → ρ j = ρ0 j) → ρ 16 = .int .i64 k → Inv (s.fst + k) h1 → h1.get b4 = some (.cells s.cells 74 false false none) →
   XL P E none 32 b41_6 (.b 2 :: K) ρ h1 Q := by
  intro s K Q ρ0 b4 hs hrec w0 w4 w14 w15 cont stop d
  obtain ⟨oks,hsa,hsz⟩ := hmem s hs
  obtain ⟨p,c,o,hsv⟩ := vl_shape s.rb s.rs.length (fun h => by rw [oks.nn h]; rfl)
  induction d with
  | zero =>
   intro k ρ h1 hd hk hr q16 inv g4
   have hke : ¬ k < s.rs.length := by omega
   have q15 := (hr 15 (by decide) (by decide) (by decide)).trans w15
   have hkk : k = s.rs.length := by omega
   subst hkk
   rw [u41_6]
   simp only [GR,evK,binV,intOp,strOp,shOp,unV,Nat.reduceLT,Nat.reduceEqDiff,Nat.reduceAdd,↓reduceIte,Nat.reduceLeDiff,reduceCtorEq,q15,q16,Int.ofNat_lt,hke]
   refine cont _ h1 (fun j hj h5 h6 => ?_) inv
   simp only [up_app]
   repeat rw [if_neg (by omega)]
   exact hr j hj h5 h6
  | succ d ih =>
   intro k ρ h1 hd hk hr q16 inv g4
   have hke : k < s.rs.length := by omega
   have q0 := (hr 0 (by decide) (by decide) (by decide)).trans w0
   have q4 := (hr 4 (by decide) (by decide) (by decide)).trans w4
   have q14 := (hr 14 (by decide) (by decide) (by decide)).trans w14
   have q15 := (hr 15 (by decide) (by decide) (by decide)).trans w15
   have hw : IntKind.i64.wrap ((k : Int) + 1) = ((k + 1 : Nat) : Int) := wrap_nat (n := k + 1) (by omega)
   have hw2 : IntKind.i64.wrap ((s.fst : Int) + (k : Int)) = ((s.fst + k : Nat) : Int) := by
    rw [wrap_le (by omega) (by omega)]; omega
   obtain ⟨gt,hrs⟩ := hRd _ _ inv
   obtain ⟨_,_,_,_,_,h3⟩ := hrs
   have hxl : s.xs.length = s.rs.length := List.length_map ..
   have hrlx := h3 s hs
   have hrl := hrlx.rl
   rw [show (s.rs.map fun c => (c.v,c.cs)).map (fun p => (p.1,p.2.length)) = s.xs by rw [List.map_map]; rfl] at hrl
   obtain ⟨b1,o1,c1,p1,cs,ty,op,ro,fz,hvb,hg1,hx⟩ := hrl.at (k := k) (by omega)
   have hrb : Rx h1 s.xs[k].1 s.rs[k].cs := by
    obtain ⟨_,_,_,_,_,q⟩ := hrlx
    have := q (s.rs[k].v,s.rs[k].cs) (List.mem_map.2 ⟨s.rs[k],List.getElem_mem hke,rfl⟩)
    simpa [Sg.xs] using this
   have hbd : 1 ≤ s.rs[k].cs.length ∧ s.rs[k].cs.length ≤ 65536 := (oks.rc s.rs[k] (List.getElem_mem hke)).2
   obtain ⟨rp,rc,ro',hrv⟩ := hrb.shape
   rw [hxl] at hvb
   have q14' := q14.trans hvb
   have hfst : s.cells[0]? = some (.int .i64 s.fst) := rfl
   rw [hrv] at hx hrb
   rw [u41_6]
   simp only [GR,evK,binV,intOp,strOp,shOp,unV,Nat.reduceLT,Nat.reduceEqDiff,Nat.reduceAdd,↓reduceIte,Nat.reduceLeDiff,reduceCtorEq,q15,q16,Int.ofNat_lt,hke,r41_3,q14',Int.natCast_nonneg,Int.toNat_natCast,Nat.mul_one,hg1,hx]
   rw [X_draw]
   refine l41_4 ?_
   simp only [GR,evK,binV,intOp,strOp,shOp,unV,Nat.reduceLT,Nat.reduceEqDiff,Nat.reduceAdd,↓reduceIte,Nat.reduceLeDiff,reduceCtorEq,r41_4a,q0,q4,Nat.zero_add,Nat.add_zero,g4,hfst,hw2]
   refine XCQ_of (clone42x F hrb hbd.1 (by omega)) ?_
   rintro r h2 hnb
   have k2 := hnb.kp
   refine ⟨k2,?_⟩
   simp only [GR,evK,binV,intOp,strOp,shOp,unV,Nat.reduceLT,Nat.reduceEqDiff,Nat.reduceAdd,↓reduceIte,Nat.reduceLeDiff,reduceCtorEq,r41_4b]
   refine XC_of (hY (s.fst + k) h1 h2 r s.rs[k].cs (by omega) (by omega) (hrec k hke) hbd.1 inv hnb) ?_
   rintro _ h4 ⟨f4,hor⟩
   rcases hor with ⟨rfl,inv4⟩ | ⟨rfl,hst⟩
   ·simp only [GR,evK,binV,intOp,strOp,shOp,unV,Nat.reduceLT,Nat.reduceEqDiff,Nat.reduceAdd,↓reduceIte,Nat.reduceLeDiff,reduceCtorEq,Bool.not_true,r41_5,q16,hw]
    refine ih (k + 1) _ h4 (by omega) (by omega) (fun j hj h5 h6 => ?_) ?_ inv4 (f4 _ _ _ _ _ (k2.of g4))
    ·simp only [up_app]
     repeat rw [if_neg (by omega)]
     exact hr j hj h5 h6
    ·rfl
   ·simp only [GR,evK,binV,intOp,strOp,shOp,unV,Nat.reduceLT,Nat.reduceEqDiff,Nat.reduceAdd,↓reduceIte,Nat.reduceLeDiff,reduceCtorEq,Bool.not_false]
    exact stop _ h4 hst
 have outer : ∀ (r pre : List Sg) (k : Nat) (ρ : Nat → V) (h1 : H),sgs = pre ++ r → chain r k nx → Inv k h1 → ρ 0 = .yield l → ρ 7 = sv → ρ 8 = .int .i64 sgs.length → ρ 9 = .int .i64 pre.length →
   XL P E none 32 b41_8 [.b 0] ρ h1 (Fin [] fun _ h' => Inv nx h' ∨ Stp h') := by
  intro r
  induction r with
  | nil =>
   intro pre k ρ h1 hsp hch inv q0 q7 q8 q9
   have hke : ¬ pre.length < sgs.length := by rw [hsp]; simp
   simp only [chain] at hch
   rw [u41_8]
   simp only [GR,evK,binV,intOp,strOp,shOp,unV,Nat.reduceLT,Nat.reduceEqDiff,Nat.reduceAdd,↓reduceIte,Nat.reduceLeDiff,reduceCtorEq,q8,q9,Int.ofNat_lt,hke]
   exact .inl (hch ▸ inv)
  | cons s r ih =>
   intro pre k ρ h1 hsp hch inv q0 q7 q8 q9
   have hke : pre.length < sgs.length := by rw [hsp]; simp
   obtain ⟨hf,oks,hch2⟩ := hch
   have hat : sgs[pre.length] = s := by simp [hsp]
   obtain ⟨gt,hrs⟩ := hRd _ _ inv
   obtain ⟨b1,o1,c1,p1,cs,ty,op,ro,fz,hvb,hg1,hle,hcs⟩ := hrs.at hke
   rw [hat] at hcs
   have q7' := q7.trans hvb
   have hw : IntKind.i64.wrap ((pre.length : Int) + 1) = ((pre.length + 1 : Nat) : Int) := wrap_nat (n := pre.length + 1) (by omega)
   obtain ⟨p,c,o,hsv⟩ := vl_shape s.rb s.rs.length (fun h => by rw [oks.nn h]; rfl)
   obtain ⟨h2,e2,g2,k2,z2⟩ := put_fresh h1 (vs := [.int .i64 0,.slice none 0 0 false,.int .i64 0,.bool false]) (ws := s.cells) (ty := 74) rfl (by unfold Sg.cells; rw [hsv]; rfl) rfl
   have hx1 : s.cells[0 + 1]? = some (.slice p s.rs.length c o) := by unfold Sg.cells; rw [hsv]; rfl
   have hx1' : s.cells[1]? = some (.slice p s.rs.length c o) := hx1
   have hc4 : s.cells.length = 4 := rfl
   rw [u41_8]
   simp only [GR,evK,binV,intOp,strOp,shOp,unV,Nat.reduceLT,Nat.reduceEqDiff,Nat.reduceAdd,↓reduceIte,Nat.reduceLeDiff,reduceCtorEq,q8,q9,Int.ofNat_lt,hke,r41_1,q7',Int.natCast_nonneg,Int.toNat_natCast,hg1,hle,hcs,hc4,e2,r41_2,g2,Nat.zero_add,hx1']
   refine inner s _ _ _ h1.size (by rw [hsp]; simp) (fun i hi => by rw [hsp]; exact recs_at (hsp ▸ hc) hi) ?_ ?_ ?_ ?_ ?_ ?_ s.rs.length 0 _ h2 rfl (Nat.zero_le _) (fun j _ _ _ => rfl) ?_ ?_ g2
   ·exact q0
   ·rfl
   ·exact hsv.symm
   ·rfl
   ·intro ρ' h' hr inv'
    have y0 := (hr 0 (by decide) (by decide) (by decide)).trans q0
    have y7 := (hr 7 (by decide) (by decide) (by decide)).trans q7
    have y8 := (hr 8 (by decide) (by decide) (by decide)).trans q8
    have y9 := (hr 9 (by decide) (by decide) (by decide)).trans q9
    simp only [GR,evK,binV,intOp,strOp,shOp,unV,Nat.reduceLT,Nat.reduceEqDiff,Nat.reduceAdd,↓reduceIte,Nat.reduceLeDiff,reduceCtorEq,y9,r41_7,hw]
    refine ih (pre ++ [s]) (k + s.rs.length) _ h' (by rw [hsp]; simp) hch2 (hf ▸ inv') ?_ ?_ ?_ ?_
    ·exact y0
    ·exact y7
    ·exact y8
    ·rw [show (pre ++ [s]).length = pre.length + 1 by simp]; rfl
   ·intro T' h' hst
    rw [Fin_ret]; simp only [GR,evK,binV,intOp,strOp,shOp,unV,Nat.reduceLT,Nat.reduceEqDiff,Nat.reduceAdd,↓reduceIte,Nat.reduceLeDiff,reduceCtorEq]; exact .inr hst
   ·rfl
   ·exact hKp _ _ _ (by rw [hf,Nat.add_zero]; exact inv) k2
 obtain ⟨gt,hrs⟩ := hRd _ _ h0
 obtain ⟨p,c,o,hsv,_⟩ := hrs
 refine Sp_fn F.f41 F.p41 (by simp [fn41]) ?_
 rw [hsv] at gt outer
 simp only [GR,evK,binV,intOp,strOp,shOp,unV,Nat.reduceLT,Nat.reduceEqDiff,Nat.reduceAdd,↓reduceIte,Nat.reduceLeDiff,reduceCtorEq,fn41,c41,r41_0,gt]
 refine outer sgs [] a _ h rfl hc h0 ?_ ?_ ?_ ?_
 ·rfl
 ·rfl
 ·rfl
 ·rfl
end Go.AM.Wc
namespace Go.AM.Wc
open Go.AM Go.AM.Wd Go.AM.We
variable {P : Program} {E : Env} {T : H → Prop}
end Go.AM.Wc
namespace Go.AM.Wc
open Go.AM Go.AM.Wd Go.AM.We
variable {P : Program} {E : Env} {T : H → Prop}
structure Mn where
 b : Nat
 cs : List V
def Mn.v (e : Mn) : V := if e.cs = [] then .slice (some (e.b,0)) 0 0 false else vl (some e.b) e.cs.length
def Mn.foot (e : Mn) : List Cell := if e.cs = [] then [] else [(e.b,.cells e.cs 5 true false none)]
theorem Mn.shape (e : Mn) : ∃ c o,e.v = .slice (some (e.b,0)) e.cs.length c o := by
 unfold Mn.v
 by_cases h : e.cs = []
 ·rw [if_pos h,h]; exact ⟨_,_,rfl⟩
 ·rw [if_neg h]; exact ⟨_,_,rfl⟩
theorem Mn.rx {h : H} (e : Mn) (hb : Bs e.cs) (hf : ∀ p ∈ e.foot,h.get p.1 = some p.2) : Rx h e.v e.cs := by
 unfold Mn.v Mn.foot at *
 by_cases h0 : e.cs = []
 ·rw [if_pos h0]
  refine ⟨_,_,_,by rw [h0]; rfl,?_,hb⟩
  rw [h0]; simp [elemsV]
 ·rw [if_neg h0] at hf ⊢
  exact ⟨_,_,_,rfl,vl_elems (hf _ List.mem_cons_self),hb⟩
end Go.AM.Wc
namespace Go.AM.Wc
open Go.AM Go.AM.Wd Go.AM.We
variable {P : Program} {E : Env} {T : H → Prop}
end Go.AM.Wc
