/- My own texts, laid for this claim. -/
import Derived.Test.YtpfoofcallfjjaaGreatDoorXDToXPrim
set_option linter.unusedSimpArgs false
set_option linter.unusedVariables false
namespace Go.AM.Wc
variable {P : Program} {E : Env} {ro : Option Nat} {L : Nat} {K : List Fr} {ρ : Nat → V} {h : H} {Q : Po}
def r3_0 : List O := [⟨some 16,.call (.k (.func 6 [] [])) [],none,0,[16]⟩,
 ono 17 16 1]
def r3_1 : List O := [⟨some 19,.call (.k (.func 7 [] [])) [(.k (.int .i64 1048576))],none,0,[19]⟩,
 om 18 19 1,
 ox 20 18 0 3,
 ox 21 18 1 3,
 om 5 20 7,
 om 6 21 31]
def r3_2 : List O := [om 23 5 0,
 ⟨some 24,.call (.k (.func 8 [] [])) [(.t 23),(.k (.str [108,111,103]))],none,1,[24,23]⟩,
 om 22 24 3,
 ox 25 22 0 7,
 ox 26 22 1 7,
 om 7 25 15,
 om 8 26 63]
def r3_3 : List O := [om 27 6 0,
 ⟨some 28,.bin .neq (some .int) true (.t 27) (.k (.int .i64 0)),none,1,[28,27]⟩,
 om 29 28 3,
 ⟨some 30,.mv (.t 8),some (29,false),7,[30,29,8]⟩,
 ⟨some 31,.bin .neq (some .int) true (.t 30) (.k (.int .i64 0)),some (29,false),15,[31,29,30]⟩,
 ⟨some 32,.pick (.t 29) (.k (.bool true)) (.t 31),none,31,[32,29,31]⟩,
 om 33 32 63,
 ⟨some 34,.mv (.t 7),some (33,false),127,[34,33,7]⟩,
 ⟨some 35,.bin .eql (some .ptr) true (.t 34) (.k (.ptr none)),some (33,false),255,[35,33,34]⟩,
 ⟨some 36,.pick (.t 33) (.k (.bool true)) (.t 35),none,511,[36,33,35]⟩]
def r3_4 : List O := [om 37 0 0,
 oL 38 37 1,
 ⟨some 39,.mv (.k (.int .i64 0)),none,0,[39]⟩]
def r3_5 : List O := [oi 41 5 37 39 0,
 oN 42 5 41 1,
 ⟨some 10,.alloc 33 [(.int .i64 0),(.slice none 0 0 false),(.int .i64 0),(.int .i64 0),(.int .i64 0)],none,0,[10]⟩,
 ost 5 10 42 7]
def r3_6 : List O := [oa 43 0 10 0,
 ol 44 43 1,
 ⟨some 45,.bin .eql (some .int) true (.t 44) (.k (.int .i64 0)),none,3,[45,44]⟩]
def r3_7 : List O := [om 46 7 0,
 oa 47 1 10 0,
 ol 48 47 2,
 ⟨some 49,.call (.k (.func 9 [] [])) [(.t 46),(.t 48)],none,7,[49,46,48]⟩]
def r3_8 : List O := [op1 50 39 0,
 om 39 50 1]
def b3_9 : C := .seq (.region [olt 40 39 38 0]) (.seq (.cond (.t 40) (.skip) (.exit 0)) (.seq (.block 1 (.seq (.region r3_5) (.seq (.region r3_6) (.cond (.t 45) (.region r3_7) (.skip))))) (.region r3_8)))
def r3_10 : List O := [om 51 7 0,
 ⟨some 52,.call (.k (.func 10 [] [])) [(.t 51)],none,1,[52,51]⟩,
 om 53 7 0,
 ⟨some 54,.call (.k (.func 11 [] [])) [(.t 53)],none,7,[54,53]⟩,
 om 55 7 0,
 ⟨some 56,.call (.k (.func 12 [] [])) [(.t 55)],none,31,[56,55]⟩,
 om 11 52 63,
 om 12 54 127,
 om 13 56 255]
def r3_11 : List O := [om 57 7 0,
 om 58 1 0,
 ⟨some 59,.call (.k (.func 13 [] [])) [(.t 57),(.t 58)],none,3,[59,57,58]⟩,
 ⟨some 60,.bin .neq (some .int) true (.t 59) (.k (.int .i64 0)),none,7,[60,59]⟩,
 om 61 60 15,
 ⟨some 62,.mv (.t 7),some (61,false),31,[62,61,7]⟩,
 ⟨some 63,.call (.k (.func 11 [] [])) [(.t 62)],some (61,false),63,[63,61,62]⟩,
 ⟨some 64,.mv (.t 12),some (61,false),31,[64,61,12]⟩,
 ⟨some 65,.bin .neq (some .int) false (.t 63) (.t 64),some (61,false),255,[65,61,63,64]⟩,
 ⟨some 66,.pick (.t 61) (.k (.bool true)) (.t 65),none,511,[66,61,65]⟩,
 om 67 66 1023,
 ⟨some 68,.mv (.t 7),some (67,false),2047,[68,67,7]⟩,
 ⟨some 69,.call (.k (.func 10 [] [])) [(.t 68)],some (67,false),4095,[69,67,68]⟩,
 ⟨some 70,.mv (.t 11),some (67,false),2047,[70,67,11]⟩,
 ⟨some 71,.bin .lss (some .int) false (.t 69) (.t 70),some (67,false),16383,[71,67,69,70]⟩,
 ⟨some 72,.pick (.t 67) (.k (.bool true)) (.t 71),none,32767,[72,67,71]⟩,
 om 73 72 65535,
 ⟨some 74,.mv (.t 7),some (73,false),131071,[74,73,7]⟩,
 ⟨some 75,.call (.k (.func 10 [] [])) [(.t 74)],some (73,false),262143,[75,73,74]⟩,
 ⟨some 76,.mv (.t 11),some (73,false),131071,[76,73,11]⟩,
 ⟨some 77,.mv (.t 1),some (73,false),131071,[77,73,1]⟩,
 ⟨some 78,.minmax true [(.t 76),(.t 77)],some (73,false),1703935,[78,73,76,77]⟩,
 ⟨some 79,.bin .gtr (some .int) false (.t 75) (.t 78),some (73,false),4194303,[79,73,75,78]⟩,
 ⟨some 80,.pick (.t 73) (.k (.bool true)) (.t 79),none,8388607,[80,73,79]⟩,
 om 81 80 16777215,
 ⟨some 82,.mv (.t 13),some (81,false),33554431,[82,81,13]⟩,
 ⟨some 83,.bin .gtr (some .int) true (.t 82) (.k (.int .i64 0)),some (81,false),67108863,[83,81,82]⟩,
 ⟨some 84,.mv (.t 83),some (81,false),134217727,[84,81,83]⟩,
 og 85 7 84 268435455,
 ⟨some 86,.call (.k (.func 12 [] [])) [(.t 85)],some (84,true),536870911,[86,84,85]⟩,
 ⟨some 87,.bin .lss (some .int) true (.t 86) (.k (.int .i64 1)),some (84,true),1073741823,[87,84,86]⟩,
 ⟨some 88,.pick (.t 84) (.t 87) (.k (.bool false)),some (81,false),2147483647,[88,81,84,87]⟩,
 ⟨some 89,.pick (.t 81) (.k (.bool true)) (.t 88),none,4294967295,[89,81,88]⟩]
def r3_12 : List O := [om 90 7 0,
 ⟨some 91,.call (.k (.func 10 [] [])) [(.t 90)],none,1,[91,90]⟩,
 ⟨some 14,.alloc 2 [(.int .i64 0)],none,0,[14]⟩,
 ost 1 14 91 7]
def r3_13 : List O := [om 92 7 0,
 ⟨some 93,.call (.k (.func 14 [] [])) [(.t 92)],none,1,[93,92]⟩]
def a3_14 : C := .region [om 15 94 0]
def r3_15 : List O := [om 96 15 0,
 ol 97 14 0,
 ⟨some 98,.bin .neq (some .int) false (.t 96) (.t 97),none,3,[98,96,97]⟩]
def r3_16 : List O := [ol 99 14 0,
 op1 100 99 1,
 ost 1 14 100 3]
def b3_17 : C := .block 3 (.seq (.seq (.region r3_15) (.cond (.t 98) (.seq (.region [⟨none,.store 1 (.t 4) (.k (.bool false)),none,0,[4]⟩]) (.ret)) (.skip))) (.region r3_16))
def r3_18 : List O := [ol 101 14 0,
 om 102 12 0,
 ⟨some 103,.bin .eql (some .int) false (.t 101) (.t 102),none,3,[103,101,102]⟩,
 ost 1 4 103 7]
def c3 : C := .seq (.region [⟨some 4,.alloc 4 [(.bool false)],none,0,[4]⟩]) (.seq (.seq (.region r3_0) (.cond (.t 17) (.seq (.region [⟨none,.store 1 (.t 4) (.k (.bool false)),none,0,[4]⟩]) (.ret)) (.skip))) (.seq (.region r3_1) (.seq (.region r3_2) (.seq (.seq (.region r3_3) (.cond (.t 36) (.seq (.region [⟨none,.store 1 (.t 4) (.k (.bool false)),none,0,[4]⟩]) (.ret)) (.skip))) (.seq (.seq (.region r3_4) (.block 0 (.loop b3_9))) (.seq (.region r3_10) (.seq (.seq (.region r3_11) (.cond (.t 89) (.seq (.region [⟨none,.store 1 (.t 4) (.k (.bool false)),none,0,[4]⟩]) (.ret)) (.skip))) (.seq (.region r3_12) (.seq (.seq (.region r3_13) (.block 2 (.range (.t 93) [94,95] a3_14 b3_17))) (.seq (.region r3_18) (.ret)))))))))))
def r7_0 : List O := [⟨some 2,.mv (.k (.ptr none)),none,0,[2]⟩,
 ⟨some 3,.mv (.k (.int .i64 0)),none,1,[3]⟩]
def r7_1 : List O := [om 4 0 0,
 ⟨some 5,.bin .lss (some .int) true (.t 4) (.k (.int .i64 0)),none,1,[5,4]⟩]
def r7_2 : List O := [⟨some 2,.mv (.k (.ptr none)),none,0,[2]⟩,
 ⟨some 3,.mv (.k (.int .i64 1)),none,1,[3]⟩]
def r7_3 : List O := [⟨some 6,.mkMap,none,0,[6]⟩,
 om 7 0 0,
 ⟨some 8,.build [(.map none),(.int .i64 0),(.int .i64 0),(.int .i64 0),(.bool false)] [(0,1,(.t 6)),(3,1,(.t 7))],none,3,[8,6,7]⟩,
 ⟨some 9,.box 63 (.t 8),none,7,[9,8]⟩,
 om 2 9 15,
 ⟨some 3,.mv (.k (.int .i64 0)),none,31,[3]⟩]
def c7 : C := .seq (.region r7_0) (.seq (.seq (.region r7_1) (.cond (.t 5) (.seq (.region r7_2) (.ret)) (.skip))) (.seq (.region r7_3) (.ret)))
def fn7 : Fn := ⟨10,[.t 2,.t 3],c7⟩
def r8_0 : List O := [⟨some 4,.mv (.k (.ptr none)),none,0,[4]⟩,
 ⟨some 5,.mv (.k (.int .i64 0)),none,1,[5]⟩]
def r8_1 : List O := [om 20 1 0,
 ⟨some 21,.call (.k (.func 24 [] [])) [(.t 20)],none,1,[21,20]⟩,
 ono 22 21 3,
 om 19 22 7]
def r8_2 : List O := [⟨some 4,.mv (.k (.ptr none)),none,0,[4]⟩,
 ⟨some 5,.mv (.k (.int .i64 1)),none,1,[5]⟩]
def r8_3 : List O := [om 24 0 0,
 ⟨some 25,.call (.k (.func 25 [] [])) [(.t 24)],none,1,[25,24]⟩,
 om 23 25 3]
def r8_4 : List O := [⟨some 4,.mv (.k (.ptr none)),none,0,[4]⟩,
 ⟨some 5,.mv (.k (.int .i64 7)),none,1,[5]⟩]
def r8_5 : List O := [om 27 0 0,
 ⟨some 28,.call (.k (.func 26 [] [])) [(.t 27)],none,1,[28,27]⟩,
 ⟨some 29,.bin .eql (some .ptr) true (.t 28) (.k (.ptr none)),none,3,[29,28]⟩,
 om 26 29 7]
def r8_6 : List O := [⟨some 4,.mv (.k (.ptr none)),none,0,[4]⟩,
 ⟨some 5,.mv (.k (.int .i64 2)),none,1,[5]⟩]
def r8_7 : List O := [om 30 0 0,
 om 31 1 0,
 ⟨some 32,.build [(.ptr none),(.str []),(.slice none 0 0 false),(.int .i64 0),(.int .i64 0),(.bool false)] [(0,1,(.t 30)),(1,1,(.t 31))],none,3,[32,30,31]⟩,
 ⟨some 33,.box 68 (.t 32),none,7,[33,32]⟩,
 om 6 33 15]
def r8_8 : List O := [om 34 0 0,
 om 35 1 0,
 ⟨some 36,.call (.k (.func 27 [] [])) [(.t 34),(.t 35)],none,3,[36,34,35]⟩,
 om 7 36 7]
def r8_9 : List O := [om 37 7 0,
 oL 38 37 1,
 ⟨some 39,.mv (.k (.int .i64 0)),none,0,[39]⟩]
def r8_10 : List O := [om 41 39 0,
 oi 42 1 37 39 0,
 ol 43 42 2,
 om 8 41 7,
 om 9 43 15]
def r8_11 : List O := [om 45 0 0,
 om 46 1 0,
 om 47 9 0,
 ⟨some 48,.call (.k (.func 23 [] [])) [(.t 46),(.t 47)],none,6,[48,46,47]⟩,
 ⟨some 49,.call (.k (.func 28 [] [])) [(.t 45),(.t 48)],none,15,[49,45,48]⟩,
 om 44 49 31,
 ox 50 44 0 63,
 ox 51 44 1 63,
 om 10 50 127,
 om 11 51 511]
def r8_12 : List O := [om 52 11 0,
 ⟨some 53,.bin .neq (some .int) true (.t 52) (.k (.int .i64 0)),none,1,[53,52]⟩]
def r8_13 : List O := [om 54 11 0,
 ⟨some 4,.mv (.k (.ptr none)),none,0,[4]⟩,
 om 5 54 3]
def r8_14 : List O := [om 55 9 0,
 ⟨some 56,.build [(.int .i64 0),(.slice none 0 0 false),(.int .i64 0),(.bool false)] [(0,1,(.t 55))],none,1,[56,55]⟩,
 ⟨some 12,.alloc 74 [(.int .i64 0),(.slice none 0 0 false),(.int .i64 0),(.bool false)],none,0,[12]⟩,
 ost 4 12 56 7]
def r8_15 : List O := [om 58 10 0,
 ⟨some 59,.call (.k (.func 29 [] [])) [(.t 58)],none,1,[59,58]⟩,
 om 57 59 3,
 ox 60 57 0 7,
 ox 61 57 1 7,
 oa 62 1 12 15,
 ost 1 62 60 47,
 oa 63 2 12 127,
 ost 1 63 61 255]
def r8_16 : List O := [om 64 6 0,
 oN 65 4 12 0,
 ⟨some 66,.call (.k (.func 30 [] [])) [(.t 65)],none,2,[66,65]⟩,
 ⟨some 67,.nilck (.t 64),none,7,[67,64]⟩,
 oa 68 3 67 15,
 ost 1 68 66 31]
def r8_17 : List O := [om 70 8 0,
 om 71 7 0,
 oL 72 71 2,
 ⟨some 73,.bin .sub (some .int) true (.t 72) (.k (.int .i64 1)),none,6,[73,72]⟩,
 olt 74 70 73 15,
 om 75 74 31,
 oag 76 2 12 75 63,
 olg 77 76 75 127,
 og 78 10 75 63,
 ⟨some 79,.lenL (.t 78),some (75,true),319,[79,75,78]⟩,
 ⟨some 80,.bin .lss (some .int) false (.t 77) (.t 79),some (75,true),1023,[80,75,77,79]⟩,
 og 81 80 75 2047,
 ⟨some 82,.loadN 4 (.t 12),some (81,false),4095,[82,81,12]⟩,
 ⟨some 83,.call (.k (.func 30 [] [])) [(.t 82)],some (81,false),8191,[83,81,82]⟩,
 ⟨some 84,.mv (.t 7),some (81,false),4095,[84,81,7]⟩,
 ⟨some 85,.mv (.t 8),some (81,false),4095,[85,81,8]⟩,
 ⟨some 86,.bin .add (some .int) true (.t 85) (.k (.int .i64 1)),some (81,false),36863,[86,81,85]⟩,
 ⟨some 87,.iadrL 1 (.t 84) (.t 86),some (81,false),118783,[87,81,84,86]⟩,
 olf 88 87 81 249855,
 ⟨some 89,.bin .neq (some .int) false (.t 83) (.t 88),some (81,false),524287,[89,81,83,88]⟩,
 ⟨some 90,.pick (.t 81) (.k (.bool true)) (.t 89),some (75,true),1048575,[90,75,81,89]⟩,
 oe 91 90 75 2097151,
 om 69 91 4194303]
theorem d8_17 (hx : XDQ P E ro L K Q h [true,true,true,true,true,true,true,true,true,true,true,true,true,true,false,false,false,false,false,true,true,true,true] r8_17 ρ h) : XD P E ro L r8_17 K ρ h Q := XD_quiet rfl rfl hx
def r8_18 : List O := [⟨some 4,.mv (.k (.ptr none)),none,0,[4]⟩,
 ⟨some 5,.mv (.k (.int .i64 51)),none,1,[5]⟩]
def r8_19 : List O := [oa 93 2 12 0,
 ol 94 93 1,
 om 95 10 0,
 oL 96 95 4,
 olt 97 94 96 15,
 om 92 97 31]
def r8_20 : List O := [om 98 6 0,
 oN 99 4 12 0,
 om 100 10 0,
 oa 101 2 12 0,
 ol 102 101 8,
 ⟨some 103,.slL 1 (.t 100) none (some (.t 102)) none,none,28,[103,100,102]⟩,
 ⟨some 104,.call (.k (.func 31 [] [])) [(.t 98),(.t 99),(.t 103)],none,63,[104,98,99,103]⟩,
 om 13 104 127]
def r8_21 : List O := [om 105 13 0,
 ⟨some 106,.bin .neq (some .int) true (.t 105) (.k (.int .i64 0)),none,1,[106,105]⟩]
def r8_22 : List O := [om 107 13 0,
 ⟨some 4,.mv (.k (.ptr none)),none,0,[4]⟩,
 om 5 107 3]
def r8_23 : List O := [oa 108 1 12 0,
 ol 109 108 1,
 oL 110 109 3,
 ⟨some 111,.bin .eql (some .int) true (.t 110) (.k (.int .i64 0)),none,7,[111,110]⟩]
def r8_24 : List O := [om 112 6 0,
 om 113 6 0,
 ⟨some 114,.nilck (.t 113),none,2,[114,113]⟩,
 oa 115 2 114 6,
 ol 116 115 14,
 oN 117 4 12 0,
 ⟨some 118,.bslice 74 1 [(.int .i64 0),(.slice none 0 0 false),(.int .i64 0),(.bool false)] [(0,4,(.t 117))],none,32,[118,117]⟩,
 ⟨some 119,.app 74 4 48 (.t 116) (.t 118),none,126,[119,116,118]⟩,
 ⟨some 120,.nilck (.t 112),none,255,[120,112]⟩,
 oa 121 2 120 511,
 ost 1 121 119 1023]
def r8_25 : List O := [op1 122 39 0,
 om 39 122 1]
abbrev e8_26 : C := .seq (.region [olt 40 39 38 0]) (.seq (.cond (.t 40) (.skip) (.exit 1)) (.seq (.block 2 (.seq (.region r8_10) (.seq (.region r8_11) (.seq (.seq (.region r8_12) (.cond (.t 53) (.seq (.region r8_13) (.ret)) (.skip))) (.seq (.region r8_14) (.seq (.region r8_15) (.seq (.region r8_16) (.seq (.block 3 (.seq (.draw r8_17) (.cond (.t 69) (.seq (.region r8_18) (.ret)) (.seq (.region r8_19) (.cond (.t 92) (.seq (.seq (.draw r8_20) (.seq (.region r8_21) (.cond (.t 106) (.seq (.region r8_22) (.ret)) (.skip)))) (.seq (.region r8_23) (.cond (.t 111) (.exit 1) (.skip)))) (.skip)))))) (.draw r8_24))))))))) (.region r8_25)))
def b8_26 : C := e8_26
theorem u8_26 : XL P E ro L b8_26 K ρ h Q = X P E ro L (.c e8_26 :: .l b8_26 :: K) ρ h Q := XL_unroll b8_26
def r8_27 : List O := [om 123 6 0,
 ⟨some 124,.nilck (.t 123),none,1,[124,123]⟩,
 oa 125 2 124 3,
 ol 126 125 7,
 oL 127 126 15,
 ⟨some 128,.mv (.k (.int .i64 0)),none,0,[128]⟩]
def r8_28 : List O := [oi 130 4 126 128 0,
 oN 131 4 130 1,
 ⟨some 15,.alloc 74 [(.int .i64 0),(.slice none 0 0 false),(.int .i64 0),(.bool false)],none,0,[15]⟩,
 ost 4 15 131 7]
def r8_29 : List O := [om 133 0 0,
 om 134 1 0,
 oa 135 0 15 0,
 ol 136 135 4,
 ⟨some 137,.call (.k (.func 23 [] [])) [(.t 134),(.t 136)],none,14,[137,134,136]⟩,
 ⟨some 138,.call (.k (.func 32 [] [])) [(.t 133),(.t 137)],none,31,[138,133,137]⟩,
 om 132 138 63,
 ox 139 132 0 127,
 ox 140 132 1 127,
 ox 141 132 2 127,
 om 16 139 255,
 om 17 140 1535,
 om 18 141 4095]
def r8_30 : List O := [om 142 18 0,
 ⟨some 143,.bin .eql (some .int) true (.t 142) (.k (.int .i64 0)),none,1,[143,142]⟩,
 om 144 143 3,
 og 145 17 144 7,
 og 146 16 144 7,
 ⟨some 147,.bin .lss (some .int) false (.t 145) (.t 146),some (144,true),31,[147,144,145,146]⟩,
 oe 148 147 144 63]
def r8_31 : List O := [om 149 0 0,
 om 150 1 0,
 oa 151 0 15 0,
 ol 152 151 4,
 ⟨some 153,.call (.k (.func 23 [] [])) [(.t 150),(.t 152)],none,14,[153,150,152]⟩,
 ⟨some 154,.call (.k (.func 33 [] [])) [(.t 149),(.t 153)],none,31,[154,149,153]⟩,
 om 18 154 63]
def r8_32 : List O := [om 155 18 0,
 ⟨some 156,.bin .neq (some .int) true (.t 155) (.k (.int .i64 0)),none,1,[156,155]⟩]
def r8_33 : List O := [om 157 18 0,
 ⟨some 4,.mv (.k (.ptr none)),none,0,[4]⟩,
 om 5 157 3]
def r8_34 : List O := [op1 158 128 0,
 om 128 158 1]
abbrev e8_35 : C := .seq (.region [olt 129 128 127 0]) (.seq (.cond (.t 129) (.skip) (.exit 4)) (.seq (.block 5 (.seq (.region r8_28) (.seq (.region r8_29) (.seq (.seq (.region r8_30) (.cond (.t 148) (.region r8_31) (.skip))) (.seq (.region r8_32) (.cond (.t 156) (.seq (.region r8_33) (.ret)) (.skip))))))) (.region r8_34)))
def b8_35 : C := e8_35
theorem u8_35 : XL P E ro L b8_35 K ρ h Q = X P E ro L (.c e8_35 :: .l b8_35 :: K) ρ h Q := XL_unroll b8_35
def r8_36 : List O := [om 159 6 0,
 om 160 6 0,
 ⟨some 161,.nilck (.t 160),none,2,[161,160]⟩,
 oa 162 3 161 6,
 ol 163 162 14,
 ⟨some 164,.nilck (.t 159),none,31,[164,159]⟩,
 oa 165 4 164 63,
 ost 1 165 163 127]
def r8_37 : List O := [om 166 6 0,
 om 4 166 1,
 ⟨some 5,.mv (.k (.int .i64 0)),none,3,[5]⟩]
def c8 : C := .seq (.region r8_0) (.seq (.block 0 (.seq (.region r8_1) (.cond (.t 19) (.seq (.region r8_2) (.ret)) (.seq (.region r8_3) (.cond (.t 23) (.seq (.region r8_4) (.ret)) (.seq (.region r8_5) (.cond (.t 26) (.seq (.region r8_6) (.ret)) (.skip)))))))) (.seq (.region r8_7) (.seq (.region r8_8) (.seq (.skip) (.seq (.seq (.region r8_9) (.block 1 (.loop b8_26))) (.seq (.seq (.region r8_27) (.block 4 (.loop b8_35))) (.seq (.region r8_36) (.seq (.region r8_37) (.ret)))))))))
def fn8 : Fn := ⟨167,[.t 4,.t 5],c8⟩
def r9_0 : List O := [om 9 0 0,
 ⟨some 10,.call (.k (.func 34 [] [])) [(.t 9)],none,1,[10,9]⟩,
 om 8 10 3]
def r9_1 : List O := [om 12 0 0,
 ⟨some 13,.nilck (.t 12),none,1,[13,12]⟩,
 oa 14 5 13 3,
 ol 15 14 7,
 om 11 15 15]
def r9_2 : List O := [om 17 1 0,
 ⟨some 18,.call (.k (.func 35 [] [])) [(.t 17),(.k (.func 36 [] []))],none,1,[18,17]⟩,
 om 16 18 3]
def r9_3 : List O := [om 20 1 0,
 oL 21 20 1,
 om 22 0 0,
 ⟨some 23,.nilck (.t 22),none,4,[23,22]⟩,
 oa 24 3 23 12,
 ol 25 24 28,
 ⟨some 26,.bin .sub (some .int) true (.k (.int .i64 1000000000000)) (.t 25),none,60,[26,25]⟩,
 ⟨some 27,.bin .gtr (some .int) false (.t 21) (.t 26),none,127,[27,21,26]⟩,
 om 19 27 255]
def r9_4 : List O := [om 28 1 0,
 oL 29 28 1,
 ⟨some 30,.mv (.k (.int .i64 0)),none,0,[30]⟩]
def r9_5 : List O := [oi 32 1 28 30 0,
 ol 33 32 1,
 om 6 33 3]
def r9_6 : List O := [om 34 0 0,
 om 35 0 0,
 om 36 6 0,
 ⟨some 37,.call (.k (.func 38 [] [])) [(.t 35),(.t 36)],none,6,[37,35,36]⟩,
 ⟨some 38,.call (.k (.func 37 [] [])) [(.t 34),(.t 37)],none,15,[38,34,37]⟩,
 om 7 38 31]
def r9_7 : List O := [om 39 7 0,
 ⟨some 40,.bin .neq (some .int) true (.t 39) (.k (.int .i64 0)),none,1,[40,39]⟩]
def r9_8 : List O := [om 41 7 0,
 om 4 41 1]
def r9_9 : List O := [op1 42 30 0,
 om 30 42 1]
abbrev e9_10 : C := .seq (.region [olt 31 30 29 0]) (.seq (.cond (.t 31) (.skip) (.exit 1)) (.seq (.block 2 (.seq (.region r9_5) (.seq (.region r9_6) (.seq (.region r9_7) (.cond (.t 40) (.seq (.region r9_8) (.ret)) (.skip)))))) (.region r9_9)))
def b9_10 : C := e9_10
theorem u9_10 : XL P E ro L b9_10 K ρ h Q = X P E ro L (.c e9_10 :: .l b9_10 :: K) ρ h Q := XL_unroll b9_10
def c9 : C := .seq (.region [⟨some 4,.mv (.k (.int .i64 0)),none,0,[4]⟩]) (.seq (.block 0 (.seq (.region r9_0) (.cond (.t 8) (.seq (.region [⟨some 4,.mv (.k (.int .i64 2)),none,0,[4]⟩]) (.ret)) (.seq (.region r9_1) (.cond (.t 11) (.seq (.region [⟨some 4,.mv (.k (.int .i64 51)),none,0,[4]⟩]) (.ret)) (.seq (.region r9_2) (.cond (.t 16) (.seq (.region [⟨some 4,.mv (.k (.int .i64 50)),none,0,[4]⟩]) (.ret)) (.seq (.region r9_3) (.cond (.t 19) (.seq (.region [⟨some 4,.mv (.k (.int .i64 3)),none,0,[4]⟩]) (.ret)) (.skip)))))))))) (.seq (.seq (.region r9_4) (.block 1 (.loop b9_10))) (.seq (.region [⟨some 4,.mv (.k (.int .i64 0)),none,0,[4]⟩]) (.ret))))
def fn9 : Fn := ⟨43,[.t 4],c9⟩
def r10_0 : List O := [om 4 0 0,
 ⟨some 5,.call (.k (.func 14 [] [])) [(.t 4)],none,1,[5,4]⟩]
def a10_1 : C := .region [om 3 6 0]
def r10_2 : List O := [om 8 3 0,
 ost 1 2 8 1]
def b10_3 : C := .block 1 (.seq (.region r10_2) (.ret))
def r10_4 : List O := [om 9 0 0,
 ⟨some 10,.call (.k (.func 11 [] [])) [(.t 9)],none,1,[10,9]⟩,
 ost 1 2 10 3]
def c10 : C := .seq (.region [⟨some 2,.alloc 2 [(.int .i64 0)],none,0,[2]⟩]) (.seq (.seq (.region r10_0) (.block 0 (.range (.t 5) [6,7] a10_1 b10_3))) (.seq (.region r10_4) (.ret)))
def fn10 : Fn := ⟨11,[.c 2 1 false],c10⟩
def r11_0 : List O := [om 3 0 0,
 ⟨some 4,.call (.k (.func 34 [] [])) [(.t 3)],none,1,[4,3]⟩]
def r11_1 : List O := [om 5 0 0,
 ⟨some 6,.nilck (.t 5),none,1,[6,5]⟩,
 oa 7 3 6 3,
 ol 8 7 7,
 om 2 8 15]
def c11 : C := .seq (.region [⟨some 2,.mv (.k (.int .i64 0)),none,0,[2]⟩]) (.seq (.seq (.region r11_0) (.cond (.t 4) (.seq (.region [⟨some 2,.mv (.k (.int .i64 0)),none,0,[2]⟩]) (.ret)) (.skip))) (.seq (.region r11_1) (.ret)))
def fn11 : Fn := ⟨9,[.t 2],c11⟩
def r12_0 : List O := [om 3 0 0,
 ⟨some 4,.call (.k (.func 34 [] [])) [(.t 3)],none,1,[4,3]⟩]
def r12_1 : List O := [om 5 0 0,
 ⟨some 6,.nilck (.t 5),none,1,[6,5]⟩,
 oa 7 2 6 3,
 ol 8 7 7,
 oL 9 8 15,
 om 2 9 31]
def c12 : C := .seq (.region [⟨some 2,.mv (.k (.int .i64 0)),none,0,[2]⟩]) (.seq (.seq (.region r12_0) (.cond (.t 4) (.seq (.region [⟨some 2,.mv (.k (.int .i64 0)),none,0,[2]⟩]) (.ret)) (.skip))) (.seq (.region r12_1) (.ret)))
def fn12 : Fn := ⟨10,[.t 2],c12⟩
def r13_0 : List O := [om 6 0 0,
 ⟨some 7,.call (.k (.func 34 [] [])) [(.t 6)],none,1,[7,6]⟩]
def r13_1 : List O := [om 8 0 0,
 ⟨some 9,.nilck (.t 8),none,1,[9,8]⟩,
 oa 10 2 9 3,
 ol 11 10 7,
 oL 12 11 15,
 ⟨some 13,.bin .gtr (some .int) true (.t 12) (.k (.int .i64 1)),none,31,[13,12]⟩,
 om 14 13 63,
 og 15 0 14 127,
 ⟨some 16,.nilck (.t 15),some (14,true),255,[16,14,15]⟩,
 oag 17 2 16 14 511,
 olg 18 17 14 1023,
 ⟨some 19,.iadrL 4 (.t 18) (.k (.int .i64 0)),some (14,true),2047,[19,14,18]⟩,
 oNg 20 4 19 14 4095,
 ⟨some 21,.call (.k (.func 30 [] [])) [(.t 20)],some (14,true),8191,[21,14,20]⟩,
 og 22 1 14 127,
 ⟨some 23,.bin .leq (some .int) false (.t 21) (.t 22),some (14,true),32767,[23,14,21,22]⟩,
 oe 24 23 14 65535]
def r13_2 : List O := [om 25 0 0,
 ⟨some 26,.nilck (.t 25),none,1,[26,25]⟩,
 oa 27 0 26 3,
 ol 28 27 7,
 om 29 0 0,
 ⟨some 30,.nilck (.t 29),none,16,[30,29]⟩,
 oa 31 1 30 48,
 ol 32 31 112,
 om 33 0 0,
 ⟨some 34,.nilck (.t 33),none,256,[34,33]⟩,
 oa 35 2 34 768,
 ol 36 35 1792,
 ⟨some 37,.iadrL 4 (.t 36) (.k (.int .i64 0)),none,3840,[37,36]⟩,
 oa 38 0 37 7936,
 ol 39 38 16128,
 ⟨some 40,.call (.k (.func 23 [] [])) [(.t 32),(.t 39)],none,32752,[40,32,39]⟩,
 ⟨some 41,.call (.k (.func 39 [] [])) [(.t 28),(.t 40)],none,65535,[41,28,40]⟩,
 om 5 41 131071]
def r13_3 : List O := [om 42 5 0,
 ⟨some 43,.bin .neq (some .int) true (.t 42) (.k (.int .i64 0)),none,1,[43,42]⟩]
def r13_4 : List O := [om 44 5 0,
 om 4 44 1]
def r13_5 : List O := [om 45 0 0,
 om 46 0 0,
 ⟨some 47,.nilck (.t 46),none,2,[47,46]⟩,
 oa 48 2 47 6,
 ol 49 48 14,
 ⟨some 50,.slL 4 (.t 49) (some (.k (.int .i64 1))) none none,none,30,[50,49]⟩,
 ⟨some 51,.nilck (.t 45),none,63,[51,45]⟩,
 oa 52 2 51 127,
 ost 1 52 50 255]
abbrev e13_6 : C := .seq (.seq (.region r13_1) (.cond (.t 24) (.skip) (.exit 0))) (.block 1 (.seq (.seq (.draw r13_2) (.seq (.region r13_3) (.cond (.t 43) (.seq (.region r13_4) (.ret)) (.skip)))) (.region r13_5)))
def b13_6 : C := e13_6
theorem u13_6 : XL P E ro L b13_6 K ρ h Q = X P E ro L (.c e13_6 :: .l b13_6 :: K) ρ h Q := XL_unroll b13_6
def c13 : C := .seq (.region [⟨some 4,.mv (.k (.int .i64 0)),none,0,[4]⟩]) (.seq (.seq (.region r13_0) (.cond (.t 7) (.seq (.region [⟨some 4,.mv (.k (.int .i64 2)),none,0,[4]⟩]) (.ret)) (.skip))) (.seq (.block 0 (.loop b13_6)) (.seq (.region [⟨some 4,.mv (.k (.int .i64 0)),none,0,[4]⟩]) (.ret))))
def fn13 : Fn := ⟨53,[.t 4],c13⟩
def r14_0 : List O := [om 4 0 0,
 ⟨some 5,.call (.k (.func 34 [] [])) [(.t 4)],none,1,[5,4]⟩,
 ono 6 5 3]
def r14_1 : List O := [om 7 0 0,
 ⟨some 8,.nilck (.t 7),none,1,[8,7]⟩,
 oa 9 2 8 3,
 ol 10 9 7,
 ⟨some 11,.call (.k (.func 40 [] [])) [(.t 10)],none,15,[11,10]⟩,
 ost 1 3 11 31]
def r14_2 : List O := [⟨some 12,.mkF 41 [] [(.t 3)],none,0,[12,3]⟩,
 om 2 12 1]
def c14 : C := .seq (.region [⟨some 2,.mv (.k .nilFunc),none,0,[2]⟩]) (.seq (.region [⟨some 3,.alloc 66 [(.slice none 0 0 false)],none,0,[3]⟩]) (.seq (.seq (.region r14_0) (.cond (.t 6) (.region r14_1) (.skip))) (.seq (.region r14_2) (.ret))))
def fn14 : Fn := ⟨13,[.t 2],c14⟩
def r23_0 : List O := [om 6 0 0,
 ⟨some 7,.call (.k (.func 24 [] [])) [(.t 6)],none,1,[7,6]⟩,
 ono 8 7 3,
 om 9 8 7,
 ⟨some 10,.mv (.t 1),some (9,false),15,[10,9,1]⟩,
 ⟨some 11,.bin .lss (some .int) true (.t 10) (.k (.int .i64 0)),some (9,false),31,[11,9,10]⟩,
 ⟨some 12,.pick (.t 9) (.k (.bool true)) (.t 11),none,63,[12,9,11]⟩,
 om 13 12 127,
 ⟨some 14,.mv (.t 1),some (13,false),255,[14,13,1]⟩,
 ⟨some 15,.bin .gtr (some .int) true (.t 14) (.k (.int .i64 999999999999)),some (13,false),511,[15,13,14]⟩,
 ⟨some 16,.pick (.t 13) (.k (.bool true)) (.t 15),none,1023,[16,13,15]⟩]
def r23_1 : List O := [om 17 1 0,
 ⟨some 18,.call (.k (.func 57 [] [])) [(.t 17),(.k (.int .i64 10))],none,1,[18,17]⟩,
 om 5 18 3]
def r23_2 : List O := [om 19 0 0,
 ⟨some 20,.bin .add (some .str) true (.t 19) (.k (.str [46])),none,1,[20,19]⟩,
 om 21 5 0,
 ⟨some 22,.lenS (.t 21),none,4,[22,21]⟩,
 ⟨some 23,.bin .sub (some .int) true (.k (.int .i64 12)) (.t 22),none,12,[23,22]⟩,
 ⟨some 24,.call (.k (.func 58 [] [])) [(.k (.str [48])),(.t 23)],none,28,[24,23]⟩,
 ⟨some 25,.bin .add (some .str) false (.t 20) (.t 24),none,63,[25,20,24]⟩,
 om 26 5 0,
 ⟨some 27,.bin .add (some .str) false (.t 25) (.t 26),none,255,[27,25,26]⟩,
 om 4 27 511]
def c23 : C := .seq (.region [⟨some 4,.mv (.k (.str [])),none,0,[4]⟩]) (.seq (.seq (.region r23_0) (.cond (.t 16) (.seq (.region [⟨some 4,.mv (.k (.str [])),none,0,[4]⟩]) (.ret)) (.skip))) (.seq (.region r23_1) (.seq (.region r23_2) (.ret))))
def fn23 : Fn := ⟨28,[.t 4],c23⟩
def r24_0 : List O := [om 5 0 0,
 ⟨some 6,.s2b 5 (.t 5),none,1,[6,5]⟩,
 oL 7 6 3,
 ⟨some 8,.mv (.k (.int .i64 0)),none,0,[8]⟩]
def r24_1 : List O := [oi 10 1 6 8 0,
 ol 11 10 1,
 om 4 11 3]
def r24_2 : List O := [om 12 4 0,
 ⟨some 13,.bin .lss (some .int) true (.t 12) (.k (.int .u8 97)),none,1,[13,12]⟩,
 om 14 13 3,
 ⟨some 15,.mv (.t 4),some (14,false),7,[15,14,4]⟩,
 ⟨some 16,.bin .gtr (some .int) true (.t 15) (.k (.int .u8 122)),some (14,false),15,[16,14,15]⟩,
 ⟨some 17,.pick (.t 14) (.k (.bool true)) (.t 16),none,31,[17,14,16]⟩]
def r24_3 : List O := [op1 18 8 0,
 om 8 18 1]
abbrev e24_4 : C := .seq (.region [olt 9 8 7 0]) (.seq (.cond (.t 9) (.skip) (.exit 0)) (.seq (.block 1 (.seq (.region r24_1) (.seq (.region r24_2) (.cond (.t 17) (.seq (.region [⟨some 2,.mv (.k (.bool false)),none,0,[2]⟩]) (.ret)) (.skip))))) (.region r24_3)))
def b24_4 : C := e24_4
theorem u24_4 : XL P E ro L b24_4 K ρ h Q = X P E ro L (.c e24_4 :: .l b24_4 :: K) ρ h Q := XL_unroll b24_4
def r24_5 : List O := [om 19 0 0,
 ⟨some 20,.lenS (.t 19),none,1,[20,19]⟩,
 ⟨some 21,.bin .geq (some .int) true (.t 20) (.k (.int .i64 1)),none,3,[21,20]⟩,
 om 22 21 7,
 og 23 0 22 15,
 ⟨some 24,.lenS (.t 23),some (22,true),31,[24,22,23]⟩,
 ⟨some 25,.bin .leq (some .int) true (.t 24) (.k (.int .i64 20)),some (22,true),63,[25,22,24]⟩,
 oe 26 25 22 127,
 om 2 26 255]
def c24 : C := .seq (.region [⟨some 2,.mv (.k (.bool false)),none,0,[2]⟩]) (.seq (.seq (.region r24_0) (.block 0 (.loop b24_4))) (.seq (.region r24_5) (.ret)))
def fn24 : Fn := ⟨27,[.t 2],c24⟩
def r25_0 : List O := [om 3 0 0,
 ⟨some 4,.call (.k (.func 55 [] [])) [(.t 3)],none,1,[4,3]⟩,
 ono 5 4 3,
 om 6 5 7,
 og 7 0 6 15,
 ⟨some 8,.nilck (.t 7),some (6,true),31,[8,6,7]⟩,
 oag 9 4 8 6 63,
 olg 10 9 6 127,
 oe 11 10 6 255,
 om 2 11 511]
def c25 : C := .seq (.region [⟨some 2,.mv (.k (.bool false)),none,0,[2]⟩]) (.seq (.region r25_0) (.ret))
def fn25 : Fn := ⟨12,[.t 2],c25⟩
def r26_0 : List O := [om 6 0 0,
 ⟨some 7,.call (.k (.func 55 [] [])) [(.t 6)],none,1,[7,6]⟩]
def r26_1 : List O := [⟨some 8,.mkMap,none,0,[8]⟩,
 om 9 0 0,
 ⟨some 10,.nilck (.t 9),none,2,[10,9]⟩,
 oa 11 1 10 6,
 oN 12 2 11 14,
 om 13 0 0,
 ⟨some 14,.nilck (.t 13),none,32,[14,13]⟩,
 oa 15 3 14 96,
 ol 16 15 224,
 om 17 0 0,
 ⟨some 18,.nilck (.t 17),none,512,[18,17]⟩,
 oa 19 4 18 1536,
 ol 20 19 3584,
 ⟨some 21,.build [(.map none),(.int .i64 0),(.int .i64 0),(.int .i64 0),(.bool false)] [(0,1,(.t 8)),(1,2,(.t 12)),(3,1,(.t 16)),(4,1,(.t 20))],none,8191,[21,8,12,16,20]⟩,
 ⟨some 22,.box 63 (.t 21),none,16383,[22,21]⟩,
 om 3 22 32767]
theorem d26_1 (hx : XDQ P E ro L K Q h [true,false,false,false,false,false,false,false,false,false,false,false,false,true,true,true] r26_1 ρ h) : XD P E ro L r26_1 K ρ h Q := XD_quiet rfl rfl hx
def r26_2 : List O := [om 23 0 0,
 ⟨some 24,.nilck (.t 23),none,1,[24,23]⟩,
 oa 25 0 24 3,
 ol 26 25 7,
 ⟨some 27,.rng false (.t 26),none,15,[27,26]⟩]
def r26_3 : List O := [⟨some 28,.next false (.t 27),none,0,[28,27]⟩,
 ox 29 28 0 1]
def r26_4 : List O := [⟨some 30,.entry (.t 27),none,0,[30,27]⟩,
 ox 31 30 0 1,
 ox 32 30 1 1,
 om 4 31 3,
 om 5 32 15]
def r26_5 : List O := [om 33 3 0,
 ⟨some 34,.nilck (.t 33),none,1,[34,33]⟩,
 oa 35 0 34 3,
 ol 36 35 7,
 om 37 4 0,
 om 38 5 0,
 ⟨some 39,.nilck (.t 38),none,32,[39,38]⟩,
 oa 40 0 39 96,
 ol 41 40 224,
 ⟨some 42,.call (.k (.func 42 [] [])) [(.t 41)],none,480,[42,41]⟩,
 om 43 5 0,
 ⟨some 44,.nilck (.t 43),none,1024,[44,43]⟩,
 oa 45 1 44 3072,
 ol 46 45 7168,
 ⟨some 47,.build [(.slice none 0 0 false),(.int .i64 0)] [(0,1,(.t 42)),(1,1,(.t 46))],none,16352,[47,42,46]⟩,
 ⟨some 48,.box 105 (.t 47),none,32736,[48,47]⟩,
 ⟨none,.mapUpd .str (.t 36) (.t 37) (.t 48),none,65535,[36,37,48]⟩]
def b26_6 : C := .seq (.region r26_3) (.seq (.cond (.t 29) (.skip) (.exit 0)) (.block 1 (.seq (.region r26_4) (.draw r26_5))))
def r26_7 : List O := [om 49 3 0,
 om 2 49 1]
def c26 : C := .seq (.region [⟨some 2,.mv (.k (.ptr none)),none,0,[2]⟩]) (.seq (.seq (.region r26_0) (.cond (.t 7) (.seq (.region [⟨some 2,.mv (.k (.ptr none)),none,0,[2]⟩]) (.ret)) (.skip))) (.seq (.draw r26_1) (.seq (.seq (.region r26_2) (.block 0 (.loop b26_6))) (.seq (.region r26_7) (.ret)))))
def fn26 : Fn := ⟨50,[.t 2],c26⟩
def r30_0 : List O := [⟨some 1,.box 74 (.t 0),none,0,[1,0]⟩,
 ⟨some 2,.mv (.k (.int .i64 0)),none,0,[2]⟩]
def r30_1 : List O := [oa 3 0 1 0,
 ol 4 3 1,
 oa 5 1 1 0,
 ol 6 5 4,
 oL 7 6 12,
 ⟨some 8,.bin .add (some .int) false (.t 4) (.t 7),none,31,[8,4,7]⟩,
 om 2 8 63]
def c30 : C := .seq (.region r30_0) (.seq (.region r30_1) (.ret))
def fn30 : Fn := ⟨9,[.t 2],c30⟩
def r33_0 : List O := [om 7 0 0,
 om 8 1 0,
 ⟨some 9,.bslice 9 1 [(.str [])] [(0,1,(.t 8))],none,2,[9,8]⟩,
 ⟨some 10,.call (.k (.func 63 [] [])) [(.t 7),(.t 9)],none,7,[10,7,9]⟩,
 om 5 10 15]
def r33_1 : List O := [om 11 5 0,
 ⟨some 12,.bin .neq (some .int) true (.t 11) (.k (.int .i64 0)),none,1,[12,11]⟩]
def r33_2 : List O := [om 13 5 0,
 om 4 13 1]
def r33_3 : List O := [om 14 0 0,
 ⟨some 15,.call (.k (.func 67 [] [])) [(.t 14)],none,1,[15,14]⟩,
 om 6 15 3]
def r33_4 : List O := [om 16 6 0,
 ⟨some 17,.bin .neq (some .int) true (.t 16) (.k (.int .i64 0)),none,1,[17,16]⟩]
def r33_5 : List O := [om 18 6 0,
 om 4 18 1]
def r33_6 : List O := [om 19 0 0,
 ⟨some 20,.nilck (.t 19),none,1,[20,19]⟩,
 oa 21 0 20 3,
 ol 22 21 7,
 om 23 1 0,
 ⟨some 24,.lookup .str (.ptr none) false (.t 22) (.t 23),none,31,[24,22,23]⟩,
 om 25 0 0,
 ⟨some 26,.nilck (.t 25),none,64,[26,25]⟩,
 oa 27 0 26 192,
 ol 28 27 448,
 om 29 1 0,
 ⟨some 30,.lookup .str (.ptr none) false (.t 28) (.t 29),none,1984,[30,28,29]⟩,
 ⟨some 31,.nilck (.t 30),none,4032,[31,30]⟩,
 oa 32 0 31 8128,
 ol 33 32 16320,
 oL 34 33 32704,
 ⟨some 35,.nilck (.t 24),none,65535,[35,24]⟩,
 oa 36 1 35 131071,
 ost 1 36 34 262143]
theorem d33_6 (hx : XDO P E ro L r33_6 K ρ h Q) : XD P E ro L r33_6 K ρ h Q := XD_ord rfl hx
def c33 : C := .seq (.region [⟨some 4,.mv (.k (.int .i64 0)),none,0,[4]⟩]) (.seq (.seq (.region r33_0) (.seq (.region r33_1) (.cond (.t 12) (.seq (.region r33_2) (.ret)) (.skip)))) (.seq (.seq (.region r33_3) (.seq (.region r33_4) (.cond (.t 17) (.seq (.region r33_5) (.ret)) (.skip)))) (.seq (.draw r33_6) (.seq (.region [⟨some 4,.mv (.k (.int .i64 0)),none,0,[4]⟩]) (.ret)))))
def fn33 : Fn := ⟨37,[.t 4],c33⟩
def r34_0 : List O := [om 3 0 0,
 ⟨some 4,.bin .eql (some .ptr) true (.t 3) (.k (.ptr none)),none,1,[4,3]⟩,
 om 5 4 3,
 ⟨some 6,.mv (.t 0),some (5,false),7,[6,5,0]⟩,
 ⟨some 7,.nilck (.t 6),some (5,false),15,[7,5,6]⟩,
 oaf 8 1 7 5 31,
 olf 9 8 5 63,
 ⟨some 10,.bin .eql (some .str) true (.t 9) (.k (.str [])),some (5,false),127,[10,5,9]⟩,
 ⟨some 11,.pick (.t 5) (.k (.bool true)) (.t 10),none,255,[11,5,10]⟩,
 om 2 11 511]
def c34 : C := .seq (.region [⟨some 2,.mv (.k (.bool false)),none,0,[2]⟩]) (.seq (.region r34_0) (.ret))
def fn34 : Fn := ⟨12,[.t 2],c34⟩
def r35_0 : List O := [om 5 0 0,
 om 6 1 0,
 ⟨some 7,.call (.k (.func 68 [] [])) [(.t 5),(.t 6)],none,3,[7,5,6]⟩,
 ⟨some 8,.bin .geq (some .int) true (.t 7) (.k (.int .i64 0)),none,7,[8,7]⟩,
 om 4 8 15]
def c35 : C := .seq (.region [⟨some 4,.mv (.k (.bool false)),none,0,[4]⟩]) (.seq (.region r35_0) (.ret))
def fn35 : Fn := ⟨9,[.t 4],c35⟩
def r36_0 : List O := [om 3 0 0,
 oL 4 3 1,
 ⟨some 5,.bin .eql (some .int) true (.t 4) (.k (.int .i64 0)),none,3,[5,4]⟩,
 om 6 5 7,
 ⟨some 7,.mv (.t 0),some (6,false),15,[7,6,0]⟩,
 ⟨some 8,.lenL (.t 7),some (6,false),31,[8,6,7]⟩,
 ⟨some 9,.bin .gtr (some .int) true (.t 8) (.k (.int .i64 65536)),some (6,false),63,[9,6,8]⟩,
 ⟨some 10,.pick (.t 6) (.k (.bool true)) (.t 9),none,127,[10,6,9]⟩,
 om 2 10 255]
def c36 : C := .seq (.region [⟨some 2,.mv (.k (.bool false)),none,0,[2]⟩]) (.seq (.region r36_0) (.ret))
def fn36 : Fn := ⟨11,[.t 2],c36⟩
def r37_0 : List O := [om 5 0 0,
 om 6 0 0,
 ⟨some 7,.nilck (.t 6),none,2,[7,6]⟩,
 oa 8 5 7 6,
 ol 9 8 14,
 om 10 9 30,
 ⟨some 11,.mv (.t 1),some (10,false),62,[11,10,1]⟩,
 ⟨some 12,.bin .neq (some .int) true (.t 11) (.k (.int .i64 0)),some (10,false),126,[12,10,11]⟩,
 ⟨some 13,.pick (.t 10) (.k (.bool true)) (.t 12),none,254,[13,10,12]⟩,
 ⟨some 14,.nilck (.t 5),none,511,[14,5]⟩,
 oa 15 5 14 1023,
 ost 1 15 13 2047]
def r37_1 : List O := [om 16 1 0,
 om 4 16 1]
def c37 : C := .seq (.region [⟨some 4,.mv (.k (.int .i64 0)),none,0,[4]⟩]) (.seq (.region r37_0) (.seq (.region r37_1) (.ret)))
def fn37 : Fn := ⟨17,[.t 4],c37⟩
def r38_0 : List O := [om 13 1 0,
 ⟨some 14,.call (.k (.func 69 [] [])) [(.t 13)],none,1,[14,13]⟩,
 om 12 14 3,
 ox 15 12 0 7,
 ox 16 12 1 7,
 om 5 15 15,
 om 6 16 63]
def r38_1 : List O := [om 17 6 0,
 ⟨some 18,.bin .neq (some .int) true (.t 17) (.k (.int .i64 0)),none,1,[18,17]⟩]
def r38_2 : List O := [om 19 6 0,
 om 4 19 1]
def r38_3 : List O := [om 20 0 0,
 ⟨some 21,.nilck (.t 20),none,1,[21,20]⟩,
 oa 22 2 21 3,
 ol 23 22 7,
 oL 24 23 15,
 ⟨some 25,.bin .sub (some .int) true (.t 24) (.k (.int .i64 1)),none,31,[25,24]⟩,
 om 7 25 63]
def r38_4 : List O := [om 26 7 0,
 ⟨some 27,.bin .lss (some .int) true (.t 26) (.k (.int .i64 0)),none,1,[27,26]⟩,
 om 28 27 3,
 ⟨some 29,.mv (.t 0),some (28,false),7,[29,28,0]⟩,
 ⟨some 30,.nilck (.t 29),some (28,false),15,[30,28,29]⟩,
 oaf 31 2 30 28 31,
 olf 32 31 28 63,
 ⟨some 33,.mv (.t 7),some (28,false),7,[33,28,7]⟩,
 ⟨some 34,.iadrL 4 (.t 32) (.t 33),some (28,false),255,[34,28,32,33]⟩,
 oaf 35 2 34 28 511,
 olf 36 35 28 1023,
 ⟨some 37,.bin .geq (some .int) true (.t 36) (.k (.int .i64 1024)),some (28,false),2047,[37,28,36]⟩,
 ⟨some 38,.pick (.t 28) (.k (.bool true)) (.t 37),none,4095,[38,28,37]⟩]
def r38_5 : List O := [om 39 7 0,
 ⟨some 40,.bin .geq (some .int) true (.t 39) (.k (.int .i64 0)),none,1,[40,39]⟩,
 om 41 40 3,
 og 42 0 41 7,
 ⟨some 43,.nilck (.t 42),some (41,true),15,[43,41,42]⟩,
 oag 44 2 43 41 31,
 olg 45 44 41 63,
 og 46 7 41 7,
 oig 47 4 45 46 41 255,
 oag 48 3 47 41 511,
 olg 49 48 41 1023,
 oe 50 49 41 2047]
def r38_6 : List O := [om 51 0 0,
 ⟨some 52,.nilck (.t 51),none,1,[52,51]⟩,
 oa 53 0 52 3,
 ol 54 53 7,
 om 55 0 0,
 ⟨some 56,.nilck (.t 55),none,16,[56,55]⟩,
 oa 57 1 56 48,
 ol 58 57 112,
 om 59 0 0,
 ⟨some 60,.nilck (.t 59),none,256,[60,59]⟩,
 oa 61 2 60 768,
 ol 62 61 1792,
 om 63 7 0,
 oi 64 4 62 63 7936,
 oa 65 0 64 16128,
 ol 66 65 32512,
 ⟨some 67,.call (.k (.func 23 [] [])) [(.t 58),(.t 66)],none,65520,[67,58,66]⟩,
 ⟨some 68,.call (.k (.func 33 [] [])) [(.t 54),(.t 67)],none,131071,[68,54,67]⟩,
 om 8 68 262143]
def r38_7 : List O := [om 69 8 0,
 ⟨some 70,.bin .neq (some .int) true (.t 69) (.k (.int .i64 0)),none,1,[70,69]⟩]
def r38_8 : List O := [om 71 8 0,
 om 4 71 1]
def r38_9 : List O := [om 72 0 0,
 ⟨some 73,.nilck (.t 72),none,1,[73,72]⟩,
 oa 74 2 73 3,
 ol 75 74 7,
 om 76 7 0,
 oi 77 4 75 76 31,
 oa 78 3 77 63,
 ⟨none,.store 1 (.t 78) (.k (.bool false)),none,127,[78]⟩]
def r38_10 : List O := [om 79 0 0,
 ⟨some 80,.nilck (.t 79),none,1,[80,79]⟩,
 oa 81 0 80 3,
 ol 82 81 7,
 om 83 0 0,
 ⟨some 84,.nilck (.t 83),none,16,[84,83]⟩,
 oa 85 1 84 48,
 ol 86 85 112,
 om 87 0 0,
 ⟨some 88,.nilck (.t 87),none,256,[88,87]⟩,
 oa 89 3 88 768,
 ol 90 89 1792,
 ⟨some 91,.call (.k (.func 23 [] [])) [(.t 86),(.t 90)],none,4080,[91,86,90]⟩,
 om 92 5 0,
 ⟨some 93,.call (.k (.func 65 [] [])) [(.t 82),(.t 91),(.t 92)],none,16383,[93,82,91,92]⟩,
 om 9 93 32767]
def r38_11 : List O := [om 94 9 0,
 ⟨some 95,.bin .neq (some .int) true (.t 94) (.k (.int .i64 0)),none,1,[95,94]⟩]
def r38_12 : List O := [om 96 9 0,
 om 4 96 1]
def r38_13 : List O := [om 97 0 0,
 om 98 0 0,
 ⟨some 99,.nilck (.t 98),none,2,[99,98]⟩,
 oa 100 2 99 6,
 ol 101 100 14,
 om 102 0 0,
 ⟨some 103,.nilck (.t 102),none,32,[103,102]⟩,
 oa 104 3 103 96,
 ol 105 104 224,
 ⟨some 106,.build [(.int .i64 0),(.slice none 0 0 false),(.int .i64 0),(.bool false)] [(0,1,(.t 105))],none,480,[106,105]⟩,
 ⟨some 107,.bslice 74 1 [(.int .i64 0),(.slice none 0 0 false),(.int .i64 0),(.bool false)] [(0,4,(.t 106))],none,992,[107,106]⟩,
 ⟨some 108,.app 74 4 48 (.t 101) (.t 107),none,2046,[108,101,107]⟩,
 ⟨some 109,.nilck (.t 97),none,4095,[109,97]⟩,
 oa 110 2 109 8191,
 ost 1 110 108 16383]
def r38_14 : List O := [om 111 7 0,
 op1 112 111 1,
 om 7 112 3]
def r38_15 : List O := [om 113 0 0,
 ⟨some 114,.nilck (.t 113),none,1,[114,113]⟩,
 oa 115 0 114 3,
 ol 116 115 7,
 om 117 0 0,
 ⟨some 118,.nilck (.t 117),none,16,[118,117]⟩,
 oa 119 1 118 48,
 ol 120 119 112,
 om 121 0 0,
 ⟨some 122,.nilck (.t 121),none,256,[122,121]⟩,
 oa 123 2 122 768,
 ol 124 123 1792,
 om 125 7 0,
 oi 126 4 124 125 7936,
 oa 127 0 126 16128,
 ol 128 127 32512,
 ⟨some 129,.call (.k (.func 23 [] [])) [(.t 120),(.t 128)],none,65520,[129,120,128]⟩,
 om 130 5 0,
 ⟨some 131,.call (.k (.func 65 [] [])) [(.t 116),(.t 129),(.t 130)],none,262143,[131,116,129,130]⟩,
 om 10 131 524287]
def r38_16 : List O := [om 132 10 0,
 ⟨some 133,.bin .neq (some .int) true (.t 132) (.k (.int .i64 0)),none,1,[133,132]⟩]
def r38_17 : List O := [om 134 10 0,
 om 4 134 1]
def r38_18 : List O := [om 135 0 0,
 ⟨some 136,.nilck (.t 135),none,1,[136,135]⟩,
 oa 137 2 136 3,
 ol 138 137 7,
 om 139 7 0,
 oi 140 4 138 139 31,
 om 11 140 63]
def r38_19 : List O := [om 141 11 0,
 om 142 11 0,
 ⟨some 143,.nilck (.t 142),none,2,[143,142]⟩,
 oa 144 1 143 6,
 ol 145 144 14,
 om 146 1 0,
 ⟨some 147,.call (.k (.func 42 [] [])) [(.t 146)],none,32,[147,146]⟩,
 ⟨some 148,.bslice 45 1 [(.slice none 0 0 false)] [(0,1,(.t 147))],none,96,[148,147]⟩,
 ⟨some 149,.app 45 1 24 (.t 145) (.t 148),none,254,[149,145,148]⟩,
 ⟨some 150,.nilck (.t 141),none,511,[150,141]⟩,
 oa 151 1 150 1023,
 ost 1 151 149 2047]
def r38_20 : List O := [om 152 11 0,
 ⟨some 153,.nilck (.t 152),none,1,[153,152]⟩,
 oa 154 2 153 3,
 ol 155 154 7,
 om 156 5 0,
 oL 157 156 16,
 ⟨some 158,.bin .add (some .int) false (.t 155) (.t 157),none,63,[158,155,157]⟩,
 ⟨some 159,.nilck (.t 152),none,127,[159,152]⟩,
 oa 160 2 159 255,
 ost 1 160 158 511]
def r38_21 : List O := [om 161 11 0,
 ⟨some 162,.nilck (.t 161),none,1,[162,161]⟩,
 oa 163 3 162 3,
 ⟨none,.store 1 (.t 163) (.k (.bool true)),none,7,[163]⟩]
def r38_22 : List O := [om 164 0 0,
 ⟨some 165,.nilck (.t 164),none,1,[165,164]⟩,
 oa 166 3 165 3,
 ol 167 166 7,
 op1 168 167 15,
 ⟨some 169,.nilck (.t 164),none,31,[169,164]⟩,
 oa 170 3 169 63,
 ost 1 170 168 127]
def c38 : C := .seq (.region [⟨some 4,.mv (.k (.int .i64 0)),none,0,[4]⟩]) (.seq (.region r38_0) (.seq (.seq (.region r38_1) (.cond (.t 18) (.seq (.region r38_2) (.ret)) (.skip))) (.seq (.region r38_3) (.seq (.seq (.region r38_4) (.cond (.t 38) (.seq (.seq (.region r38_5) (.cond (.t 50) (.seq (.seq (.draw r38_6) (.seq (.region r38_7) (.cond (.t 70) (.seq (.region r38_8) (.ret)) (.skip)))) (.region r38_9)) (.skip))) (.seq (.seq (.draw r38_10) (.seq (.region r38_11) (.cond (.t 95) (.seq (.region r38_12) (.ret)) (.skip)))) (.seq (.draw r38_13) (.region r38_14)))) (.seq (.draw r38_15) (.seq (.region r38_16) (.cond (.t 133) (.seq (.region r38_17) (.ret)) (.skip)))))) (.seq (.region r38_18) (.seq (.draw r38_19) (.seq (.region r38_20) (.seq (.region r38_21) (.seq (.region r38_22) (.seq (.region [⟨some 4,.mv (.k (.int .i64 0)),none,0,[4]⟩]) (.ret)))))))))))
def fn38 : Fn := ⟨171,[.t 4],c38⟩
def r39_0 : List O := [om 7 0 0,
 om 8 1 0,
 ⟨some 9,.bslice 9 1 [(.str [])] [(0,1,(.t 8))],none,2,[9,8]⟩,
 ⟨some 10,.call (.k (.func 63 [] [])) [(.t 7),(.t 9)],none,7,[10,7,9]⟩,
 om 5 10 15]
def r39_1 : List O := [om 11 5 0,
 ⟨some 12,.bin .neq (some .int) true (.t 11) (.k (.int .i64 0)),none,1,[12,11]⟩]
def r39_2 : List O := [om 13 5 0,
 om 4 13 1]
def r39_3 : List O := [om 14 0 0,
 ⟨some 15,.call (.k (.func 67 [] [])) [(.t 14)],none,1,[15,14]⟩,
 om 6 15 3]
def r39_4 : List O := [om 16 6 0,
 ⟨some 17,.bin .neq (some .int) true (.t 16) (.k (.int .i64 0)),none,1,[17,16]⟩]
def r39_5 : List O := [om 18 6 0,
 om 4 18 1]
def r39_6 : List O := [om 19 0 0,
 ⟨some 20,.nilck (.t 19),none,1,[20,19]⟩,
 oa 21 0 20 3,
 ol 22 21 7,
 om 23 1 0,
 ⟨none,.mapDel .str (.t 22) (.t 23),none,31,[22,23]⟩]
def c39 : C := .seq (.region [⟨some 4,.mv (.k (.int .i64 0)),none,0,[4]⟩]) (.seq (.seq (.region r39_0) (.seq (.region r39_1) (.cond (.t 12) (.seq (.region r39_2) (.ret)) (.skip)))) (.seq (.seq (.region r39_3) (.seq (.region r39_4) (.cond (.t 17) (.seq (.region r39_5) (.ret)) (.skip)))) (.seq (.region r39_6) (.seq (.region [⟨some 4,.mv (.k (.int .i64 0)),none,0,[4]⟩]) (.ret)))))
def fn39 : Fn := ⟨24,[.t 4],c39⟩
def r40_0 : List O := [om 3 0 0,
 ⟨some 4,.bin .eql (some .sl) true (.t 3) (.k (.slice none 0 0 false)),none,1,[4,3]⟩]
def r40_1 : List O := [⟨some 5,.bslice 74 0 [] [],none,0,[5]⟩,
 om 6 0 0,
 ⟨some 7,.app 74 4 48 (.t 5) (.t 6),none,3,[7,5,6]⟩,
 om 2 7 7]
def c40 : C := .seq (.region [⟨some 2,.mv (.k (.slice none 0 0 false)),none,0,[2]⟩]) (.seq (.seq (.region r40_0) (.cond (.t 4) (.seq (.region [⟨some 2,.mv (.k (.slice none 0 0 false)),none,0,[2]⟩]) (.ret)) (.skip))) (.seq (.region r40_1) (.ret)))
def fn40 : Fn := ⟨8,[.t 2],c40⟩
def r41_0 : List O := [ol 7 1 0,
 oL 8 7 1,
 ⟨some 9,.mv (.k (.int .i64 0)),none,0,[9]⟩]
def r41_1 : List O := [oi 11 4 7 9 0,
 oN 12 4 11 1,
 ⟨some 4,.alloc 74 [(.int .i64 0),(.slice none 0 0 false),(.int .i64 0),(.bool false)],none,0,[4]⟩,
 ost 4 4 12 7]
def r41_2 : List O := [oa 13 1 4 0,
 ol 14 13 1,
 oL 15 14 3,
 ⟨some 16,.mv (.k (.int .i64 0)),none,0,[16]⟩]
def r41_3 : List O := [om 18 16 0,
 oi 19 1 14 16 0,
 ol 20 19 2,
 om 5 18 7,
 om 6 20 15]
def r41_4 : List O := [om 21 0 0,
 oa 22 0 4 0,
 ol 23 22 2,
 om 24 5 0,
 ⟨some 25,.bin .add (some .int) false (.t 23) (.t 24),none,14,[25,23,24]⟩,
 om 26 6 0,
 ⟨some 27,.call (.k (.func 42 [] [])) [(.t 26)],none,32,[27,26]⟩,
 ⟨some 28,.call (.t 21) [(.t 25),(.t 27)],none,127,[28,21,25,27]⟩,
 ono 29 28 255]
def r41_5 : List O := [op1 30 16 0,
 om 16 30 1]
abbrev e41_6 : C := .seq (.region [olt 17 16 15 0]) (.seq (.cond (.t 17) (.skip) (.exit 2)) (.seq (.block 3 (.seq (.region r41_3) (.seq (.draw r41_4) (.cond (.t 29) (.ret) (.skip))))) (.region r41_5)))
def b41_6 : C := e41_6
theorem u41_6 : XL P E ro L b41_6 K ρ h Q = X P E ro L (.c e41_6 :: .l b41_6 :: K) ρ h Q := XL_unroll b41_6
def r41_7 : List O := [op1 31 9 0,
 om 9 31 1]
abbrev e41_8 : C := .seq (.region [olt 10 9 8 0]) (.seq (.cond (.t 10) (.skip) (.exit 0)) (.seq (.block 1 (.seq (.region r41_1) (.seq (.region r41_2) (.block 2 (.loop b41_6))))) (.region r41_7)))
def b41_8 : C := e41_8
theorem u41_8 : XL P E ro L b41_8 K ρ h Q = X P E ro L (.c e41_8 :: .l b41_8 :: K) ρ h Q := XL_unroll b41_8
def c41 : C := .seq (.region r41_0) (.block 0 (.loop b41_8))
def fn41 : Fn := ⟨32,[],c41⟩
def r42_0 : List O := [om 3 0 0,
 ⟨some 4,.bin .eql (some .sl) true (.t 3) (.k (.slice none 0 0 false)),none,1,[4,3]⟩]
def r42_1 : List O := [⟨some 5,.bslice 5 0 [] [],none,0,[5]⟩,
 om 6 0 0,
 ⟨some 7,.app 5 1 1 (.t 5) (.t 6),none,3,[7,5,6]⟩,
 om 2 7 7]
def c42 : C := .seq (.region [⟨some 2,.mv (.k (.slice none 0 0 false)),none,0,[2]⟩]) (.seq (.seq (.region r42_0) (.cond (.t 4) (.seq (.region [⟨some 2,.mv (.k (.slice none 0 0 false)),none,0,[2]⟩]) (.ret)) (.skip))) (.seq (.region r42_1) (.ret)))
def fn42 : Fn := ⟨8,[.t 2],c42⟩
def r55_0 : List O := [om 3 0 0,
 ⟨some 4,.bin .eql (some .ptr) true (.t 3) (.k (.ptr none)),none,1,[4,3]⟩,
 om 5 4 3,
 ⟨some 6,.mv (.t 0),some (5,false),7,[6,5,0]⟩,
 ⟨some 7,.nilck (.t 6),some (5,false),15,[7,5,6]⟩,
 oaf 8 0 7 5 31,
 olf 9 8 5 63,
 ⟨some 10,.bin .eql (some .mp) true (.t 9) (.k (.map none)),some (5,false),127,[10,5,9]⟩,
 ⟨some 11,.pick (.t 5) (.k (.bool true)) (.t 10),none,255,[11,5,10]⟩,
 om 2 11 511]
def c55 : C := .seq (.region [⟨some 2,.mv (.k (.bool false)),none,0,[2]⟩]) (.seq (.region r55_0) (.ret))
def fn55 : Fn := ⟨12,[.t 2],c55⟩
def r63_0 : List O := [om 6 0 0,
 om 7 1 0,
 ⟨some 8,.call (.k (.func 100 [] [])) [(.t 6),(.t 7)],none,3,[8,6,7]⟩,
 om 5 8 7]
def r63_1 : List O := [om 9 5 0,
 ⟨some 10,.bin .neq (some .int) true (.t 9) (.k (.int .i64 0)),none,1,[10,9]⟩]
def r63_2 : List O := [om 11 5 0,
 om 4 11 1]
def r63_3 : List O := [om 12 0 0,
 ⟨some 13,.nilck (.t 12),none,1,[13,12]⟩,
 oa 14 0 13 3,
 ol 15 14 7,
 om 16 1 0,
 ⟨some 17,.iadrL 1 (.t 16) (.k (.int .i64 0)),none,16,[17,16]⟩,
 ol 18 17 48,
 ⟨some 19,.lookup .str (.ptr none) false (.t 15) (.t 18),none,127,[19,15,18]⟩,
 ⟨some 20,.bin .eql (some .ptr) true (.t 19) (.k (.ptr none)),none,255,[20,19]⟩]
theorem d63_3 : XD P E ro L r63_3 K ρ h Q = XO P E ro L r63_3 K ρ h Q := XD_still rfl
def c63 : C := .seq (.region [⟨some 4,.mv (.k (.int .i64 0)),none,0,[4]⟩]) (.seq (.seq (.region r63_0) (.seq (.region r63_1) (.cond (.t 10) (.seq (.region r63_2) (.ret)) (.skip)))) (.seq (.seq (.draw r63_3) (.cond (.t 20) (.seq (.region [⟨some 4,.mv (.k (.int .i64 4)),none,0,[4]⟩]) (.ret)) (.skip))) (.seq (.region [⟨some 4,.mv (.k (.int .i64 0)),none,0,[4]⟩]) (.ret))))
def fn63 : Fn := ⟨21,[.t 4],c63⟩
def r65_0 : List O := [om 9 0 0,
 om 10 1 0,
 ⟨some 11,.bslice 9 1 [(.str [])] [(0,1,(.t 10))],none,2,[11,10]⟩,
 ⟨some 12,.call (.k (.func 100 [] [])) [(.t 9),(.t 11)],none,7,[12,9,11]⟩,
 om 7 12 15]
def r65_1 : List O := [om 13 7 0,
 ⟨some 14,.bin .neq (some .int) true (.t 13) (.k (.int .i64 0)),none,1,[14,13]⟩]
def r65_2 : List O := [om 15 7 0,
 om 6 15 1]
def r65_3 : List O := [om 16 0 0,
 ⟨some 17,.nilck (.t 16),none,1,[17,16]⟩,
 oa 18 0 17 3,
 ol 19 18 7,
 om 20 1 0,
 ⟨some 21,.lookup .str (.ptr none) false (.t 19) (.t 20),none,31,[21,19,20]⟩,
 om 8 21 63]
def r65_4 : List O := [om 22 8 0,
 ⟨some 23,.bin .eql (some .ptr) true (.t 22) (.k (.ptr none)),none,1,[23,22]⟩,
 om 24 23 3,
 og 25 0 24 7,
 ⟨some 26,.nilck (.t 25),some (24,true),15,[26,24,25]⟩,
 oag 27 0 26 24 31,
 olg 28 27 24 63,
 ⟨some 29,.lenM (.t 28),some (24,true),127,[29,24,28]⟩,
 ⟨some 30,.bin .geq (some .int) true (.t 29) (.k (.int .i64 1024)),some (24,true),255,[30,24,29]⟩,
 oe 31 30 24 511]
def r65_5 : List O := [om 32 2 0,
 oL 33 32 1,
 om 34 0 0,
 ⟨some 35,.nilck (.t 34),none,4,[35,34]⟩,
 oa 36 3 35 12,
 ol 37 36 28,
 om 38 0 0,
 ⟨some 39,.nilck (.t 38),none,64,[39,38]⟩,
 oa 40 0 39 192,
 ol 41 40 448,
 ⟨some 42,.call (.k (.func 105 [] [])) [(.t 41)],none,960,[42,41]⟩,
 ⟨some 43,.bin .sub (some .int) false (.t 37) (.t 42),none,2044,[43,37,42]⟩,
 ⟨some 44,.bin .gtr (some .int) false (.t 33) (.t 43),none,4095,[44,33,43]⟩]
theorem d65_5 (hx : XDQ P E ro L K Q h [true,true,true,true,true,true,true,true,true,true,true,true,true] r65_5 ρ h) : XD P E ro L r65_5 K ρ h Q := XD_quiet rfl rfl hx
def r65_6 : List O := [om 45 8 0,
 ⟨some 46,.bin .eql (some .ptr) true (.t 45) (.k (.ptr none)),none,1,[46,45]⟩]
def r65_7 : List O := [⟨some 47,.build [(.slice none 0 0 false),(.int .i64 0)] [],none,0,[47]⟩,
 ⟨some 48,.box 105 (.t 47),none,1,[48,47]⟩,
 om 8 48 3]
def r65_8 : List O := [om 49 0 0,
 ⟨some 50,.nilck (.t 49),none,1,[50,49]⟩,
 oa 51 0 50 3,
 ol 52 51 7,
 om 53 1 0,
 om 54 8 0,
 ⟨none,.mapUpd .str (.t 52) (.t 53) (.t 54),none,63,[52,53,54]⟩]
def r65_9 : List O := [om 55 8 0,
 om 56 8 0,
 ⟨some 57,.nilck (.t 56),none,2,[57,56]⟩,
 oa 58 0 57 6,
 ol 59 58 14,
 om 60 2 0,
 ⟨some 61,.app 5 1 1 (.t 59) (.t 60),none,62,[61,59,60]⟩,
 ⟨some 62,.nilck (.t 55),none,127,[62,55]⟩,
 oa 63 0 62 255,
 ost 1 63 61 511]
def r65_10 : List O := [om 64 0 0,
 ⟨some 65,.call (.k (.func 67 [] [])) [(.t 64)],none,1,[65,64]⟩,
 om 6 65 3]
def c65 : C := .seq (.region [⟨some 6,.mv (.k (.int .i64 0)),none,0,[6]⟩]) (.seq (.seq (.region r65_0) (.seq (.region r65_1) (.cond (.t 14) (.seq (.region r65_2) (.ret)) (.skip)))) (.seq (.region r65_3) (.seq (.seq (.region r65_4) (.cond (.t 31) (.seq (.region [⟨some 6,.mv (.k (.int .i64 3)),none,0,[6]⟩]) (.ret)) (.skip))) (.seq (.seq (.draw r65_5) (.cond (.t 44) (.seq (.region [⟨some 6,.mv (.k (.int .i64 6)),none,0,[6]⟩]) (.ret)) (.skip))) (.seq (.seq (.region r65_6) (.cond (.t 46) (.seq (.region r65_7) (.region r65_8)) (.skip))) (.seq (.region r65_9) (.seq (.region r65_10) (.ret))))))))
def fn65 : Fn := ⟨66,[.t 6],c65⟩
def r67_0 : List O := [om 4 0 0,
 ⟨some 5,.nilck (.t 4),none,1,[5,4]⟩,
 oa 6 1 5 3,
 oa 7 1 6 7,
 ol 8 7 15,
 om 3 8 31]
def r67_1 : List O := [om 9 0 0,
 ⟨some 10,.nilck (.t 9),none,1,[10,9]⟩,
 oa 11 1 10 3,
 ⟨some 12,.call (.k (.func 106 [] [])) [(.t 11)],none,7,[12,11]⟩]
def r67_2 : List O := [om 13 0 0,
 om 14 3 0,
 ⟨some 15,.call (.k (.func 56 [] [])) [(.t 13),(.t 14)],none,3,[15,13,14]⟩]
def c67 : C := .seq (.region [⟨some 2,.mv (.k (.int .i64 0)),none,0,[2]⟩]) (.seq (.region r67_0) (.seq (.seq (.region r67_1) (.cond (.t 12) (.seq (.region r67_2) (.seq (.region [⟨some 2,.mv (.k (.int .i64 7)),none,0,[2]⟩]) (.ret))) (.skip))) (.seq (.region [⟨some 2,.mv (.k (.int .i64 0)),none,0,[2]⟩]) (.ret))))
def fn67 : Fn := ⟨16,[.t 2],c67⟩
def r68_0 : List O := [om 6 0 0,
 oL 7 6 1,
 ⟨some 8,.mv (.k (.int .i64 0)),none,0,[8]⟩]
def r68_1 : List O := [om 10 8 0,
 om 5 10 1]
def r68_2 : List O := [om 11 1 0,
 om 12 0 0,
 om 13 5 0,
 oi 14 1 12 13 6,
 ol 15 14 14,
 ⟨some 16,.call (.t 11) [(.t 15)],none,31,[16,11,15]⟩]
def r68_3 : List O := [om 17 5 0,
 om 4 17 1]
def r68_4 : List O := [op1 18 8 0,
 om 8 18 1]
abbrev e68_5 : C := .seq (.region [olt 9 8 7 0]) (.seq (.cond (.t 9) (.skip) (.exit 0)) (.seq (.block 1 (.seq (.region r68_1) (.seq (.region r68_2) (.cond (.t 16) (.seq (.region r68_3) (.ret)) (.skip))))) (.region r68_4)))
def b68_5 : C := e68_5
theorem u68_5 : XL P E ro L b68_5 K ρ h Q = X P E ro L (.c e68_5 :: .l b68_5 :: K) ρ h Q := XL_unroll b68_5
def c68 : C := .seq (.region [⟨some 4,.mv (.k (.int .i64 0)),none,0,[4]⟩]) (.seq (.seq (.region r68_0) (.block 0 (.loop b68_5))) (.seq (.region [⟨some 4,.mv (.k (.int .i64 (-1))),none,0,[4]⟩]) (.ret)))
def fn68 : Fn := ⟨19,[.t 4],c68⟩
def r69_0 : List O := [⟨some 2,.mv (.k (.slice none 0 0 false)),none,0,[2]⟩,
 ⟨some 3,.mv (.k (.int .i64 0)),none,1,[3]⟩]
def r69_1 : List O := [om 4 0 0,
 oL 5 4 1,
 ⟨some 6,.bin .gtr (some .int) true (.t 5) (.k (.int .i64 1048576)),none,3,[6,5]⟩]
def r69_2 : List O := [⟨some 2,.mv (.k (.slice none 0 0 false)),none,0,[2]⟩,
 ⟨some 3,.mv (.k (.int .i64 3)),none,1,[3]⟩]
def r69_3 : List O := [om 7 0 0,
 oL 8 7 1,
 ⟨some 9,.call (.k (.func 108 [] [])) [(.t 8)],none,3,[9,8]⟩,
 om 10 0 0,
 om 11 0 0,
 ⟨some 12,.bslice 45 1 [(.slice none 0 0 false)] [(0,1,(.t 11))],none,16,[12,11]⟩,
 ⟨some 13,.call (.k (.func 104 [] [])) [(.t 12)],none,55,[13,12]⟩,
 ⟨some 14,.call (.k (.func 103 [] [])) [(.t 13)],none,119,[14,13]⟩,
 ⟨some 15,.bslice 45 3 [(.slice none 0 0 false),(.slice none 0 0 false),(.slice none 0 0 false)] [(0,1,(.t 9)),(1,1,(.t 10)),(2,1,(.t 14))],none,255,[15,9,10,14]⟩,
 ⟨some 16,.call (.k (.func 107 [] [])) [(.t 15)],none,511,[16,15]⟩,
 om 2 16 1023,
 ⟨some 3,.mv (.k (.int .i64 0)),none,2047,[3]⟩]
def c69 : C := .seq (.region r69_0) (.seq (.seq (.region r69_1) (.cond (.t 6) (.seq (.region r69_2) (.ret)) (.skip))) (.seq (.region r69_3) (.ret)))
def fn69 : Fn := ⟨17,[.t 2,.t 3],c69⟩
def r100_0 : List O := [om 7 0 0,
 ⟨some 8,.call (.k (.func 55 [] [])) [(.t 7)],none,1,[8,7]⟩]
def r100_1 : List O := [om 9 0 0,
 ⟨some 10,.nilck (.t 9),none,1,[10,9]⟩,
 oa 11 4 10 3,
 ol 12 11 7]
def r100_2 : List O := [om 13 1 0,
 oL 14 13 1,
 ⟨some 15,.mv (.k (.int .i64 0)),none,0,[15]⟩]
def r100_3 : List O := [oi 17 1 13 15 0,
 ol 18 17 1,
 om 6 18 3]
def r100_4 : List O := [om 19 6 0,
 ⟨some 20,.lenS (.t 19),none,1,[20,19]⟩,
 ⟨some 21,.bin .eql (some .int) true (.t 20) (.k (.int .i64 0)),none,3,[21,20]⟩,
 om 22 21 7,
 ⟨some 23,.mv (.t 6),some (22,false),15,[23,22,6]⟩,
 ⟨some 24,.lenS (.t 23),some (22,false),31,[24,22,23]⟩,
 ⟨some 25,.bin .gtr (some .int) true (.t 24) (.k (.int .i64 64)),some (22,false),63,[25,22,24]⟩,
 ⟨some 26,.pick (.t 22) (.k (.bool true)) (.t 25),none,127,[26,22,25]⟩]
def r100_5 : List O := [op1 27 15 0,
 om 15 27 1]
abbrev e100_6 : C := .seq (.region [olt 16 15 14 0]) (.seq (.cond (.t 16) (.skip) (.exit 0)) (.seq (.block 1 (.seq (.region r100_3) (.seq (.region r100_4) (.cond (.t 26) (.seq (.region [⟨some 4,.mv (.k (.int .i64 20)),none,0,[4]⟩]) (.ret)) (.skip))))) (.region r100_5)))
def b100_6 : C := e100_6
theorem u100_6 : XL P E ro L b100_6 K ρ h Q = X P E ro L (.c e100_6 :: .l b100_6 :: K) ρ h Q := XL_unroll b100_6
def c100 : C := .seq (.region [⟨some 4,.mv (.k (.int .i64 0)),none,0,[4]⟩]) (.seq (.seq (.region r100_0) (.cond (.t 8) (.seq (.region [⟨some 4,.mv (.k (.int .i64 2)),none,0,[4]⟩]) (.ret)) (.skip))) (.seq (.seq (.region r100_1) (.cond (.t 12) (.seq (.region [⟨some 4,.mv (.k (.int .i64 7)),none,0,[4]⟩]) (.ret)) (.skip))) (.seq (.seq (.region r100_2) (.block 0 (.loop b100_6))) (.seq (.region [⟨some 4,.mv (.k (.int .i64 0)),none,0,[4]⟩]) (.ret)))))
def fn100 : Fn := ⟨28,[.t 4],c100⟩
def r103_0 : List O := [om 3 0 0,
 ⟨some 4,.cvt .u8 (.t 3),none,1,[4,3]⟩,
 om 5 0 0,
 ⟨some 6,.bin .shr (some .int) true (.t 5) (.k (.int .u64 8)),none,4,[6,5]⟩,
 ⟨some 7,.cvt .u8 (.t 6),none,12,[7,6]⟩,
 om 8 0 0,
 ⟨some 9,.bin .shr (some .int) true (.t 8) (.k (.int .u64 16)),none,32,[9,8]⟩,
 ⟨some 10,.cvt .u8 (.t 9),none,96,[10,9]⟩,
 om 11 0 0,
 ⟨some 12,.bin .shr (some .int) true (.t 11) (.k (.int .u64 24)),none,256,[12,11]⟩,
 ⟨some 13,.cvt .u8 (.t 12),none,768,[13,12]⟩,
 ⟨some 14,.bslice 5 4 [(.int .u8 0),(.int .u8 0),(.int .u8 0),(.int .u8 0)] [(0,1,(.t 4)),(1,1,(.t 7)),(2,1,(.t 10)),(3,1,(.t 13))],none,2047,[14,4,7,10,13]⟩,
 om 2 14 4095]
def c103 : C := .seq (.region [⟨some 2,.mv (.k (.slice none 0 0 false)),none,0,[2]⟩]) (.seq (.region r103_0) (.ret))
def fn103 : Fn := ⟨15,[.t 2],c103⟩
def r104_0 : List O := [om 9 0 0,
 oL 10 9 1,
 ⟨some 11,.mv (.k (.int .i64 0)),none,0,[11]⟩]
def r104_1 : List O := [oi 13 1 9 11 0,
 ol 14 13 1,
 om 5 14 3]
def r104_2 : List O := [om 15 5 0,
 oL 16 15 1,
 ⟨some 17,.mv (.k (.int .i64 0)),none,0,[17]⟩]
def r104_3 : List O := [oi 19 1 15 17 0,
 ol 20 19 1,
 om 7 20 3]
def r104_4 : List O := [om 21 3 0,
 om 22 7 0,
 ⟨some 23,.cvt .u32 (.t 22),none,2,[23,22]⟩,
 ⟨some 24,.bin .xor (some .int) false (.t 21) (.t 23),none,7,[24,21,23]⟩,
 om 3 24 15]
def r104_5 : List O := [om 27 3 0,
 ⟨some 28,.bin .and (some .int) true (.t 27) (.k (.int .u32 1)),none,1,[28,27]⟩,
 om 8 28 3]
def r104_6 : List O := [om 29 3 0,
 ⟨some 30,.bin .shr (some .int) true (.t 29) (.k (.int .u64 1)),none,1,[30,29]⟩,
 om 3 30 3]
def r104_7 : List O := [om 31 8 0,
 ⟨some 32,.bin .eql (some .int) true (.t 31) (.k (.int .u32 1)),none,1,[32,31]⟩]
def r104_8 : List O := [om 33 3 0,
 ⟨some 34,.bin .xor (some .int) true (.t 33) (.k (.int .u32 3988292384)),none,1,[34,33]⟩,
 om 3 34 3]
def r104_9 : List O := [op1 35 25 0,
 om 25 35 1]
abbrev e104_10 : C := .seq (.region [⟨some 26,.bin .lss (some .int) true (.t 25) (.k (.int .i64 8)),none,0,[26,25]⟩]) (.seq (.cond (.t 26) (.skip) (.exit 4)) (.seq (.block 5 (.seq (.region r104_5) (.seq (.region r104_6) (.seq (.region r104_7) (.cond (.t 32) (.region r104_8) (.skip)))))) (.region r104_9)))
def b104_10 : C := e104_10
theorem u104_10 : XL P E ro L b104_10 K ρ h Q = X P E ro L (.c e104_10 :: .l b104_10 :: K) ρ h Q := XL_unroll b104_10
def r104_11 : List O := [op1 36 17 0,
 om 17 36 1]
abbrev e104_12 : C := .seq (.region [olt 18 17 16 0]) (.seq (.cond (.t 18) (.skip) (.exit 2)) (.seq (.block 3 (.seq (.region r104_3) (.seq (.region r104_4) (.seq (.region [⟨some 25,.mv (.k (.int .i64 0)),none,0,[25]⟩]) (.block 4 (.loop b104_10)))))) (.region r104_11)))
def b104_12 : C := e104_12
theorem u104_12 : XL P E ro L b104_12 K ρ h Q = X P E ro L (.c e104_12 :: .l b104_12 :: K) ρ h Q := XL_unroll b104_12
def r104_13 : List O := [op1 37 11 0,
 om 11 37 1]
abbrev e104_14 : C := .seq (.region [olt 12 11 10 0]) (.seq (.cond (.t 12) (.skip) (.exit 0)) (.seq (.block 1 (.seq (.region r104_1) (.seq (.region r104_2) (.block 2 (.loop b104_12))))) (.region r104_13)))
def b104_14 : C := e104_14
theorem u104_14 : XL P E ro L b104_14 K ρ h Q = X P E ro L (.c e104_14 :: .l b104_14 :: K) ρ h Q := XL_unroll b104_14
def r104_15 : List O := [om 38 3 0,
 ⟨some 39,.un .xor (.t 38),none,1,[39,38]⟩,
 om 2 39 3]
def c104 : C := .seq (.region [⟨some 2,.mv (.k (.int .u32 0)),none,0,[2]⟩]) (.seq (.region [⟨some 3,.mv (.k (.int .u32 4294967295)),none,0,[3]⟩]) (.seq (.seq (.region r104_0) (.block 0 (.loop b104_14))) (.seq (.region r104_15) (.ret))))
def fn104 : Fn := ⟨40,[.t 2],c104⟩
def r105_0 : List O := [om 6 0 0,
 ⟨some 7,.rng false (.t 6),none,1,[7,6]⟩]
def r105_1 : List O := [⟨some 8,.next false (.t 7),none,0,[8,7]⟩,
 ox 9 8 0 1]
def r105_2 : List O := [⟨some 10,.entry (.t 7),none,0,[10,7]⟩,
 ox 11 10 1 1,
 om 5 11 3]
def r105_3 : List O := [om 12 3 0,
 om 13 5 0,
 ⟨some 14,.nilck (.t 13),none,2,[14,13]⟩,
 oa 15 0 14 6,
 ol 16 15 14,
 oL 17 16 30,
 ⟨some 18,.bin .add (some .int) false (.t 12) (.t 17),none,63,[18,12,17]⟩,
 om 3 18 127]
def b105_4 : C := .seq (.region r105_1) (.seq (.cond (.t 9) (.skip) (.exit 0)) (.block 1 (.seq (.region r105_2) (.region r105_3))))
def r105_5 : List O := [om 19 3 0,
 om 2 19 1]
def c105 : C := .seq (.region [⟨some 2,.mv (.k (.int .i64 0)),none,0,[2]⟩]) (.seq (.region [⟨some 3,.mv (.k (.int .i64 0)),none,0,[3]⟩]) (.seq (.seq (.region r105_0) (.block 0 (.loop b105_4))) (.seq (.region r105_5) (.ret))))
def fn105 : Fn := ⟨20,[.t 2],c105⟩
def r106_0 : List O := [om 3 0 0,
 ⟨some 4,.nilck (.t 3),none,1,[4,3]⟩,
 oa 5 0 4 3,
 ol 6 5 7,
 ⟨some 7,.bin .eql (some .int) true (.t 6) (.k (.int .i64 0)),none,15,[7,6]⟩]
def r106_1 : List O := [om 8 0 0,
 ⟨some 9,.nilck (.t 8),none,1,[9,8]⟩,
 oa 10 0 9 3,
 ol 11 10 7,
 ⟨some 12,.bin .sub (some .int) true (.t 11) (.k (.int .i64 1)),none,15,[12,11]⟩,
 ⟨some 13,.nilck (.t 8),none,31,[13,8]⟩,
 oa 14 0 13 63,
 ost 1 14 12 127]
def r106_2 : List O := [om 15 0 0,
 ⟨some 16,.nilck (.t 15),none,1,[16,15]⟩,
 oa 17 0 16 3,
 ol 18 17 7,
 ⟨some 19,.bin .eql (some .int) true (.t 18) (.k (.int .i64 0)),none,15,[19,18]⟩,
 om 2 19 31]
def c106 : C := .seq (.region [⟨some 2,.mv (.k (.bool false)),none,0,[2]⟩]) (.seq (.seq (.region r106_0) (.cond (.t 7) (.seq (.region [⟨some 2,.mv (.k (.bool false)),none,0,[2]⟩]) (.ret)) (.skip))) (.seq (.region r106_1) (.seq (.region r106_2) (.ret))))
def fn106 : Fn := ⟨20,[.t 2],c106⟩
def r107_0 : List O := [om 9 0 0,
 oL 10 9 1,
 ⟨some 11,.mv (.k (.int .i64 0)),none,0,[11]⟩]
def r107_1 : List O := [oi 13 1 9 11 0,
 ol 14 13 1,
 om 5 14 3]
def r107_2 : List O := [om 15 3 0,
 om 16 5 0,
 oL 17 16 2,
 ⟨some 18,.bin .add (some .int) false (.t 15) (.t 17),none,7,[18,15,17]⟩,
 om 3 18 15]
def r107_3 : List O := [om 19 3 0,
 ⟨some 20,.bin .lss (some .int) true (.t 19) (.k (.int .i64 0)),none,1,[20,19]⟩]
def r107_4 : List O := [⟨some 21,.mkI 9 (.k (.str [108,101,110,32,111,117,116,32,111,102,32,114,97,110,103,101])),none,0,[21]⟩,
 ⟨none,.bad,none,1,[]⟩]
def r107_5 : List O := [op1 22 11 0,
 om 11 22 1]
abbrev e107_6 : C := .seq (.region [olt 12 11 10 0]) (.seq (.cond (.t 12) (.skip) (.exit 0)) (.seq (.block 1 (.seq (.region r107_1) (.seq (.region r107_2) (.seq (.region r107_3) (.cond (.t 20) (.region r107_4) (.skip)))))) (.region r107_5)))
def b107_6 : C := e107_6
theorem u107_6 : XL P E ro L b107_6 K ρ h Q = X P E ro L (.c e107_6 :: .l b107_6 :: K) ρ h Q := XL_unroll b107_6
def r107_7 : List O := [om 23 3 0,
 ⟨some 24,.call (.k (.func 141 [] [])) [(.k (.slice none 0 0 false)),(.t 23)],none,1,[24,23]⟩,
 om 6 24 3]
def r107_8 : List O := [om 25 0 0,
 oL 26 25 1,
 ⟨some 27,.mv (.k (.int .i64 0)),none,0,[27]⟩]
def r107_9 : List O := [oi 29 1 25 27 0,
 ol 30 29 1,
 om 8 30 3]
def r107_10 : List O := [om 31 6 0,
 om 32 8 0,
 ⟨some 33,.app 5 1 1 (.t 31) (.t 32),none,3,[33,31,32]⟩,
 om 6 33 7]
def r107_11 : List O := [op1 34 27 0,
 om 27 34 1]
abbrev e107_12 : C := .seq (.region [olt 28 27 26 0]) (.seq (.cond (.t 28) (.skip) (.exit 2)) (.seq (.block 3 (.seq (.region r107_9) (.region r107_10))) (.region r107_11)))
def b107_12 : C := e107_12
theorem u107_12 : XL P E ro L b107_12 K ρ h Q = X P E ro L (.c e107_12 :: .l b107_12 :: K) ρ h Q := XL_unroll b107_12
def r107_13 : List O := [om 35 6 0,
 om 2 35 1]
def c107 : C := .seq (.region [⟨some 2,.mv (.k (.slice none 0 0 false)),none,0,[2]⟩]) (.seq (.region [⟨some 3,.mv (.k (.int .i64 0)),none,0,[3]⟩]) (.seq (.seq (.region r107_0) (.block 0 (.loop b107_6))) (.seq (.region r107_7) (.seq (.seq (.region r107_8) (.block 2 (.loop b107_12))) (.seq (.region r107_13) (.ret))))))
def fn107 : Fn := ⟨36,[.t 2],c107⟩
def r108_0 : List O := [om 5 0 0,
 ⟨some 6,.cvt .u64 (.t 5),none,1,[6,5]⟩,
 ⟨some 7,.bin .shl (some .int) true (.t 6) (.k (.int .u64 1)),none,3,[7,6]⟩,
 om 3 7 7]
def r108_1 : List O := [om 8 0 0,
 ⟨some 9,.bin .lss (some .int) true (.t 8) (.k (.int .i64 0)),none,1,[9,8]⟩]
def r108_2 : List O := [om 10 3 0,
 ⟨some 11,.un .xor (.t 10),none,1,[11,10]⟩,
 om 3 11 3]
def r108_3 : List O := [om 12 3 0,
 ⟨some 13,.bin .geq (some .int) true (.t 12) (.k (.int .u64 128)),none,1,[13,12]⟩]
def r108_4 : List O := [om 16 4 0,
 om 17 3 0,
 ⟨some 18,.cvt .u8 (.t 17),none,2,[18,17]⟩,
 ⟨some 19,.bin .or (some .int) true (.t 18) (.k (.int .u8 128)),none,6,[19,18]⟩,
 ⟨some 20,.bslice 5 1 [(.int .u8 0)] [(0,1,(.t 19))],none,14,[20,19]⟩,
 ⟨some 21,.app 5 1 1 (.t 16) (.t 20),none,31,[21,16,20]⟩,
 om 4 21 63]
def r108_5 : List O := [om 14 3 0,
 ⟨some 15,.bin .shr (some .int) true (.t 14) (.k (.int .u64 7)),none,1,[15,14]⟩,
 om 3 15 3]
abbrev e108_6 : C := .seq (.seq (.region r108_3) (.cond (.t 13) (.skip) (.exit 0))) (.seq (.block 1 (.region r108_4)) (.region r108_5))
def b108_6 : C := e108_6
theorem u108_6 : XL P E ro L b108_6 K ρ h Q = X P E ro L (.c e108_6 :: .l b108_6 :: K) ρ h Q := XL_unroll b108_6
def r108_7 : List O := [om 22 4 0,
 om 23 3 0,
 ⟨some 24,.cvt .u8 (.t 23),none,2,[24,23]⟩,
 ⟨some 25,.bslice 5 1 [(.int .u8 0)] [(0,1,(.t 24))],none,6,[25,24]⟩,
 ⟨some 26,.app 5 1 1 (.t 22) (.t 25),none,15,[26,22,25]⟩,
 om 2 26 31]
def c108 : C := .seq (.region [⟨some 2,.mv (.k (.slice none 0 0 false)),none,0,[2]⟩]) (.seq (.region r108_0) (.seq (.seq (.region r108_1) (.cond (.t 9) (.region r108_2) (.skip))) (.seq (.region [⟨some 4,.mv (.k (.slice none 0 0 false)),none,0,[4]⟩]) (.seq (.block 0 (.loop b108_6)) (.seq (.region r108_7) (.ret))))))
def fn108 : Fn := ⟨27,[.t 2],c108⟩
def r141_0 : List O := [om 5 1 0,
 ⟨some 6,.bin .lss (some .int) true (.t 5) (.k (.int .i64 0)),none,1,[6,5]⟩]
def r141_1 : List O := [⟨some 7,.mkI 9 (.k (.str [99,97,110,110,111,116,32,98,101,32,110,101,103,97,116,105,118,101])),none,0,[7]⟩,
 ⟨none,.bad,none,1,[]⟩]
def r141_2 : List O := [om 8 1 0,
 om 9 0 0,
 ⟨some 10,.capL (.t 9),none,2,[10,9]⟩,
 om 11 0 0,
 oL 12 11 8,
 ⟨some 13,.bin .sub (some .int) false (.t 10) (.t 12),none,30,[13,10,12]⟩,
 ⟨some 14,.bin .sub (some .int) false (.t 8) (.t 13),none,63,[14,8,13]⟩,
 om 1 14 127]
def r141_3 : List O := [om 15 1 0,
 ⟨some 16,.bin .gtr (some .int) true (.t 15) (.k (.int .i64 0)),none,1,[16,15]⟩]
def r141_4 : List O := [om 17 0 0,
 om 18 0 0,
 ⟨some 19,.capL (.t 18),none,2,[19,18]⟩,
 ⟨some 20,.slL 1 (.t 17) none (some (.t 19)) none,none,7,[20,17,19]⟩,
 om 21 1 0,
 ⟨some 22,.appZ 5 1 1 [(.int .u8 0)] (.t 20) (.t 21),none,31,[22,20,21]⟩,
 om 23 0 0,
 oL 24 23 64,
 ⟨some 25,.slL 1 (.t 22) none (some (.t 24)) none,none,255,[25,22,24]⟩,
 om 0 25 511]
def r141_5 : List O := [om 26 0 0,
 om 4 26 1]
def c141 : C := .seq (.region [⟨some 4,.mv (.k (.slice none 0 0 false)),none,0,[4]⟩]) (.seq (.seq (.region r141_0) (.cond (.t 6) (.region r141_1) (.skip))) (.seq (.seq (.region r141_2) (.seq (.region r141_3) (.cond (.t 16) (.region r141_4) (.skip)))) (.seq (.region r141_5) (.ret))))
def fn141 : Fn := ⟨27,[.t 4],c141⟩
end Go.AM.Wc
namespace Go.AM
abbrev StmtOf {p : Prop} (_ : p) : Prop := p
theorem GO : StmtOf ((And.intro @XDP_nil (And.intro @XDP_cons (And.intro @XSP_pur (And.intro @XSP_rd (And.intro @XAP_eff (And.intro @XAP_call (And.intro @XDJ_nil (And.intro @XDJ_cons (And.intro @XSJ_pur (And.intro @XSJ_rd (And.intro @XAJ_eff (And.intro @XAJ_call (And.intro @ptrLt_mk (And.intro @rdLo_load1 (And.intro @rdLo_loadN (And.intro @XDK_nil (And.intro @XDK_cons (And.intro @XSK_pur (And.intro @XSK_rd (And.intro @XAK_eff (And.intro @XAK_call (And.intro @XDQ_nil (And.intro @XDQ_cons (And.intro @XSQ_pur (And.intro @XSQ_rd (And.intro @XAQ_eff (And.intro @XAQ_call (And.intro @XDO_nil (And.intro @XDO_cons (And.intro @XRD_pur (And.intro @XRD_rd (And.intro @XRD_eff (And.intro @XRD_call (And.intro @still_mv (And.intro @still_pick (And.intro @still_alloc (And.intro @still_box (And.intro @still_build (And.intro @still_bslice (And.intro @still_load1 (And.intro @still_loadN (And.intro @still_store (And.intro @still_nilck (And.intro @still_bin (And.intro @still_un (And.intro @still_cvt (And.intro @still_s2b (And.intro @still_b2s (And.intro @still_mkI (And.intro @still_mkF (And.intro @still_mkMap (And.intro @still_mkSlice (And.intro @still_slS (And.intro @still_slL (And.intro @still_fadr (And.intro @still_iadrL (And.intro @still_iadrA (And.intro @still_fld (And.intro @still_idxA (And.intro @still_idxS (And.intro @still_lookup (And.intro @still_mapUpd (And.intro @still_mapDel (And.intro @still_rng (And.intro @still_next (And.intro @still_entry (And.intro @still_extract (And.intro @still_lenS (And.intro @still_lenL (And.intro @still_lenM (And.intro @still_app (And.intro @still_copy (And.intro @still_minmax (And.intro @still_call (And.intro @still_bad (And.intro @still_slA (And.intro @still_capL (And.intro @still_appZ (And.intro @still_i2s (And.intro @still_sid (And.intro @still_same (And.intro @still_p2u (And.intro @still_u2p (And.intro @still_usd (And.intro @still_ustr (And.intro @still_mkNZ (And.intro @still_tass (And.intro @still_inv (And.intro @X_nil (And.intro @X_skip (And.intro @X_region (And.intro @X_seq (And.intro @X_block (And.intro @X_loop (And.intro @X_l (And.intro @X_b (And.intro @X_exit (And.intro @X_ret (And.intro @XQ_nil (And.intro @XQ_c (And.intro @XQ_l (And.intro @XQ_b (And.intro @X_cond (And.intro @XT_bool (And.intro @XO_nil (And.intro @XO_cons (And.intro @XR_pur (And.intro @XR_rd (And.intro @XR_eff (And.intro @XR_call (And.intro @upo_some (And.intro @upo_none (And.intro @wantV_none (And.intro @wantV_some (And.intro @isB_bool (And.intro @ev_t (And.intro @ev_k (And.intro @evs_cons (And.intro @evs_nil (And.intro @evo_none (And.intro @evo_some (And.intro @up_app (And.intro @argF_zero (And.intro @argF_succ (And.intro @push_eq (And.intro @Fin_nrm (And.intro @Fin_ret (And.intro @resVs_nil (And.intro @resVs_t (And.intro @oneOr_one @oneOr_two))))))))))))))))))))))))))))))))))))))))))))))))))))))))))))))))))))))))))))))))))))))))))))))))))))))))))))))))))))))))))))))))))) := (And.intro @XDP_nil (And.intro @XDP_cons (And.intro @XSP_pur (And.intro @XSP_rd (And.intro @XAP_eff (And.intro @XAP_call (And.intro @XDJ_nil (And.intro @XDJ_cons (And.intro @XSJ_pur (And.intro @XSJ_rd (And.intro @XAJ_eff (And.intro @XAJ_call (And.intro @ptrLt_mk (And.intro @rdLo_load1 (And.intro @rdLo_loadN (And.intro @XDK_nil (And.intro @XDK_cons (And.intro @XSK_pur (And.intro @XSK_rd (And.intro @XAK_eff (And.intro @XAK_call (And.intro @XDQ_nil (And.intro @XDQ_cons (And.intro @XSQ_pur (And.intro @XSQ_rd (And.intro @XAQ_eff (And.intro @XAQ_call (And.intro @XDO_nil (And.intro @XDO_cons (And.intro @XRD_pur (And.intro @XRD_rd (And.intro @XRD_eff (And.intro @XRD_call (And.intro @still_mv (And.intro @still_pick (And.intro @still_alloc (And.intro @still_box (And.intro @still_build (And.intro @still_bslice (And.intro @still_load1 (And.intro @still_loadN (And.intro @still_store (And.intro @still_nilck (And.intro @still_bin (And.intro @still_un (And.intro @still_cvt (And.intro @still_s2b (And.intro @still_b2s (And.intro @still_mkI (And.intro @still_mkF (And.intro @still_mkMap (And.intro @still_mkSlice (And.intro @still_slS (And.intro @still_slL (And.intro @still_fadr (And.intro @still_iadrL (And.intro @still_iadrA (And.intro @still_fld (And.intro @still_idxA (And.intro @still_idxS (And.intro @still_lookup (And.intro @still_mapUpd (And.intro @still_mapDel (And.intro @still_rng (And.intro @still_next (And.intro @still_entry (And.intro @still_extract (And.intro @still_lenS (And.intro @still_lenL (And.intro @still_lenM (And.intro @still_app (And.intro @still_copy (And.intro @still_minmax (And.intro @still_call (And.intro @still_bad (And.intro @still_slA (And.intro @still_capL (And.intro @still_appZ (And.intro @still_i2s (And.intro @still_sid (And.intro @still_same (And.intro @still_p2u (And.intro @still_u2p (And.intro @still_usd (And.intro @still_ustr (And.intro @still_mkNZ (And.intro @still_tass (And.intro @still_inv (And.intro @X_nil (And.intro @X_skip (And.intro @X_region (And.intro @X_seq (And.intro @X_block (And.intro @X_loop (And.intro @X_l (And.intro @X_b (And.intro @X_exit (And.intro @X_ret (And.intro @XQ_nil (And.intro @XQ_c (And.intro @XQ_l (And.intro @XQ_b (And.intro @X_cond (And.intro @XT_bool (And.intro @XO_nil (And.intro @XO_cons (And.intro @XR_pur (And.intro @XR_rd (And.intro @XR_eff (And.intro @XR_call (And.intro @upo_some (And.intro @upo_none (And.intro @wantV_none (And.intro @wantV_some (And.intro @isB_bool (And.intro @ev_t (And.intro @ev_k (And.intro @evs_cons (And.intro @evs_nil (And.intro @evo_none (And.intro @evo_some (And.intro @up_app (And.intro @argF_zero (And.intro @argF_succ (And.intro @push_eq (And.intro @Fin_nrm (And.intro @Fin_ret (And.intro @resVs_nil (And.intro @resVs_t (And.intro @oneOr_one @oneOr_two))))))))))))))))))))))))))))))))))))))))))))))))))))))))))))))))))))))))))))))))))))))))))))))))))))))))))))))))))))))))))))))))))
theorem GO2 : StmtOf ((And.intro @Option.map_some.{0,0} (And.intro @if_true.{1} (And.intro @if_false.{1} (And.intro @ite_true.{1} (And.intro @ite_false.{1} (And.intro @Bool.false_eq_true (And.intro @beq_self_eq_true.{0} (And.intro @beq_true (And.intro @beq_false (And.intro @Bool.not_true (And.intro @Bool.not_false (And.intro @Bool.not_eq_true (And.intro @Bool.not_eq_false (And.intro @List.length_cons.{0} (And.intro @List.length_nil.{0} (And.intro @List.take_zero.{0} (And.intro @List.nil_append.{0} (And.intro @List.append_nil.{0} (And.intro @List.drop_succ_cons.{0} (And.intro @List.drop_zero.{0} (And.intro @List.drop_nil.{0} (And.intro @List.cons_append.{0} (And.intro @List.take_succ_cons.{0} (And.intro @List.take_nil.{0} (And.intro @and_self (And.intro @and_true (And.intro @true_and (And.intro @Nat.le_refl (And.intro @decide_true (And.intro @decide_false (And.intro @decide_eq_true_eq (And.intro @List.getElem?_cons_zero.{0} (And.intro @List.getElem?_cons_succ.{0} (And.intro @List.replicate_succ.{0} (And.intro @List.replicate_zero.{0} (And.intro @List.flatten_cons.{0} (And.intro @List.flatten_nil.{0} (And.intro @Nat.zero_add @Nat.add_zero))))))))))))))))))))))))))))))))))))))) := (And.intro @Option.map_some.{0,0} (And.intro @if_true.{1} (And.intro @if_false.{1} (And.intro @ite_true.{1} (And.intro @ite_false.{1} (And.intro @Bool.false_eq_true (And.intro @beq_self_eq_true.{0} (And.intro @beq_true (And.intro @beq_false (And.intro @Bool.not_true (And.intro @Bool.not_false (And.intro @Bool.not_eq_true (And.intro @Bool.not_eq_false (And.intro @List.length_cons.{0} (And.intro @List.length_nil.{0} (And.intro @List.take_zero.{0} (And.intro @List.nil_append.{0} (And.intro @List.append_nil.{0} (And.intro @List.drop_succ_cons.{0} (And.intro @List.drop_zero.{0} (And.intro @List.drop_nil.{0} (And.intro @List.cons_append.{0} (And.intro @List.take_succ_cons.{0} (And.intro @List.take_nil.{0} (And.intro @and_self (And.intro @and_true (And.intro @true_and (And.intro @Nat.le_refl (And.intro @decide_true (And.intro @decide_false (And.intro @decide_eq_true_eq (And.intro @List.getElem?_cons_zero.{0} (And.intro @List.getElem?_cons_succ.{0} (And.intro @List.replicate_succ.{0} (And.intro @List.replicate_zero.{0} (And.intro @List.flatten_cons.{0} (And.intro @List.flatten_nil.{0} (And.intro @Nat.zero_add @Nat.add_zero))))))))))))))))))))))))))))))))))))))
theorem GO3 : StmtOf ((And.intro @fillV.eq_1 (And.intro @fillV.eq_2 (And.intro @setR.eq_1 (And.intro @getR.eq_1 (And.intro @lenV.eq_1 (And.intro @lenV.eq_2 (And.intro @lenV.eq_3 (And.intro @partV.eq_1 (And.intro @V.nj.eq_1 (And.intro @V.nj.eq_2 (And.intro @V.nj.eq_3 (And.intro @V.nj.eq_4 (And.intro @V.nj.eq_5 (And.intro @V.nj.eq_6 (And.intro @V.njL.eq_1 (And.intro @V.njL.eq_2 (And.intro @V.cells.eq_1 @V.cells.eq_2)))))))))))))))))) := (And.intro @fillV.eq_1 (And.intro @fillV.eq_2 (And.intro @setR.eq_1 (And.intro @getR.eq_1 (And.intro @lenV.eq_1 (And.intro @lenV.eq_2 (And.intro @lenV.eq_3 (And.intro @partV.eq_1 (And.intro @V.nj.eq_1 (And.intro @V.nj.eq_2 (And.intro @V.nj.eq_3 (And.intro @V.nj.eq_4 (And.intro @V.nj.eq_5 (And.intro @V.nj.eq_6 (And.intro @V.njL.eq_1 (And.intro @V.njL.eq_2 (And.intro @V.cells.eq_1 @V.cells.eq_2)))))))))))))))))
theorem GR : StmtOf (And.intro @GO (And.intro @GO2 @GO3)) := And.intro @GO (And.intro @GO2 @GO3)
abbrev Cell := Nat × Obj
structure Ow (lo : Nat) (h : H) (m : List Cell) : Prop where
 get : ∀ p ∈ m,h.get p.1 = some p.2
 low : ∀ p ∈ m,lo ≤ p.1
 nd : (m.map (·.1)).Nodup
variable {lo : Nat} {h h' : H} {m m' : List Cell}
theorem Ow.nil (lo : Nat) (h : H) : Ow lo h [] := ⟨by simp,by simp,by simp⟩
theorem Ow.perm (a : Ow lo h m) (p : m.Perm m') : Ow lo h m' := ⟨fun x hx => a.get x (p.mem_iff.2 hx),fun x hx => a.low x (p.mem_iff.2 hx),(p.map _).nodup_iff.1 a.nd⟩
theorem Ow.kp (a : Ow lo h m) (k : Kp h h') : Ow lo h' m := ⟨fun x hx => k.of (a.get x hx),a.low,a.nd⟩
theorem Ow.sub (a : Ow lo h m) (s : m'.Sublist m) : Ow lo h m' := ⟨fun x hx => a.get x (s.mem hx),fun x hx => a.low x (s.mem hx),(s.map _).nodup a.nd⟩
theorem Ow.tail {p : Cell} (a : Ow lo h (p :: m)) : Ow lo h m := a.sub (List.sublist_cons_self _ _)
theorem Ow.right {m1 : List Cell} (a : Ow lo h (m1 ++ m)) : Ow lo h m := a.sub (List.sublist_append_right _ _)
theorem Ow.left {m1 : List Cell} (a : Ow lo h (m ++ m1)) : Ow lo h m := a.sub (List.sublist_append_left _ _)
theorem Ow.head {i : Nat} {o : Obj} (a : Ow lo h ((i,o) :: m)) : h.get i = some o := a.get _ List.mem_cons_self
theorem Ow.at {i : Nat} {o : Obj} (a : Ow lo h m) (hm : (i,o) ∈ m) : h.get i = some o := a.get _ hm
theorem Ow.ne {i : Nat} {o : Obj} (a : Ow lo h ((i,o) :: m)) {p : Cell} (hp : p ∈ m) : p.1 ≠ i := by
 have := a.nd
 rw [List.map_cons,List.nodup_cons] at this
 rintro rfl
 exact this.1 (List.mem_map.2 ⟨p,hp,rfl⟩)
theorem Ow.set {i : Nat} {o : Obj} (a : Ow lo h ((i,o) :: m)) (o' : Obj) : Ow lo (h.set i o') ((i,o') :: m) ∧ Keeps lo h (h.set i o') := by
 have hg := a.head
 have hlt := H.get_lt hg
 have hlo := a.low _ List.mem_cons_self
 refine ⟨⟨fun p hp => ?_,fun p hp => ?_,a.nd⟩,Keeps.set hlt hlo _⟩
 ·rcases List.mem_cons.1 hp with rfl | hp
  ·exact hset_same hlt _
  ·rw [hset_other hlt (Ne.symm (a.ne hp))]; exact a.get p (List.mem_cons_of_mem _ hp)
 ·rcases List.mem_cons.1 hp with rfl | hp
  ·exact hlo
  ·exact a.low p (List.mem_cons_of_mem _ hp)
theorem Ow.push (a : Ow lo h m) (hlo : lo ≤ h.size) (o : Obj) : Ow lo (h.psh o) ((h.size,o) :: m) := by
 refine ⟨fun p hp => ?_,fun p hp => ?_,?_⟩
 ·rcases List.mem_cons.1 hp with rfl | hp
  ·exact psh_same _ _
  ·exact psh_old (a.get p hp) _
 ·rcases List.mem_cons.1 hp with rfl | hp
  ·exact hlo
  ·exact a.low p hp
 ·rw [List.map_cons,List.nodup_cons]
  refine ⟨fun hm => ?_,a.nd⟩
  obtain ⟨p,hp,e⟩ := List.mem_map.1 hm
  have := H.get_lt (a.get p hp)
  simp only at e
  omega
def vl (b : Option Nat) (n : Nat) : V := match b with
 | none => .slice none 0 0 false
 | some b => .slice (some (b,0)) n n true
def fpt (b : Option Nat) (ty : Nat) (cs : List V) : List Cell := match b with
 | none => []
 | some b => [(b,.cells cs ty true false none)]
theorem vl_one (b : Option Nat) (n : Nat) : [vl b n].all V.one = true := by cases b <;> rfl
theorem flatten_ln {sz : Nat} : ∀ {xs : List (List V)},(∀ x ∈ xs,x.length = sz) → xs.flatten.length = xs.length * sz
 | [],_ => by simp
 | x :: xs,h => by
  rw [List.flatten_cons,List.length_append,flatten_ln (fun y hy => h y (List.mem_cons_of_mem _ hy)),h x List.mem_cons_self,List.length_cons,Nat.add_mul]; omega
theorem getR_whole' {vs : List V} {n : Nat} (h : vs.length = n) : getR vs 0 n = vs := by unfold getR; simp [← h]
theorem Ow.app {ty sz bytes : Nat} {b : Option Nat} {xs ys : List (List V)} {x : V} (a : Ow lo h (fpt b ty xs.flatten ++ m)) (hb : b = none → xs = []) (hlo : lo ≤ h.size) (hx : ∀ z ∈ xs,z.length = sz)
  (hl : lenV x = some ys.length) (he : elemsV h sz ys.length x = some ys.flatten) (hy1 : ys.flatten.all V.one = true) (hbd : xs.length + ys.length ≤ 1099511627776 ∧ (2 * (xs.length + ys.length) + 1024) * bytes ≤ 281474976710656) :
  ∃ b' h',appV h ty sz bytes (vl b xs.length) x = some (.eff (vl b' (xs ++ ys).length) h') ∧ Ow lo h' (fpt b' ty (xs ++ ys).flatten ++ m) ∧ (b' = none → xs ++ ys = []) ∧ Keeps lo h h' ∧ (∀ i o,h.get i = some o → b ≠ some i → h'.get i = some o) := by
 cases b with
 | none =>
  have hx0 := hb rfl
  subst hx0
  by_cases hn : ys.length = 0
  ·have : ys = [] := List.eq_nil_of_length_eq_zero hn
   subst this
   refine ⟨none,h,?_,a,fun _ => rfl,Keeps.refl _ _,fun _ _ hg _ => hg⟩
   simp only [List.length_nil] at hl he
   unfold appV vl; simp [hl,he]
  ·refine ⟨some h.size,h.psh (.cells ys.flatten ty true false none),?_,?_,by simp,Keeps.psh hlo _,fun _ _ hg _ => psh_old hg _⟩
   ·simp only [List.length_nil,Nat.zero_add] at hbd
    have : ¬ ys.length ≤ 0 := by omega
    unfold appV vl
    simp only [hl,he,Nat.zero_add,this,if_false,hbd,and_self,if_true,push_eq]
    simp [elemsV]
   ·simpa [fpt] using Ow.push (m := m) (by simpa [fpt] using a) hlo (.cells ys.flatten ty true false none)
 | some b =>
  have hg : h.get b = some (.cells xs.flatten ty true false none) := a.at (by simp [fpt])
  have hlt := H.get_lt hg
  by_cases hn : ys.length = 0
  ·have : ys = [] := List.eq_nil_of_length_eq_zero hn
   subst this
   refine ⟨some b,h,?_,by simpa using a,by simp,Keeps.refl _ _,fun _ _ hg _ => hg⟩
   simp only [List.length_nil] at hl he
   unfold appV vl; simp [hl,he,putCells]
  ·have hfl := flatten_ln hx
   have hs := Ow.set (i := b) (o := .cells xs.flatten ty true false none) (m := m) (by simpa [fpt] using a) .dead
   have hp := Ow.push hs.1 (by rw [H.set_size]; exact hlo) (.cells (xs.flatten ++ ys.flatten) ty true false none)
   rw [H.set_size] at hp
   refine ⟨some h.size,(h.set b .dead).psh (.cells (xs.flatten ++ ys.flatten) ty true false none),?_,?_,by simp,hs.2.trans (Keeps.psh (by rw [H.set_size]; exact hlo) _),fun i o hg2 hne => ?_⟩
   ·have h1 : ¬ xs.length + ys.length ≤ xs.length := by omega
    have h4 : 0 + xs.length * sz = xs.flatten.length := by rw [hfl]; omega
    unfold appV vl
    simp only [hl,he,h1,if_false,hbd,and_self,if_true,hg,Nat.le_refl,h4,hy1,fzFree]
    simp only [push_eq,Option.map_none]
    rw [getR_whole' (by rw [hfl])]
    simp
   ·have hp2 := hp.sub (m' := (h.size,.cells (xs.flatten ++ ys.flatten) ty true false none) :: m) (List.Sublist.cons_cons _ (List.sublist_cons_self _ _))
    simpa [fpt] using hp2
   ·have hne2 : b ≠ i := fun e => hne (by rw [e])
    refine psh_old ?_ _
    rw [hset_other hlt hne2]; exact hg2
theorem Ow.lt (a : Ow lo h m) {p : Cell} (hp : p ∈ m) : p.1 < h.size := H.get_lt (a.get p hp)
end Go.AM
namespace Go.AM
variable {lo : Nat} {h h' : H} {m m' m1 m2 : List Cell}
theorem perm_mid (m1 f m2 : List Cell) : (m1 ++ (f ++ m2)).Perm (f ++ (m1 ++ m2)) := by
 rw [← List.append_assoc,← List.append_assoc]
 exact (List.perm_append_comm).append_right m2
theorem Ow.setM {i : Nat} {o : Obj} (a : Ow lo h (m1 ++ (i,o) :: m2)) (o' : Obj) : Ow lo (h.set i o') (m1 ++ (i,o') :: m2) ∧ Keeps lo h (h.set i o') := by
 have p : ∀ x : Cell,(m1 ++ x :: m2).Perm (x :: (m1 ++ m2)) := fun x => List.perm_middle
 obtain ⟨q,k⟩ := (a.perm (p _)).set o'
 exact ⟨q.perm (p _).symm,k⟩
theorem Ow.appM {ty sz bytes : Nat} {b : Option Nat} {xs ys : List (List V)} {x : V} (a : Ow lo h (m1 ++ (fpt b ty xs.flatten ++ m2))) (hb : b = none → xs = []) (hlo : lo ≤ h.size) (hx : ∀ z ∈ xs,z.length = sz)
  (hl : lenV x = some ys.length) (he : elemsV h sz ys.length x = some ys.flatten) (hy1 : ys.flatten.all V.one = true) (hbd : xs.length + ys.length ≤ 1099511627776 ∧ (2 * (xs.length + ys.length) + 1024) * bytes ≤ 281474976710656) :
  ∃ b' h',appV h ty sz bytes (vl b xs.length) x = some (.eff (vl b' (xs ++ ys).length) h') ∧ Ow lo h' (m1 ++ (fpt b' ty (xs ++ ys).flatten ++ m2)) ∧ (b' = none → xs ++ ys = []) ∧ Keeps lo h h' ∧ (∀ i o,h.get i = some o → b ≠ some i → h'.get i = some o) := by
 obtain ⟨b',h',e1,e2,e3,e4,e5⟩ := (a.perm (perm_mid _ _ _)).app hb hlo hx hl he hy1 hbd
 exact ⟨b',h',e1,e2.perm (perm_mid _ _ _).symm,e3,e4,e5⟩
theorem Ow.dropM {c : Cell} (a : Ow lo h (m1 ++ c :: m2)) : Ow lo h (m1 ++ m2) := a.sub (List.Sublist.append_left (List.sublist_cons_self _ _) _)
theorem Ow.dropA {f : List Cell} (a : Ow lo h (m1 ++ (f ++ m2))) : Ow lo h (m1 ++ m2) := a.sub (List.Sublist.append_left (List.sublist_append_right _ _) _)
theorem Ow.pushM (a : Ow lo h (m1 ++ m2)) (hlo : lo ≤ h.size) (o : Obj) : Ow lo (h.psh o) (m1 ++ (h.size,o) :: m2) := (a.push hlo o).perm List.perm_middle.symm
end Go.AM
namespace Go.AM
variable {lo : Nat} {h h' : H} {m m' m1 m2 : List Cell}
theorem single_flat (cs : List V) : (cs.map fun x => [x]).flatten = cs := by induction cs <;> simp_all
theorem Ow.appc {ty bytes : Nat} {b : Option Nat} {cs ds : List V} {x : V} (a : Ow lo h (m1 ++ (fpt b ty cs ++ m2))) (hb : b = none → cs = []) (hlo : lo ≤ h.size)
  (hl : lenV x = some ds.length) (he : elemsV h 1 ds.length x = some ds) (h1 : ds.all V.one = true) (hbd : cs.length + ds.length ≤ 1099511627776 ∧ (2 * (cs.length + ds.length) + 1024) * bytes ≤ 281474976710656) :
  ∃ b' h',appV h ty 1 bytes (vl b cs.length) x = some (.eff (vl b' (cs ++ ds).length) h') ∧ Ow lo h' (m1 ++ (fpt b' ty (cs ++ ds) ++ m2)) ∧ (b' = none → cs ++ ds = []) ∧ Keeps lo h h' ∧ (∀ i o,h.get i = some o → b ≠ some i → h'.get i = some o) := by
 have a' : Ow lo h (m1 ++ (fpt b ty (cs.map fun x => [x]).flatten ++ m2)) := by rw [single_flat]; exact a
 obtain ⟨b',h',e1,e2,e3,e4,e5⟩ := a'.appM (sz := 1) (bytes := bytes) (ys := ds.map fun x => [x]) (x := x) (fun h => by rw [hb h]; rfl) hlo (fun z hz => by obtain ⟨y,_,rfl⟩ := List.mem_map.1 hz; rfl) (by rw [List.length_map]; exact hl) (by rw [List.length_map,single_flat]; exact he) (by rw [single_flat]; exact h1) (by simpa using hbd)
 rw [← List.map_append,single_flat,List.length_map,List.length_map] at *
 exact ⟨b',h',e1,e2,fun h => by have := e3 h; simpa using this,e4,e5⟩
theorem Ow.new (a : Ow lo h m) (k : Kp h h') {b : Nat} {o : Obj} (hb : h.size ≤ b) (hlo : lo ≤ h.size) (hg : h'.get b = some o) : Ow lo h' ((b,o) :: m) := by
 refine ⟨fun p hp => ?_,fun p hp => ?_,?_⟩
 ·rcases List.mem_cons.1 hp with rfl | hp
  ·exact hg
  ·exact k.of (a.get p hp)
 ·rcases List.mem_cons.1 hp with rfl | hp
  ·show lo ≤ b; omega
  ·exact a.low p hp
 ·rw [List.map_cons,List.nodup_cons]
  refine ⟨fun hm => ?_,a.nd⟩
  obtain ⟨p,hp,e⟩ := List.mem_map.1 hm
  have := H.get_lt (a.get p hp)
  simp only at e
  omega
theorem Ow.newM (a : Ow lo h (m1 ++ m2)) (k : Kp h h') {b : Nat} {o : Obj} (hb : h.size ≤ b) (hlo : lo ≤ h.size) (hg : h'.get b = some o) : Ow lo h' (m1 ++ (b,o) :: m2) := (a.new k hb hlo hg).perm List.perm_middle.symm
end Go.AM
namespace Go.AM.Wc
open Go.AM
open Go.Lib (itoa)
variable {P : Program} {E : Env} {T : H → Prop}
def low (c : UInt8) : Bool := decide (97 ≤ c.toNat ∧ c.toNat ≤ 122)
def isName (s : List UInt8) : Bool := s.all low && decide (1 ≤ s.length ∧ s.length ≤ 20)
theorem bad_name {s : List UInt8} {k : Nat} (hk : k < s.length) (h : low s[k] = false) : isName s = false := by
 have : s.all low = false := by
  rw [Bool.eq_false_iff]
  intro ha
  have := List.all_eq_true.1 ha s[k] (List.getElem_mem hk)
  rw [h] at this; cases this
 simp [isName,this]
theorem take_ok {s : List UInt8} {k : Nat} (hk : k < s.length) (h : low s[k] = true) (ht : (s.take k).all low = true) : (s.take (k + 1)).all low = true := by
 rw [List.take_succ_eq_append_getElem hk,List.all_append,ht]
 simp [h]
theorem wrap_le {n : Int} (h0 : -9223372036854775808 ≤ n) (h1 : n ≤ 9223372036854775807) : IntKind.i64.wrap n = n := by
 have : IntKind.i64.wrap n = (n + 9223372036854775808) % 18446744073709551616 - 9223372036854775808 := by
  simp [IntKind.wrap,IntKind.signed,IntKind.bits,IntKind.max]
  omega
 rw [this]; omega
structure Fw (P : Program) (E : Env) (T : H → Prop) : Prop where
 tlow : ∀ lo h h',1 ≤ lo → T h → Keeps lo h h' → T h'
 tsize : ∀ h,T h → 1 ≤ h.size
 num57 : ∀ n h,-9223372036854775808 ≤ n → n ≤ 9223372036854775807 → T h → Sp P E (.func 57 [] []) [.int .i64 n,.int .i64 10] h fun v h' => v = .str (itoa n) ∧ h' = h
 rep58 : ∀ (k : Nat) h,k ≤ 12 → Sp P E (.func 58 [] []) [.str [48],.int .i64 k] h fun v h' => v = .str (List.replicate k 48) ∧ Kp h h'
 f7 : E.fns 7 = some fn7
 p7 : E.prim 7 = none
 f8 : E.fns 8 = some fn8
 p8 : E.prim 8 = none
 f9 : E.fns 9 = some fn9
 p9 : E.prim 9 = none
 f10 : E.fns 10 = some fn10
 p10 : E.prim 10 = none
 f11 : E.fns 11 = some fn11
 p11 : E.prim 11 = none
 f12 : E.fns 12 = some fn12
 p12 : E.prim 12 = none
 f13 : E.fns 13 = some fn13
 p13 : E.prim 13 = none
 f14 : E.fns 14 = some fn14
 p14 : E.prim 14 = none
 f23 : E.fns 23 = some fn23
 p23 : E.prim 23 = none
 f24 : E.fns 24 = some fn24
 p24 : E.prim 24 = none
 f25 : E.fns 25 = some fn25
 p25 : E.prim 25 = none
 f30 : E.fns 30 = some fn30
 p30 : E.prim 30 = none
 f33 : E.fns 33 = some fn33
 p33 : E.prim 33 = none
 f34 : E.fns 34 = some fn34
 p34 : E.prim 34 = none
 f35 : E.fns 35 = some fn35
 p35 : E.prim 35 = none
 f36 : E.fns 36 = some fn36
 p36 : E.prim 36 = none
 f37 : E.fns 37 = some fn37
 p37 : E.prim 37 = none
 f38 : E.fns 38 = some fn38
 p38 : E.prim 38 = none
 f39 : E.fns 39 = some fn39
 p39 : E.prim 39 = none
 f40 : E.fns 40 = some fn40
 p40 : E.prim 40 = none
 f41 : E.fns 41 = some fn41
 p41 : E.prim 41 = none
 f42 : E.fns 42 = some fn42
 p42 : E.prim 42 = none
 f55 : E.fns 55 = some fn55
 p55 : E.prim 55 = none
 f63 : E.fns 63 = some fn63
 p63 : E.prim 63 = none
 f65 : E.fns 65 = some fn65
 p65 : E.prim 65 = none
 f67 : E.fns 67 = some fn67
 p67 : E.prim 67 = none
 f68 : E.fns 68 = some fn68
 p68 : E.prim 68 = none
 f69 : E.fns 69 = some fn69
 p69 : E.prim 69 = none
 f100 : E.fns 100 = some fn100
 p100 : E.prim 100 = none
 f103 : E.fns 103 = some fn103
 p103 : E.prim 103 = none
 f104 : E.fns 104 = some fn104
 p104 : E.prim 104 = none
 f106 : E.fns 106 = some fn106
 p106 : E.prim 106 = none
 f107 : E.fns 107 = some fn107
 p107 : E.prim 107 = none
 f108 : E.fns 108 = some fn108
 p108 : E.prim 108 = none
 f141 : E.fns 141 = some fn141
 p141 : E.prim 141 = none
theorem Fw.tkeep {P : Program} {E : Env} {T : H → Prop} (F : Fw P E T) {h h' : H} (t : T h) (k : Kp h h') : T h' := F.tlow _ _ _ (F.tsize _ t) t k
theorem named24 (F : Fw P E T) {s : List UInt8} {h : H} (hlen : s.length ≤ 134217728) : Sp P E (.func 24 [] []) [.str s] h fun v h' => v = .bool (isName s) ∧ h' = h.psh (.cells (bytes s) 5 true false (some 0)) := by
 refine Sp_fn F.f24 F.p24 (by simp [fn24]) ?_
 have hg : (h.psh (.cells (bytes s) 5 true false (some 0))).get h.size = some (.cells (bytes s) 5 true false (some 0)) := psh_same _ _
 generalize hh : h.psh (.cells (bytes s) 5 true false (some 0)) = h1 at hg ⊢
 have loop : ∀ (d k : Nat) (ρ : Nat → V),s.length - k ≤ d → k ≤ s.length → (s.take k).all low = true → ρ 0 = .str s → ρ 6 = .slice (some (h.size,0)) s.length s.length true → ρ 7 = .int .i64 s.length → ρ 8 = .int .i64 k →
   XL P E none 27 b24_4 [.b 0,.c (.seq (.region r24_5) (.ret))] ρ h1 (Fin [.t 2] fun v h' => v = .bool (isName s) ∧ h' = h1) := by
  intro d
  induction d with
  | zero =>
   intro k ρ hd hk ht q0 q6 q7 q8
   have hke : ¬ k < s.length := by omega
   rw [List.take_of_length_le (by omega)] at ht
   rw [u24_4]
   by_cases c1 : (s.length : Int) ≥ 1
   ·by_cases c2 : (s.length : Int) ≤ 20
    ·simp only [GR,evK,binV,intOp,strOp,shOp,unV,Nat.reduceLT,Nat.reduceEqDiff,Nat.reduceAdd,↓reduceIte,Nat.reduceLeDiff,reduceCtorEq,r24_5,q0,q7,q8,Int.ofNat_lt,hke,c1,c2]
     simp [isName,ht]; omega
    ·simp only [GR,evK,binV,intOp,strOp,shOp,unV,Nat.reduceLT,Nat.reduceEqDiff,Nat.reduceAdd,↓reduceIte,Nat.reduceLeDiff,reduceCtorEq,r24_5,q0,q7,q8,Int.ofNat_lt,hke,c1,c2]
     simp [isName]; omega
   ·simp only [GR,evK,binV,intOp,strOp,shOp,unV,Nat.reduceLT,Nat.reduceEqDiff,Nat.reduceAdd,↓reduceIte,Nat.reduceLeDiff,reduceCtorEq,r24_5,q0,q7,q8,Int.ofNat_lt,hke,c1]
    simp [isName]; omega
  | succ d ih =>
   intro k ρ hd hk ht q0 q6 q7 q8
   by_cases hke : k < s.length
   rotate_left
   ·exact ih k ρ (by omega) hk ht q0 q6 q7 q8
   have hge : (bytes s)[k]? = some (.int .u8 s[k].toNat) := by simp [bytes,hke,byt]
   have hw : IntKind.i64.wrap ((k : Int) + 1) = ((k + 1 : Nat) : Int) := wrap_nat (n := k + 1) (by omega)
   rw [u24_4]
   by_cases c1 : (s[k].toNat : Int) < 97
   ·simp only [GR,evK,binV,intOp,strOp,shOp,unV,Nat.reduceLT,Nat.reduceEqDiff,Nat.reduceAdd,↓reduceIte,Nat.reduceLeDiff,reduceCtorEq,r24_1,r24_2,q6,q7,q8,hg,Int.ofNat_lt,hke,hge,Int.natCast_nonneg,Int.toNat_natCast,Nat.mul_one,Nat.zero_add,c1]
    rw [bad_name hke (by simp [low]; omega)]
   by_cases c2 : (s[k].toNat : Int) > 122
   ·simp only [GR,evK,binV,intOp,strOp,shOp,unV,Nat.reduceLT,Nat.reduceEqDiff,Nat.reduceAdd,↓reduceIte,Nat.reduceLeDiff,reduceCtorEq,r24_1,r24_2,q6,q7,q8,hg,Int.ofNat_lt,hke,hge,Int.natCast_nonneg,Int.toNat_natCast,Nat.mul_one,Nat.zero_add,c1,c2]
    rw [bad_name hke (by simp [low]; omega)]
   simp only [GR,evK,binV,intOp,strOp,shOp,unV,Nat.reduceLT,Nat.reduceEqDiff,Nat.reduceAdd,↓reduceIte,Nat.reduceLeDiff,reduceCtorEq,r24_1,r24_2,r24_3,q6,q7,q8,hg,Int.ofNat_lt,hke,hge,Int.natCast_nonneg,Int.toNat_natCast,Nat.mul_one,Nat.zero_add,c1,c2,hw]
   exact ih (k + 1) _ (by omega) (by omega) (take_ok hke (by simp [low]; omega) ht) q0 q6 q7 rfl
 simp only [GR,evK,binV,intOp,strOp,shOp,unV,Nat.reduceLT,Nat.reduceEqDiff,Nat.reduceAdd,↓reduceIte,Nat.reduceLeDiff,reduceCtorEq,fn24,c24,r24_0]
 rw [show List.map (fun b : UInt8 => V.int .u8 b.toNat) s = bytes s from rfl,hh]
 exact loop s.length 0 _ (by omega) (by omega) rfl rfl rfl rfl rfl
def segS (s : List UInt8) (n : Int) : List UInt8 := if isName s = true ∧ 0 ≤ n ∧ n ≤ 999999999999 then s ++ [46] ++ (List.replicate (12 - (itoa n).length) 48 ++ itoa n) else []
theorem name_len {s : List UInt8} (h : isName s = true) : s.length ≤ 20 := by
 simp [isName] at h; omega
theorem seg23 (F : Fw P E T) {s : List UInt8} {n : Int} {h : H} (ht : T h) (hlen : s.length ≤ 134217728) (hd : 0 ≤ n → n ≤ 999999999999 → (itoa n).length ≤ 12) : Sp P E (.func 23 [] []) [.str s,.int .i64 n] h fun v h' => v = .str (segS s n) ∧ Kp h h' := by
 have hk0 : Kp h (h.psh (.cells (bytes s) 5 true false (some 0))) := Keeps.psh (Nat.le_refl _) _
 refine Sp_fn F.f23 F.p23 (by simp [fn23]) ?_
 simp only [GR,evK,binV,intOp,strOp,shOp,unV,Nat.reduceLT,Nat.reduceEqDiff,Nat.reduceAdd,↓reduceIte,Nat.reduceLeDiff,reduceCtorEq,fn23,c23,r23_0]
 refine XC_of (named24 F hlen) ?_
 rintro _ h1 ⟨rfl,rfl⟩
 have ht1 := F.tkeep ht hk0
 generalize h.psh (.cells (bytes s) 5 true false (some 0)) = h1 at *
 unfold segS
 cases hn : isName s with
 | false =>
  simp only [GR,evK,binV,intOp,strOp,shOp,unV,Nat.reduceLT,Nat.reduceEqDiff,Nat.reduceAdd,↓reduceIte,Nat.reduceLeDiff,reduceCtorEq,Bool.not_false]
  simp [hk0]
 | true =>
  by_cases c1 : n < 0
  ·simp only [GR,evK,binV,intOp,strOp,shOp,unV,Nat.reduceLT,Nat.reduceEqDiff,Nat.reduceAdd,↓reduceIte,Nat.reduceLeDiff,reduceCtorEq,Bool.not_true,c1]
   rw [if_neg (by omega)]
   exact ⟨rfl,hk0⟩
  by_cases c2 : n > 999999999999
  ·simp only [GR,evK,binV,intOp,strOp,shOp,unV,Nat.reduceLT,Nat.reduceEqDiff,Nat.reduceAdd,↓reduceIte,Nat.reduceLeDiff,reduceCtorEq,Bool.not_true,c1,c2]
   rw [if_neg (by omega)]
   exact ⟨rfl,hk0⟩
  have hl := hd (by omega) (by omega)
  have hs := name_len hn
  rw [if_pos ⟨rfl,by omega,by omega⟩]
  simp only [GR,evK,binV,intOp,strOp,shOp,unV,Nat.reduceLT,Nat.reduceEqDiff,Nat.reduceAdd,↓reduceIte,Nat.reduceLeDiff,reduceCtorEq,Bool.not_true,c1,c2,r23_1]
  refine XC_of (F.num57 n _ (by omega) (by omega) ht1) ?_
  rintro _ h2 ⟨rfl,rfl⟩
  have l1 : s.length + 1 ≤ 9223372036854775807 := by omega
  have hw : IntKind.i64.wrap (12 - ((itoa n).length : Int)) = ((12 - (itoa n).length : Nat) : Int) := by rw [wrap_le (by omega) (by omega)]; omega
  simp only [GR,evK,binV,intOp,strOp,shOp,unV,Nat.reduceLT,Nat.reduceEqDiff,Nat.reduceAdd,↓reduceIte,Nat.reduceLeDiff,reduceCtorEq,r23_2,l1,hw]
  refine XC_of (F.rep58 (12 - (itoa n).length) _ (by omega)) ?_
  rintro _ h3 ⟨rfl,k3⟩
  have l2 : s.length + 1 + (12 - (itoa n).length) ≤ 9223372036854775807 := by omega
  have l3 : s.length + 1 + (12 - (itoa n).length) + (itoa n).length ≤ 9223372036854775807 := by omega
  simp only [GR,evK,binV,intOp,strOp,shOp,unV,Nat.reduceLT,Nat.reduceEqDiff,Nat.reduceAdd,↓reduceIte,Nat.reduceLeDiff,reduceCtorEq,List.length_append,List.length_replicate,List.length_cons,List.length_nil,l2,l3]
  exact ⟨by simp,hk0.trans k3⟩
end Go.AM.Wc
