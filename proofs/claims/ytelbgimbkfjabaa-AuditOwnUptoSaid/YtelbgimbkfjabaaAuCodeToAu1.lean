/- My own texts, laid for this claim. -/
import Derived.Test.YtelbgimbkfjabaaND2ToTf6
set_option linter.unusedSimpArgs false
set_option linter.unusedVariables false
namespace Go.AM.Sc
variable {P : Program} {E : Env} {ro : Option Nat} {L : Nat} {K : List Fr} {ρ : Nat → V} {h : H} {Q : Po}
def r5_0 : List O := [⟨some 13,.call (.k (.func 6 [] [])) [],none,0,[13]⟩,
 ono 14 13 1,
 om 15 14 3,
 ⟨some 16,.mv (.t 0),some (15,false),7,[16,15,0]⟩,
 ⟨some 17,.call (.k (.func 13 [] [])) [(.t 16)],some (15,false),15,[17,15,16]⟩,
 ⟨some 18,.mv (.t 0),some (15,false),7,[18,15,0]⟩,
 ⟨some 19,.call (.k (.func 14 [] [])) [(.t 18)],some (15,false),63,[19,15,18]⟩,
 ⟨some 20,.call (.k (.func 12 [] [])) [(.t 17),(.t 19)],some (15,false),127,[20,15,17,19]⟩,
 ⟨some 21,.un .not (.t 20),some (15,false),255,[21,15,20]⟩,
 ⟨some 22,.pick (.t 15) (.k (.bool true)) (.t 21),none,511,[22,15,21]⟩,
 om 23 22 1023,
 ⟨some 24,.mv (.t 0),some (23,false),2047,[24,23,0]⟩,
 ⟨some 25,.mv (.t 1),some (23,false),2047,[25,23,1]⟩,
 ⟨some 26,.call (.k (.func 15 [] [])) [(.t 24),(.t 25)],some (23,false),8191,[26,23,24,25]⟩,
 ⟨some 27,.mv (.t 0),some (23,false),2047,[27,23,0]⟩,
 ⟨some 28,.mv (.t 1),some (23,false),2047,[28,23,1]⟩,
 ⟨some 29,.call (.k (.func 16 [] [])) [(.t 27),(.t 28)],some (23,false),65535,[29,23,27,28]⟩,
 ⟨some 30,.bin .neq (some .bool) false (.t 26) (.t 29),some (23,false),131071,[30,23,26,29]⟩,
 ⟨some 31,.pick (.t 23) (.k (.bool true)) (.t 30),none,262143,[31,23,30]⟩]
def r5_1 : List O := [om 33 0 0,
 om 34 2 0,
 ⟨some 35,.call (.k (.func 10 [] [])) [(.t 33),(.t 34)],none,3,[35,33,34]⟩,
 om 32 35 7,
 ox 36 32 0 15,
 ox 37 32 1 15,
 om 7 36 31,
 om 8 37 127]
def r5_2 : List O := [om 39 0 0,
 om 40 2 0,
 ⟨some 41,.call (.k (.func 9 [] [])) [(.t 39),(.t 40)],none,3,[41,39,40]⟩,
 om 38 41 7,
 ox 42 38 0 15,
 ox 43 38 1 15,
 om 9 42 31,
 om 10 43 127]
def r5_3 : List O := [om 44 7 0,
 om 45 9 0,
 ⟨some 46,.bin .neq (some .int) false (.t 44) (.t 45),none,3,[46,44,45]⟩,
 om 47 46 7,
 ⟨some 48,.mv (.t 8),some (47,false),15,[48,47,8]⟩,
 ⟨some 49,.lenL (.t 48),some (47,false),31,[49,47,48]⟩,
 ⟨some 50,.mv (.t 10),some (47,false),15,[50,47,10]⟩,
 ⟨some 51,.lenL (.t 50),some (47,false),79,[51,47,50]⟩,
 ⟨some 52,.bin .neq (some .int) false (.t 49) (.t 51),some (47,false),255,[52,47,49,51]⟩,
 ⟨some 53,.pick (.t 47) (.k (.bool true)) (.t 52),none,511,[53,47,52]⟩]
def r5_4 : List O := [om 54 8 0,
 oL 55 54 1,
 ⟨some 56,.mv (.k (iI 0)),none,0,[56]⟩]
def r5_5 : List O := [om 58 56 0,
 om 11 58 1]
def r5_6 : List O := [om 59 8 0,
 om 60 11 0,
 oi 61 56 59 60 3,
 oN 62 56 61 7,
 om 63 10 0,
 om 64 11 0,
 oi 65 56 63 64 48,
 oN 66 56 65 112,
 ⟨some 67,.call (.k (.func 11 [] [])) [(.t 62),(.t 66)],none,255,[67,62,66]⟩,
 ono 68 67 511]
def r5_7 : List O := [op1 69 56 0,
 om 56 69 1]
def b5_8 : C := .seq (.region [olt 57 56 55 0]) (.seq (.cond (.t 57) (.skip) (.exit 0)) (.seq (.block 1 (.seq (.region r5_5) (.seq (.draw r5_6) (.cond (.t 68) (.seq (.region [⟨some 6,.mv (.k (.bool false)),none,0,[6]⟩]) (.ret)) (.skip))))) (.region r5_7)))
def r5_9 : List O := [om 70 0 0,
 oL 71 70 1,
 ⟨some 72,.mv (.k (iI 0)),none,0,[72]⟩]
def r5_10 : List O := [om 74 72 0,
 om 12 74 1]
def r5_11 : List O := [om 75 0 0,
 ⟨some 76,.iadrL 21 (.t 75) (.k (iI 0)),none,1,[76,75]⟩,
 oN 77 21 76 3,
 om 78 0 0,
 om 79 12 0,
 oi 80 21 78 79 24,
 oN 81 21 80 56,
 ⟨some 82,.call (.k (.func 17 [] [])) [(.t 77),(.t 81)],none,127,[82,77,81]⟩,
 om 83 0 0,
 ⟨some 84,.iadrL 21 (.t 83) (.k (iI 0)),none,256,[84,83]⟩,
 oN 85 21 84 768,
 om 86 0 0,
 om 87 12 0,
 oi 88 21 86 87 6144,
 oN 89 21 88 14336,
 ⟨some 90,.call (.k (.func 18 [] [])) [(.t 85),(.t 89)],none,32767,[90,85,89]⟩,
 ⟨some 91,.bin .neq (some .bool) false (.t 82) (.t 90),none,65535,[91,82,90]⟩]
def r5_12 : List O := [op1 92 72 0,
 om 72 92 1]
def b5_13 : C := .seq (.region [olt 73 72 71 0]) (.seq (.cond (.t 73) (.skip) (.exit 2)) (.seq (.block 3 (.seq (.region r5_10) (.seq (.draw r5_11) (.cond (.t 91) (.seq (.region [⟨some 6,.mv (.k (.bool false)),none,0,[6]⟩]) (.ret)) (.skip))))) (.region r5_12)))
def c5 : C := .seq (.region [⟨some 6,.mv (.k (.bool false)),none,0,[6]⟩]) (.seq (.seq (.region r5_0) (.cond (.t 31) (.seq (.region [⟨some 6,.mv (.k (.bool false)),none,0,[6]⟩]) (.ret)) (.skip))) (.seq (.region r5_1) (.seq (.region r5_2) (.seq (.seq (.region r5_3) (.cond (.t 53) (.seq (.region [⟨some 6,.mv (.k (.bool false)),none,0,[6]⟩]) (.ret)) (.skip))) (.seq (.seq (.region r5_4) (.block 0 (.loop b5_8))) (.seq (.seq (.region r5_9) (.block 2 (.loop b5_13))) (.seq (.region [⟨some 6,.mv (.k (.bool true)),none,0,[6]⟩]) (.ret))))))))
def r9_0 : List O := [⟨some 4,.mv (.k (iI 0)),none,0,[4]⟩,
 ⟨some 5,.mv (.k sN),none,1,[5]⟩]
def r9_1 : List O := [om 15 8 0,
 om 16 0 0,
 oL 17 16 2,
 olt 18 15 17 7]
def r9_2 : List O := [om 21 0 0,
 om 22 8 0,
 oi 23 21 21 22 3,
 oa 24 2 23 7,
 ol 25 24 15,
 om 26 25 31,
 og 27 0 26 63,
 og 28 8 26 63,
 oig 29 21 27 28 26 255,
 oag 30 0 29 26 511,
 oag 31 0 30 26 1023,
 olg 32 31 26 2047,
 og 33 1 26 63,
 oq 34 32 33 26 8191,
 oe 35 34 26 16383,
 om 36 35 32767,
 og 37 0 36 65535,
 og 38 8 36 65535,
 oig 39 21 37 38 36 262143,
 oNg 40 21 39 36 524287,
 ⟨some 41,.call (.k (.func 27 [] [])) [(.t 40)],some (36,true),1048575,[41,36,40]⟩,
 oe 42 41 36 2097151,
 om 43 42 4194303,
 og 44 7 43 8388607,
 ong 45 44 43 16777215,
 og 46 45 43 33554431,
 ⟨some 47,.mv (.t 0),some (46,false),67108863,[47,46,0]⟩,
 ⟨some 48,.mv (.t 8),some (46,false),67108863,[48,46,8]⟩,
 ⟨some 49,.iadrL 21 (.t 47) (.t 48),some (46,false),268435455,[49,46,47,48]⟩,
 oaf 50 6 49 46 536870911,
 olf 51 50 46 1073741823,
 ⟨some 52,.mv (.t 6),some (46,false),67108863,[52,46,6]⟩,
 ⟨some 53,.bin .lss (some .int) false (.t 51) (.t 52),some (46,false),4294967295,[53,46,51,52]⟩,
 ⟨some 54,.pick (.t 46) (.k (.bool true)) (.t 53),some (43,true),8589934591,[54,43,46,53]⟩,
 oe 55 54 43 17179869183]
def r9_3 : List O := [om 56 0 0,
 om 57 8 0,
 oi 58 21 56 57 3,
 oa 59 6 58 7,
 ol 60 59 15,
 om 6 60 31]
def r9_4 : List O := [om 19 8 0,
 op1 20 19 1,
 om 8 20 3]
abbrev e9_5 : C := .seq (.seq (.region r9_1) (.cond (.t 18) (.skip) (.exit 0))) (.seq (.block 1 (.seq (.region r9_2) (.cond (.t 55) (.seq (.region r9_3) (.region [⟨some 7,.mv (.k (.bool true)),none,0,[7]⟩])) (.skip)))) (.region r9_4))
def b9_5 : C := e9_5
theorem u9_5 : XL P E ro L b9_5 K ρ h Q = X P E ro L (.c e9_5 :: .l b9_5 :: K) ρ h Q := XL_unroll b9_5
def r9_6 : List O := [om 61 6 0,
 om 10 61 1]
def r9_7 : List O := [om 65 12 0,
 om 66 0 0,
 oL 67 66 2,
 olt 68 65 67 7,
 om 69 68 15,
 og 70 11 69 31,
 ong 71 70 69 63,
 oe 72 71 69 127]
def r9_8 : List O := [om 75 0 0,
 om 76 12 0,
 oi 77 21 75 76 3,
 oa 78 2 77 7,
 ol 79 78 15,
 om 80 79 31,
 og 81 0 80 63,
 og 82 12 80 63,
 oig 83 21 81 82 80 255,
 oag 84 0 83 80 511,
 oag 85 0 84 80 1023,
 olg 86 85 80 2047,
 og 87 1 80 63,
 oq 88 86 87 80 8191,
 oe 89 88 80 16383]
def r9_9 : List O := [om 91 0 0,
 om 92 12 0,
 oi 93 21 91 92 3,
 oN 94 21 93 7,
 om 95 10 0,
 ⟨some 96,.call (.k (.func 28 [] [])) [(.t 94),(.t 95)],none,31,[96,94,95]⟩,
 om 90 96 63,
 ox 97 90 0 127,
 ox 98 90 1 127,
 ⟨some 13,.alloc 49 [(iI 0),(iI 0),(iI 0),(iI 0),(iI 0),(iI 0),(iI 0),(iI 0),(.str []),(.str []),(.str []),(iI 0),(iI 0),sN,(iI 0),(iI 0),(iI 0),(iI 0),(iI 0),(iI 0),(iI 0),(iI 0),(iI 0),(iI 0),(iI 0),(iI 0),(iI 0),(iI 0),(iI 0),(iI 0),(iI 0),(iI 0),(iI 0),(iI 0),(iI 0),(iI 0),(iI 0),(iI 0),(iI 0),(iI 0),(iI 0),(iI 0),(iI 0),(iI 0),(iI 0),(iI 0),(iI 0),(iI 0),(iI 0),(iI 0),(iI 0),(iI 0),sN,(iI 0),(iI 0),(iI 0)],none,0,[13]⟩,
 ost 56 13 97 767,
 om 14 98 2047]
def r9_10 : List O := [om 100 9 0,
 oN 101 56 13 0,
 ⟨some 102,.call (.k (.func 29 [] [])) [(.t 101)],none,2,[102,101]⟩,
 ⟨some 103,.bslice 49 1 [(iI 0),(iI 0),(iI 0),(iI 0),(iI 0),(iI 0),(iI 0),(iI 0),(.str []),(.str []),(.str []),(iI 0),(iI 0),sN,(iI 0),(iI 0),(iI 0),(iI 0),(iI 0),(iI 0),(iI 0),(iI 0),(iI 0),(iI 0),(iI 0),(iI 0),(iI 0),(iI 0),(iI 0),(iI 0),(iI 0),(iI 0),(iI 0),(iI 0),(iI 0),(iI 0),(iI 0),(iI 0),(iI 0),(iI 0),(iI 0),(iI 0),(iI 0),(iI 0),(iI 0),(iI 0),(iI 0),(iI 0),(iI 0),(iI 0),(iI 0),(iI 0),sN,(iI 0),(iI 0),(iI 0)] [(0,56,(.t 102))],none,6,[103,102]⟩,
 ⟨some 104,.app 49 56 504 (.t 100) (.t 103),none,15,[104,100,103]⟩,
 om 9 104 31]
def r9_11 : List O := [om 73 12 0,
 op1 74 73 1,
 om 12 74 3]
abbrev e9_12 : C := .seq (.seq (.region r9_7) (.cond (.t 72) (.skip) (.exit 4))) (.seq (.block 5 (.seq (.region r9_8) (.cond (.t 89) (.seq (.region r9_9) (.seq (.region [om 99 14 0]) (.cond (.t 99) (.seq (.region r9_10) (.region [⟨some 11,.mv (.k (.bool true)),none,0,[11]⟩])) (.skip)))) (.skip)))) (.region r9_11))
def b9_12 : C := e9_12
theorem u9_12 : XL P E ro L b9_12 K ρ h Q = X P E ro L (.c e9_12 :: .l b9_12 :: K) ρ h Q := XL_unroll b9_12
def r9_13 : List O := [om 105 11 0,
 ono 106 105 1]
def r9_14 : List O := [om 63 10 0,
 op1 64 63 1,
 om 10 64 3]
abbrev e9_15 : C := .seq (.seq (.region [om 62 7 0]) (.cond (.t 62) (.skip) (.exit 2))) (.seq (.block 3 (.seq (.region [⟨some 11,.mv (.k (.bool false)),none,0,[11]⟩]) (.seq (.seq (.region [⟨some 12,.mv (.k (iI 0)),none,0,[12]⟩]) (.block 4 (.loop b9_12))) (.seq (.region r9_13) (.cond (.t 106) (.exit 2) (.skip)))))) (.region r9_14))
def b9_15 : C := e9_15
theorem u9_15 : XL P E ro L b9_15 K ρ h Q = X P E ro L (.c e9_15 :: .l b9_15 :: K) ρ h Q := XL_unroll b9_15
def r9_16 : List O := [om 107 6 0,
 om 108 9 0,
 om 4 107 1,
 om 5 108 7]
def c9 : C := .seq (.region r9_0) (.seq (.region [⟨some 6,.mv (.k (iI 0)),none,0,[6]⟩]) (.seq (.region [⟨some 7,.mv (.k (.bool false)),none,0,[7]⟩]) (.seq (.seq (.region [⟨some 8,.mv (.k (iI 0)),none,0,[8]⟩]) (.block 0 (.loop b9_5))) (.seq (.region [⟨some 9,.mv (.k sN),none,0,[9]⟩]) (.seq (.seq (.region r9_6) (.block 2 (.loop b9_15))) (.seq (.region r9_16) (.ret)))))))
def fn9 : Fn := ⟨109,[.t 4,.t 5],c9⟩
def r10_0 : List O := [⟨some 4,.mv (.k (iI 0)),none,0,[4]⟩,
 ⟨some 5,.mv (.k sN),none,1,[5]⟩]
def r10_1 : List O := [om 18 0 0,
 oL 19 18 1,
 ⟨some 20,.mv (.k (iI 0)),none,0,[20]⟩]
def r10_2 : List O := [oi 22 21 18 20 0,
 oN 23 21 22 1,
 ⟨some 8,.alloc 63 zVw,none,0,[8]⟩,
 ost 21 8 23 7]
def r10_3 : List O := [oa 24 2 8 0,
 ol 25 24 1,
 om 26 25 3,
 oag 27 0 8 26 7,
 oag 28 0 27 26 15,
 olg 29 28 26 31,
 og 30 1 26 7,
 oq 31 29 30 26 127,
 oe 32 31 26 255,
 om 33 32 511,
 oag 34 6 8 33 1023,
 olg 35 34 33 2047,
 ⟨some 36,.call (.k (.func 30 [] [])) [(.t 35)],some (33,true),4095,[36,33,35]⟩,
 oe 37 36 33 8191]
def r10_4 : List O := [om 38 6 0,
 oN 39 21 8 0,
 ⟨some 40,.bslice 63 1 zVw [(0,21,(.t 39))],none,2,[40,39]⟩,
 ⟨some 41,.app 63 21 200 (.t 38) (.t 40),none,7,[41,38,40]⟩,
 om 6 41 15]
def r10_5 : List O := [op1 42 20 0,
 om 20 42 1]
abbrev e10_6 : C := .seq (.region [olt 21 20 19 0]) (.seq (.cond (.t 21) (.skip) (.exit 0)) (.seq (.block 1 (.seq (.region r10_2) (.seq (.region r10_3) (.cond (.t 37) (.region r10_4) (.skip))))) (.region r10_5)))
def b10_6 : C := e10_6
theorem u10_6 : XL P E ro L b10_6 K ρ h Q = X P E ro L (.c e10_6 :: .l b10_6 :: K) ρ h Q := XL_unroll b10_6
def r10_7 : List O := [om 43 6 0,
 oL 44 43 1,
 ⟨some 45,.bin .eql (some .int) true (.t 44) (.k (iI 0)),none,3,[45,44]⟩]
def r10_8 : List O := [⟨some 4,.mv (.k (iI 0)),none,0,[4]⟩,
 ⟨some 5,.mv (.k sN),none,1,[5]⟩]
def r10_9 : List O := [om 46 6 0,
 ⟨some 47,.iadrL 21 (.t 46) (.k (iI 0)),none,1,[47,46]⟩,
 oa 48 6 47 3,
 ol 49 48 7,
 om 9 49 15]
def r10_10 : List O := [om 50 6 0,
 oL 51 50 1,
 ⟨some 52,.mv (.k (iI 0)),none,0,[52]⟩]
def r10_11 : List O := [oi 54 21 50 52 0,
 oN 55 21 54 1,
 ⟨some 11,.alloc 63 zVw,none,0,[11]⟩,
 ost 21 11 55 7]
def r10_12 : List O := [om 56 9 0,
 oa 57 6 11 0,
 ol 58 57 2,
 ⟨some 59,.minmax false [(.t 56),(.t 58)],none,7,[59,56,58]⟩,
 om 9 59 15]
def r10_13 : List O := [op1 60 52 0,
 om 52 60 1]
abbrev e10_14 : C := .seq (.region [olt 53 52 51 0]) (.seq (.cond (.t 53) (.skip) (.exit 2)) (.seq (.block 3 (.seq (.region r10_11) (.region r10_12))) (.region r10_13)))
def b10_14 : C := e10_14
theorem u10_14 : XL P E ro L b10_14 K ρ h Q = X P E ro L (.c e10_14 :: .l b10_14 :: K) ρ h Q := XL_unroll b10_14
def r10_15 : List O := [om 61 9 0,
 om 13 61 1]
def r10_16 : List O := [om 64 6 0,
 oL 65 64 1,
 ⟨some 66,.mv (.k (iI 0)),none,0,[66]⟩]
def r10_17 : List O := [oi 68 21 64 66 0,
 oN 69 21 68 1,
 ⟨some 15,.alloc 63 zVw,none,0,[15]⟩,
 ost 21 15 69 7]
def r10_18 : List O := [oN 71 21 15 0,
 om 72 13 0,
 ⟨some 73,.call (.k (.func 31 [] [])) [(.t 71),(.t 72)],none,3,[73,71,72]⟩,
 om 70 73 7,
 ox 74 70 0 15,
 ox 75 70 1 15,
 ⟨some 16,.alloc 49 [(iI 0),(iI 0),(iI 0),(iI 0),(iI 0),(iI 0),(iI 0),(iI 0),(.str []),(.str []),(.str []),(iI 0),(iI 0),sN,(iI 0),(iI 0),(iI 0),(iI 0),(iI 0),(iI 0),(iI 0),(iI 0),(iI 0),(iI 0),(iI 0),(iI 0),(iI 0),(iI 0),(iI 0),(iI 0),(iI 0),(iI 0),(iI 0),(iI 0),(iI 0),(iI 0),(iI 0),(iI 0),(iI 0),(iI 0),(iI 0),(iI 0),(iI 0),(iI 0),(iI 0),(iI 0),(iI 0),(iI 0),(iI 0),(iI 0),(iI 0),(iI 0),sN,(iI 0),(iI 0),(iI 0)],none,0,[16]⟩,
 ost 56 16 74 95,
 om 17 75 255]
def r10_19 : List O := [om 77 12 0,
 oN 78 56 16 0,
 ⟨some 79,.call (.k (.func 32 [] [])) [(.t 78)],none,2,[79,78]⟩,
 ⟨some 80,.bslice 49 1 [(iI 0),(iI 0),(iI 0),(iI 0),(iI 0),(iI 0),(iI 0),(iI 0),(.str []),(.str []),(.str []),(iI 0),(iI 0),sN,(iI 0),(iI 0),(iI 0),(iI 0),(iI 0),(iI 0),(iI 0),(iI 0),(iI 0),(iI 0),(iI 0),(iI 0),(iI 0),(iI 0),(iI 0),(iI 0),(iI 0),(iI 0),(iI 0),(iI 0),(iI 0),(iI 0),(iI 0),(iI 0),(iI 0),(iI 0),(iI 0),(iI 0),(iI 0),(iI 0),(iI 0),(iI 0),(iI 0),(iI 0),(iI 0),(iI 0),(iI 0),(iI 0),sN,(iI 0),(iI 0),(iI 0)] [(0,56,(.t 79))],none,6,[80,79]⟩,
 ⟨some 81,.app 49 56 504 (.t 77) (.t 80),none,15,[81,77,80]⟩,
 om 12 81 31]
def r10_20 : List O := [op1 82 66 0,
 om 66 82 1]
abbrev e10_21 : C := .seq (.region [olt 67 66 65 0]) (.seq (.cond (.t 67) (.skip) (.exit 6)) (.seq (.block 7 (.seq (.region r10_17) (.seq (.region r10_18) (.seq (.region [om 76 17 0]) (.cond (.t 76) (.seq (.region r10_19) (.exit 5)) (.skip)))))) (.region r10_20)))
def b10_21 : C := e10_21
theorem u10_21 : XL P E ro L b10_21 K ρ h Q = X P E ro L (.c e10_21 :: .l b10_21 :: K) ρ h Q := XL_unroll b10_21
def r10_22 : List O := [om 83 9 0,
 om 84 12 0,
 om 4 83 1,
 om 5 84 7]
def r10_23 : List O := [om 62 13 0,
 op1 63 62 1,
 om 13 63 3]
abbrev e10_24 : C := .seq (.block 5 (.seq (.seq (.region r10_16) (.block 6 (.loop b10_21))) (.seq (.region r10_22) (.ret)))) (.region r10_23)
def b10_24 : C := e10_24
theorem u10_24 : XL P E ro L b10_24 K ρ h Q = X P E ro L (.c e10_24 :: .l b10_24 :: K) ρ h Q := XL_unroll b10_24
def c10 : C := .seq (.region r10_0) (.seq (.region [⟨some 6,.mv (.k sN),none,0,[6]⟩]) (.seq (.seq (.region r10_1) (.block 0 (.loop b10_6))) (.seq (.seq (.region r10_7) (.cond (.t 45) (.seq (.region r10_8) (.ret)) (.skip))) (.seq (.region r10_9) (.seq (.seq (.region r10_10) (.block 2 (.loop b10_14))) (.seq (.region [⟨some 12,.mv (.k sN),none,0,[12]⟩]) (.seq (.skip) (.seq (.region r10_15) (.block 4 (.loop b10_24))))))))))
def fn10 : Fn := ⟨85,[.t 4,.t 5],c10⟩
def r11_0 : List O := [⟨some 2,.box 49 (.t 0),none,0,[2,0]⟩,
 ⟨some 3,.box 49 (.t 1),none,0,[3,1]⟩,
 ⟨some 4,.mv (.k (.bool false)),none,0,[4]⟩]
def a11_0 : List O := [oa 5 0 2 0,ol 6 5 1,oa 7 0 3 0,ol 8 7 4,⟨some 9,.bin .eql (some .int) false (.t 6) (.t 8),none,15,[9,6,8]⟩,om 10 9 31]
def a11_1 : List O := [oag 11 1 2 10 63,olg 12 11 10 127,oag 13 1 3 10 63,olg 14 13 10 319,oq 15 12 14 10 1023,oe 16 15 10 2047,om 17 16 4095]
def a11_2 : List O := [oag 18 2 2 17 8191,olg 19 18 17 16383,oag 20 2 3 17 8191,olg 21 20 17 40959,oq 22 19 21 17 131071,oe 23 22 17 262143,om 24 23 524287]
def a11_3 : List O := [oag 25 3 2 24 1048575,oNg 26 8 25 24 2097151,oag 27 3 3 24 1048575,oNg 28 8 27 24 5242879,⟨some 29,.bin .eql (some (.fcons 0 2 true (.fcons 0 1 false .int (.fcons 1 1 false .int .fnil)) (.fcons 2 1 false .int (.fcons 3 1 false .int (.fcons 4 1 false .int (.fcons 5 1 false .str (.fcons 6 1 false .str (.fcons 7 1 false .str .fnil)))))))) false (.t 26) (.t 28),some (24,true),16777215,[29,24,26,28]⟩,oe 30 29 24 33554431,om 31 30 67108863]
def a11_4 : List O := [oag 32 11 2 31 134217727,olg 33 32 31 268435455,oag 34 11 3 31 134217727,olg 35 34 31 671088639,oq 36 33 35 31 2147483647,oe 37 36 31 4294967295,om 38 37 8589934591]
def a11_5 : List O := [oag 39 12 2 38 17179869183,olg 40 39 38 34359738367,oag 41 12 3 38 17179869183,olg 42 41 38 85899345919,oq 43 40 42 38 274877906943,oe 44 43 38 549755813887,om 45 44 1099511627775]
def a11_6 : List O := [oag 46 13 2 45 2199023255551,olg 47 46 45 4398046511103,oag 48 13 3 45 2199023255551,olg 49 48 45 10995116277759,⟨some 50,.call (.k (.func 33 [] [])) [(.t 47),(.t 49)],some (45,true),35184372088831,[50,45,47,49]⟩,oe 51 50 45 70368744177663,om 52 51 140737488355327]
def a11_7 : List O := [oag 53 14 2 52 281474976710655,oNg 54 25 53 52 562949953421311,oag 55 14 3 52 281474976710655,oNg 56 25 55 52 1407374883553279,⟨some 57,.bin .eql (some (.fcons 0 1 false .int (.fcons 1 8 true (.ar 8 1 false .int) (.fcons 9 8 true (.ar 8 1 false .int) (.fcons 17 8 true (.ar 8 1 false .int) .fnil))))) false (.t 54) (.t 56),some (52,true),4503599627370495,[57,52,54,56]⟩,oe 58 57 52 9007199254740991,om 59 58 18014398509481983]
def a11_8 : List O := [oag 60 39 2 59 36028797018963967,olg 61 60 59 72057594037927935,oag 62 39 3 59 36028797018963967,olg 63 62 59 180143985094819839,oq 64 61 63 59 576460752303423487,oe 65 64 59 1152921504606846975,om 66 65 2305843009213693951]
def a11_9 : List O := [oag 67 40 2 66 4611686018427387903,oNg 68 8 67 66 9223372036854775807,oag 69 40 3 66 4611686018427387903,oNg 70 8 69 66 23058430092136939519,⟨some 71,.bin .eql (some (.ar 8 1 false .int)) false (.t 68) (.t 70),some (66,true),73786976294838206463,[71,66,68,70]⟩,oe 72 71 66 147573952589676412927,om 73 72 295147905179352825855]
def a11_10 : List O := [oag 74 48 2 73 590295810358705651711,olg 75 74 73 1180591620717411303423,oag 76 48 3 73 590295810358705651711,olg 77 76 73 2951479051793528258559,oq 78 75 77 73 9444732965739290427391,oe 79 78 73 18889465931478580854783,om 80 79 37778931862957161709567]
def a11_11 : List O := [oag 81 49 2 80 75557863725914323419135,oNg 82 4 81 80 151115727451828646838271,oag 83 49 3 80 75557863725914323419135,oNg 84 4 83 80 377789318629571617095679,⟨some 85,.call (.k (.func 34 [] [])) [(.t 82),(.t 84)],some (80,true),1208925819614629174706175,[85,80,82,84]⟩,oe 86 85 80 2417851639229258349412351,om 87 86 4835703278458516698824703]
def a11_12 : List O := [oag 88 53 2 87 9671406556917033397649407,olg 89 88 87 19342813113834066795298815,oag 90 53 3 87 9671406556917033397649407,olg 91 90 87 48357032784585166988247039,oq 92 89 91 87 154742504910672534362390527,oe 93 92 87 309485009821345068724781055,om 94 93 618970019642690137449562111]
def a11_13 : List O := [oag 95 54 2 94 1237940039285380274899124223,olg 96 95 94 2475880078570760549798248447,oag 97 54 3 94 1237940039285380274899124223,olg 98 97 94 6189700196426901374495621119,oq 99 96 98 94 19807040628566084398385987583,oe 100 99 94 39614081257132168796771975167,om 101 100 79228162514264337593543950335]
def a11_14 : List O := [oag 102 55 2 101 158456325028528675187087900671,olg 103 102 101 316912650057057350374175801343,oag 104 55 3 101 158456325028528675187087900671,olg 105 104 101 792281625142643375935439503359,oq 106 103 105 101 2535301200456458802993406410751,oe 107 106 101 5070602400912917605986812821503,om 4 107 10141204801825835211973625643007]
def r11_1 : List O := a11_0 ++ (a11_1 ++ (a11_2 ++ (a11_3 ++ (a11_4 ++ (a11_5 ++ (a11_6 ++ (a11_7 ++ (a11_8 ++ (a11_9 ++ (a11_10 ++ (a11_11 ++ (a11_12 ++ (a11_13 ++ (a11_14))))))))))))))
def c11 : C := .seq (.region r11_0) (.seq (.region r11_1) (.ret))
def fn11 : Fn := ⟨108,[.t 4],c11⟩
def r12_0 : List O := [om 6 0 0,
 oL 7 6 1,
 om 8 1 0,
 oL 9 8 4,
 ⟨some 10,.bin .neq (some .int) false (.t 7) (.t 9),none,15,[10,7,9]⟩]
def r12_1 : List O := [om 11 0 0,
 oL 12 11 1,
 ⟨some 13,.mv (.k (iI 0)),none,0,[13]⟩]
def r12_2 : List O := [om 15 13 0,
 om 5 15 1]
def r12_3 : List O := [om 16 0 0,
 om 17 5 0,
 oi 18 2 16 17 3,
 oN 19 2 18 7,
 om 20 1 0,
 om 21 5 0,
 oi 22 2 20 21 48,
 oN 23 2 22 112,
 ⟨some 24,.bin .neq (some (.fcons 0 1 false .int (.fcons 1 1 false .int .fnil))) false (.t 19) (.t 23),none,255,[24,19,23]⟩]
def r12_4 : List O := [op1 25 13 0,
 om 13 25 1]
def b12_5 : C := .seq (.region [olt 14 13 12 0]) (.seq (.cond (.t 14) (.skip) (.exit 0)) (.seq (.block 1 (.seq (.region r12_2) (.seq (.draw r12_3) (.cond (.t 24) (.seq (.region [⟨some 4,.mv (.k (.bool false)),none,0,[4]⟩]) (.ret)) (.skip))))) (.region r12_4)))
def c12 : C := .seq (.region [⟨some 4,.mv (.k (.bool false)),none,0,[4]⟩]) (.seq (.seq (.region r12_0) (.cond (.t 10) (.seq (.region [⟨some 4,.mv (.k (.bool false)),none,0,[4]⟩]) (.ret)) (.skip))) (.seq (.seq (.region r12_1) (.block 0 (.loop b12_5))) (.seq (.region [⟨some 4,.mv (.k (.bool true)),none,0,[4]⟩]) (.ret))))
def r21_0 : List O := [⟨some 2,.box 63 (.t 0),none,0,[2,0]⟩,
 ⟨some 3,.box 63 (.t 1),none,0,[3,1]⟩,
 ⟨some 4,.mv (.k (.bool false)),none,0,[4]⟩]
def a21_0 : List O := [oa 5 4 2 0,ol 6 5 1,oa 7 4 3 0,ol 8 7 4,⟨some 9,.bin .eql (some .bool) false (.t 6) (.t 8),none,15,[9,6,8]⟩,om 10 9 31]
def a21_1 : List O := [oag 11 8 2 10 63,olg 12 11 10 127,oag 13 8 3 10 63,olg 14 13 10 319,oq 15 12 14 10 1023,oe 16 15 10 2047,om 17 16 4095]
def a21_2 : List O := [oag 18 9 2 17 8191,olg 19 18 17 16383,oag 20 9 3 17 8191,olg 21 20 17 40959,oq 22 19 21 17 131071,oe 23 22 17 262143,om 24 23 524287]
def a21_3 : List O := [oag 25 10 2 24 1048575,olg 26 25 24 2097151,oag 27 10 3 24 1048575,olg 28 27 24 5242879,oq 29 26 28 24 16777215,oe 30 29 24 33554431,om 31 30 67108863]
def a21_4 : List O := [oag 32 11 2 31 134217727,oNg 33 8 32 31 268435455,oag 34 11 3 31 134217727,oNg 35 8 34 31 671088639,⟨some 36,.bin .eql (some (.ar 8 1 false .int)) false (.t 33) (.t 35),some (31,true),2147483647,[36,31,33,35]⟩,oe 37 36 31 4294967295,om 38 37 8589934591]
def a21_5 : List O := [oag 39 19 2 38 17179869183,olg 40 39 38 34359738367,oag 41 19 3 38 17179869183,olg 42 41 38 85899345919,⟨some 43,.call (.k (.func 22 [] [])) [(.t 40),(.t 42)],some (38,true),274877906943,[43,38,40,42]⟩,oe 44 43 38 549755813887,om 45 44 1099511627775]
def a21_6 : List O := [oag 46 20 2 45 2199023255551,olg 47 46 45 4398046511103,oag 48 20 3 45 2199023255551,olg 49 48 45 10995116277759,⟨some 50,.call (.k (.func 42 [] [])) [(.t 47),(.t 49)],some (45,true),35184372088831,[50,45,47,49]⟩,oe 51 50 45 70368744177663,om 4 51 140737488355327]
def r21_1 : List O := a21_0 ++ (a21_1 ++ (a21_2 ++ (a21_3 ++ (a21_4 ++ (a21_5 ++ (a21_6))))))
def c21 : C := .seq (.region r21_0) (.seq (.region r21_1) (.ret))
def fn21 : Fn := ⟨52,[.t 4],c21⟩
def r22_0 : List O := [om 6 0 0,
 oL 7 6 1,
 om 8 1 0,
 oL 9 8 4,
 ⟨some 10,.bin .neq (some .int) false (.t 7) (.t 9),none,15,[10,7,9]⟩]
def r22_1 : List O := [om 11 5 0,
 om 12 0 0,
 oL 13 12 2,
 olt 14 11 13 7]
def r22_2 : List O := [om 17 0 0,
 om 18 5 0,
 oi 19 4 17 18 3,
 oN 20 4 19 7,
 om 21 1 0,
 om 22 5 0,
 oi 23 4 21 22 48,
 oN 24 4 23 112,
 ⟨some 25,.call (.k (.func 43 [] [])) [(.t 20),(.t 24)],none,255,[25,20,24]⟩,
 ono 26 25 511]
theorem d22_2 (hx : XDO P E ro L r22_2 K ρ h Q) : XD P E ro L r22_2 K ρ h Q := XD_ord rfl hx
def r22_3 : List O := [om 15 5 0,
 op1 16 15 1,
 om 5 16 3]
abbrev e22_4 : C := .seq (.seq (.region r22_1) (.cond (.t 14) (.skip) (.exit 0))) (.seq (.block 1 (.seq (.draw r22_2) (.cond (.t 26) (.seq (.region [⟨some 4,.mv (.k (.bool false)),none,0,[4]⟩]) (.ret)) (.skip)))) (.region r22_3))
def b22_4 : C := e22_4
theorem u22_4 : XL P E ro L b22_4 K ρ h Q = X P E ro L (.c e22_4 :: .l b22_4 :: K) ρ h Q := XL_unroll b22_4
def c22 : C := .seq (.region [⟨some 4,.mv (.k (.bool false)),none,0,[4]⟩]) (.seq (.seq (.region r22_0) (.cond (.t 10) (.seq (.region [⟨some 4,.mv (.k (.bool false)),none,0,[4]⟩]) (.ret)) (.skip))) (.seq (.seq (.region [⟨some 5,.mv (.k (iI 0)),none,0,[5]⟩]) (.block 0 (.loop b22_4))) (.seq (.region [⟨some 4,.mv (.k (.bool true)),none,0,[4]⟩]) (.ret))))
def fn22 : Fn := ⟨27,[.t 4],c22⟩
def r27_0 : List O := [⟨some 1,.box 63 (.t 0),none,0,[1,0]⟩,
 ⟨some 2,.mv (.k (.bool false)),none,0,[2]⟩]
def r27_1 : List O := [oa 3 6 1 0,
 ol 4 3 1,
 ⟨some 5,.bin .geq (some .int) true (.t 4) (.k (iI 0)),none,3,[5,4]⟩,
 om 6 5 7,
 oag 7 6 1 6 15,
 olg 8 7 6 31,
 ⟨some 9,.bin .leq (some .int) true (.t 8) (.k (iI 1099511627776)),some (6,true),63,[9,6,8]⟩,
 oe 10 9 6 127,
 om 2 10 255]
def c27 : C := .seq (.region r27_0) (.seq (.region r27_1) (.ret))
def fn27 : Fn := ⟨11,[.t 2],c27⟩
def r28_0 : List O := [⟨some 2,.box 63 (.t 0),none,0,[2,0]⟩,
 ⟨some 4,.alloc 49 [(iI 0),(iI 0),(iI 0),(iI 0),(iI 0),(iI 0),(iI 0),(iI 0),(.str []),(.str []),(.str []),(iI 0),(iI 0),sN,(iI 0),(iI 0),(iI 0),(iI 0),(iI 0),(iI 0),(iI 0),(iI 0),(iI 0),(iI 0),(iI 0),(iI 0),(iI 0),(iI 0),(iI 0),(iI 0),(iI 0),(iI 0),(iI 0),(iI 0),(iI 0),(iI 0),(iI 0),(iI 0),(iI 0),(iI 0),(iI 0),(iI 0),(iI 0),(iI 0),(iI 0),(iI 0),(iI 0),(iI 0),(iI 0),(iI 0),(iI 0),(iI 0),sN,(iI 0),(iI 0),(iI 0)],none,0,[4]⟩,
 ⟨some 5,.mv (.k (.bool false)),none,0,[5]⟩]
def r28_1 : List O := [oN 6 21 2 0,
 ⟨some 7,.call (.k (.func 27 [] [])) [(.t 6)],none,1,[7,6]⟩,
 ono 8 7 3,
 om 9 8 7,
 ⟨some 10,.mv (.t 1),some (9,false),15,[10,9,1]⟩,
 oaf 11 6 2 9 15,
 olf 12 11 9 47,
 ⟨some 13,.bin .lss (some .int) false (.t 10) (.t 12),some (9,false),127,[13,9,10,12]⟩,
 ⟨some 14,.pick (.t 9) (.k (.bool true)) (.t 13),none,255,[14,9,13]⟩,
 om 15 14 511,
 ⟨some 16,.mv (.t 1),some (15,false),1023,[16,15,1]⟩,
 oaf 17 6 2 15 1023,
 olf 18 17 15 3071,
 ⟨some 19,.bin .sub (some .int) false (.t 16) (.t 18),some (15,false),8191,[19,15,16,18]⟩,
 oaf 20 7 2 15 1023,
 olf 21 20 15 17407,
 ⟨some 22,.lenL (.t 21),some (15,false),50175,[22,15,21]⟩,
 ⟨some 23,.bin .geq (some .int) false (.t 19) (.t 22),some (15,false),131071,[23,15,19,22]⟩,
 ⟨some 24,.pick (.t 15) (.k (.bool true)) (.t 23),none,262143,[24,15,23]⟩]
def r28_2 : List O := [⟨some 25,.build [(iI 0),(iI 0),(iI 0),(iI 0),(iI 0),(iI 0),(iI 0),(iI 0),(.str []),(.str []),(.str []),(iI 0),(iI 0),sN,(iI 0),(iI 0),(iI 0),(iI 0),(iI 0),(iI 0),(iI 0),(iI 0),(iI 0),(iI 0),(iI 0),(iI 0),(iI 0),(iI 0),(iI 0),(iI 0),(iI 0),(iI 0),(iI 0),(iI 0),(iI 0),(iI 0),(iI 0),(iI 0),(iI 0),(iI 0),(iI 0),(iI 0),(iI 0),(iI 0),(iI 0),(iI 0),(iI 0),(iI 0),(iI 0),(iI 0),(iI 0),(iI 0),sN,(iI 0),(iI 0),(iI 0)] [],none,0,[25]⟩,
 ost 56 4 25 1,
 ⟨some 5,.mv (.k (.bool false)),none,3,[5]⟩]
def r28_3 : List O := [oa 26 7 2 0,
 ol 27 26 1,
 om 28 1 0,
 oa 29 6 2 0,
 ol 30 29 8,
 ⟨some 31,.bin .sub (some .int) false (.t 28) (.t 30),none,28,[31,28,30]⟩,
 oi 32 56 27 31 63,
 oN 33 56 32 127,
 ost 56 4 33 255,
 ⟨some 5,.mv (.k (.bool true)),none,511,[5]⟩]
def c28 : C := .seq (.region r28_0) (.seq (.seq (.region r28_1) (.cond (.t 24) (.seq (.region r28_2) (.ret)) (.skip))) (.seq (.region r28_3) (.ret)))
def fn28 : Fn := ⟨34,[.c 4 56 true,.t 5],c28⟩
def r29_0 : List O := [⟨some 1,.box 49 (.t 0),none,0,[1,0]⟩,
 ⟨some 2,.alloc 49 [(iI 0),(iI 0),(iI 0),(iI 0),(iI 0),(iI 0),(iI 0),(iI 0),(.str []),(.str []),(.str []),(iI 0),(iI 0),sN,(iI 0),(iI 0),(iI 0),(iI 0),(iI 0),(iI 0),(iI 0),(iI 0),(iI 0),(iI 0),(iI 0),(iI 0),(iI 0),(iI 0),(iI 0),(iI 0),(iI 0),(iI 0),(iI 0),(iI 0),(iI 0),(iI 0),(iI 0),(iI 0),(iI 0),(iI 0),(iI 0),(iI 0),(iI 0),(iI 0),(iI 0),(iI 0),(iI 0),(iI 0),(iI 0),(iI 0),(iI 0),(iI 0),sN,(iI 0),(iI 0),(iI 0)],none,0,[2]⟩]
def r29_1 : List O := [oa 3 13 1 0,
 ol 4 3 1,
 ⟨some 5,.app 38 8 88 (.k sN) (.t 4),none,3,[5,4]⟩,
 oa 6 13 1 7,
 ost 1 6 5 15]
def r29_2 : List O := [oa 7 49 1 0,
 oa 8 3 7 1,
 ol 9 8 3,
 ⟨some 10,.app 5 1 1 (.k sN) (.t 9),none,7,[10,9]⟩,
 oa 11 49 1 15,
 oa 12 3 11 31,
 ost 1 12 10 63]
def r29_3 : List O := [oN 13 56 1 0,
 ost 56 2 13 1]
def c29 : C := .seq (.region r29_0) (.seq (.region r29_1) (.seq (.region r29_2) (.seq (.region r29_3) (.ret))))
def fn29 : Fn := ⟨14,[.c 2 56 true],c29⟩
def r30_0 : List O := [om 3 0 0,
 ⟨some 4,.bin .geq (some .int) true (.t 3) (.k (iI 0)),none,1,[4,3]⟩,
 om 5 4 3,
 og 6 0 5 7,
 ⟨some 7,.bin .leq (some .int) true (.t 6) (.k (iI 1099511627776)),some (5,true),15,[7,5,6]⟩,
 oe 8 7 5 31,
 om 2 8 63]
def c30 : C := .seq (.region [⟨some 2,.mv (.k (.bool false)),none,0,[2]⟩]) (.seq (.region r30_0) (.ret))
def fn30 : Fn := ⟨9,[.t 2],c30⟩
def r31_0 : List O := [⟨some 2,.box 63 (.t 0),none,0,[2,0]⟩,
 ⟨some 4,.alloc 49 [(iI 0),(iI 0),(iI 0),(iI 0),(iI 0),(iI 0),(iI 0),(iI 0),(.str []),(.str []),(.str []),(iI 0),(iI 0),sN,(iI 0),(iI 0),(iI 0),(iI 0),(iI 0),(iI 0),(iI 0),(iI 0),(iI 0),(iI 0),(iI 0),(iI 0),(iI 0),(iI 0),(iI 0),(iI 0),(iI 0),(iI 0),(iI 0),(iI 0),(iI 0),(iI 0),(iI 0),(iI 0),(iI 0),(iI 0),(iI 0),(iI 0),(iI 0),(iI 0),(iI 0),(iI 0),(iI 0),(iI 0),(iI 0),(iI 0),(iI 0),(iI 0),sN,(iI 0),(iI 0),(iI 0)],none,0,[4]⟩,
 ⟨some 5,.mv (.k (.bool false)),none,0,[5]⟩]
def r31_1 : List O := [om 6 1 0,
 oa 7 6 2 0,
 ol 8 7 2,
 olt 9 6 8 7,
 om 10 9 15,
 ⟨some 11,.mv (.t 1),some (10,false),31,[11,10,1]⟩,
 ⟨some 12,.cvt .u64 (.t 11),some (10,false),63,[12,10,11]⟩,
 oaf 13 6 2 10 31,
 olf 14 13 10 159,
 ⟨some 15,.cvt .u64 (.t 14),some (10,false),415,[15,10,14]⟩,
 ⟨some 16,.bin .sub (some .int) false (.t 12) (.t 15),some (10,false),1023,[16,10,12,15]⟩,
 oaf 17 7 2 10 31,
 olf 18 17 10 2079,
 ⟨some 19,.lenL (.t 18),some (10,false),6175,[19,10,18]⟩,
 ⟨some 20,.cvt .u64 (.t 19),some (10,false),14367,[20,10,19]⟩,
 ⟨some 21,.bin .geq (some .int) false (.t 16) (.t 20),some (10,false),32767,[21,10,16,20]⟩,
 ⟨some 22,.pick (.t 10) (.k (.bool true)) (.t 21),none,65535,[22,10,21]⟩]
def r31_2 : List O := [⟨some 23,.build [(iI 0),(iI 0),(iI 0),(iI 0),(iI 0),(iI 0),(iI 0),(iI 0),(.str []),(.str []),(.str []),(iI 0),(iI 0),sN,(iI 0),(iI 0),(iI 0),(iI 0),(iI 0),(iI 0),(iI 0),(iI 0),(iI 0),(iI 0),(iI 0),(iI 0),(iI 0),(iI 0),(iI 0),(iI 0),(iI 0),(iI 0),(iI 0),(iI 0),(iI 0),(iI 0),(iI 0),(iI 0),(iI 0),(iI 0),(iI 0),(iI 0),(iI 0),(iI 0),(iI 0),(iI 0),(iI 0),(iI 0),(iI 0),(iI 0),(iI 0),(iI 0),sN,(iI 0),(iI 0),(iI 0)] [],none,0,[23]⟩,
 ost 56 4 23 1,
 ⟨some 5,.mv (.k (.bool false)),none,3,[5]⟩]
def r31_3 : List O := [oa 24 7 2 0,
 ol 25 24 1,
 om 26 1 0,
 oa 27 6 2 0,
 ol 28 27 8,
 ⟨some 29,.bin .sub (some .int) false (.t 26) (.t 28),none,28,[29,26,28]⟩,
 oi 30 56 25 29 63,
 oN 31 56 30 127,
 ost 56 4 31 255,
 ⟨some 5,.mv (.k (.bool true)),none,511,[5]⟩]
def c31 : C := .seq (.region r31_0) (.seq (.seq (.region r31_1) (.cond (.t 22) (.seq (.region r31_2) (.ret)) (.skip))) (.seq (.region r31_3) (.ret)))
def fn31 : Fn := ⟨32,[.c 4 56 true,.t 5],c31⟩
def r32_0 : List O := [⟨some 1,.box 49 (.t 0),none,0,[1,0]⟩,
 ⟨some 2,.alloc 49 [(iI 0),(iI 0),(iI 0),(iI 0),(iI 0),(iI 0),(iI 0),(iI 0),(.str []),(.str []),(.str []),(iI 0),(iI 0),sN,(iI 0),(iI 0),(iI 0),(iI 0),(iI 0),(iI 0),(iI 0),(iI 0),(iI 0),(iI 0),(iI 0),(iI 0),(iI 0),(iI 0),(iI 0),(iI 0),(iI 0),(iI 0),(iI 0),(iI 0),(iI 0),(iI 0),(iI 0),(iI 0),(iI 0),(iI 0),(iI 0),(iI 0),(iI 0),(iI 0),(iI 0),(iI 0),(iI 0),(iI 0),(iI 0),(iI 0),(iI 0),(iI 0),sN,(iI 0),(iI 0),(iI 0)],none,0,[2]⟩]
def r32_1 : List O := [oa 3 13 1 0,
 ol 4 3 1,
 ⟨some 5,.call (.k (.func 56 [] [])) [(.t 4)],none,3,[5,4]⟩,
 oa 6 13 1 7,
 ost 1 6 5 15]
def r32_2 : List O := [oa 7 49 1 0,
 oa 8 3 7 1,
 ol 9 8 3,
 ⟨some 10,.call (.k (.func 57 [] [])) [(.t 9)],none,7,[10,9]⟩,
 oa 11 49 1 15,
 oa 12 3 11 31,
 ost 1 12 10 63]
def r32_3 : List O := [oN 13 56 1 0,
 ost 56 2 13 1]
def c32 : C := .seq (.region r32_0) (.seq (.region r32_1) (.seq (.region r32_2) (.seq (.region r32_3) (.ret))))
def fn32 : Fn := ⟨14,[.c 2 56 true],c32⟩
def r33_0 : List O := [om 6 0 0,
 oL 7 6 1,
 om 8 1 0,
 oL 9 8 4,
 ⟨some 10,.bin .neq (some .int) false (.t 7) (.t 9),none,15,[10,7,9]⟩]
def r33_1 : List O := [om 11 5 0,
 om 12 0 0,
 oL 13 12 2,
 olt 14 11 13 7]
def r33_2 : List O := [om 17 0 0,
 om 18 5 0,
 oi 19 8 17 18 3,
 oN 20 8 19 7,
 om 21 1 0,
 om 22 5 0,
 oi 23 8 21 22 48,
 oN 24 8 23 112,
 ⟨some 25,.bin .neq (some (.fcons 0 2 true (.fcons 0 1 false .int (.fcons 1 1 false .int .fnil)) (.fcons 2 1 false .int (.fcons 3 1 false .int (.fcons 4 1 false .int (.fcons 5 1 false .str (.fcons 6 1 false .str (.fcons 7 1 false .str .fnil)))))))) false (.t 20) (.t 24),none,255,[25,20,24]⟩]
theorem d33_2 : XD P E ro L r33_2 K ρ h Q = XO P E ro L r33_2 K ρ h Q := XD_still rfl
def r33_3 : List O := [om 15 5 0,
 op1 16 15 1,
 om 5 16 3]
abbrev e33_4 : C := .seq (.seq (.region r33_1) (.cond (.t 14) (.skip) (.exit 0))) (.seq (.block 1 (.seq (.draw r33_2) (.cond (.t 25) (.seq (.region [⟨some 4,.mv (.k (.bool false)),none,0,[4]⟩]) (.ret)) (.skip)))) (.region r33_3))
def b33_4 : C := e33_4
theorem u33_4 : XL P E ro L b33_4 K ρ h Q = X P E ro L (.c e33_4 :: .l b33_4 :: K) ρ h Q := XL_unroll b33_4
def c33 : C := .seq (.region [⟨some 4,.mv (.k (.bool false)),none,0,[4]⟩]) (.seq (.seq (.region r33_0) (.cond (.t 10) (.seq (.region [⟨some 4,.mv (.k (.bool false)),none,0,[4]⟩]) (.ret)) (.skip))) (.seq (.seq (.region [⟨some 5,.mv (.k (iI 0)),none,0,[5]⟩]) (.block 0 (.loop b33_4))) (.seq (.region [⟨some 4,.mv (.k (.bool true)),none,0,[4]⟩]) (.ret))))
def fn33 : Fn := ⟨26,[.t 4],c33⟩
def r34_0 : List O := [⟨some 2,.box 47 (.t 0),none,0,[2,0]⟩,
 ⟨some 3,.box 47 (.t 1),none,0,[3,1]⟩,
 ⟨some 4,.mv (.k (.bool false)),none,0,[4]⟩]
def a34_0 : List O := [oa 5 0 2 0,ol 6 5 1,oa 7 0 3 0,ol 8 7 4,⟨some 9,.bin .eql (some .int) false (.t 6) (.t 8),none,15,[9,6,8]⟩,om 10 9 31]
def a34_1 : List O := [oag 11 1 2 10 63,olg 12 11 10 127,oag 13 1 3 10 63,olg 14 13 10 319,oq 15 12 14 10 1023,oe 16 15 10 2047,om 17 16 4095]
def a34_2 : List O := [oag 18 2 2 17 8191,olg 19 18 17 16383,oag 20 2 3 17 8191,olg 21 20 17 40959,oq 22 19 21 17 131071,oe 23 22 17 262143,om 24 23 524287]
def a34_3 : List O := [oag 25 3 2 24 1048575,olg 26 25 24 2097151,⟨some 27,.b2s (.t 26),some (24,true),4194303,[27,24,26]⟩,oag 28 3 3 24 1048575,olg 29 28 24 9437183,⟨some 30,.b2s (.t 29),some (24,true),26214399,[30,24,29]⟩,⟨some 31,.bin .eql (some .str) false (.t 27) (.t 30),some (24,true),67108863,[31,24,27,30]⟩,oe 32 31 24 134217727,om 4 32 268435455]
def r34_1 : List O := a34_0 ++ (a34_1 ++ (a34_2 ++ (a34_3)))
def c34 : C := .seq (.region r34_0) (.seq (.region r34_1) (.ret))
def fn34 : Fn := ⟨33,[.t 4],c34⟩
def r39_0 : List O := [⟨some 2,.box 49 (.t 0),none,0,[2,0]⟩,
 ⟨some 3,.box 49 (.t 1),none,0,[3,1]⟩,
 ⟨some 4,.mv (.k (.bool false)),none,0,[4]⟩]
def a39_0 : List O := [oa 5 0 2 0,ol 6 5 1,oa 7 0 3 0,ol 8 7 4,⟨some 9,.bin .eql (some .int) false (.t 6) (.t 8),none,15,[9,6,8]⟩,om 10 9 31]
def a39_1 : List O := [oag 11 1 2 10 63,olg 12 11 10 127,oag 13 1 3 10 63,olg 14 13 10 319,oq 15 12 14 10 1023,oe 16 15 10 2047,om 17 16 4095]
def a39_2 : List O := [oag 18 2 2 17 8191,olg 19 18 17 16383,oag 20 2 3 17 8191,olg 21 20 17 40959,oq 22 19 21 17 131071,oe 23 22 17 262143,om 24 23 524287]
def a39_3 : List O := [oag 25 3 2 24 1048575,oNg 26 8 25 24 2097151,oag 27 3 3 24 1048575,oNg 28 8 27 24 5242879,⟨some 29,.bin .eql (some (.fcons 0 2 true (.fcons 0 1 false .int (.fcons 1 1 false .int .fnil)) (.fcons 2 1 false .int (.fcons 3 1 false .int (.fcons 4 1 false .int (.fcons 5 1 false .str (.fcons 6 1 false .str (.fcons 7 1 false .str .fnil)))))))) false (.t 26) (.t 28),some (24,true),16777215,[29,24,26,28]⟩,oe 30 29 24 33554431,om 31 30 67108863]
def a39_4 : List O := [oag 32 11 2 31 134217727,olg 33 32 31 268435455,oag 34 11 3 31 134217727,olg 35 34 31 671088639,oq 36 33 35 31 2147483647,oe 37 36 31 4294967295,om 38 37 8589934591]
def a39_5 : List O := [oag 39 12 2 38 17179869183,olg 40 39 38 34359738367,oag 41 12 3 38 17179869183,olg 42 41 38 85899345919,oq 43 40 42 38 274877906943,oe 44 43 38 549755813887,om 45 44 1099511627775]
def a39_6 : List O := [oag 46 13 2 45 2199023255551,olg 47 46 45 4398046511103,oag 48 13 3 45 2199023255551,olg 49 48 45 10995116277759,⟨some 50,.call (.k (.func 60 [] [])) [(.t 47),(.t 49)],some (45,true),35184372088831,[50,45,47,49]⟩,oe 51 50 45 70368744177663,om 52 51 140737488355327]
def a39_7 : List O := [oag 53 14 2 52 281474976710655,oNg 54 25 53 52 562949953421311,oag 55 14 3 52 281474976710655,oNg 56 25 55 52 1407374883553279,⟨some 57,.bin .eql (some (.fcons 0 1 false .int (.fcons 1 8 true (.ar 8 1 false .int) (.fcons 9 8 true (.ar 8 1 false .int) (.fcons 17 8 true (.ar 8 1 false .int) .fnil))))) false (.t 54) (.t 56),some (52,true),4503599627370495,[57,52,54,56]⟩,oe 58 57 52 9007199254740991,om 59 58 18014398509481983]
def a39_8 : List O := [oag 60 39 2 59 36028797018963967,olg 61 60 59 72057594037927935,oag 62 39 3 59 36028797018963967,olg 63 62 59 180143985094819839,oq 64 61 63 59 576460752303423487,oe 65 64 59 1152921504606846975,om 66 65 2305843009213693951]
def a39_9 : List O := [oag 67 40 2 66 4611686018427387903,oNg 68 8 67 66 9223372036854775807,oag 69 40 3 66 4611686018427387903,oNg 70 8 69 66 23058430092136939519,⟨some 71,.bin .eql (some (.ar 8 1 false .int)) false (.t 68) (.t 70),some (66,true),73786976294838206463,[71,66,68,70]⟩,oe 72 71 66 147573952589676412927,om 73 72 295147905179352825855]
def a39_10 : List O := [oag 74 48 2 73 590295810358705651711,olg 75 74 73 1180591620717411303423,oag 76 48 3 73 590295810358705651711,olg 77 76 73 2951479051793528258559,oq 78 75 77 73 9444732965739290427391,oe 79 78 73 18889465931478580854783,om 80 79 37778931862957161709567]
def a39_11 : List O := [oag 81 49 2 80 75557863725914323419135,oNg 82 4 81 80 151115727451828646838271,oag 83 49 3 80 75557863725914323419135,oNg 84 4 83 80 377789318629571617095679,⟨some 85,.call (.k (.func 61 [] [])) [(.t 82),(.t 84)],some (80,true),1208925819614629174706175,[85,80,82,84]⟩,oe 86 85 80 2417851639229258349412351,om 87 86 4835703278458516698824703]
def a39_12 : List O := [oag 88 53 2 87 9671406556917033397649407,olg 89 88 87 19342813113834066795298815,oag 90 53 3 87 9671406556917033397649407,olg 91 90 87 48357032784585166988247039,oq 92 89 91 87 154742504910672534362390527,oe 93 92 87 309485009821345068724781055,om 94 93 618970019642690137449562111]
def a39_13 : List O := [oag 95 54 2 94 1237940039285380274899124223,olg 96 95 94 2475880078570760549798248447,oag 97 54 3 94 1237940039285380274899124223,olg 98 97 94 6189700196426901374495621119,oq 99 96 98 94 19807040628566084398385987583,oe 100 99 94 39614081257132168796771975167,om 101 100 79228162514264337593543950335]
def a39_14 : List O := [oag 102 55 2 101 158456325028528675187087900671,olg 103 102 101 316912650057057350374175801343,oag 104 55 3 101 158456325028528675187087900671,olg 105 104 101 792281625142643375935439503359,oq 106 103 105 101 2535301200456458802993406410751,oe 107 106 101 5070602400912917605986812821503,om 4 107 10141204801825835211973625643007]
def r39_1 : List O := a39_0 ++ (a39_1 ++ (a39_2 ++ (a39_3 ++ (a39_4 ++ (a39_5 ++ (a39_6 ++ (a39_7 ++ (a39_8 ++ (a39_9 ++ (a39_10 ++ (a39_11 ++ (a39_12 ++ (a39_13 ++ (a39_14))))))))))))))
def c39 : C := .seq (.region r39_0) (.seq (.region r39_1) (.ret))
def fn39 : Fn := ⟨108,[.t 4],c39⟩
def r40_0 : List O := [⟨some 2,.box 63 (.t 0),none,0,[2,0]⟩,
 ⟨some 3,.box 63 (.t 1),none,0,[3,1]⟩,
 ⟨some 4,.mv (.k (.bool false)),none,0,[4]⟩]
def a40_0 : List O := [oa 5 4 2 0,ol 6 5 1,oa 7 4 3 0,ol 8 7 4,⟨some 9,.bin .eql (some .bool) false (.t 6) (.t 8),none,15,[9,6,8]⟩,om 10 9 31]
def a40_1 : List O := [oag 11 8 2 10 63,olg 12 11 10 127,oag 13 8 3 10 63,olg 14 13 10 319,oq 15 12 14 10 1023,oe 16 15 10 2047,om 17 16 4095]
def a40_2 : List O := [oag 18 9 2 17 8191,olg 19 18 17 16383,oag 20 9 3 17 8191,olg 21 20 17 40959,oq 22 19 21 17 131071,oe 23 22 17 262143,om 24 23 524287]
def a40_3 : List O := [oag 25 10 2 24 1048575,olg 26 25 24 2097151,oag 27 10 3 24 1048575,olg 28 27 24 5242879,oq 29 26 28 24 16777215,oe 30 29 24 33554431,om 31 30 67108863]
def a40_4 : List O := [oag 32 11 2 31 134217727,oNg 33 8 32 31 268435455,oag 34 11 3 31 134217727,oNg 35 8 34 31 671088639,⟨some 36,.bin .eql (some (.ar 8 1 false .int)) false (.t 33) (.t 35),some (31,true),2147483647,[36,31,33,35]⟩,oe 37 36 31 4294967295,om 38 37 8589934591]
def a40_5 : List O := [oag 39 19 2 38 17179869183,olg 40 39 38 34359738367,oag 41 19 3 38 17179869183,olg 42 41 38 85899345919,⟨some 43,.call (.k (.func 62 [] [])) [(.t 40),(.t 42)],some (38,true),274877906943,[43,38,40,42]⟩,oe 44 43 38 549755813887,om 45 44 1099511627775]
def a40_6 : List O := [oag 46 20 2 45 2199023255551,olg 47 46 45 4398046511103,oag 48 20 3 45 2199023255551,olg 49 48 45 10995116277759,⟨some 50,.call (.k (.func 63 [] [])) [(.t 47),(.t 49)],some (45,true),35184372088831,[50,45,47,49]⟩,oe 51 50 45 70368744177663,om 4 51 140737488355327]
def r40_1 : List O := a40_0 ++ (a40_1 ++ (a40_2 ++ (a40_3 ++ (a40_4 ++ (a40_5 ++ (a40_6))))))
def c40 : C := .seq (.region r40_0) (.seq (.region r40_1) (.ret))
def fn40 : Fn := ⟨52,[.t 4],c40⟩
def r42_0 : List O := [om 6 0 0,
 oL 7 6 1,
 om 8 1 0,
 oL 9 8 4,
 ⟨some 10,.bin .neq (some .int) false (.t 7) (.t 9),none,15,[10,7,9]⟩]
def r42_1 : List O := [om 11 5 0,
 om 12 0 0,
 oL 13 12 2,
 olt 14 11 13 7]
def r42_2 : List O := [om 17 0 0,
 om 18 5 0,
 oi 19 6 17 18 3,
 oN 20 6 19 7,
 om 21 1 0,
 om 22 5 0,
 oi 23 6 21 22 48,
 oN 24 6 23 112,
 ⟨some 25,.bin .neq (some (.fcons 0 1 false .int (.fcons 1 1 false .int (.fcons 2 4 true (.fcons 0 1 false .int (.fcons 1 2 true (.fcons 0 1 false .int (.fcons 1 1 false .int .fnil)) (.fcons 3 1 false .int .fnil))) .fnil)))) false (.t 20) (.t 24),none,255,[25,20,24]⟩]
theorem d42_2 : XD P E ro L r42_2 K ρ h Q = XO P E ro L r42_2 K ρ h Q := XD_still rfl
def r42_3 : List O := [om 15 5 0,
 op1 16 15 1,
 om 5 16 3]
abbrev e42_4 : C := .seq (.seq (.region r42_1) (.cond (.t 14) (.skip) (.exit 0))) (.seq (.block 1 (.seq (.draw r42_2) (.cond (.t 25) (.seq (.region [⟨some 4,.mv (.k (.bool false)),none,0,[4]⟩]) (.ret)) (.skip)))) (.region r42_3))
def b42_4 : C := e42_4
theorem u42_4 : XL P E ro L b42_4 K ρ h Q = X P E ro L (.c e42_4 :: .l b42_4 :: K) ρ h Q := XL_unroll b42_4
def c42 : C := .seq (.region [⟨some 4,.mv (.k (.bool false)),none,0,[4]⟩]) (.seq (.seq (.region r42_0) (.cond (.t 10) (.seq (.region [⟨some 4,.mv (.k (.bool false)),none,0,[4]⟩]) (.ret)) (.skip))) (.seq (.seq (.region [⟨some 5,.mv (.k (iI 0)),none,0,[5]⟩]) (.block 0 (.loop b42_4))) (.seq (.region [⟨some 4,.mv (.k (.bool true)),none,0,[4]⟩]) (.ret))))
def fn42 : Fn := ⟨26,[.t 4],c42⟩
def r43_0 : List O := [⟨some 2,.box 67 (.t 0),none,0,[2,0]⟩,
 ⟨some 3,.box 67 (.t 1),none,0,[3,1]⟩,
 ⟨some 4,.mv (.k (.bool false)),none,0,[4]⟩]
def r43_1 : List O := [oa 6 0 2 0,
 ol 7 6 1,
 oa 8 0 3 0,
 ol 9 8 4,
 ⟨some 10,.bin .neq (some .int) false (.t 7) (.t 9),none,15,[10,7,9]⟩,
 om 11 10 31,
 oaf 12 1 2 11 63,
 olf 13 12 11 127,
 oaf 14 1 3 11 63,
 olf 15 14 11 319,
 ⟨some 16,.bin .neq (some .int) false (.t 13) (.t 15),some (11,false),1023,[16,11,13,15]⟩,
 ⟨some 17,.pick (.t 11) (.k (.bool true)) (.t 16),none,2047,[17,11,16]⟩,
 om 18 17 4095,
 oaf 19 2 2 18 8191,
 olf 20 19 18 16383,
 oaf 21 2 3 18 8191,
 olf 22 21 18 40959,
 ⟨some 23,.bin .neq (some .str) false (.t 20) (.t 22),some (18,false),131071,[23,18,20,22]⟩,
 ⟨some 24,.pick (.t 18) (.k (.bool true)) (.t 23),none,262143,[24,18,23]⟩,
 om 25 24 524287,
 oaf 26 3 2 25 1048575,
 olf 27 26 25 2097151,
 ⟨some 28,.lenL (.t 27),some (25,false),4194303,[28,25,27]⟩,
 oaf 29 3 3 25 1048575,
 olf 30 29 25 9437183,
 ⟨some 31,.lenL (.t 30),some (25,false),26214399,[31,25,30]⟩,
 ⟨some 32,.bin .neq (some .int) false (.t 28) (.t 31),some (25,false),67108863,[32,25,28,31]⟩,
 ⟨some 33,.pick (.t 25) (.k (.bool true)) (.t 32),none,134217727,[33,25,32]⟩]
def r43_2 : List O := [om 34 5 0,
 oa 35 3 2 0,
 ol 36 35 2,
 oL 37 36 6,
 olt 38 34 37 15]
def r43_3 : List O := [oa 41 3 2 0,
 ol 42 41 1,
 om 43 5 0,
 oi 44 2 42 43 7,
 oN 45 2 44 15,
 oa 46 3 3 0,
 ol 47 46 32,
 om 48 5 0,
 oi 49 2 47 48 224,
 oN 50 2 49 480,
 ⟨some 51,.bin .neq (some (.fcons 0 1 false .str (.fcons 1 1 false .str .fnil))) false (.t 45) (.t 50),none,1023,[51,45,50]⟩]
theorem d43_3 : XD P E ro L r43_3 K ρ h Q = XO P E ro L r43_3 K ρ h Q := XD_still rfl
def r43_4 : List O := [om 39 5 0,
 op1 40 39 1,
 om 5 40 3]
abbrev e43_5 : C := .seq (.seq (.region r43_2) (.cond (.t 38) (.skip) (.exit 0))) (.seq (.block 1 (.seq (.draw r43_3) (.cond (.t 51) (.seq (.region [⟨some 4,.mv (.k (.bool false)),none,0,[4]⟩]) (.ret)) (.skip)))) (.region r43_4))
def b43_5 : C := e43_5
theorem u43_5 : XL P E ro L b43_5 K ρ h Q = X P E ro L (.c e43_5 :: .l b43_5 :: K) ρ h Q := XL_unroll b43_5
def c43 : C := .seq (.region r43_0) (.seq (.seq (.region r43_1) (.cond (.t 33) (.seq (.region [⟨some 4,.mv (.k (.bool false)),none,0,[4]⟩]) (.ret)) (.skip))) (.seq (.seq (.region [⟨some 5,.mv (.k (iI 0)),none,0,[5]⟩]) (.block 0 (.loop b43_5))) (.seq (.region [⟨some 4,.mv (.k (.bool true)),none,0,[4]⟩]) (.ret))))
def fn43 : Fn := ⟨52,[.t 4],c43⟩
def r56_0 : List O := [om 3 0 0,
 ⟨some 4,.bin .eql (some .sl) true (.t 3) (.k sN),none,1,[4,3]⟩]
def r56_1 : List O := [⟨some 5,.bslice 38 0 [] [],none,0,[5]⟩,
 om 6 0 0,
 ⟨some 7,.app 38 8 88 (.t 5) (.t 6),none,3,[7,5,6]⟩,
 om 2 7 7]
def c56 : C := .seq (.region [⟨some 2,.mv (.k sN),none,0,[2]⟩]) (.seq (.seq (.region r56_0) (.cond (.t 4) (.seq (.region [⟨some 2,.mv (.k sN),none,0,[2]⟩]) (.ret)) (.skip))) (.seq (.region r56_1) (.ret)))
def fn56 : Fn := ⟨8,[.t 2],c56⟩
def r57_0 : List O := [om 3 0 0,
 ⟨some 4,.bin .eql (some .sl) true (.t 3) (.k sN),none,1,[4,3]⟩]
def r57_1 : List O := [⟨some 5,.bslice 5 0 [] [],none,0,[5]⟩,
 om 6 0 0,
 ⟨some 7,.app 5 1 1 (.t 5) (.t 6),none,3,[7,5,6]⟩,
 om 2 7 7]
def c57 : C := .seq (.region [⟨some 2,.mv (.k sN),none,0,[2]⟩]) (.seq (.seq (.region r57_0) (.cond (.t 4) (.seq (.region [⟨some 2,.mv (.k sN),none,0,[2]⟩]) (.ret)) (.skip))) (.seq (.region r57_1) (.ret)))
def fn57 : Fn := ⟨8,[.t 2],c57⟩
def r60_0 : List O := [om 6 0 0,
 oL 7 6 1,
 om 8 1 0,
 oL 9 8 4,
 ⟨some 10,.bin .neq (some .int) false (.t 7) (.t 9),none,15,[10,7,9]⟩]
def r60_1 : List O := [om 11 0 0,
 oL 12 11 1,
 ⟨some 13,.mv (.k (iI 0)),none,0,[13]⟩]
def r60_2 : List O := [om 15 13 0,
 om 5 15 1]
def r60_3 : List O := [om 16 0 0,
 om 17 5 0,
 oi 18 8 16 17 3,
 oN 19 8 18 7,
 om 20 1 0,
 om 21 5 0,
 oi 22 8 20 21 48,
 oN 23 8 22 112,
 ⟨some 24,.bin .neq (some (.fcons 0 2 true (.fcons 0 1 false .int (.fcons 1 1 false .int .fnil)) (.fcons 2 1 false .int (.fcons 3 1 false .int (.fcons 4 1 false .int (.fcons 5 1 false .str (.fcons 6 1 false .str (.fcons 7 1 false .str .fnil)))))))) false (.t 19) (.t 23),none,255,[24,19,23]⟩]
theorem d60_3 : XD P E ro L r60_3 K ρ h Q = XO P E ro L r60_3 K ρ h Q := XD_still rfl
def r60_4 : List O := [op1 25 13 0,
 om 13 25 1]
abbrev e60_5 : C := .seq (.region [olt 14 13 12 0]) (.seq (.cond (.t 14) (.skip) (.exit 0)) (.seq (.block 1 (.seq (.region r60_2) (.seq (.draw r60_3) (.cond (.t 24) (.seq (.region [⟨some 4,.mv (.k (.bool false)),none,0,[4]⟩]) (.ret)) (.skip))))) (.region r60_4)))
def b60_5 : C := e60_5
theorem u60_5 : XL P E ro L b60_5 K ρ h Q = X P E ro L (.c e60_5 :: .l b60_5 :: K) ρ h Q := XL_unroll b60_5
def c60 : C := .seq (.region [⟨some 4,.mv (.k (.bool false)),none,0,[4]⟩]) (.seq (.seq (.region r60_0) (.cond (.t 10) (.seq (.region [⟨some 4,.mv (.k (.bool false)),none,0,[4]⟩]) (.ret)) (.skip))) (.seq (.seq (.region r60_1) (.block 0 (.loop b60_5))) (.seq (.region [⟨some 4,.mv (.k (.bool true)),none,0,[4]⟩]) (.ret))))
def fn60 : Fn := ⟨26,[.t 4],c60⟩
def r61_0 : List O := [⟨some 2,.box 47 (.t 0),none,0,[2,0]⟩,
 ⟨some 3,.box 47 (.t 1),none,0,[3,1]⟩,
 ⟨some 4,.mv (.k (.bool false)),none,0,[4]⟩]
def a61_0 : List O := [oa 5 0 2 0,ol 6 5 1,oa 7 0 3 0,ol 8 7 4,⟨some 9,.bin .eql (some .int) false (.t 6) (.t 8),none,15,[9,6,8]⟩,om 10 9 31]
def a61_1 : List O := [oag 11 1 2 10 63,olg 12 11 10 127,oag 13 1 3 10 63,olg 14 13 10 319,oq 15 12 14 10 1023,oe 16 15 10 2047,om 17 16 4095]
def a61_2 : List O := [oag 18 2 2 17 8191,olg 19 18 17 16383,oag 20 2 3 17 8191,olg 21 20 17 40959,oq 22 19 21 17 131071,oe 23 22 17 262143,om 24 23 524287]
def a61_3 : List O := [oag 25 3 2 24 1048575,olg 26 25 24 2097151,⟨some 27,.b2s (.t 26),some (24,true),4194303,[27,24,26]⟩,oag 28 3 3 24 1048575,olg 29 28 24 9437183,⟨some 30,.b2s (.t 29),some (24,true),26214399,[30,24,29]⟩,⟨some 31,.bin .eql (some .str) false (.t 27) (.t 30),some (24,true),67108863,[31,24,27,30]⟩,oe 32 31 24 134217727,om 4 32 268435455]
def r61_1 : List O := a61_0 ++ (a61_1 ++ (a61_2 ++ (a61_3)))
def c61 : C := .seq (.region r61_0) (.seq (.region r61_1) (.ret))
def fn61 : Fn := ⟨33,[.t 4],c61⟩
def r62_0 : List O := [om 5 0 0,
 om 6 1 0,
 ⟨some 7,.call (.k (.func 68 [] [])) [(.t 5),(.t 6),(.k (.func 69 [] []))],none,3,[7,5,6]⟩,
 om 4 7 7]
def c62 : C := .seq (.region [⟨some 4,.mv (.k (.bool false)),none,0,[4]⟩]) (.seq (.region r62_0) (.ret))
def fn62 : Fn := ⟨8,[.t 4],c62⟩
def r63_0 : List O := [om 6 0 0,
 oL 7 6 1,
 om 8 1 0,
 oL 9 8 4,
 ⟨some 10,.bin .neq (some .int) false (.t 7) (.t 9),none,15,[10,7,9]⟩]
def r63_1 : List O := [om 11 0 0,
 oL 12 11 1,
 ⟨some 13,.mv (.k (iI 0)),none,0,[13]⟩]
def r63_2 : List O := [om 15 13 0,
 om 5 15 1]
def r63_3 : List O := [om 16 0 0,
 om 17 5 0,
 oi 18 6 16 17 3,
 oN 19 6 18 7,
 om 20 1 0,
 om 21 5 0,
 oi 22 6 20 21 48,
 oN 23 6 22 112,
 ⟨some 24,.bin .neq (some (.fcons 0 1 false .int (.fcons 1 1 false .int (.fcons 2 4 true (.fcons 0 1 false .int (.fcons 1 2 true (.fcons 0 1 false .int (.fcons 1 1 false .int .fnil)) (.fcons 3 1 false .int .fnil))) .fnil)))) false (.t 19) (.t 23),none,255,[24,19,23]⟩]
theorem d63_3 : XD P E ro L r63_3 K ρ h Q = XO P E ro L r63_3 K ρ h Q := XD_still rfl
def r63_4 : List O := [op1 25 13 0,
 om 13 25 1]
abbrev e63_5 : C := .seq (.region [olt 14 13 12 0]) (.seq (.cond (.t 14) (.skip) (.exit 0)) (.seq (.block 1 (.seq (.region r63_2) (.seq (.draw r63_3) (.cond (.t 24) (.seq (.region [⟨some 4,.mv (.k (.bool false)),none,0,[4]⟩]) (.ret)) (.skip))))) (.region r63_4)))
def b63_5 : C := e63_5
theorem u63_5 : XL P E ro L b63_5 K ρ h Q = X P E ro L (.c e63_5 :: .l b63_5 :: K) ρ h Q := XL_unroll b63_5
def c63 : C := .seq (.region [⟨some 4,.mv (.k (.bool false)),none,0,[4]⟩]) (.seq (.seq (.region r63_0) (.cond (.t 10) (.seq (.region [⟨some 4,.mv (.k (.bool false)),none,0,[4]⟩]) (.ret)) (.skip))) (.seq (.seq (.region r63_1) (.block 0 (.loop b63_5))) (.seq (.region [⟨some 4,.mv (.k (.bool true)),none,0,[4]⟩]) (.ret))))
def fn63 : Fn := ⟨26,[.t 4],c63⟩
def r68_0 : List O := [om 10 0 0,
 oL 11 10 1,
 om 12 1 0,
 oL 13 12 4,
 ⟨some 14,.bin .neq (some .int) false (.t 11) (.t 13),none,15,[14,11,13]⟩]
def r68_1 : List O := [om 15 0 0,
 oL 16 15 1,
 ⟨some 17,.mv (.k (iI 0)),none,0,[17]⟩]
def r68_2 : List O := [om 19 17 0,
 oi 20 4 15 17 0,
 oN 21 4 20 2,
 ⟨some 8,.alloc 67 [(iI 0),(iI 0),(.str []),sN],none,0,[8]⟩,
 om 7 19 15,
 ost 4 8 21 31]
def r68_3 : List O := [om 22 1 0,
 om 23 7 0,
 oi 24 4 22 23 3,
 oN 25 4 24 7,
 ⟨some 9,.alloc 67 [(iI 0),(iI 0),(.str []),sN],none,0,[9]⟩,
 ost 4 9 25 31]
def r68_4 : List O := [om 26 2 0,
 oN 27 4 8 0,
 oN 28 4 9 0,
 ⟨some 29,.call (.t 26) [(.t 27),(.t 28)],none,7,[29,26,27,28]⟩,
 ono 30 29 15]
def r68_5 : List O := [op1 31 17 0,
 om 17 31 1]
abbrev e68_6 : C := .seq (.region [olt 18 17 16 0]) (.seq (.cond (.t 18) (.skip) (.exit 0)) (.seq (.block 1 (.seq (.region r68_2) (.seq (.region r68_3) (.seq (.region r68_4) (.cond (.t 30) (.seq (.region [⟨some 6,.mv (.k (.bool false)),none,0,[6]⟩]) (.ret)) (.skip)))))) (.region r68_5)))
def b68_6 : C := e68_6
theorem u68_6 : XL P E ro L b68_6 K ρ h Q = X P E ro L (.c e68_6 :: .l b68_6 :: K) ρ h Q := XL_unroll b68_6
def c68 : C := .seq (.region [⟨some 6,.mv (.k (.bool false)),none,0,[6]⟩]) (.seq (.seq (.region r68_0) (.cond (.t 14) (.seq (.region [⟨some 6,.mv (.k (.bool false)),none,0,[6]⟩]) (.ret)) (.skip))) (.seq (.seq (.region r68_1) (.block 0 (.loop b68_6))) (.seq (.region [⟨some 6,.mv (.k (.bool true)),none,0,[6]⟩]) (.ret))))
def fn68 : Fn := ⟨32,[.t 6],c68⟩
def r69_0 : List O := [⟨some 2,.box 67 (.t 0),none,0,[2,0]⟩,
 ⟨some 3,.box 67 (.t 1),none,0,[3,1]⟩,
 ⟨some 4,.mv (.k (.bool false)),none,0,[4]⟩]
def a69_0 : List O := [oa 5 0 2 0,ol 6 5 1,oa 7 0 3 0,ol 8 7 4,⟨some 9,.bin .eql (some .int) false (.t 6) (.t 8),none,15,[9,6,8]⟩,om 10 9 31]
def a69_1 : List O := [oag 11 1 2 10 63,olg 12 11 10 127,oag 13 1 3 10 63,olg 14 13 10 319,oq 15 12 14 10 1023,oe 16 15 10 2047,om 17 16 4095]
def a69_2 : List O := [oag 18 2 2 17 8191,olg 19 18 17 16383,oag 20 2 3 17 8191,olg 21 20 17 40959,⟨some 22,.bin .eql (some .str) false (.t 19) (.t 21),some (17,true),131071,[22,17,19,21]⟩,oe 23 22 17 262143,om 24 23 524287]
def a69_3 : List O := [oag 25 3 2 24 1048575,olg 26 25 24 2097151,oag 27 3 3 24 1048575,olg 28 27 24 5242879,⟨some 29,.call (.k (.func 70 [] [])) [(.t 26),(.t 28)],some (24,true),16777215,[29,24,26,28]⟩,oe 30 29 24 33554431,om 4 30 67108863]
def r69_1 : List O := a69_0 ++ (a69_1 ++ (a69_2 ++ (a69_3)))
def c69 : C := .seq (.region r69_0) (.seq (.region r69_1) (.ret))
def fn69 : Fn := ⟨31,[.t 4],c69⟩
def r70_0 : List O := [om 6 0 0,
 oL 7 6 1,
 om 8 1 0,
 oL 9 8 4,
 ⟨some 10,.bin .neq (some .int) false (.t 7) (.t 9),none,15,[10,7,9]⟩]
def r70_1 : List O := [om 11 0 0,
 oL 12 11 1,
 ⟨some 13,.mv (.k (iI 0)),none,0,[13]⟩]
def r70_2 : List O := [om 15 13 0,
 om 5 15 1]
def r70_3 : List O := [om 16 0 0,
 om 17 5 0,
 oi 18 2 16 17 3,
 oN 19 2 18 7,
 om 20 1 0,
 om 21 5 0,
 oi 22 2 20 21 48,
 oN 23 2 22 112,
 ⟨some 24,.bin .neq (some (.fcons 0 1 false .str (.fcons 1 1 false .str .fnil))) false (.t 19) (.t 23),none,255,[24,19,23]⟩]
theorem d70_3 : XD P E ro L r70_3 K ρ h Q = XO P E ro L r70_3 K ρ h Q := XD_still rfl
def r70_4 : List O := [op1 25 13 0,
 om 13 25 1]
abbrev e70_5 : C := .seq (.region [olt 14 13 12 0]) (.seq (.cond (.t 14) (.skip) (.exit 0)) (.seq (.block 1 (.seq (.region r70_2) (.seq (.draw r70_3) (.cond (.t 24) (.seq (.region [⟨some 4,.mv (.k (.bool false)),none,0,[4]⟩]) (.ret)) (.skip))))) (.region r70_4)))
def b70_5 : C := e70_5
theorem u70_5 : XL P E ro L b70_5 K ρ h Q = X P E ro L (.c e70_5 :: .l b70_5 :: K) ρ h Q := XL_unroll b70_5
def c70 : C := .seq (.region [⟨some 4,.mv (.k (.bool false)),none,0,[4]⟩]) (.seq (.seq (.region r70_0) (.cond (.t 10) (.seq (.region [⟨some 4,.mv (.k (.bool false)),none,0,[4]⟩]) (.ret)) (.skip))) (.seq (.seq (.region r70_1) (.block 0 (.loop b70_5))) (.seq (.region [⟨some 4,.mv (.k (.bool true)),none,0,[4]⟩]) (.ret))))
def fn70 : Fn := ⟨26,[.t 4],c70⟩
end Go.AM.Sc
namespace Go.AM.Sc
open Go.AM
variable {P : Program} {E : Env}
structure Fa (E : Env) : Prop where
 f9 : E.fns 9 = some fn9
 p9 : E.prim 9 = none
 f10 : E.fns 10 = some fn10
 p10 : E.prim 10 = none
 f11 : E.fns 11 = some fn11
 p11 : E.prim 11 = none
 f21 : E.fns 21 = some fn21
 p21 : E.prim 21 = none
 f22 : E.fns 22 = some fn22
 p22 : E.prim 22 = none
 f27 : E.fns 27 = some fn27
 p27 : E.prim 27 = none
 f28 : E.fns 28 = some fn28
 p28 : E.prim 28 = none
 f29 : E.fns 29 = some fn29
 p29 : E.prim 29 = none
 f30 : E.fns 30 = some fn30
 p30 : E.prim 30 = none
 f31 : E.fns 31 = some fn31
 p31 : E.prim 31 = none
 f32 : E.fns 32 = some fn32
 p32 : E.prim 32 = none
 f33 : E.fns 33 = some fn33
 p33 : E.prim 33 = none
 f34 : E.fns 34 = some fn34
 p34 : E.prim 34 = none
 f39 : E.fns 39 = some fn39
 p39 : E.prim 39 = none
 f40 : E.fns 40 = some fn40
 p40 : E.prim 40 = none
 f42 : E.fns 42 = some fn42
 p42 : E.prim 42 = none
 f43 : E.fns 43 = some fn43
 p43 : E.prim 43 = none
 f56 : E.fns 56 = some fn56
 p56 : E.prim 56 = none
 f57 : E.fns 57 = some fn57
 p57 : E.prim 57 = none
 f60 : E.fns 60 = some fn60
 p60 : E.prim 60 = none
 f61 : E.fns 61 = some fn61
 p61 : E.prim 61 = none
 f62 : E.fns 62 = some fn62
 p62 : E.prim 62 = none
 f63 : E.fns 63 = some fn63
 p63 : E.prim 63 = none
 f68 : E.fns 68 = some fn68
 p68 : E.prim 68 = none
 f69 : E.fns 69 = some fn69
 p69 : E.prim 69 = none
 f70 : E.fns 70 = some fn70
 p70 : E.prim 70 = none
theorem take_succ {α : Type} {xs ys : List α} {k : Nat} (hx : k < xs.length) (hy : k < ys.length) (h : xs.take k = ys.take k) (he : xs[k] = ys[k]) : xs.take (k + 1) = ys.take (k + 1) := by
 rw [List.take_succ_eq_append_getElem hx,List.take_succ_eq_append_getElem hy,h,he]
theorem eqlens {m n : Nat} : ((m : Int) != (n : Int)) = !decide (m = n) := by
 by_cases h : m = n
 ·simp [h]
 ·have : (m : Int) ≠ n := by omega
  simp [h,this]
theorem eq60 (F : Fa E) {v w : V} {xs ys : List Opr} {h : H} (hx : Sl h 8 v (xs.map Opr.cells)) (hy : Sl h 8 w (ys.map Opr.cells)) (hl : xs.length ≤ 1048576) : Sp P E (.func 60 [] []) [v,w] h fun r h' => r = .bool (decide (xs = ys)) ∧ h' = h := by
 obtain ⟨a1,c1,o1,e1⟩ := hx.len
 obtain ⟨a2,c2,o2,e2⟩ := hy.len
 rw [List.length_map] at e1 e2
 refine Sp_fn F.f60 F.p60 (by simp [fn60]) ?_
 by_cases hlen : xs.length = ys.length
 ·have loop : ∀ (d k : Nat) (ρ : Nat → V),xs.length - k = d → k ≤ xs.length → ρ 0 = v → ρ 1 = w → ρ 12 = iI xs.length → ρ 13 = iI k → xs.take k = ys.take k →
    XL P E none 26 b60_5 [.b 0,.c (.seq (.region [⟨some 4,.mv (.k (.bool true)),none,0,[4]⟩]) (.ret))] ρ h (Fin [.t 4] fun r h' => r = .bool (decide (xs = ys)) ∧ h' = h) := by
   intro d
   induction d with
   | zero =>
    intro k ρ hd hk q0 q1 q12 q13 ht
    have hke : ¬ k < xs.length := by omega
    rw [List.take_of_length_le (by omega),List.take_of_length_le (by omega)] at ht
    rw [u60_5]
    simp only [GR,evK,binV,intOp,strOp,unV,Nat.reduceLT,Nat.reduceEqDiff,↓reduceIte,q12,q13,Int.ofNat_lt,hke]
    simp [ht]
   | succ d ih =>
    intro k ρ hd hk q0 q1 q12 q13 ht
    have hke : k < xs.length := by omega
    have hky : k < ys.length := by omega
    obtain ⟨b,o,cap,opn,vs,ty,op,ro,fz,v1,hg,hll,he⟩ := hx.get (k := k) (x := xs[k].cells) (by simp [hke])
    obtain ⟨b',o',cap',opn',vs',ty',op',ro',fz',w1,hg',hll',he'⟩ := hy.get (k := k) (x := ys[k].cells) (by simp [hky])
    rw [v1,List.length_map] at q0
    rw [w1,List.length_map] at q1
    unfold getR at he he'
    have hw : IntKind.i64.wrap ((k : Int) + 1) = ((k + 1 : Nat) : Int) := wrap_nat (n := k + 1) (by omega)
    have heq := Opr.eqv h xs[k] ys[k]
    by_cases hek : xs[k] = ys[k]
    ·rw [decide_eq_true hek] at heq
     rw [u60_5]
     simp only [GR,evK,binV,intOp,strOp,unV,Nat.reduceLT,Nat.reduceEqDiff,↓reduceIte,q12,q13,Int.ofNat_lt,hke,r60_2]
     rw [X_draw,d60_3]
     simp only [GR,evK,binV,intOp,strOp,unV,Nat.reduceLT,Nat.reduceEqDiff,↓reduceIte,q0,q1,Int.ofNat_lt,hke,hky,r60_3,r60_4,q12,q13,hg,hg',hll,hll',he,he',Int.natCast_nonneg,Int.toNat_natCast,heq,Bool.not_true,hw]
     refine ih (k + 1) _ (by omega) (by omega) ?_ ?_ q12 rfl (take_succ hke hky ht hek)
     ·rw [v1,List.length_map]; exact q0
     ·rw [w1,List.length_map]; exact q1
    ·rw [decide_eq_false hek] at heq
     have hne : xs ≠ ys := fun e => by subst e; exact hek rfl
     rw [u60_5]
     simp only [GR,evK,binV,intOp,strOp,unV,Nat.reduceLT,Nat.reduceEqDiff,↓reduceIte,q12,q13,Int.ofNat_lt,hke,r60_2]
     rw [X_draw,d60_3]
     simp only [GR,evK,binV,intOp,strOp,unV,Nat.reduceLT,Nat.reduceEqDiff,↓reduceIte,q0,q1,Int.ofNat_lt,hke,hky,r60_3,hg,hg',hll,hll',he,he',Int.natCast_nonneg,Int.toNat_natCast,heq,Bool.not_false]
     simp [hne]
  have hd : decide (xs.length = ys.length) = true := decide_eq_true hlen
  simp only [GR,evK,binV,intOp,strOp,unV,Nat.reduceLT,Nat.reduceEqDiff,↓reduceIte,fn60,c60,r60_0,r60_1,e1,e2,eqlens,hd,Bool.not_true]
  exact loop _ 0 _ rfl (Nat.zero_le _) e1.symm e2.symm rfl rfl rfl
 ·have hne : xs ≠ ys := fun e => hlen (by rw [e])
  have hd : decide (xs.length = ys.length) = false := decide_eq_false hlen
  simp only [GR,evK,binV,intOp,strOp,unV,Nat.reduceLT,Nat.reduceEqDiff,↓reduceIte,fn60,c60,r60_0,e1,e2,eqlens,hd,Bool.not_false]
  simp [hne]
theorem eq63 (F : Fa E) {v w : V} {xs ys : List Row} {h : H} (hx : Sl h 6 v (xs.map Row.cells)) (hy : Sl h 6 w (ys.map Row.cells)) (hl : xs.length ≤ 1048576) : Sp P E (.func 63 [] []) [v,w] h fun r h' => r = .bool (decide (xs = ys)) ∧ h' = h := by
 obtain ⟨a1,c1,o1,e1⟩ := hx.len
 obtain ⟨a2,c2,o2,e2⟩ := hy.len
 rw [List.length_map] at e1 e2
 refine Sp_fn F.f63 F.p63 (by simp [fn63]) ?_
 by_cases hlen : xs.length = ys.length
 ·have loop : ∀ (d k : Nat) (ρ : Nat → V),xs.length - k = d → k ≤ xs.length → ρ 0 = v → ρ 1 = w → ρ 12 = iI xs.length → ρ 13 = iI k → xs.take k = ys.take k →
    XL P E none 26 b63_5 [.b 0,.c (.seq (.region [⟨some 4,.mv (.k (.bool true)),none,0,[4]⟩]) (.ret))] ρ h (Fin [.t 4] fun r h' => r = .bool (decide (xs = ys)) ∧ h' = h) := by
   intro d
   induction d with
   | zero =>
    intro k ρ hd hk q0 q1 q12 q13 ht
    have hke : ¬ k < xs.length := by omega
    rw [List.take_of_length_le (by omega),List.take_of_length_le (by omega)] at ht
    rw [u63_5]
    simp only [GR,evK,binV,intOp,strOp,unV,Nat.reduceLT,Nat.reduceEqDiff,↓reduceIte,q12,q13,Int.ofNat_lt,hke]
    simp [ht]
   | succ d ih =>
    intro k ρ hd hk q0 q1 q12 q13 ht
    have hke : k < xs.length := by omega
    have hky : k < ys.length := by omega
    obtain ⟨b,o,cap,opn,vs,ty,op,ro,fz,v1,hg,hll,he⟩ := hx.get (k := k) (x := xs[k].cells) (by simp [hke])
    obtain ⟨b',o',cap',opn',vs',ty',op',ro',fz',w1,hg',hll',he'⟩ := hy.get (k := k) (x := ys[k].cells) (by simp [hky])
    rw [v1,List.length_map] at q0
    rw [w1,List.length_map] at q1
    unfold getR at he he'
    have hw : IntKind.i64.wrap ((k : Int) + 1) = ((k + 1 : Nat) : Int) := wrap_nat (n := k + 1) (by omega)
    have heq := Row.eqv h xs[k] ys[k]
    by_cases hek : xs[k] = ys[k]
    ·rw [decide_eq_true hek] at heq
     rw [u63_5]
     simp only [GR,evK,binV,intOp,strOp,unV,Nat.reduceLT,Nat.reduceEqDiff,↓reduceIte,q12,q13,Int.ofNat_lt,hke,r63_2]
     rw [X_draw,d63_3]
     simp only [GR,evK,binV,intOp,strOp,unV,Nat.reduceLT,Nat.reduceEqDiff,↓reduceIte,q0,q1,Int.ofNat_lt,hke,hky,r63_3,r63_4,q12,q13,hg,hg',hll,hll',he,he',Int.natCast_nonneg,Int.toNat_natCast,heq,Bool.not_true,hw]
     refine ih (k + 1) _ (by omega) (by omega) ?_ ?_ q12 rfl (take_succ hke hky ht hek)
     ·rw [v1,List.length_map]; exact q0
     ·rw [w1,List.length_map]; exact q1
    ·rw [decide_eq_false hek] at heq
     have hne : xs ≠ ys := fun e => by subst e; exact hek rfl
     rw [u63_5]
     simp only [GR,evK,binV,intOp,strOp,unV,Nat.reduceLT,Nat.reduceEqDiff,↓reduceIte,q12,q13,Int.ofNat_lt,hke,r63_2]
     rw [X_draw,d63_3]
     simp only [GR,evK,binV,intOp,strOp,unV,Nat.reduceLT,Nat.reduceEqDiff,↓reduceIte,q0,q1,Int.ofNat_lt,hke,hky,r63_3,hg,hg',hll,hll',he,he',Int.natCast_nonneg,Int.toNat_natCast,heq,Bool.not_false]
     simp [hne]
  have hd : decide (xs.length = ys.length) = true := decide_eq_true hlen
  simp only [GR,evK,binV,intOp,strOp,unV,Nat.reduceLT,Nat.reduceEqDiff,↓reduceIte,fn63,c63,r63_0,r63_1,e1,e2,eqlens,hd,Bool.not_true]
  exact loop _ 0 _ rfl (Nat.zero_le _) e1.symm e2.symm rfl rfl rfl
 ·have hne : xs ≠ ys := fun e => hlen (by rw [e])
  have hd : decide (xs.length = ys.length) = false := decide_eq_false hlen
  simp only [GR,evK,binV,intOp,strOp,unV,Nat.reduceLT,Nat.reduceEqDiff,↓reduceIte,fn63,c63,r63_0,e1,e2,eqlens,hd,Bool.not_false]
  simp [hne]
theorem eq70 (F : Fa E) {v w : V} {xs ys : List Attr} {h : H} (hx : Sl h 2 v (xs.map Attr.cells)) (hy : Sl h 2 w (ys.map Attr.cells)) (hl : xs.length ≤ 1048576) : Sp P E (.func 70 [] []) [v,w] h fun r h' => r = .bool (decide (xs = ys)) ∧ h' = h := by
 obtain ⟨a1,c1,o1,e1⟩ := hx.len
 obtain ⟨a2,c2,o2,e2⟩ := hy.len
 rw [List.length_map] at e1 e2
 refine Sp_fn F.f70 F.p70 (by simp [fn70]) ?_
 by_cases hlen : xs.length = ys.length
 ·have loop : ∀ (d k : Nat) (ρ : Nat → V),xs.length - k = d → k ≤ xs.length → ρ 0 = v → ρ 1 = w → ρ 12 = iI xs.length → ρ 13 = iI k → xs.take k = ys.take k →
    XL P E none 26 b70_5 [.b 0,.c (.seq (.region [⟨some 4,.mv (.k (.bool true)),none,0,[4]⟩]) (.ret))] ρ h (Fin [.t 4] fun r h' => r = .bool (decide (xs = ys)) ∧ h' = h) := by
   intro d
   induction d with
   | zero =>
    intro k ρ hd hk q0 q1 q12 q13 ht
    have hke : ¬ k < xs.length := by omega
    rw [List.take_of_length_le (by omega),List.take_of_length_le (by omega)] at ht
    rw [u70_5]
    simp only [GR,evK,binV,intOp,strOp,unV,Nat.reduceLT,Nat.reduceEqDiff,↓reduceIte,q12,q13,Int.ofNat_lt,hke]
    simp [ht]
   | succ d ih =>
    intro k ρ hd hk q0 q1 q12 q13 ht
    have hke : k < xs.length := by omega
    have hky : k < ys.length := by omega
    obtain ⟨b,o,cap,opn,vs,ty,op,ro,fz,v1,hg,hll,he⟩ := hx.get (k := k) (x := xs[k].cells) (by simp [hke])
    obtain ⟨b',o',cap',opn',vs',ty',op',ro',fz',w1,hg',hll',he'⟩ := hy.get (k := k) (x := ys[k].cells) (by simp [hky])
    rw [v1,List.length_map] at q0
    rw [w1,List.length_map] at q1
    unfold getR at he he'
    have hw : IntKind.i64.wrap ((k : Int) + 1) = ((k + 1 : Nat) : Int) := wrap_nat (n := k + 1) (by omega)
    have heq := Attr.eqv h xs[k] ys[k]
    by_cases hek : xs[k] = ys[k]
    ·rw [decide_eq_true hek] at heq
     rw [u70_5]
     simp only [GR,evK,binV,intOp,strOp,unV,Nat.reduceLT,Nat.reduceEqDiff,↓reduceIte,q12,q13,Int.ofNat_lt,hke,r70_2]
     rw [X_draw,d70_3]
     simp only [GR,evK,binV,intOp,strOp,unV,Nat.reduceLT,Nat.reduceEqDiff,↓reduceIte,q0,q1,Int.ofNat_lt,hke,hky,r70_3,r70_4,q12,q13,hg,hg',hll,hll',he,he',Int.natCast_nonneg,Int.toNat_natCast,heq,Bool.not_true,hw]
     refine ih (k + 1) _ (by omega) (by omega) ?_ ?_ q12 rfl (take_succ hke hky ht hek)
     ·rw [v1,List.length_map]; exact q0
     ·rw [w1,List.length_map]; exact q1
    ·rw [decide_eq_false hek] at heq
     have hne : xs ≠ ys := fun e => by subst e; exact hek rfl
     rw [u70_5]
     simp only [GR,evK,binV,intOp,strOp,unV,Nat.reduceLT,Nat.reduceEqDiff,↓reduceIte,q12,q13,Int.ofNat_lt,hke,r70_2]
     rw [X_draw,d70_3]
     simp only [GR,evK,binV,intOp,strOp,unV,Nat.reduceLT,Nat.reduceEqDiff,↓reduceIte,q0,q1,Int.ofNat_lt,hke,hky,r70_3,hg,hg',hll,hll',he,he',Int.natCast_nonneg,Int.toNat_natCast,heq,Bool.not_false]
     simp [hne]
  have hd : decide (xs.length = ys.length) = true := decide_eq_true hlen
  simp only [GR,evK,binV,intOp,strOp,unV,Nat.reduceLT,Nat.reduceEqDiff,↓reduceIte,fn70,c70,r70_0,r70_1,e1,e2,eqlens,hd,Bool.not_true]
  exact loop _ 0 _ rfl (Nat.zero_le _) e1.symm e2.symm rfl rfl rfl
 ·have hne : xs ≠ ys := fun e => hlen (by rw [e])
  have hd : decide (xs.length = ys.length) = false := decide_eq_false hlen
  simp only [GR,evK,binV,intOp,strOp,unV,Nat.reduceLT,Nat.reduceEqDiff,↓reduceIte,fn70,c70,r70_0,e1,e2,eqlens,hd,Bool.not_false]
  simp [hne]
theorem eq33 (F : Fa E) {v w : V} {xs ys : List Opr} {h : H} (hx : Sl h 8 v (xs.map Opr.cells)) (hy : Sl h 8 w (ys.map Opr.cells)) (hl : xs.length ≤ 1048576) : Sp P E (.func 33 [] []) [v,w] h fun r h' => r = .bool (decide (xs = ys)) ∧ h' = h := by
 obtain ⟨a1,c1,o1,e1⟩ := hx.len
 obtain ⟨a2,c2,o2,e2⟩ := hy.len
 rw [List.length_map] at e1 e2
 refine Sp_fn F.f33 F.p33 (by simp [fn33]) ?_
 by_cases hlen : xs.length = ys.length
 ·have loop : ∀ (d k : Nat) (ρ : Nat → V),xs.length - k = d → k ≤ xs.length → ρ 0 = v → ρ 1 = w → ρ 5 = iI k → xs.take k = ys.take k →
    XL P E none 26 b33_4 [.b 0,.c (.seq (.region [⟨some 4,.mv (.k (.bool true)),none,0,[4]⟩]) (.ret))] ρ h (Fin [.t 4] fun r h' => r = .bool (decide (xs = ys)) ∧ h' = h) := by
   intro d
   induction d with
   | zero =>
    intro k ρ hd hk q0 q1 q5 ht
    have hke : ¬ k < xs.length := by omega
    rw [List.take_of_length_le (by omega),List.take_of_length_le (by omega)] at ht
    rw [u33_4]
    simp only [GR,evK,binV,intOp,strOp,unV,Nat.reduceLT,Nat.reduceEqDiff,↓reduceIte,r33_1,q0,e1,q5,Int.ofNat_lt,hke]
    simp [ht]
   | succ d ih =>
    intro k ρ hd hk q0 q1 q5 ht
    have hke : k < xs.length := by omega
    have hky : k < ys.length := by omega
    obtain ⟨b,o,cap,opn,vs,ty,op,ro,fz,v1,hg,hll,he⟩ := hx.get (k := k) (x := xs[k].cells) (by simp [hke])
    obtain ⟨b',o',cap',opn',vs',ty',op',ro',fz',w1,hg',hll',he'⟩ := hy.get (k := k) (x := ys[k].cells) (by simp [hky])
    rw [v1,List.length_map] at q0
    rw [w1,List.length_map] at q1
    unfold getR at he he'
    have hw : IntKind.i64.wrap ((k : Int) + 1) = ((k + 1 : Nat) : Int) := wrap_nat (n := k + 1) (by omega)
    have heq := Opr.eqv h xs[k] ys[k]
    by_cases hek : xs[k] = ys[k]
    ·rw [decide_eq_true hek] at heq
     rw [u33_4]
     simp only [GR,evK,binV,intOp,strOp,unV,Nat.reduceLT,Nat.reduceEqDiff,↓reduceIte,r33_1,q5,q0,Int.ofNat_lt,hke]
     rw [X_draw,d33_2]
     simp only [GR,evK,binV,intOp,strOp,unV,Nat.reduceLT,Nat.reduceEqDiff,↓reduceIte,q0,q1,Int.ofNat_lt,hke,hky,r33_2,r33_3,q5,hg,hg',hll,hll',he,he',Int.natCast_nonneg,Int.toNat_natCast,heq,Bool.not_true,hw]
     refine ih (k + 1) _ (by omega) (by omega) ?_ ?_ rfl (take_succ hke hky ht hek)
     ·rw [v1,List.length_map]; exact q0
     ·rw [w1,List.length_map]; exact q1
    ·rw [decide_eq_false hek] at heq
     have hne : xs ≠ ys := fun e => by subst e; exact hek rfl
     rw [u33_4]
     simp only [GR,evK,binV,intOp,strOp,unV,Nat.reduceLT,Nat.reduceEqDiff,↓reduceIte,r33_1,q5,q0,Int.ofNat_lt,hke]
     rw [X_draw,d33_2]
     simp only [GR,evK,binV,intOp,strOp,unV,Nat.reduceLT,Nat.reduceEqDiff,↓reduceIte,q0,q1,Int.ofNat_lt,hke,hky,r33_2,q5,hg,hg',hll,hll',he,he',Int.natCast_nonneg,Int.toNat_natCast,heq,Bool.not_false]
     simp [hne]
  have hd : decide (xs.length = ys.length) = true := decide_eq_true hlen
  simp only [GR,evK,binV,intOp,strOp,unV,Nat.reduceLT,Nat.reduceEqDiff,↓reduceIte,fn33,c33,r33_0,e1,e2,eqlens,hd,Bool.not_true]
  exact loop _ 0 _ rfl (Nat.zero_le _) e1.symm e2.symm rfl rfl
 ·have hne : xs ≠ ys := fun e => hlen (by rw [e])
  have hd : decide (xs.length = ys.length) = false := decide_eq_false hlen
  simp only [GR,evK,binV,intOp,strOp,unV,Nat.reduceLT,Nat.reduceEqDiff,↓reduceIte,fn33,c33,r33_0,e1,e2,eqlens,hd,Bool.not_false]
  simp [hne]
theorem eq42 (F : Fa E) {v w : V} {xs ys : List Row} {h : H} (hx : Sl h 6 v (xs.map Row.cells)) (hy : Sl h 6 w (ys.map Row.cells)) (hl : xs.length ≤ 1048576) : Sp P E (.func 42 [] []) [v,w] h fun r h' => r = .bool (decide (xs = ys)) ∧ h' = h := by
 obtain ⟨a1,c1,o1,e1⟩ := hx.len
 obtain ⟨a2,c2,o2,e2⟩ := hy.len
 rw [List.length_map] at e1 e2
 refine Sp_fn F.f42 F.p42 (by simp [fn42]) ?_
 by_cases hlen : xs.length = ys.length
 ·have loop : ∀ (d k : Nat) (ρ : Nat → V),xs.length - k = d → k ≤ xs.length → ρ 0 = v → ρ 1 = w → ρ 5 = iI k → xs.take k = ys.take k →
    XL P E none 26 b42_4 [.b 0,.c (.seq (.region [⟨some 4,.mv (.k (.bool true)),none,0,[4]⟩]) (.ret))] ρ h (Fin [.t 4] fun r h' => r = .bool (decide (xs = ys)) ∧ h' = h) := by
   intro d
   induction d with
   | zero =>
    intro k ρ hd hk q0 q1 q5 ht
    have hke : ¬ k < xs.length := by omega
    rw [List.take_of_length_le (by omega),List.take_of_length_le (by omega)] at ht
    rw [u42_4]
    simp only [GR,evK,binV,intOp,strOp,unV,Nat.reduceLT,Nat.reduceEqDiff,↓reduceIte,r42_1,q0,e1,q5,Int.ofNat_lt,hke]
    simp [ht]
   | succ d ih =>
    intro k ρ hd hk q0 q1 q5 ht
    have hke : k < xs.length := by omega
    have hky : k < ys.length := by omega
    obtain ⟨b,o,cap,opn,vs,ty,op,ro,fz,v1,hg,hll,he⟩ := hx.get (k := k) (x := xs[k].cells) (by simp [hke])
    obtain ⟨b',o',cap',opn',vs',ty',op',ro',fz',w1,hg',hll',he'⟩ := hy.get (k := k) (x := ys[k].cells) (by simp [hky])
    rw [v1,List.length_map] at q0
    rw [w1,List.length_map] at q1
    unfold getR at he he'
    have hw : IntKind.i64.wrap ((k : Int) + 1) = ((k + 1 : Nat) : Int) := wrap_nat (n := k + 1) (by omega)
    have heq := Row.eqv h xs[k] ys[k]
    by_cases hek : xs[k] = ys[k]
    ·rw [decide_eq_true hek] at heq
     rw [u42_4]
     simp only [GR,evK,binV,intOp,strOp,unV,Nat.reduceLT,Nat.reduceEqDiff,↓reduceIte,r42_1,q5,q0,Int.ofNat_lt,hke]
     rw [X_draw,d42_2]
     simp only [GR,evK,binV,intOp,strOp,unV,Nat.reduceLT,Nat.reduceEqDiff,↓reduceIte,q0,q1,Int.ofNat_lt,hke,hky,r42_2,r42_3,q5,hg,hg',hll,hll',he,he',Int.natCast_nonneg,Int.toNat_natCast,heq,Bool.not_true,hw]
     refine ih (k + 1) _ (by omega) (by omega) ?_ ?_ rfl (take_succ hke hky ht hek)
     ·rw [v1,List.length_map]; exact q0
     ·rw [w1,List.length_map]; exact q1
    ·rw [decide_eq_false hek] at heq
     have hne : xs ≠ ys := fun e => by subst e; exact hek rfl
     rw [u42_4]
     simp only [GR,evK,binV,intOp,strOp,unV,Nat.reduceLT,Nat.reduceEqDiff,↓reduceIte,r42_1,q5,q0,Int.ofNat_lt,hke]
     rw [X_draw,d42_2]
     simp only [GR,evK,binV,intOp,strOp,unV,Nat.reduceLT,Nat.reduceEqDiff,↓reduceIte,q0,q1,Int.ofNat_lt,hke,hky,r42_2,q5,hg,hg',hll,hll',he,he',Int.natCast_nonneg,Int.toNat_natCast,heq,Bool.not_false]
     simp [hne]
  have hd : decide (xs.length = ys.length) = true := decide_eq_true hlen
  simp only [GR,evK,binV,intOp,strOp,unV,Nat.reduceLT,Nat.reduceEqDiff,↓reduceIte,fn42,c42,r42_0,e1,e2,eqlens,hd,Bool.not_true]
  exact loop _ 0 _ rfl (Nat.zero_le _) e1.symm e2.symm rfl rfl
 ·have hne : xs ≠ ys := fun e => hlen (by rw [e])
  have hd : decide (xs.length = ys.length) = false := decide_eq_false hlen
  simp only [GR,evK,binV,intOp,strOp,unV,Nat.reduceLT,Nat.reduceEqDiff,↓reduceIte,fn42,c42,r42_0,e1,e2,eqlens,hd,Bool.not_false]
  simp [hne]
end Go.AM.Sc
