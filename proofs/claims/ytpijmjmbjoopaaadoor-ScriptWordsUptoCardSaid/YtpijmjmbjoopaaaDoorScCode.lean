/- My own texts of the evaluator, its soundness and its symbolic runs, laid for this claim. -/
import Derived.Test.YtpijmjmbjoopaaaDoorScData
set_option linter.unusedSimpArgs false
set_option linter.unusedVariables false
namespace Go.AM.Sc
abbrev om (d s p : Nat) : O := ⟨some d,.mv (.t s),none,p,[d,s]⟩
abbrev og (d s g p : Nat) : O := ⟨some d,.mv (.t s),some (g,true),p,[d,g,s]⟩
abbrev oa (d n s p : Nat) : O := ⟨some d,.fadr n (.t s),none,p,[d,s]⟩
abbrev oag (d n s g p : Nat) : O := ⟨some d,.fadr n (.t s),some (g,true),p,[d,g,s]⟩
abbrev ol (d s p : Nat) : O := ⟨some d,.load1 (.t s),none,p,[d,s]⟩
abbrev olg (d s g p : Nat) : O := ⟨some d,.load1 (.t s),some (g,true),p,[d,g,s]⟩
abbrev oN (d n s p : Nat) : O := ⟨some d,.loadN n (.t s),none,p,[d,s]⟩
abbrev oNg (d n s g p : Nat) : O := ⟨some d,.loadN n (.t s),some (g,true),p,[d,g,s]⟩
abbrev ox (d s i p : Nat) : O := ⟨some d,.extract (.t s) i,none,p,[d,s]⟩
variable {P : Program} {E : Env} {ro : Option Nat} {L : Nat} {K : List Fr} {ρ : Nat → V} {h : H} {Q : Po}
def r6_0 : List O := [⟨some 2,.box 24 (.t 0),none,0,[2,0]⟩,
 ⟨some 4,.mv (.k (.str [])),none,0,[4]⟩,
 ⟨some 5,.mv (.k (.int .i64 0)),none,2,[5]⟩]
def r6_1 : List O := [om 11 1 0,
 ⟨some 12,.lenL (.t 11),none,1,[12,11]⟩,
 ⟨some 13,.bin .gtr (some .int) true (.t 12) (.k (.int .i64 16384)),none,3,[13,12]⟩]
def r6_2 : List O := [⟨some 4,.mv (.k (.str [])),none,0,[4]⟩,
 ⟨some 5,.mv (.k (.int .i64 3)),none,1,[5]⟩]
def r6_3 : List O := [oN 14 4 2 0,
 ⟨some 15,.call (.k (.func 21 [] [])) [(.t 14)],none,1,[15,14]⟩,
 ⟨some 16,.bin .add (some .str) true (.t 15) (.k (.str [10])),none,3,[16,15]⟩,
 ⟨some 17,.call (.k (.func 20 [] [])) [(.t 6),(.t 16)],none,7,[17,6,16]⟩]
def r6_4 : List O := [om 18 1 0,
 ⟨some 19,.lenL (.t 18),none,1,[19,18]⟩,
 ⟨some 20,.mv (.k (.int .i64 0)),none,0,[20]⟩]
def r6_5 : List O := [⟨some 22,.iadrL 76 (.t 18) (.t 20),none,0,[22,18,20]⟩,
 oN 23 76 22 1,
 ⟨some 8,.alloc 52 [.int .i64 0,.int .i64 0,.int .i64 0,.int .i64 0,.int .i64 0,.int .i64 0,.int .i64 0,.int .i64 0,.int .i64 0,.str [],.str [],.str [],.int .i64 0,.str [],.int .i64 0,.int .i64 0,.int .i64 0,.int .i64 0,.int .i64 0,.int .i64 0,.int .i64 0,.int .i64 0,.int .i64 0,.str [],.str [],.str [],.int .i64 0,.int .i64 0,(.slice none 0 0 false),.int .i64 0,.int .i64 0,.int .i64 0,.int .i64 0,.int .i64 0,.int .i64 0,.int .i64 0,.int .i64 0,.int .i64 0,.int .i64 0,.int .i64 0,.int .i64 0,.int .i64 0,.int .i64 0,.int .i64 0,.int .i64 0,.int .i64 0,.int .i64 0,.int .i64 0,.int .i64 0,.int .i64 0,.int .i64 0,.int .i64 0,.int .i64 0,.int .i64 0,.int .i64 0,.int .i64 0,.int .i64 0,.int .i64 0,.int .i64 0,.int .i64 0,.int .i64 0,.int .i64 0,.int .i64 0,.int .i64 0,.int .i64 0,.int .i64 0,.int .i64 0,(.slice none 0 0 false),.int .i64 0,.int .i64 0,.int .i64 0,.int .i64 0,.int .i64 0,(.int .u8 0),.int .i64 0,.int .i64 0],none,0,[8]⟩,
 ⟨none,.store 76 (.t 8) (.t 23),none,7,[8,23]⟩]
def r6_6 : List O := [oN 25 76 8 0,
 ⟨some 26,.call (.k (.func 9 [] [])) [(.t 25)],none,1,[26,25]⟩,
 om 24 26 3,
 ox 27 24 0 7,
 ox 28 24 1 7,
 om 9 27 15,
 om 10 28 63]
def r6_7 : List O := [om 29 10 0,
 ⟨some 30,.bin .neq (some .int) true (.t 29) (.k (.int .i64 0)),none,1,[30,29]⟩]
def r6_8 : List O := [om 31 10 0,
 ⟨some 4,.mv (.k (.str [])),none,0,[4]⟩,
 om 5 31 3]
def r6_9 : List O := [om 32 9 0,
 ⟨some 33,.bin .add (some .str) true (.t 32) (.k (.str [10])),none,1,[33,32]⟩,
 ⟨some 34,.call (.k (.func 20 [] [])) [(.t 6),(.t 33)],none,3,[34,6,33]⟩]
def r6_10 : List O := [⟨some 35,.bin .add (some .int) true (.t 20) (.k (.int .i64 1)),none,0,[35,20]⟩,
 om 20 35 1]
def b6_11 : C := .seq (.region [⟨some 21,.bin .lss (some .int) false (.t 20) (.t 19),none,0,[21,20,19]⟩]) (.seq (.cond (.t 21) (.skip) (.exit 0)) (.seq (.block 1 (.seq (.region r6_5) (.seq (.region r6_6) (.seq (.seq (.region r6_7) (.cond (.t 30) (.seq (.region r6_8) (.ret)) (.skip))) (.region r6_9))))) (.region r6_10)))
theorem u6_11 : XL P E ro L b6_11 K ρ h Q = X P E ro L (.c (.seq (.region [⟨some 21,.bin .lss (some .int) false (.t 20) (.t 19),none,0,[21,20,19]⟩]) (.seq (.cond (.t 21) (.skip) (.exit 0)) (.seq (.block 1 (.seq (.region r6_5) (.seq (.region r6_6) (.seq (.seq (.region r6_7) (.cond (.t 30) (.seq (.region r6_8) (.ret)) (.skip))) (.region r6_9))))) (.region r6_10)))) :: .l b6_11 :: K) ρ h Q := XL_unroll b6_11
def r6_12 : List O := [⟨some 36,.call (.k (.func 22 [] [])) [(.t 6)],none,0,[36,6]⟩,
 om 4 36 1,
 ⟨some 5,.mv (.k (.int .i64 0)),none,3,[5]⟩]
def c6 : C := .seq (.region r6_0) (.seq (.seq (.region r6_1) (.cond (.t 13) (.seq (.region r6_2) (.ret)) (.skip))) (.seq (.region [⟨some 6,.alloc 64 [(.ptr none),(.slice none 0 0 false)],none,0,[6]⟩]) (.seq (.region r6_3) (.seq (.seq (.region r6_4) (.block 0 (.loop b6_11))) (.seq (.region r6_12) (.ret))))))
def fn6 : Fn := ⟨37,[.t 4,.t 5],c6⟩
def r8_0 : List O := [⟨some 4,.bslice 3 1 [.int .i64 0] [(0,1,(.k (.int .i64 0)))],none,0,[4]⟩,
 ⟨some 5,.build [.int .i64 0,.int .i64 0,.int .i64 0,(.slice none 0 0 false)] [(0,1,(.k (.int .i64 1))),(1,1,(.k (.int .i64 9))),(3,1,(.t 4))],none,1,[5,4]⟩,
 ⟨some 6,.build [.int .i64 0,.int .i64 0,.int .i64 0,.int .i64 0,.int .i64 0,.int .i64 0,.int .i64 0,.int .i64 0,.int .i64 0,.str [],.str [],.str [],.int .i64 0,.str [],.int .i64 0,.int .i64 0,.int .i64 0,.int .i64 0,.int .i64 0,.int .i64 0,.int .i64 0,.int .i64 0,.int .i64 0,.str [],.str [],.str [],.int .i64 0,.int .i64 0,(.slice none 0 0 false),.int .i64 0,.int .i64 0,.int .i64 0,.int .i64 0,.int .i64 0,.int .i64 0,.int .i64 0,.int .i64 0,.int .i64 0,.int .i64 0,.int .i64 0,.int .i64 0,.int .i64 0,.int .i64 0,.int .i64 0,.int .i64 0,.int .i64 0,.int .i64 0,.int .i64 0,.int .i64 0,.int .i64 0,.int .i64 0,.int .i64 0,.int .i64 0,.int .i64 0,.int .i64 0,.int .i64 0,.int .i64 0,.int .i64 0,.int .i64 0,.int .i64 0,.int .i64 0,.int .i64 0,.int .i64 0,.int .i64 0,.int .i64 0,.int .i64 0,.int .i64 0,(.slice none 0 0 false),.int .i64 0,.int .i64 0,.int .i64 0,.int .i64 0,.int .i64 0,(.int .u8 0),.int .i64 0,.int .i64 0] [(0,1,(.k (.int .i64 13)))],none,0,[6]⟩,
 ⟨some 7,.bslice 52 1 [.int .i64 0,.int .i64 0,.int .i64 0,.int .i64 0,.int .i64 0,.int .i64 0,.int .i64 0,.int .i64 0,.int .i64 0,.str [],.str [],.str [],.int .i64 0,.str [],.int .i64 0,.int .i64 0,.int .i64 0,.int .i64 0,.int .i64 0,.int .i64 0,.int .i64 0,.int .i64 0,.int .i64 0,.str [],.str [],.str [],.int .i64 0,.int .i64 0,(.slice none 0 0 false),.int .i64 0,.int .i64 0,.int .i64 0,.int .i64 0,.int .i64 0,.int .i64 0,.int .i64 0,.int .i64 0,.int .i64 0,.int .i64 0,.int .i64 0,.int .i64 0,.int .i64 0,.int .i64 0,.int .i64 0,.int .i64 0,.int .i64 0,.int .i64 0,.int .i64 0,.int .i64 0,.int .i64 0,.int .i64 0,.int .i64 0,.int .i64 0,.int .i64 0,.int .i64 0,.int .i64 0,.int .i64 0,.int .i64 0,.int .i64 0,.int .i64 0,.int .i64 0,.int .i64 0,.int .i64 0,.int .i64 0,.int .i64 0,.int .i64 0,.int .i64 0,(.slice none 0 0 false),.int .i64 0,.int .i64 0,.int .i64 0,.int .i64 0,.int .i64 0,(.int .u8 0),.int .i64 0,.int .i64 0] [(0,76,(.t 6))],none,4,[7,6]⟩,
 ⟨some 8,.call (.k (.func 6 [] [])) [(.t 5),(.t 7)],none,15,[8,5,7]⟩,
 om 3 8 31,
 ox 9 3 0 63,
 ox 10 3 1 63,
 om 1 9 127,
 om 2 10 511]
def r8_1 : List O := [om 11 2 0,
 ⟨some 12,.bin .eql (some .int) true (.t 11) (.k (.int .i64 0)),none,1,[12,11]⟩,
 om 13 12 3,
 og 14 1 13 7,
 ⟨some 15,.bin .eql (some .str) true (.t 14) (.k (.str [119,111,114,108,100,32,49,32,57,32,48,32,48,10,97,108,108,10])),some (13,true),15,[15,13,14]⟩,
 ⟨some 16,.pick (.t 13) (.t 15) (.k (.bool false)),none,31,[16,13,15]⟩,
 om 17 16 63,
 ⟨some 18,.call (.k (.func 16 [] [])) [(.k (.str [97,34]))],some (17,true),127,[18,17]⟩,
 ⟨some 19,.bin .eql (some .str) true (.t 18) (.k (.str [34,97,92,34,34])),some (17,true),255,[19,17,18]⟩,
 ⟨some 20,.pick (.t 17) (.t 19) (.k (.bool false)),none,511,[20,17,19]⟩,
 om 0 20 1023]
def c8 : C := .seq (.region [⟨some 0,.mv (.k (.bool false)),none,0,[0]⟩]) (.seq (.region r8_0) (.seq (.region r8_1) (.ret)))
def fn8 : Fn := ⟨21,[.t 0],c8⟩
def r9_0 : List O := [⟨some 1,.box 52 (.t 0),none,0,[1,0]⟩,
 ⟨some 2,.mv (.k (.str [])),none,0,[2]⟩,
 ⟨some 3,.mv (.k (.int .i64 0)),none,2,[3]⟩]
def r9_1 : List O := [oa 11 1 1 0,
 oa 12 0 11 1,
 ol 13 12 3,
 oa 14 1 1 0,
 oa 15 1 14 8,
 ol 16 15 24,
 ⟨some 17,.bslice 3 2 [.int .i64 0,.int .i64 0] [(0,1,(.t 13)),(1,1,(.t 16))],none,63,[17,13,16]⟩,
 ⟨some 18,.call (.k (.func 24 [] [])) [(.t 17)],none,127,[18,17]⟩,
 om 4 18 255]
def r9_2 : List O := [oa 19 0 1 0,
 ol 20 19 1,
 ⟨some 21,.build [.int .i64 0,.int .i64 0,.int .i64 0,.int .i64 0,.int .i64 0,.int .i64 0,.int .i64 0,.int .i64 0,.int .i64 0,.str [],.str [],.str [],.int .i64 0,.str [],.int .i64 0,.int .i64 0,.int .i64 0,.int .i64 0,.int .i64 0,.int .i64 0,.int .i64 0,.int .i64 0,.int .i64 0,.str [],.str [],.str [],.int .i64 0,.int .i64 0,(.slice none 0 0 false),.int .i64 0,.int .i64 0,.int .i64 0,.int .i64 0,.int .i64 0,.int .i64 0,.int .i64 0,.int .i64 0,.int .i64 0,.int .i64 0,.int .i64 0,.int .i64 0,.int .i64 0,.int .i64 0,.int .i64 0,.int .i64 0,.int .i64 0,.int .i64 0,.int .i64 0,.int .i64 0,.int .i64 0,.int .i64 0,.int .i64 0,.int .i64 0,.int .i64 0,.int .i64 0,.int .i64 0,.int .i64 0,.int .i64 0,.int .i64 0,.int .i64 0,.int .i64 0,.int .i64 0,.int .i64 0,.int .i64 0,.int .i64 0,.int .i64 0,.int .i64 0,(.slice none 0 0 false),.int .i64 0,.int .i64 0,.int .i64 0,.int .i64 0,.int .i64 0,(.int .u8 0),.int .i64 0,.int .i64 0] [(0,1,(.t 20))],none,3,[21,20]⟩,
 ⟨some 5,.alloc 52 [.int .i64 0,.int .i64 0,.int .i64 0,.int .i64 0,.int .i64 0,.int .i64 0,.int .i64 0,.int .i64 0,.int .i64 0,.str [],.str [],.str [],.int .i64 0,.str [],.int .i64 0,.int .i64 0,.int .i64 0,.int .i64 0,.int .i64 0,.int .i64 0,.int .i64 0,.int .i64 0,.int .i64 0,.str [],.str [],.str [],.int .i64 0,.int .i64 0,(.slice none 0 0 false),.int .i64 0,.int .i64 0,.int .i64 0,.int .i64 0,.int .i64 0,.int .i64 0,.int .i64 0,.int .i64 0,.int .i64 0,.int .i64 0,.int .i64 0,.int .i64 0,.int .i64 0,.int .i64 0,.int .i64 0,.int .i64 0,.int .i64 0,.int .i64 0,.int .i64 0,.int .i64 0,.int .i64 0,.int .i64 0,.int .i64 0,.int .i64 0,.int .i64 0,.int .i64 0,.int .i64 0,.int .i64 0,.int .i64 0,.int .i64 0,.int .i64 0,.int .i64 0,.int .i64 0,.int .i64 0,.int .i64 0,.int .i64 0,.int .i64 0,.int .i64 0,(.slice none 0 0 false),.int .i64 0,.int .i64 0,.int .i64 0,.int .i64 0,.int .i64 0,(.int .u8 0),.int .i64 0,.int .i64 0],none,0,[5]⟩,
 ⟨none,.store 76 (.t 5) (.t 21),none,15,[5,21]⟩]
def r9_3 : List O := [⟨some 6,.mv (.k (.str [])),none,0,[6]⟩,
 ⟨some 7,.mv (.k (.bool true)),none,1,[7]⟩,
 ⟨some 8,.mv (.k (.bool false)),none,3,[8]⟩]
def r9_4 : List O := [oa 22 0 1 0,
 ol 23 22 1]
def r9_5 : List O := [⟨some 25,.bin .eql (some .int) true (.t 23) (.k (.int .i64 1)),none,0,[25,23]⟩,
 om 24 25 1]
def r9_6 : List O := [⟨some 26,.bin .eql (some .int) true (.t 23) (.k (.int .i64 12)),none,0,[26,23]⟩,
 om 24 26 1]
def r9_7 : List O := [oa 27 1 1 0,
 oN 28 2 27 1,
 oa 29 1 5 3,
 ⟨none,.store 2 (.t 29) (.t 28),none,7,[29,28]⟩]
def r9_8 : List O := [⟨some 30,.mkMap,none,0,[30]⟩,
 ⟨none,.mapUpd .int (.t 30) (.k (.int .i64 1)) (.k (.str [116,105,99,107,32])),none,1,[30]⟩,
 ⟨none,.mapUpd .int (.t 30) (.k (.int .i64 12)) (.k (.str [114,101,115,116,97,114,116,32])),none,1,[30]⟩,
 om 31 30 7,
 oa 32 0 1 0,
 ol 33 32 16,
 ⟨some 34,.lookup .int (.str []) false (.t 31) (.t 33),none,63,[34,31,33]⟩,
 om 35 4 0,
 ⟨some 36,.bin .add (some .str) false (.t 34) (.t 35),none,255,[36,34,35]⟩,
 om 6 36 511]
def r9_9 : List O := [⟨some 38,.bin .eql (some .int) true (.t 23) (.k (.int .i64 2)),none,0,[38,23]⟩,
 om 37 38 1]
def r9_10 : List O := [oa 39 1 1 0,
 oN 40 2 39 1,
 oa 41 3 1 0,
 ol 42 41 4,
 oa 43 4 1 0,
 oN 44 8 43 16,
 oa 45 1 5 3,
 ⟨none,.store 2 (.t 45) (.t 40),none,67,[45,40]⟩,
 oa 46 3 5 207,
 ⟨none,.store 1 (.t 46) (.t 42),none,463,[46,42]⟩,
 oa 47 4 5 1023,
 ⟨none,.store 8 (.t 47) (.t 44),none,2047,[47,44]⟩]
theorem k9_10 (lo : Nat) (hx : XDK P E ro L K Q lo h [true,true,true,true,true,true,true,true,true,true,true,true] r9_10 ρ h) : XD P E ro L r9_10 K ρ h Q := XD_keeps rfl rfl hx
def r9_11 : List O := [oa 49 4 1 0,
 oN 50 8 49 1,
 ⟨some 51,.call (.k (.func 25 [] [])) [(.t 50)],none,3,[51,50]⟩,
 om 48 51 7,
 ox 52 48 0 15,
 ox 53 48 1 15,
 om 6 52 31,
 om 7 53 127]
def r9_12 : List O := [om 54 4 0,
 ⟨some 55,.bin .add (some .str) true (.k (.str [119,114,105,116,101,32])) (.t 54),none,1,[55,54]⟩,
 ⟨some 56,.bin .add (some .str) true (.t 55) (.k (.str [32])),none,3,[56,55]⟩,
 oa 57 3 1 0,
 ol 58 57 8,
 ⟨some 59,.bslice 3 1 [.int .i64 0] [(0,1,(.t 58))],none,24,[59,58]⟩,
 ⟨some 60,.call (.k (.func 24 [] [])) [(.t 59)],none,56,[60,59]⟩,
 ⟨some 61,.bin .add (some .str) false (.t 56) (.t 60),none,127,[61,56,60]⟩,
 ⟨some 62,.bin .add (some .str) true (.t 61) (.k (.str [32])),none,255,[62,61]⟩,
 om 63 6 0,
 ⟨some 64,.bin .add (some .str) false (.t 62) (.t 63),none,1023,[64,62,63]⟩,
 om 6 64 2047]
def r9_13 : List O := [⟨some 66,.bin .eql (some .int) true (.t 23) (.k (.int .i64 3)),none,0,[66,23]⟩,
 om 65 66 1]
def r9_14 : List O := [oa 67 1 1 0,
 oN 68 2 67 1,
 oa 69 3 1 0,
 ol 70 69 4,
 oa 71 1 5 3,
 ⟨none,.store 2 (.t 71) (.t 68),none,19,[71,68]⟩,
 oa 72 3 5 63,
 ⟨none,.store 1 (.t 72) (.t 70),none,127,[72,70]⟩]
theorem k9_14 (lo : Nat) (hx : XDK P E ro L K Q lo h [true,true,true,true,true,true,true,true] r9_14 ρ h) : XD P E ro L r9_14 K ρ h Q := XD_keeps rfl rfl hx
def r9_15 : List O := [om 73 4 0,
 ⟨some 74,.bin .add (some .str) true (.k (.str [114,101,116,114,121,32])) (.t 73),none,1,[74,73]⟩,
 ⟨some 75,.bin .add (some .str) true (.t 74) (.k (.str [32])),none,3,[75,74]⟩,
 oa 76 3 1 0,
 ol 77 76 8,
 ⟨some 78,.bslice 3 1 [.int .i64 0] [(0,1,(.t 77))],none,24,[78,77]⟩,
 ⟨some 79,.call (.k (.func 24 [] [])) [(.t 78)],none,56,[79,78]⟩,
 ⟨some 80,.bin .add (some .str) false (.t 75) (.t 79),none,127,[80,75,79]⟩,
 om 6 80 255]
def r9_16 : List O := [⟨some 82,.bin .eql (some .int) true (.t 23) (.k (.int .i64 4)),none,0,[82,23]⟩,
 om 81 82 1]
def r9_17 : List O := [oa 83 1 1 0,
 oN 84 2 83 1,
 oa 85 3 1 0,
 ol 86 85 4,
 oa 87 12 1 0,
 oN 88 3 87 16,
 oa 89 1 5 3,
 ⟨none,.store 2 (.t 89) (.t 84),none,67,[89,84]⟩,
 oa 90 3 5 207,
 ⟨none,.store 1 (.t 90) (.t 86),none,463,[90,86]⟩,
 oa 91 12 5 1023,
 ⟨none,.store 3 (.t 91) (.t 88),none,2047,[91,88]⟩]
theorem k9_17 (lo : Nat) (hx : XDK P E ro L K Q lo h [true,true,true,true,true,true,true,true,true,true,true,true] r9_17 ρ h) : XD P E ro L r9_17 K ρ h Q := XD_keeps rfl rfl hx
def r9_18 : List O := [oa 93 12 1 0,
 oN 94 3 93 1,
 ⟨some 95,.call (.k (.func 26 [] [])) [(.t 94)],none,3,[95,94]⟩,
 om 92 95 7,
 ox 96 92 0 15,
 ox 97 92 1 15,
 om 6 96 31,
 om 7 97 127]
def r9_19 : List O := [om 98 4 0,
 ⟨some 99,.bin .add (some .str) true (.k (.str [114,101,97,100,32])) (.t 98),none,1,[99,98]⟩,
 ⟨some 100,.bin .add (some .str) true (.t 99) (.k (.str [32])),none,3,[100,99]⟩,
 oa 101 3 1 0,
 ol 102 101 8,
 ⟨some 103,.bslice 3 1 [.int .i64 0] [(0,1,(.t 102))],none,24,[103,102]⟩,
 ⟨some 104,.call (.k (.func 24 [] [])) [(.t 103)],none,56,[104,103]⟩,
 ⟨some 105,.bin .add (some .str) false (.t 100) (.t 104),none,127,[105,100,104]⟩,
 ⟨some 106,.bin .add (some .str) true (.t 105) (.k (.str [32])),none,255,[106,105]⟩,
 om 107 6 0,
 ⟨some 108,.bin .add (some .str) false (.t 106) (.t 107),none,1023,[108,106,107]⟩,
 om 6 108 2047]
def r9_20 : List O := [⟨some 110,.bin .eql (some .int) true (.t 23) (.k (.int .i64 5)),none,0,[110,23]⟩,
 om 109 110 1]
def r9_21 : List O := [oa 111 1 1 0,
 oN 112 2 111 1,
 oa 113 1 5 3,
 ⟨none,.store 2 (.t 113) (.t 112),none,7,[113,112]⟩]
def r9_22 : List O := [oa 115 15 1 0,
 oN 116 56 115 1,
 ⟨some 117,.call (.k (.func 12 [] [])) [(.t 116)],none,3,[117,116]⟩,
 om 114 117 7,
 ox 118 114 0 15,
 ox 119 114 1 15,
 om 9 118 31,
 om 10 119 127]
def r9_23 : List O := [om 120 4 0,
 ⟨some 121,.bin .add (some .str) true (.k (.str [99,111,110,102,32])) (.t 120),none,1,[121,120]⟩,
 ⟨some 122,.bin .add (some .str) true (.t 121) (.k (.str [32])),none,3,[122,121]⟩,
 om 123 9 0,
 ⟨some 124,.bin .add (some .str) false (.t 122) (.t 123),none,15,[124,122,123]⟩,
 om 125 10 0,
 ⟨some 126,.bin .eql (some .int) true (.t 125) (.k (.int .i64 0)),none,32,[126,125]⟩,
 om 6 124 31,
 om 7 126 255,
 ⟨some 8,.mv (.k (.bool true)),none,511,[8]⟩]
def r9_24 : List O := [⟨some 128,.bin .eql (some .int) true (.t 23) (.k (.int .i64 6)),none,0,[128,23]⟩,
 om 127 128 1]
def r9_25 : List O := [⟨some 129,.bin .eql (some .int) true (.t 23) (.k (.int .i64 7)),none,0,[129,23]⟩,
 om 127 129 1]
def r9_26 : List O := [⟨some 130,.bin .eql (some .int) true (.t 23) (.k (.int .i64 8)),none,0,[130,23]⟩,
 om 127 130 1]
def r9_27 : List O := [oa 131 71 1 0,
 ol 132 131 1,
 oa 133 71 5 3,
 ⟨none,.store 1 (.t 133) (.t 132),none,7,[133,132]⟩]
def r9_28 : List O := [⟨some 134,.mv (.k .junk),none,0,[134]⟩,
 ⟨none,.mv (.t 134),none,1,[134]⟩,
 ⟨none,.mv (.t 134),none,1,[134]⟩,
 ⟨none,.mv (.t 134),none,1,[134]⟩,
 ⟨some 135,.pick (.k (.bool true)) (.k .junk) (.t 135),none,15,[135,134]⟩,
 oa 136 0 1 0,
 ol 137 136 32,
 ⟨some 138,.mlit .int [((.int .i64 6),(.str [100,101,108,105,118,101,114,32]),0),((.int .i64 7),(.str [100,114,111,112,32]),0),((.int .i64 8),(.str [100,111,117,98,108,101,32]),0)] (.str []) false (.t 137),none,127,[138,135,137]⟩,
 oa 139 71 1 0,
 ol 140 139 256,
 ⟨some 141,.call (.k (.func 27 [] [])) [(.t 140)],none,768,[141,140]⟩,
 ⟨some 142,.bin .add (some .str) false (.t 138) (.t 141),none,2047,[142,138,141]⟩,
 om 6 142 4095]
theorem d9_28 (hx : XDQ P E ro L K Q h [true,true,true,true,true,true,true,true,true,true,true,true,true] r9_28 ρ h) : XD P E ro L r9_28 K ρ h Q := XD_quiet rfl rfl hx
def r9_29 : List O := [⟨some 144,.bin .eql (some .int) true (.t 23) (.k (.int .i64 9)),none,0,[144,23]⟩,
 om 143 144 1]
def r9_30 : List O := [oa 145 71 1 0,
 ol 146 145 1,
 oa 147 72 1 0,
 ol 148 147 4,
 oa 149 73 1 0,
 ol 150 149 16,
 oa 151 71 5 3,
 ⟨none,.store 1 (.t 151) (.t 146),none,67,[151,146]⟩,
 oa 152 72 5 207,
 ⟨none,.store 1 (.t 152) (.t 148),none,463,[152,148]⟩,
 oa 153 73 5 1023,
 ⟨none,.store 1 (.t 153) (.t 150),none,2047,[153,150]⟩]
theorem k9_30 (lo : Nat) (hx : XDK P E ro L K Q lo h [true,true,true,true,true,true,true,true,true,true,true,true] r9_30 ρ h) : XD P E ro L r9_30 K ρ h Q := XD_keeps rfl rfl hx
def r9_31 : List O := [oa 154 71 1 0,
 ol 155 154 1,
 ⟨some 156,.call (.k (.func 27 [] [])) [(.t 155)],none,3,[156,155]⟩,
 ⟨some 157,.bin .add (some .str) true (.k (.str [115,112,111,105,108,32])) (.t 156),none,7,[157,156]⟩,
 ⟨some 158,.bin .add (some .str) true (.t 157) (.k (.str [32])),none,15,[158,157]⟩,
 oa 159 72 1 0,
 ol 160 159 32,
 oa 161 73 1 0,
 ol 162 161 128,
 ⟨some 163,.cvt .i64 (.t 162),none,384,[163,162]⟩,
 ⟨some 164,.bslice 3 2 [.int .i64 0,.int .i64 0] [(0,1,(.t 160)),(1,1,(.t 163))],none,992,[164,160,163]⟩,
 ⟨some 165,.call (.k (.func 24 [] [])) [(.t 164)],none,2023,[165,164]⟩,
 ⟨some 166,.bin .add (some .str) false (.t 158) (.t 165),none,4095,[166,158,165]⟩,
 om 6 166 8191]
theorem d9_31 (hx : XDQ P E ro L K Q h [true,true,true,true,true,false,false,false,false,false,false,true,true,true] r9_31 ρ h) : XD P E ro L r9_31 K ρ h Q := XD_quiet rfl rfl hx
def r9_32 : List O := [⟨some 168,.bin .eql (some .int) true (.t 23) (.k (.int .i64 10)),none,0,[168,23]⟩,
 om 167 168 1]
def r9_33 : List O := [oa 169 1 1 0,
 oN 170 2 169 1,
 oa 171 75 1 0,
 ol 172 171 4,
 oa 173 1 5 3,
 ⟨none,.store 2 (.t 173) (.t 170),none,19,[173,170]⟩,
 oa 174 75 5 63,
 ⟨none,.store 1 (.t 174) (.t 172),none,127,[174,172]⟩]
theorem k9_33 (lo : Nat) (hx : XDK P E ro L K Q lo h [true,true,true,true,true,true,true,true] r9_33 ρ h) : XD P E ro L r9_33 K ρ h Q := XD_keeps rfl rfl hx
def r9_34 : List O := [om 175 4 0,
 ⟨some 176,.bin .add (some .str) true (.k (.str [99,114,97,115,104,32])) (.t 175),none,1,[176,175]⟩,
 ⟨some 177,.bin .add (some .str) true (.t 176) (.k (.str [32])),none,3,[177,176]⟩,
 oa 178 75 1 0,
 ol 179 178 8,
 ⟨some 180,.bslice 3 1 [.int .i64 0] [(0,1,(.t 179))],none,24,[180,179]⟩,
 ⟨some 181,.call (.k (.func 24 [] [])) [(.t 180)],none,56,[181,180]⟩,
 ⟨some 182,.bin .add (some .str) false (.t 177) (.t 181),none,127,[182,177,181]⟩,
 om 6 182 255]
def r9_35 : List O := [⟨some 184,.bin .eql (some .int) true (.t 23) (.k (.int .i64 11)),none,0,[184,23]⟩,
 om 183 184 1]
def r9_36 : List O := [oa 185 1 1 0,
 oN 186 2 185 1,
 oa 187 74 1 0,
 ol 188 187 4,
 oa 189 75 1 0,
 ol 190 189 16,
 oa 191 1 5 3,
 ⟨none,.store 2 (.t 191) (.t 186),none,67,[191,186]⟩,
 oa 192 74 5 207,
 ⟨none,.store 1 (.t 192) (.t 188),none,463,[192,188]⟩,
 oa 193 75 5 1023,
 ⟨none,.store 1 (.t 193) (.t 190),none,2047,[193,190]⟩]
theorem k9_36 (lo : Nat) (hx : XDK P E ro L K Q lo h [true,true,true,true,true,true,true,true,true,true,true,true] r9_36 ρ h) : XD P E ro L r9_36 K ρ h Q := XD_keeps rfl rfl hx
def r9_37 : List O := [om 194 4 0,
 ⟨some 195,.bin .add (some .str) true (.k (.str [102,117,115,101,32])) (.t 194),none,1,[195,194]⟩,
 ⟨some 196,.bin .add (some .str) true (.t 195) (.k (.str [32])),none,3,[196,195]⟩,
 oa 197 74 1 0,
 ol 198 197 8,
 oa 199 75 1 0,
 ol 200 199 32,
 ⟨some 201,.bslice 3 2 [.int .i64 0,.int .i64 0] [(0,1,(.t 198)),(1,1,(.t 200))],none,120,[201,198,200]⟩,
 ⟨some 202,.call (.k (.func 24 [] [])) [(.t 201)],none,248,[202,201]⟩,
 ⟨some 203,.bin .add (some .str) false (.t 196) (.t 202),none,511,[203,196,202]⟩,
 om 6 203 1023]
def r9_38 : List O := [⟨some 205,.bin .eql (some .int) true (.t 23) (.k (.int .i64 13)),none,0,[205,23]⟩,
 om 204 205 1]
def r9_39 : List O := [⟨some 207,.bin .eql (some .int) true (.t 23) (.k (.int .i64 14)),none,0,[207,23]⟩,
 om 206 207 1]
def r9_40 : List O := [⟨some 2,.mv (.k (.str [])),none,0,[2]⟩,
 ⟨some 3,.mv (.k (.int .i64 1)),none,1,[3]⟩]
def r9_41 : List O := [om 208 7 0,
 ⟨some 209,.un .not (.t 208),none,1,[209,208]⟩,
 om 210 209 3,
 ⟨some 211,.mv (.t 8),some (210,false),7,[211,210,8]⟩,
 ⟨some 212,.un .not (.t 211),some (210,false),15,[212,210,211]⟩,
 ⟨some 213,.mv (.t 212),some (210,false),31,[213,210,212]⟩,
 oag 214 15 1 213 63,
 oNg 215 56 214 213 127,
 ⟨some 216,.call (.k (.func 28 [] [])) [(.t 215)],some (213,true),255,[216,213,215]⟩,
 ⟨some 217,.un .not (.t 216),some (213,true),511,[217,213,216]⟩,
 ⟨some 218,.pick (.t 213) (.t 217) (.k (.bool false)),some (210,false),1023,[218,210,213,217]⟩,
 ⟨some 219,.pick (.t 210) (.k (.bool true)) (.t 218),none,2047,[219,210,218]⟩,
 om 220 219 4095,
 ⟨some 221,.loadN 76 (.t 1),some (220,false),8191,[221,220,1]⟩,
 ⟨some 222,.loadN 76 (.t 5),some (220,false),8191,[222,220,5]⟩,
 ⟨some 223,.call (.k (.func 29 [] [])) [(.t 221),(.t 222)],some (220,false),32767,[223,220,221,222]⟩,
 ⟨some 224,.un .not (.t 223),some (220,false),65535,[224,220,223]⟩,
 ⟨some 225,.pick (.t 220) (.k (.bool true)) (.t 224),none,131071,[225,220,224]⟩]
def r9_42 : List O := [⟨some 2,.mv (.k (.str [])),none,0,[2]⟩,
 ⟨some 3,.mv (.k (.int .i64 1)),none,1,[3]⟩]
def r9_43 : List O := [om 226 6 0,
 om 2 226 1,
 ⟨some 3,.mv (.k (.int .i64 0)),none,3,[3]⟩]
def c9 : C := .seq (.region r9_0) (.seq (.region r9_1) (.seq (.region r9_2) (.seq (.region r9_3) (.seq (.seq (.region r9_4) (.block 0 (.seq (.seq (.region r9_5) (.cond (.t 24) (.skip) (.region r9_6))) (.cond (.t 24) (.seq (.region r9_7) (.region r9_8)) (.seq (.region r9_9) (.cond (.t 37) (.seq (.draw r9_10) (.seq (.region r9_11) (.region r9_12))) (.seq (.region r9_13) (.cond (.t 65) (.seq (.draw r9_14) (.region r9_15)) (.seq (.region r9_16) (.cond (.t 81) (.seq (.draw r9_17) (.seq (.region r9_18) (.region r9_19))) (.seq (.region r9_20) (.cond (.t 109) (.seq (.region r9_21) (.seq (.region r9_22) (.region r9_23))) (.seq (.seq (.region r9_24) (.cond (.t 127) (.skip) (.seq (.region r9_25) (.cond (.t 127) (.skip) (.region r9_26))))) (.cond (.t 127) (.seq (.region r9_27) (.draw r9_28)) (.seq (.region r9_29) (.cond (.t 143) (.seq (.draw r9_30) (.draw r9_31)) (.seq (.region r9_32) (.cond (.t 167) (.seq (.draw r9_33) (.region r9_34)) (.seq (.region r9_35) (.cond (.t 183) (.seq (.draw r9_36) (.region r9_37)) (.seq (.region r9_38) (.cond (.t 204) (.region [⟨some 6,.mv (.k (.str [97,108,108])),none,0,[6]⟩]) (.seq (.region r9_39) (.cond (.t 206) (.region [⟨some 6,.mv (.k (.str [97,114,114,105,118,101])),none,0,[6]⟩]) (.seq (.region r9_40) (.ret)))))))))))))))))))))))))) (.seq (.seq (.region r9_41) (.cond (.t 225) (.seq (.region r9_42) (.ret)) (.skip))) (.seq (.region r9_43) (.ret)))))))
def fn9 : Fn := ⟨227,[.t 2,.t 3],c9⟩
def r10_0 : List O := [⟨some 1,.box 52 (.t 0),none,0,[1,0]⟩,
 ⟨some 2,.mv (.k (.str [])),none,0,[2]⟩,
 ⟨some 3,.mv (.k (.int .i64 0)),none,2,[3]⟩]
def r10_1 : List O := [oa 9 0 1 0,
 ol 10 9 1,
 ⟨some 11,.build [.int .i64 0,.int .i64 0,.int .i64 0,.int .i64 0,.int .i64 0,.int .i64 0,.int .i64 0,.int .i64 0,.int .i64 0,.str [],.str [],.str [],.int .i64 0,.str [],.int .i64 0,.int .i64 0,.int .i64 0,.int .i64 0,.int .i64 0,.int .i64 0,.int .i64 0,.int .i64 0,.int .i64 0,.str [],.str [],.str [],.int .i64 0,.int .i64 0,(.slice none 0 0 false),.int .i64 0,.int .i64 0,.int .i64 0,.int .i64 0,.int .i64 0,.int .i64 0,.int .i64 0,.int .i64 0,.int .i64 0,.int .i64 0,.int .i64 0,.int .i64 0,.int .i64 0,.int .i64 0,.int .i64 0,.int .i64 0,.int .i64 0,.int .i64 0,.int .i64 0,.int .i64 0,.int .i64 0,.int .i64 0,.int .i64 0,.int .i64 0,.int .i64 0,.int .i64 0,.int .i64 0,.int .i64 0,.int .i64 0,.int .i64 0,.int .i64 0,.int .i64 0,.int .i64 0,.int .i64 0,.int .i64 0,.int .i64 0,.int .i64 0,.int .i64 0,(.slice none 0 0 false),.int .i64 0,.int .i64 0,.int .i64 0,.int .i64 0,.int .i64 0,(.int .u8 0),.int .i64 0,.int .i64 0] [(0,1,(.t 10))],none,3,[11,10]⟩,
 ⟨some 4,.alloc 52 [.int .i64 0,.int .i64 0,.int .i64 0,.int .i64 0,.int .i64 0,.int .i64 0,.int .i64 0,.int .i64 0,.int .i64 0,.str [],.str [],.str [],.int .i64 0,.str [],.int .i64 0,.int .i64 0,.int .i64 0,.int .i64 0,.int .i64 0,.int .i64 0,.int .i64 0,.int .i64 0,.int .i64 0,.str [],.str [],.str [],.int .i64 0,.int .i64 0,(.slice none 0 0 false),.int .i64 0,.int .i64 0,.int .i64 0,.int .i64 0,.int .i64 0,.int .i64 0,.int .i64 0,.int .i64 0,.int .i64 0,.int .i64 0,.int .i64 0,.int .i64 0,.int .i64 0,.int .i64 0,.int .i64 0,.int .i64 0,.int .i64 0,.int .i64 0,.int .i64 0,.int .i64 0,.int .i64 0,.int .i64 0,.int .i64 0,.int .i64 0,.int .i64 0,.int .i64 0,.int .i64 0,.int .i64 0,.int .i64 0,.int .i64 0,.int .i64 0,.int .i64 0,.int .i64 0,.int .i64 0,.int .i64 0,.int .i64 0,.int .i64 0,.int .i64 0,(.slice none 0 0 false),.int .i64 0,.int .i64 0,.int .i64 0,.int .i64 0,.int .i64 0,(.int .u8 0),.int .i64 0,.int .i64 0],none,0,[4]⟩,
 ⟨none,.store 76 (.t 4) (.t 11),none,15,[4,11]⟩]
def r10_2 : List O := [oa 12 0 1 0,
 ol 13 12 1]
def r10_3 : List O := [⟨some 25,.bin .eql (some .int) true (.t 13) (.k (.int .i64 6)),none,0,[25,13]⟩,
 om 24 25 1]
def r10_4 : List O := [oa 26 71 1 0,
 ol 27 26 1,
 oa 28 71 4 3,
 ⟨none,.store 1 (.t 28) (.t 27),none,7,[28,27]⟩]
def r10_5 : List O := [oa 29 71 1 0,
 ol 30 29 1,
 ⟨some 31,.call (.k (.func 30 [] [])) [(.t 30)],none,3,[31,30]⟩,
 ⟨some 32,.bin .add (some .str) true (.k (.str [100,101,108,105,118,101,114,32])) (.t 31),none,7,[32,31]⟩,
 om 5 32 15]
def r10_6 : List O := [⟨some 34,.bin .eql (some .int) true (.t 13) (.k (.int .i64 7)),none,0,[34,13]⟩,
 om 33 34 1]
def r10_7 : List O := [oa 35 71 1 0,
 ol 36 35 1,
 oa 37 71 4 3,
 ⟨none,.store 1 (.t 37) (.t 36),none,7,[37,36]⟩]
def r10_8 : List O := [oa 38 71 1 0,
 ol 39 38 1,
 ⟨some 40,.call (.k (.func 30 [] [])) [(.t 39)],none,3,[40,39]⟩,
 ⟨some 41,.bin .add (some .str) true (.k (.str [100,114,111,112,32])) (.t 40),none,7,[41,40]⟩,
 om 5 41 15]
def r10_9 : List O := [⟨some 43,.bin .eql (some .int) true (.t 13) (.k (.int .i64 8)),none,0,[43,13]⟩,
 om 42 43 1]
def r10_10 : List O := [oa 44 71 1 0,
 ol 45 44 1,
 oa 46 71 4 3,
 ⟨none,.store 1 (.t 46) (.t 45),none,7,[46,45]⟩]
def r10_11 : List O := [oa 47 71 1 0,
 ol 48 47 1,
 ⟨some 49,.call (.k (.func 30 [] [])) [(.t 48)],none,3,[49,48]⟩,
 ⟨some 50,.bin .add (some .str) true (.k (.str [100,111,117,98,108,101,32])) (.t 49),none,7,[50,49]⟩,
 om 5 50 15]
def r10_12 : List O := [⟨some 52,.bin .eql (some .int) true (.t 13) (.k (.int .i64 9)),none,0,[52,13]⟩,
 om 51 52 1]
def r10_13 : List O := [oa 53 71 1 0,
 ol 54 53 1,
 oa 55 72 1 0,
 ol 56 55 4,
 oa 57 73 1 0,
 ol 58 57 16,
 oa 59 71 4 3,
 ⟨none,.store 1 (.t 59) (.t 54),none,67,[59,54]⟩,
 oa 60 72 4 207,
 ⟨none,.store 1 (.t 60) (.t 56),none,463,[60,56]⟩,
 oa 61 73 4 1023,
 ⟨none,.store 1 (.t 61) (.t 58),none,2047,[61,58]⟩]
theorem k10_13 (lo : Nat) (hx : XDK P E ro L K Q lo h [true,true,true,true,true,true,true,true,true,true,true,true] r10_13 ρ h) : XD P E ro L r10_13 K ρ h Q := XD_keeps rfl rfl hx
def r10_14 : List O := [oa 62 71 1 0,
 ol 63 62 1,
 ⟨some 64,.call (.k (.func 30 [] [])) [(.t 63)],none,3,[64,63]⟩,
 ⟨some 65,.bin .add (some .str) true (.k (.str [115,112,111,105,108,32])) (.t 64),none,7,[65,64]⟩,
 oa 66 72 1 0,
 ol 67 66 16,
 oa 68 73 1 0,
 ol 69 68 64,
 ⟨some 70,.cvt .i64 (.t 69),none,192,[70,69]⟩,
 ⟨some 71,.bslice 3 2 [.int .i64 0,.int .i64 0] [(0,1,(.t 67)),(1,1,(.t 70))],none,496,[71,67,70]⟩,
 ⟨some 72,.call (.k (.func 31 [] [])) [(.t 71)],none,1015,[72,71]⟩,
 ⟨some 73,.bin .add (some .str) false (.t 65) (.t 72),none,2047,[73,65,72]⟩,
 om 5 73 4095]
theorem d10_14 (hx : XDQ P E ro L K Q h [true,true,true,true,false,false,false,false,false,false,true,true,true] r10_14 ρ h) : XD P E ro L r10_14 K ρ h Q := XD_quiet rfl rfl hx
def r10_15 : List O := [⟨some 75,.bin .eql (some .int) true (.t 13) (.k (.int .i64 13)),none,0,[75,13]⟩,
 om 74 75 1]
def r10_16 : List O := [⟨some 77,.bin .eql (some .int) true (.t 13) (.k (.int .i64 14)),none,0,[77,13]⟩,
 om 76 77 1]
def r10_17 : List O := [oN 15 76 1 0,
 ⟨some 16,.call (.k (.func 32 [] [])) [(.t 15)],none,1,[16,15]⟩,
 om 14 16 3,
 ox 17 14 0 7,
 ox 18 14 1 7,
 ox 19 14 2 7,
 ⟨some 7,.alloc 52 [.int .i64 0,.int .i64 0,.int .i64 0,.int .i64 0,.int .i64 0,.int .i64 0,.int .i64 0,.int .i64 0,.int .i64 0,.str [],.str [],.str [],.int .i64 0,.str [],.int .i64 0,.int .i64 0,.int .i64 0,.int .i64 0,.int .i64 0,.int .i64 0,.int .i64 0,.int .i64 0,.int .i64 0,.str [],.str [],.str [],.int .i64 0,.int .i64 0,(.slice none 0 0 false),.int .i64 0,.int .i64 0,.int .i64 0,.int .i64 0,.int .i64 0,.int .i64 0,.int .i64 0,.int .i64 0,.int .i64 0,.int .i64 0,.int .i64 0,.int .i64 0,.int .i64 0,.int .i64 0,.int .i64 0,.int .i64 0,.int .i64 0,.int .i64 0,.int .i64 0,.int .i64 0,.int .i64 0,.int .i64 0,.int .i64 0,.int .i64 0,.int .i64 0,.int .i64 0,.int .i64 0,.int .i64 0,.int .i64 0,.int .i64 0,.int .i64 0,.int .i64 0,.int .i64 0,.int .i64 0,.int .i64 0,.int .i64 0,.int .i64 0,.int .i64 0,(.slice none 0 0 false),.int .i64 0,.int .i64 0,.int .i64 0,.int .i64 0,.int .i64 0,(.int .u8 0),.int .i64 0,.int .i64 0],none,0,[7]⟩,
 om 6 17 79,
 ⟨none,.store 76 (.t 7) (.t 18),none,223,[7,18]⟩,
 om 8 19 511]
def r10_18 : List O := [om 20 8 0,
 ⟨some 21,.un .not (.t 20),none,1,[21,20]⟩]
def r10_19 : List O := [⟨some 2,.mv (.k (.str [])),none,0,[2]⟩,
 ⟨some 3,.mv (.k (.int .i64 1)),none,1,[3]⟩]
def r10_20 : List O := [om 22 6 0,
 oN 23 76 7 0,
 om 5 22 1,
 ⟨none,.store 76 (.t 4) (.t 23),none,7,[4,23]⟩]
theorem d10_20 (hx : XDO P E ro L r10_20 K ρ h Q) : XD P E ro L r10_20 K ρ h Q := XD_ord rfl hx
def r10_21 : List O := [oN 78 76 4 0,
 oN 79 76 1 0,
 ⟨some 80,.call (.k (.func 33 [] [])) [(.t 78),(.t 79)],none,3,[80,78,79]⟩,
 ⟨some 81,.un .not (.t 80),none,7,[81,80]⟩]
def r10_22 : List O := [⟨some 2,.mv (.k (.str [])),none,0,[2]⟩,
 ⟨some 3,.mv (.k (.int .i64 1)),none,1,[3]⟩]
def r10_23 : List O := [om 82 5 0,
 om 2 82 1,
 ⟨some 3,.mv (.k (.int .i64 0)),none,3,[3]⟩]
def c10 : C := .seq (.region r10_0) (.seq (.region r10_1) (.seq (.region [⟨some 5,.mv (.k (.str [])),none,0,[5]⟩]) (.seq (.seq (.region r10_2) (.block 0 (.seq (.region r10_3) (.cond (.t 24) (.seq (.region r10_4) (.region r10_5)) (.seq (.region r10_6) (.cond (.t 33) (.seq (.region r10_7) (.region r10_8)) (.seq (.region r10_9) (.cond (.t 42) (.seq (.region r10_10) (.region r10_11)) (.seq (.region r10_12) (.cond (.t 51) (.seq (.draw r10_13) (.draw r10_14)) (.seq (.region r10_15) (.cond (.t 74) (.region [⟨some 5,.mv (.k (.str [97,108,108])),none,0,[5]⟩]) (.seq (.region r10_16) (.cond (.t 76) (.region [⟨some 5,.mv (.k (.str [97,114,114,105,118,101])),none,0,[5]⟩]) (.seq (.region r10_17) (.seq (.seq (.region r10_18) (.cond (.t 21) (.seq (.region r10_19) (.ret)) (.skip))) (.draw r10_20))))))))))))))))) (.seq (.seq (.region r10_21) (.cond (.t 81) (.seq (.region r10_22) (.ret)) (.skip))) (.seq (.region r10_23) (.ret))))))
def fn10 : Fn := ⟨83,[.t 2,.t 3],c10⟩
def r12_0 : List O := [⟨some 1,.box 50 (.t 0),none,0,[1,0]⟩,
 ⟨some 2,.mv (.k (.str [])),none,0,[2]⟩,
 ⟨some 3,.mv (.k (.int .i64 0)),none,2,[3]⟩]
def r12_1 : List O := [oa 8 0 1 0,
 ol 9 8 1,
 ⟨some 10,.build [.int .i64 0,.int .i64 0,.int .i64 0,.int .i64 0,.int .i64 0,.int .i64 0,.int .i64 0,.int .i64 0,.str [],.str [],.str [],.int .i64 0,.int .i64 0,.int .i64 0,.int .i64 0,.int .i64 0,.int .i64 0,.int .i64 0,.int .i64 0,.int .i64 0,.int .i64 0,.int .i64 0,.int .i64 0,.int .i64 0,.int .i64 0,.int .i64 0,.int .i64 0,.int .i64 0,.int .i64 0,.int .i64 0,.int .i64 0,.int .i64 0,.int .i64 0,.int .i64 0,.int .i64 0,.int .i64 0,.int .i64 0,.int .i64 0,.int .i64 0,.int .i64 0,.int .i64 0,.int .i64 0,.int .i64 0,.int .i64 0,.int .i64 0,.int .i64 0,.int .i64 0,.int .i64 0,.int .i64 0,.int .i64 0,.int .i64 0,.int .i64 0,.int .i64 0,.int .i64 0] [(0,1,(.t 9))],none,3,[10,9]⟩,
 ⟨some 4,.alloc 81 [.int .i64 0,.int .i64 0,.int .i64 0,.int .i64 0,.int .i64 0,.int .i64 0,.int .i64 0,.int .i64 0,.str [],.str [],.str [],.int .i64 0,.int .i64 0,.int .i64 0,.int .i64 0,.int .i64 0,.int .i64 0,.int .i64 0,.int .i64 0,.int .i64 0,.int .i64 0,.int .i64 0,.int .i64 0,.int .i64 0,.int .i64 0,.int .i64 0,.int .i64 0,.int .i64 0,.int .i64 0,.int .i64 0,.int .i64 0,.int .i64 0,.int .i64 0,.int .i64 0,.int .i64 0,.int .i64 0,.int .i64 0,.int .i64 0,.int .i64 0,.int .i64 0,.int .i64 0,.int .i64 0,.int .i64 0,.int .i64 0,.int .i64 0,.int .i64 0,.int .i64 0,.int .i64 0,.int .i64 0,.int .i64 0,.int .i64 0,.int .i64 0,.int .i64 0,.int .i64 0],none,0,[4]⟩,
 ⟨none,.store 54 (.t 4) (.t 10),none,15,[4,10]⟩]
def r12_2 : List O := [oa 11 0 1 0,
 ol 12 11 1]
def r12_3 : List O := [⟨some 14,.bin .eql (some .int) true (.t 12) (.k (.int .i64 0)),none,0,[14,12]⟩,
 om 13 14 1]
def r12_4 : List O := [⟨some 16,.bin .eql (some .int) true (.t 12) (.k (.int .i64 6)),none,0,[16,12]⟩,
 om 15 16 1]
def r12_5 : List O := [oa 17 53 1 0,
 ol 18 17 1,
 oa 19 54 1 0,
 ol 20 19 4,
 oa 21 51 4 3,
 ⟨none,.store 1 (.t 21) (.t 18),none,19,[21,18]⟩,
 oa 22 52 4 63,
 ⟨none,.store 1 (.t 22) (.t 20),none,127,[22,20]⟩]
theorem k12_5 (lo : Nat) (hx : XDK P E ro L K Q lo h [true,true,true,true,true,true,true,true] r12_5 ρ h) : XD P E ro L r12_5 K ρ h Q := XD_keeps rfl rfl hx
def r12_6 : List O := [oa 23 53 1 0,
 ol 24 23 1,
 oa 25 54 1 0,
 ol 26 25 4,
 ⟨some 27,.bslice 3 2 [.int .i64 0,.int .i64 0] [(0,1,(.t 24)),(1,1,(.t 26))],none,15,[27,24,26]⟩,
 ⟨some 28,.call (.k (.func 24 [] [])) [(.t 27)],none,31,[28,27]⟩,
 ⟨some 29,.bin .add (some .str) true (.k (.str [106,111,105,110,32])) (.t 28),none,63,[29,28]⟩,
 om 5 29 127]
def r12_7 : List O := [⟨some 31,.bin .eql (some .int) true (.t 12) (.k (.int .i64 7)),none,0,[31,12]⟩,
 om 30 31 1]
def r12_8 : List O := [oa 32 53 1 0,
 ol 33 32 1,
 oa 34 51 4 3,
 ⟨none,.store 1 (.t 34) (.t 33),none,7,[34,33]⟩]
def r12_9 : List O := [oa 35 53 1 0,
 ol 36 35 1,
 ⟨some 37,.bslice 3 1 [.int .i64 0] [(0,1,(.t 36))],none,3,[37,36]⟩,
 ⟨some 38,.call (.k (.func 24 [] [])) [(.t 37)],none,7,[38,37]⟩,
 ⟨some 39,.bin .add (some .str) true (.k (.str [108,101,97,118,101,32])) (.t 38),none,15,[39,38]⟩,
 om 5 39 31]
def r12_10 : List O := [⟨some 41,.bin .eql (some .int) true (.t 12) (.k (.int .i64 8)),none,0,[41,12]⟩,
 om 40 41 1]
def r12_11 : List O := [oa 42 53 1 0,
 ol 43 42 1,
 oa 44 55 1 0,
 ol 45 44 4,
 oa 46 51 4 3,
 ⟨none,.store 1 (.t 46) (.t 43),none,19,[46,43]⟩,
 oa 47 53 4 63,
 ⟨none,.store 1 (.t 47) (.t 45),none,127,[47,45]⟩]
theorem k12_11 (lo : Nat) (hx : XDK P E ro L K Q lo h [true,true,true,true,true,true,true,true] r12_11 ρ h) : XD P E ro L r12_11 K ρ h Q := XD_keeps rfl rfl hx
def r12_12 : List O := [oa 48 53 1 0,
 ol 49 48 1,
 ⟨some 50,.bslice 3 1 [.int .i64 0] [(0,1,(.t 49))],none,3,[50,49]⟩,
 ⟨some 51,.call (.k (.func 24 [] [])) [(.t 50)],none,7,[51,50]⟩,
 ⟨some 52,.bin .add (some .str) true (.k (.str [115,101,97,108,101,100,32])) (.t 51),none,15,[52,51]⟩,
 ⟨some 53,.bin .add (some .str) true (.t 52) (.k (.str [32])),none,31,[53,52]⟩,
 oa 54 55 1 0,
 ol 55 54 64,
 ⟨some 56,.call (.k (.func 27 [] [])) [(.t 55)],none,207,[56,55]⟩,
 ⟨some 57,.bin .add (some .str) false (.t 53) (.t 56),none,511,[57,53,56]⟩,
 om 5 57 1023]
theorem d12_12 (hx : XDQ P E ro L K Q h [true,true,true,true,true,true,false,false,true,true,true] r12_12 ρ h) : XD P E ro L r12_12 K ρ h Q := XD_quiet rfl rfl hx
def r12_13 : List O := [oN 59 56 1 0,
 ⟨some 60,.call (.k (.func 34 [] [])) [(.t 59)],none,1,[60,59]⟩,
 om 58 60 3,
 ox 61 58 0 7,
 ox 62 58 1 7,
 ⟨some 6,.alloc 81 [.int .i64 0,.int .i64 0,.int .i64 0,.int .i64 0,.int .i64 0,.int .i64 0,.int .i64 0,.int .i64 0,.str [],.str [],.str [],.int .i64 0,.int .i64 0,.int .i64 0,.int .i64 0,.int .i64 0,.int .i64 0,.int .i64 0,.int .i64 0,.int .i64 0,.int .i64 0,.int .i64 0,.int .i64 0,.int .i64 0,.int .i64 0,.int .i64 0,.int .i64 0,.int .i64 0,.int .i64 0,.int .i64 0,.int .i64 0,.int .i64 0,.int .i64 0,.int .i64 0,.int .i64 0,.int .i64 0,.int .i64 0,.int .i64 0,.int .i64 0,.int .i64 0,.int .i64 0,.int .i64 0,.int .i64 0,.int .i64 0,.int .i64 0,.int .i64 0,.int .i64 0,.int .i64 0,.int .i64 0,.int .i64 0,.int .i64 0,.int .i64 0,.int .i64 0,.int .i64 0],none,0,[6]⟩,
 ⟨none,.store 54 (.t 6) (.t 61),none,47,[6,61]⟩,
 om 7 62 127]
def r12_14 : List O := [om 63 5 0,
 ⟨some 64,.bin .eql (some .str) true (.t 63) (.k (.str [])),none,1,[64,63]⟩,
 om 65 64 3,
 ⟨some 66,.mv (.t 7),some (65,false),7,[66,65,7]⟩,
 ⟨some 67,.un .not (.t 66),some (65,false),15,[67,65,66]⟩,
 ⟨some 68,.pick (.t 65) (.k (.bool true)) (.t 67),none,31,[68,65,67]⟩,
 om 69 68 63,
 ⟨some 70,.loadN 54 (.t 6),some (69,false),127,[70,69,6]⟩,
 ⟨some 71,.loadN 54 (.t 4),some (69,false),127,[71,69,4]⟩,
 ⟨some 72,.bin .neq (some (.fcons 0 1 false .int (.fcons 1 1 false .int (.fcons 2 1 false .int (.fcons 3 8 true (.fcons 0 2 true (.fcons 0 1 false .int (.fcons 1 1 false .int .fnil)) (.fcons 2 1 false .int (.fcons 3 1 false .int (.fcons 4 1 false .int (.fcons 5 1 false .str (.fcons 6 1 false .str (.fcons 7 1 false .str .fnil))))))) (.fcons 11 1 false .int (.fcons 12 1 false .int (.fcons 13 25 true (.fcons 0 1 false .int (.fcons 1 8 true (.ar 8 1 false .int) (.fcons 9 8 true (.ar 8 1 false .int) (.fcons 17 8 true (.ar 8 1 false .int) .fnil)))) (.fcons 38 1 false .int (.fcons 39 8 true (.ar 8 1 false .int) (.fcons 47 1 false .int (.fcons 48 1 false .int (.fcons 49 1 false .int (.fcons 50 1 false .int (.fcons 51 1 false .int (.fcons 52 1 false .int (.fcons 53 1 false .int .fnil))))))))))))))))) false (.t 70) (.t 71),some (69,false),511,[72,69,70,71]⟩,
 ⟨some 73,.pick (.t 69) (.k (.bool true)) (.t 72),none,1023,[73,69,72]⟩]
def r12_15 : List O := [⟨some 2,.mv (.k (.str [])),none,0,[2]⟩,
 ⟨some 3,.mv (.k (.int .i64 1)),none,1,[3]⟩]
def r12_16 : List O := [om 74 5 0,
 om 2 74 1,
 ⟨some 3,.mv (.k (.int .i64 0)),none,3,[3]⟩]
def c12 : C := .seq (.region r12_0) (.seq (.region r12_1) (.seq (.region [⟨some 5,.mv (.k (.str [])),none,0,[5]⟩]) (.seq (.seq (.region r12_2) (.block 0 (.seq (.region r12_3) (.cond (.t 13) (.region [⟨some 5,.mv (.k (.str [110,111,110,101])),none,0,[5]⟩]) (.seq (.region r12_4) (.cond (.t 15) (.seq (.draw r12_5) (.region r12_6)) (.seq (.region r12_7) (.cond (.t 30) (.seq (.region r12_8) (.region r12_9)) (.seq (.region r12_10) (.cond (.t 40) (.seq (.draw r12_11) (.draw r12_12)) (.skip))))))))))) (.seq (.region r12_13) (.seq (.seq (.region r12_14) (.cond (.t 73) (.seq (.region r12_15) (.ret)) (.skip))) (.seq (.region r12_16) (.ret)))))))
def fn12 : Fn := ⟨75,[.t 2,.t 3],c12⟩
def r13_0 : List O := [⟨some 1,.box 50 (.t 0),none,0,[1,0]⟩,
 ⟨some 2,.mv (.k (.str [])),none,0,[2]⟩,
 ⟨some 3,.mv (.k (.int .i64 0)),none,2,[3]⟩]
def r13_1 : List O := [oa 6 0 1 0,
 ol 7 6 1,
 ⟨some 8,.build [.int .i64 0,.int .i64 0,.int .i64 0,.int .i64 0,.int .i64 0,.int .i64 0,.int .i64 0,.int .i64 0,.str [],.str [],.str [],.int .i64 0,.int .i64 0,(.slice none 0 0 false),.int .i64 0,.int .i64 0,.int .i64 0,.int .i64 0,.int .i64 0,.int .i64 0,.int .i64 0,.int .i64 0,.int .i64 0,.int .i64 0,.int .i64 0,.int .i64 0,.int .i64 0,.int .i64 0,.int .i64 0,.int .i64 0,.int .i64 0,.int .i64 0,.int .i64 0,.int .i64 0,.int .i64 0,.int .i64 0,.int .i64 0,.int .i64 0,.int .i64 0,.int .i64 0,.int .i64 0,.int .i64 0,.int .i64 0,.int .i64 0,.int .i64 0,.int .i64 0,.int .i64 0,.int .i64 0,.int .i64 0,.int .i64 0,.int .i64 0,.int .i64 0,(.slice none 0 0 false),.int .i64 0,.int .i64 0,.int .i64 0] [(0,1,(.t 7))],none,3,[8,7]⟩,
 ⟨some 4,.alloc 50 [.int .i64 0,.int .i64 0,.int .i64 0,.int .i64 0,.int .i64 0,.int .i64 0,.int .i64 0,.int .i64 0,.str [],.str [],.str [],.int .i64 0,.int .i64 0,(.slice none 0 0 false),.int .i64 0,.int .i64 0,.int .i64 0,.int .i64 0,.int .i64 0,.int .i64 0,.int .i64 0,.int .i64 0,.int .i64 0,.int .i64 0,.int .i64 0,.int .i64 0,.int .i64 0,.int .i64 0,.int .i64 0,.int .i64 0,.int .i64 0,.int .i64 0,.int .i64 0,.int .i64 0,.int .i64 0,.int .i64 0,.int .i64 0,.int .i64 0,.int .i64 0,.int .i64 0,.int .i64 0,.int .i64 0,.int .i64 0,.int .i64 0,.int .i64 0,.int .i64 0,.int .i64 0,.int .i64 0,.int .i64 0,.int .i64 0,.int .i64 0,.int .i64 0,(.slice none 0 0 false),.int .i64 0,.int .i64 0,.int .i64 0],none,0,[4]⟩,
 ⟨none,.store 56 (.t 4) (.t 8),none,15,[4,8]⟩]
def r13_2 : List O := [oa 9 0 1 0,
 ol 10 9 1]
def r13_3 : List O := [⟨some 12,.bin .eql (some .int) true (.t 10) (.k (.int .i64 0)),none,0,[12,10]⟩,
 om 11 12 1]
def r13_4 : List O := [⟨some 14,.bin .eql (some .int) true (.t 10) (.k (.int .i64 6)),none,0,[14,10]⟩,
 om 13 14 1]
def r13_5 : List O := [oa 15 53 1 0,
 ol 16 15 1,
 oa 17 54 1 0,
 ol 18 17 4,
 oa 19 53 4 3,
 ⟨none,.store 1 (.t 19) (.t 16),none,19,[19,16]⟩,
 oa 20 54 4 63,
 ⟨none,.store 1 (.t 20) (.t 18),none,127,[20,18]⟩]
theorem k13_5 (lo : Nat) (hx : XDK P E ro L K Q lo h [true,true,true,true,true,true,true,true] r13_5 ρ h) : XD P E ro L r13_5 K ρ h Q := XD_keeps rfl rfl hx
def r13_6 : List O := [oa 21 53 1 0,
 ol 22 21 1,
 oa 23 54 1 0,
 ol 24 23 4,
 ⟨some 25,.bslice 3 2 [.int .i64 0,.int .i64 0] [(0,1,(.t 22)),(1,1,(.t 24))],none,15,[25,22,24]⟩,
 ⟨some 26,.call (.k (.func 31 [] [])) [(.t 25)],none,31,[26,25]⟩,
 ⟨some 27,.bin .add (some .str) true (.k (.str [106,111,105,110])) (.t 26),none,63,[27,26]⟩,
 om 5 27 127]
def r13_7 : List O := [⟨some 29,.bin .eql (some .int) true (.t 10) (.k (.int .i64 7)),none,0,[29,10]⟩,
 om 28 29 1]
def r13_8 : List O := [oa 30 53 1 0,
 ol 31 30 1,
 oa 32 53 4 3,
 ⟨none,.store 1 (.t 32) (.t 31),none,7,[32,31]⟩]
def r13_9 : List O := [oa 33 53 1 0,
 ol 34 33 1,
 ⟨some 35,.bslice 3 1 [.int .i64 0] [(0,1,(.t 34))],none,3,[35,34]⟩,
 ⟨some 36,.call (.k (.func 31 [] [])) [(.t 35)],none,7,[36,35]⟩,
 ⟨some 37,.bin .add (some .str) true (.k (.str [108,101,97,118,101])) (.t 36),none,15,[37,36]⟩,
 om 5 37 31]
def r13_10 : List O := [⟨some 39,.bin .eql (some .int) true (.t 10) (.k (.int .i64 8)),none,0,[39,10]⟩,
 om 38 39 1]
def r13_11 : List O := [oa 40 53 1 0,
 ol 41 40 1,
 oa 42 55 1 0,
 ol 43 42 4,
 oa 44 53 4 3,
 ⟨none,.store 1 (.t 44) (.t 41),none,19,[44,41]⟩,
 oa 45 55 4 63,
 ⟨none,.store 1 (.t 45) (.t 43),none,127,[45,43]⟩]
theorem k13_11 (lo : Nat) (hx : XDK P E ro L K Q lo h [true,true,true,true,true,true,true,true] r13_11 ρ h) : XD P E ro L r13_11 K ρ h Q := XD_keeps rfl rfl hx
def r13_12 : List O := [oa 46 53 1 0,
 ol 47 46 1,
 ⟨some 48,.bslice 3 1 [.int .i64 0] [(0,1,(.t 47))],none,3,[48,47]⟩,
 ⟨some 49,.call (.k (.func 31 [] [])) [(.t 48)],none,7,[49,48]⟩,
 ⟨some 50,.bin .add (some .str) true (.k (.str [115,101,97,108,101,100])) (.t 49),none,15,[50,49]⟩,
 ⟨some 51,.bin .add (some .str) true (.t 50) (.k (.str [32])),none,31,[51,50]⟩,
 oa 52 55 1 0,
 ol 53 52 64,
 ⟨some 54,.call (.k (.func 30 [] [])) [(.t 53)],none,207,[54,53]⟩,
 ⟨some 55,.bin .add (some .str) false (.t 51) (.t 54),none,511,[55,51,54]⟩,
 om 5 55 1023]
theorem d13_12 (hx : XDQ P E ro L K Q h [true,true,true,true,true,true,false,false,true,true,true] r13_12 ρ h) : XD P E ro L r13_12 K ρ h Q := XD_quiet rfl rfl hx
def r13_13 : List O := [⟨some 2,.mv (.k (.str [])),none,0,[2]⟩,
 ⟨some 3,.mv (.k (.int .i64 1)),none,1,[3]⟩]
def r13_14 : List O := [oN 56 56 4 0,
 oN 57 56 1 0,
 ⟨some 58,.call (.k (.func 35 [] [])) [(.t 56),(.t 57)],none,3,[58,56,57]⟩,
 ⟨some 59,.un .not (.t 58),none,7,[59,58]⟩]
def r13_15 : List O := [⟨some 2,.mv (.k (.str [])),none,0,[2]⟩,
 ⟨some 3,.mv (.k (.int .i64 1)),none,1,[3]⟩]
def r13_16 : List O := [om 60 5 0,
 om 2 60 1,
 ⟨some 3,.mv (.k (.int .i64 0)),none,3,[3]⟩]
def c13 : C := .seq (.region r13_0) (.seq (.region r13_1) (.seq (.region [⟨some 5,.mv (.k (.str [])),none,0,[5]⟩]) (.seq (.seq (.region r13_2) (.block 0 (.seq (.region r13_3) (.cond (.t 11) (.region [⟨some 5,.mv (.k (.str [110,111,110,101])),none,0,[5]⟩]) (.seq (.region r13_4) (.cond (.t 13) (.seq (.draw r13_5) (.region r13_6)) (.seq (.region r13_7) (.cond (.t 28) (.seq (.region r13_8) (.region r13_9)) (.seq (.region r13_10) (.cond (.t 38) (.seq (.draw r13_11) (.draw r13_12)) (.seq (.region r13_13) (.ret)))))))))))) (.seq (.seq (.region r13_14) (.cond (.t 59) (.seq (.region r13_15) (.ret)) (.skip))) (.seq (.region r13_16) (.ret))))))
def fn13 : Fn := ⟨61,[.t 2,.t 3],c13⟩
def r16_0 : List O := [om 7 0 0,
 ⟨some 8,.s2b 5 (.t 7),none,1,[8,7]⟩,
 ⟨some 9,.lenL (.t 8),none,3,[9,8]⟩,
 ⟨some 10,.mv (.k (.int .i64 0)),none,0,[10]⟩]
def r16_1 : List O := [⟨some 12,.iadrL 1 (.t 8) (.t 10),none,0,[12,8,10]⟩,
 ol 13 12 1,
 om 5 13 3]
def r16_2 : List O := [om 17 5 0,
 ⟨some 18,.bin .eql (some .int) true (.t 17) (.k (.int .u8 34)),none,1,[18,17]⟩,
 om 19 18 3,
 ⟨some 20,.mv (.t 5),some (19,false),7,[20,19,5]⟩,
 ⟨some 21,.bin .eql (some .int) true (.t 20) (.k (.int .u8 92)),some (19,false),15,[21,19,20]⟩,
 ⟨some 22,.pick (.t 19) (.k (.bool true)) (.t 21),none,31,[22,19,21]⟩,
 om 16 22 63]
def r16_3 : List O := [om 24 5 0,
 ⟨some 25,.call (.k (.func 38 [] [])) [(.t 3),(.t 24)],none,1,[25,3,24]⟩]
def r16_4 : List O := [om 27 5 0,
 ⟨some 28,.bin .lss (some .int) true (.t 27) (.k (.int .u8 32)),none,1,[28,27]⟩,
 om 29 28 3,
 ⟨some 30,.mv (.t 5),some (29,false),7,[30,29,5]⟩,
 ⟨some 31,.bin .gtr (some .int) true (.t 30) (.k (.int .u8 126)),some (29,false),15,[31,29,30]⟩,
 ⟨some 32,.pick (.t 29) (.k (.bool true)) (.t 31),none,31,[32,29,31]⟩,
 om 26 32 63]
def r16_5 : List O := [om 34 5 0,
 ⟨some 35,.bin .shr (some .int) true (.t 34) (.k (.int .u64 4)),none,1,[35,34]⟩,
 ⟨some 36,.idxS (.k (.str [48,49,50,51,52,53,54,55,56,57,97,98,99,100,101,102])) (.t 35),none,3,[36,35]⟩,
 ⟨some 37,.call (.k (.func 38 [] [])) [(.t 3),(.t 36)],none,7,[37,3,36]⟩]
def r16_6 : List O := [om 38 5 0,
 ⟨some 39,.bin .and (some .int) true (.t 38) (.k (.int .u8 15)),none,1,[39,38]⟩,
 ⟨some 40,.idxS (.k (.str [48,49,50,51,52,53,54,55,56,57,97,98,99,100,101,102])) (.t 39),none,3,[40,39]⟩,
 ⟨some 41,.call (.k (.func 38 [] [])) [(.t 3),(.t 40)],none,7,[41,3,40]⟩]
def r16_7 : List O := [om 14 5 0,
 ⟨some 15,.call (.k (.func 38 [] [])) [(.t 3),(.t 14)],none,1,[15,3,14]⟩]
def r16_8 : List O := [⟨some 42,.bin .add (some .int) true (.t 10) (.k (.int .i64 1)),none,0,[42,10]⟩,
 om 10 42 1]
def b16_9 : C := .seq (.region [⟨some 11,.bin .lss (some .int) false (.t 10) (.t 9),none,0,[11,10,9]⟩]) (.seq (.cond (.t 11) (.skip) (.exit 0)) (.seq (.block 1 (.seq (.region r16_1) (.block 2 (.seq (.region r16_2) (.cond (.t 16) (.seq (.region [⟨some 23,.call (.k (.func 38 [] [])) [(.t 3),(.k (.int .u8 92))],none,0,[23,3]⟩]) (.region r16_3)) (.seq (.region r16_4) (.cond (.t 26) (.seq (.region [⟨some 33,.call (.k (.func 20 [] [])) [(.t 3),(.k (.str [92,120]))],none,0,[33,3]⟩]) (.seq (.region r16_5) (.region r16_6))) (.region r16_7)))))))) (.region r16_8)))
theorem u16_9 : XL P E ro L b16_9 K ρ h Q = X P E ro L (.c (.seq (.region [⟨some 11,.bin .lss (some .int) false (.t 10) (.t 9),none,0,[11,10,9]⟩]) (.seq (.cond (.t 11) (.skip) (.exit 0)) (.seq (.block 1 (.seq (.region r16_1) (.block 2 (.seq (.region r16_2) (.cond (.t 16) (.seq (.region [⟨some 23,.call (.k (.func 38 [] [])) [(.t 3),(.k (.int .u8 92))],none,0,[23,3]⟩]) (.region r16_3)) (.seq (.region r16_4) (.cond (.t 26) (.seq (.region [⟨some 33,.call (.k (.func 20 [] [])) [(.t 3),(.k (.str [92,120]))],none,0,[33,3]⟩]) (.seq (.region r16_5) (.region r16_6))) (.region r16_7)))))))) (.region r16_8)))) :: .l b16_9 :: K) ρ h Q := XL_unroll b16_9
def r16_10 : List O := [⟨some 44,.call (.k (.func 22 [] [])) [(.t 3)],none,0,[44,3]⟩,
 om 2 44 1]
def c16 : C := .seq (.region [⟨some 2,.mv (.k (.str [])),none,0,[2]⟩]) (.seq (.region [⟨some 3,.alloc 64 [(.ptr none),(.slice none 0 0 false)],none,0,[3]⟩]) (.seq (.region [⟨some 6,.call (.k (.func 38 [] [])) [(.t 3),(.k (.int .u8 34))],none,0,[6,3]⟩]) (.seq (.seq (.region r16_0) (.block 0 (.loop b16_9))) (.seq (.region [⟨some 43,.call (.k (.func 38 [] [])) [(.t 3),(.k (.int .u8 34))],none,0,[43,3]⟩]) (.seq (.region r16_10) (.ret))))))
def fn16 : Fn := ⟨45,[.t 2],c16⟩
def r17_0 : List O := [om 6 4 0,
 om 7 0 0,
 ⟨some 8,.lenS (.t 7),none,2,[8,7]⟩,
 ⟨some 9,.bin .lss (some .int) false (.t 6) (.t 8),none,7,[9,6,8]⟩]
def r17_1 : List O := [om 12 0 0,
 om 13 4 0,
 ⟨some 14,.idxS (.t 12) (.t 13),none,3,[14,12,13]⟩,
 om 5 14 7]
def r17_2 : List O := [om 30 5 0,
 ⟨some 31,.bin .eql (some .int) true (.t 30) (.k (.int .u8 34)),none,1,[31,30]⟩,
 om 32 31 3,
 ⟨some 33,.mv (.t 5),some (32,false),7,[33,32,5]⟩,
 ⟨some 34,.bin .eql (some .int) true (.t 33) (.k (.int .u8 92)),some (32,false),15,[34,32,33]⟩,
 ⟨some 35,.pick (.t 32) (.k (.bool true)) (.t 34),none,31,[35,32,34]⟩,
 om 29 35 63]
def r17_3 : List O := [om 36 3 0,
 om 37 5 0,
 ⟨some 38,.cvt .i32 (.t 37),none,2,[38,37]⟩,
 ⟨some 39,.i2s (.t 38),none,6,[39,38]⟩,
 ⟨some 40,.bin .add (some .str) true (.k (.str [92])) (.t 39),none,14,[40,39]⟩,
 ⟨some 41,.bin .add (some .str) false (.t 36) (.t 40),none,31,[41,36,40]⟩,
 om 3 41 63]
def r17_4 : List O := [om 43 5 0,
 ⟨some 44,.bin .geq (some .int) true (.t 43) (.k (.int .u8 32)),none,1,[44,43]⟩,
 om 45 44 3,
 og 46 5 45 7,
 ⟨some 47,.bin .leq (some .int) true (.t 46) (.k (.int .u8 126)),some (45,true),15,[47,45,46]⟩,
 ⟨some 48,.pick (.t 45) (.t 47) (.k (.bool false)),none,31,[48,45,47]⟩,
 om 42 48 63]
def r17_5 : List O := [om 49 3 0,
 om 50 5 0,
 ⟨some 51,.cvt .i32 (.t 50),none,2,[51,50]⟩,
 ⟨some 52,.i2s (.t 51),none,6,[52,51]⟩,
 ⟨some 53,.bin .add (some .str) false (.t 49) (.t 52),none,15,[53,49,52]⟩,
 om 3 53 31]
def r17_6 : List O := [om 15 3 0,
 om 16 5 0,
 ⟨some 17,.bin .quo (some .int) true (.t 16) (.k (.int .u8 16)),none,2,[17,16]⟩,
 ⟨some 18,.idxS (.k (.str [48,49,50,51,52,53,54,55,56,57,97,98,99,100,101,102])) (.t 17),none,6,[18,17]⟩,
 ⟨some 19,.cvt .i32 (.t 18),none,14,[19,18]⟩,
 ⟨some 20,.i2s (.t 19),none,30,[20,19]⟩,
 ⟨some 21,.bin .add (some .str) true (.k (.str [92,120])) (.t 20),none,62,[21,20]⟩,
 om 22 5 0,
 ⟨some 23,.bin .rem (some .int) true (.t 22) (.k (.int .u8 16)),none,128,[23,22]⟩,
 ⟨some 24,.idxS (.k (.str [48,49,50,51,52,53,54,55,56,57,97,98,99,100,101,102])) (.t 23),none,384,[24,23]⟩,
 ⟨some 25,.cvt .i32 (.t 24),none,896,[25,24]⟩,
 ⟨some 26,.i2s (.t 25),none,1920,[26,25]⟩,
 ⟨some 27,.bin .add (some .str) false (.t 21) (.t 26),none,4094,[27,21,26]⟩,
 ⟨some 28,.bin .add (some .str) false (.t 15) (.t 27),none,8191,[28,15,27]⟩,
 om 3 28 16383]
theorem d17_6 : XD P E ro L r17_6 K ρ h Q = XO P E ro L r17_6 K ρ h Q := XD_still rfl
def r17_7 : List O := [om 10 4 0,
 ⟨some 11,.bin .add (some .int) true (.t 10) (.k (.int .i64 1)),none,1,[11,10]⟩,
 om 4 11 3]
def b17_8 : C := .seq (.seq (.region r17_0) (.cond (.t 9) (.skip) (.exit 0))) (.seq (.block 1 (.seq (.region r17_1) (.block 2 (.seq (.region r17_2) (.cond (.t 29) (.region r17_3) (.seq (.region r17_4) (.cond (.t 42) (.region r17_5) (.draw r17_6)))))))) (.region r17_7))
theorem u17_8 : XL P E ro L b17_8 K ρ h Q = X P E ro L (.c (.seq (.seq (.region r17_0) (.cond (.t 9) (.skip) (.exit 0))) (.seq (.block 1 (.seq (.region r17_1) (.block 2 (.seq (.region r17_2) (.cond (.t 29) (.region r17_3) (.seq (.region r17_4) (.cond (.t 42) (.region r17_5) (.draw r17_6)))))))) (.region r17_7))) :: .l b17_8 :: K) ρ h Q := XL_unroll b17_8
def r17_9 : List O := [om 54 3 0,
 ⟨some 55,.bin .add (some .str) true (.t 54) (.k (.str [34])),none,1,[55,54]⟩,
 om 2 55 3]
def c17 : C := .seq (.region [⟨some 2,.mv (.k (.str [])),none,0,[2]⟩]) (.seq (.region [⟨some 3,.mv (.k (.str [34])),none,0,[3]⟩]) (.seq (.seq (.region [⟨some 4,.mv (.k (.int .i64 0)),none,0,[4]⟩]) (.block 0 (.loop b17_8))) (.seq (.region r17_9) (.ret))))
def fn17 : Fn := ⟨56,[.t 2],c17⟩
def r18_0 : List O := [⟨some 1,.box 43 (.t 0),none,0,[1,0]⟩,
 ⟨some 2,.mv (.k (.str [])),none,0,[2]⟩]
def r18_1 : List O := [oN 6 8 1 0,
 ⟨some 7,.mv (.k (.int .i64 0)),none,0,[7]⟩]
def r18_2 : List O := [⟨some 9,.idxA 8 1 false (.t 6) (.t 7),none,0,[9,6,7]⟩,
 om 5 9 1]
def r18_3 : List O := [om 10 3 0,
 om 11 5 0,
 ⟨some 12,.call (.k (.func 27 [] [])) [(.t 11)],none,2,[12,11]⟩,
 ⟨some 13,.bslice 9 1 [.str []] [(0,1,(.t 12))],none,6,[13,12]⟩,
 ⟨some 14,.app 9 1 16 (.t 10) (.t 13),none,15,[14,10,13]⟩,
 om 3 14 31]
def r18_4 : List O := [⟨some 15,.bin .add (some .int) true (.t 7) (.k (.int .i64 1)),none,0,[15,7]⟩,
 om 7 15 1]
def b18_5 : C := .seq (.region [⟨some 8,.bin .lss (some .int) true (.t 7) (.k (.int .i64 8)),none,0,[8,7]⟩]) (.seq (.cond (.t 8) (.skip) (.exit 0)) (.seq (.block 1 (.seq (.region r18_2) (.region r18_3))) (.region r18_4)))
theorem u18_5 : XL P E ro L b18_5 K ρ h Q = X P E ro L (.c (.seq (.region [⟨some 8,.bin .lss (some .int) true (.t 7) (.k (.int .i64 8)),none,0,[8,7]⟩]) (.seq (.cond (.t 8) (.skip) (.exit 0)) (.seq (.block 1 (.seq (.region r18_2) (.region r18_3))) (.region r18_4)))) :: .l b18_5 :: K) ρ h Q := XL_unroll b18_5
def r18_6 : List O := [om 16 3 0,
 ⟨some 17,.call (.k (.func 39 [] [])) [(.t 16),(.k (.str [32]))],none,1,[17,16]⟩,
 om 2 17 3]
def c18 : C := .seq (.region r18_0) (.seq (.region [⟨some 3,.mv (.k (.slice none 0 0 false)),none,0,[3]⟩]) (.seq (.seq (.region r18_1) (.block 0 (.loop b18_5))) (.seq (.region r18_6) (.ret))))
def fn18 : Fn := ⟨18,[.t 2],c18⟩
def r19_0 : List O := [⟨some 1,.box 43 (.t 0),none,0,[1,0]⟩,
 ⟨some 2,.mv (.k (.str [])),none,0,[2]⟩]
def r19_1 : List O := [⟨some 5,.iadrA 8 1 (.t 1) (.k (.int .i64 0)),none,0,[5,1]⟩,
 ol 6 5 1,
 ⟨some 7,.call (.k (.func 30 [] [])) [(.t 6)],none,3,[7,6]⟩,
 om 3 7 7]
def r19_2 : List O := [om 8 4 0,
 ⟨some 9,.bin .lss (some .int) true (.t 8) (.k (.int .i64 8)),none,1,[9,8]⟩]
def r19_3 : List O := [om 12 3 0,
 om 13 4 0,
 ⟨some 14,.iadrA 8 1 (.t 1) (.t 13),none,2,[14,1,13]⟩,
 ol 15 14 6,
 ⟨some 16,.call (.k (.func 30 [] [])) [(.t 15)],none,14,[16,15]⟩,
 ⟨some 17,.bin .add (some .str) true (.k (.str [32])) (.t 16),none,30,[17,16]⟩,
 ⟨some 18,.bin .add (some .str) false (.t 12) (.t 17),none,63,[18,12,17]⟩,
 om 3 18 127]
def r19_4 : List O := [om 10 4 0,
 ⟨some 11,.bin .add (some .int) true (.t 10) (.k (.int .i64 1)),none,1,[11,10]⟩,
 om 4 11 3]
def b19_5 : C := .seq (.seq (.region r19_2) (.cond (.t 9) (.skip) (.exit 0))) (.seq (.block 1 (.region r19_3)) (.region r19_4))
theorem u19_5 : XL P E ro L b19_5 K ρ h Q = X P E ro L (.c (.seq (.seq (.region r19_2) (.cond (.t 9) (.skip) (.exit 0))) (.seq (.block 1 (.region r19_3)) (.region r19_4))) :: .l b19_5 :: K) ρ h Q := XL_unroll b19_5
def r19_6 : List O := [om 19 3 0,
 om 2 19 1]
def c19 : C := .seq (.region r19_0) (.seq (.region r19_1) (.seq (.seq (.region [⟨some 4,.mv (.k (.int .i64 1)),none,0,[4]⟩]) (.block 0 (.loop b19_5))) (.seq (.region r19_6) (.ret))))
def fn19 : Fn := ⟨20,[.t 2],c19⟩
def r20_0 : List O := [⟨some 4,.mv (.k (.int .i64 0)),none,0,[4]⟩,
 ⟨some 5,.mv (.k .nilIface),none,1,[5]⟩]
def r20_1 : List O := [om 6 0 0,
 ⟨some 7,.call (.k (.func 40 [] [])) [(.t 6)],none,1,[7,6]⟩]
def r20_2 : List O := [om 8 0 0,
 om 9 0 0,
 ⟨some 10,.nilck (.t 9),none,2,[10,9]⟩,
 oa 11 1 10 6,
 ol 12 11 14,
 om 13 1 0,
 ⟨some 14,.app 5 1 1 (.t 12) (.t 13),none,62,[14,12,13]⟩,
 ⟨some 15,.nilck (.t 8),none,127,[15,8]⟩,
 oa 16 1 15 255,
 ⟨none,.store 1 (.t 16) (.t 14),none,511,[16,14]⟩]
def r20_3 : List O := [om 17 1 0,
 ⟨some 18,.lenS (.t 17),none,1,[18,17]⟩,
 om 4 18 3,
 ⟨some 5,.mv (.k .nilIface),none,7,[5]⟩]
def c20 : C := .seq (.region r20_0) (.seq (.region r20_1) (.seq (.region r20_2) (.seq (.region r20_3) (.ret))))
def fn20 : Fn := ⟨19,[.t 4,.t 5],c20⟩
def r21_0 : List O := [⟨some 1,.box 24 (.t 0),none,0,[1,0]⟩,
 ⟨some 2,.mv (.k (.str [])),none,0,[2]⟩]
def r21_1 : List O := [oa 3 0 1 0,
 ol 4 3 1,
 oa 5 1 1 0,
 ol 6 5 4,
 oa 7 2 1 0,
 ol 8 7 16,
 ⟨some 9,.bslice 3 3 [.int .i64 0,.int .i64 0,.int .i64 0] [(0,1,(.t 4)),(1,1,(.t 6)),(2,1,(.t 8))],none,63,[9,4,6,8]⟩,
 oa 10 3 1 0,
 ol 11 10 128,
 ⟨some 12,.app 3 1 8 (.t 9) (.t 11),none,511,[12,9,11]⟩,
 ⟨some 13,.call (.k (.func 24 [] [])) [(.t 12)],none,1023,[13,12]⟩,
 ⟨some 14,.bin .add (some .str) true (.k (.str [119,111,114,108,100,32])) (.t 13),none,2047,[14,13]⟩,
 om 2 14 4095]
def c21 : C := .seq (.region r21_0) (.seq (.region r21_1) (.ret))
def fn21 : Fn := ⟨15,[.t 2],c21⟩
def r22_0 : List O := [om 3 0 0,
 ⟨some 4,.nilck (.t 3),none,1,[4,3]⟩,
 oa 5 1 4 3,
 ol 6 5 7,
 ⟨some 7,.usd (.t 6),none,15,[7,6]⟩,
 om 8 0 0,
 ⟨some 9,.nilck (.t 8),none,32,[9,8]⟩,
 oa 10 1 9 96,
 ol 11 10 224,
 ⟨some 12,.lenL (.t 11),none,480,[12,11]⟩,
 ⟨some 13,.ustr 5 (.t 7) (.t 12),none,1023,[13,7,12]⟩,
 om 2 13 2047]
theorem d22_0 (hx : XDO P E ro L r22_0 K ρ h Q) : XD P E ro L r22_0 K ρ h Q := XD_ord rfl hx
def c22 : C := .seq (.region [⟨some 2,.mv (.k (.str [])),none,0,[2]⟩]) (.seq (.draw r22_0) (.ret))
def fn22 : Fn := ⟨14,[.t 2],c22⟩
def r24_0 : List O := [om 6 0 0,
 ⟨some 7,.lenL (.t 6),none,1,[7,6]⟩,
 ⟨some 8,.mv (.k (.int .i64 0)),none,0,[8]⟩]
def r24_1 : List O := [⟨some 10,.iadrL 1 (.t 6) (.t 8),none,0,[10,6,8]⟩,
 ol 11 10 1,
 om 5 11 3]
def r24_2 : List O := [om 12 3 0,
 om 13 5 0,
 ⟨some 14,.call (.k (.func 41 [] [])) [(.t 13)],none,2,[14,13]⟩,
 ⟨some 15,.bslice 9 1 [.str []] [(0,1,(.t 14))],none,6,[15,14]⟩,
 ⟨some 16,.app 9 1 16 (.t 12) (.t 15),none,15,[16,12,15]⟩,
 om 3 16 31]
def r24_3 : List O := [⟨some 17,.bin .add (some .int) true (.t 8) (.k (.int .i64 1)),none,0,[17,8]⟩,
 om 8 17 1]
def b24_4 : C := .seq (.region [⟨some 9,.bin .lss (some .int) false (.t 8) (.t 7),none,0,[9,8,7]⟩]) (.seq (.cond (.t 9) (.skip) (.exit 0)) (.seq (.block 1 (.seq (.region r24_1) (.region r24_2))) (.region r24_3)))
theorem u24_4 : XL P E ro L b24_4 K ρ h Q = X P E ro L (.c (.seq (.region [⟨some 9,.bin .lss (some .int) false (.t 8) (.t 7),none,0,[9,8,7]⟩]) (.seq (.cond (.t 9) (.skip) (.exit 0)) (.seq (.block 1 (.seq (.region r24_1) (.region r24_2))) (.region r24_3)))) :: .l b24_4 :: K) ρ h Q := XL_unroll b24_4
def r24_5 : List O := [om 18 3 0,
 ⟨some 19,.call (.k (.func 39 [] [])) [(.t 18),(.k (.str [32]))],none,1,[19,18]⟩,
 om 2 19 3]
def c24 : C := .seq (.region [⟨some 2,.mv (.k (.str [])),none,0,[2]⟩]) (.seq (.region [⟨some 3,.mv (.k (.slice none 0 0 false)),none,0,[3]⟩]) (.seq (.seq (.region r24_0) (.block 0 (.loop b24_4))) (.seq (.region r24_5) (.ret))))
def fn24 : Fn := ⟨20,[.t 2],c24⟩
def r25_0 : List O := [⟨some 1,.box 37 (.t 0),none,0,[1,0]⟩,
 ⟨some 2,.mv (.k (.str [])),none,0,[2]⟩,
 ⟨some 3,.mv (.k (.bool false)),none,2,[3]⟩]
def r25_1 : List O := [oa 6 2 1 0,
 ol 7 6 1,
 ⟨some 8,.build [.int .i64 0,.int .i64 0,.int .i64 0,.int .i64 0,.int .i64 0,.str [],.str [],.str []] [(2,1,(.t 7))],none,3,[8,7]⟩,
 ⟨some 4,.alloc 37 [.int .i64 0,.int .i64 0,.int .i64 0,.int .i64 0,.int .i64 0,.str [],.str [],.str []],none,0,[4]⟩,
 ⟨none,.store 8 (.t 4) (.t 8),none,15,[4,8]⟩]
def r25_2 : List O := [oa 9 2 1 0,
 ol 10 9 1]
def r25_3 : List O := [⟨some 12,.bin .eql (some .int) true (.t 10) (.k (.int .i64 1)),none,0,[12,10]⟩,
 om 11 12 1]
def r25_4 : List O := [oa 13 4 1 0,
 ol 14 13 1,
 oa 15 5 1 0,
 ol 16 15 4,
 oa 17 4 4 3,
 ⟨none,.store 1 (.t 17) (.t 14),none,19,[17,14]⟩,
 oa 18 5 4 63,
 ⟨none,.store 1 (.t 18) (.t 16),none,127,[18,16]⟩]
theorem k25_4 (lo : Nat) (hx : XDK P E ro L K Q lo h [true,true,true,true,true,true,true,true] r25_4 ρ h) : XD P E ro L r25_4 K ρ h Q := XD_keeps rfl rfl hx
def r25_5 : List O := [oa 19 4 1 0,
 ol 20 19 1,
 ⟨some 21,.call (.k (.func 27 [] [])) [(.t 20)],none,3,[21,20]⟩,
 ⟨some 22,.bin .add (some .str) true (.k (.str [109,97,107,101,32])) (.t 21),none,7,[22,21]⟩,
 ⟨some 23,.bin .add (some .str) true (.t 22) (.k (.str [32])),none,15,[23,22]⟩,
 oa 24 5 1 0,
 ol 25 24 32,
 ⟨some 26,.call (.k (.func 16 [] [])) [(.t 25)],none,103,[26,25]⟩,
 ⟨some 27,.bin .add (some .str) false (.t 23) (.t 26),none,255,[27,23,26]⟩,
 om 5 27 511]
theorem d25_5 (hx : XDQ P E ro L K Q h [true,true,true,true,true,false,false,true,true,true] r25_5 ρ h) : XD P E ro L r25_5 K ρ h Q := XD_quiet rfl rfl hx
def r25_6 : List O := [⟨some 29,.bin .eql (some .int) true (.t 10) (.k (.int .i64 2)),none,0,[29,10]⟩,
 om 28 29 1]
def r25_7 : List O := [oa 30 3 1 0,
 ol 31 30 1,
 oa 32 4 1 0,
 ol 33 32 4,
 oa 34 5 1 0,
 ol 35 34 16,
 oa 36 3 4 3,
 ⟨none,.store 1 (.t 36) (.t 31),none,67,[36,31]⟩,
 oa 37 4 4 207,
 ⟨none,.store 1 (.t 37) (.t 33),none,463,[37,33]⟩,
 oa 38 5 4 1023,
 ⟨none,.store 1 (.t 38) (.t 35),none,2047,[38,35]⟩]
theorem k25_7 (lo : Nat) (hx : XDK P E ro L K Q lo h [true,true,true,true,true,true,true,true,true,true,true,true] r25_7 ρ h) : XD P E ro L r25_7 K ρ h Q := XD_keeps rfl rfl hx
def r25_8 : List O := [oa 39 3 1 0,
 ol 40 39 1,
 ⟨some 41,.call (.k (.func 27 [] [])) [(.t 40)],none,3,[41,40]⟩,
 ⟨some 42,.bin .add (some .str) true (.k (.str [109,111,118,101,32])) (.t 41),none,7,[42,41]⟩,
 ⟨some 43,.bin .add (some .str) true (.t 42) (.k (.str [32])),none,15,[43,42]⟩,
 oa 44 4 1 0,
 ol 45 44 32,
 ⟨some 46,.call (.k (.func 27 [] [])) [(.t 45)],none,103,[46,45]⟩,
 ⟨some 47,.bin .add (some .str) false (.t 43) (.t 46),none,255,[47,43,46]⟩,
 ⟨some 48,.bin .add (some .str) true (.t 47) (.k (.str [32])),none,511,[48,47]⟩,
 oa 49 5 1 0,
 ol 50 49 1024,
 ⟨some 51,.call (.k (.func 16 [] [])) [(.t 50)],none,3303,[51,50]⟩,
 ⟨some 52,.bin .add (some .str) false (.t 48) (.t 51),none,8191,[52,48,51]⟩,
 om 5 52 16383]
theorem d25_8 (hx : XDQ P E ro L K Q h [true,true,true,true,true,false,false,true,true,true,false,false,true,true,true] r25_8 ρ h) : XD P E ro L r25_8 K ρ h Q := XD_quiet rfl rfl hx
def r25_9 : List O := [⟨some 54,.bin .eql (some .int) true (.t 10) (.k (.int .i64 3)),none,0,[54,10]⟩,
 om 53 54 1]
def r25_10 : List O := [oa 55 3 1 0,
 ol 56 55 1,
 oa 57 6 1 0,
 ol 58 57 4,
 oa 59 7 1 0,
 ol 60 59 16,
 oa 61 3 4 3,
 ⟨none,.store 1 (.t 61) (.t 56),none,67,[61,56]⟩,
 oa 62 6 4 207,
 ⟨none,.store 1 (.t 62) (.t 58),none,463,[62,58]⟩,
 oa 63 7 4 1023,
 ⟨none,.store 1 (.t 63) (.t 60),none,2047,[63,60]⟩]
theorem k25_10 (lo : Nat) (hx : XDK P E ro L K Q lo h [true,true,true,true,true,true,true,true,true,true,true,true] r25_10 ρ h) : XD P E ro L r25_10 K ρ h Q := XD_keeps rfl rfl hx
def r25_11 : List O := [oa 64 3 1 0,
 ol 65 64 1,
 ⟨some 66,.call (.k (.func 27 [] [])) [(.t 65)],none,3,[66,65]⟩,
 ⟨some 67,.bin .add (some .str) true (.k (.str [97,116,116,114,32])) (.t 66),none,7,[67,66]⟩,
 ⟨some 68,.bin .add (some .str) true (.t 67) (.k (.str [32])),none,15,[68,67]⟩,
 oa 69 6 1 0,
 ol 70 69 32,
 ⟨some 71,.call (.k (.func 16 [] [])) [(.t 70)],none,103,[71,70]⟩,
 ⟨some 72,.bin .add (some .str) false (.t 68) (.t 71),none,255,[72,68,71]⟩,
 ⟨some 73,.bin .add (some .str) true (.t 72) (.k (.str [32])),none,511,[73,72]⟩,
 oa 74 7 1 0,
 ol 75 74 1024,
 ⟨some 76,.call (.k (.func 16 [] [])) [(.t 75)],none,3303,[76,75]⟩,
 ⟨some 77,.bin .add (some .str) false (.t 73) (.t 76),none,8191,[77,73,76]⟩,
 om 5 77 16383]
theorem d25_11 (hx : XDQ P E ro L K Q h [true,true,true,true,true,false,false,true,true,true,false,false,true,true,true] r25_11 ρ h) : XD P E ro L r25_11 K ρ h Q := XD_quiet rfl rfl hx
def r25_12 : List O := [om 78 5 0,
 om 79 5 0,
 ⟨some 80,.bin .neq (some .str) true (.t 79) (.k (.str [])),none,2,[80,79]⟩,
 om 81 80 6,
 oNg 82 8 4 81 14,
 oNg 83 8 1 81 14,
 ⟨some 84,.bin .eql (some (.fcons 0 2 true (.fcons 0 1 false .int (.fcons 1 1 false .int .fnil)) (.fcons 2 1 false .int (.fcons 3 1 false .int (.fcons 4 1 false .int (.fcons 5 1 false .str (.fcons 6 1 false .str (.fcons 7 1 false .str .fnil)))))))) false (.t 82) (.t 83),some (81,true),62,[84,81,82,83]⟩,
 ⟨some 85,.pick (.t 81) (.t 84) (.k (.bool false)),none,126,[85,81,84]⟩,
 om 2 78 15,
 om 3 85 511]
theorem d25_12 : XD P E ro L r25_12 K ρ h Q = XO P E ro L r25_12 K ρ h Q := XD_still rfl
def c25 : C := .seq (.region r25_0) (.seq (.region r25_1) (.seq (.region [⟨some 5,.mv (.k (.str [])),none,0,[5]⟩]) (.seq (.seq (.region r25_2) (.block 0 (.seq (.region r25_3) (.cond (.t 11) (.seq (.draw r25_4) (.draw r25_5)) (.seq (.region r25_6) (.cond (.t 28) (.seq (.draw r25_7) (.draw r25_8)) (.seq (.region r25_9) (.cond (.t 53) (.seq (.draw r25_10) (.draw r25_11)) (.skip))))))))) (.seq (.draw r25_12) (.ret)))))
def fn25 : Fn := ⟨86,[.t 2,.t 3],c25⟩
def r26_0 : List O := [⟨some 1,.box 39 (.t 0),none,0,[1,0]⟩,
 ⟨some 2,.mv (.k (.str [])),none,0,[2]⟩,
 ⟨some 3,.mv (.k (.bool false)),none,2,[3]⟩]
def r26_1 : List O := [oa 6 0 1 0,
 ol 7 6 1,
 oa 8 1 1 0,
 ol 9 8 4,
 ⟨some 10,.build [.int .i64 0,.str [],.int .i64 0] [(0,1,(.t 7)),(1,1,(.t 9))],none,15,[10,7,9]⟩,
 ⟨some 4,.alloc 39 [.int .i64 0,.str [],.int .i64 0],none,0,[4]⟩,
 ⟨none,.store 3 (.t 4) (.t 10),none,63,[4,10]⟩]
def r26_2 : List O := [oa 11 0 1 0,
 ol 12 11 1]
def r26_3 : List O := [⟨some 14,.bin .eql (some .int) true (.t 12) (.k (.int .i64 1)),none,0,[14,12]⟩,
 om 13 14 1]
def r26_4 : List O := [oa 15 1 1 0,
 ol 16 15 1,
 ⟨some 17,.call (.k (.func 16 [] [])) [(.t 16)],none,3,[17,16]⟩,
 ⟨some 18,.bin .add (some .str) true (.k (.str [110,111,100,101,32])) (.t 17),none,7,[18,17]⟩,
 om 5 18 15]
def r26_5 : List O := [⟨some 20,.bin .eql (some .int) true (.t 12) (.k (.int .i64 2)),none,0,[20,12]⟩,
 om 19 20 1]
def r26_6 : List O := [oa 21 1 1 0,
 ol 22 21 1,
 ⟨some 23,.call (.k (.func 16 [] [])) [(.t 22)],none,3,[23,22]⟩,
 ⟨some 24,.bin .add (some .str) true (.k (.str [108,105,115,116,32])) (.t 23),none,7,[24,23]⟩,
 om 5 24 15]
def r26_7 : List O := [⟨some 26,.bin .eql (some .int) true (.t 12) (.k (.int .i64 3)),none,0,[26,12]⟩,
 om 25 26 1]
def r26_8 : List O := [oa 27 1 1 0,
 ol 28 27 1,
 ⟨some 29,.call (.k (.func 16 [] [])) [(.t 28)],none,3,[29,28]⟩,
 ⟨some 30,.bin .add (some .str) true (.k (.str [97,116,116,114,115,32])) (.t 29),none,7,[30,29]⟩,
 om 5 30 15]
def r26_9 : List O := [⟨some 32,.bin .eql (some .int) true (.t 12) (.k (.int .i64 4)),none,0,[32,12]⟩,
 om 31 32 1]
def r26_10 : List O := [oa 33 0 1 0,
 ol 34 33 1,
 oa 35 2 1 0,
 ol 36 35 4,
 ⟨some 37,.build [.int .i64 0,.str [],.int .i64 0] [(0,1,(.t 34)),(2,1,(.t 36))],none,15,[37,34,36]⟩,
 ⟨none,.store 3 (.t 4) (.t 37),none,31,[4,37]⟩]
def r26_11 : List O := [oa 38 2 1 0,
 ol 39 38 1,
 ⟨some 40,.call (.k (.func 27 [] [])) [(.t 39)],none,3,[40,39]⟩,
 ⟨some 41,.bin .add (some .str) true (.k (.str [112,97,116,104,32])) (.t 40),none,7,[41,40]⟩,
 om 5 41 15]
def r26_12 : List O := [om 42 5 0,
 om 43 5 0,
 ⟨some 44,.bin .neq (some .str) true (.t 43) (.k (.str [])),none,2,[44,43]⟩,
 om 45 44 6,
 oNg 46 3 4 45 14,
 oNg 47 3 1 45 14,
 ⟨some 48,.bin .eql (some (.fcons 0 1 false .int (.fcons 1 1 false .str (.fcons 2 1 false .int .fnil)))) false (.t 46) (.t 47),some (45,true),62,[48,45,46,47]⟩,
 ⟨some 49,.pick (.t 45) (.t 48) (.k (.bool false)),none,126,[49,45,48]⟩,
 om 2 42 15,
 om 3 49 511]
theorem d26_12 : XD P E ro L r26_12 K ρ h Q = XO P E ro L r26_12 K ρ h Q := XD_still rfl
def c26 : C := .seq (.region r26_0) (.seq (.region r26_1) (.seq (.region [⟨some 5,.mv (.k (.str [])),none,0,[5]⟩]) (.seq (.seq (.region r26_2) (.block 0 (.seq (.region r26_3) (.cond (.t 13) (.region r26_4) (.seq (.region r26_5) (.cond (.t 19) (.region r26_6) (.seq (.region r26_7) (.cond (.t 25) (.region r26_8) (.seq (.region r26_9) (.cond (.t 31) (.seq (.region r26_10) (.region r26_11)) (.skip))))))))))) (.seq (.draw r26_12) (.ret)))))
def fn26 : Fn := ⟨50,[.t 2,.t 3],c26⟩
def r27_0 : List O := [om 3 0 0,
 ⟨some 4,.call (.k (.func 42 [] [])) [(.t 3),(.k (.int .i64 10))],none,1,[4,3]⟩,
 om 2 4 3]
def c27 : C := .seq (.region [⟨some 2,.mv (.k (.str [])),none,0,[2]⟩]) (.seq (.region r27_0) (.ret))
def fn27 : Fn := ⟨5,[.t 2],c27⟩
def r28_0 : List O := [⟨some 1,.box 50 (.t 0),none,0,[1,0]⟩,
 ⟨some 2,.mv (.k (.bool false)),none,0,[2]⟩]
def r28_1 : List O := [oN 6 56 1 0,
 ⟨some 7,.call (.k (.func 34 [] [])) [(.t 6)],none,1,[7,6]⟩,
 om 5 7 3,
 ox 8 5 0 7,
 ox 9 5 1 7,
 ⟨some 3,.alloc 81 [.int .i64 0,.int .i64 0,.int .i64 0,.int .i64 0,.int .i64 0,.int .i64 0,.int .i64 0,.int .i64 0,.str [],.str [],.str [],.int .i64 0,.int .i64 0,.int .i64 0,.int .i64 0,.int .i64 0,.int .i64 0,.int .i64 0,.int .i64 0,.int .i64 0,.int .i64 0,.int .i64 0,.int .i64 0,.int .i64 0,.int .i64 0,.int .i64 0,.int .i64 0,.int .i64 0,.int .i64 0,.int .i64 0,.int .i64 0,.int .i64 0,.int .i64 0,.int .i64 0,.int .i64 0,.int .i64 0,.int .i64 0,.int .i64 0,.int .i64 0,.int .i64 0,.int .i64 0,.int .i64 0,.int .i64 0,.int .i64 0,.int .i64 0,.int .i64 0,.int .i64 0,.int .i64 0,.int .i64 0,.int .i64 0,.int .i64 0,.int .i64 0,.int .i64 0,.int .i64 0],none,0,[3]⟩,
 ⟨none,.store 54 (.t 3) (.t 8),none,47,[3,8]⟩,
 om 4 9 127]
def r28_2 : List O := [om 10 4 0,
 om 11 10 1,
 oNg 12 54 3 11 3,
 ⟨some 13,.build [.int .i64 0,.int .i64 0,.int .i64 0,.int .i64 0,.int .i64 0,.int .i64 0,.int .i64 0,.int .i64 0,.str [],.str [],.str [],.int .i64 0,.int .i64 0,.int .i64 0,.int .i64 0,.int .i64 0,.int .i64 0,.int .i64 0,.int .i64 0,.int .i64 0,.int .i64 0,.int .i64 0,.int .i64 0,.int .i64 0,.int .i64 0,.int .i64 0,.int .i64 0,.int .i64 0,.int .i64 0,.int .i64 0,.int .i64 0,.int .i64 0,.int .i64 0,.int .i64 0,.int .i64 0,.int .i64 0,.int .i64 0,.int .i64 0,.int .i64 0,.int .i64 0,.int .i64 0,.int .i64 0,.int .i64 0,.int .i64 0,.int .i64 0,.int .i64 0,.int .i64 0,.int .i64 0,.int .i64 0,.int .i64 0,.int .i64 0,.int .i64 0,.int .i64 0,.int .i64 0] [],some (11,true),3,[13,11]⟩,
 ⟨some 14,.bin .eql (some (.fcons 0 1 false .int (.fcons 1 1 false .int (.fcons 2 1 false .int (.fcons 3 8 true (.fcons 0 2 true (.fcons 0 1 false .int (.fcons 1 1 false .int .fnil)) (.fcons 2 1 false .int (.fcons 3 1 false .int (.fcons 4 1 false .int (.fcons 5 1 false .str (.fcons 6 1 false .str (.fcons 7 1 false .str .fnil))))))) (.fcons 11 1 false .int (.fcons 12 1 false .int (.fcons 13 25 true (.fcons 0 1 false .int (.fcons 1 8 true (.ar 8 1 false .int) (.fcons 9 8 true (.ar 8 1 false .int) (.fcons 17 8 true (.ar 8 1 false .int) .fnil)))) (.fcons 38 1 false .int (.fcons 39 8 true (.ar 8 1 false .int) (.fcons 47 1 false .int (.fcons 48 1 false .int (.fcons 49 1 false .int (.fcons 50 1 false .int (.fcons 51 1 false .int (.fcons 52 1 false .int (.fcons 53 1 false .int .fnil))))))))))))))))) false (.t 12) (.t 13),some (11,true),15,[14,11,12,13]⟩,
 ⟨some 15,.pick (.t 11) (.t 14) (.k (.bool false)),none,31,[15,11,14]⟩,
 om 2 15 63]
def c28 : C := .seq (.region r28_0) (.seq (.region r28_1) (.seq (.region r28_2) (.ret)))
def fn28 : Fn := ⟨16,[.t 2],c28⟩
def r29_0 : List O := [⟨some 2,.box 52 (.t 0),none,0,[2,0]⟩,
 ⟨some 3,.box 52 (.t 1),none,0,[3,1]⟩,
 ⟨some 4,.mv (.k (.bool false)),none,0,[4]⟩]
def r29_1 : List O := [oa 5 0 2 0,
 ol 6 5 1,
 oa 7 0 3 0,
 ol 8 7 4,
 ⟨some 9,.bin .eql (some .int) false (.t 6) (.t 8),none,15,[9,6,8]⟩,
 om 10 9 31,
 oag 11 1 2 10 63,
 oNg 12 2 11 10 127,
 oag 13 1 3 10 63,
 oNg 14 2 13 10 319,
 ⟨some 15,.bin .eql (some (.fcons 0 1 false .int (.fcons 1 1 false .int .fnil))) false (.t 12) (.t 14),some (10,true),1023,[15,10,12,14]⟩,
 ⟨some 16,.pick (.t 10) (.t 15) (.k (.bool false)),none,2047,[16,10,15]⟩,
 om 17 16 4095,
 oag 18 3 2 17 8191,
 olg 19 18 17 16383,
 oag 20 3 3 17 8191,
 olg 21 20 17 40959,
 ⟨some 22,.bin .eql (some .int) false (.t 19) (.t 21),some (17,true),131071,[22,17,19,21]⟩,
 ⟨some 23,.pick (.t 17) (.t 22) (.k (.bool false)),none,262143,[23,17,22]⟩,
 om 24 23 524287,
 oag 25 4 2 24 1048575,
 oNg 26 8 25 24 2097151,
 oag 27 4 3 24 1048575,
 oNg 28 8 27 24 5242879,
 ⟨some 29,.bin .eql (some (.fcons 0 2 true (.fcons 0 1 false .int (.fcons 1 1 false .int .fnil)) (.fcons 2 1 false .int (.fcons 3 1 false .int (.fcons 4 1 false .int (.fcons 5 1 false .str (.fcons 6 1 false .str (.fcons 7 1 false .str .fnil)))))))) false (.t 26) (.t 28),some (24,true),16777215,[29,24,26,28]⟩,
 ⟨some 30,.pick (.t 24) (.t 29) (.k (.bool false)),none,33554431,[30,24,29]⟩,
 om 31 30 67108863,
 oag 32 12 2 31 134217727,
 oNg 33 3 32 31 268435455,
 oag 34 12 3 31 134217727,
 oNg 35 3 34 31 671088639,
 ⟨some 36,.bin .eql (some (.fcons 0 1 false .int (.fcons 1 1 false .str (.fcons 2 1 false .int .fnil)))) false (.t 33) (.t 35),some (31,true),2147483647,[36,31,33,35]⟩,
 ⟨some 37,.pick (.t 31) (.t 36) (.k (.bool false)),none,4294967295,[37,31,36]⟩,
 om 38 37 8589934591,
 oag 39 71 2 38 17179869183,
 olg 40 39 38 34359738367,
 oag 41 71 3 38 17179869183,
 olg 42 41 38 85899345919,
 ⟨some 43,.bin .eql (some .int) false (.t 40) (.t 42),some (38,true),274877906943,[43,38,40,42]⟩,
 ⟨some 44,.pick (.t 38) (.t 43) (.k (.bool false)),none,549755813887,[44,38,43]⟩,
 om 45 44 1099511627775,
 oag 46 72 2 45 2199023255551,
 olg 47 46 45 4398046511103,
 oag 48 72 3 45 2199023255551,
 olg 49 48 45 10995116277759,
 ⟨some 50,.bin .eql (some .int) false (.t 47) (.t 49),some (45,true),35184372088831,[50,45,47,49]⟩,
 ⟨some 51,.pick (.t 45) (.t 50) (.k (.bool false)),none,70368744177663,[51,45,50]⟩,
 om 52 51 140737488355327,
 oag 53 73 2 52 281474976710655,
 olg 54 53 52 562949953421311,
 oag 55 73 3 52 281474976710655,
 olg 56 55 52 1407374883553279,
 ⟨some 57,.bin .eql (some .int) false (.t 54) (.t 56),some (52,true),4503599627370495,[57,52,54,56]⟩,
 ⟨some 58,.pick (.t 52) (.t 57) (.k (.bool false)),none,9007199254740991,[58,52,57]⟩,
 om 59 58 18014398509481983,
 oag 60 74 2 59 36028797018963967,
 olg 61 60 59 72057594037927935,
 oag 62 74 3 59 36028797018963967,
 olg 63 62 59 180143985094819839,
 ⟨some 64,.bin .eql (some .int) false (.t 61) (.t 63),some (59,true),576460752303423487,[64,59,61,63]⟩,
 ⟨some 65,.pick (.t 59) (.t 64) (.k (.bool false)),none,1152921504606846975,[65,59,64]⟩,
 om 66 65 2305843009213693951,
 oag 67 75 2 66 4611686018427387903,
 olg 68 67 66 9223372036854775807,
 oag 69 75 3 66 4611686018427387903,
 olg 70 69 66 23058430092136939519,
 ⟨some 71,.bin .eql (some .int) false (.t 68) (.t 70),some (66,true),73786976294838206463,[71,66,68,70]⟩,
 ⟨some 72,.pick (.t 66) (.t 71) (.k (.bool false)),none,147573952589676412927,[72,66,71]⟩,
 om 4 72 295147905179352825855]
def c29 : C := .seq (.region r29_0) (.seq (.region r29_1) (.ret))
def fn29 : Fn := ⟨73,[.t 4],c29⟩
def r30_0 : List O := [om 3 0 0,
 ⟨some 4,.call (.k (.func 42 [] [])) [(.t 3),(.k (.int .i64 10))],none,1,[4,3]⟩,
 om 2 4 3]
def c30 : C := .seq (.region [⟨some 2,.mv (.k (.str [])),none,0,[2]⟩]) (.seq (.region r30_0) (.ret))
def fn30 : Fn := ⟨5,[.t 2],c30⟩
def r31_0 : List O := [om 5 4 0,
 om 6 0 0,
 ⟨some 7,.lenL (.t 6),none,2,[7,6]⟩,
 ⟨some 8,.bin .lss (some .int) false (.t 5) (.t 7),none,7,[8,5,7]⟩]
def r31_1 : List O := [om 11 3 0,
 om 12 0 0,
 om 13 4 0,
 ⟨some 14,.iadrL 1 (.t 12) (.t 13),none,6,[14,12,13]⟩,
 ol 15 14 14,
 ⟨some 16,.call (.k (.func 30 [] [])) [(.t 15)],none,30,[16,15]⟩,
 ⟨some 17,.bin .add (some .str) true (.k (.str [32])) (.t 16),none,62,[17,16]⟩,
 ⟨some 18,.bin .add (some .str) false (.t 11) (.t 17),none,127,[18,11,17]⟩,
 om 3 18 255]
def r31_2 : List O := [om 9 4 0,
 ⟨some 10,.bin .add (some .int) true (.t 9) (.k (.int .i64 1)),none,1,[10,9]⟩,
 om 4 10 3]
def b31_3 : C := .seq (.seq (.region r31_0) (.cond (.t 8) (.skip) (.exit 0))) (.seq (.block 1 (.region r31_1)) (.region r31_2))
theorem u31_3 : XL P E ro L b31_3 K ρ h Q = X P E ro L (.c (.seq (.seq (.region r31_0) (.cond (.t 8) (.skip) (.exit 0))) (.seq (.block 1 (.region r31_1)) (.region r31_2))) :: .l b31_3 :: K) ρ h Q := XL_unroll b31_3
def r31_4 : List O := [om 19 3 0,
 om 2 19 1]
def c31 : C := .seq (.region [⟨some 2,.mv (.k (.str [])),none,0,[2]⟩]) (.seq (.region [⟨some 3,.mv (.k (.str [])),none,0,[3]⟩]) (.seq (.seq (.region [⟨some 4,.mv (.k (.int .i64 0)),none,0,[4]⟩]) (.block 0 (.loop b31_3))) (.seq (.region r31_4) (.ret))))
def fn31 : Fn := ⟨20,[.t 2],c31⟩
def r32_0 : List O := [⟨some 1,.box 52 (.t 0),none,0,[1,0]⟩,
 ⟨some 2,.mv (.k (.str [])),none,0,[2]⟩,
 ⟨some 3,.alloc 52 [.int .i64 0,.int .i64 0,.int .i64 0,.int .i64 0,.int .i64 0,.int .i64 0,.int .i64 0,.int .i64 0,.int .i64 0,.str [],.str [],.str [],.int .i64 0,.str [],.int .i64 0,.int .i64 0,.int .i64 0,.int .i64 0,.int .i64 0,.int .i64 0,.int .i64 0,.int .i64 0,.int .i64 0,.str [],.str [],.str [],.int .i64 0,.int .i64 0,(.slice none 0 0 false),.int .i64 0,.int .i64 0,.int .i64 0,.int .i64 0,.int .i64 0,.int .i64 0,.int .i64 0,.int .i64 0,.int .i64 0,.int .i64 0,.int .i64 0,.int .i64 0,.int .i64 0,.int .i64 0,.int .i64 0,.int .i64 0,.int .i64 0,.int .i64 0,.int .i64 0,.int .i64 0,.int .i64 0,.int .i64 0,.int .i64 0,.int .i64 0,.int .i64 0,.int .i64 0,.int .i64 0,.int .i64 0,.int .i64 0,.int .i64 0,.int .i64 0,.int .i64 0,.int .i64 0,.int .i64 0,.int .i64 0,.int .i64 0,.int .i64 0,.int .i64 0,(.slice none 0 0 false),.int .i64 0,.int .i64 0,.int .i64 0,.int .i64 0,.int .i64 0,(.int .u8 0),.int .i64 0,.int .i64 0],none,0,[3]⟩,
 ⟨some 4,.mv (.k (.bool false)),none,2,[4]⟩]
def r32_1 : List O := [oa 11 0 1 0,
 ol 12 11 1,
 oa 13 1 1 0,
 oN 14 2 13 4,
 ⟨some 15,.build [.int .i64 0,.int .i64 0,.int .i64 0,.int .i64 0,.int .i64 0,.int .i64 0,.int .i64 0,.int .i64 0,.int .i64 0,.str [],.str [],.str [],.int .i64 0,.str [],.int .i64 0,.int .i64 0,.int .i64 0,.int .i64 0,.int .i64 0,.int .i64 0,.int .i64 0,.int .i64 0,.int .i64 0,.str [],.str [],.str [],.int .i64 0,.int .i64 0,(.slice none 0 0 false),.int .i64 0,.int .i64 0,.int .i64 0,.int .i64 0,.int .i64 0,.int .i64 0,.int .i64 0,.int .i64 0,.int .i64 0,.int .i64 0,.int .i64 0,.int .i64 0,.int .i64 0,.int .i64 0,.int .i64 0,.int .i64 0,.int .i64 0,.int .i64 0,.int .i64 0,.int .i64 0,.int .i64 0,.int .i64 0,.int .i64 0,.int .i64 0,.int .i64 0,.int .i64 0,.int .i64 0,.int .i64 0,.int .i64 0,.int .i64 0,.int .i64 0,.int .i64 0,.int .i64 0,.int .i64 0,.int .i64 0,.int .i64 0,.int .i64 0,.int .i64 0,(.slice none 0 0 false),.int .i64 0,.int .i64 0,.int .i64 0,.int .i64 0,.int .i64 0,(.int .u8 0),.int .i64 0,.int .i64 0] [(0,1,(.t 12)),(1,2,(.t 14))],none,15,[15,12,14]⟩,
 ⟨some 5,.alloc 52 [.int .i64 0,.int .i64 0,.int .i64 0,.int .i64 0,.int .i64 0,.int .i64 0,.int .i64 0,.int .i64 0,.int .i64 0,.str [],.str [],.str [],.int .i64 0,.str [],.int .i64 0,.int .i64 0,.int .i64 0,.int .i64 0,.int .i64 0,.int .i64 0,.int .i64 0,.int .i64 0,.int .i64 0,.str [],.str [],.str [],.int .i64 0,.int .i64 0,(.slice none 0 0 false),.int .i64 0,.int .i64 0,.int .i64 0,.int .i64 0,.int .i64 0,.int .i64 0,.int .i64 0,.int .i64 0,.int .i64 0,.int .i64 0,.int .i64 0,.int .i64 0,.int .i64 0,.int .i64 0,.int .i64 0,.int .i64 0,.int .i64 0,.int .i64 0,.int .i64 0,.int .i64 0,.int .i64 0,.int .i64 0,.int .i64 0,.int .i64 0,.int .i64 0,.int .i64 0,.int .i64 0,.int .i64 0,.int .i64 0,.int .i64 0,.int .i64 0,.int .i64 0,.int .i64 0,.int .i64 0,.int .i64 0,.int .i64 0,.int .i64 0,.int .i64 0,(.slice none 0 0 false),.int .i64 0,.int .i64 0,.int .i64 0,.int .i64 0,.int .i64 0,(.int .u8 0),.int .i64 0,.int .i64 0],none,0,[5]⟩,
 ⟨none,.store 76 (.t 5) (.t 15),none,63,[5,15]⟩]
def r32_2 : List O := [⟨some 7,.mv (.k (.str [])),none,0,[7]⟩,
 ⟨some 8,.mv (.k (.str [])),none,1,[8]⟩]
def r32_3 : List O := [oa 16 0 1 0,
 ol 17 16 1]
def r32_4 : List O := [⟨some 19,.bin .eql (some .int) true (.t 17) (.k (.int .i64 1)),none,0,[19,17]⟩,
 om 18 19 1]
def r32_5 : List O := [oa 20 1 1 0,
 oN 21 2 20 1,
 ⟨some 22,.call (.k (.func 43 [] [])) [(.k (.str [116,105,99,107])),(.t 21)],none,3,[22,21]⟩,
 om 8 22 7]
def r32_6 : List O := [⟨some 24,.bin .eql (some .int) true (.t 17) (.k (.int .i64 2)),none,0,[24,17]⟩,
 om 23 24 1]
def r32_7 : List O := [oa 25 3 1 0,
 ol 26 25 1,
 oa 27 4 1 0,
 oN 28 8 27 4,
 oa 29 3 5 3,
 ⟨none,.store 1 (.t 29) (.t 26),none,19,[29,26]⟩,
 oa 30 4 5 63,
 ⟨none,.store 8 (.t 30) (.t 28),none,127,[30,28]⟩]
theorem k32_7 (lo : Nat) (hx : XDK P E ro L K Q lo h [true,true,true,true,true,true,true,true] r32_7 ρ h) : XD P E ro L r32_7 K ρ h Q := XD_keeps rfl rfl hx
def r32_8 : List O := [oa 32 4 1 0,
 oN 33 8 32 1,
 ⟨some 34,.call (.k (.func 44 [] [])) [(.t 33)],none,3,[34,33]⟩,
 om 31 34 7,
 ox 35 31 0 15,
 ox 36 31 1 15,
 om 7 35 31,
 om 6 36 127]
def r32_9 : List O := [oa 37 1 1 0,
 oN 38 2 37 1,
 ⟨some 39,.call (.k (.func 43 [] [])) [(.k (.str [119,114,105,116,101])),(.t 38)],none,3,[39,38]⟩,
 oa 40 3 1 0,
 ol 41 40 8,
 ⟨some 42,.bslice 3 1 [.int .i64 0] [(0,1,(.t 41))],none,24,[42,41]⟩,
 ⟨some 43,.call (.k (.func 31 [] [])) [(.t 42)],none,63,[43,42]⟩,
 ⟨some 44,.bin .add (some .str) false (.t 39) (.t 43),none,127,[44,39,43]⟩,
 ⟨some 45,.bin .add (some .str) true (.t 44) (.k (.str [32])),none,255,[45,44]⟩,
 om 46 7 0,
 ⟨some 47,.bin .add (some .str) false (.t 45) (.t 46),none,1023,[47,45,46]⟩,
 om 8 47 2047]
theorem d32_9 (hx : XDQ P E ro L K Q h [true,true,true,false,false,false,true,true,true,false,true,true] r32_9 ρ h) : XD P E ro L r32_9 K ρ h Q := XD_quiet rfl rfl hx
def r32_10 : List O := [⟨some 49,.bin .eql (some .int) true (.t 17) (.k (.int .i64 3)),none,0,[49,17]⟩,
 om 48 49 1]
def r32_11 : List O := [oa 50 3 1 0,
 ol 51 50 1,
 oa 52 3 5 3,
 ⟨none,.store 1 (.t 52) (.t 51),none,7,[52,51]⟩]
def r32_12 : List O := [oa 53 1 1 0,
 oN 54 2 53 1,
 ⟨some 55,.call (.k (.func 43 [] [])) [(.k (.str [114,101,116,114,121])),(.t 54)],none,3,[55,54]⟩,
 oa 56 3 1 0,
 ol 57 56 8,
 ⟨some 58,.bslice 3 1 [.int .i64 0] [(0,1,(.t 57))],none,24,[58,57]⟩,
 ⟨some 59,.call (.k (.func 31 [] [])) [(.t 58)],none,63,[59,58]⟩,
 ⟨some 60,.bin .add (some .str) false (.t 55) (.t 59),none,127,[60,55,59]⟩,
 om 8 60 255]
theorem d32_12 (hx : XDQ P E ro L K Q h [true,true,true,false,false,false,true,true,true] r32_12 ρ h) : XD P E ro L r32_12 K ρ h Q := XD_quiet rfl rfl hx
def r32_13 : List O := [⟨some 62,.bin .eql (some .int) true (.t 17) (.k (.int .i64 4)),none,0,[62,17]⟩,
 om 61 62 1]
def r32_14 : List O := [oa 63 3 1 0,
 ol 64 63 1,
 oa 65 12 1 0,
 oN 66 3 65 4,
 oa 67 3 5 3,
 ⟨none,.store 1 (.t 67) (.t 64),none,19,[67,64]⟩,
 oa 68 12 5 63,
 ⟨none,.store 3 (.t 68) (.t 66),none,127,[68,66]⟩]
theorem k32_14 (lo : Nat) (hx : XDK P E ro L K Q lo h [true,true,true,true,true,true,true,true] r32_14 ρ h) : XD P E ro L r32_14 K ρ h Q := XD_keeps rfl rfl hx
def r32_15 : List O := [oa 70 12 1 0,
 oN 71 3 70 1,
 ⟨some 72,.call (.k (.func 45 [] [])) [(.t 71)],none,3,[72,71]⟩,
 om 69 72 7,
 ox 73 69 0 15,
 ox 74 69 1 15,
 om 7 73 31,
 om 6 74 127]
def r32_16 : List O := [oa 75 1 1 0,
 oN 76 2 75 1,
 ⟨some 77,.call (.k (.func 43 [] [])) [(.k (.str [114,101,97,100])),(.t 76)],none,3,[77,76]⟩,
 oa 78 3 1 0,
 ol 79 78 8,
 ⟨some 80,.bslice 3 1 [.int .i64 0] [(0,1,(.t 79))],none,24,[80,79]⟩,
 ⟨some 81,.call (.k (.func 31 [] [])) [(.t 80)],none,63,[81,80]⟩,
 ⟨some 82,.bin .add (some .str) false (.t 77) (.t 81),none,127,[82,77,81]⟩,
 ⟨some 83,.bin .add (some .str) true (.t 82) (.k (.str [32])),none,255,[83,82]⟩,
 om 84 7 0,
 ⟨some 85,.bin .add (some .str) false (.t 83) (.t 84),none,1023,[85,83,84]⟩,
 om 8 85 2047]
theorem d32_16 (hx : XDQ P E ro L K Q h [true,true,true,false,false,false,true,true,true,false,true,true] r32_16 ρ h) : XD P E ro L r32_16 K ρ h Q := XD_quiet rfl rfl hx
def r32_17 : List O := [⟨some 87,.bin .eql (some .int) true (.t 17) (.k (.int .i64 5)),none,0,[87,17]⟩,
 om 86 87 1]
def r32_18 : List O := [oa 88 15 1 0,
 oN 89 56 88 1,
 oa 90 15 5 3,
 ⟨none,.store 56 (.t 90) (.t 89),none,7,[90,89]⟩]
def r32_19 : List O := [oa 92 15 1 0,
 oN 93 56 92 1,
 ⟨some 94,.call (.k (.func 13 [] [])) [(.t 93)],none,3,[94,93]⟩,
 om 91 94 7,
 ox 95 91 0 15,
 ox 96 91 1 15,
 om 9 95 31,
 om 10 96 127]
def r32_20 : List O := [om 97 10 0,
 ⟨some 98,.bin .eql (some .int) true (.t 97) (.k (.int .i64 0)),none,1,[98,97]⟩,
 om 6 98 3]
def r32_21 : List O := [oa 99 1 1 0,
 oN 100 2 99 1,
 ⟨some 101,.call (.k (.func 43 [] [])) [(.k (.str [99,111,110,102])),(.t 100)],none,3,[101,100]⟩,
 ⟨some 102,.bin .add (some .str) true (.t 101) (.k (.str [32])),none,7,[102,101]⟩,
 om 103 9 0,
 ⟨some 104,.bin .add (some .str) false (.t 102) (.t 103),none,31,[104,102,103]⟩,
 om 8 104 63]
def r32_22 : List O := [⟨some 106,.bin .eql (some .int) true (.t 17) (.k (.int .i64 10)),none,0,[106,17]⟩,
 om 105 106 1]
def r32_23 : List O := [oa 107 75 1 0,
 ol 108 107 1,
 oa 109 75 5 3,
 ⟨none,.store 1 (.t 109) (.t 108),none,7,[109,108]⟩]
def r32_24 : List O := [oa 110 1 1 0,
 oN 111 2 110 1,
 ⟨some 112,.call (.k (.func 43 [] [])) [(.k (.str [99,114,97,115,104])),(.t 111)],none,3,[112,111]⟩,
 oa 113 75 1 0,
 ol 114 113 8,
 ⟨some 115,.bslice 3 1 [.int .i64 0] [(0,1,(.t 114))],none,24,[115,114]⟩,
 ⟨some 116,.call (.k (.func 31 [] [])) [(.t 115)],none,63,[116,115]⟩,
 ⟨some 117,.bin .add (some .str) false (.t 112) (.t 116),none,127,[117,112,116]⟩,
 om 8 117 255]
theorem d32_24 (hx : XDQ P E ro L K Q h [true,true,true,false,false,false,true,true,true] r32_24 ρ h) : XD P E ro L r32_24 K ρ h Q := XD_quiet rfl rfl hx
def r32_25 : List O := [⟨some 119,.bin .eql (some .int) true (.t 17) (.k (.int .i64 11)),none,0,[119,17]⟩,
 om 118 119 1]
def r32_26 : List O := [oa 120 74 1 0,
 ol 121 120 1,
 oa 122 75 1 0,
 ol 123 122 4,
 oa 124 74 5 3,
 ⟨none,.store 1 (.t 124) (.t 121),none,19,[124,121]⟩,
 oa 125 75 5 63,
 ⟨none,.store 1 (.t 125) (.t 123),none,127,[125,123]⟩]
theorem k32_26 (lo : Nat) (hx : XDK P E ro L K Q lo h [true,true,true,true,true,true,true,true] r32_26 ρ h) : XD P E ro L r32_26 K ρ h Q := XD_keeps rfl rfl hx
def r32_27 : List O := [oa 126 1 1 0,
 oN 127 2 126 1,
 ⟨some 128,.call (.k (.func 43 [] [])) [(.k (.str [102,117,115,101])),(.t 127)],none,3,[128,127]⟩,
 oa 129 74 1 0,
 ol 130 129 8,
 oa 131 75 1 0,
 ol 132 131 32,
 ⟨some 133,.bslice 3 2 [.int .i64 0,.int .i64 0] [(0,1,(.t 130)),(1,1,(.t 132))],none,120,[133,130,132]⟩,
 ⟨some 134,.call (.k (.func 31 [] [])) [(.t 133)],none,255,[134,133]⟩,
 ⟨some 135,.bin .add (some .str) false (.t 128) (.t 134),none,511,[135,128,134]⟩,
 om 8 135 1023]
theorem d32_27 (hx : XDQ P E ro L K Q h [true,true,true,false,false,false,false,false,true,true,true] r32_27 ρ h) : XD P E ro L r32_27 K ρ h Q := XD_quiet rfl rfl hx
def r32_28 : List O := [⟨some 137,.bin .eql (some .int) true (.t 17) (.k (.int .i64 12)),none,0,[137,17]⟩,
 om 136 137 1]
def r32_29 : List O := [oa 138 1 1 0,
 oN 139 2 138 1,
 ⟨some 140,.call (.k (.func 43 [] [])) [(.k (.str [114,101,115,116,97,114,116])),(.t 139)],none,3,[140,139]⟩,
 om 8 140 7]
def r32_30 : List O := [om 141 8 0,
 oN 142 76 5 0,
 om 143 6 0,
 om 144 143 4,
 og 145 8 144 12,
 ⟨some 146,.bin .neq (some .str) true (.t 145) (.k (.str [])),some (144,true),28,[146,144,145]⟩,
 ⟨some 147,.pick (.t 144) (.t 146) (.k (.bool false)),none,60,[147,144,146]⟩,
 om 2 141 13,
 ⟨none,.store 76 (.t 3) (.t 142),none,143,[3,142]⟩,
 om 4 147 511]
def c32 : C := .seq (.region r32_0) (.seq (.region r32_1) (.seq (.region [⟨some 6,.mv (.k (.bool true)),none,0,[6]⟩]) (.seq (.region r32_2) (.seq (.seq (.region r32_3) (.block 0 (.seq (.region r32_4) (.cond (.t 18) (.region r32_5) (.seq (.region r32_6) (.cond (.t 23) (.seq (.draw r32_7) (.seq (.region r32_8) (.draw r32_9))) (.seq (.region r32_10) (.cond (.t 48) (.seq (.region r32_11) (.draw r32_12)) (.seq (.region r32_13) (.cond (.t 61) (.seq (.draw r32_14) (.seq (.region r32_15) (.draw r32_16))) (.seq (.region r32_17) (.cond (.t 86) (.seq (.region r32_18) (.seq (.region r32_19) (.seq (.region r32_20) (.region r32_21)))) (.seq (.region r32_22) (.cond (.t 105) (.seq (.region r32_23) (.draw r32_24)) (.seq (.region r32_25) (.cond (.t 118) (.seq (.draw r32_26) (.draw r32_27)) (.seq (.region r32_28) (.cond (.t 136) (.region r32_29) (.skip))))))))))))))))))) (.seq (.draw r32_30) (.ret))))))
def fn32 : Fn := ⟨148,[.t 2,.c 3 76 true,.t 4],c32⟩
def r33_0 : List O := [⟨some 2,.box 52 (.t 0),none,0,[2,0]⟩,
 ⟨some 3,.box 52 (.t 1),none,0,[3,1]⟩,
 ⟨some 4,.mv (.k (.bool false)),none,0,[4]⟩]
def r33_1 : List O := [oa 5 0 2 0,
 ol 6 5 1,
 oa 7 0 3 0,
 ol 8 7 4,
 ⟨some 9,.bin .eql (some .int) false (.t 6) (.t 8),none,15,[9,6,8]⟩,
 om 10 9 31,
 oag 11 1 2 10 63,
 oNg 12 2 11 10 127,
 oag 13 1 3 10 63,
 oNg 14 2 13 10 319,
 ⟨some 15,.bin .eql (some (.fcons 0 1 false .int (.fcons 1 1 false .int .fnil))) false (.t 12) (.t 14),some (10,true),1023,[15,10,12,14]⟩,
 ⟨some 16,.pick (.t 10) (.t 15) (.k (.bool false)),none,2047,[16,10,15]⟩,
 om 17 16 4095,
 oag 18 3 2 17 8191,
 olg 19 18 17 16383,
 oag 20 3 3 17 8191,
 olg 21 20 17 40959,
 ⟨some 22,.bin .eql (some .int) false (.t 19) (.t 21),some (17,true),131071,[22,17,19,21]⟩,
 ⟨some 23,.pick (.t 17) (.t 22) (.k (.bool false)),none,262143,[23,17,22]⟩,
 om 24 23 524287,
 oag 25 4 2 24 1048575,
 oNg 26 8 25 24 2097151,
 oag 27 4 3 24 1048575,
 oNg 28 8 27 24 5242879,
 ⟨some 29,.bin .eql (some (.fcons 0 2 true (.fcons 0 1 false .int (.fcons 1 1 false .int .fnil)) (.fcons 2 1 false .int (.fcons 3 1 false .int (.fcons 4 1 false .int (.fcons 5 1 false .str (.fcons 6 1 false .str (.fcons 7 1 false .str .fnil)))))))) false (.t 26) (.t 28),some (24,true),16777215,[29,24,26,28]⟩,
 ⟨some 30,.pick (.t 24) (.t 29) (.k (.bool false)),none,33554431,[30,24,29]⟩,
 om 31 30 67108863,
 oag 32 12 2 31 134217727,
 oNg 33 3 32 31 268435455,
 oag 34 12 3 31 134217727,
 oNg 35 3 34 31 671088639,
 ⟨some 36,.bin .eql (some (.fcons 0 1 false .int (.fcons 1 1 false .str (.fcons 2 1 false .int .fnil)))) false (.t 33) (.t 35),some (31,true),2147483647,[36,31,33,35]⟩,
 ⟨some 37,.pick (.t 31) (.t 36) (.k (.bool false)),none,4294967295,[37,31,36]⟩,
 om 38 37 8589934591,
 oag 39 15 2 38 17179869183,
 oNg 40 56 39 38 34359738367,
 oag 41 15 3 38 17179869183,
 oNg 42 56 41 38 85899345919,
 ⟨some 43,.call (.k (.func 35 [] [])) [(.t 40),(.t 42)],some (38,true),274877906943,[43,38,40,42]⟩,
 ⟨some 44,.pick (.t 38) (.t 43) (.k (.bool false)),none,549755813887,[44,38,43]⟩,
 om 45 44 1099511627775,
 oag 46 71 2 45 2199023255551,
 olg 47 46 45 4398046511103,
 oag 48 71 3 45 2199023255551,
 olg 49 48 45 10995116277759,
 ⟨some 50,.bin .eql (some .int) false (.t 47) (.t 49),some (45,true),35184372088831,[50,45,47,49]⟩,
 ⟨some 51,.pick (.t 45) (.t 50) (.k (.bool false)),none,70368744177663,[51,45,50]⟩,
 om 52 51 140737488355327,
 oag 53 72 2 52 281474976710655,
 olg 54 53 52 562949953421311,
 oag 55 72 3 52 281474976710655,
 olg 56 55 52 1407374883553279,
 ⟨some 57,.bin .eql (some .int) false (.t 54) (.t 56),some (52,true),4503599627370495,[57,52,54,56]⟩,
 ⟨some 58,.pick (.t 52) (.t 57) (.k (.bool false)),none,9007199254740991,[58,52,57]⟩,
 om 59 58 18014398509481983,
 oag 60 73 2 59 36028797018963967,
 olg 61 60 59 72057594037927935,
 oag 62 73 3 59 36028797018963967,
 olg 63 62 59 180143985094819839,
 ⟨some 64,.bin .eql (some .int) false (.t 61) (.t 63),some (59,true),576460752303423487,[64,59,61,63]⟩,
 ⟨some 65,.pick (.t 59) (.t 64) (.k (.bool false)),none,1152921504606846975,[65,59,64]⟩,
 om 66 65 2305843009213693951,
 oag 67 74 2 66 4611686018427387903,
 olg 68 67 66 9223372036854775807,
 oag 69 74 3 66 4611686018427387903,
 olg 70 69 66 23058430092136939519,
 ⟨some 71,.bin .eql (some .int) false (.t 68) (.t 70),some (66,true),73786976294838206463,[71,66,68,70]⟩,
 ⟨some 72,.pick (.t 66) (.t 71) (.k (.bool false)),none,147573952589676412927,[72,66,71]⟩,
 om 73 72 295147905179352825855,
 oag 74 75 2 73 590295810358705651711,
 olg 75 74 73 1180591620717411303423,
 oag 76 75 3 73 590295810358705651711,
 olg 77 76 73 2951479051793528258559,
 ⟨some 78,.bin .eql (some .int) false (.t 75) (.t 77),some (73,true),9444732965739290427391,[78,73,75,77]⟩,
 ⟨some 79,.pick (.t 73) (.t 78) (.k (.bool false)),none,18889465931478580854783,[79,73,78]⟩,
 om 4 79 37778931862957161709567]
def c33 : C := .seq (.region r33_0) (.seq (.region r33_1) (.ret))
def fn33 : Fn := ⟨80,[.t 4],c33⟩
def r34_0 : List O := [⟨some 1,.box 50 (.t 0),none,0,[1,0]⟩,
 ⟨some 2,.alloc 81 [.int .i64 0,.int .i64 0,.int .i64 0,.int .i64 0,.int .i64 0,.int .i64 0,.int .i64 0,.int .i64 0,.str [],.str [],.str [],.int .i64 0,.int .i64 0,.int .i64 0,.int .i64 0,.int .i64 0,.int .i64 0,.int .i64 0,.int .i64 0,.int .i64 0,.int .i64 0,.int .i64 0,.int .i64 0,.int .i64 0,.int .i64 0,.int .i64 0,.int .i64 0,.int .i64 0,.int .i64 0,.int .i64 0,.int .i64 0,.int .i64 0,.int .i64 0,.int .i64 0,.int .i64 0,.int .i64 0,.int .i64 0,.int .i64 0,.int .i64 0,.int .i64 0,.int .i64 0,.int .i64 0,.int .i64 0,.int .i64 0,.int .i64 0,.int .i64 0,.int .i64 0,.int .i64 0,.int .i64 0,.int .i64 0,.int .i64 0,.int .i64 0,.int .i64 0,.int .i64 0],none,0,[2]⟩,
 ⟨some 3,.mv (.k (.bool false)),none,0,[3]⟩]
def r34_1 : List O := [oa 4 0 1 0,
 ol 5 4 1,
 oa 6 1 1 0,
 ol 7 6 4,
 oa 8 2 1 0,
 ol 9 8 16,
 oa 10 3 1 0,
 oN 11 8 10 64,
 oa 12 11 1 0,
 ol 13 12 256,
 oa 14 12 1 0,
 ol 15 14 1024,
 oa 16 14 1 0,
 oN 17 25 16 4096,
 oa 18 39 1 0,
 ol 19 18 16384,
 oa 20 40 1 0,
 oN 21 8 20 65536,
 oa 22 48 1 0,
 ol 23 22 262144,
 oa 24 49 1 0,
 oa 25 0 24 1048576,
 ol 26 25 3145728,
 oa 27 49 1 0,
 oa 28 1 27 8388608,
 ol 29 28 25165824,
 oa 30 49 1 0,
 oa 31 2 30 67108864,
 ol 32 31 201326592,
 oa 33 53 1 0,
 ol 34 33 536870912,
 oa 35 54 1 0,
 ol 36 35 2147483648,
 oa 37 55 1 0,
 ol 38 37 8589934592,
 ⟨some 39,.build [.int .i64 0,.int .i64 0,.int .i64 0,.int .i64 0,.int .i64 0,.int .i64 0,.int .i64 0,.int .i64 0,.str [],.str [],.str [],.int .i64 0,.int .i64 0,.int .i64 0,.int .i64 0,.int .i64 0,.int .i64 0,.int .i64 0,.int .i64 0,.int .i64 0,.int .i64 0,.int .i64 0,.int .i64 0,.int .i64 0,.int .i64 0,.int .i64 0,.int .i64 0,.int .i64 0,.int .i64 0,.int .i64 0,.int .i64 0,.int .i64 0,.int .i64 0,.int .i64 0,.int .i64 0,.int .i64 0,.int .i64 0,.int .i64 0,.int .i64 0,.int .i64 0,.int .i64 0,.int .i64 0,.int .i64 0,.int .i64 0,.int .i64 0,.int .i64 0,.int .i64 0,.int .i64 0,.int .i64 0,.int .i64 0,.int .i64 0,.int .i64 0,.int .i64 0,.int .i64 0] [(0,1,(.t 5)),(1,1,(.t 7)),(2,1,(.t 9)),(3,8,(.t 11)),(11,1,(.t 13)),(12,1,(.t 15)),(13,25,(.t 17)),(38,1,(.t 19)),(39,8,(.t 21)),(47,1,(.t 23)),(48,1,(.t 26)),(49,1,(.t 29)),(50,1,(.t 32)),(51,1,(.t 34)),(52,1,(.t 36)),(53,1,(.t 38))],none,34359738367,[39,5,7,9,11,13,15,17,19,21,23,26,29,32,34,36,38]⟩,
 oa 40 13 1 0,
 ol 41 40 68719476736,
 ⟨some 42,.lenL (.t 41),none,206158430208,[42,41]⟩,
 ⟨some 43,.bin .eql (some .int) true (.t 42) (.k (.int .i64 0)),none,481036337152,[43,42]⟩,
 om 44 43 1030792151040,
 oag 45 49 1 44 2130303778816,
 oag 46 3 45 44 4329327034368,
 olg 47 46 44 8727373545472,
 ⟨some 48,.lenL (.t 47),some (44,true),17523466567680,[48,44,47]⟩,
 ⟨some 49,.bin .eql (some .int) true (.t 48) (.k (.int .i64 0)),some (44,true),35115652612096,[49,44,48]⟩,
 ⟨some 50,.pick (.t 44) (.t 49) (.k (.bool false)),none,70300024700928,[50,44,49]⟩,
 ⟨none,.store 54 (.t 2) (.t 39),none,2199023255551,[2,39]⟩,
 om 3 50 281474976710655]
theorem k34_1 (lo : Nat) (hx : XDK P E ro L K Q lo h [true,true,true,true,true,true,true,true,true,true,true,true,true,true,true,true,true,true,true,true,true,true,true,true,true,true,true,true,true,true,true,true,true,true,true,true,true,true,true,true,true,true,true,true,true,true,true,true,true] r34_1 ρ h) : XD P E ro L r34_1 K ρ h Q := XD_keeps rfl rfl hx
def c34 : C := .seq (.region r34_0) (.seq (.draw r34_1) (.ret))
def fn34 : Fn := ⟨51,[.c 2 54 true,.t 3],c34⟩
def r35_0 : List O := [⟨some 2,.box 50 (.t 0),none,0,[2,0]⟩,
 ⟨some 3,.box 50 (.t 1),none,0,[3,1]⟩,
 ⟨some 4,.mv (.k (.bool false)),none,0,[4]⟩]
def r35_1 : List O := [oa 5 0 2 0,
 ol 6 5 1,
 oa 7 0 3 0,
 ol 8 7 4,
 ⟨some 9,.bin .eql (some .int) false (.t 6) (.t 8),none,15,[9,6,8]⟩,
 om 10 9 31,
 oag 11 1 2 10 63,
 olg 12 11 10 127,
 oag 13 1 3 10 63,
 olg 14 13 10 319,
 ⟨some 15,.bin .eql (some .int) false (.t 12) (.t 14),some (10,true),1023,[15,10,12,14]⟩,
 ⟨some 16,.pick (.t 10) (.t 15) (.k (.bool false)),none,2047,[16,10,15]⟩,
 om 17 16 4095,
 oag 18 2 2 17 8191,
 olg 19 18 17 16383,
 oag 20 2 3 17 8191,
 olg 21 20 17 40959,
 ⟨some 22,.bin .eql (some .int) false (.t 19) (.t 21),some (17,true),131071,[22,17,19,21]⟩,
 ⟨some 23,.pick (.t 17) (.t 22) (.k (.bool false)),none,262143,[23,17,22]⟩,
 om 24 23 524287,
 oag 25 3 2 24 1048575,
 oNg 26 8 25 24 2097151,
 oag 27 3 3 24 1048575,
 oNg 28 8 27 24 5242879,
 ⟨some 29,.bin .eql (some (.fcons 0 2 true (.fcons 0 1 false .int (.fcons 1 1 false .int .fnil)) (.fcons 2 1 false .int (.fcons 3 1 false .int (.fcons 4 1 false .int (.fcons 5 1 false .str (.fcons 6 1 false .str (.fcons 7 1 false .str .fnil)))))))) false (.t 26) (.t 28),some (24,true),16777215,[29,24,26,28]⟩,
 ⟨some 30,.pick (.t 24) (.t 29) (.k (.bool false)),none,33554431,[30,24,29]⟩,
 om 31 30 67108863,
 oag 32 11 2 31 134217727,
 olg 33 32 31 268435455,
 oag 34 11 3 31 134217727,
 olg 35 34 31 671088639,
 ⟨some 36,.bin .eql (some .int) false (.t 33) (.t 35),some (31,true),2147483647,[36,31,33,35]⟩,
 ⟨some 37,.pick (.t 31) (.t 36) (.k (.bool false)),none,4294967295,[37,31,36]⟩,
 om 38 37 8589934591,
 oag 39 12 2 38 17179869183,
 olg 40 39 38 34359738367,
 oag 41 12 3 38 17179869183,
 olg 42 41 38 85899345919,
 ⟨some 43,.bin .eql (some .int) false (.t 40) (.t 42),some (38,true),274877906943,[43,38,40,42]⟩,
 ⟨some 44,.pick (.t 38) (.t 43) (.k (.bool false)),none,549755813887,[44,38,43]⟩,
 om 45 44 1099511627775,
 oag 46 13 2 45 2199023255551,
 olg 47 46 45 4398046511103,
 oag 48 13 3 45 2199023255551,
 olg 49 48 45 10995116277759,
 ⟨some 50,.call (.k (.func 46 [] [])) [(.t 47),(.t 49)],some (45,true),35184372088831,[50,45,47,49]⟩,
 ⟨some 51,.pick (.t 45) (.t 50) (.k (.bool false)),none,70368744177663,[51,45,50]⟩,
 om 52 51 140737488355327,
 oag 53 14 2 52 281474976710655,
 oNg 54 25 53 52 562949953421311,
 oag 55 14 3 52 281474976710655,
 oNg 56 25 55 52 1407374883553279,
 ⟨some 57,.bin .eql (some (.fcons 0 1 false .int (.fcons 1 8 true (.ar 8 1 false .int) (.fcons 9 8 true (.ar 8 1 false .int) (.fcons 17 8 true (.ar 8 1 false .int) .fnil))))) false (.t 54) (.t 56),some (52,true),4503599627370495,[57,52,54,56]⟩,
 ⟨some 58,.pick (.t 52) (.t 57) (.k (.bool false)),none,9007199254740991,[58,52,57]⟩,
 om 59 58 18014398509481983,
 oag 60 39 2 59 36028797018963967,
 olg 61 60 59 72057594037927935,
 oag 62 39 3 59 36028797018963967,
 olg 63 62 59 180143985094819839,
 ⟨some 64,.bin .eql (some .int) false (.t 61) (.t 63),some (59,true),576460752303423487,[64,59,61,63]⟩,
 ⟨some 65,.pick (.t 59) (.t 64) (.k (.bool false)),none,1152921504606846975,[65,59,64]⟩,
 om 66 65 2305843009213693951,
 oag 67 40 2 66 4611686018427387903,
 oNg 68 8 67 66 9223372036854775807,
 oag 69 40 3 66 4611686018427387903,
 oNg 70 8 69 66 23058430092136939519,
 ⟨some 71,.bin .eql (some (.ar 8 1 false .int)) false (.t 68) (.t 70),some (66,true),73786976294838206463,[71,66,68,70]⟩,
 ⟨some 72,.pick (.t 66) (.t 71) (.k (.bool false)),none,147573952589676412927,[72,66,71]⟩,
 om 73 72 295147905179352825855,
 oag 74 48 2 73 590295810358705651711,
 olg 75 74 73 1180591620717411303423,
 oag 76 48 3 73 590295810358705651711,
 olg 77 76 73 2951479051793528258559,
 ⟨some 78,.bin .eql (some .int) false (.t 75) (.t 77),some (73,true),9444732965739290427391,[78,73,75,77]⟩,
 ⟨some 79,.pick (.t 73) (.t 78) (.k (.bool false)),none,18889465931478580854783,[79,73,78]⟩,
 om 80 79 37778931862957161709567,
 oag 81 49 2 80 75557863725914323419135,
 oNg 82 4 81 80 151115727451828646838271,
 oag 83 49 3 80 75557863725914323419135,
 oNg 84 4 83 80 377789318629571617095679,
 ⟨some 85,.call (.k (.func 47 [] [])) [(.t 82),(.t 84)],some (80,true),1208925819614629174706175,[85,80,82,84]⟩,
 ⟨some 86,.pick (.t 80) (.t 85) (.k (.bool false)),none,2417851639229258349412351,[86,80,85]⟩,
 om 87 86 4835703278458516698824703,
 oag 88 53 2 87 9671406556917033397649407,
 olg 89 88 87 19342813113834066795298815,
 oag 90 53 3 87 9671406556917033397649407,
 olg 91 90 87 48357032784585166988247039,
 ⟨some 92,.bin .eql (some .int) false (.t 89) (.t 91),some (87,true),154742504910672534362390527,[92,87,89,91]⟩,
 ⟨some 93,.pick (.t 87) (.t 92) (.k (.bool false)),none,309485009821345068724781055,[93,87,92]⟩,
 om 94 93 618970019642690137449562111,
 oag 95 54 2 94 1237940039285380274899124223,
 olg 96 95 94 2475880078570760549798248447,
 oag 97 54 3 94 1237940039285380274899124223,
 olg 98 97 94 6189700196426901374495621119,
 ⟨some 99,.bin .eql (some .int) false (.t 96) (.t 98),some (94,true),19807040628566084398385987583,[99,94,96,98]⟩,
 ⟨some 100,.pick (.t 94) (.t 99) (.k (.bool false)),none,39614081257132168796771975167,[100,94,99]⟩,
 om 101 100 79228162514264337593543950335,
 oag 102 55 2 101 158456325028528675187087900671,
 olg 103 102 101 316912650057057350374175801343,
 oag 104 55 3 101 158456325028528675187087900671,
 olg 105 104 101 792281625142643375935439503359,
 ⟨some 106,.bin .eql (some .int) false (.t 103) (.t 105),some (101,true),2535301200456458802993406410751,[106,101,103,105]⟩,
 ⟨some 107,.pick (.t 101) (.t 106) (.k (.bool false)),none,5070602400912917605986812821503,[107,101,106]⟩,
 om 4 107 10141204801825835211973625643007]
def c35 : C := .seq (.region r35_0) (.seq (.region r35_1) (.ret))
def fn35 : Fn := ⟨108,[.t 4],c35⟩
def r38_0 : List O := [om 5 0 0,
 ⟨some 6,.call (.k (.func 40 [] [])) [(.t 5)],none,1,[6,5]⟩]
def r38_1 : List O := [om 7 0 0,
 om 8 0 0,
 ⟨some 9,.nilck (.t 8),none,2,[9,8]⟩,
 oa 10 1 9 6,
 ol 11 10 14,
 om 12 1 0,
 ⟨some 13,.bslice 5 1 [(.int .u8 0)] [(0,1,(.t 12))],none,32,[13,12]⟩,
 ⟨some 14,.app 5 1 1 (.t 11) (.t 13),none,126,[14,11,13]⟩,
 ⟨some 15,.nilck (.t 7),none,255,[15,7]⟩,
 oa 16 1 15 511,
 ⟨none,.store 1 (.t 16) (.t 14),none,1023,[16,14]⟩]
def c38 : C := .seq (.region [⟨some 4,.mv (.k .nilIface),none,0,[4]⟩]) (.seq (.region r38_0) (.seq (.region r38_1) (.seq (.region [⟨some 4,.mv (.k .nilIface),none,0,[4]⟩]) (.ret))))
def fn38 : Fn := ⟨17,[.t 4],c38⟩
def r39_0 : List O := [om 11 0 0,
 ⟨some 12,.lenL (.t 11),none,1,[12,11]⟩]
def r39_1 : List O := [⟨some 14,.bin .eql (some .int) true (.t 12) (.k (.int .i64 0)),none,0,[14,12]⟩,
 om 13 14 1]
def r39_2 : List O := [⟨some 16,.bin .eql (some .int) true (.t 12) (.k (.int .i64 1)),none,0,[16,12]⟩,
 om 15 16 1]
def r39_3 : List O := [om 17 0 0,
 ⟨some 18,.iadrL 1 (.t 17) (.k (.int .i64 0)),none,1,[18,17]⟩,
 ol 19 18 3,
 om 4 19 7]
def r39_4 : List O := [om 20 1 0,
 ⟨some 21,.lenS (.t 20),none,1,[21,20]⟩,
 ⟨some 22,.bin .gtr (some .int) true (.t 21) (.k (.int .i64 0)),none,3,[22,21]⟩]
def r39_5 : List O := [om 23 1 0,
 ⟨some 24,.lenS (.t 23),none,1,[24,23]⟩,
 om 25 0 0,
 ⟨some 26,.lenL (.t 25),none,4,[26,25]⟩,
 ⟨some 27,.bin .sub (some .int) true (.t 26) (.k (.int .i64 1)),none,12,[27,26]⟩,
 ⟨some 28,.bin .quo (some .int) true (.k (.int .i64 9223372036854775807)) (.t 27),none,28,[28,27]⟩,
 ⟨some 29,.bin .geq (some .int) false (.t 24) (.t 28),none,63,[29,24,28]⟩]
def r39_6 : List O := [⟨some 30,.mkI 9 (.k (.str [115,116,114,105,110,103,115,58,32,74,111,105,110,32,111,117,116,112,117,116,32,108,101,110,103,116,104,32,111,118,101,114,102,108,111,119])),none,0,[30]⟩,
 ⟨none,.bad,none,1,[]⟩]
def r39_7 : List O := [om 31 5 0,
 om 32 1 0,
 ⟨some 33,.lenS (.t 32),none,2,[33,32]⟩,
 om 34 0 0,
 ⟨some 35,.lenL (.t 34),none,8,[35,34]⟩,
 ⟨some 36,.bin .sub (some .int) true (.t 35) (.k (.int .i64 1)),none,24,[36,35]⟩,
 ⟨some 37,.bin .mul (some .int) false (.t 33) (.t 36),none,62,[37,33,36]⟩,
 ⟨some 38,.bin .add (some .int) false (.t 31) (.t 37),none,127,[38,31,37]⟩,
 om 5 38 255]
def r39_8 : List O := [om 39 0 0,
 ⟨some 40,.lenL (.t 39),none,1,[40,39]⟩,
 ⟨some 41,.mv (.k (.int .i64 0)),none,0,[41]⟩]
def r39_9 : List O := [⟨some 43,.iadrL 1 (.t 39) (.t 41),none,0,[43,39,41]⟩,
 ol 44 43 1,
 om 7 44 3]
def r39_10 : List O := [om 45 7 0,
 ⟨some 46,.lenS (.t 45),none,1,[46,45]⟩,
 om 47 5 0,
 ⟨some 48,.bin .sub (some .int) true (.k (.int .i64 9223372036854775807)) (.t 47),none,4,[48,47]⟩,
 ⟨some 49,.bin .gtr (some .int) false (.t 46) (.t 48),none,15,[49,46,48]⟩]
def r39_11 : List O := [⟨some 50,.mkI 9 (.k (.str [115,116,114,105,110,103,115,58,32,74,111,105,110,32,111,117,116,112,117,116,32,108,101,110,103,116,104,32,111,118,101,114,102,108,111,119])),none,0,[50]⟩,
 ⟨none,.bad,none,1,[]⟩]
def r39_12 : List O := [om 51 5 0,
 om 52 7 0,
 ⟨some 53,.lenS (.t 52),none,2,[53,52]⟩,
 ⟨some 54,.bin .add (some .int) false (.t 51) (.t 53),none,7,[54,51,53]⟩,
 om 5 54 15]
def r39_13 : List O := [⟨some 55,.bin .add (some .int) true (.t 41) (.k (.int .i64 1)),none,0,[55,41]⟩,
 om 41 55 1]
def b39_14 : C := .seq (.region [⟨some 42,.bin .lss (some .int) false (.t 41) (.t 40),none,0,[42,41,40]⟩]) (.seq (.cond (.t 42) (.skip) (.exit 1)) (.seq (.block 2 (.seq (.region r39_9) (.seq (.seq (.region r39_10) (.cond (.t 49) (.region r39_11) (.skip))) (.region r39_12)))) (.region r39_13)))
theorem u39_14 : XL P E ro L b39_14 K ρ h Q = X P E ro L (.c (.seq (.region [⟨some 42,.bin .lss (some .int) false (.t 41) (.t 40),none,0,[42,41,40]⟩]) (.seq (.cond (.t 42) (.skip) (.exit 1)) (.seq (.block 2 (.seq (.region r39_9) (.seq (.seq (.region r39_10) (.cond (.t 49) (.region r39_11) (.skip))) (.region r39_12)))) (.region r39_13)))) :: .l b39_14 :: K) ρ h Q := XL_unroll b39_14
def r39_15 : List O := [om 56 5 0,
 ⟨some 57,.call (.k (.func 51 [] [])) [(.t 8),(.t 56)],none,1,[57,8,56]⟩]
def r39_16 : List O := [om 58 0 0,
 ⟨some 59,.iadrL 1 (.t 58) (.k (.int .i64 0)),none,1,[59,58]⟩,
 ol 60 59 3,
 ⟨some 61,.call (.k (.func 20 [] [])) [(.t 8),(.t 60)],none,7,[61,8,60]⟩]
def r39_17 : List O := [om 62 0 0,
 ⟨some 63,.slL 1 (.t 62) (some (.k (.int .i64 1))) none none,none,1,[63,62]⟩,
 ⟨some 64,.lenL (.t 63),none,3,[64,63]⟩,
 ⟨some 65,.mv (.k (.int .i64 0)),none,0,[65]⟩]
def r39_18 : List O := [⟨some 67,.iadrL 1 (.t 63) (.t 65),none,0,[67,63,65]⟩,
 ol 68 67 1,
 om 10 68 3]
def r39_19 : List O := [om 69 1 0,
 ⟨some 70,.call (.k (.func 20 [] [])) [(.t 8),(.t 69)],none,1,[70,8,69]⟩]
def r39_20 : List O := [om 71 10 0,
 ⟨some 72,.call (.k (.func 20 [] [])) [(.t 8),(.t 71)],none,1,[72,8,71]⟩]
def r39_21 : List O := [⟨some 73,.bin .add (some .int) true (.t 65) (.k (.int .i64 1)),none,0,[73,65]⟩,
 om 65 73 1]
def b39_22 : C := .seq (.region [⟨some 66,.bin .lss (some .int) false (.t 65) (.t 64),none,0,[66,65,64]⟩]) (.seq (.cond (.t 66) (.skip) (.exit 3)) (.seq (.block 4 (.seq (.region r39_18) (.seq (.region r39_19) (.region r39_20)))) (.region r39_21)))
theorem u39_22 : XL P E ro L b39_22 K ρ h Q = X P E ro L (.c (.seq (.region [⟨some 66,.bin .lss (some .int) false (.t 65) (.t 64),none,0,[66,65,64]⟩]) (.seq (.cond (.t 66) (.skip) (.exit 3)) (.seq (.block 4 (.seq (.region r39_18) (.seq (.region r39_19) (.region r39_20)))) (.region r39_21)))) :: .l b39_22 :: K) ρ h Q := XL_unroll b39_22
def r39_23 : List O := [⟨some 74,.call (.k (.func 22 [] [])) [(.t 8)],none,0,[74,8]⟩,
 om 4 74 1]
def c39 : C := .seq (.region [⟨some 4,.mv (.k (.str [])),none,0,[4]⟩]) (.seq (.seq (.region r39_0) (.block 0 (.seq (.region r39_1) (.cond (.t 13) (.seq (.region [⟨some 4,.mv (.k (.str [])),none,0,[4]⟩]) (.ret)) (.seq (.region r39_2) (.cond (.t 15) (.seq (.region r39_3) (.ret)) (.skip))))))) (.seq (.region [⟨some 5,.mv (.k (.int .i64 0)),none,0,[5]⟩]) (.seq (.seq (.region r39_4) (.cond (.t 22) (.seq (.seq (.region r39_5) (.cond (.t 29) (.region r39_6) (.skip))) (.region r39_7)) (.skip))) (.seq (.seq (.region r39_8) (.block 1 (.loop b39_14))) (.seq (.region [⟨some 8,.alloc 64 [(.ptr none),(.slice none 0 0 false)],none,0,[8]⟩]) (.seq (.region r39_15) (.seq (.region r39_16) (.seq (.seq (.region r39_17) (.block 3 (.loop b39_22))) (.seq (.region r39_23) (.ret))))))))))
def fn39 : Fn := ⟨75,[.t 4],c39⟩
def r40_0 : List O := [om 2 0 0,
 ⟨some 3,.nilck (.t 2),none,1,[3,2]⟩,
 oa 4 0 3 3,
 ol 5 4 7,
 ⟨some 6,.bin .eql (some .ptr) true (.t 5) (.k (.ptr none)),none,15,[6,5]⟩]
def r40_1 : List O := [om 7 0 0,
 om 8 0 0,
 ⟨some 9,.p2u (.t 8),none,2,[9,8]⟩,
 om 10 9 6,
 ⟨some 11,.u2p 64 (.t 10),none,14,[11,10]⟩,
 ⟨some 12,.nilck (.t 7),none,31,[12,7]⟩,
 oa 13 0 12 63,
 ⟨none,.store 1 (.t 13) (.t 11),none,127,[13,11]⟩]
def r40_2 : List O := [om 14 0 0,
 ⟨some 15,.nilck (.t 14),none,1,[15,14]⟩,
 oa 16 0 15 3,
 ol 17 16 7,
 om 18 0 0,
 ⟨some 19,.bin .neq (some .ptr) false (.t 17) (.t 18),none,31,[19,17,18]⟩]
def c40 : C := .seq (.region r40_0) (.cond (.t 6) (.region r40_1) (.seq (.region r40_2) (.cond (.t 19) (.bad) (.skip))))
def fn40 : Fn := ⟨20,[],c40⟩
def r41_0 : List O := [om 3 0 0,
 ⟨some 4,.call (.k (.func 53 [] [])) [(.t 3)],none,1,[4,3]⟩,
 om 2 4 3]
def c41 : C := .seq (.region [⟨some 2,.mv (.k (.str [])),none,0,[2]⟩]) (.seq (.region r41_0) (.ret))
def fn41 : Fn := ⟨5,[.t 2],c41⟩
def r42_0 : List O := [om 5 0 0,
 om 6 1 0,
 ⟨some 7,.call (.k (.func 54 [] [])) [(.t 5),(.t 6)],none,3,[7,5,6]⟩,
 om 4 7 7]
def c42 : C := .seq (.region [⟨some 4,.mv (.k (.str [])),none,0,[4]⟩]) (.seq (.region r42_0) (.ret))
def fn42 : Fn := ⟨8,[.t 4],c42⟩
def r43_0 : List O := [⟨some 3,.box 33 (.t 1),none,0,[3,1]⟩,
 ⟨some 4,.mv (.k (.str [])),none,0,[4]⟩]
def r43_1 : List O := [om 5 0 0,
 oa 6 0 3 0,
 ol 7 6 2,
 oa 8 1 3 0,
 ol 9 8 8,
 ⟨some 10,.bslice 3 2 [.int .i64 0,.int .i64 0] [(0,1,(.t 7)),(1,1,(.t 9))],none,30,[10,7,9]⟩,
 ⟨some 11,.call (.k (.func 31 [] [])) [(.t 10)],none,62,[11,10]⟩,
 ⟨some 12,.bin .add (some .str) false (.t 5) (.t 11),none,127,[12,5,11]⟩,
 om 4 12 255]
def c43 : C := .seq (.region r43_0) (.seq (.region r43_1) (.ret))
def fn43 : Fn := ⟨13,[.t 4],c43⟩
def r44_0 : List O := [⟨some 1,.box 37 (.t 0),none,0,[1,0]⟩,
 ⟨some 2,.mv (.k (.str [])),none,0,[2]⟩,
 ⟨some 3,.mv (.k (.bool false)),none,2,[3]⟩]
def r44_1 : List O := [oa 6 2 1 0,
 ol 7 6 1,
 ⟨some 8,.build [.int .i64 0,.int .i64 0,.int .i64 0,.int .i64 0,.int .i64 0,.str [],.str [],.str []] [(2,1,(.t 7))],none,3,[8,7]⟩,
 ⟨some 4,.alloc 37 [.int .i64 0,.int .i64 0,.int .i64 0,.int .i64 0,.int .i64 0,.str [],.str [],.str []],none,0,[4]⟩,
 ⟨none,.store 8 (.t 4) (.t 8),none,15,[4,8]⟩]
def r44_2 : List O := [oa 9 2 1 0,
 ol 10 9 1]
def r44_3 : List O := [⟨some 12,.bin .eql (some .int) true (.t 10) (.k (.int .i64 1)),none,0,[12,10]⟩,
 om 11 12 1]
def r44_4 : List O := [oa 13 4 1 0,
 ol 14 13 1,
 oa 15 5 1 0,
 ol 16 15 4,
 oa 17 4 4 3,
 ⟨none,.store 1 (.t 17) (.t 14),none,19,[17,14]⟩,
 oa 18 5 4 63,
 ⟨none,.store 1 (.t 18) (.t 16),none,127,[18,16]⟩]
theorem k44_4 (lo : Nat) (hx : XDK P E ro L K Q lo h [true,true,true,true,true,true,true,true] r44_4 ρ h) : XD P E ro L r44_4 K ρ h Q := XD_keeps rfl rfl hx
def r44_5 : List O := [oa 19 4 1 0,
 ol 20 19 1,
 ⟨some 21,.call (.k (.func 30 [] [])) [(.t 20)],none,3,[21,20]⟩,
 ⟨some 22,.bin .add (some .str) true (.k (.str [109,97,107,101,32])) (.t 21),none,7,[22,21]⟩,
 ⟨some 23,.bin .add (some .str) true (.t 22) (.k (.str [32])),none,15,[23,22]⟩,
 oa 24 5 1 0,
 ol 25 24 32,
 ⟨some 26,.call (.k (.func 17 [] [])) [(.t 25)],none,103,[26,25]⟩,
 ⟨some 27,.bin .add (some .str) false (.t 23) (.t 26),none,255,[27,23,26]⟩,
 om 5 27 511]
theorem d44_5 (hx : XDQ P E ro L K Q h [true,true,true,true,true,false,false,true,true,true] r44_5 ρ h) : XD P E ro L r44_5 K ρ h Q := XD_quiet rfl rfl hx
def r44_6 : List O := [⟨some 29,.bin .eql (some .int) true (.t 10) (.k (.int .i64 2)),none,0,[29,10]⟩,
 om 28 29 1]
def r44_7 : List O := [oa 30 3 1 0,
 ol 31 30 1,
 oa 32 4 1 0,
 ol 33 32 4,
 oa 34 5 1 0,
 ol 35 34 16,
 oa 36 3 4 3,
 ⟨none,.store 1 (.t 36) (.t 31),none,67,[36,31]⟩,
 oa 37 4 4 207,
 ⟨none,.store 1 (.t 37) (.t 33),none,463,[37,33]⟩,
 oa 38 5 4 1023,
 ⟨none,.store 1 (.t 38) (.t 35),none,2047,[38,35]⟩]
theorem k44_7 (lo : Nat) (hx : XDK P E ro L K Q lo h [true,true,true,true,true,true,true,true,true,true,true,true] r44_7 ρ h) : XD P E ro L r44_7 K ρ h Q := XD_keeps rfl rfl hx
def r44_8 : List O := [oa 39 3 1 0,
 ol 40 39 1,
 ⟨some 41,.call (.k (.func 30 [] [])) [(.t 40)],none,3,[41,40]⟩,
 ⟨some 42,.bin .add (some .str) true (.k (.str [109,111,118,101,32])) (.t 41),none,7,[42,41]⟩,
 ⟨some 43,.bin .add (some .str) true (.t 42) (.k (.str [32])),none,15,[43,42]⟩,
 oa 44 4 1 0,
 ol 45 44 32,
 ⟨some 46,.call (.k (.func 30 [] [])) [(.t 45)],none,103,[46,45]⟩,
 ⟨some 47,.bin .add (some .str) false (.t 43) (.t 46),none,255,[47,43,46]⟩,
 ⟨some 48,.bin .add (some .str) true (.t 47) (.k (.str [32])),none,511,[48,47]⟩,
 oa 49 5 1 0,
 ol 50 49 1024,
 ⟨some 51,.call (.k (.func 17 [] [])) [(.t 50)],none,3303,[51,50]⟩,
 ⟨some 52,.bin .add (some .str) false (.t 48) (.t 51),none,8191,[52,48,51]⟩,
 om 5 52 16383]
theorem d44_8 (hx : XDQ P E ro L K Q h [true,true,true,true,true,false,false,true,true,true,false,false,true,true,true] r44_8 ρ h) : XD P E ro L r44_8 K ρ h Q := XD_quiet rfl rfl hx
def r44_9 : List O := [⟨some 54,.bin .eql (some .int) true (.t 10) (.k (.int .i64 3)),none,0,[54,10]⟩,
 om 53 54 1]
def r44_10 : List O := [oa 55 3 1 0,
 ol 56 55 1,
 oa 57 6 1 0,
 ol 58 57 4,
 oa 59 7 1 0,
 ol 60 59 16,
 oa 61 3 4 3,
 ⟨none,.store 1 (.t 61) (.t 56),none,67,[61,56]⟩,
 oa 62 6 4 207,
 ⟨none,.store 1 (.t 62) (.t 58),none,463,[62,58]⟩,
 oa 63 7 4 1023,
 ⟨none,.store 1 (.t 63) (.t 60),none,2047,[63,60]⟩]
theorem k44_10 (lo : Nat) (hx : XDK P E ro L K Q lo h [true,true,true,true,true,true,true,true,true,true,true,true] r44_10 ρ h) : XD P E ro L r44_10 K ρ h Q := XD_keeps rfl rfl hx
def r44_11 : List O := [oa 64 3 1 0,
 ol 65 64 1,
 ⟨some 66,.call (.k (.func 30 [] [])) [(.t 65)],none,3,[66,65]⟩,
 ⟨some 67,.bin .add (some .str) true (.k (.str [97,116,116,114,32])) (.t 66),none,7,[67,66]⟩,
 ⟨some 68,.bin .add (some .str) true (.t 67) (.k (.str [32])),none,15,[68,67]⟩,
 oa 69 6 1 0,
 ol 70 69 32,
 ⟨some 71,.call (.k (.func 17 [] [])) [(.t 70)],none,103,[71,70]⟩,
 ⟨some 72,.bin .add (some .str) false (.t 68) (.t 71),none,255,[72,68,71]⟩,
 ⟨some 73,.bin .add (some .str) true (.t 72) (.k (.str [32])),none,511,[73,72]⟩,
 oa 74 7 1 0,
 ol 75 74 1024,
 ⟨some 76,.call (.k (.func 17 [] [])) [(.t 75)],none,3303,[76,75]⟩,
 ⟨some 77,.bin .add (some .str) false (.t 73) (.t 76),none,8191,[77,73,76]⟩,
 om 5 77 16383]
theorem d44_11 (hx : XDQ P E ro L K Q h [true,true,true,true,true,false,false,true,true,true,false,false,true,true,true] r44_11 ρ h) : XD P E ro L r44_11 K ρ h Q := XD_quiet rfl rfl hx
def r44_12 : List O := [⟨some 2,.mv (.k (.str [])),none,0,[2]⟩,
 ⟨some 3,.mv (.k (.bool false)),none,1,[3]⟩]
def r44_13 : List O := [om 78 5 0,
 oN 79 8 4 0,
 oN 80 8 1 0,
 ⟨some 81,.bin .eql (some (.fcons 0 2 true (.fcons 0 1 false .int (.fcons 1 1 false .int .fnil)) (.fcons 2 1 false .int (.fcons 3 1 false .int (.fcons 4 1 false .int (.fcons 5 1 false .str (.fcons 6 1 false .str (.fcons 7 1 false .str .fnil)))))))) false (.t 79) (.t 80),none,6,[81,79,80]⟩,
 om 2 78 1,
 om 3 81 31]
theorem d44_13 : XD P E ro L r44_13 K ρ h Q = XO P E ro L r44_13 K ρ h Q := XD_still rfl
def c44 : C := .seq (.region r44_0) (.seq (.region r44_1) (.seq (.region [⟨some 5,.mv (.k (.str [])),none,0,[5]⟩]) (.seq (.seq (.region r44_2) (.block 0 (.seq (.region r44_3) (.cond (.t 11) (.seq (.draw r44_4) (.draw r44_5)) (.seq (.region r44_6) (.cond (.t 28) (.seq (.draw r44_7) (.draw r44_8)) (.seq (.region r44_9) (.cond (.t 53) (.seq (.draw r44_10) (.draw r44_11)) (.seq (.region r44_12) (.ret)))))))))) (.seq (.draw r44_13) (.ret)))))
def fn44 : Fn := ⟨82,[.t 2,.t 3],c44⟩
def r45_0 : List O := [⟨some 1,.box 39 (.t 0),none,0,[1,0]⟩,
 ⟨some 2,.mv (.k (.str [])),none,0,[2]⟩,
 ⟨some 3,.mv (.k (.bool false)),none,2,[3]⟩]
def r45_1 : List O := [⟨some 5,.bslice 9 4 [.str [],.str [],.str [],.str []] [(0,1,(.k (.str []))),(1,1,(.k (.str [110,111,100,101,32]))),(2,1,(.k (.str [108,105,115,116,32]))),(3,1,(.k (.str [97,116,116,114,115,32])))],none,0,[5]⟩,
 om 4 5 1]
def r45_2 : List O := [oa 6 0 1 0,
 ol 7 6 1,
 ⟨some 8,.bin .geq (some .int) true (.t 7) (.k (.int .i64 1)),none,3,[8,7]⟩,
 om 9 8 7,
 oag 10 0 1 9 15,
 olg 11 10 9 31,
 ⟨some 12,.bin .leq (some .int) true (.t 11) (.k (.int .i64 3)),some (9,true),63,[12,9,11]⟩,
 ⟨some 13,.pick (.t 9) (.t 12) (.k (.bool false)),none,127,[13,9,12]⟩]
def r45_3 : List O := [om 14 4 0,
 oa 15 0 1 0,
 ol 16 15 2,
 ⟨some 17,.iadrL 1 (.t 14) (.t 16),none,7,[17,14,16]⟩,
 ol 18 17 15,
 oa 19 1 1 0,
 ol 20 19 32,
 ⟨some 21,.call (.k (.func 17 [] [])) [(.t 20)],none,96,[21,20]⟩,
 ⟨some 22,.bin .add (some .str) false (.t 18) (.t 21),none,255,[22,18,21]⟩,
 oa 23 2 1 0,
 ol 24 23 512,
 ⟨some 25,.bin .eql (some .int) true (.t 24) (.k (.int .i64 0)),none,1536,[25,24]⟩,
 om 2 22 511,
 om 3 25 8191]
theorem d45_3 (hx : XDQ P E ro L K Q h [true,true,true,true,true,true,true,true,true,false,false,false,true,true] r45_3 ρ h) : XD P E ro L r45_3 K ρ h Q := XD_quiet rfl rfl hx
def r45_4 : List O := [oa 26 2 1 0,
 ol 27 26 1,
 ⟨some 28,.call (.k (.func 30 [] [])) [(.t 27)],none,3,[28,27]⟩,
 ⟨some 29,.bin .add (some .str) true (.k (.str [112,97,116,104,32])) (.t 28),none,7,[29,28]⟩,
 oa 30 0 1 0,
 ol 31 30 16,
 ⟨some 32,.bin .eql (some .int) true (.t 31) (.k (.int .i64 4)),none,48,[32,31]⟩,
 om 33 32 119,
 oag 34 1 1 33 247,
 olg 35 34 33 503,
 ⟨some 36,.bin .eql (some .str) true (.t 35) (.k (.str [])),some (33,true),1015,[36,33,35]⟩,
 ⟨some 37,.pick (.t 33) (.t 36) (.k (.bool false)),none,2039,[37,33,36]⟩,
 om 2 29 255,
 om 3 37 8191]
theorem d45_4 (hx : XDQ P E ro L K Q h [true,true,true,true,false,false,false,true,true,true,true,true,true,true] r45_4 ρ h) : XD P E ro L r45_4 K ρ h Q := XD_quiet rfl rfl hx
def c45 : C := .seq (.region r45_0) (.seq (.region r45_1) (.seq (.seq (.region r45_2) (.cond (.t 13) (.seq (.draw r45_3) (.ret)) (.skip))) (.seq (.draw r45_4) (.ret))))
def fn45 : Fn := ⟨38,[.t 2,.t 3],c45⟩
def r46_0 : List O := [om 6 0 0,
 ⟨some 7,.lenL (.t 6),none,1,[7,6]⟩,
 om 8 1 0,
 ⟨some 9,.lenL (.t 8),none,4,[9,8]⟩,
 ⟨some 10,.bin .neq (some .int) false (.t 7) (.t 9),none,15,[10,7,9]⟩]
def r46_1 : List O := [om 11 5 0,
 om 12 0 0,
 ⟨some 13,.lenL (.t 12),none,2,[13,12]⟩,
 ⟨some 14,.bin .lss (some .int) false (.t 11) (.t 13),none,7,[14,11,13]⟩]
def r46_2 : List O := [om 17 0 0,
 om 18 5 0,
 ⟨some 19,.iadrL 8 (.t 17) (.t 18),none,3,[19,17,18]⟩,
 oN 20 8 19 7,
 om 21 1 0,
 om 22 5 0,
 ⟨some 23,.iadrL 8 (.t 21) (.t 22),none,48,[23,21,22]⟩,
 oN 24 8 23 112,
 ⟨some 25,.bin .neq (some (.fcons 0 2 true (.fcons 0 1 false .int (.fcons 1 1 false .int .fnil)) (.fcons 2 1 false .int (.fcons 3 1 false .int (.fcons 4 1 false .int (.fcons 5 1 false .str (.fcons 6 1 false .str (.fcons 7 1 false .str .fnil)))))))) false (.t 20) (.t 24),none,255,[25,20,24]⟩]
def r46_3 : List O := [om 15 5 0,
 ⟨some 16,.bin .add (some .int) true (.t 15) (.k (.int .i64 1)),none,1,[16,15]⟩,
 om 5 16 3]
def b46_4 : C := .seq (.seq (.region r46_1) (.cond (.t 14) (.skip) (.exit 0))) (.seq (.block 1 (.seq (.draw r46_2) (.cond (.t 25) (.seq (.region [⟨some 4,.mv (.k (.bool false)),none,0,[4]⟩]) (.ret)) (.skip)))) (.region r46_3))
theorem u46_4 : XL P E ro L b46_4 K ρ h Q = X P E ro L (.c (.seq (.seq (.region r46_1) (.cond (.t 14) (.skip) (.exit 0))) (.seq (.block 1 (.seq (.draw r46_2) (.cond (.t 25) (.seq (.region [⟨some 4,.mv (.k (.bool false)),none,0,[4]⟩]) (.ret)) (.skip)))) (.region r46_3))) :: .l b46_4 :: K) ρ h Q := XL_unroll b46_4
def c46 : C := .seq (.region [⟨some 4,.mv (.k (.bool false)),none,0,[4]⟩]) (.seq (.seq (.region r46_0) (.cond (.t 10) (.seq (.region [⟨some 4,.mv (.k (.bool false)),none,0,[4]⟩]) (.ret)) (.skip))) (.seq (.seq (.region [⟨some 5,.mv (.k (.int .i64 0)),none,0,[5]⟩]) (.block 0 (.loop b46_4))) (.seq (.region [⟨some 4,.mv (.k (.bool true)),none,0,[4]⟩]) (.ret))))
def fn46 : Fn := ⟨26,[.t 4],c46⟩
def r47_0 : List O := [⟨some 2,.box 48 (.t 0),none,0,[2,0]⟩,
 ⟨some 3,.box 48 (.t 1),none,0,[3,1]⟩,
 ⟨some 4,.mv (.k (.bool false)),none,0,[4]⟩]
def r47_1 : List O := [oa 5 0 2 0,
 ol 6 5 1,
 oa 7 0 3 0,
 ol 8 7 4,
 ⟨some 9,.bin .eql (some .int) false (.t 6) (.t 8),none,15,[9,6,8]⟩,
 om 10 9 31,
 oag 11 1 2 10 63,
 olg 12 11 10 127,
 oag 13 1 3 10 63,
 olg 14 13 10 319,
 ⟨some 15,.bin .eql (some .int) false (.t 12) (.t 14),some (10,true),1023,[15,10,12,14]⟩,
 ⟨some 16,.pick (.t 10) (.t 15) (.k (.bool false)),none,2047,[16,10,15]⟩,
 om 17 16 4095,
 oag 18 2 2 17 8191,
 olg 19 18 17 16383,
 oag 20 2 3 17 8191,
 olg 21 20 17 40959,
 ⟨some 22,.bin .eql (some .int) false (.t 19) (.t 21),some (17,true),131071,[22,17,19,21]⟩,
 ⟨some 23,.pick (.t 17) (.t 22) (.k (.bool false)),none,262143,[23,17,22]⟩,
 om 24 23 524287,
 oag 25 3 2 24 1048575,
 olg 26 25 24 2097151,
 ⟨some 27,.b2s (.t 26),some (24,true),4194303,[27,24,26]⟩,
 oag 28 3 3 24 1048575,
 olg 29 28 24 9437183,
 ⟨some 30,.b2s (.t 29),some (24,true),26214399,[30,24,29]⟩,
 ⟨some 31,.bin .eql (some .str) false (.t 27) (.t 30),some (24,true),67108863,[31,24,27,30]⟩,
 ⟨some 32,.pick (.t 24) (.t 31) (.k (.bool false)),none,134217727,[32,24,31]⟩,
 om 4 32 268435455]
def c47 : C := .seq (.region r47_0) (.seq (.region r47_1) (.ret))
def fn47 : Fn := ⟨33,[.t 4],c47⟩
def r51_0 : List O := [om 4 0 0,
 ⟨some 5,.call (.k (.func 40 [] [])) [(.t 4)],none,1,[5,4]⟩]
def r51_1 : List O := [om 6 1 0,
 ⟨some 7,.bin .lss (some .int) true (.t 6) (.k (.int .i64 0)),none,1,[7,6]⟩]
def r51_2 : List O := [⟨some 8,.mkI 9 (.k (.str [115,116,114,105,110,103,115,46,66,117,105,108,100,101,114,46,71,114,111,119,58,32,110,101,103,97,116,105,118,101,32,99,111,117,110,116])),none,0,[8]⟩,
 ⟨none,.bad,none,1,[]⟩]
def r51_3 : List O := [om 9 0 0,
 ⟨some 10,.nilck (.t 9),none,1,[10,9]⟩,
 oa 11 1 10 3,
 ol 12 11 7,
 ⟨some 13,.capL (.t 12),none,15,[13,12]⟩,
 om 14 0 0,
 ⟨some 15,.nilck (.t 14),none,32,[15,14]⟩,
 oa 16 1 15 96,
 ol 17 16 224,
 ⟨some 18,.lenL (.t 17),none,480,[18,17]⟩,
 ⟨some 19,.bin .sub (some .int) false (.t 13) (.t 18),none,1023,[19,13,18]⟩,
 om 20 1 0,
 ⟨some 21,.bin .lss (some .int) false (.t 19) (.t 20),none,4095,[21,19,20]⟩]
theorem d51_3 : XD P E ro L r51_3 K ρ h Q = XO P E ro L r51_3 K ρ h Q := XD_still rfl
def r51_4 : List O := [om 22 0 0,
 om 23 1 0,
 ⟨some 24,.call (.k (.func 59 [] [])) [(.t 22),(.t 23)],none,3,[24,22,23]⟩]
def c51 : C := .seq (.region r51_0) (.seq (.seq (.region r51_1) (.cond (.t 7) (.region r51_2) (.skip))) (.seq (.draw r51_3) (.cond (.t 21) (.region r51_4) (.skip))))
def fn51 : Fn := ⟨25,[],c51⟩
def r59_0 : List O := [om 5 0 0,
 ⟨some 6,.nilck (.t 5),none,1,[6,5]⟩,
 oa 7 1 6 3,
 ol 8 7 7,
 ⟨some 9,.capL (.t 8),none,15,[9,8]⟩,
 ⟨some 10,.bin .mul (some .int) true (.k (.int .i64 2)) (.t 9),none,31,[10,9]⟩,
 om 11 1 0,
 ⟨some 12,.bin .add (some .int) false (.t 10) (.t 11),none,127,[12,10,11]⟩,
 ⟨some 13,.mkNZ 5 (.t 12),none,255,[13,12]⟩,
 om 14 0 0,
 ⟨some 15,.nilck (.t 14),none,512,[15,14]⟩,
 oa 16 1 15 1536,
 ol 17 16 3584,
 ⟨some 18,.lenL (.t 17),none,7680,[18,17]⟩,
 ⟨some 19,.slL 1 (.t 13) none (some (.t 18)) none,none,16383,[19,13,18]⟩,
 om 4 19 32767]
theorem d59_0 (hx : XDQ P E ro L K Q h [true,true,true,true,true,true,true,true,true,false,false,false,false,false,true,true] r59_0 ρ h) : XD P E ro L r59_0 K ρ h Q := XD_quiet rfl rfl hx
def r59_1 : List O := [om 20 4 0,
 om 21 0 0,
 ⟨some 22,.nilck (.t 21),none,2,[22,21]⟩,
 oa 23 1 22 6,
 ol 24 23 14,
 ⟨some 25,.copy 1 (.t 20) (.t 24),none,31,[25,20,24]⟩]
def r59_2 : List O := [om 26 0 0,
 om 27 4 0,
 ⟨some 28,.nilck (.t 26),none,3,[28,26]⟩,
 oa 29 1 28 7,
 ⟨none,.store 1 (.t 29) (.t 27),none,15,[29,27]⟩]
def c59 : C := .seq (.draw r59_0) (.seq (.region r59_1) (.region r59_2))
def fn59 : Fn := ⟨30,[],c59⟩
end Go.AM.Sc
