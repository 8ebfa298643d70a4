/- My own texts, laid for this claim. -/
import Derived.Test.YtpfoofcallfjjaaGreatDoorXDToXPrim
set_option linter.unusedSimpArgs false
set_option linter.unusedVariables false
namespace Go.AM.Wc
/-! 3: orchard/orchardlaw05.WalCuts -/
def r3_0 : List O := [⟨some 16, .call (.k (.func 6 [] [])) [], none, 0, [16]⟩,
  ⟨some 17, .un .not (.t 16), none, 1, [17, 16]⟩]
def r3_1 : List O := [⟨some 19, .call (.k (.func 7 [] [])) [(.k (.int .i64 1048576))], none, 0, [19]⟩,
  ⟨some 18, .mv (.t 19), none, 1, [18, 19]⟩,
  ⟨some 20, .extract (.t 18) 0, none, 3, [20, 18]⟩,
  ⟨some 21, .extract (.t 18) 1, none, 3, [21, 18]⟩,
  ⟨some 5, .mv (.t 20), none, 7, [5, 20]⟩,
  ⟨some 6, .mv (.t 21), none, 31, [6, 21]⟩]
def r3_2 : List O := [⟨some 23, .mv (.t 5), none, 0, [23, 5]⟩,
  ⟨some 24, .call (.k (.func 8 [] [])) [(.t 23), (.k (.str [108, 111, 103]))], none, 1, [24, 23]⟩,
  ⟨some 22, .mv (.t 24), none, 3, [22, 24]⟩,
  ⟨some 25, .extract (.t 22) 0, none, 7, [25, 22]⟩,
  ⟨some 26, .extract (.t 22) 1, none, 7, [26, 22]⟩,
  ⟨some 7, .mv (.t 25), none, 15, [7, 25]⟩,
  ⟨some 8, .mv (.t 26), none, 63, [8, 26]⟩]
def r3_3 : List O := [⟨some 27, .mv (.t 6), none, 0, [27, 6]⟩,
  ⟨some 28, .bin .neq (some .int) true (.t 27) (.k (.int .i64 0)), none, 1, [28, 27]⟩,
  ⟨some 29, .mv (.t 28), none, 3, [29, 28]⟩,
  ⟨some 30, .mv (.t 8), some (29, false), 7, [30, 29, 8]⟩,
  ⟨some 31, .bin .neq (some .int) true (.t 30) (.k (.int .i64 0)), some (29, false), 15, [31, 29, 30]⟩,
  ⟨some 32, .pick (.t 29) (.k (.bool true)) (.t 31), none, 31, [32, 29, 31]⟩,
  ⟨some 33, .mv (.t 32), none, 63, [33, 32]⟩,
  ⟨some 34, .mv (.t 7), some (33, false), 127, [34, 33, 7]⟩,
  ⟨some 35, .bin .eql (some .ptr) true (.t 34) (.k (.ptr none)), some (33, false), 255, [35, 33, 34]⟩,
  ⟨some 36, .pick (.t 33) (.k (.bool true)) (.t 35), none, 511, [36, 33, 35]⟩]
def r3_4 : List O := [⟨some 37, .mv (.t 0), none, 0, [37, 0]⟩,
  ⟨some 38, .lenL (.t 37), none, 1, [38, 37]⟩,
  ⟨some 39, .mv (.k (.int .i64 0)), none, 0, [39]⟩]
def r3_5 : List O := [⟨some 41, .iadrL 5 (.t 37) (.t 39), none, 0, [41, 37, 39]⟩,
  ⟨some 42, .loadN 5 (.t 41), none, 1, [42, 41]⟩,
  ⟨some 10, .alloc 33 [(.int .i64 0), (.slice none 0 0 false), (.int .i64 0), (.int .i64 0), (.int .i64 0)], none, 0, [10]⟩,
  ⟨none, .store 5 (.t 10) (.t 42), none, 7, [10, 42]⟩]
def r3_6 : List O := [⟨some 43, .fadr 0 (.t 10), none, 0, [43, 10]⟩,
  ⟨some 44, .load1 (.t 43), none, 1, [44, 43]⟩,
  ⟨some 45, .bin .eql (some .int) true (.t 44) (.k (.int .i64 0)), none, 3, [45, 44]⟩]
def r3_7 : List O := [⟨some 46, .mv (.t 7), none, 0, [46, 7]⟩,
  ⟨some 47, .fadr 1 (.t 10), none, 0, [47, 10]⟩,
  ⟨some 48, .load1 (.t 47), none, 2, [48, 47]⟩,
  ⟨some 49, .call (.k (.func 9 [] [])) [(.t 46), (.t 48)], none, 7, [49, 46, 48]⟩]
def r3_8 : List O := [⟨some 50, .bin .add (some .int) true (.t 39) (.k (.int .i64 1)), none, 0, [50, 39]⟩,
  ⟨some 39, .mv (.t 50), none, 1, [39, 50]⟩]
def b3_9 : C := .seq (.region [⟨some 40, .bin .lss (some .int) false (.t 39) (.t 38), none, 0, [40, 39, 38]⟩]) (.seq (.cond (.t 40) (.skip) (.exit 0)) (.seq (.block 1 (.seq (.region r3_5) (.seq (.region r3_6) (.cond (.t 45) (.region r3_7) (.skip))))) (.region r3_8)))
theorem u3_9 {P : Program} {E : Env} {ro : Option Nat} {L : Nat} {K : List Fr} {ρ : Nat → V} {h : H} {Q : Po} : XL P E ro L b3_9 K ρ h Q = X P E ro L (.c (.seq (.region [⟨some 40, .bin .lss (some .int) false (.t 39) (.t 38), none, 0, [40, 39, 38]⟩]) (.seq (.cond (.t 40) (.skip) (.exit 0)) (.seq (.block 1 (.seq (.region r3_5) (.seq (.region r3_6) (.cond (.t 45) (.region r3_7) (.skip))))) (.region r3_8)))) :: .l b3_9 :: K) ρ h Q := XL_unroll b3_9
def r3_10 : List O := [⟨some 51, .mv (.t 7), none, 0, [51, 7]⟩,
  ⟨some 52, .call (.k (.func 10 [] [])) [(.t 51)], none, 1, [52, 51]⟩,
  ⟨some 53, .mv (.t 7), none, 0, [53, 7]⟩,
  ⟨some 54, .call (.k (.func 11 [] [])) [(.t 53)], none, 7, [54, 53]⟩,
  ⟨some 55, .mv (.t 7), none, 0, [55, 7]⟩,
  ⟨some 56, .call (.k (.func 12 [] [])) [(.t 55)], none, 31, [56, 55]⟩,
  ⟨some 11, .mv (.t 52), none, 63, [11, 52]⟩,
  ⟨some 12, .mv (.t 54), none, 127, [12, 54]⟩,
  ⟨some 13, .mv (.t 56), none, 255, [13, 56]⟩]
def r3_11 : List O := [⟨some 57, .mv (.t 7), none, 0, [57, 7]⟩,
  ⟨some 58, .mv (.t 1), none, 0, [58, 1]⟩,
  ⟨some 59, .call (.k (.func 13 [] [])) [(.t 57), (.t 58)], none, 3, [59, 57, 58]⟩,
  ⟨some 60, .bin .neq (some .int) true (.t 59) (.k (.int .i64 0)), none, 7, [60, 59]⟩,
  ⟨some 61, .mv (.t 60), none, 15, [61, 60]⟩,
  ⟨some 62, .mv (.t 7), some (61, false), 31, [62, 61, 7]⟩,
  ⟨some 63, .call (.k (.func 11 [] [])) [(.t 62)], some (61, false), 63, [63, 61, 62]⟩,
  ⟨some 64, .mv (.t 12), some (61, false), 31, [64, 61, 12]⟩,
  ⟨some 65, .bin .neq (some .int) false (.t 63) (.t 64), some (61, false), 255, [65, 61, 63, 64]⟩,
  ⟨some 66, .pick (.t 61) (.k (.bool true)) (.t 65), none, 511, [66, 61, 65]⟩,
  ⟨some 67, .mv (.t 66), none, 1023, [67, 66]⟩,
  ⟨some 68, .mv (.t 7), some (67, false), 2047, [68, 67, 7]⟩,
  ⟨some 69, .call (.k (.func 10 [] [])) [(.t 68)], some (67, false), 4095, [69, 67, 68]⟩,
  ⟨some 70, .mv (.t 11), some (67, false), 2047, [70, 67, 11]⟩,
  ⟨some 71, .bin .lss (some .int) false (.t 69) (.t 70), some (67, false), 16383, [71, 67, 69, 70]⟩,
  ⟨some 72, .pick (.t 67) (.k (.bool true)) (.t 71), none, 32767, [72, 67, 71]⟩,
  ⟨some 73, .mv (.t 72), none, 65535, [73, 72]⟩,
  ⟨some 74, .mv (.t 7), some (73, false), 131071, [74, 73, 7]⟩,
  ⟨some 75, .call (.k (.func 10 [] [])) [(.t 74)], some (73, false), 262143, [75, 73, 74]⟩,
  ⟨some 76, .mv (.t 11), some (73, false), 131071, [76, 73, 11]⟩,
  ⟨some 77, .mv (.t 1), some (73, false), 131071, [77, 73, 1]⟩,
  ⟨some 78, .minmax true [(.t 76), (.t 77)], some (73, false), 1703935, [78, 73, 76, 77]⟩,
  ⟨some 79, .bin .gtr (some .int) false (.t 75) (.t 78), some (73, false), 4194303, [79, 73, 75, 78]⟩,
  ⟨some 80, .pick (.t 73) (.k (.bool true)) (.t 79), none, 8388607, [80, 73, 79]⟩,
  ⟨some 81, .mv (.t 80), none, 16777215, [81, 80]⟩,
  ⟨some 82, .mv (.t 13), some (81, false), 33554431, [82, 81, 13]⟩,
  ⟨some 83, .bin .gtr (some .int) true (.t 82) (.k (.int .i64 0)), some (81, false), 67108863, [83, 81, 82]⟩,
  ⟨some 84, .mv (.t 83), some (81, false), 134217727, [84, 81, 83]⟩,
  ⟨some 85, .mv (.t 7), some (84, true), 268435455, [85, 84, 7]⟩,
  ⟨some 86, .call (.k (.func 12 [] [])) [(.t 85)], some (84, true), 536870911, [86, 84, 85]⟩,
  ⟨some 87, .bin .lss (some .int) true (.t 86) (.k (.int .i64 1)), some (84, true), 1073741823, [87, 84, 86]⟩,
  ⟨some 88, .pick (.t 84) (.t 87) (.k (.bool false)), some (81, false), 2147483647, [88, 81, 84, 87]⟩,
  ⟨some 89, .pick (.t 81) (.k (.bool true)) (.t 88), none, 4294967295, [89, 81, 88]⟩]
def r3_12 : List O := [⟨some 90, .mv (.t 7), none, 0, [90, 7]⟩,
  ⟨some 91, .call (.k (.func 10 [] [])) [(.t 90)], none, 1, [91, 90]⟩,
  ⟨some 14, .alloc 2 [(.int .i64 0)], none, 0, [14]⟩,
  ⟨none, .store 1 (.t 14) (.t 91), none, 7, [14, 91]⟩]
def r3_13 : List O := [⟨some 92, .mv (.t 7), none, 0, [92, 7]⟩,
  ⟨some 93, .call (.k (.func 14 [] [])) [(.t 92)], none, 1, [93, 92]⟩]
def a3_14 : C := .region [⟨some 15, .mv (.t 94), none, 0, [15, 94]⟩]
def r3_15 : List O := [⟨some 96, .mv (.t 15), none, 0, [96, 15]⟩,
  ⟨some 97, .load1 (.t 14), none, 0, [97, 14]⟩,
  ⟨some 98, .bin .neq (some .int) false (.t 96) (.t 97), none, 3, [98, 96, 97]⟩]
def r3_16 : List O := [⟨some 99, .load1 (.t 14), none, 0, [99, 14]⟩,
  ⟨some 100, .bin .add (some .int) true (.t 99) (.k (.int .i64 1)), none, 1, [100, 99]⟩,
  ⟨none, .store 1 (.t 14) (.t 100), none, 3, [14, 100]⟩]
def b3_17 : C := .block 3 (.seq (.seq (.region r3_15) (.cond (.t 98) (.seq (.region [⟨none, .store 1 (.t 4) (.k (.bool false)), none, 0, [4]⟩]) (.ret)) (.skip))) (.region r3_16))
def r3_18 : List O := [⟨some 101, .load1 (.t 14), none, 0, [101, 14]⟩,
  ⟨some 102, .mv (.t 12), none, 0, [102, 12]⟩,
  ⟨some 103, .bin .eql (some .int) false (.t 101) (.t 102), none, 3, [103, 101, 102]⟩,
  ⟨none, .store 1 (.t 4) (.t 103), none, 7, [4, 103]⟩]
def c3 : C := .seq (.region [⟨some 4, .alloc 4 [(.bool false)], none, 0, [4]⟩]) (.seq (.seq (.region r3_0) (.cond (.t 17) (.seq (.region [⟨none, .store 1 (.t 4) (.k (.bool false)), none, 0, [4]⟩]) (.ret)) (.skip))) (.seq (.region r3_1) (.seq (.region r3_2) (.seq (.seq (.region r3_3) (.cond (.t 36) (.seq (.region [⟨none, .store 1 (.t 4) (.k (.bool false)), none, 0, [4]⟩]) (.ret)) (.skip))) (.seq (.seq (.region r3_4) (.block 0 (.loop b3_9))) (.seq (.region r3_10) (.seq (.seq (.region r3_11) (.cond (.t 89) (.seq (.region [⟨none, .store 1 (.t 4) (.k (.bool false)), none, 0, [4]⟩]) (.ret)) (.skip))) (.seq (.region r3_12) (.seq (.seq (.region r3_13) (.block 2 (.range (.t 93) [94, 95] a3_14 b3_17))) (.seq (.region r3_18) (.ret)))))))))))
def fn3 : Fn := ⟨104, [.c 4 1 false], c3⟩
/-! 7: orchard/disk.New -/
def r7_0 : List O := [⟨some 2, .mv (.k (.ptr none)), none, 0, [2]⟩,
  ⟨some 3, .mv (.k (.int .i64 0)), none, 1, [3]⟩]
def r7_1 : List O := [⟨some 4, .mv (.t 0), none, 0, [4, 0]⟩,
  ⟨some 5, .bin .lss (some .int) true (.t 4) (.k (.int .i64 0)), none, 1, [5, 4]⟩]
def r7_2 : List O := [⟨some 2, .mv (.k (.ptr none)), none, 0, [2]⟩,
  ⟨some 3, .mv (.k (.int .i64 1)), none, 1, [3]⟩]
def r7_3 : List O := [⟨some 6, .mkMap, none, 0, [6]⟩,
  ⟨some 7, .mv (.t 0), none, 0, [7, 0]⟩,
  ⟨some 8, .build [(.map none), (.int .i64 0), (.int .i64 0), (.int .i64 0), (.bool false)] [(0, 1, (.t 6)), (3, 1, (.t 7))], none, 3, [8, 6, 7]⟩,
  ⟨some 9, .box 63 (.t 8), none, 7, [9, 8]⟩,
  ⟨some 2, .mv (.t 9), none, 15, [2, 9]⟩,
  ⟨some 3, .mv (.k (.int .i64 0)), none, 31, [3]⟩]
def c7 : C := .seq (.region r7_0) (.seq (.seq (.region r7_1) (.cond (.t 5) (.seq (.region r7_2) (.ret)) (.skip))) (.seq (.region r7_3) (.ret)))
def fn7 : Fn := ⟨10, [.t 2, .t 3], c7⟩
/-! 8: orchard/wal.Open -/
def r8_0 : List O := [⟨some 4, .mv (.k (.ptr none)), none, 0, [4]⟩,
  ⟨some 5, .mv (.k (.int .i64 0)), none, 1, [5]⟩]
def r8_1 : List O := [⟨some 20, .mv (.t 1), none, 0, [20, 1]⟩,
  ⟨some 21, .call (.k (.func 24 [] [])) [(.t 20)], none, 1, [21, 20]⟩,
  ⟨some 22, .un .not (.t 21), none, 3, [22, 21]⟩,
  ⟨some 19, .mv (.t 22), none, 7, [19, 22]⟩]
def r8_2 : List O := [⟨some 4, .mv (.k (.ptr none)), none, 0, [4]⟩,
  ⟨some 5, .mv (.k (.int .i64 1)), none, 1, [5]⟩]
def r8_3 : List O := [⟨some 24, .mv (.t 0), none, 0, [24, 0]⟩,
  ⟨some 25, .call (.k (.func 25 [] [])) [(.t 24)], none, 1, [25, 24]⟩,
  ⟨some 23, .mv (.t 25), none, 3, [23, 25]⟩]
def r8_4 : List O := [⟨some 4, .mv (.k (.ptr none)), none, 0, [4]⟩,
  ⟨some 5, .mv (.k (.int .i64 7)), none, 1, [5]⟩]
def r8_5 : List O := [⟨some 27, .mv (.t 0), none, 0, [27, 0]⟩,
  ⟨some 28, .call (.k (.func 26 [] [])) [(.t 27)], none, 1, [28, 27]⟩,
  ⟨some 29, .bin .eql (some .ptr) true (.t 28) (.k (.ptr none)), none, 3, [29, 28]⟩,
  ⟨some 26, .mv (.t 29), none, 7, [26, 29]⟩]
def r8_6 : List O := [⟨some 4, .mv (.k (.ptr none)), none, 0, [4]⟩,
  ⟨some 5, .mv (.k (.int .i64 2)), none, 1, [5]⟩]
def r8_7 : List O := [⟨some 30, .mv (.t 0), none, 0, [30, 0]⟩,
  ⟨some 31, .mv (.t 1), none, 0, [31, 1]⟩,
  ⟨some 32, .build [(.ptr none), (.str []), (.slice none 0 0 false), (.int .i64 0), (.int .i64 0), (.bool false)] [(0, 1, (.t 30)), (1, 1, (.t 31))], none, 3, [32, 30, 31]⟩,
  ⟨some 33, .box 68 (.t 32), none, 7, [33, 32]⟩,
  ⟨some 6, .mv (.t 33), none, 15, [6, 33]⟩]
def r8_8 : List O := [⟨some 34, .mv (.t 0), none, 0, [34, 0]⟩,
  ⟨some 35, .mv (.t 1), none, 0, [35, 1]⟩,
  ⟨some 36, .call (.k (.func 27 [] [])) [(.t 34), (.t 35)], none, 3, [36, 34, 35]⟩,
  ⟨some 7, .mv (.t 36), none, 7, [7, 36]⟩]
def r8_9 : List O := [⟨some 37, .mv (.t 7), none, 0, [37, 7]⟩,
  ⟨some 38, .lenL (.t 37), none, 1, [38, 37]⟩,
  ⟨some 39, .mv (.k (.int .i64 0)), none, 0, [39]⟩]
def r8_10 : List O := [⟨some 41, .mv (.t 39), none, 0, [41, 39]⟩,
  ⟨some 42, .iadrL 1 (.t 37) (.t 39), none, 0, [42, 37, 39]⟩,
  ⟨some 43, .load1 (.t 42), none, 2, [43, 42]⟩,
  ⟨some 8, .mv (.t 41), none, 7, [8, 41]⟩,
  ⟨some 9, .mv (.t 43), none, 15, [9, 43]⟩]
def r8_11 : List O := [⟨some 45, .mv (.t 0), none, 0, [45, 0]⟩,
  ⟨some 46, .mv (.t 1), none, 0, [46, 1]⟩,
  ⟨some 47, .mv (.t 9), none, 0, [47, 9]⟩,
  ⟨some 48, .call (.k (.func 23 [] [])) [(.t 46), (.t 47)], none, 6, [48, 46, 47]⟩,
  ⟨some 49, .call (.k (.func 28 [] [])) [(.t 45), (.t 48)], none, 15, [49, 45, 48]⟩,
  ⟨some 44, .mv (.t 49), none, 31, [44, 49]⟩,
  ⟨some 50, .extract (.t 44) 0, none, 63, [50, 44]⟩,
  ⟨some 51, .extract (.t 44) 1, none, 63, [51, 44]⟩,
  ⟨some 10, .mv (.t 50), none, 127, [10, 50]⟩,
  ⟨some 11, .mv (.t 51), none, 511, [11, 51]⟩]
def r8_12 : List O := [⟨some 52, .mv (.t 11), none, 0, [52, 11]⟩,
  ⟨some 53, .bin .neq (some .int) true (.t 52) (.k (.int .i64 0)), none, 1, [53, 52]⟩]
def r8_13 : List O := [⟨some 54, .mv (.t 11), none, 0, [54, 11]⟩,
  ⟨some 4, .mv (.k (.ptr none)), none, 0, [4]⟩,
  ⟨some 5, .mv (.t 54), none, 3, [5, 54]⟩]
def r8_14 : List O := [⟨some 55, .mv (.t 9), none, 0, [55, 9]⟩,
  ⟨some 56, .build [(.int .i64 0), (.slice none 0 0 false), (.int .i64 0), (.bool false)] [(0, 1, (.t 55))], none, 1, [56, 55]⟩,
  ⟨some 12, .alloc 74 [(.int .i64 0), (.slice none 0 0 false), (.int .i64 0), (.bool false)], none, 0, [12]⟩,
  ⟨none, .store 4 (.t 12) (.t 56), none, 7, [12, 56]⟩]
def r8_15 : List O := [⟨some 58, .mv (.t 10), none, 0, [58, 10]⟩,
  ⟨some 59, .call (.k (.func 29 [] [])) [(.t 58)], none, 1, [59, 58]⟩,
  ⟨some 57, .mv (.t 59), none, 3, [57, 59]⟩,
  ⟨some 60, .extract (.t 57) 0, none, 7, [60, 57]⟩,
  ⟨some 61, .extract (.t 57) 1, none, 7, [61, 57]⟩,
  ⟨some 62, .fadr 1 (.t 12), none, 15, [62, 12]⟩,
  ⟨none, .store 1 (.t 62) (.t 60), none, 47, [62, 60]⟩,
  ⟨some 63, .fadr 2 (.t 12), none, 127, [63, 12]⟩,
  ⟨none, .store 1 (.t 63) (.t 61), none, 255, [63, 61]⟩]
def r8_16 : List O := [⟨some 64, .mv (.t 6), none, 0, [64, 6]⟩,
  ⟨some 65, .loadN 4 (.t 12), none, 0, [65, 12]⟩,
  ⟨some 66, .call (.k (.func 30 [] [])) [(.t 65)], none, 2, [66, 65]⟩,
  ⟨some 67, .nilck (.t 64), none, 7, [67, 64]⟩,
  ⟨some 68, .fadr 3 (.t 67), none, 15, [68, 67]⟩,
  ⟨none, .store 1 (.t 68) (.t 66), none, 31, [68, 66]⟩]
def r8_17 : List O := [⟨some 70, .mv (.t 8), none, 0, [70, 8]⟩,
  ⟨some 71, .mv (.t 7), none, 0, [71, 7]⟩,
  ⟨some 72, .lenL (.t 71), none, 2, [72, 71]⟩,
  ⟨some 73, .bin .sub (some .int) true (.t 72) (.k (.int .i64 1)), none, 6, [73, 72]⟩,
  ⟨some 74, .bin .lss (some .int) false (.t 70) (.t 73), none, 15, [74, 70, 73]⟩,
  ⟨some 75, .mv (.t 74), none, 31, [75, 74]⟩,
  ⟨some 76, .fadr 2 (.t 12), some (75, true), 63, [76, 75, 12]⟩,
  ⟨some 77, .load1 (.t 76), some (75, true), 127, [77, 75, 76]⟩,
  ⟨some 78, .mv (.t 10), some (75, true), 63, [78, 75, 10]⟩,
  ⟨some 79, .lenL (.t 78), some (75, true), 319, [79, 75, 78]⟩,
  ⟨some 80, .bin .lss (some .int) false (.t 77) (.t 79), some (75, true), 1023, [80, 75, 77, 79]⟩,
  ⟨some 81, .mv (.t 80), some (75, true), 2047, [81, 75, 80]⟩,
  ⟨some 82, .loadN 4 (.t 12), some (81, false), 4095, [82, 81, 12]⟩,
  ⟨some 83, .call (.k (.func 30 [] [])) [(.t 82)], some (81, false), 8191, [83, 81, 82]⟩,
  ⟨some 84, .mv (.t 7), some (81, false), 4095, [84, 81, 7]⟩,
  ⟨some 85, .mv (.t 8), some (81, false), 4095, [85, 81, 8]⟩,
  ⟨some 86, .bin .add (some .int) true (.t 85) (.k (.int .i64 1)), some (81, false), 36863, [86, 81, 85]⟩,
  ⟨some 87, .iadrL 1 (.t 84) (.t 86), some (81, false), 118783, [87, 81, 84, 86]⟩,
  ⟨some 88, .load1 (.t 87), some (81, false), 249855, [88, 81, 87]⟩,
  ⟨some 89, .bin .neq (some .int) false (.t 83) (.t 88), some (81, false), 524287, [89, 81, 83, 88]⟩,
  ⟨some 90, .pick (.t 81) (.k (.bool true)) (.t 89), some (75, true), 1048575, [90, 75, 81, 89]⟩,
  ⟨some 91, .pick (.t 75) (.t 90) (.k (.bool false)), none, 2097151, [91, 75, 90]⟩,
  ⟨some 69, .mv (.t 91), none, 4194303, [69, 91]⟩]
def r8_18 : List O := [⟨some 4, .mv (.k (.ptr none)), none, 0, [4]⟩,
  ⟨some 5, .mv (.k (.int .i64 51)), none, 1, [5]⟩]
def r8_19 : List O := [⟨some 93, .fadr 2 (.t 12), none, 0, [93, 12]⟩,
  ⟨some 94, .load1 (.t 93), none, 1, [94, 93]⟩,
  ⟨some 95, .mv (.t 10), none, 0, [95, 10]⟩,
  ⟨some 96, .lenL (.t 95), none, 4, [96, 95]⟩,
  ⟨some 97, .bin .lss (some .int) false (.t 94) (.t 96), none, 15, [97, 94, 96]⟩,
  ⟨some 92, .mv (.t 97), none, 31, [92, 97]⟩]
def r8_20 : List O := [⟨some 98, .mv (.t 6), none, 0, [98, 6]⟩,
  ⟨some 99, .loadN 4 (.t 12), none, 0, [99, 12]⟩,
  ⟨some 100, .mv (.t 10), none, 0, [100, 10]⟩,
  ⟨some 101, .fadr 2 (.t 12), none, 0, [101, 12]⟩,
  ⟨some 102, .load1 (.t 101), none, 8, [102, 101]⟩,
  ⟨some 103, .slL 1 (.t 100) none (some (.t 102)) none, none, 28, [103, 100, 102]⟩,
  ⟨some 104, .call (.k (.func 31 [] [])) [(.t 98), (.t 99), (.t 103)], none, 63, [104, 98, 99, 103]⟩,
  ⟨some 13, .mv (.t 104), none, 127, [13, 104]⟩]
def r8_21 : List O := [⟨some 105, .mv (.t 13), none, 0, [105, 13]⟩,
  ⟨some 106, .bin .neq (some .int) true (.t 105) (.k (.int .i64 0)), none, 1, [106, 105]⟩]
def r8_22 : List O := [⟨some 107, .mv (.t 13), none, 0, [107, 13]⟩,
  ⟨some 4, .mv (.k (.ptr none)), none, 0, [4]⟩,
  ⟨some 5, .mv (.t 107), none, 3, [5, 107]⟩]
def r8_23 : List O := [⟨some 108, .fadr 1 (.t 12), none, 0, [108, 12]⟩,
  ⟨some 109, .load1 (.t 108), none, 1, [109, 108]⟩,
  ⟨some 110, .lenL (.t 109), none, 3, [110, 109]⟩,
  ⟨some 111, .bin .eql (some .int) true (.t 110) (.k (.int .i64 0)), none, 7, [111, 110]⟩]
def r8_24 : List O := [⟨some 112, .mv (.t 6), none, 0, [112, 6]⟩,
  ⟨some 113, .mv (.t 6), none, 0, [113, 6]⟩,
  ⟨some 114, .nilck (.t 113), none, 2, [114, 113]⟩,
  ⟨some 115, .fadr 2 (.t 114), none, 6, [115, 114]⟩,
  ⟨some 116, .load1 (.t 115), none, 14, [116, 115]⟩,
  ⟨some 117, .loadN 4 (.t 12), none, 0, [117, 12]⟩,
  ⟨some 118, .bslice 74 1 [(.int .i64 0), (.slice none 0 0 false), (.int .i64 0), (.bool false)] [(0, 4, (.t 117))], none, 32, [118, 117]⟩,
  ⟨some 119, .app 74 4 48 (.t 116) (.t 118), none, 126, [119, 116, 118]⟩,
  ⟨some 120, .nilck (.t 112), none, 255, [120, 112]⟩,
  ⟨some 121, .fadr 2 (.t 120), none, 511, [121, 120]⟩,
  ⟨none, .store 1 (.t 121) (.t 119), none, 1023, [121, 119]⟩]
def r8_25 : List O := [⟨some 122, .bin .add (some .int) true (.t 39) (.k (.int .i64 1)), none, 0, [122, 39]⟩,
  ⟨some 39, .mv (.t 122), none, 1, [39, 122]⟩]
def b8_26 : C := .seq (.region [⟨some 40, .bin .lss (some .int) false (.t 39) (.t 38), none, 0, [40, 39, 38]⟩]) (.seq (.cond (.t 40) (.skip) (.exit 1)) (.seq (.block 2 (.seq (.region r8_10) (.seq (.region r8_11) (.seq (.seq (.region r8_12) (.cond (.t 53) (.seq (.region r8_13) (.ret)) (.skip))) (.seq (.region r8_14) (.seq (.region r8_15) (.seq (.region r8_16) (.seq (.block 3 (.seq (.draw r8_17) (.cond (.t 69) (.seq (.region r8_18) (.ret)) (.seq (.region r8_19) (.cond (.t 92) (.seq (.seq (.draw r8_20) (.seq (.region r8_21) (.cond (.t 106) (.seq (.region r8_22) (.ret)) (.skip)))) (.seq (.region r8_23) (.cond (.t 111) (.exit 1) (.skip)))) (.skip)))))) (.draw r8_24))))))))) (.region r8_25)))
theorem u8_26 {P : Program} {E : Env} {ro : Option Nat} {L : Nat} {K : List Fr} {ρ : Nat → V} {h : H} {Q : Po} : XL P E ro L b8_26 K ρ h Q = X P E ro L (.c (.seq (.region [⟨some 40, .bin .lss (some .int) false (.t 39) (.t 38), none, 0, [40, 39, 38]⟩]) (.seq (.cond (.t 40) (.skip) (.exit 1)) (.seq (.block 2 (.seq (.region r8_10) (.seq (.region r8_11) (.seq (.seq (.region r8_12) (.cond (.t 53) (.seq (.region r8_13) (.ret)) (.skip))) (.seq (.region r8_14) (.seq (.region r8_15) (.seq (.region r8_16) (.seq (.block 3 (.seq (.draw r8_17) (.cond (.t 69) (.seq (.region r8_18) (.ret)) (.seq (.region r8_19) (.cond (.t 92) (.seq (.seq (.draw r8_20) (.seq (.region r8_21) (.cond (.t 106) (.seq (.region r8_22) (.ret)) (.skip)))) (.seq (.region r8_23) (.cond (.t 111) (.exit 1) (.skip)))) (.skip)))))) (.draw r8_24))))))))) (.region r8_25)))) :: .l b8_26 :: K) ρ h Q := XL_unroll b8_26
def r8_27 : List O := [⟨some 123, .mv (.t 6), none, 0, [123, 6]⟩,
  ⟨some 124, .nilck (.t 123), none, 1, [124, 123]⟩,
  ⟨some 125, .fadr 2 (.t 124), none, 3, [125, 124]⟩,
  ⟨some 126, .load1 (.t 125), none, 7, [126, 125]⟩,
  ⟨some 127, .lenL (.t 126), none, 15, [127, 126]⟩,
  ⟨some 128, .mv (.k (.int .i64 0)), none, 0, [128]⟩]
def r8_28 : List O := [⟨some 130, .iadrL 4 (.t 126) (.t 128), none, 0, [130, 126, 128]⟩,
  ⟨some 131, .loadN 4 (.t 130), none, 1, [131, 130]⟩,
  ⟨some 15, .alloc 74 [(.int .i64 0), (.slice none 0 0 false), (.int .i64 0), (.bool false)], none, 0, [15]⟩,
  ⟨none, .store 4 (.t 15) (.t 131), none, 7, [15, 131]⟩]
def r8_29 : List O := [⟨some 133, .mv (.t 0), none, 0, [133, 0]⟩,
  ⟨some 134, .mv (.t 1), none, 0, [134, 1]⟩,
  ⟨some 135, .fadr 0 (.t 15), none, 0, [135, 15]⟩,
  ⟨some 136, .load1 (.t 135), none, 4, [136, 135]⟩,
  ⟨some 137, .call (.k (.func 23 [] [])) [(.t 134), (.t 136)], none, 14, [137, 134, 136]⟩,
  ⟨some 138, .call (.k (.func 32 [] [])) [(.t 133), (.t 137)], none, 31, [138, 133, 137]⟩,
  ⟨some 132, .mv (.t 138), none, 63, [132, 138]⟩,
  ⟨some 139, .extract (.t 132) 0, none, 127, [139, 132]⟩,
  ⟨some 140, .extract (.t 132) 1, none, 127, [140, 132]⟩,
  ⟨some 141, .extract (.t 132) 2, none, 127, [141, 132]⟩,
  ⟨some 16, .mv (.t 139), none, 255, [16, 139]⟩,
  ⟨some 17, .mv (.t 140), none, 1535, [17, 140]⟩,
  ⟨some 18, .mv (.t 141), none, 4095, [18, 141]⟩]
def r8_30 : List O := [⟨some 142, .mv (.t 18), none, 0, [142, 18]⟩,
  ⟨some 143, .bin .eql (some .int) true (.t 142) (.k (.int .i64 0)), none, 1, [143, 142]⟩,
  ⟨some 144, .mv (.t 143), none, 3, [144, 143]⟩,
  ⟨some 145, .mv (.t 17), some (144, true), 7, [145, 144, 17]⟩,
  ⟨some 146, .mv (.t 16), some (144, true), 7, [146, 144, 16]⟩,
  ⟨some 147, .bin .lss (some .int) false (.t 145) (.t 146), some (144, true), 31, [147, 144, 145, 146]⟩,
  ⟨some 148, .pick (.t 144) (.t 147) (.k (.bool false)), none, 63, [148, 144, 147]⟩]
def r8_31 : List O := [⟨some 149, .mv (.t 0), none, 0, [149, 0]⟩,
  ⟨some 150, .mv (.t 1), none, 0, [150, 1]⟩,
  ⟨some 151, .fadr 0 (.t 15), none, 0, [151, 15]⟩,
  ⟨some 152, .load1 (.t 151), none, 4, [152, 151]⟩,
  ⟨some 153, .call (.k (.func 23 [] [])) [(.t 150), (.t 152)], none, 14, [153, 150, 152]⟩,
  ⟨some 154, .call (.k (.func 33 [] [])) [(.t 149), (.t 153)], none, 31, [154, 149, 153]⟩,
  ⟨some 18, .mv (.t 154), none, 63, [18, 154]⟩]
def r8_32 : List O := [⟨some 155, .mv (.t 18), none, 0, [155, 18]⟩,
  ⟨some 156, .bin .neq (some .int) true (.t 155) (.k (.int .i64 0)), none, 1, [156, 155]⟩]
def r8_33 : List O := [⟨some 157, .mv (.t 18), none, 0, [157, 18]⟩,
  ⟨some 4, .mv (.k (.ptr none)), none, 0, [4]⟩,
  ⟨some 5, .mv (.t 157), none, 3, [5, 157]⟩]
def r8_34 : List O := [⟨some 158, .bin .add (some .int) true (.t 128) (.k (.int .i64 1)), none, 0, [158, 128]⟩,
  ⟨some 128, .mv (.t 158), none, 1, [128, 158]⟩]
def b8_35 : C := .seq (.region [⟨some 129, .bin .lss (some .int) false (.t 128) (.t 127), none, 0, [129, 128, 127]⟩]) (.seq (.cond (.t 129) (.skip) (.exit 4)) (.seq (.block 5 (.seq (.region r8_28) (.seq (.region r8_29) (.seq (.seq (.region r8_30) (.cond (.t 148) (.region r8_31) (.skip))) (.seq (.region r8_32) (.cond (.t 156) (.seq (.region r8_33) (.ret)) (.skip))))))) (.region r8_34)))
theorem u8_35 {P : Program} {E : Env} {ro : Option Nat} {L : Nat} {K : List Fr} {ρ : Nat → V} {h : H} {Q : Po} : XL P E ro L b8_35 K ρ h Q = X P E ro L (.c (.seq (.region [⟨some 129, .bin .lss (some .int) false (.t 128) (.t 127), none, 0, [129, 128, 127]⟩]) (.seq (.cond (.t 129) (.skip) (.exit 4)) (.seq (.block 5 (.seq (.region r8_28) (.seq (.region r8_29) (.seq (.seq (.region r8_30) (.cond (.t 148) (.region r8_31) (.skip))) (.seq (.region r8_32) (.cond (.t 156) (.seq (.region r8_33) (.ret)) (.skip))))))) (.region r8_34)))) :: .l b8_35 :: K) ρ h Q := XL_unroll b8_35
def r8_36 : List O := [⟨some 159, .mv (.t 6), none, 0, [159, 6]⟩,
  ⟨some 160, .mv (.t 6), none, 0, [160, 6]⟩,
  ⟨some 161, .nilck (.t 160), none, 2, [161, 160]⟩,
  ⟨some 162, .fadr 3 (.t 161), none, 6, [162, 161]⟩,
  ⟨some 163, .load1 (.t 162), none, 14, [163, 162]⟩,
  ⟨some 164, .nilck (.t 159), none, 31, [164, 159]⟩,
  ⟨some 165, .fadr 4 (.t 164), none, 63, [165, 164]⟩,
  ⟨none, .store 1 (.t 165) (.t 163), none, 127, [165, 163]⟩]
def r8_37 : List O := [⟨some 166, .mv (.t 6), none, 0, [166, 6]⟩,
  ⟨some 4, .mv (.t 166), none, 1, [4, 166]⟩,
  ⟨some 5, .mv (.k (.int .i64 0)), none, 3, [5]⟩]
def c8 : C := .seq (.region r8_0) (.seq (.block 0 (.seq (.region r8_1) (.cond (.t 19) (.seq (.region r8_2) (.ret)) (.seq (.region r8_3) (.cond (.t 23) (.seq (.region r8_4) (.ret)) (.seq (.region r8_5) (.cond (.t 26) (.seq (.region r8_6) (.ret)) (.skip)))))))) (.seq (.region r8_7) (.seq (.region r8_8) (.seq (.skip) (.seq (.seq (.region r8_9) (.block 1 (.loop b8_26))) (.seq (.seq (.region r8_27) (.block 4 (.loop b8_35))) (.seq (.region r8_36) (.seq (.region r8_37) (.ret)))))))))
def fn8 : Fn := ⟨167, [.t 4, .t 5], c8⟩
/-! 9: (*orchard/wal.Log).Append -/
def r9_0 : List O := [⟨some 9, .mv (.t 0), none, 0, [9, 0]⟩,
  ⟨some 10, .call (.k (.func 34 [] [])) [(.t 9)], none, 1, [10, 9]⟩,
  ⟨some 8, .mv (.t 10), none, 3, [8, 10]⟩]
def r9_1 : List O := [⟨some 12, .mv (.t 0), none, 0, [12, 0]⟩,
  ⟨some 13, .nilck (.t 12), none, 1, [13, 12]⟩,
  ⟨some 14, .fadr 5 (.t 13), none, 3, [14, 13]⟩,
  ⟨some 15, .load1 (.t 14), none, 7, [15, 14]⟩,
  ⟨some 11, .mv (.t 15), none, 15, [11, 15]⟩]
def r9_2 : List O := [⟨some 17, .mv (.t 1), none, 0, [17, 1]⟩,
  ⟨some 18, .call (.k (.func 35 [] [])) [(.t 17), (.k (.func 36 [] []))], none, 1, [18, 17]⟩,
  ⟨some 16, .mv (.t 18), none, 3, [16, 18]⟩]
def r9_3 : List O := [⟨some 20, .mv (.t 1), none, 0, [20, 1]⟩,
  ⟨some 21, .lenL (.t 20), none, 1, [21, 20]⟩,
  ⟨some 22, .mv (.t 0), none, 0, [22, 0]⟩,
  ⟨some 23, .nilck (.t 22), none, 4, [23, 22]⟩,
  ⟨some 24, .fadr 3 (.t 23), none, 12, [24, 23]⟩,
  ⟨some 25, .load1 (.t 24), none, 28, [25, 24]⟩,
  ⟨some 26, .bin .sub (some .int) true (.k (.int .i64 1000000000000)) (.t 25), none, 60, [26, 25]⟩,
  ⟨some 27, .bin .gtr (some .int) false (.t 21) (.t 26), none, 127, [27, 21, 26]⟩,
  ⟨some 19, .mv (.t 27), none, 255, [19, 27]⟩]
def r9_4 : List O := [⟨some 28, .mv (.t 1), none, 0, [28, 1]⟩,
  ⟨some 29, .lenL (.t 28), none, 1, [29, 28]⟩,
  ⟨some 30, .mv (.k (.int .i64 0)), none, 0, [30]⟩]
def r9_5 : List O := [⟨some 32, .iadrL 1 (.t 28) (.t 30), none, 0, [32, 28, 30]⟩,
  ⟨some 33, .load1 (.t 32), none, 1, [33, 32]⟩,
  ⟨some 6, .mv (.t 33), none, 3, [6, 33]⟩]
def r9_6 : List O := [⟨some 34, .mv (.t 0), none, 0, [34, 0]⟩,
  ⟨some 35, .mv (.t 0), none, 0, [35, 0]⟩,
  ⟨some 36, .mv (.t 6), none, 0, [36, 6]⟩,
  ⟨some 37, .call (.k (.func 38 [] [])) [(.t 35), (.t 36)], none, 6, [37, 35, 36]⟩,
  ⟨some 38, .call (.k (.func 37 [] [])) [(.t 34), (.t 37)], none, 15, [38, 34, 37]⟩,
  ⟨some 7, .mv (.t 38), none, 31, [7, 38]⟩]
def r9_7 : List O := [⟨some 39, .mv (.t 7), none, 0, [39, 7]⟩,
  ⟨some 40, .bin .neq (some .int) true (.t 39) (.k (.int .i64 0)), none, 1, [40, 39]⟩]
def r9_8 : List O := [⟨some 41, .mv (.t 7), none, 0, [41, 7]⟩,
  ⟨some 4, .mv (.t 41), none, 1, [4, 41]⟩]
def r9_9 : List O := [⟨some 42, .bin .add (some .int) true (.t 30) (.k (.int .i64 1)), none, 0, [42, 30]⟩,
  ⟨some 30, .mv (.t 42), none, 1, [30, 42]⟩]
def b9_10 : C := .seq (.region [⟨some 31, .bin .lss (some .int) false (.t 30) (.t 29), none, 0, [31, 30, 29]⟩]) (.seq (.cond (.t 31) (.skip) (.exit 1)) (.seq (.block 2 (.seq (.region r9_5) (.seq (.region r9_6) (.seq (.region r9_7) (.cond (.t 40) (.seq (.region r9_8) (.ret)) (.skip)))))) (.region r9_9)))
theorem u9_10 {P : Program} {E : Env} {ro : Option Nat} {L : Nat} {K : List Fr} {ρ : Nat → V} {h : H} {Q : Po} : XL P E ro L b9_10 K ρ h Q = X P E ro L (.c (.seq (.region [⟨some 31, .bin .lss (some .int) false (.t 30) (.t 29), none, 0, [31, 30, 29]⟩]) (.seq (.cond (.t 31) (.skip) (.exit 1)) (.seq (.block 2 (.seq (.region r9_5) (.seq (.region r9_6) (.seq (.region r9_7) (.cond (.t 40) (.seq (.region r9_8) (.ret)) (.skip)))))) (.region r9_9)))) :: .l b9_10 :: K) ρ h Q := XL_unroll b9_10
def c9 : C := .seq (.region [⟨some 4, .mv (.k (.int .i64 0)), none, 0, [4]⟩]) (.seq (.block 0 (.seq (.region r9_0) (.cond (.t 8) (.seq (.region [⟨some 4, .mv (.k (.int .i64 2)), none, 0, [4]⟩]) (.ret)) (.seq (.region r9_1) (.cond (.t 11) (.seq (.region [⟨some 4, .mv (.k (.int .i64 51)), none, 0, [4]⟩]) (.ret)) (.seq (.region r9_2) (.cond (.t 16) (.seq (.region [⟨some 4, .mv (.k (.int .i64 50)), none, 0, [4]⟩]) (.ret)) (.seq (.region r9_3) (.cond (.t 19) (.seq (.region [⟨some 4, .mv (.k (.int .i64 3)), none, 0, [4]⟩]) (.ret)) (.skip)))))))))) (.seq (.seq (.region r9_4) (.block 1 (.loop b9_10))) (.seq (.region [⟨some 4, .mv (.k (.int .i64 0)), none, 0, [4]⟩]) (.ret))))
def fn9 : Fn := ⟨43, [.t 4], c9⟩
/-! 10: (*orchard/wal.Log).First -/
def r10_0 : List O := [⟨some 4, .mv (.t 0), none, 0, [4, 0]⟩,
  ⟨some 5, .call (.k (.func 14 [] [])) [(.t 4)], none, 1, [5, 4]⟩]
def a10_1 : C := .region [⟨some 3, .mv (.t 6), none, 0, [3, 6]⟩]
def r10_2 : List O := [⟨some 8, .mv (.t 3), none, 0, [8, 3]⟩,
  ⟨none, .store 1 (.t 2) (.t 8), none, 1, [2, 8]⟩]
def b10_3 : C := .block 1 (.seq (.region r10_2) (.ret))
def r10_4 : List O := [⟨some 9, .mv (.t 0), none, 0, [9, 0]⟩,
  ⟨some 10, .call (.k (.func 11 [] [])) [(.t 9)], none, 1, [10, 9]⟩,
  ⟨none, .store 1 (.t 2) (.t 10), none, 3, [2, 10]⟩]
def c10 : C := .seq (.region [⟨some 2, .alloc 2 [(.int .i64 0)], none, 0, [2]⟩]) (.seq (.seq (.region r10_0) (.block 0 (.range (.t 5) [6, 7] a10_1 b10_3))) (.seq (.region r10_4) (.ret)))
def fn10 : Fn := ⟨11, [.c 2 1 false], c10⟩
/-! 11: (*orchard/wal.Log).Next -/
def r11_0 : List O := [⟨some 3, .mv (.t 0), none, 0, [3, 0]⟩,
  ⟨some 4, .call (.k (.func 34 [] [])) [(.t 3)], none, 1, [4, 3]⟩]
def r11_1 : List O := [⟨some 5, .mv (.t 0), none, 0, [5, 0]⟩,
  ⟨some 6, .nilck (.t 5), none, 1, [6, 5]⟩,
  ⟨some 7, .fadr 3 (.t 6), none, 3, [7, 6]⟩,
  ⟨some 8, .load1 (.t 7), none, 7, [8, 7]⟩,
  ⟨some 2, .mv (.t 8), none, 15, [2, 8]⟩]
def c11 : C := .seq (.region [⟨some 2, .mv (.k (.int .i64 0)), none, 0, [2]⟩]) (.seq (.seq (.region r11_0) (.cond (.t 4) (.seq (.region [⟨some 2, .mv (.k (.int .i64 0)), none, 0, [2]⟩]) (.ret)) (.skip))) (.seq (.region r11_1) (.ret)))
def fn11 : Fn := ⟨9, [.t 2], c11⟩
/-! 12: (*orchard/wal.Log).Segments -/
def r12_0 : List O := [⟨some 3, .mv (.t 0), none, 0, [3, 0]⟩,
  ⟨some 4, .call (.k (.func 34 [] [])) [(.t 3)], none, 1, [4, 3]⟩]
def r12_1 : List O := [⟨some 5, .mv (.t 0), none, 0, [5, 0]⟩,
  ⟨some 6, .nilck (.t 5), none, 1, [6, 5]⟩,
  ⟨some 7, .fadr 2 (.t 6), none, 3, [7, 6]⟩,
  ⟨some 8, .load1 (.t 7), none, 7, [8, 7]⟩,
  ⟨some 9, .lenL (.t 8), none, 15, [9, 8]⟩,
  ⟨some 2, .mv (.t 9), none, 31, [2, 9]⟩]
def c12 : C := .seq (.region [⟨some 2, .mv (.k (.int .i64 0)), none, 0, [2]⟩]) (.seq (.seq (.region r12_0) (.cond (.t 4) (.seq (.region [⟨some 2, .mv (.k (.int .i64 0)), none, 0, [2]⟩]) (.ret)) (.skip))) (.seq (.region r12_1) (.ret)))
def fn12 : Fn := ⟨10, [.t 2], c12⟩
/-! 13: (*orchard/wal.Log).Cut -/
def r13_0 : List O := [⟨some 6, .mv (.t 0), none, 0, [6, 0]⟩,
  ⟨some 7, .call (.k (.func 34 [] [])) [(.t 6)], none, 1, [7, 6]⟩]
def r13_1 : List O := [⟨some 8, .mv (.t 0), none, 0, [8, 0]⟩,
  ⟨some 9, .nilck (.t 8), none, 1, [9, 8]⟩,
  ⟨some 10, .fadr 2 (.t 9), none, 3, [10, 9]⟩,
  ⟨some 11, .load1 (.t 10), none, 7, [11, 10]⟩,
  ⟨some 12, .lenL (.t 11), none, 15, [12, 11]⟩,
  ⟨some 13, .bin .gtr (some .int) true (.t 12) (.k (.int .i64 1)), none, 31, [13, 12]⟩,
  ⟨some 14, .mv (.t 13), none, 63, [14, 13]⟩,
  ⟨some 15, .mv (.t 0), some (14, true), 127, [15, 14, 0]⟩,
  ⟨some 16, .nilck (.t 15), some (14, true), 255, [16, 14, 15]⟩,
  ⟨some 17, .fadr 2 (.t 16), some (14, true), 511, [17, 14, 16]⟩,
  ⟨some 18, .load1 (.t 17), some (14, true), 1023, [18, 14, 17]⟩,
  ⟨some 19, .iadrL 4 (.t 18) (.k (.int .i64 0)), some (14, true), 2047, [19, 14, 18]⟩,
  ⟨some 20, .loadN 4 (.t 19), some (14, true), 4095, [20, 14, 19]⟩,
  ⟨some 21, .call (.k (.func 30 [] [])) [(.t 20)], some (14, true), 8191, [21, 14, 20]⟩,
  ⟨some 22, .mv (.t 1), some (14, true), 127, [22, 14, 1]⟩,
  ⟨some 23, .bin .leq (some .int) false (.t 21) (.t 22), some (14, true), 32767, [23, 14, 21, 22]⟩,
  ⟨some 24, .pick (.t 14) (.t 23) (.k (.bool false)), none, 65535, [24, 14, 23]⟩]
def r13_2 : List O := [⟨some 25, .mv (.t 0), none, 0, [25, 0]⟩,
  ⟨some 26, .nilck (.t 25), none, 1, [26, 25]⟩,
  ⟨some 27, .fadr 0 (.t 26), none, 3, [27, 26]⟩,
  ⟨some 28, .load1 (.t 27), none, 7, [28, 27]⟩,
  ⟨some 29, .mv (.t 0), none, 0, [29, 0]⟩,
  ⟨some 30, .nilck (.t 29), none, 16, [30, 29]⟩,
  ⟨some 31, .fadr 1 (.t 30), none, 48, [31, 30]⟩,
  ⟨some 32, .load1 (.t 31), none, 112, [32, 31]⟩,
  ⟨some 33, .mv (.t 0), none, 0, [33, 0]⟩,
  ⟨some 34, .nilck (.t 33), none, 256, [34, 33]⟩,
  ⟨some 35, .fadr 2 (.t 34), none, 768, [35, 34]⟩,
  ⟨some 36, .load1 (.t 35), none, 1792, [36, 35]⟩,
  ⟨some 37, .iadrL 4 (.t 36) (.k (.int .i64 0)), none, 3840, [37, 36]⟩,
  ⟨some 38, .fadr 0 (.t 37), none, 7936, [38, 37]⟩,
  ⟨some 39, .load1 (.t 38), none, 16128, [39, 38]⟩,
  ⟨some 40, .call (.k (.func 23 [] [])) [(.t 32), (.t 39)], none, 32752, [40, 32, 39]⟩,
  ⟨some 41, .call (.k (.func 39 [] [])) [(.t 28), (.t 40)], none, 65535, [41, 28, 40]⟩,
  ⟨some 5, .mv (.t 41), none, 131071, [5, 41]⟩]
def r13_3 : List O := [⟨some 42, .mv (.t 5), none, 0, [42, 5]⟩,
  ⟨some 43, .bin .neq (some .int) true (.t 42) (.k (.int .i64 0)), none, 1, [43, 42]⟩]
def r13_4 : List O := [⟨some 44, .mv (.t 5), none, 0, [44, 5]⟩,
  ⟨some 4, .mv (.t 44), none, 1, [4, 44]⟩]
def r13_5 : List O := [⟨some 45, .mv (.t 0), none, 0, [45, 0]⟩,
  ⟨some 46, .mv (.t 0), none, 0, [46, 0]⟩,
  ⟨some 47, .nilck (.t 46), none, 2, [47, 46]⟩,
  ⟨some 48, .fadr 2 (.t 47), none, 6, [48, 47]⟩,
  ⟨some 49, .load1 (.t 48), none, 14, [49, 48]⟩,
  ⟨some 50, .slL 4 (.t 49) (some (.k (.int .i64 1))) none none, none, 30, [50, 49]⟩,
  ⟨some 51, .nilck (.t 45), none, 63, [51, 45]⟩,
  ⟨some 52, .fadr 2 (.t 51), none, 127, [52, 51]⟩,
  ⟨none, .store 1 (.t 52) (.t 50), none, 255, [52, 50]⟩]
def b13_6 : C := .seq (.seq (.region r13_1) (.cond (.t 24) (.skip) (.exit 0))) (.block 1 (.seq (.seq (.draw r13_2) (.seq (.region r13_3) (.cond (.t 43) (.seq (.region r13_4) (.ret)) (.skip)))) (.region r13_5)))
theorem u13_6 {P : Program} {E : Env} {ro : Option Nat} {L : Nat} {K : List Fr} {ρ : Nat → V} {h : H} {Q : Po} : XL P E ro L b13_6 K ρ h Q = X P E ro L (.c (.seq (.seq (.region r13_1) (.cond (.t 24) (.skip) (.exit 0))) (.block 1 (.seq (.seq (.draw r13_2) (.seq (.region r13_3) (.cond (.t 43) (.seq (.region r13_4) (.ret)) (.skip)))) (.region r13_5)))) :: .l b13_6 :: K) ρ h Q := XL_unroll b13_6
def c13 : C := .seq (.region [⟨some 4, .mv (.k (.int .i64 0)), none, 0, [4]⟩]) (.seq (.seq (.region r13_0) (.cond (.t 7) (.seq (.region [⟨some 4, .mv (.k (.int .i64 2)), none, 0, [4]⟩]) (.ret)) (.skip))) (.seq (.block 0 (.loop b13_6)) (.seq (.region [⟨some 4, .mv (.k (.int .i64 0)), none, 0, [4]⟩]) (.ret))))
def fn13 : Fn := ⟨53, [.t 4], c13⟩
/-! 14: (*orchard/wal.Log).Records -/
def r14_0 : List O := [⟨some 4, .mv (.t 0), none, 0, [4, 0]⟩,
  ⟨some 5, .call (.k (.func 34 [] [])) [(.t 4)], none, 1, [5, 4]⟩,
  ⟨some 6, .un .not (.t 5), none, 3, [6, 5]⟩]
def r14_1 : List O := [⟨some 7, .mv (.t 0), none, 0, [7, 0]⟩,
  ⟨some 8, .nilck (.t 7), none, 1, [8, 7]⟩,
  ⟨some 9, .fadr 2 (.t 8), none, 3, [9, 8]⟩,
  ⟨some 10, .load1 (.t 9), none, 7, [10, 9]⟩,
  ⟨some 11, .call (.k (.func 40 [] [])) [(.t 10)], none, 15, [11, 10]⟩,
  ⟨none, .store 1 (.t 3) (.t 11), none, 31, [3, 11]⟩]
def r14_2 : List O := [⟨some 12, .mkF 41 [] [(.t 3)], none, 0, [12, 3]⟩,
  ⟨some 2, .mv (.t 12), none, 1, [2, 12]⟩]
def c14 : C := .seq (.region [⟨some 2, .mv (.k .nilFunc), none, 0, [2]⟩]) (.seq (.region [⟨some 3, .alloc 66 [(.slice none 0 0 false)], none, 0, [3]⟩]) (.seq (.seq (.region r14_0) (.cond (.t 6) (.region r14_1) (.skip))) (.seq (.region r14_2) (.ret))))
def fn14 : Fn := ⟨13, [.t 2], c14⟩
/-! 23: orchard/wal.Segment -/
def r23_0 : List O := [⟨some 6, .mv (.t 0), none, 0, [6, 0]⟩,
  ⟨some 7, .call (.k (.func 24 [] [])) [(.t 6)], none, 1, [7, 6]⟩,
  ⟨some 8, .un .not (.t 7), none, 3, [8, 7]⟩,
  ⟨some 9, .mv (.t 8), none, 7, [9, 8]⟩,
  ⟨some 10, .mv (.t 1), some (9, false), 15, [10, 9, 1]⟩,
  ⟨some 11, .bin .lss (some .int) true (.t 10) (.k (.int .i64 0)), some (9, false), 31, [11, 9, 10]⟩,
  ⟨some 12, .pick (.t 9) (.k (.bool true)) (.t 11), none, 63, [12, 9, 11]⟩,
  ⟨some 13, .mv (.t 12), none, 127, [13, 12]⟩,
  ⟨some 14, .mv (.t 1), some (13, false), 255, [14, 13, 1]⟩,
  ⟨some 15, .bin .gtr (some .int) true (.t 14) (.k (.int .i64 999999999999)), some (13, false), 511, [15, 13, 14]⟩,
  ⟨some 16, .pick (.t 13) (.k (.bool true)) (.t 15), none, 1023, [16, 13, 15]⟩]
def r23_1 : List O := [⟨some 17, .mv (.t 1), none, 0, [17, 1]⟩,
  ⟨some 18, .call (.k (.func 57 [] [])) [(.t 17), (.k (.int .i64 10))], none, 1, [18, 17]⟩,
  ⟨some 5, .mv (.t 18), none, 3, [5, 18]⟩]
def r23_2 : List O := [⟨some 19, .mv (.t 0), none, 0, [19, 0]⟩,
  ⟨some 20, .bin .add (some .str) true (.t 19) (.k (.str [46])), none, 1, [20, 19]⟩,
  ⟨some 21, .mv (.t 5), none, 0, [21, 5]⟩,
  ⟨some 22, .lenS (.t 21), none, 4, [22, 21]⟩,
  ⟨some 23, .bin .sub (some .int) true (.k (.int .i64 12)) (.t 22), none, 12, [23, 22]⟩,
  ⟨some 24, .call (.k (.func 58 [] [])) [(.k (.str [48])), (.t 23)], none, 28, [24, 23]⟩,
  ⟨some 25, .bin .add (some .str) false (.t 20) (.t 24), none, 63, [25, 20, 24]⟩,
  ⟨some 26, .mv (.t 5), none, 0, [26, 5]⟩,
  ⟨some 27, .bin .add (some .str) false (.t 25) (.t 26), none, 255, [27, 25, 26]⟩,
  ⟨some 4, .mv (.t 27), none, 511, [4, 27]⟩]
def c23 : C := .seq (.region [⟨some 4, .mv (.k (.str [])), none, 0, [4]⟩]) (.seq (.seq (.region r23_0) (.cond (.t 16) (.seq (.region [⟨some 4, .mv (.k (.str [])), none, 0, [4]⟩]) (.ret)) (.skip))) (.seq (.region r23_1) (.seq (.region r23_2) (.ret))))
def fn23 : Fn := ⟨28, [.t 4], c23⟩
/-! 24: orchard/wal.named -/
def r24_0 : List O := [⟨some 5, .mv (.t 0), none, 0, [5, 0]⟩,
  ⟨some 6, .s2b 5 (.t 5), none, 1, [6, 5]⟩,
  ⟨some 7, .lenL (.t 6), none, 3, [7, 6]⟩,
  ⟨some 8, .mv (.k (.int .i64 0)), none, 0, [8]⟩]
def r24_1 : List O := [⟨some 10, .iadrL 1 (.t 6) (.t 8), none, 0, [10, 6, 8]⟩,
  ⟨some 11, .load1 (.t 10), none, 1, [11, 10]⟩,
  ⟨some 4, .mv (.t 11), none, 3, [4, 11]⟩]
def r24_2 : List O := [⟨some 12, .mv (.t 4), none, 0, [12, 4]⟩,
  ⟨some 13, .bin .lss (some .int) true (.t 12) (.k (.int .u8 97)), none, 1, [13, 12]⟩,
  ⟨some 14, .mv (.t 13), none, 3, [14, 13]⟩,
  ⟨some 15, .mv (.t 4), some (14, false), 7, [15, 14, 4]⟩,
  ⟨some 16, .bin .gtr (some .int) true (.t 15) (.k (.int .u8 122)), some (14, false), 15, [16, 14, 15]⟩,
  ⟨some 17, .pick (.t 14) (.k (.bool true)) (.t 16), none, 31, [17, 14, 16]⟩]
def r24_3 : List O := [⟨some 18, .bin .add (some .int) true (.t 8) (.k (.int .i64 1)), none, 0, [18, 8]⟩,
  ⟨some 8, .mv (.t 18), none, 1, [8, 18]⟩]
def b24_4 : C := .seq (.region [⟨some 9, .bin .lss (some .int) false (.t 8) (.t 7), none, 0, [9, 8, 7]⟩]) (.seq (.cond (.t 9) (.skip) (.exit 0)) (.seq (.block 1 (.seq (.region r24_1) (.seq (.region r24_2) (.cond (.t 17) (.seq (.region [⟨some 2, .mv (.k (.bool false)), none, 0, [2]⟩]) (.ret)) (.skip))))) (.region r24_3)))
theorem u24_4 {P : Program} {E : Env} {ro : Option Nat} {L : Nat} {K : List Fr} {ρ : Nat → V} {h : H} {Q : Po} : XL P E ro L b24_4 K ρ h Q = X P E ro L (.c (.seq (.region [⟨some 9, .bin .lss (some .int) false (.t 8) (.t 7), none, 0, [9, 8, 7]⟩]) (.seq (.cond (.t 9) (.skip) (.exit 0)) (.seq (.block 1 (.seq (.region r24_1) (.seq (.region r24_2) (.cond (.t 17) (.seq (.region [⟨some 2, .mv (.k (.bool false)), none, 0, [2]⟩]) (.ret)) (.skip))))) (.region r24_3)))) :: .l b24_4 :: K) ρ h Q := XL_unroll b24_4
def r24_5 : List O := [⟨some 19, .mv (.t 0), none, 0, [19, 0]⟩,
  ⟨some 20, .lenS (.t 19), none, 1, [20, 19]⟩,
  ⟨some 21, .bin .geq (some .int) true (.t 20) (.k (.int .i64 1)), none, 3, [21, 20]⟩,
  ⟨some 22, .mv (.t 21), none, 7, [22, 21]⟩,
  ⟨some 23, .mv (.t 0), some (22, true), 15, [23, 22, 0]⟩,
  ⟨some 24, .lenS (.t 23), some (22, true), 31, [24, 22, 23]⟩,
  ⟨some 25, .bin .leq (some .int) true (.t 24) (.k (.int .i64 20)), some (22, true), 63, [25, 22, 24]⟩,
  ⟨some 26, .pick (.t 22) (.t 25) (.k (.bool false)), none, 127, [26, 22, 25]⟩,
  ⟨some 2, .mv (.t 26), none, 255, [2, 26]⟩]
def c24 : C := .seq (.region [⟨some 2, .mv (.k (.bool false)), none, 0, [2]⟩]) (.seq (.seq (.region r24_0) (.block 0 (.loop b24_4))) (.seq (.region r24_5) (.ret)))
def fn24 : Fn := ⟨27, [.t 2], c24⟩
/-! 25: (*orchard/disk.Disk).Down -/
def r25_0 : List O := [⟨some 3, .mv (.t 0), none, 0, [3, 0]⟩,
  ⟨some 4, .call (.k (.func 55 [] [])) [(.t 3)], none, 1, [4, 3]⟩,
  ⟨some 5, .un .not (.t 4), none, 3, [5, 4]⟩,
  ⟨some 6, .mv (.t 5), none, 7, [6, 5]⟩,
  ⟨some 7, .mv (.t 0), some (6, true), 15, [7, 6, 0]⟩,
  ⟨some 8, .nilck (.t 7), some (6, true), 31, [8, 6, 7]⟩,
  ⟨some 9, .fadr 4 (.t 8), some (6, true), 63, [9, 6, 8]⟩,
  ⟨some 10, .load1 (.t 9), some (6, true), 127, [10, 6, 9]⟩,
  ⟨some 11, .pick (.t 6) (.t 10) (.k (.bool false)), none, 255, [11, 6, 10]⟩,
  ⟨some 2, .mv (.t 11), none, 511, [2, 11]⟩]
def c25 : C := .seq (.region [⟨some 2, .mv (.k (.bool false)), none, 0, [2]⟩]) (.seq (.region r25_0) (.ret))
def fn25 : Fn := ⟨12, [.t 2], c25⟩
/-! 26: (*orchard/disk.Disk).Clone -/
def r26_0 : List O := [⟨some 6, .mv (.t 0), none, 0, [6, 0]⟩,
  ⟨some 7, .call (.k (.func 55 [] [])) [(.t 6)], none, 1, [7, 6]⟩]
def r26_1 : List O := [⟨some 8, .mkMap, none, 0, [8]⟩,
  ⟨some 9, .mv (.t 0), none, 0, [9, 0]⟩,
  ⟨some 10, .nilck (.t 9), none, 2, [10, 9]⟩,
  ⟨some 11, .fadr 1 (.t 10), none, 6, [11, 10]⟩,
  ⟨some 12, .loadN 2 (.t 11), none, 14, [12, 11]⟩,
  ⟨some 13, .mv (.t 0), none, 0, [13, 0]⟩,
  ⟨some 14, .nilck (.t 13), none, 32, [14, 13]⟩,
  ⟨some 15, .fadr 3 (.t 14), none, 96, [15, 14]⟩,
  ⟨some 16, .load1 (.t 15), none, 224, [16, 15]⟩,
  ⟨some 17, .mv (.t 0), none, 0, [17, 0]⟩,
  ⟨some 18, .nilck (.t 17), none, 512, [18, 17]⟩,
  ⟨some 19, .fadr 4 (.t 18), none, 1536, [19, 18]⟩,
  ⟨some 20, .load1 (.t 19), none, 3584, [20, 19]⟩,
  ⟨some 21, .build [(.map none), (.int .i64 0), (.int .i64 0), (.int .i64 0), (.bool false)] [(0, 1, (.t 8)), (1, 2, (.t 12)), (3, 1, (.t 16)), (4, 1, (.t 20))], none, 8191, [21, 8, 12, 16, 20]⟩,
  ⟨some 22, .box 63 (.t 21), none, 16383, [22, 21]⟩,
  ⟨some 3, .mv (.t 22), none, 32767, [3, 22]⟩]
theorem d26_1 {P : Program} {E : Env} {ro : Option Nat} {L : Nat} {K : List Fr} {ρ : Nat → V} {h : H} {Q : Po} (hx : XDQ P E ro L K Q h [true, false, false, false, false, false, false, false, false, false, false, false, false, true, true, true] r26_1 ρ h) : XD P E ro L r26_1 K ρ h Q := XD_quiet rfl rfl hx
def r26_2 : List O := [⟨some 23, .mv (.t 0), none, 0, [23, 0]⟩,
  ⟨some 24, .nilck (.t 23), none, 1, [24, 23]⟩,
  ⟨some 25, .fadr 0 (.t 24), none, 3, [25, 24]⟩,
  ⟨some 26, .load1 (.t 25), none, 7, [26, 25]⟩,
  ⟨some 27, .rng false (.t 26), none, 15, [27, 26]⟩]
def r26_3 : List O := [⟨some 28, .next false (.t 27), none, 0, [28, 27]⟩,
  ⟨some 29, .extract (.t 28) 0, none, 1, [29, 28]⟩]
def r26_4 : List O := [⟨some 30, .entry (.t 27), none, 0, [30, 27]⟩,
  ⟨some 31, .extract (.t 30) 0, none, 1, [31, 30]⟩,
  ⟨some 32, .extract (.t 30) 1, none, 1, [32, 30]⟩,
  ⟨some 4, .mv (.t 31), none, 3, [4, 31]⟩,
  ⟨some 5, .mv (.t 32), none, 15, [5, 32]⟩]
def r26_5 : List O := [⟨some 33, .mv (.t 3), none, 0, [33, 3]⟩,
  ⟨some 34, .nilck (.t 33), none, 1, [34, 33]⟩,
  ⟨some 35, .fadr 0 (.t 34), none, 3, [35, 34]⟩,
  ⟨some 36, .load1 (.t 35), none, 7, [36, 35]⟩,
  ⟨some 37, .mv (.t 4), none, 0, [37, 4]⟩,
  ⟨some 38, .mv (.t 5), none, 0, [38, 5]⟩,
  ⟨some 39, .nilck (.t 38), none, 32, [39, 38]⟩,
  ⟨some 40, .fadr 0 (.t 39), none, 96, [40, 39]⟩,
  ⟨some 41, .load1 (.t 40), none, 224, [41, 40]⟩,
  ⟨some 42, .call (.k (.func 42 [] [])) [(.t 41)], none, 480, [42, 41]⟩,
  ⟨some 43, .mv (.t 5), none, 0, [43, 5]⟩,
  ⟨some 44, .nilck (.t 43), none, 1024, [44, 43]⟩,
  ⟨some 45, .fadr 1 (.t 44), none, 3072, [45, 44]⟩,
  ⟨some 46, .load1 (.t 45), none, 7168, [46, 45]⟩,
  ⟨some 47, .build [(.slice none 0 0 false), (.int .i64 0)] [(0, 1, (.t 42)), (1, 1, (.t 46))], none, 16352, [47, 42, 46]⟩,
  ⟨some 48, .box 105 (.t 47), none, 32736, [48, 47]⟩,
  ⟨none, .mapUpd .str (.t 36) (.t 37) (.t 48), none, 65535, [36, 37, 48]⟩]
def b26_6 : C := .seq (.region r26_3) (.seq (.cond (.t 29) (.skip) (.exit 0)) (.block 1 (.seq (.region r26_4) (.draw r26_5))))
theorem u26_6 {P : Program} {E : Env} {ro : Option Nat} {L : Nat} {K : List Fr} {ρ : Nat → V} {h : H} {Q : Po} : XL P E ro L b26_6 K ρ h Q = X P E ro L (.c (.seq (.region r26_3) (.seq (.cond (.t 29) (.skip) (.exit 0)) (.block 1 (.seq (.region r26_4) (.draw r26_5))))) :: .l b26_6 :: K) ρ h Q := XL_unroll b26_6
def r26_7 : List O := [⟨some 49, .mv (.t 3), none, 0, [49, 3]⟩,
  ⟨some 2, .mv (.t 49), none, 1, [2, 49]⟩]
def c26 : C := .seq (.region [⟨some 2, .mv (.k (.ptr none)), none, 0, [2]⟩]) (.seq (.seq (.region r26_0) (.cond (.t 7) (.seq (.region [⟨some 2, .mv (.k (.ptr none)), none, 0, [2]⟩]) (.ret)) (.skip))) (.seq (.draw r26_1) (.seq (.seq (.region r26_2) (.block 0 (.loop b26_6))) (.seq (.region r26_7) (.ret)))))
def fn26 : Fn := ⟨50, [.t 2], c26⟩
/-! 30: (orchard/wal.segment).end -/
def r30_0 : List O := [⟨some 1, .box 74 (.t 0), none, 0, [1, 0]⟩,
  ⟨some 2, .mv (.k (.int .i64 0)), none, 0, [2]⟩]
def r30_1 : List O := [⟨some 3, .fadr 0 (.t 1), none, 0, [3, 1]⟩,
  ⟨some 4, .load1 (.t 3), none, 1, [4, 3]⟩,
  ⟨some 5, .fadr 1 (.t 1), none, 0, [5, 1]⟩,
  ⟨some 6, .load1 (.t 5), none, 4, [6, 5]⟩,
  ⟨some 7, .lenL (.t 6), none, 12, [7, 6]⟩,
  ⟨some 8, .bin .add (some .int) false (.t 4) (.t 7), none, 31, [8, 4, 7]⟩,
  ⟨some 2, .mv (.t 8), none, 63, [2, 8]⟩]
def c30 : C := .seq (.region r30_0) (.seq (.region r30_1) (.ret))
def fn30 : Fn := ⟨9, [.t 2], c30⟩
/-! 33: (*orchard/disk.Disk).Sync -/
def r33_0 : List O := [⟨some 7, .mv (.t 0), none, 0, [7, 0]⟩,
  ⟨some 8, .mv (.t 1), none, 0, [8, 1]⟩,
  ⟨some 9, .bslice 9 1 [(.str [])] [(0, 1, (.t 8))], none, 2, [9, 8]⟩,
  ⟨some 10, .call (.k (.func 63 [] [])) [(.t 7), (.t 9)], none, 7, [10, 7, 9]⟩,
  ⟨some 5, .mv (.t 10), none, 15, [5, 10]⟩]
def r33_1 : List O := [⟨some 11, .mv (.t 5), none, 0, [11, 5]⟩,
  ⟨some 12, .bin .neq (some .int) true (.t 11) (.k (.int .i64 0)), none, 1, [12, 11]⟩]
def r33_2 : List O := [⟨some 13, .mv (.t 5), none, 0, [13, 5]⟩,
  ⟨some 4, .mv (.t 13), none, 1, [4, 13]⟩]
def r33_3 : List O := [⟨some 14, .mv (.t 0), none, 0, [14, 0]⟩,
  ⟨some 15, .call (.k (.func 67 [] [])) [(.t 14)], none, 1, [15, 14]⟩,
  ⟨some 6, .mv (.t 15), none, 3, [6, 15]⟩]
def r33_4 : List O := [⟨some 16, .mv (.t 6), none, 0, [16, 6]⟩,
  ⟨some 17, .bin .neq (some .int) true (.t 16) (.k (.int .i64 0)), none, 1, [17, 16]⟩]
def r33_5 : List O := [⟨some 18, .mv (.t 6), none, 0, [18, 6]⟩,
  ⟨some 4, .mv (.t 18), none, 1, [4, 18]⟩]
def r33_6 : List O := [⟨some 19, .mv (.t 0), none, 0, [19, 0]⟩,
  ⟨some 20, .nilck (.t 19), none, 1, [20, 19]⟩,
  ⟨some 21, .fadr 0 (.t 20), none, 3, [21, 20]⟩,
  ⟨some 22, .load1 (.t 21), none, 7, [22, 21]⟩,
  ⟨some 23, .mv (.t 1), none, 0, [23, 1]⟩,
  ⟨some 24, .lookup .str (.ptr none) false (.t 22) (.t 23), none, 31, [24, 22, 23]⟩,
  ⟨some 25, .mv (.t 0), none, 0, [25, 0]⟩,
  ⟨some 26, .nilck (.t 25), none, 64, [26, 25]⟩,
  ⟨some 27, .fadr 0 (.t 26), none, 192, [27, 26]⟩,
  ⟨some 28, .load1 (.t 27), none, 448, [28, 27]⟩,
  ⟨some 29, .mv (.t 1), none, 0, [29, 1]⟩,
  ⟨some 30, .lookup .str (.ptr none) false (.t 28) (.t 29), none, 1984, [30, 28, 29]⟩,
  ⟨some 31, .nilck (.t 30), none, 4032, [31, 30]⟩,
  ⟨some 32, .fadr 0 (.t 31), none, 8128, [32, 31]⟩,
  ⟨some 33, .load1 (.t 32), none, 16320, [33, 32]⟩,
  ⟨some 34, .lenL (.t 33), none, 32704, [34, 33]⟩,
  ⟨some 35, .nilck (.t 24), none, 65535, [35, 24]⟩,
  ⟨some 36, .fadr 1 (.t 35), none, 131071, [36, 35]⟩,
  ⟨none, .store 1 (.t 36) (.t 34), none, 262143, [36, 34]⟩]
theorem d33_6 {P : Program} {E : Env} {ro : Option Nat} {L : Nat} {K : List Fr} {ρ : Nat → V} {h : H} {Q : Po} (hx : XDO P E ro L r33_6 K ρ h Q) : XD P E ro L r33_6 K ρ h Q := XD_ord rfl hx
def c33 : C := .seq (.region [⟨some 4, .mv (.k (.int .i64 0)), none, 0, [4]⟩]) (.seq (.seq (.region r33_0) (.seq (.region r33_1) (.cond (.t 12) (.seq (.region r33_2) (.ret)) (.skip)))) (.seq (.seq (.region r33_3) (.seq (.region r33_4) (.cond (.t 17) (.seq (.region r33_5) (.ret)) (.skip)))) (.seq (.draw r33_6) (.seq (.region [⟨some 4, .mv (.k (.int .i64 0)), none, 0, [4]⟩]) (.ret)))))
def fn33 : Fn := ⟨37, [.t 4], c33⟩
/-! 34: (*orchard/wal.Log).none -/
def r34_0 : List O := [⟨some 3, .mv (.t 0), none, 0, [3, 0]⟩,
  ⟨some 4, .bin .eql (some .ptr) true (.t 3) (.k (.ptr none)), none, 1, [4, 3]⟩,
  ⟨some 5, .mv (.t 4), none, 3, [5, 4]⟩,
  ⟨some 6, .mv (.t 0), some (5, false), 7, [6, 5, 0]⟩,
  ⟨some 7, .nilck (.t 6), some (5, false), 15, [7, 5, 6]⟩,
  ⟨some 8, .fadr 1 (.t 7), some (5, false), 31, [8, 5, 7]⟩,
  ⟨some 9, .load1 (.t 8), some (5, false), 63, [9, 5, 8]⟩,
  ⟨some 10, .bin .eql (some .str) true (.t 9) (.k (.str [])), some (5, false), 127, [10, 5, 9]⟩,
  ⟨some 11, .pick (.t 5) (.k (.bool true)) (.t 10), none, 255, [11, 5, 10]⟩,
  ⟨some 2, .mv (.t 11), none, 511, [2, 11]⟩]
def c34 : C := .seq (.region [⟨some 2, .mv (.k (.bool false)), none, 0, [2]⟩]) (.seq (.region r34_0) (.ret))
def fn34 : Fn := ⟨12, [.t 2], c34⟩
/-! 35: slices.ContainsFunc[[][]byte,[]byte] -/
def r35_0 : List O := [⟨some 5, .mv (.t 0), none, 0, [5, 0]⟩,
  ⟨some 6, .mv (.t 1), none, 0, [6, 1]⟩,
  ⟨some 7, .call (.k (.func 68 [] [])) [(.t 5), (.t 6)], none, 3, [7, 5, 6]⟩,
  ⟨some 8, .bin .geq (some .int) true (.t 7) (.k (.int .i64 0)), none, 7, [8, 7]⟩,
  ⟨some 4, .mv (.t 8), none, 15, [4, 8]⟩]
def c35 : C := .seq (.region [⟨some 4, .mv (.k (.bool false)), none, 0, [4]⟩]) (.seq (.region r35_0) (.ret))
def fn35 : Fn := ⟨9, [.t 4], c35⟩
/-! 36: (*orchard/wal.Log).Append$1 -/
def r36_0 : List O := [⟨some 3, .mv (.t 0), none, 0, [3, 0]⟩,
  ⟨some 4, .lenL (.t 3), none, 1, [4, 3]⟩,
  ⟨some 5, .bin .eql (some .int) true (.t 4) (.k (.int .i64 0)), none, 3, [5, 4]⟩,
  ⟨some 6, .mv (.t 5), none, 7, [6, 5]⟩,
  ⟨some 7, .mv (.t 0), some (6, false), 15, [7, 6, 0]⟩,
  ⟨some 8, .lenL (.t 7), some (6, false), 31, [8, 6, 7]⟩,
  ⟨some 9, .bin .gtr (some .int) true (.t 8) (.k (.int .i64 65536)), some (6, false), 63, [9, 6, 8]⟩,
  ⟨some 10, .pick (.t 6) (.k (.bool true)) (.t 9), none, 127, [10, 6, 9]⟩,
  ⟨some 2, .mv (.t 10), none, 255, [2, 10]⟩]
def c36 : C := .seq (.region [⟨some 2, .mv (.k (.bool false)), none, 0, [2]⟩]) (.seq (.region r36_0) (.ret))
def fn36 : Fn := ⟨11, [.t 2], c36⟩
/-! 37: (*orchard/wal.Log).fail -/
def r37_0 : List O := [⟨some 5, .mv (.t 0), none, 0, [5, 0]⟩,
  ⟨some 6, .mv (.t 0), none, 0, [6, 0]⟩,
  ⟨some 7, .nilck (.t 6), none, 2, [7, 6]⟩,
  ⟨some 8, .fadr 5 (.t 7), none, 6, [8, 7]⟩,
  ⟨some 9, .load1 (.t 8), none, 14, [9, 8]⟩,
  ⟨some 10, .mv (.t 9), none, 30, [10, 9]⟩,
  ⟨some 11, .mv (.t 1), some (10, false), 62, [11, 10, 1]⟩,
  ⟨some 12, .bin .neq (some .int) true (.t 11) (.k (.int .i64 0)), some (10, false), 126, [12, 10, 11]⟩,
  ⟨some 13, .pick (.t 10) (.k (.bool true)) (.t 12), none, 254, [13, 10, 12]⟩,
  ⟨some 14, .nilck (.t 5), none, 511, [14, 5]⟩,
  ⟨some 15, .fadr 5 (.t 14), none, 1023, [15, 14]⟩,
  ⟨none, .store 1 (.t 15) (.t 13), none, 2047, [15, 13]⟩]
def r37_1 : List O := [⟨some 16, .mv (.t 1), none, 0, [16, 1]⟩,
  ⟨some 4, .mv (.t 16), none, 1, [4, 16]⟩]
def c37 : C := .seq (.region [⟨some 4, .mv (.k (.int .i64 0)), none, 0, [4]⟩]) (.seq (.region r37_0) (.seq (.region r37_1) (.ret)))
def fn37 : Fn := ⟨17, [.t 4], c37⟩
/-! 38: (*orchard/wal.Log).one -/
def r38_0 : List O := [⟨some 13, .mv (.t 1), none, 0, [13, 1]⟩,
  ⟨some 14, .call (.k (.func 69 [] [])) [(.t 13)], none, 1, [14, 13]⟩,
  ⟨some 12, .mv (.t 14), none, 3, [12, 14]⟩,
  ⟨some 15, .extract (.t 12) 0, none, 7, [15, 12]⟩,
  ⟨some 16, .extract (.t 12) 1, none, 7, [16, 12]⟩,
  ⟨some 5, .mv (.t 15), none, 15, [5, 15]⟩,
  ⟨some 6, .mv (.t 16), none, 63, [6, 16]⟩]
def r38_1 : List O := [⟨some 17, .mv (.t 6), none, 0, [17, 6]⟩,
  ⟨some 18, .bin .neq (some .int) true (.t 17) (.k (.int .i64 0)), none, 1, [18, 17]⟩]
def r38_2 : List O := [⟨some 19, .mv (.t 6), none, 0, [19, 6]⟩,
  ⟨some 4, .mv (.t 19), none, 1, [4, 19]⟩]
def r38_3 : List O := [⟨some 20, .mv (.t 0), none, 0, [20, 0]⟩,
  ⟨some 21, .nilck (.t 20), none, 1, [21, 20]⟩,
  ⟨some 22, .fadr 2 (.t 21), none, 3, [22, 21]⟩,
  ⟨some 23, .load1 (.t 22), none, 7, [23, 22]⟩,
  ⟨some 24, .lenL (.t 23), none, 15, [24, 23]⟩,
  ⟨some 25, .bin .sub (some .int) true (.t 24) (.k (.int .i64 1)), none, 31, [25, 24]⟩,
  ⟨some 7, .mv (.t 25), none, 63, [7, 25]⟩]
def r38_4 : List O := [⟨some 26, .mv (.t 7), none, 0, [26, 7]⟩,
  ⟨some 27, .bin .lss (some .int) true (.t 26) (.k (.int .i64 0)), none, 1, [27, 26]⟩,
  ⟨some 28, .mv (.t 27), none, 3, [28, 27]⟩,
  ⟨some 29, .mv (.t 0), some (28, false), 7, [29, 28, 0]⟩,
  ⟨some 30, .nilck (.t 29), some (28, false), 15, [30, 28, 29]⟩,
  ⟨some 31, .fadr 2 (.t 30), some (28, false), 31, [31, 28, 30]⟩,
  ⟨some 32, .load1 (.t 31), some (28, false), 63, [32, 28, 31]⟩,
  ⟨some 33, .mv (.t 7), some (28, false), 7, [33, 28, 7]⟩,
  ⟨some 34, .iadrL 4 (.t 32) (.t 33), some (28, false), 255, [34, 28, 32, 33]⟩,
  ⟨some 35, .fadr 2 (.t 34), some (28, false), 511, [35, 28, 34]⟩,
  ⟨some 36, .load1 (.t 35), some (28, false), 1023, [36, 28, 35]⟩,
  ⟨some 37, .bin .geq (some .int) true (.t 36) (.k (.int .i64 1024)), some (28, false), 2047, [37, 28, 36]⟩,
  ⟨some 38, .pick (.t 28) (.k (.bool true)) (.t 37), none, 4095, [38, 28, 37]⟩]
def r38_5 : List O := [⟨some 39, .mv (.t 7), none, 0, [39, 7]⟩,
  ⟨some 40, .bin .geq (some .int) true (.t 39) (.k (.int .i64 0)), none, 1, [40, 39]⟩,
  ⟨some 41, .mv (.t 40), none, 3, [41, 40]⟩,
  ⟨some 42, .mv (.t 0), some (41, true), 7, [42, 41, 0]⟩,
  ⟨some 43, .nilck (.t 42), some (41, true), 15, [43, 41, 42]⟩,
  ⟨some 44, .fadr 2 (.t 43), some (41, true), 31, [44, 41, 43]⟩,
  ⟨some 45, .load1 (.t 44), some (41, true), 63, [45, 41, 44]⟩,
  ⟨some 46, .mv (.t 7), some (41, true), 7, [46, 41, 7]⟩,
  ⟨some 47, .iadrL 4 (.t 45) (.t 46), some (41, true), 255, [47, 41, 45, 46]⟩,
  ⟨some 48, .fadr 3 (.t 47), some (41, true), 511, [48, 41, 47]⟩,
  ⟨some 49, .load1 (.t 48), some (41, true), 1023, [49, 41, 48]⟩,
  ⟨some 50, .pick (.t 41) (.t 49) (.k (.bool false)), none, 2047, [50, 41, 49]⟩]
def r38_6 : List O := [⟨some 51, .mv (.t 0), none, 0, [51, 0]⟩,
  ⟨some 52, .nilck (.t 51), none, 1, [52, 51]⟩,
  ⟨some 53, .fadr 0 (.t 52), none, 3, [53, 52]⟩,
  ⟨some 54, .load1 (.t 53), none, 7, [54, 53]⟩,
  ⟨some 55, .mv (.t 0), none, 0, [55, 0]⟩,
  ⟨some 56, .nilck (.t 55), none, 16, [56, 55]⟩,
  ⟨some 57, .fadr 1 (.t 56), none, 48, [57, 56]⟩,
  ⟨some 58, .load1 (.t 57), none, 112, [58, 57]⟩,
  ⟨some 59, .mv (.t 0), none, 0, [59, 0]⟩,
  ⟨some 60, .nilck (.t 59), none, 256, [60, 59]⟩,
  ⟨some 61, .fadr 2 (.t 60), none, 768, [61, 60]⟩,
  ⟨some 62, .load1 (.t 61), none, 1792, [62, 61]⟩,
  ⟨some 63, .mv (.t 7), none, 0, [63, 7]⟩,
  ⟨some 64, .iadrL 4 (.t 62) (.t 63), none, 7936, [64, 62, 63]⟩,
  ⟨some 65, .fadr 0 (.t 64), none, 16128, [65, 64]⟩,
  ⟨some 66, .load1 (.t 65), none, 32512, [66, 65]⟩,
  ⟨some 67, .call (.k (.func 23 [] [])) [(.t 58), (.t 66)], none, 65520, [67, 58, 66]⟩,
  ⟨some 68, .call (.k (.func 33 [] [])) [(.t 54), (.t 67)], none, 131071, [68, 54, 67]⟩,
  ⟨some 8, .mv (.t 68), none, 262143, [8, 68]⟩]
def r38_7 : List O := [⟨some 69, .mv (.t 8), none, 0, [69, 8]⟩,
  ⟨some 70, .bin .neq (some .int) true (.t 69) (.k (.int .i64 0)), none, 1, [70, 69]⟩]
def r38_8 : List O := [⟨some 71, .mv (.t 8), none, 0, [71, 8]⟩,
  ⟨some 4, .mv (.t 71), none, 1, [4, 71]⟩]
def r38_9 : List O := [⟨some 72, .mv (.t 0), none, 0, [72, 0]⟩,
  ⟨some 73, .nilck (.t 72), none, 1, [73, 72]⟩,
  ⟨some 74, .fadr 2 (.t 73), none, 3, [74, 73]⟩,
  ⟨some 75, .load1 (.t 74), none, 7, [75, 74]⟩,
  ⟨some 76, .mv (.t 7), none, 0, [76, 7]⟩,
  ⟨some 77, .iadrL 4 (.t 75) (.t 76), none, 31, [77, 75, 76]⟩,
  ⟨some 78, .fadr 3 (.t 77), none, 63, [78, 77]⟩,
  ⟨none, .store 1 (.t 78) (.k (.bool false)), none, 127, [78]⟩]
def r38_10 : List O := [⟨some 79, .mv (.t 0), none, 0, [79, 0]⟩,
  ⟨some 80, .nilck (.t 79), none, 1, [80, 79]⟩,
  ⟨some 81, .fadr 0 (.t 80), none, 3, [81, 80]⟩,
  ⟨some 82, .load1 (.t 81), none, 7, [82, 81]⟩,
  ⟨some 83, .mv (.t 0), none, 0, [83, 0]⟩,
  ⟨some 84, .nilck (.t 83), none, 16, [84, 83]⟩,
  ⟨some 85, .fadr 1 (.t 84), none, 48, [85, 84]⟩,
  ⟨some 86, .load1 (.t 85), none, 112, [86, 85]⟩,
  ⟨some 87, .mv (.t 0), none, 0, [87, 0]⟩,
  ⟨some 88, .nilck (.t 87), none, 256, [88, 87]⟩,
  ⟨some 89, .fadr 3 (.t 88), none, 768, [89, 88]⟩,
  ⟨some 90, .load1 (.t 89), none, 1792, [90, 89]⟩,
  ⟨some 91, .call (.k (.func 23 [] [])) [(.t 86), (.t 90)], none, 4080, [91, 86, 90]⟩,
  ⟨some 92, .mv (.t 5), none, 0, [92, 5]⟩,
  ⟨some 93, .call (.k (.func 65 [] [])) [(.t 82), (.t 91), (.t 92)], none, 16383, [93, 82, 91, 92]⟩,
  ⟨some 9, .mv (.t 93), none, 32767, [9, 93]⟩]
def r38_11 : List O := [⟨some 94, .mv (.t 9), none, 0, [94, 9]⟩,
  ⟨some 95, .bin .neq (some .int) true (.t 94) (.k (.int .i64 0)), none, 1, [95, 94]⟩]
def r38_12 : List O := [⟨some 96, .mv (.t 9), none, 0, [96, 9]⟩,
  ⟨some 4, .mv (.t 96), none, 1, [4, 96]⟩]
def r38_13 : List O := [⟨some 97, .mv (.t 0), none, 0, [97, 0]⟩,
  ⟨some 98, .mv (.t 0), none, 0, [98, 0]⟩,
  ⟨some 99, .nilck (.t 98), none, 2, [99, 98]⟩,
  ⟨some 100, .fadr 2 (.t 99), none, 6, [100, 99]⟩,
  ⟨some 101, .load1 (.t 100), none, 14, [101, 100]⟩,
  ⟨some 102, .mv (.t 0), none, 0, [102, 0]⟩,
  ⟨some 103, .nilck (.t 102), none, 32, [103, 102]⟩,
  ⟨some 104, .fadr 3 (.t 103), none, 96, [104, 103]⟩,
  ⟨some 105, .load1 (.t 104), none, 224, [105, 104]⟩,
  ⟨some 106, .build [(.int .i64 0), (.slice none 0 0 false), (.int .i64 0), (.bool false)] [(0, 1, (.t 105))], none, 480, [106, 105]⟩,
  ⟨some 107, .bslice 74 1 [(.int .i64 0), (.slice none 0 0 false), (.int .i64 0), (.bool false)] [(0, 4, (.t 106))], none, 992, [107, 106]⟩,
  ⟨some 108, .app 74 4 48 (.t 101) (.t 107), none, 2046, [108, 101, 107]⟩,
  ⟨some 109, .nilck (.t 97), none, 4095, [109, 97]⟩,
  ⟨some 110, .fadr 2 (.t 109), none, 8191, [110, 109]⟩,
  ⟨none, .store 1 (.t 110) (.t 108), none, 16383, [110, 108]⟩]
def r38_14 : List O := [⟨some 111, .mv (.t 7), none, 0, [111, 7]⟩,
  ⟨some 112, .bin .add (some .int) true (.t 111) (.k (.int .i64 1)), none, 1, [112, 111]⟩,
  ⟨some 7, .mv (.t 112), none, 3, [7, 112]⟩]
def r38_15 : List O := [⟨some 113, .mv (.t 0), none, 0, [113, 0]⟩,
  ⟨some 114, .nilck (.t 113), none, 1, [114, 113]⟩,
  ⟨some 115, .fadr 0 (.t 114), none, 3, [115, 114]⟩,
  ⟨some 116, .load1 (.t 115), none, 7, [116, 115]⟩,
  ⟨some 117, .mv (.t 0), none, 0, [117, 0]⟩,
  ⟨some 118, .nilck (.t 117), none, 16, [118, 117]⟩,
  ⟨some 119, .fadr 1 (.t 118), none, 48, [119, 118]⟩,
  ⟨some 120, .load1 (.t 119), none, 112, [120, 119]⟩,
  ⟨some 121, .mv (.t 0), none, 0, [121, 0]⟩,
  ⟨some 122, .nilck (.t 121), none, 256, [122, 121]⟩,
  ⟨some 123, .fadr 2 (.t 122), none, 768, [123, 122]⟩,
  ⟨some 124, .load1 (.t 123), none, 1792, [124, 123]⟩,
  ⟨some 125, .mv (.t 7), none, 0, [125, 7]⟩,
  ⟨some 126, .iadrL 4 (.t 124) (.t 125), none, 7936, [126, 124, 125]⟩,
  ⟨some 127, .fadr 0 (.t 126), none, 16128, [127, 126]⟩,
  ⟨some 128, .load1 (.t 127), none, 32512, [128, 127]⟩,
  ⟨some 129, .call (.k (.func 23 [] [])) [(.t 120), (.t 128)], none, 65520, [129, 120, 128]⟩,
  ⟨some 130, .mv (.t 5), none, 0, [130, 5]⟩,
  ⟨some 131, .call (.k (.func 65 [] [])) [(.t 116), (.t 129), (.t 130)], none, 262143, [131, 116, 129, 130]⟩,
  ⟨some 10, .mv (.t 131), none, 524287, [10, 131]⟩]
def r38_16 : List O := [⟨some 132, .mv (.t 10), none, 0, [132, 10]⟩,
  ⟨some 133, .bin .neq (some .int) true (.t 132) (.k (.int .i64 0)), none, 1, [133, 132]⟩]
def r38_17 : List O := [⟨some 134, .mv (.t 10), none, 0, [134, 10]⟩,
  ⟨some 4, .mv (.t 134), none, 1, [4, 134]⟩]
def r38_18 : List O := [⟨some 135, .mv (.t 0), none, 0, [135, 0]⟩,
  ⟨some 136, .nilck (.t 135), none, 1, [136, 135]⟩,
  ⟨some 137, .fadr 2 (.t 136), none, 3, [137, 136]⟩,
  ⟨some 138, .load1 (.t 137), none, 7, [138, 137]⟩,
  ⟨some 139, .mv (.t 7), none, 0, [139, 7]⟩,
  ⟨some 140, .iadrL 4 (.t 138) (.t 139), none, 31, [140, 138, 139]⟩,
  ⟨some 11, .mv (.t 140), none, 63, [11, 140]⟩]
def r38_19 : List O := [⟨some 141, .mv (.t 11), none, 0, [141, 11]⟩,
  ⟨some 142, .mv (.t 11), none, 0, [142, 11]⟩,
  ⟨some 143, .nilck (.t 142), none, 2, [143, 142]⟩,
  ⟨some 144, .fadr 1 (.t 143), none, 6, [144, 143]⟩,
  ⟨some 145, .load1 (.t 144), none, 14, [145, 144]⟩,
  ⟨some 146, .mv (.t 1), none, 0, [146, 1]⟩,
  ⟨some 147, .call (.k (.func 42 [] [])) [(.t 146)], none, 32, [147, 146]⟩,
  ⟨some 148, .bslice 45 1 [(.slice none 0 0 false)] [(0, 1, (.t 147))], none, 96, [148, 147]⟩,
  ⟨some 149, .app 45 1 24 (.t 145) (.t 148), none, 254, [149, 145, 148]⟩,
  ⟨some 150, .nilck (.t 141), none, 511, [150, 141]⟩,
  ⟨some 151, .fadr 1 (.t 150), none, 1023, [151, 150]⟩,
  ⟨none, .store 1 (.t 151) (.t 149), none, 2047, [151, 149]⟩]
def r38_20 : List O := [⟨some 152, .mv (.t 11), none, 0, [152, 11]⟩,
  ⟨some 153, .nilck (.t 152), none, 1, [153, 152]⟩,
  ⟨some 154, .fadr 2 (.t 153), none, 3, [154, 153]⟩,
  ⟨some 155, .load1 (.t 154), none, 7, [155, 154]⟩,
  ⟨some 156, .mv (.t 5), none, 0, [156, 5]⟩,
  ⟨some 157, .lenL (.t 156), none, 16, [157, 156]⟩,
  ⟨some 158, .bin .add (some .int) false (.t 155) (.t 157), none, 63, [158, 155, 157]⟩,
  ⟨some 159, .nilck (.t 152), none, 127, [159, 152]⟩,
  ⟨some 160, .fadr 2 (.t 159), none, 255, [160, 159]⟩,
  ⟨none, .store 1 (.t 160) (.t 158), none, 511, [160, 158]⟩]
def r38_21 : List O := [⟨some 161, .mv (.t 11), none, 0, [161, 11]⟩,
  ⟨some 162, .nilck (.t 161), none, 1, [162, 161]⟩,
  ⟨some 163, .fadr 3 (.t 162), none, 3, [163, 162]⟩,
  ⟨none, .store 1 (.t 163) (.k (.bool true)), none, 7, [163]⟩]
def r38_22 : List O := [⟨some 164, .mv (.t 0), none, 0, [164, 0]⟩,
  ⟨some 165, .nilck (.t 164), none, 1, [165, 164]⟩,
  ⟨some 166, .fadr 3 (.t 165), none, 3, [166, 165]⟩,
  ⟨some 167, .load1 (.t 166), none, 7, [167, 166]⟩,
  ⟨some 168, .bin .add (some .int) true (.t 167) (.k (.int .i64 1)), none, 15, [168, 167]⟩,
  ⟨some 169, .nilck (.t 164), none, 31, [169, 164]⟩,
  ⟨some 170, .fadr 3 (.t 169), none, 63, [170, 169]⟩,
  ⟨none, .store 1 (.t 170) (.t 168), none, 127, [170, 168]⟩]
def c38 : C := .seq (.region [⟨some 4, .mv (.k (.int .i64 0)), none, 0, [4]⟩]) (.seq (.region r38_0) (.seq (.seq (.region r38_1) (.cond (.t 18) (.seq (.region r38_2) (.ret)) (.skip))) (.seq (.region r38_3) (.seq (.seq (.region r38_4) (.cond (.t 38) (.seq (.seq (.region r38_5) (.cond (.t 50) (.seq (.seq (.draw r38_6) (.seq (.region r38_7) (.cond (.t 70) (.seq (.region r38_8) (.ret)) (.skip)))) (.region r38_9)) (.skip))) (.seq (.seq (.draw r38_10) (.seq (.region r38_11) (.cond (.t 95) (.seq (.region r38_12) (.ret)) (.skip)))) (.seq (.draw r38_13) (.region r38_14)))) (.seq (.draw r38_15) (.seq (.region r38_16) (.cond (.t 133) (.seq (.region r38_17) (.ret)) (.skip)))))) (.seq (.region r38_18) (.seq (.draw r38_19) (.seq (.region r38_20) (.seq (.region r38_21) (.seq (.region r38_22) (.seq (.region [⟨some 4, .mv (.k (.int .i64 0)), none, 0, [4]⟩]) (.ret)))))))))))
def fn38 : Fn := ⟨171, [.t 4], c38⟩
/-! 39: (*orchard/disk.Disk).Remove -/
def r39_0 : List O := [⟨some 7, .mv (.t 0), none, 0, [7, 0]⟩,
  ⟨some 8, .mv (.t 1), none, 0, [8, 1]⟩,
  ⟨some 9, .bslice 9 1 [(.str [])] [(0, 1, (.t 8))], none, 2, [9, 8]⟩,
  ⟨some 10, .call (.k (.func 63 [] [])) [(.t 7), (.t 9)], none, 7, [10, 7, 9]⟩,
  ⟨some 5, .mv (.t 10), none, 15, [5, 10]⟩]
def r39_1 : List O := [⟨some 11, .mv (.t 5), none, 0, [11, 5]⟩,
  ⟨some 12, .bin .neq (some .int) true (.t 11) (.k (.int .i64 0)), none, 1, [12, 11]⟩]
def r39_2 : List O := [⟨some 13, .mv (.t 5), none, 0, [13, 5]⟩,
  ⟨some 4, .mv (.t 13), none, 1, [4, 13]⟩]
def r39_3 : List O := [⟨some 14, .mv (.t 0), none, 0, [14, 0]⟩,
  ⟨some 15, .call (.k (.func 67 [] [])) [(.t 14)], none, 1, [15, 14]⟩,
  ⟨some 6, .mv (.t 15), none, 3, [6, 15]⟩]
def r39_4 : List O := [⟨some 16, .mv (.t 6), none, 0, [16, 6]⟩,
  ⟨some 17, .bin .neq (some .int) true (.t 16) (.k (.int .i64 0)), none, 1, [17, 16]⟩]
def r39_5 : List O := [⟨some 18, .mv (.t 6), none, 0, [18, 6]⟩,
  ⟨some 4, .mv (.t 18), none, 1, [4, 18]⟩]
def r39_6 : List O := [⟨some 19, .mv (.t 0), none, 0, [19, 0]⟩,
  ⟨some 20, .nilck (.t 19), none, 1, [20, 19]⟩,
  ⟨some 21, .fadr 0 (.t 20), none, 3, [21, 20]⟩,
  ⟨some 22, .load1 (.t 21), none, 7, [22, 21]⟩,
  ⟨some 23, .mv (.t 1), none, 0, [23, 1]⟩,
  ⟨none, .mapDel .str (.t 22) (.t 23), none, 31, [22, 23]⟩]
def c39 : C := .seq (.region [⟨some 4, .mv (.k (.int .i64 0)), none, 0, [4]⟩]) (.seq (.seq (.region r39_0) (.seq (.region r39_1) (.cond (.t 12) (.seq (.region r39_2) (.ret)) (.skip)))) (.seq (.seq (.region r39_3) (.seq (.region r39_4) (.cond (.t 17) (.seq (.region r39_5) (.ret)) (.skip)))) (.seq (.region r39_6) (.seq (.region [⟨some 4, .mv (.k (.int .i64 0)), none, 0, [4]⟩]) (.ret)))))
def fn39 : Fn := ⟨24, [.t 4], c39⟩
/-! 40: slices.Clone[[]orchard/wal.segment,orchard/wal.segment] -/
def r40_0 : List O := [⟨some 3, .mv (.t 0), none, 0, [3, 0]⟩,
  ⟨some 4, .bin .eql (some .sl) true (.t 3) (.k (.slice none 0 0 false)), none, 1, [4, 3]⟩]
def r40_1 : List O := [⟨some 5, .bslice 74 0 [] [], none, 0, [5]⟩,
  ⟨some 6, .mv (.t 0), none, 0, [6, 0]⟩,
  ⟨some 7, .app 74 4 48 (.t 5) (.t 6), none, 3, [7, 5, 6]⟩,
  ⟨some 2, .mv (.t 7), none, 7, [2, 7]⟩]
def c40 : C := .seq (.region [⟨some 2, .mv (.k (.slice none 0 0 false)), none, 0, [2]⟩]) (.seq (.seq (.region r40_0) (.cond (.t 4) (.seq (.region [⟨some 2, .mv (.k (.slice none 0 0 false)), none, 0, [2]⟩]) (.ret)) (.skip))) (.seq (.region r40_1) (.ret)))
def fn40 : Fn := ⟨8, [.t 2], c40⟩
/-! 41: (*orchard/wal.Log).Records$1 -/
def r41_0 : List O := [⟨some 7, .load1 (.t 1), none, 0, [7, 1]⟩,
  ⟨some 8, .lenL (.t 7), none, 1, [8, 7]⟩,
  ⟨some 9, .mv (.k (.int .i64 0)), none, 0, [9]⟩]
def r41_1 : List O := [⟨some 11, .iadrL 4 (.t 7) (.t 9), none, 0, [11, 7, 9]⟩,
  ⟨some 12, .loadN 4 (.t 11), none, 1, [12, 11]⟩,
  ⟨some 4, .alloc 74 [(.int .i64 0), (.slice none 0 0 false), (.int .i64 0), (.bool false)], none, 0, [4]⟩,
  ⟨none, .store 4 (.t 4) (.t 12), none, 7, [4, 12]⟩]
def r41_2 : List O := [⟨some 13, .fadr 1 (.t 4), none, 0, [13, 4]⟩,
  ⟨some 14, .load1 (.t 13), none, 1, [14, 13]⟩,
  ⟨some 15, .lenL (.t 14), none, 3, [15, 14]⟩,
  ⟨some 16, .mv (.k (.int .i64 0)), none, 0, [16]⟩]
def r41_3 : List O := [⟨some 18, .mv (.t 16), none, 0, [18, 16]⟩,
  ⟨some 19, .iadrL 1 (.t 14) (.t 16), none, 0, [19, 14, 16]⟩,
  ⟨some 20, .load1 (.t 19), none, 2, [20, 19]⟩,
  ⟨some 5, .mv (.t 18), none, 7, [5, 18]⟩,
  ⟨some 6, .mv (.t 20), none, 15, [6, 20]⟩]
def r41_4 : List O := [⟨some 21, .mv (.t 0), none, 0, [21, 0]⟩,
  ⟨some 22, .fadr 0 (.t 4), none, 0, [22, 4]⟩,
  ⟨some 23, .load1 (.t 22), none, 2, [23, 22]⟩,
  ⟨some 24, .mv (.t 5), none, 0, [24, 5]⟩,
  ⟨some 25, .bin .add (some .int) false (.t 23) (.t 24), none, 14, [25, 23, 24]⟩,
  ⟨some 26, .mv (.t 6), none, 0, [26, 6]⟩,
  ⟨some 27, .call (.k (.func 42 [] [])) [(.t 26)], none, 32, [27, 26]⟩,
  ⟨some 28, .call (.t 21) [(.t 25), (.t 27)], none, 127, [28, 21, 25, 27]⟩,
  ⟨some 29, .un .not (.t 28), none, 255, [29, 28]⟩]
def r41_5 : List O := [⟨some 30, .bin .add (some .int) true (.t 16) (.k (.int .i64 1)), none, 0, [30, 16]⟩,
  ⟨some 16, .mv (.t 30), none, 1, [16, 30]⟩]
def b41_6 : C := .seq (.region [⟨some 17, .bin .lss (some .int) false (.t 16) (.t 15), none, 0, [17, 16, 15]⟩]) (.seq (.cond (.t 17) (.skip) (.exit 2)) (.seq (.block 3 (.seq (.region r41_3) (.seq (.draw r41_4) (.cond (.t 29) (.ret) (.skip))))) (.region r41_5)))
theorem u41_6 {P : Program} {E : Env} {ro : Option Nat} {L : Nat} {K : List Fr} {ρ : Nat → V} {h : H} {Q : Po} : XL P E ro L b41_6 K ρ h Q = X P E ro L (.c (.seq (.region [⟨some 17, .bin .lss (some .int) false (.t 16) (.t 15), none, 0, [17, 16, 15]⟩]) (.seq (.cond (.t 17) (.skip) (.exit 2)) (.seq (.block 3 (.seq (.region r41_3) (.seq (.draw r41_4) (.cond (.t 29) (.ret) (.skip))))) (.region r41_5)))) :: .l b41_6 :: K) ρ h Q := XL_unroll b41_6
def r41_7 : List O := [⟨some 31, .bin .add (some .int) true (.t 9) (.k (.int .i64 1)), none, 0, [31, 9]⟩,
  ⟨some 9, .mv (.t 31), none, 1, [9, 31]⟩]
def b41_8 : C := .seq (.region [⟨some 10, .bin .lss (some .int) false (.t 9) (.t 8), none, 0, [10, 9, 8]⟩]) (.seq (.cond (.t 10) (.skip) (.exit 0)) (.seq (.block 1 (.seq (.region r41_1) (.seq (.region r41_2) (.block 2 (.loop b41_6))))) (.region r41_7)))
theorem u41_8 {P : Program} {E : Env} {ro : Option Nat} {L : Nat} {K : List Fr} {ρ : Nat → V} {h : H} {Q : Po} : XL P E ro L b41_8 K ρ h Q = X P E ro L (.c (.seq (.region [⟨some 10, .bin .lss (some .int) false (.t 9) (.t 8), none, 0, [10, 9, 8]⟩]) (.seq (.cond (.t 10) (.skip) (.exit 0)) (.seq (.block 1 (.seq (.region r41_1) (.seq (.region r41_2) (.block 2 (.loop b41_6))))) (.region r41_7)))) :: .l b41_8 :: K) ρ h Q := XL_unroll b41_8
def c41 : C := .seq (.region r41_0) (.block 0 (.loop b41_8))
def fn41 : Fn := ⟨32, [], c41⟩
/-! 42: slices.Clone[[]byte,byte] -/
def r42_0 : List O := [⟨some 3, .mv (.t 0), none, 0, [3, 0]⟩,
  ⟨some 4, .bin .eql (some .sl) true (.t 3) (.k (.slice none 0 0 false)), none, 1, [4, 3]⟩]
def r42_1 : List O := [⟨some 5, .bslice 5 0 [] [], none, 0, [5]⟩,
  ⟨some 6, .mv (.t 0), none, 0, [6, 0]⟩,
  ⟨some 7, .app 5 1 1 (.t 5) (.t 6), none, 3, [7, 5, 6]⟩,
  ⟨some 2, .mv (.t 7), none, 7, [2, 7]⟩]
def c42 : C := .seq (.region [⟨some 2, .mv (.k (.slice none 0 0 false)), none, 0, [2]⟩]) (.seq (.seq (.region r42_0) (.cond (.t 4) (.seq (.region [⟨some 2, .mv (.k (.slice none 0 0 false)), none, 0, [2]⟩]) (.ret)) (.skip))) (.seq (.region r42_1) (.ret)))
def fn42 : Fn := ⟨8, [.t 2], c42⟩
/-! 55: (*orchard/disk.Disk).none -/
def r55_0 : List O := [⟨some 3, .mv (.t 0), none, 0, [3, 0]⟩,
  ⟨some 4, .bin .eql (some .ptr) true (.t 3) (.k (.ptr none)), none, 1, [4, 3]⟩,
  ⟨some 5, .mv (.t 4), none, 3, [5, 4]⟩,
  ⟨some 6, .mv (.t 0), some (5, false), 7, [6, 5, 0]⟩,
  ⟨some 7, .nilck (.t 6), some (5, false), 15, [7, 5, 6]⟩,
  ⟨some 8, .fadr 0 (.t 7), some (5, false), 31, [8, 5, 7]⟩,
  ⟨some 9, .load1 (.t 8), some (5, false), 63, [9, 5, 8]⟩,
  ⟨some 10, .bin .eql (some .mp) true (.t 9) (.k (.map none)), some (5, false), 127, [10, 5, 9]⟩,
  ⟨some 11, .pick (.t 5) (.k (.bool true)) (.t 10), none, 255, [11, 5, 10]⟩,
  ⟨some 2, .mv (.t 11), none, 511, [2, 11]⟩]
def c55 : C := .seq (.region [⟨some 2, .mv (.k (.bool false)), none, 0, [2]⟩]) (.seq (.region r55_0) (.ret))
def fn55 : Fn := ⟨12, [.t 2], c55⟩
/-! 57: strconv.FormatInt -/
/-! 63: (*orchard/disk.Disk).there -/
def r63_0 : List O := [⟨some 6, .mv (.t 0), none, 0, [6, 0]⟩,
  ⟨some 7, .mv (.t 1), none, 0, [7, 1]⟩,
  ⟨some 8, .call (.k (.func 100 [] [])) [(.t 6), (.t 7)], none, 3, [8, 6, 7]⟩,
  ⟨some 5, .mv (.t 8), none, 7, [5, 8]⟩]
def r63_1 : List O := [⟨some 9, .mv (.t 5), none, 0, [9, 5]⟩,
  ⟨some 10, .bin .neq (some .int) true (.t 9) (.k (.int .i64 0)), none, 1, [10, 9]⟩]
def r63_2 : List O := [⟨some 11, .mv (.t 5), none, 0, [11, 5]⟩,
  ⟨some 4, .mv (.t 11), none, 1, [4, 11]⟩]
def r63_3 : List O := [⟨some 12, .mv (.t 0), none, 0, [12, 0]⟩,
  ⟨some 13, .nilck (.t 12), none, 1, [13, 12]⟩,
  ⟨some 14, .fadr 0 (.t 13), none, 3, [14, 13]⟩,
  ⟨some 15, .load1 (.t 14), none, 7, [15, 14]⟩,
  ⟨some 16, .mv (.t 1), none, 0, [16, 1]⟩,
  ⟨some 17, .iadrL 1 (.t 16) (.k (.int .i64 0)), none, 16, [17, 16]⟩,
  ⟨some 18, .load1 (.t 17), none, 48, [18, 17]⟩,
  ⟨some 19, .lookup .str (.ptr none) false (.t 15) (.t 18), none, 127, [19, 15, 18]⟩,
  ⟨some 20, .bin .eql (some .ptr) true (.t 19) (.k (.ptr none)), none, 255, [20, 19]⟩]
theorem d63_3 {P : Program} {E : Env} {ro : Option Nat} {L : Nat} {K : List Fr} {ρ : Nat → V} {h : H} {Q : Po} : XD P E ro L r63_3 K ρ h Q = XO P E ro L r63_3 K ρ h Q := XD_still rfl
def c63 : C := .seq (.region [⟨some 4, .mv (.k (.int .i64 0)), none, 0, [4]⟩]) (.seq (.seq (.region r63_0) (.seq (.region r63_1) (.cond (.t 10) (.seq (.region r63_2) (.ret)) (.skip)))) (.seq (.seq (.draw r63_3) (.cond (.t 20) (.seq (.region [⟨some 4, .mv (.k (.int .i64 4)), none, 0, [4]⟩]) (.ret)) (.skip))) (.seq (.region [⟨some 4, .mv (.k (.int .i64 0)), none, 0, [4]⟩]) (.ret))))
def fn63 : Fn := ⟨21, [.t 4], c63⟩
/-! 65: (*orchard/disk.Disk).Append -/
def r65_0 : List O := [⟨some 9, .mv (.t 0), none, 0, [9, 0]⟩,
  ⟨some 10, .mv (.t 1), none, 0, [10, 1]⟩,
  ⟨some 11, .bslice 9 1 [(.str [])] [(0, 1, (.t 10))], none, 2, [11, 10]⟩,
  ⟨some 12, .call (.k (.func 100 [] [])) [(.t 9), (.t 11)], none, 7, [12, 9, 11]⟩,
  ⟨some 7, .mv (.t 12), none, 15, [7, 12]⟩]
def r65_1 : List O := [⟨some 13, .mv (.t 7), none, 0, [13, 7]⟩,
  ⟨some 14, .bin .neq (some .int) true (.t 13) (.k (.int .i64 0)), none, 1, [14, 13]⟩]
def r65_2 : List O := [⟨some 15, .mv (.t 7), none, 0, [15, 7]⟩,
  ⟨some 6, .mv (.t 15), none, 1, [6, 15]⟩]
def r65_3 : List O := [⟨some 16, .mv (.t 0), none, 0, [16, 0]⟩,
  ⟨some 17, .nilck (.t 16), none, 1, [17, 16]⟩,
  ⟨some 18, .fadr 0 (.t 17), none, 3, [18, 17]⟩,
  ⟨some 19, .load1 (.t 18), none, 7, [19, 18]⟩,
  ⟨some 20, .mv (.t 1), none, 0, [20, 1]⟩,
  ⟨some 21, .lookup .str (.ptr none) false (.t 19) (.t 20), none, 31, [21, 19, 20]⟩,
  ⟨some 8, .mv (.t 21), none, 63, [8, 21]⟩]
def r65_4 : List O := [⟨some 22, .mv (.t 8), none, 0, [22, 8]⟩,
  ⟨some 23, .bin .eql (some .ptr) true (.t 22) (.k (.ptr none)), none, 1, [23, 22]⟩,
  ⟨some 24, .mv (.t 23), none, 3, [24, 23]⟩,
  ⟨some 25, .mv (.t 0), some (24, true), 7, [25, 24, 0]⟩,
  ⟨some 26, .nilck (.t 25), some (24, true), 15, [26, 24, 25]⟩,
  ⟨some 27, .fadr 0 (.t 26), some (24, true), 31, [27, 24, 26]⟩,
  ⟨some 28, .load1 (.t 27), some (24, true), 63, [28, 24, 27]⟩,
  ⟨some 29, .lenM (.t 28), some (24, true), 127, [29, 24, 28]⟩,
  ⟨some 30, .bin .geq (some .int) true (.t 29) (.k (.int .i64 1024)), some (24, true), 255, [30, 24, 29]⟩,
  ⟨some 31, .pick (.t 24) (.t 30) (.k (.bool false)), none, 511, [31, 24, 30]⟩]
def r65_5 : List O := [⟨some 32, .mv (.t 2), none, 0, [32, 2]⟩,
  ⟨some 33, .lenL (.t 32), none, 1, [33, 32]⟩,
  ⟨some 34, .mv (.t 0), none, 0, [34, 0]⟩,
  ⟨some 35, .nilck (.t 34), none, 4, [35, 34]⟩,
  ⟨some 36, .fadr 3 (.t 35), none, 12, [36, 35]⟩,
  ⟨some 37, .load1 (.t 36), none, 28, [37, 36]⟩,
  ⟨some 38, .mv (.t 0), none, 0, [38, 0]⟩,
  ⟨some 39, .nilck (.t 38), none, 64, [39, 38]⟩,
  ⟨some 40, .fadr 0 (.t 39), none, 192, [40, 39]⟩,
  ⟨some 41, .load1 (.t 40), none, 448, [41, 40]⟩,
  ⟨some 42, .call (.k (.func 105 [] [])) [(.t 41)], none, 960, [42, 41]⟩,
  ⟨some 43, .bin .sub (some .int) false (.t 37) (.t 42), none, 2044, [43, 37, 42]⟩,
  ⟨some 44, .bin .gtr (some .int) false (.t 33) (.t 43), none, 4095, [44, 33, 43]⟩]
theorem d65_5 {P : Program} {E : Env} {ro : Option Nat} {L : Nat} {K : List Fr} {ρ : Nat → V} {h : H} {Q : Po} (hx : XDQ P E ro L K Q h [true, true, true, true, true, true, true, true, true, true, true, true, true] r65_5 ρ h) : XD P E ro L r65_5 K ρ h Q := XD_quiet rfl rfl hx
def r65_6 : List O := [⟨some 45, .mv (.t 8), none, 0, [45, 8]⟩,
  ⟨some 46, .bin .eql (some .ptr) true (.t 45) (.k (.ptr none)), none, 1, [46, 45]⟩]
def r65_7 : List O := [⟨some 47, .build [(.slice none 0 0 false), (.int .i64 0)] [], none, 0, [47]⟩,
  ⟨some 48, .box 105 (.t 47), none, 1, [48, 47]⟩,
  ⟨some 8, .mv (.t 48), none, 3, [8, 48]⟩]
def r65_8 : List O := [⟨some 49, .mv (.t 0), none, 0, [49, 0]⟩,
  ⟨some 50, .nilck (.t 49), none, 1, [50, 49]⟩,
  ⟨some 51, .fadr 0 (.t 50), none, 3, [51, 50]⟩,
  ⟨some 52, .load1 (.t 51), none, 7, [52, 51]⟩,
  ⟨some 53, .mv (.t 1), none, 0, [53, 1]⟩,
  ⟨some 54, .mv (.t 8), none, 0, [54, 8]⟩,
  ⟨none, .mapUpd .str (.t 52) (.t 53) (.t 54), none, 63, [52, 53, 54]⟩]
def r65_9 : List O := [⟨some 55, .mv (.t 8), none, 0, [55, 8]⟩,
  ⟨some 56, .mv (.t 8), none, 0, [56, 8]⟩,
  ⟨some 57, .nilck (.t 56), none, 2, [57, 56]⟩,
  ⟨some 58, .fadr 0 (.t 57), none, 6, [58, 57]⟩,
  ⟨some 59, .load1 (.t 58), none, 14, [59, 58]⟩,
  ⟨some 60, .mv (.t 2), none, 0, [60, 2]⟩,
  ⟨some 61, .app 5 1 1 (.t 59) (.t 60), none, 62, [61, 59, 60]⟩,
  ⟨some 62, .nilck (.t 55), none, 127, [62, 55]⟩,
  ⟨some 63, .fadr 0 (.t 62), none, 255, [63, 62]⟩,
  ⟨none, .store 1 (.t 63) (.t 61), none, 511, [63, 61]⟩]
def r65_10 : List O := [⟨some 64, .mv (.t 0), none, 0, [64, 0]⟩,
  ⟨some 65, .call (.k (.func 67 [] [])) [(.t 64)], none, 1, [65, 64]⟩,
  ⟨some 6, .mv (.t 65), none, 3, [6, 65]⟩]
def c65 : C := .seq (.region [⟨some 6, .mv (.k (.int .i64 0)), none, 0, [6]⟩]) (.seq (.seq (.region r65_0) (.seq (.region r65_1) (.cond (.t 14) (.seq (.region r65_2) (.ret)) (.skip)))) (.seq (.region r65_3) (.seq (.seq (.region r65_4) (.cond (.t 31) (.seq (.region [⟨some 6, .mv (.k (.int .i64 3)), none, 0, [6]⟩]) (.ret)) (.skip))) (.seq (.seq (.draw r65_5) (.cond (.t 44) (.seq (.region [⟨some 6, .mv (.k (.int .i64 6)), none, 0, [6]⟩]) (.ret)) (.skip))) (.seq (.seq (.region r65_6) (.cond (.t 46) (.seq (.region r65_7) (.region r65_8)) (.skip))) (.seq (.region r65_9) (.seq (.region r65_10) (.ret))))))))
def fn65 : Fn := ⟨66, [.t 6], c65⟩
/-! 67: (*orchard/disk.Disk).changes -/
def r67_0 : List O := [⟨some 4, .mv (.t 0), none, 0, [4, 0]⟩,
  ⟨some 5, .nilck (.t 4), none, 1, [5, 4]⟩,
  ⟨some 6, .fadr 1 (.t 5), none, 3, [6, 5]⟩,
  ⟨some 7, .fadr 1 (.t 6), none, 7, [7, 6]⟩,
  ⟨some 8, .load1 (.t 7), none, 15, [8, 7]⟩,
  ⟨some 3, .mv (.t 8), none, 31, [3, 8]⟩]
def r67_1 : List O := [⟨some 9, .mv (.t 0), none, 0, [9, 0]⟩,
  ⟨some 10, .nilck (.t 9), none, 1, [10, 9]⟩,
  ⟨some 11, .fadr 1 (.t 10), none, 3, [11, 10]⟩,
  ⟨some 12, .call (.k (.func 106 [] [])) [(.t 11)], none, 7, [12, 11]⟩]
def r67_2 : List O := [⟨some 13, .mv (.t 0), none, 0, [13, 0]⟩,
  ⟨some 14, .mv (.t 3), none, 0, [14, 3]⟩,
  ⟨some 15, .call (.k (.func 56 [] [])) [(.t 13), (.t 14)], none, 3, [15, 13, 14]⟩]
def c67 : C := .seq (.region [⟨some 2, .mv (.k (.int .i64 0)), none, 0, [2]⟩]) (.seq (.region r67_0) (.seq (.seq (.region r67_1) (.cond (.t 12) (.seq (.region r67_2) (.seq (.region [⟨some 2, .mv (.k (.int .i64 7)), none, 0, [2]⟩]) (.ret))) (.skip))) (.seq (.region [⟨some 2, .mv (.k (.int .i64 0)), none, 0, [2]⟩]) (.ret))))
def fn67 : Fn := ⟨16, [.t 2], c67⟩
/-! 68: slices.IndexFunc[[][]byte,[]byte] -/
def r68_0 : List O := [⟨some 6, .mv (.t 0), none, 0, [6, 0]⟩,
  ⟨some 7, .lenL (.t 6), none, 1, [7, 6]⟩,
  ⟨some 8, .mv (.k (.int .i64 0)), none, 0, [8]⟩]
def r68_1 : List O := [⟨some 10, .mv (.t 8), none, 0, [10, 8]⟩,
  ⟨some 5, .mv (.t 10), none, 1, [5, 10]⟩]
def r68_2 : List O := [⟨some 11, .mv (.t 1), none, 0, [11, 1]⟩,
  ⟨some 12, .mv (.t 0), none, 0, [12, 0]⟩,
  ⟨some 13, .mv (.t 5), none, 0, [13, 5]⟩,
  ⟨some 14, .iadrL 1 (.t 12) (.t 13), none, 6, [14, 12, 13]⟩,
  ⟨some 15, .load1 (.t 14), none, 14, [15, 14]⟩,
  ⟨some 16, .call (.t 11) [(.t 15)], none, 31, [16, 11, 15]⟩]
def r68_3 : List O := [⟨some 17, .mv (.t 5), none, 0, [17, 5]⟩,
  ⟨some 4, .mv (.t 17), none, 1, [4, 17]⟩]
def r68_4 : List O := [⟨some 18, .bin .add (some .int) true (.t 8) (.k (.int .i64 1)), none, 0, [18, 8]⟩,
  ⟨some 8, .mv (.t 18), none, 1, [8, 18]⟩]
def b68_5 : C := .seq (.region [⟨some 9, .bin .lss (some .int) false (.t 8) (.t 7), none, 0, [9, 8, 7]⟩]) (.seq (.cond (.t 9) (.skip) (.exit 0)) (.seq (.block 1 (.seq (.region r68_1) (.seq (.region r68_2) (.cond (.t 16) (.seq (.region r68_3) (.ret)) (.skip))))) (.region r68_4)))
theorem u68_5 {P : Program} {E : Env} {ro : Option Nat} {L : Nat} {K : List Fr} {ρ : Nat → V} {h : H} {Q : Po} : XL P E ro L b68_5 K ρ h Q = X P E ro L (.c (.seq (.region [⟨some 9, .bin .lss (some .int) false (.t 8) (.t 7), none, 0, [9, 8, 7]⟩]) (.seq (.cond (.t 9) (.skip) (.exit 0)) (.seq (.block 1 (.seq (.region r68_1) (.seq (.region r68_2) (.cond (.t 16) (.seq (.region r68_3) (.ret)) (.skip))))) (.region r68_4)))) :: .l b68_5 :: K) ρ h Q := XL_unroll b68_5
def c68 : C := .seq (.region [⟨some 4, .mv (.k (.int .i64 0)), none, 0, [4]⟩]) (.seq (.seq (.region r68_0) (.block 0 (.loop b68_5))) (.seq (.region [⟨some 4, .mv (.k (.int .i64 (-1))), none, 0, [4]⟩]) (.ret)))
def fn68 : Fn := ⟨19, [.t 4], c68⟩
/-! 69: orchard/wire.Frame -/
def r69_0 : List O := [⟨some 2, .mv (.k (.slice none 0 0 false)), none, 0, [2]⟩,
  ⟨some 3, .mv (.k (.int .i64 0)), none, 1, [3]⟩]
def r69_1 : List O := [⟨some 4, .mv (.t 0), none, 0, [4, 0]⟩,
  ⟨some 5, .lenL (.t 4), none, 1, [5, 4]⟩,
  ⟨some 6, .bin .gtr (some .int) true (.t 5) (.k (.int .i64 1048576)), none, 3, [6, 5]⟩]
def r69_2 : List O := [⟨some 2, .mv (.k (.slice none 0 0 false)), none, 0, [2]⟩,
  ⟨some 3, .mv (.k (.int .i64 3)), none, 1, [3]⟩]
def r69_3 : List O := [⟨some 7, .mv (.t 0), none, 0, [7, 0]⟩,
  ⟨some 8, .lenL (.t 7), none, 1, [8, 7]⟩,
  ⟨some 9, .call (.k (.func 108 [] [])) [(.t 8)], none, 3, [9, 8]⟩,
  ⟨some 10, .mv (.t 0), none, 0, [10, 0]⟩,
  ⟨some 11, .mv (.t 0), none, 0, [11, 0]⟩,
  ⟨some 12, .bslice 45 1 [(.slice none 0 0 false)] [(0, 1, (.t 11))], none, 16, [12, 11]⟩,
  ⟨some 13, .call (.k (.func 104 [] [])) [(.t 12)], none, 55, [13, 12]⟩,
  ⟨some 14, .call (.k (.func 103 [] [])) [(.t 13)], none, 119, [14, 13]⟩,
  ⟨some 15, .bslice 45 3 [(.slice none 0 0 false), (.slice none 0 0 false), (.slice none 0 0 false)] [(0, 1, (.t 9)), (1, 1, (.t 10)), (2, 1, (.t 14))], none, 255, [15, 9, 10, 14]⟩,
  ⟨some 16, .call (.k (.func 107 [] [])) [(.t 15)], none, 511, [16, 15]⟩,
  ⟨some 2, .mv (.t 16), none, 1023, [2, 16]⟩,
  ⟨some 3, .mv (.k (.int .i64 0)), none, 2047, [3]⟩]
def c69 : C := .seq (.region r69_0) (.seq (.seq (.region r69_1) (.cond (.t 6) (.seq (.region r69_2) (.ret)) (.skip))) (.seq (.region r69_3) (.ret)))
def fn69 : Fn := ⟨17, [.t 2, .t 3], c69⟩
/-! 100: (*orchard/disk.Disk).wrong -/
def r100_0 : List O := [⟨some 7, .mv (.t 0), none, 0, [7, 0]⟩,
  ⟨some 8, .call (.k (.func 55 [] [])) [(.t 7)], none, 1, [8, 7]⟩]
def r100_1 : List O := [⟨some 9, .mv (.t 0), none, 0, [9, 0]⟩,
  ⟨some 10, .nilck (.t 9), none, 1, [10, 9]⟩,
  ⟨some 11, .fadr 4 (.t 10), none, 3, [11, 10]⟩,
  ⟨some 12, .load1 (.t 11), none, 7, [12, 11]⟩]
def r100_2 : List O := [⟨some 13, .mv (.t 1), none, 0, [13, 1]⟩,
  ⟨some 14, .lenL (.t 13), none, 1, [14, 13]⟩,
  ⟨some 15, .mv (.k (.int .i64 0)), none, 0, [15]⟩]
def r100_3 : List O := [⟨some 17, .iadrL 1 (.t 13) (.t 15), none, 0, [17, 13, 15]⟩,
  ⟨some 18, .load1 (.t 17), none, 1, [18, 17]⟩,
  ⟨some 6, .mv (.t 18), none, 3, [6, 18]⟩]
def r100_4 : List O := [⟨some 19, .mv (.t 6), none, 0, [19, 6]⟩,
  ⟨some 20, .lenS (.t 19), none, 1, [20, 19]⟩,
  ⟨some 21, .bin .eql (some .int) true (.t 20) (.k (.int .i64 0)), none, 3, [21, 20]⟩,
  ⟨some 22, .mv (.t 21), none, 7, [22, 21]⟩,
  ⟨some 23, .mv (.t 6), some (22, false), 15, [23, 22, 6]⟩,
  ⟨some 24, .lenS (.t 23), some (22, false), 31, [24, 22, 23]⟩,
  ⟨some 25, .bin .gtr (some .int) true (.t 24) (.k (.int .i64 64)), some (22, false), 63, [25, 22, 24]⟩,
  ⟨some 26, .pick (.t 22) (.k (.bool true)) (.t 25), none, 127, [26, 22, 25]⟩]
def r100_5 : List O := [⟨some 27, .bin .add (some .int) true (.t 15) (.k (.int .i64 1)), none, 0, [27, 15]⟩,
  ⟨some 15, .mv (.t 27), none, 1, [15, 27]⟩]
def b100_6 : C := .seq (.region [⟨some 16, .bin .lss (some .int) false (.t 15) (.t 14), none, 0, [16, 15, 14]⟩]) (.seq (.cond (.t 16) (.skip) (.exit 0)) (.seq (.block 1 (.seq (.region r100_3) (.seq (.region r100_4) (.cond (.t 26) (.seq (.region [⟨some 4, .mv (.k (.int .i64 20)), none, 0, [4]⟩]) (.ret)) (.skip))))) (.region r100_5)))
theorem u100_6 {P : Program} {E : Env} {ro : Option Nat} {L : Nat} {K : List Fr} {ρ : Nat → V} {h : H} {Q : Po} : XL P E ro L b100_6 K ρ h Q = X P E ro L (.c (.seq (.region [⟨some 16, .bin .lss (some .int) false (.t 15) (.t 14), none, 0, [16, 15, 14]⟩]) (.seq (.cond (.t 16) (.skip) (.exit 0)) (.seq (.block 1 (.seq (.region r100_3) (.seq (.region r100_4) (.cond (.t 26) (.seq (.region [⟨some 4, .mv (.k (.int .i64 20)), none, 0, [4]⟩]) (.ret)) (.skip))))) (.region r100_5)))) :: .l b100_6 :: K) ρ h Q := XL_unroll b100_6
def c100 : C := .seq (.region [⟨some 4, .mv (.k (.int .i64 0)), none, 0, [4]⟩]) (.seq (.seq (.region r100_0) (.cond (.t 8) (.seq (.region [⟨some 4, .mv (.k (.int .i64 2)), none, 0, [4]⟩]) (.ret)) (.skip))) (.seq (.seq (.region r100_1) (.cond (.t 12) (.seq (.region [⟨some 4, .mv (.k (.int .i64 7)), none, 0, [4]⟩]) (.ret)) (.skip))) (.seq (.seq (.region r100_2) (.block 0 (.loop b100_6))) (.seq (.region [⟨some 4, .mv (.k (.int .i64 0)), none, 0, [4]⟩]) (.ret)))))
def fn100 : Fn := ⟨28, [.t 4], c100⟩
/-! 103: orchard/wire.four -/
def r103_0 : List O := [⟨some 3, .mv (.t 0), none, 0, [3, 0]⟩,
  ⟨some 4, .cvt .u8 (.t 3), none, 1, [4, 3]⟩,
  ⟨some 5, .mv (.t 0), none, 0, [5, 0]⟩,
  ⟨some 6, .bin .shr (some .int) true (.t 5) (.k (.int .u64 8)), none, 4, [6, 5]⟩,
  ⟨some 7, .cvt .u8 (.t 6), none, 12, [7, 6]⟩,
  ⟨some 8, .mv (.t 0), none, 0, [8, 0]⟩,
  ⟨some 9, .bin .shr (some .int) true (.t 8) (.k (.int .u64 16)), none, 32, [9, 8]⟩,
  ⟨some 10, .cvt .u8 (.t 9), none, 96, [10, 9]⟩,
  ⟨some 11, .mv (.t 0), none, 0, [11, 0]⟩,
  ⟨some 12, .bin .shr (some .int) true (.t 11) (.k (.int .u64 24)), none, 256, [12, 11]⟩,
  ⟨some 13, .cvt .u8 (.t 12), none, 768, [13, 12]⟩,
  ⟨some 14, .bslice 5 4 [(.int .u8 0), (.int .u8 0), (.int .u8 0), (.int .u8 0)] [(0, 1, (.t 4)), (1, 1, (.t 7)), (2, 1, (.t 10)), (3, 1, (.t 13))], none, 2047, [14, 4, 7, 10, 13]⟩,
  ⟨some 2, .mv (.t 14), none, 4095, [2, 14]⟩]
def c103 : C := .seq (.region [⟨some 2, .mv (.k (.slice none 0 0 false)), none, 0, [2]⟩]) (.seq (.region r103_0) (.ret))
def fn103 : Fn := ⟨15, [.t 2], c103⟩
/-! 104: orchard/wire.Sum -/
def r104_0 : List O := [⟨some 9, .mv (.t 0), none, 0, [9, 0]⟩,
  ⟨some 10, .lenL (.t 9), none, 1, [10, 9]⟩,
  ⟨some 11, .mv (.k (.int .i64 0)), none, 0, [11]⟩]
def r104_1 : List O := [⟨some 13, .iadrL 1 (.t 9) (.t 11), none, 0, [13, 9, 11]⟩,
  ⟨some 14, .load1 (.t 13), none, 1, [14, 13]⟩,
  ⟨some 5, .mv (.t 14), none, 3, [5, 14]⟩]
def r104_2 : List O := [⟨some 15, .mv (.t 5), none, 0, [15, 5]⟩,
  ⟨some 16, .lenL (.t 15), none, 1, [16, 15]⟩,
  ⟨some 17, .mv (.k (.int .i64 0)), none, 0, [17]⟩]
def r104_3 : List O := [⟨some 19, .iadrL 1 (.t 15) (.t 17), none, 0, [19, 15, 17]⟩,
  ⟨some 20, .load1 (.t 19), none, 1, [20, 19]⟩,
  ⟨some 7, .mv (.t 20), none, 3, [7, 20]⟩]
def r104_4 : List O := [⟨some 21, .mv (.t 3), none, 0, [21, 3]⟩,
  ⟨some 22, .mv (.t 7), none, 0, [22, 7]⟩,
  ⟨some 23, .cvt .u32 (.t 22), none, 2, [23, 22]⟩,
  ⟨some 24, .bin .xor (some .int) false (.t 21) (.t 23), none, 7, [24, 21, 23]⟩,
  ⟨some 3, .mv (.t 24), none, 15, [3, 24]⟩]
def r104_5 : List O := [⟨some 27, .mv (.t 3), none, 0, [27, 3]⟩,
  ⟨some 28, .bin .and (some .int) true (.t 27) (.k (.int .u32 1)), none, 1, [28, 27]⟩,
  ⟨some 8, .mv (.t 28), none, 3, [8, 28]⟩]
def r104_6 : List O := [⟨some 29, .mv (.t 3), none, 0, [29, 3]⟩,
  ⟨some 30, .bin .shr (some .int) true (.t 29) (.k (.int .u64 1)), none, 1, [30, 29]⟩,
  ⟨some 3, .mv (.t 30), none, 3, [3, 30]⟩]
def r104_7 : List O := [⟨some 31, .mv (.t 8), none, 0, [31, 8]⟩,
  ⟨some 32, .bin .eql (some .int) true (.t 31) (.k (.int .u32 1)), none, 1, [32, 31]⟩]
def r104_8 : List O := [⟨some 33, .mv (.t 3), none, 0, [33, 3]⟩,
  ⟨some 34, .bin .xor (some .int) true (.t 33) (.k (.int .u32 3988292384)), none, 1, [34, 33]⟩,
  ⟨some 3, .mv (.t 34), none, 3, [3, 34]⟩]
def r104_9 : List O := [⟨some 35, .bin .add (some .int) true (.t 25) (.k (.int .i64 1)), none, 0, [35, 25]⟩,
  ⟨some 25, .mv (.t 35), none, 1, [25, 35]⟩]
def b104_10 : C := .seq (.region [⟨some 26, .bin .lss (some .int) true (.t 25) (.k (.int .i64 8)), none, 0, [26, 25]⟩]) (.seq (.cond (.t 26) (.skip) (.exit 4)) (.seq (.block 5 (.seq (.region r104_5) (.seq (.region r104_6) (.seq (.region r104_7) (.cond (.t 32) (.region r104_8) (.skip)))))) (.region r104_9)))
theorem u104_10 {P : Program} {E : Env} {ro : Option Nat} {L : Nat} {K : List Fr} {ρ : Nat → V} {h : H} {Q : Po} : XL P E ro L b104_10 K ρ h Q = X P E ro L (.c (.seq (.region [⟨some 26, .bin .lss (some .int) true (.t 25) (.k (.int .i64 8)), none, 0, [26, 25]⟩]) (.seq (.cond (.t 26) (.skip) (.exit 4)) (.seq (.block 5 (.seq (.region r104_5) (.seq (.region r104_6) (.seq (.region r104_7) (.cond (.t 32) (.region r104_8) (.skip)))))) (.region r104_9)))) :: .l b104_10 :: K) ρ h Q := XL_unroll b104_10
def r104_11 : List O := [⟨some 36, .bin .add (some .int) true (.t 17) (.k (.int .i64 1)), none, 0, [36, 17]⟩,
  ⟨some 17, .mv (.t 36), none, 1, [17, 36]⟩]
def b104_12 : C := .seq (.region [⟨some 18, .bin .lss (some .int) false (.t 17) (.t 16), none, 0, [18, 17, 16]⟩]) (.seq (.cond (.t 18) (.skip) (.exit 2)) (.seq (.block 3 (.seq (.region r104_3) (.seq (.region r104_4) (.seq (.region [⟨some 25, .mv (.k (.int .i64 0)), none, 0, [25]⟩]) (.block 4 (.loop b104_10)))))) (.region r104_11)))
theorem u104_12 {P : Program} {E : Env} {ro : Option Nat} {L : Nat} {K : List Fr} {ρ : Nat → V} {h : H} {Q : Po} : XL P E ro L b104_12 K ρ h Q = X P E ro L (.c (.seq (.region [⟨some 18, .bin .lss (some .int) false (.t 17) (.t 16), none, 0, [18, 17, 16]⟩]) (.seq (.cond (.t 18) (.skip) (.exit 2)) (.seq (.block 3 (.seq (.region r104_3) (.seq (.region r104_4) (.seq (.region [⟨some 25, .mv (.k (.int .i64 0)), none, 0, [25]⟩]) (.block 4 (.loop b104_10)))))) (.region r104_11)))) :: .l b104_12 :: K) ρ h Q := XL_unroll b104_12
def r104_13 : List O := [⟨some 37, .bin .add (some .int) true (.t 11) (.k (.int .i64 1)), none, 0, [37, 11]⟩,
  ⟨some 11, .mv (.t 37), none, 1, [11, 37]⟩]
def b104_14 : C := .seq (.region [⟨some 12, .bin .lss (some .int) false (.t 11) (.t 10), none, 0, [12, 11, 10]⟩]) (.seq (.cond (.t 12) (.skip) (.exit 0)) (.seq (.block 1 (.seq (.region r104_1) (.seq (.region r104_2) (.block 2 (.loop b104_12))))) (.region r104_13)))
theorem u104_14 {P : Program} {E : Env} {ro : Option Nat} {L : Nat} {K : List Fr} {ρ : Nat → V} {h : H} {Q : Po} : XL P E ro L b104_14 K ρ h Q = X P E ro L (.c (.seq (.region [⟨some 12, .bin .lss (some .int) false (.t 11) (.t 10), none, 0, [12, 11, 10]⟩]) (.seq (.cond (.t 12) (.skip) (.exit 0)) (.seq (.block 1 (.seq (.region r104_1) (.seq (.region r104_2) (.block 2 (.loop b104_12))))) (.region r104_13)))) :: .l b104_14 :: K) ρ h Q := XL_unroll b104_14
def r104_15 : List O := [⟨some 38, .mv (.t 3), none, 0, [38, 3]⟩,
  ⟨some 39, .un .xor (.t 38), none, 1, [39, 38]⟩,
  ⟨some 2, .mv (.t 39), none, 3, [2, 39]⟩]
def c104 : C := .seq (.region [⟨some 2, .mv (.k (.int .u32 0)), none, 0, [2]⟩]) (.seq (.region [⟨some 3, .mv (.k (.int .u32 4294967295)), none, 0, [3]⟩]) (.seq (.seq (.region r104_0) (.block 0 (.loop b104_14))) (.seq (.region r104_15) (.ret))))
def fn104 : Fn := ⟨40, [.t 2], c104⟩
/-! 105: (orchard/disk.files).used -/
def r105_0 : List O := [⟨some 6, .mv (.t 0), none, 0, [6, 0]⟩,
  ⟨some 7, .rng false (.t 6), none, 1, [7, 6]⟩]
def r105_1 : List O := [⟨some 8, .next false (.t 7), none, 0, [8, 7]⟩,
  ⟨some 9, .extract (.t 8) 0, none, 1, [9, 8]⟩]
def r105_2 : List O := [⟨some 10, .entry (.t 7), none, 0, [10, 7]⟩,
  ⟨some 11, .extract (.t 10) 1, none, 1, [11, 10]⟩,
  ⟨some 5, .mv (.t 11), none, 3, [5, 11]⟩]
def r105_3 : List O := [⟨some 12, .mv (.t 3), none, 0, [12, 3]⟩,
  ⟨some 13, .mv (.t 5), none, 0, [13, 5]⟩,
  ⟨some 14, .nilck (.t 13), none, 2, [14, 13]⟩,
  ⟨some 15, .fadr 0 (.t 14), none, 6, [15, 14]⟩,
  ⟨some 16, .load1 (.t 15), none, 14, [16, 15]⟩,
  ⟨some 17, .lenL (.t 16), none, 30, [17, 16]⟩,
  ⟨some 18, .bin .add (some .int) false (.t 12) (.t 17), none, 63, [18, 12, 17]⟩,
  ⟨some 3, .mv (.t 18), none, 127, [3, 18]⟩]
def b105_4 : C := .seq (.region r105_1) (.seq (.cond (.t 9) (.skip) (.exit 0)) (.block 1 (.seq (.region r105_2) (.region r105_3))))
def r105_5 : List O := [⟨some 19, .mv (.t 3), none, 0, [19, 3]⟩,
  ⟨some 2, .mv (.t 19), none, 1, [2, 19]⟩]
def c105 : C := .seq (.region [⟨some 2, .mv (.k (.int .i64 0)), none, 0, [2]⟩]) (.seq (.region [⟨some 3, .mv (.k (.int .i64 0)), none, 0, [3]⟩]) (.seq (.seq (.region r105_0) (.block 0 (.loop b105_4))) (.seq (.region r105_5) (.ret))))
def fn105 : Fn := ⟨20, [.t 2], c105⟩
/-! 106: (*orchard/disk.fuse).burns -/
def r106_0 : List O := [⟨some 3, .mv (.t 0), none, 0, [3, 0]⟩,
  ⟨some 4, .nilck (.t 3), none, 1, [4, 3]⟩,
  ⟨some 5, .fadr 0 (.t 4), none, 3, [5, 4]⟩,
  ⟨some 6, .load1 (.t 5), none, 7, [6, 5]⟩,
  ⟨some 7, .bin .eql (some .int) true (.t 6) (.k (.int .i64 0)), none, 15, [7, 6]⟩]
def r106_1 : List O := [⟨some 8, .mv (.t 0), none, 0, [8, 0]⟩,
  ⟨some 9, .nilck (.t 8), none, 1, [9, 8]⟩,
  ⟨some 10, .fadr 0 (.t 9), none, 3, [10, 9]⟩,
  ⟨some 11, .load1 (.t 10), none, 7, [11, 10]⟩,
  ⟨some 12, .bin .sub (some .int) true (.t 11) (.k (.int .i64 1)), none, 15, [12, 11]⟩,
  ⟨some 13, .nilck (.t 8), none, 31, [13, 8]⟩,
  ⟨some 14, .fadr 0 (.t 13), none, 63, [14, 13]⟩,
  ⟨none, .store 1 (.t 14) (.t 12), none, 127, [14, 12]⟩]
def r106_2 : List O := [⟨some 15, .mv (.t 0), none, 0, [15, 0]⟩,
  ⟨some 16, .nilck (.t 15), none, 1, [16, 15]⟩,
  ⟨some 17, .fadr 0 (.t 16), none, 3, [17, 16]⟩,
  ⟨some 18, .load1 (.t 17), none, 7, [18, 17]⟩,
  ⟨some 19, .bin .eql (some .int) true (.t 18) (.k (.int .i64 0)), none, 15, [19, 18]⟩,
  ⟨some 2, .mv (.t 19), none, 31, [2, 19]⟩]
def c106 : C := .seq (.region [⟨some 2, .mv (.k (.bool false)), none, 0, [2]⟩]) (.seq (.seq (.region r106_0) (.cond (.t 7) (.seq (.region [⟨some 2, .mv (.k (.bool false)), none, 0, [2]⟩]) (.ret)) (.skip))) (.seq (.region r106_1) (.seq (.region r106_2) (.ret))))
def fn106 : Fn := ⟨20, [.t 2], c106⟩
/-! 107: slices.Concat[[]byte,byte] -/
def r107_0 : List O := [⟨some 9, .mv (.t 0), none, 0, [9, 0]⟩,
  ⟨some 10, .lenL (.t 9), none, 1, [10, 9]⟩,
  ⟨some 11, .mv (.k (.int .i64 0)), none, 0, [11]⟩]
def r107_1 : List O := [⟨some 13, .iadrL 1 (.t 9) (.t 11), none, 0, [13, 9, 11]⟩,
  ⟨some 14, .load1 (.t 13), none, 1, [14, 13]⟩,
  ⟨some 5, .mv (.t 14), none, 3, [5, 14]⟩]
def r107_2 : List O := [⟨some 15, .mv (.t 3), none, 0, [15, 3]⟩,
  ⟨some 16, .mv (.t 5), none, 0, [16, 5]⟩,
  ⟨some 17, .lenL (.t 16), none, 2, [17, 16]⟩,
  ⟨some 18, .bin .add (some .int) false (.t 15) (.t 17), none, 7, [18, 15, 17]⟩,
  ⟨some 3, .mv (.t 18), none, 15, [3, 18]⟩]
def r107_3 : List O := [⟨some 19, .mv (.t 3), none, 0, [19, 3]⟩,
  ⟨some 20, .bin .lss (some .int) true (.t 19) (.k (.int .i64 0)), none, 1, [20, 19]⟩]
def r107_4 : List O := [⟨some 21, .mkI 9 (.k (.str [108, 101, 110, 32, 111, 117, 116, 32, 111, 102, 32, 114, 97, 110, 103, 101])), none, 0, [21]⟩,
  ⟨none, .bad, none, 1, []⟩]
def r107_5 : List O := [⟨some 22, .bin .add (some .int) true (.t 11) (.k (.int .i64 1)), none, 0, [22, 11]⟩,
  ⟨some 11, .mv (.t 22), none, 1, [11, 22]⟩]
def b107_6 : C := .seq (.region [⟨some 12, .bin .lss (some .int) false (.t 11) (.t 10), none, 0, [12, 11, 10]⟩]) (.seq (.cond (.t 12) (.skip) (.exit 0)) (.seq (.block 1 (.seq (.region r107_1) (.seq (.region r107_2) (.seq (.region r107_3) (.cond (.t 20) (.region r107_4) (.skip)))))) (.region r107_5)))
theorem u107_6 {P : Program} {E : Env} {ro : Option Nat} {L : Nat} {K : List Fr} {ρ : Nat → V} {h : H} {Q : Po} : XL P E ro L b107_6 K ρ h Q = X P E ro L (.c (.seq (.region [⟨some 12, .bin .lss (some .int) false (.t 11) (.t 10), none, 0, [12, 11, 10]⟩]) (.seq (.cond (.t 12) (.skip) (.exit 0)) (.seq (.block 1 (.seq (.region r107_1) (.seq (.region r107_2) (.seq (.region r107_3) (.cond (.t 20) (.region r107_4) (.skip)))))) (.region r107_5)))) :: .l b107_6 :: K) ρ h Q := XL_unroll b107_6
def r107_7 : List O := [⟨some 23, .mv (.t 3), none, 0, [23, 3]⟩,
  ⟨some 24, .call (.k (.func 141 [] [])) [(.k (.slice none 0 0 false)), (.t 23)], none, 1, [24, 23]⟩,
  ⟨some 6, .mv (.t 24), none, 3, [6, 24]⟩]
def r107_8 : List O := [⟨some 25, .mv (.t 0), none, 0, [25, 0]⟩,
  ⟨some 26, .lenL (.t 25), none, 1, [26, 25]⟩,
  ⟨some 27, .mv (.k (.int .i64 0)), none, 0, [27]⟩]
def r107_9 : List O := [⟨some 29, .iadrL 1 (.t 25) (.t 27), none, 0, [29, 25, 27]⟩,
  ⟨some 30, .load1 (.t 29), none, 1, [30, 29]⟩,
  ⟨some 8, .mv (.t 30), none, 3, [8, 30]⟩]
def r107_10 : List O := [⟨some 31, .mv (.t 6), none, 0, [31, 6]⟩,
  ⟨some 32, .mv (.t 8), none, 0, [32, 8]⟩,
  ⟨some 33, .app 5 1 1 (.t 31) (.t 32), none, 3, [33, 31, 32]⟩,
  ⟨some 6, .mv (.t 33), none, 7, [6, 33]⟩]
def r107_11 : List O := [⟨some 34, .bin .add (some .int) true (.t 27) (.k (.int .i64 1)), none, 0, [34, 27]⟩,
  ⟨some 27, .mv (.t 34), none, 1, [27, 34]⟩]
def b107_12 : C := .seq (.region [⟨some 28, .bin .lss (some .int) false (.t 27) (.t 26), none, 0, [28, 27, 26]⟩]) (.seq (.cond (.t 28) (.skip) (.exit 2)) (.seq (.block 3 (.seq (.region r107_9) (.region r107_10))) (.region r107_11)))
theorem u107_12 {P : Program} {E : Env} {ro : Option Nat} {L : Nat} {K : List Fr} {ρ : Nat → V} {h : H} {Q : Po} : XL P E ro L b107_12 K ρ h Q = X P E ro L (.c (.seq (.region [⟨some 28, .bin .lss (some .int) false (.t 27) (.t 26), none, 0, [28, 27, 26]⟩]) (.seq (.cond (.t 28) (.skip) (.exit 2)) (.seq (.block 3 (.seq (.region r107_9) (.region r107_10))) (.region r107_11)))) :: .l b107_12 :: K) ρ h Q := XL_unroll b107_12
def r107_13 : List O := [⟨some 35, .mv (.t 6), none, 0, [35, 6]⟩,
  ⟨some 2, .mv (.t 35), none, 1, [2, 35]⟩]
def c107 : C := .seq (.region [⟨some 2, .mv (.k (.slice none 0 0 false)), none, 0, [2]⟩]) (.seq (.region [⟨some 3, .mv (.k (.int .i64 0)), none, 0, [3]⟩]) (.seq (.seq (.region r107_0) (.block 0 (.loop b107_6))) (.seq (.region r107_7) (.seq (.seq (.region r107_8) (.block 2 (.loop b107_12))) (.seq (.region r107_13) (.ret))))))
def fn107 : Fn := ⟨36, [.t 2], c107⟩
/-! 108: orchard/wire.number -/
def r108_0 : List O := [⟨some 5, .mv (.t 0), none, 0, [5, 0]⟩,
  ⟨some 6, .cvt .u64 (.t 5), none, 1, [6, 5]⟩,
  ⟨some 7, .bin .shl (some .int) true (.t 6) (.k (.int .u64 1)), none, 3, [7, 6]⟩,
  ⟨some 3, .mv (.t 7), none, 7, [3, 7]⟩]
def r108_1 : List O := [⟨some 8, .mv (.t 0), none, 0, [8, 0]⟩,
  ⟨some 9, .bin .lss (some .int) true (.t 8) (.k (.int .i64 0)), none, 1, [9, 8]⟩]
def r108_2 : List O := [⟨some 10, .mv (.t 3), none, 0, [10, 3]⟩,
  ⟨some 11, .un .xor (.t 10), none, 1, [11, 10]⟩,
  ⟨some 3, .mv (.t 11), none, 3, [3, 11]⟩]
def r108_3 : List O := [⟨some 12, .mv (.t 3), none, 0, [12, 3]⟩,
  ⟨some 13, .bin .geq (some .int) true (.t 12) (.k (.int .u64 128)), none, 1, [13, 12]⟩]
def r108_4 : List O := [⟨some 16, .mv (.t 4), none, 0, [16, 4]⟩,
  ⟨some 17, .mv (.t 3), none, 0, [17, 3]⟩,
  ⟨some 18, .cvt .u8 (.t 17), none, 2, [18, 17]⟩,
  ⟨some 19, .bin .or (some .int) true (.t 18) (.k (.int .u8 128)), none, 6, [19, 18]⟩,
  ⟨some 20, .bslice 5 1 [(.int .u8 0)] [(0, 1, (.t 19))], none, 14, [20, 19]⟩,
  ⟨some 21, .app 5 1 1 (.t 16) (.t 20), none, 31, [21, 16, 20]⟩,
  ⟨some 4, .mv (.t 21), none, 63, [4, 21]⟩]
def r108_5 : List O := [⟨some 14, .mv (.t 3), none, 0, [14, 3]⟩,
  ⟨some 15, .bin .shr (some .int) true (.t 14) (.k (.int .u64 7)), none, 1, [15, 14]⟩,
  ⟨some 3, .mv (.t 15), none, 3, [3, 15]⟩]
def b108_6 : C := .seq (.seq (.region r108_3) (.cond (.t 13) (.skip) (.exit 0))) (.seq (.block 1 (.region r108_4)) (.region r108_5))
theorem u108_6 {P : Program} {E : Env} {ro : Option Nat} {L : Nat} {K : List Fr} {ρ : Nat → V} {h : H} {Q : Po} : XL P E ro L b108_6 K ρ h Q = X P E ro L (.c (.seq (.seq (.region r108_3) (.cond (.t 13) (.skip) (.exit 0))) (.seq (.block 1 (.region r108_4)) (.region r108_5))) :: .l b108_6 :: K) ρ h Q := XL_unroll b108_6
def r108_7 : List O := [⟨some 22, .mv (.t 4), none, 0, [22, 4]⟩,
  ⟨some 23, .mv (.t 3), none, 0, [23, 3]⟩,
  ⟨some 24, .cvt .u8 (.t 23), none, 2, [24, 23]⟩,
  ⟨some 25, .bslice 5 1 [(.int .u8 0)] [(0, 1, (.t 24))], none, 6, [25, 24]⟩,
  ⟨some 26, .app 5 1 1 (.t 22) (.t 25), none, 15, [26, 22, 25]⟩,
  ⟨some 2, .mv (.t 26), none, 31, [2, 26]⟩]
def c108 : C := .seq (.region [⟨some 2, .mv (.k (.slice none 0 0 false)), none, 0, [2]⟩]) (.seq (.region r108_0) (.seq (.seq (.region r108_1) (.cond (.t 9) (.region r108_2) (.skip))) (.seq (.region [⟨some 4, .mv (.k (.slice none 0 0 false)), none, 0, [4]⟩]) (.seq (.block 0 (.loop b108_6)) (.seq (.region r108_7) (.ret))))))
def fn108 : Fn := ⟨27, [.t 2], c108⟩
/-! 141: slices.Grow[[]byte,byte] -/
def r141_0 : List O := [⟨some 5, .mv (.t 1), none, 0, [5, 1]⟩,
  ⟨some 6, .bin .lss (some .int) true (.t 5) (.k (.int .i64 0)), none, 1, [6, 5]⟩]
def r141_1 : List O := [⟨some 7, .mkI 9 (.k (.str [99, 97, 110, 110, 111, 116, 32, 98, 101, 32, 110, 101, 103, 97, 116, 105, 118, 101])), none, 0, [7]⟩,
  ⟨none, .bad, none, 1, []⟩]
def r141_2 : List O := [⟨some 8, .mv (.t 1), none, 0, [8, 1]⟩,
  ⟨some 9, .mv (.t 0), none, 0, [9, 0]⟩,
  ⟨some 10, .capL (.t 9), none, 2, [10, 9]⟩,
  ⟨some 11, .mv (.t 0), none, 0, [11, 0]⟩,
  ⟨some 12, .lenL (.t 11), none, 8, [12, 11]⟩,
  ⟨some 13, .bin .sub (some .int) false (.t 10) (.t 12), none, 30, [13, 10, 12]⟩,
  ⟨some 14, .bin .sub (some .int) false (.t 8) (.t 13), none, 63, [14, 8, 13]⟩,
  ⟨some 1, .mv (.t 14), none, 127, [1, 14]⟩]
def r141_3 : List O := [⟨some 15, .mv (.t 1), none, 0, [15, 1]⟩,
  ⟨some 16, .bin .gtr (some .int) true (.t 15) (.k (.int .i64 0)), none, 1, [16, 15]⟩]
def r141_4 : List O := [⟨some 17, .mv (.t 0), none, 0, [17, 0]⟩,
  ⟨some 18, .mv (.t 0), none, 0, [18, 0]⟩,
  ⟨some 19, .capL (.t 18), none, 2, [19, 18]⟩,
  ⟨some 20, .slL 1 (.t 17) none (some (.t 19)) none, none, 7, [20, 17, 19]⟩,
  ⟨some 21, .mv (.t 1), none, 0, [21, 1]⟩,
  ⟨some 22, .appZ 5 1 1 [(.int .u8 0)] (.t 20) (.t 21), none, 31, [22, 20, 21]⟩,
  ⟨some 23, .mv (.t 0), none, 0, [23, 0]⟩,
  ⟨some 24, .lenL (.t 23), none, 64, [24, 23]⟩,
  ⟨some 25, .slL 1 (.t 22) none (some (.t 24)) none, none, 255, [25, 22, 24]⟩,
  ⟨some 0, .mv (.t 25), none, 511, [0, 25]⟩]
def r141_5 : List O := [⟨some 26, .mv (.t 0), none, 0, [26, 0]⟩,
  ⟨some 4, .mv (.t 26), none, 1, [4, 26]⟩]
def c141 : C := .seq (.region [⟨some 4, .mv (.k (.slice none 0 0 false)), none, 0, [4]⟩]) (.seq (.seq (.region r141_0) (.cond (.t 6) (.region r141_1) (.skip))) (.seq (.seq (.region r141_2) (.seq (.region r141_3) (.cond (.t 16) (.region r141_4) (.skip)))) (.seq (.region r141_5) (.ret))))
def fn141 : Fn := ⟨27, [.t 4], c141⟩
end Go.AM.Wc
