/- My own texts of the evaluator, its soundness and its symbolic runs, laid for this claim. -/
import Derived.Test.YtbdbikdeolanfaaGreatDoorWn3Wn4
set_option linter.unusedSimpArgs false
set_option linter.unusedVariables false
namespace Go.AM.Wn
/-! 4: orchard/disk.New -/
def r4_0 : List O := [⟨some 2,.mv (.k (.ptr none)),none,0,[2]⟩,
  ⟨some 3,.mv (.k (.int .i64 0)),none,1,[3]⟩]
def r4_1 : List O := [⟨some 4,.mv (.t 0),none,0,[4,0]⟩,
  ⟨some 5,.bin .lss (some .int) true (.t 4) (.k (.int .i64 0)),none,1,[5,4]⟩]
def r4_2 : List O := [⟨some 2,.mv (.k (.ptr none)),none,0,[2]⟩,
  ⟨some 3,.mv (.k (.int .i64 1)),none,1,[3]⟩]
def r4_3 : List O := [⟨some 6,.mkMap,none,0,[6]⟩,
  ⟨some 7,.mv (.t 0),none,0,[7,0]⟩,
  ⟨some 8,.build [(.map none),.int .i64 0,.int .i64 0,.int .i64 0,(.bool false)] [(0,1,(.t 6)),(3,1,(.t 7))],none,3,[8,6,7]⟩,
  ⟨some 9,.box 43 (.t 8),none,7,[9,8]⟩,
  ⟨some 2,.mv (.t 9),none,15,[2,9]⟩,
  ⟨some 3,.mv (.k (.int .i64 0)),none,31,[3]⟩]
def c4 : C := .seq (.region r4_0) (.seq (.seq (.region r4_1) (.cond (.t 5) (.seq (.region r4_2) (.ret)) (.skip))) (.seq (.region r4_3) (.ret)))
def fn4 : Fn := ⟨10, [.t 2, .t 3], c4⟩
/-! 5: orchard/orchardref02.New -/
def r5_0 : List O := [⟨some 2,.mv (.k (.ptr none)),none,0,[2]⟩,
  ⟨some 3,.mv (.k (.int .i64 0)),none,1,[3]⟩]
def r5_1 : List O := [⟨some 4,.mv (.t 0),none,0,[4,0]⟩,
  ⟨some 5,.bin .lss (some .int) true (.t 4) (.k (.int .i64 0)),none,1,[5,4]⟩]
def r5_2 : List O := [⟨some 2,.mv (.k (.ptr none)),none,0,[2]⟩,
  ⟨some 3,.mv (.k (.int .i64 1)),none,1,[3]⟩]
def r5_3 : List O := [⟨some 6,.mv (.t 0),none,0,[6,0]⟩,
  ⟨some 7,.build [.int .i64 0,(.slice none 0 0 false),.int .i64 0,.int .i64 0,(.bool false)] [(0,1,(.t 6))],none,1,[7,6]⟩,
  ⟨some 8,.box 46 (.t 7),none,3,[8,7]⟩,
  ⟨some 2,.mv (.t 8),none,7,[2,8]⟩,
  ⟨some 3,.mv (.k (.int .i64 0)),none,15,[3]⟩]
def c5 : C := .seq (.region r5_0) (.seq (.seq (.region r5_1) (.cond (.t 5) (.seq (.region r5_2) (.ret)) (.skip))) (.seq (.region r5_3) (.ret)))
def fn5 : Fn := ⟨9, [.t 2, .t 3], c5⟩
/-! 26: (*orchard/orchardref02.Disk).Down -/
def r26_0 : List O := [⟨some 3,.mv (.t 0),none,0,[3,0]⟩,
  ⟨some 4,.nilck (.t 3),none,1,[4,3]⟩,
  ⟨some 5,.fadr 4 (.t 4),none,3,[5,4]⟩,
  ⟨some 6,.load1 (.t 5),none,7,[6,5]⟩,
  ⟨some 2,.mv (.t 6),none,15,[2,6]⟩]
def c26 : C := .seq (.region [⟨some 2,.mv (.k (.bool false)),none,0,[2]⟩]) (.seq (.region r26_0) (.ret))
def fn26 : Fn := ⟨7, [.t 2], c26⟩
/-! 27: (*orchard/orchardref02.Disk).Names -/
def r27_0 : List O := [⟨some 5,.mv (.t 4),none,0,[5,4]⟩,
  ⟨some 6,.mv (.t 0),none,0,[6,0]⟩,
  ⟨some 7,.nilck (.t 6),none,2,[7,6]⟩,
  ⟨some 8,.fadr 1 (.t 7),none,6,[8,7]⟩,
  ⟨some 9,.load1 (.t 8),none,14,[9,8]⟩,
  ⟨some 10,.lenL (.t 9),none,30,[10,9]⟩,
  ⟨some 11,.bin .lss (some .int) false (.t 5) (.t 10),none,63,[11,5,10]⟩]
def r27_1 : List O := [⟨some 14,.mv (.t 3),none,0,[14,3]⟩,
  ⟨some 15,.mv (.t 0),none,0,[15,0]⟩,
  ⟨some 16,.nilck (.t 15),none,2,[16,15]⟩,
  ⟨some 17,.fadr 1 (.t 16),none,6,[17,16]⟩,
  ⟨some 18,.load1 (.t 17),none,14,[18,17]⟩,
  ⟨some 19,.mv (.t 4),none,0,[19,4]⟩,
  ⟨some 20,.iadrL 3 (.t 18) (.t 19),none,62,[20,18,19]⟩,
  ⟨some 21,.fadr 0 (.t 20),none,126,[21,20]⟩,
  ⟨some 22,.load1 (.t 21),none,254,[22,21]⟩,
  ⟨some 23,.bslice 9 1 [.str []] [(0,1,(.t 22))],none,510,[23,22]⟩,
  ⟨some 24,.app 9 1 16 (.t 14) (.t 23),none,1023,[24,14,23]⟩,
  ⟨some 3,.mv (.t 24),none,2047,[3,24]⟩]
def r27_2 : List O := [⟨some 12,.mv (.t 4),none,0,[12,4]⟩,
  ⟨some 13,.bin .add (some .int) true (.t 12) (.k (.int .i64 1)),none,1,[13,12]⟩,
  ⟨some 4,.mv (.t 13),none,3,[4,13]⟩]
def b27_3 : C := .seq (.seq (.region r27_0) (.cond (.t 11) (.skip) (.exit 0))) (.seq (.block 1 (.region r27_1)) (.region r27_2))
theorem u27_3 {P : Program} {E : Env} {ro : Option Nat} {L : Nat} {K : List Fr} {ρ : Nat → V} {h : H} {Q : Po} : XL P E ro L b27_3 K ρ h Q = X P E ro L (.c (.seq (.seq (.region r27_0) (.cond (.t 11) (.skip) (.exit 0))) (.seq (.block 1 (.region r27_1)) (.region r27_2))) :: .l b27_3 :: K) ρ h Q := XL_unroll b27_3
def r27_4 : List O := [⟨some 25,.mv (.t 3),none,0,[25,3]⟩,
  ⟨some 2,.mv (.t 25),none,1,[2,25]⟩]
def c27 : C := .seq (.region [⟨some 2,.mv (.k (.slice none 0 0 false)),none,0,[2]⟩]) (.seq (.region [⟨some 3,.mv (.k (.slice none 0 0 false)),none,0,[3]⟩]) (.seq (.seq (.region [⟨some 4,.mv (.k (.int .i64 0)),none,0,[4]⟩]) (.block 0 (.loop b27_3))) (.seq (.region r27_4) (.ret))))
def fn27 : Fn := ⟨26, [.t 2], c27⟩
end Go.AM.Wn
