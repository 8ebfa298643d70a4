/-
 DERIVED: THE SHELF's CONTRACTS AT THIS DUMP,IN PLAIN WORDS (tools/lay-plain.mjs out of 'TryzCut.lean',which tools/lay-shelf.mjs wrote): THE SAME DECLARATIONS UNDER THE SAME NAMES: 'import', 'namespace', 'open', 'def', 'theorem' AND NOTHING ELSE: no command of the shelf's: FOR A HAND-IN. Each laying: the table of numbers ('.._ren') and one theorem,a field a fact of the dump's own or the kernel's comparison; each contract: ONE APPLICATION.
-/
import Derived.Shelf.LaysM
import Derived.Shelf.Strconv.Itoa4
import Derived.Shelf.Strings.Repeat
import Derived.Test.YtpfoofcallfjjaaGreatDoorCards
import Derived.Test.YtpfoofcallfjjaaGreatDoorTie
import Derived.Deep.DeepWitnessRowRef
import Derived.Stop.LaidErr
import Derived.Shelf.SortM.Plain
import Derived.Shelf.SortM.SortNone
import Derived.Shelf.Strconv.ParseIntPublic10
import Derived.Test.YtpfoofcallfjjaaGreatDoorWf24ToWg6
set_option linter.unusedSimpArgs false
set_option linter.unusedVariables false
namespace Go.Proofs
open Go.Shelf
def Tryz.laysM173_ren : Go.Shelf.Ren := ⟨fun | 173 => 57 | 246 => 86 | 283 => 114 | 284 => 115 | 285 => 116 | 286 => 117 | 129 => 140 | 317 => 145 | 318 => 146 | 319 => 147 | 320 => 148 | 337 => 167 | 338 => 168 | n => n,fun | 2 => 2 | 3 => 3 | 9 => 9 | 4 => 4 | 171 => 161 | 0 => 0 | 53 => 162 | 37 => 45 | 5 => 5 | 173 => 165 | 212 => 193 | 51 => 130 | 20 => 20 | 213 => 194 | 46 => 132 | 232 => 220 | 233 => 221 | n => n,fun | 17 => 0 | 18 => 4 | 19 => 5 | n => n⟩
theorem Tryz.laysM173 : Go.Proofs.LaysM.n173 Tryz.prog Tryz.laysM173_ren := {
 mixed := by kernel_rfl
 f129 := Tryz.func140.trans (congrArg some (by kernel_rfl))
 f173 := Tryz.func57.trans (congrArg some (by kernel_rfl))
 f246 := Tryz.func86.trans (congrArg some (by kernel_rfl))
 f283 := Tryz.func114.trans (congrArg some (by kernel_rfl))
 f284 := Tryz.func115.trans (congrArg some (by kernel_rfl))
 f285 := Tryz.func116.trans (congrArg some (by kernel_rfl))
 f286 := Tryz.func117.trans (congrArg some (by kernel_rfl))
 f317 := Tryz.func145.trans (congrArg some (by kernel_rfl))
 f318 := Tryz.func146.trans (congrArg some (by kernel_rfl))
 f319 := Tryz.func147.trans (congrArg some (by kernel_rfl))
 f320 := Tryz.func148.trans (congrArg some (by kernel_rfl))
 f337 := Tryz.func167.trans (congrArg some (by kernel_rfl))
 f338 := Tryz.func168.trans (congrArg some (by kernel_rfl))
 t0 := Tryz.underlying0
 a0 := Tryz.isAgg0
 z0 := Tryz.sizeOf0
 v0 := Tryz.zeroValue0
 t2 := Tryz.underlying2
 a2 := Tryz.isAgg2
 z2 := Tryz.sizeOf2
 v2 := Tryz.zeroValue2
 t3 := Tryz.underlying3
 a3 := Tryz.isAgg3
 z3 := Tryz.sizeOf3
 v3 := Tryz.zeroValue3
 t4 := Tryz.underlying4
 a4 := Tryz.isAgg4
 z4 := Tryz.sizeOf4
 v4 := Tryz.zeroValue4
 t5 := Tryz.underlying5
 a5 := Tryz.isAgg5
 z5 := Tryz.sizeOf5
 v5 := Tryz.zeroValue5
 t9 := Tryz.underlying9
 a9 := Tryz.isAgg9
 z9 := Tryz.sizeOf9
 v9 := Tryz.zeroValue9
 t20 := Tryz.underlying20
 a20 := Tryz.isAgg20
 z20 := Tryz.sizeOf20
 v20 := Tryz.zeroValue20
 t37 := Tryz.underlying45
 a37 := Tryz.isAgg45
 z37 := Tryz.sizeOf45
 v37 := Tryz.zeroValue45
 t46 := Tryz.underlying132
 a46 := Tryz.isAgg132
 z46 := Tryz.sizeOf132
 v46 := Tryz.zeroValue132
 t51 := Tryz.underlying130
 a51 := Tryz.isAgg130
 z51 := Tryz.sizeOf130
 v51 := Tryz.zeroValue130
 t53 := Tryz.underlying162
 a53 := Tryz.isAgg162
 z53 := Tryz.sizeOf162
 v53 := Tryz.zeroValue162
 t171 := Tryz.underlying161
 a171 := Tryz.isAgg161
 z171 := Tryz.sizeOf161
 v171 := Tryz.zeroValue161
 t173 := Tryz.underlying165
 a173 := Tryz.isAgg165
 z173 := Tryz.sizeOf165
 v173 := Tryz.zeroValue165
 t212 := Tryz.underlying193
 a212 := Tryz.isAgg193
 z212 := Tryz.sizeOf193
 v212 := Tryz.zeroValue193
 t213 := Tryz.underlying194
 a213 := Tryz.isAgg194
 z213 := Tryz.sizeOf194
 t232 := Tryz.underlying220
 a232 := Tryz.isAgg220
 z232 := Tryz.sizeOf220
 v232 := Tryz.zeroValue220
 t233 := Tryz.underlying221
 a233 := Tryz.isAgg221
 z233 := Tryz.sizeOf221
 v233 := Tryz.zeroValue221
 g17 := by kernel_rfl
 g18 := by kernel_rfl
 g19 := by kernel_rfl
 i0 := by kernel_rfl
 i2 := by kernel_rfl
 i3 := by kernel_rfl
 i4 := by kernel_rfl
 i5 := by kernel_rfl
 i9 := by kernel_rfl
 i20 := by kernel_rfl
 i37 := by kernel_rfl
 i46 := by kernel_rfl
 i51 := by kernel_rfl
 i53 := by kernel_rfl
 i171 := by kernel_rfl
 i173 := by kernel_rfl
 i212 := by kernel_rfl
 i232 := by kernel_rfl
 i233 := by kernel_rfl
 m17 := by kernel_rfl
 m18 := by kernel_rfl
 m19 := by kernel_rfl }
open Go.RowKit Go.Sort Go.Lib in
theorem Tryz.strconv_FormatInt_10 (n : Int) (h0 : -9223372036854775808 ≤ n) (h1 : n ≤ 9223372036854775807) (w : World) (htab : Lib.TabIs Tryz.prog w "internal/strconv.uint64pow10" .u64 Lib.pow10Tab) :
  Calls Tryz.prog 57 #[.int .i64 n,.int .i64 10] w fun e w' => e = .returned (.string ⟨(Lib.itoa n).toArray⟩) ∧ ∃ k os,w' = grow (w.drewN k) os := Any.strconv_FormatInt_10 Tryz.laysM173 n h0 h1 w htab
def Tryz.lays105_ren : Go.Shelf.Ren := ⟨fun | 105 => 58 | 212 => 87 | 99 => 88 | 165 => 89 | 166 => 90 | 170 => 91 | 169 => 92 | 263 => 118 | 264 => 119 | 206 => 120 | 240 => 121 | 241 => 122 | 276 => 149 | 277 => 150 | n => n,fun | 9 => 9 | 3 => 3 | 4 => 4 | 20 => 20 | 0 => 0 | 46 => 132 | 109 => 138 | 5 => 5 | 72 => 143 | 76 => 144 | 51 => 130 | 146 => 167 | 53 => 162 | 148 => 169 | 70 => 141 | 37 => 45 | 75 => 112 | 127 => 171 | 164 => 195 | 80 => 146 | n => n,fun | n => n⟩
theorem Tryz.lays105 : Go.Proofs.Lays.n105 Tryz.prog Tryz.lays105_ren := {
 mixed := by kernel_rfl
 f99 := Tryz.func88.trans (congrArg some (by kernel_rfl))
 f105 := Tryz.func58.trans (congrArg some (by kernel_rfl))
 f165 := Tryz.func89.trans (congrArg some (by kernel_rfl))
 f166 := Tryz.func90.trans (congrArg some (by kernel_rfl))
 f169 := Tryz.func92.trans (congrArg some (by kernel_rfl))
 f170 := Tryz.func91.trans (congrArg some (by kernel_rfl))
 f206 := Tryz.func120.trans (congrArg some (by kernel_rfl))
 f212 := Tryz.func87.trans (congrArg some (by kernel_rfl))
 f240 := Tryz.func121.trans (congrArg some (by kernel_rfl))
 f241 := Tryz.func122.trans (congrArg some (by kernel_rfl))
 f263 := Tryz.func118.trans (congrArg some (by kernel_rfl))
 f264 := Tryz.func119.trans (congrArg some (by kernel_rfl))
 f276 := Tryz.func149.trans (congrArg some (by kernel_rfl))
 f277 := Tryz.func150.trans (congrArg some (by kernel_rfl))
 t0 := Tryz.underlying0
 a0 := Tryz.isAgg0
 z0 := Tryz.sizeOf0
 v0 := Tryz.zeroValue0
 t3 := Tryz.underlying3
 a3 := Tryz.isAgg3
 z3 := Tryz.sizeOf3
 v3 := Tryz.zeroValue3
 t4 := Tryz.underlying4
 a4 := Tryz.isAgg4
 z4 := Tryz.sizeOf4
 v4 := Tryz.zeroValue4
 t5 := Tryz.underlying5
 a5 := Tryz.isAgg5
 z5 := Tryz.sizeOf5
 v5 := Tryz.zeroValue5
 t9 := Tryz.underlying9
 a9 := Tryz.isAgg9
 z9 := Tryz.sizeOf9
 v9 := Tryz.zeroValue9
 t20 := Tryz.underlying20
 a20 := Tryz.isAgg20
 z20 := Tryz.sizeOf20
 v20 := Tryz.zeroValue20
 t37 := Tryz.underlying45
 a37 := Tryz.isAgg45
 z37 := Tryz.sizeOf45
 v37 := Tryz.zeroValue45
 t46 := Tryz.underlying132
 a46 := Tryz.isAgg132
 z46 := Tryz.sizeOf132
 v46 := Tryz.zeroValue132
 t51 := Tryz.underlying130
 a51 := Tryz.isAgg130
 z51 := Tryz.sizeOf130
 v51 := Tryz.zeroValue130
 t53 := Tryz.underlying162
 a53 := Tryz.isAgg162
 z53 := Tryz.sizeOf162
 v53 := Tryz.zeroValue162
 t70 := Tryz.underlying141
 a70 := Tryz.isAgg141
 z70 := Tryz.sizeOf141
 v70 := Tryz.zeroValue141
 t72 := Tryz.underlying143
 a72 := Tryz.isAgg143
 z72 := Tryz.sizeOf143
 v72 := Tryz.zeroValue143
 t75 := Tryz.underlying112
 a75 := Tryz.isAgg112
 z75 := Tryz.sizeOf112
 v75 := Tryz.zeroValue112
 t76 := Tryz.underlying144
 a76 := Tryz.isAgg144
 z76 := Tryz.sizeOf144
 v76 := Tryz.zeroValue144
 t109 := Tryz.underlying138
 a109 := Tryz.isAgg138
 z109 := Tryz.sizeOf138
 v109 := Tryz.zeroValue138
 t127 := Tryz.underlying171
 a127 := Tryz.isAgg171
 z127 := Tryz.sizeOf171
 v127 := Tryz.zeroValue171
 t146 := Tryz.underlying167
 a146 := Tryz.isAgg167
 z146 := Tryz.sizeOf167
 v146 := Tryz.zeroValue167
 t148 := Tryz.underlying169
 a148 := Tryz.isAgg169
 z148 := Tryz.sizeOf169
 v148 := Tryz.zeroValue169
 t164 := Tryz.underlying195
 a164 := Tryz.isAgg195
 z164 := Tryz.sizeOf195
 v164 := Tryz.zeroValue195 }
theorem Tryz.Builder_Extra_105 : Builder.Extra Tryz.prog Tryz.lays105_ren := {
 sizeBuilder := by kernel_rfl
 liesBuilder := by kernel_rfl
 t5 := Tryz.underlying5
 a5 := Tryz.isAgg5
 z5 := Tryz.sizeOf5
 v5 := Tryz.zeroValue5
 infoByte := by kernel_rfl
 cellsByte := by kernel_rfl
 sizeByte := by kernel_rfl
 neB5 := by decide }
open Go.RowKit Go.Lib in
theorem Tryz.strings_Repeat (s : ByteArray) (c : Nat) (w : World) (hc : c ≤ 9223372036854775807) (hlen : s.size * c ≤ 140737488355328) :
  Calls Tryz.prog 58 #[.string s,.int .i64 c] w fun e w' => e = .returned (.string ⟨(Lib.repeatL s.data.toList c).toArray⟩) ∧ Below w.heap.size w w' := Any.strings_Repeat Tryz.lays105 Tryz.Builder_Extra_105 s c w hc hlen
end Go.Proofs
/- The table that the law's row lists, the evaluator's first heap, the program's functions as the evaluator holds them. -/
namespace Go.Proofs.YtpfoofcallfjjaaGreatDoor.wal
open Go.ChangeShapes Go.WideShapes Go.ChangeAt Go.RowKit Go.AM Go.AM.Wc
set_option maxRecDepth 100000
theorem own : ownKnob Tryz.prog.godebug = none := by kernel_rfl
theorem mixed : Tryz.prog.follows .mixedOrders = true := by kernel_rfl
theorem laidOut : laidOutB Tryz.prog = true := by kernel_rfl
def powTab : List Int := [1,10,100,1000,10000,100000,1000000,10000000,100000000,1000000000,10000000000,100000000000,1000000000000,10000000000000,100000000000000,1000000000000000,10000000000000000,100000000000000000,1000000000000000000,10000000000000000000]
theorem pow_eq : powTab = Lib.pow10Tab := by decide
def h0 : H := H.lay 6 [(0,.cells (ints .u64 powTab) 193 false true none)]
theorem h0_get (i : Nat) (o : AM.Obj) (h : h0.get i = some o) : i = 0 ∧ o = .cells (ints .u64 powTab) 193 false true none := by
 have hlt' : i < 6 := H.get_lt h
 match i,hlt' with
 | 0,_ => exact ⟨rfl,Option.some.inj (h.symm.trans (show h0.get 0 = some (.cells (ints .u64 powTab) 193 false true none) from rfl))⟩
 | 1,_ => exact absurd (h.symm.trans (show h0.get 1 = none from rfl)) (by simp)
 | 2,_ => exact absurd (h.symm.trans (show h0.get 2 = none from rfl)) (by simp)
 | 3,_ => exact absurd (h.symm.trans (show h0.get 3 = none from rfl)) (by simp)
 | 4,_ => exact absurd (h.symm.trans (show h0.get 4 = none from rfl)) (by simp)
 | 5,_ => exact absurd (h.symm.trans (show h0.get 5 = none from rfl)) (by simp)
abbrev T1 (h : H) : Prop := Tb 0 193 h
theorem h0_t : T1 h0 := by
 show h0.get 0 = _
 rw [← pow_eq]; rfl
theorem globals : Tryz.prog.globals.size = 6 := by kernel_rfl
theorem g_pow : Tryz.prog.globalNamed "internal/strconv.uint64pow10" = some 0 := by kernel_rfl
theorem row_pow : (((begin Tryz.prog (fun _ _ => 0) default).world.heap[0]?).bind Obj.row?).map (·.2) = some 193 := by kernel_rfl
theorem block_of_tab {W : World} {name : String} {k : IntKind} {zs : List Int} {g : Nat} {ty : TypeId} {zero : Array Value} (ht : Lib.TabIs Tryz.prog W name k zs) (hg : Tryz.prog.globalNamed name = some g) (hs : W.ShapedOpen Tryz.prog) (hlt : g < Tryz.prog.globals.size)
  (hrow : ((begin Tryz.prog (fun _ _ => 0) default).world.heap[g]?).bind Obj.row? = some (zero,ty)) : W.heap[g]? = some (.cells (zs.map fun z => Value.int k z).toArray ty) := by
 obtain ⟨cs,h1,_⟩ := hs.1 g zero ty hlt hrow
 unfold Lib.TabIs World.var? at ht
 rw [hg] at ht
 simp only [Option.bind_some,h1,Option.some.injEq] at ht
 rw [h1,ht]
theorem startHR_of {W : World} (ht : Lib.TabIs Tryz.prog W "internal/strconv.uint64pow10" .u64 powTab) (hs : W.ShapedOpen Tryz.prog) (hsz : 6 ≤ W.heap.size) : HR Tryz.prog (map0 Tryz.prog) h0 W := by
 obtain ⟨⟨z0,t0⟩,r0,e0⟩ := Option.map_eq_some_iff.1 row_pow
 simp only at e0
 subst e0
 have b0 := block_of_tab ht g_pow hs (by rw [globals]; decide) r0
 refine HR.init trivial globals.symm (by rw [globals]; exact hsz) fun i o hg => .inr ?_
 obtain ⟨rfl,rfl⟩ := h0_get i o hg
 exact ⟨_,_,_,rfl,b0⟩
theorem h0_ro (i : Nat) (o : AM.Obj) (h : h0.get i = some o) : o.mut = false := by
 obtain ⟨_,rfl⟩ := h0_get i o h; rfl
theorem repeat_zero (c : Nat) : Lib.repeatL [48] c = List.replicate c 48 := by
 induction c with
 | zero => rfl
 | succ n ih => simp [Lib.repeatL,List.replicate_succ] at ih ⊢; exact ih
theorem repeat58 (c : Nat) (w : World) (hc : c ≤ 12) : Calls Tryz.prog 58 #[.string ⟨#[48]⟩,.int .i64 c] w fun e w' => e = .returned (.string ⟨(List.replicate c (48 : UInt8)).toArray⟩) ∧ Below w.heap.size w w' := by
 have := Tryz.strings_Repeat ⟨#[48]⟩ c w (by omega) (by show 1 * c ≤ _; omega)
 rw [show Lib.repeatL (ByteArray.mk #[48]).data.toList c = List.replicate c 48 from repeat_zero c] at this
 exact this
def prim1 : Nat → Option (List V → H → Option (V × H))
 | 57 => some (fmt10C 0 193)
 | 58 => some repP
 | _ => none
theorem prim1OK : PrimOK Tryz.prog prim1 := by
 intro g f hf
 unfold prim1 at hf
 split at hf
 ·cases hf
  exact ⟨⟨_,Tryz.func57,by kernel_rfl,by decide⟩,fun args h v h' m w xs he hr hx n => fmt10_ok g_pow (by rw [globals]; decide) (fun n h1 h2 w ht => Tryz.strconv_FormatInt_10 n h1 h2 w ht) (fmt10C_P he) hr hx n⟩
 ·cases hf
  exact ⟨⟨_,Tryz.func58,by kernel_rfl,by decide⟩,fun args h v h' m w xs he hr hx n => rep_ok (fun c w hc => repeat58 c w hc) he hr hx n⟩
 ·cases hf
noncomputable def E1 : Env := envOf Tryz.prog prim1
def isTrue : Option (V × H) → Bool
 | some (.bool b,_) => b
 | _ => false
theorem isTrue_spec {r : Option (V × H)} (h : isTrue r = true) : ∃ h',r = some (.bool true,h') := by
 unfold isTrue at h
 split at h
 ·subst h; exact ⟨_,rfl⟩
 ·cases h
end Go.Proofs.YtpfoofcallfjjaaGreatDoor.wal
namespace Go.Proofs.YtpfoofcallfjjaaGreatDoor.wal
open Go.AM
set_option maxRecDepth 100000
theorem live_runs : isTrue (ap Tryz.prog E1 100 (.func 6 [] []) [] h0) = true := by kernel_rfl
open Go.AM Go.AM.Wc
set_option maxRecDepth 100000
def isNil : Option (V × H) → Bool
 | some (.slice none 0 0 false,h) => match h.get 6 with
  | some (.map [] 0) => true
  | _ => false
 | _ => false
theorem num_runs : isNil (ap Tryz.prog E1 200 (.func 27 [] []) [.ptr (some (7,0)),.str [108,111,103]] (hPr 6 63 1048576)) = true := by kernel_rfl
end Go.Proofs.YtpfoofcallfjjaaGreatDoor.wal
namespace Go.Proofs.YtpfoofcallfjjaaGreatDoor.wal
open Go.AM Go.AM.Wc
set_option maxRecDepth 100000
def numG : List V → H → Option (V × H) := fun args h => match args with
 | [.ptr (some (bd,0)),.str [108,111,103]] => match h.get bd with
  | some (.cells [.map (some bm),.int .i64 0,.int .i64 0,.int .i64 1048576,.bool false] 63 false false none) => match h.get bm with
   | some (.map [] 0) => some (.slice none 0 0 false,h)
   | _ => none
  | _ => none
 | _ => none
theorem isNil_spec {r : Option (V × H)} (h : isNil r = true) : ∃ h',r = some (.slice none 0 0 false,h') ∧ h'.get 6 = some (.map [] 0) := by
 unfold isNil at h
 split at h
 ·split at h
  ·rename_i hg; exact ⟨_,rfl,hg⟩
  ·cases h
 ·cases h
theorem num_ok {args : List V} {h h' : H} {v : V} {m : Mp} {w : World} {xs : List Value} (he : numG args h = some (v,h')) (hr : HR Tryz.prog m h w) (hx : VRL m args xs) (n : Nat) :
  CallsIn (FF none) n Tryz.prog 27 xs.toArray w (Post Tryz.prog m h w v h') := by
 unfold numG at he
 split at he
 ·rename_i bd
  split at he
  ·rename_i bm gd
   split at he
   ·rename_i gm
    cases he
    obtain ⟨h1,hrun,hsame⟩ := isNil_spec num_runs
    obtain ⟨y,ys,⟨r,sh,e,hm,rfl⟩,h3,rfl⟩ := hx
    have hx0 : VRL (mapB 6 (m bm) (m bd)) [.ptr (some (7,0)),.str [108,111,103]] (.pointer (some ⟨r,sh + 0,none⟩) :: ys) := by
     refine ⟨_,ys,⟨r,sh,e,?_,rfl⟩,?_,rfl⟩
     ·show mapB 6 (m bm) (m bd) 7 = _
      unfold mapB
      rw [if_neg (by decide),if_neg (by decide),if_pos rfl]; exact hm
     ·obtain ⟨y2,ys2,q1,q2,q3⟩ := h3
      exact ⟨y2,ys2,q1,q2,q3⟩
    refine CallsIn.mono (pair_run mixed prim1OK (n := 200) (g := 27) globals hrun hsame hr gm gd hx0 n) fun e w' ⟨m',x,q1,q2,q3⟩ => ?_
    obtain ⟨a,b⟩ := hr.below q3
    exact ⟨m,x,q1,q2,a,b⟩
   ·cases he
  ·cases he
 ·cases he
noncomputable def prim : Nat → Option (List V → H → Option (V × H))
 | 6 => some (yesP fun h => tabB h 0 193)
 | 57 => some (fmt10C 0 193)
 | 58 => some repP
 | 105 => some usedG
 | 27 => some numG
 | _ => none
theorem primOK : PrimOK Tryz.prog prim := by
 intro g f hf
 unfold prim at hf
 split at hf
 ·cases hf
  obtain ⟨h1,hrun⟩ := isTrue_spec live_runs
  refine ⟨⟨_,Tryz.func6,by kernel_rfl,by decide⟩,fun args h v h' m w xs he hr hx n => ?_⟩
  refine yes_ok mixed prim1OK hrun trivial globals.symm h0_ro (fun h hc i o hg => ?_) he hr hx n
  obtain ⟨rfl,rfl⟩ := h0_get i o hg
  refine ⟨?_,Flat.ints _ _ _⟩
  rw [pow_eq]
  exact tabB_ok hc
 ·exact prim1OK 57 f (by rw [← hf]; rfl)
 ·exact prim1OK 58 f (by rw [← hf]; rfl)
 ·cases hf
  exact ⟨⟨_,Tryz.func105,by kernel_rfl,by decide⟩,fun args h v h' m w xs he hr hx n => used_ok mixed Tryz.func105 (by kernel_rfl) he hr hx n⟩
 ·cases hf
  exact ⟨⟨_,Tryz.func27,by kernel_rfl,by decide⟩,fun args h v h' m w xs he hr hx n => num_ok he hr hx n⟩
 ·cases hf
noncomputable def E0 : Env := envOf Tryz.prog prim
theorem live_ok {h : H} (ht : T1 h) : Sp Tryz.prog E0 (.func 6 [] []) [] h fun v h' => v = .bool true ∧ h' = h := by
 refine ⟨.bool true,h,?_,rfl,rfl⟩
 rw [AP_prim (show E0.prim 6 = some (yesP fun h => tabB h 0 193) from rfl)]
 exact if_pos (tabB_of ht)
theorem used_e : E0.prim 105 = some usedG := rfl
theorem fns : Fw Tryz.prog E0 T1 where
 tlow lo h h' hlo t hk := by
  show h'.get 0 = _
  rw [hk.get 0 (by omega)]; exact t
 tsize h t := by have := H.get_lt t; omega
 num57 n h h1 h2 ht := by
  refine ⟨.str (Lib.itoa n),h,?_,rfl,rfl⟩
  rw [AP_prim (show E0.prim 57 = some (fmt10C 0 193) from rfl)]
  refine if_pos ?_
  simp only [tabB_of ht,Bool.true_and,Bool.and_eq_true,decide_eq_true_eq]
  exact ⟨h1,h2⟩
 rep58 k h hk := by
  refine ⟨.str (List.replicate k 48),h,?_,rfl,Keeps.refl _ _⟩
  rw [AP_prim (show E0.prim 58 = some repP from rfl)]
  exact if_pos (by simp; omega)
 f7 := by kernel_rfl
 p7 := rfl
 f8 := by kernel_rfl
 p8 := rfl
 f9 := by kernel_rfl
 p9 := rfl
 f10 := by kernel_rfl
 p10 := rfl
 f11 := by kernel_rfl
 p11 := rfl
 f12 := by kernel_rfl
 p12 := rfl
 f13 := by kernel_rfl
 p13 := rfl
 f14 := by kernel_rfl
 p14 := rfl
 f23 := by kernel_rfl
 p23 := rfl
 f24 := by kernel_rfl
 p24 := rfl
 f25 := by kernel_rfl
 p25 := rfl
 f30 := by kernel_rfl
 p30 := rfl
 f33 := by kernel_rfl
 p33 := rfl
 f34 := by kernel_rfl
 p34 := rfl
 f35 := by kernel_rfl
 p35 := rfl
 f36 := by kernel_rfl
 p36 := rfl
 f37 := by kernel_rfl
 p37 := rfl
 f38 := by kernel_rfl
 p38 := rfl
 f39 := by kernel_rfl
 p39 := rfl
 f40 := by kernel_rfl
 p40 := rfl
 f41 := by kernel_rfl
 p41 := rfl
 f42 := by kernel_rfl
 p42 := rfl
 f55 := by kernel_rfl
 p55 := rfl
 f63 := by kernel_rfl
 p63 := rfl
 f65 := by kernel_rfl
 p65 := rfl
 f67 := by kernel_rfl
 p67 := rfl
 f68 := by kernel_rfl
 p68 := rfl
 f69 := by kernel_rfl
 p69 := rfl
 f100 := by kernel_rfl
 p100 := rfl
 f103 := by kernel_rfl
 p103 := rfl
 f104 := by kernel_rfl
 p104 := rfl
 f106 := by kernel_rfl
 p106 := rfl
 f107 := by kernel_rfl
 p107 := rfl
 f108 := by kernel_rfl
 p108 := rfl
 f141 := by kernel_rfl
 p141 := rfl
theorem f26 : E0.fns 26 = some Go.AM.Wc.fn26 := by kernel_rfl
end Go.Proofs.YtpfoofcallfjjaaGreatDoor.wal
/- What the arguments' readings hold, in the evaluator's heap: scripts. -/
namespace Go.Proofs.YtpfoofcallfjjaaGreatDoor.wal
open Go.ChangeShapes Go.WideShapes Go.ChangeAt Go.RowKit Go.AM Go.AM.Wc
set_option maxRecDepth 100000
noncomputable abbrev PP : Program := Tryz.prog
variable {H' : Type} {h : H} {f : Nat} {t : TypeId} {d : DataW H'} {vs : List V}
theorem bulk_part {d : DataW H'} {l : List (DataW H')} (h : d ∈ l) : Rows.uptoBulk d ≤ Rows.uptoBulkAll l := by
 induction l with
 | nil => cases h
 | cons x r ih =>
  simp only [Rows.uptoBulkAll]
  cases List.mem_cons.1 h with
  | inl e => subst e; omega
  | inr e => have := ih e; omega
theorem bulk_one (d : DataW H') : 1 ≤ Rows.uptoBulk d := by
 cases d with
 | lit l => cases l <;> simp [Rows.uptoBulk]
 | nil => simp [Rows.uptoBulk]
 | ptr d => simp [Rows.uptoBulk]
 | slice elems spare => simp [Rows.uptoBulk]
 | agg parts => simp [Rows.uptoBulk]
 | iface t d => simp [Rows.uptoBulk]
 | map entries => simp [Rows.uptoBulk]
 | held h => simp [Rows.uptoBulk]
theorem bulk_len (l : List (DataW H')) : l.length ≤ Rows.uptoBulkAll l := by
 induction l with
 | nil => simp [Rows.uptoBulkAll]
 | cons x r ih => have := bulk_one x; simp only [Rows.uptoBulkAll,List.length_cons]; omega
theorem bulk_agg {d : DataW H'} {l : List (DataW H')} (h : d ∈ l) (hb : Rows.uptoBulk (.agg l) ≤ 1048576) : Rows.uptoBulk d ≤ 1048576 := by
 have := bulk_part h
 simp only [Rows.uptoBulk] at hb
 omega
theorem bulk_slice {d : DataW H'} {l s : List (DataW H')} (h : d ∈ l) (hb : Rows.uptoBulk (.slice l s) ≤ 1048576) : Rows.uptoBulk d ≤ 1048576 := by
 have := bulk_part h
 simp only [Rows.uptoBulk] at hb
 omega
theorem bulk_slen {l s : List (DataW H')} (hb : Rows.uptoBulk (.slice l s) ≤ 1048576) : l.length ≤ 1048576 := by
 have := bulk_len l
 simp only [Rows.uptoBulk] at hb
 omega
theorem rep_int {k : IntKind} (hu : PP.underlying t = some (.int k)) (r : Rep PP h f t d vs) : ∃ n,vs = [.int k n] := by
 cases f with
 | zero => exact r.elim
 | succ f =>
  unfold Rep at r
  rw [hu] at r
  obtain ⟨n,_,h2,h3⟩ := r
  exact ⟨n,h2⟩
theorem rep_struct {fs : Array Field} (hu : PP.underlying t = some (.struct fs)) (r : Rep PP h f t d vs) :
  ∃ g ds,d = .agg ds ∧ vs.length = PP.cellsOf t ∧ ds.length = fs.size ∧ ∀ (i : Nat) fd y,fs[i]? = some fd → ds[i]? = some y → Rep PP h g fd.type y (getR vs fd.offset (PP.cellsOf fd.type)) := by
 cases f with
 | zero => exact r.elim
 | succ f =>
  unfold Rep at r
  rw [hu] at r
  exact ⟨f,r⟩
theorem getR_add (vs : List V) (o n m : Nat) : getR vs o (n + m) = getR vs o n ++ getR vs (o + n) m := by
 unfold getR
 rw [List.take_add,List.drop_drop]
theorem flat_of {vs : List V} {sz : Nat} : ∀ (xs : List (List V)) (o : Nat),(∀ (k : Nat) x,xs[k]? = some x → getR vs (o + k * sz) sz = x) → getR vs o (xs.length * sz) = xs.flatten
 | [],o,_ => by simp [getR]
 | x :: xs,o,h => by
  have h0 := h 0 x rfl
  have ih := flat_of xs (o + sz) fun k y hk => by
   have := h (k + 1) y (by simpa using hk)
   rw [show o + (k + 1) * sz = o + sz + k * sz by rw [Nat.add_mul]; omega] at this
   exact this
  rw [Nat.zero_mul,Nat.add_zero] at h0
  rw [List.length_cons,show (xs.length + 1) * sz = sz + xs.length * sz by rw [Nat.add_mul]; omega,getR_add,h0,ih,List.flatten_cons]
theorem sl_elems {sz : Nat} {v : V} {xs : List (List V)} (hs : Sl h sz v xs) : elemsV h sz xs.length v = some xs.flatten := by
 cases hs with
 | nil a cap opn => cases a <;> simp [elemsV]
 | «at» b o cap opn _ cs ty op ro fz hg hl he =>
  have hf := flat_of xs o he
  simp only [elemsV,hg]
  by_cases h0 : xs.length * sz = 0
  ·rw [if_pos h0]
   rw [h0] at hf
   rw [← hf]; simp [getR]
  ·rw [if_neg h0,if_pos hl,hf]
theorem map_ex {α β : Type} {p : α → β → Prop} : ∀ {xs : List α},(∀ x ∈ xs, ∃ y,p x y) → ∃ ys : List β,ys.length = xs.length ∧ ∀ (i : Nat) x y,xs[i]? = some x → ys[i]? = some y → p x y
 | [],_ => ⟨[],rfl,by simp⟩
 | x :: xs,h => by
  obtain ⟨y,hy⟩ := h x List.mem_cons_self
  obtain ⟨ys,h1,h2⟩ := map_ex (xs := xs) fun z hz => h z (List.mem_cons_of_mem _ hz)
  refine ⟨y :: ys,by simp [h1],fun i a b ha hb => ?_⟩
  cases i with
  | zero => simp at ha hb; subst ha hb; exact hy
  | succ i => exact h2 i a b (by simpa using ha) (by simpa using hb)
theorem of_parts {α : Type} {g : α → List V} {xs : List (List V)} {ys : List α} (h1 : ys.length = xs.length) (h2 : ∀ (i : Nat) x y,xs[i]? = some x → ys[i]? = some y → x = g y) : xs = ys.map g := by
 apply List.ext_getElem?
 intro i
 rw [List.getElem?_map]
 by_cases hi : i < xs.length
 ·rw [List.getElem?_eq_getElem hi,List.getElem?_eq_getElem (by omega),Option.map_some]
  exact congrArg some (h2 i _ _ (List.getElem?_eq_getElem hi) (List.getElem?_eq_getElem (by omega)))
 ·rw [List.getElem?_eq_none (by omega),List.getElem?_eq_none (by omega)]; rfl
theorem rep_list {e : TypeId} {α : Type} {g : α → List V} {p : α → Prop} (hu : PP.underlying t = some (.slice e)) (hb : Rows.uptoBulk d ≤ 1048576)
  (hp : ∀ (f : Nat) (y : DataW H') (x : List V),Rows.uptoBulk y ≤ 1048576 → Rep PP h f e y x → ∃ a : α,x = g a ∧ p a) (r : Rep PP h f t d vs) :
  ∃ (v : V) (ys : List α),vs = [v] ∧ (∃ q c o,v = .slice q ys.length c o) ∧ elemsV h (PP.cellsOf e) ys.length v = some (ys.map g).flatten ∧ (∀ y ∈ ys,p y) ∧ ys.length ≤ 1048576 := by
 cases f with
 | zero => exact r.elim
 | succ f =>
  unfold Rep at r
  rw [hu] at r
  rcases r with ⟨_,h2⟩ | ⟨es,sp,a,cap,xs,rfl,h2,hs,h4,h5⟩
  ·exact ⟨_,[],h2,⟨_,_,_,rfl⟩,by simp [elemsV],by simp,by simp⟩
  ·have hex : ∀ x ∈ xs, ∃ y : α,x = g y ∧ p y := fun x hx => by
    obtain ⟨k,hk,rfl⟩ := List.mem_iff_getElem.1 hx
    have hke : k < es.length := by omega
    exact hp f es[k] xs[k] (bulk_slice (List.getElem_mem hke) hb) (h5 k _ _ (List.getElem?_eq_getElem hk) (List.getElem?_eq_getElem hke))
   obtain ⟨ys,y1,y2⟩ := map_ex hex
   have hxy := of_parts y1 fun i x y hx hy => (y2 i x y hx hy).1
   have he := sl_elems hs
   refine ⟨_,ys,h2,⟨some a,cap,false,by rw [y1]⟩,?_,fun y hy => ?_,?_⟩
   ·rw [y1,← hxy]; exact he
   ·obtain ⟨k,hk,rfl⟩ := List.mem_iff_getElem.1 hy
    exact (y2 k xs[k] ys[k] (List.getElem?_eq_getElem (by omega)) (List.getElem?_eq_getElem hk)).2
   ·have := bulk_slen hb
    omega
theorem c5 : PP.cellsOf 5 = 1 := by kernel_rfl
theorem c45 : PP.cellsOf 45 = 1 := by kernel_rfl
theorem c33 : PP.cellsOf 33 = 5 := by kernel_rfl
theorem flatten_map1 {α : Type} (g : α → V) (ys : List α) : (ys.map fun y => [g y]).flatten = ys.map g := by induction ys <;> simp_all
theorem c2 : PP.cellsOf 2 = 1 := by kernel_rfl
theorem c3' : PP.cellsOf 3 = 1 := by kernel_rfl
theorem c31 : PP.cellsOf 31 = 1 := by kernel_rfl
theorem getR_all {vs : List V} {n : Nat} (h : vs.length = n) : vs = getR vs 0 n := by unfold getR; subst h; simp
end Go.Proofs.YtpfoofcallfjjaaGreatDoor.wal
/- What the arguments' readings hold, in the evaluator's heap: records, byte for byte. -/
namespace Go.Proofs.YtpfoofcallfjjaaGreatDoor.wal
open Go.ChangeShapes Go.WideShapes Go.ChangeAt Go.RowKit Go.AM Go.AM.Wc
set_option maxRecDepth 100000
variable {H' : Type} {h : H} {f : Nat} {t : TypeId} {d : DataW H'} {vs : List V}
theorem rep_bytesX (hb : Rows.uptoBulk d ≤ 1048576) (r : Rep PP h f 45 d vs) : ∃ p : V × List V,vs = [p.1] ∧ Rx h p.1 p.2 ∧ p.2.length ≤ 1048576 := by
 obtain ⟨v,ys,hv,⟨q,c,o,hs⟩,he,_,hl⟩ := rep_list (α := Int) (g := fun n => [.int .u8 n]) (p := fun _ => True) Tryz.underlying45 hb (fun f y x _ r => by
  obtain ⟨n,e⟩ := rep_int Tryz.underlying5 r; exact ⟨n,e,trivial⟩) r
 rw [c5,flatten_map1] at he
 have hml : (ys.map fun n => V.int .u8 n).length = ys.length := List.length_map ..
 refine ⟨(v,ys.map fun n => .int .u8 n),hv,⟨q,c,o,by rw [hml]; exact hs,by rw [hml]; exact he,fun x hx => ?_⟩,by rw [hml]; exact hl⟩
 obtain ⟨n,_,rfl⟩ := List.mem_map.1 hx
 exact ⟨n,rfl⟩
theorem rep_recsX (hb : Rows.uptoBulk d ≤ 1048576) (r : Rep PP h f 31 d vs) : ∃ (v : V) (xs : List (V × List V)),vs = [v] ∧ Rlx h v xs ∧ xs.length ≤ 1048576 ∧ ∀ p ∈ xs,p.2.length ≤ 1048576 := by
 obtain ⟨v,ys,hv,⟨q,c,o,hs⟩,he,hp,hl⟩ := rep_list (α := V × List V) (g := fun p => [p.1]) (p := fun p => Rx h p.1 p.2 ∧ p.2.length ≤ 1048576) Tryz.underlying31 hb (fun f y x hb r => rep_bytesX hb r) r
 rw [c45,flatten_map1] at he
 exact ⟨v,ys,hv,⟨q,c,o,hs,he,fun p h => (hp p h).1⟩,hl,fun p h => (hp p h).2⟩
end Go.Proofs.YtpfoofcallfjjaaGreatDoor.wal
/- What a script's reading holds, byte for byte. -/
namespace Go.Proofs.YtpfoofcallfjjaaGreatDoor.wal
open Go.ChangeShapes Go.WideShapes Go.ChangeAt Go.RowKit Go.AM Go.AM.Wc
set_option maxRecDepth 100000
variable {H' : Type} {h : H} {f : Nat} {t : TypeId} {d : DataW H'} {vs : List V}
theorem rep_u8 (r : Rep PP h f 5 d vs) : ∃ n : Int,vs = [.int .u8 n] ∧ 0 ≤ n ∧ n ≤ 255 := by
 cases f with
 | zero => exact r.elim
 | succ f =>
  unfold Rep at r
  rw [Tryz.underlying5] at r
  obtain ⟨n,h1,h2,h3⟩ := r
  exact ⟨n,h2,by simp [Lit.wf,IntKind.min,IntKind.max,IntKind.signed,IntKind.bits] at h3; omega⟩
theorem rep_opX (hb : Rows.uptoBulk d ≤ 1048576) (r : Rep PP h f 33 d vs) : ∃ o : OpX,vs = o.c.cells ∧ Rlx h o.rv o.xs ∧ o.xs.length ≤ 1099511627776 ∧ [o.x3,o.x4].all V.one = true := by
 obtain ⟨g,ds,rfl,hl,hn,hf⟩ := rep_struct Tryz.underlying33 r
 have hn' : ds.length = 5 := hn
 match ds,hn' with
 | [d0,d1,d2,d3,d4],_ =>
  have r0 : Rep PP h g 3 d0 (getR vs 0 (PP.cellsOf 3)) := hf 0 _ d0 rfl rfl
  rw [c3'] at r0
  obtain ⟨x0,e0⟩ := rep_int Tryz.underlying3 r0
  have r1 : Rep PP h g 31 d1 (getR vs 1 (PP.cellsOf 31)) := hf 1 _ d1 rfl rfl
  rw [c31] at r1
  obtain ⟨v1,xs,e1,hrl,hxl,_⟩ := rep_recsX (bulk_agg (by simp) hb) r1
  have r2 : Rep PP h g 2 d2 (getR vs 2 (PP.cellsOf 2)) := hf 2 _ d2 rfl rfl
  rw [c2] at r2
  obtain ⟨x2,e2⟩ := rep_int Tryz.underlying2 r2
  have r3 : Rep PP h g 3 d3 (getR vs 3 (PP.cellsOf 3)) := hf 3 _ d3 rfl rfl
  rw [c3'] at r3
  obtain ⟨x3,e3⟩ := rep_int Tryz.underlying3 r3
  have r4 : Rep PP h g 3 d4 (getR vs 4 (PP.cellsOf 3)) := hf 4 _ d4 rfl rfl
  rw [c3'] at r4
  obtain ⟨x4,e4⟩ := rep_int Tryz.underlying3 r4
  refine ⟨⟨x0,v1,xs,x2,.int .i64 x3,.int .i64 x4⟩,?_,hrl,by simp only; omega,rfl⟩
  have q0 : getR vs 0 5 = getR vs 0 1 ++ getR vs 1 4 := getR_add vs 0 1 4
  have q1 : getR vs 1 4 = getR vs 1 1 ++ getR vs 2 3 := getR_add vs 1 1 3
  have q2 : getR vs 2 3 = getR vs 2 1 ++ getR vs 3 2 := getR_add vs 2 1 2
  have q3 : getR vs 3 2 = getR vs 3 1 ++ getR vs 4 1 := getR_add vs 3 1 1
  rw [getR_all (hl.trans c33),q0,q1,q2,q3,e0,e1,e2,e3,e4]
  rfl
theorem rep_opsX (hb : Rows.uptoBulk d ≤ 1048576) (r : Rep PP h f 22 d vs) : ∃ (v : V) (ops : List OpX),vs = [v] ∧ Go.AM.Wc.OsX h v ops ∧ ops.length ≤ 1048576 := by
 obtain ⟨v,ys,hv,⟨q,c,o,hs⟩,he,hp,hl⟩ := rep_list (α := OpX) (g := fun o => o.c.cells) (p := fun o => Rlx h o.rv o.xs ∧ o.xs.length ≤ 1099511627776 ∧ [o.x3,o.x4].all V.one = true) Tryz.underlying22 hb (fun f y x hb r => rep_opX hb r) r
 rw [c33,← List.flatMap_def] at he
 exact ⟨v,ys,hv,⟨q,c,o,hs,he,hp⟩,hl⟩
end Go.Proofs.YtpfoofcallfjjaaGreatDoor.wal
/-
 DERIVED: THE SHELF's CONTRACTS AT THIS DUMP,IN PLAIN WORDS (tools/lay-plain.mjs out of 'TryzIt.lean',which tools/lay-shelf.mjs wrote): THE SAME DECLARATIONS UNDER THE SAME NAMES: 'import', 'namespace', 'open', 'def', 'theorem' AND NOTHING ELSE: no command of the shelf's: FOR A HAND-IN. Each laying: the table of numbers ('.._ren') and one theorem,a field a fact of the dump's own or the kernel's comparison; each contract: ONE APPLICATION.
-/
namespace Go.Proofs
open Go.Shelf
def Tryz.keys153_ren : Go.Shelf.Ren := ⟨fun | 10 => 153 | n => n,fun | 33 => 64 | 23 => 59 | 0 => 0 | 4 => 4 | 26 => 9 | 3 => 103 | n => n,fun | n => n⟩
theorem Tryz.keys153 : Go.Proofs.SlLaysZ.n10 Tryz.prog Tryz.keys153_ren := {
 mixed := by kernel_rfl
 f10 := ⟨Tryz.f153.name,by decide,Tryz.func153.trans (congrArg some (by kernel_rfl))⟩
 t0 := Tryz.underlying0
 a0 := Tryz.isAgg0
 z0 := Tryz.sizeOf0
 v0 := Tryz.zeroValue0
 t4 := Tryz.underlying4
 a4 := Tryz.isAgg4
 z4 := Tryz.sizeOf4
 v4 := Tryz.zeroValue4
 t23 := Tryz.underlying59
 a23 := Tryz.isAgg59
 z23 := Tryz.sizeOf59
 v23 := Tryz.zeroValue59
 t26 := Tryz.underlying9
 a26 := Tryz.isAgg9
 z26 := Tryz.sizeOf9
 v26 := Tryz.zeroValue9
 t33 := Tryz.underlying64
 a33 := Tryz.isAgg64
 z33 := Tryz.sizeOf64
 v33 := Tryz.zeroValue64 }
def Tryz.sorted123_ren : Go.Shelf.Ren := ⟨fun | 6 => 123 | 8 => 151 | 9 => 152 | 11 => 169 | 13 => 99 | 12 => 170 | 23 => 139 | 24 => 140 | 14 => 173 | 15 => 174 | 16 => 175 | 17 => 176 | 18 => 177 | 19 => 178 | 20 => 179 | 21 => 180 | 22 => 181 | 25 => 182 | 26 => 160 | 27 => 161 | 28 => 183 | 29 => 184 | 30 => 185 | 31 => 186 | n => n,fun | 26 => 9 | 28 => 107 | 24 => 136 | 0 => 0 | 3 => 3 | 37 => 132 | 48 => 130 | 50 => 162 | 4 => 4 | 40 => 182 | 39 => 181 | 45 => 133 | 5 => 5 | 9 => 9 | 51 => 204 | 55 => 208 | 57 => 217 | 58 => 218 | 33 => 64 | n => n,fun | n => n⟩
theorem Tryz.sorted123 : Go.Proofs.SlLaysZ.n6 Tryz.prog Tryz.sorted123_ren := {
 mixed := by kernel_rfl
 f6 := ⟨Tryz.f123.name,by decide,Tryz.func123.trans (congrArg some (by kernel_rfl))⟩
 f8 := ⟨Tryz.f151.name,by decide,Tryz.func151.trans (congrArg some (by kernel_rfl))⟩
 f11 := ⟨Tryz.f169.name,by decide,Tryz.func169.trans (congrArg some (by kernel_rfl))⟩
 t0 := Tryz.underlying0
 a0 := Tryz.isAgg0
 z0 := Tryz.sizeOf0
 v0 := Tryz.zeroValue0
 t24 := Tryz.underlying136
 a24 := Tryz.isAgg136
 z24 := Tryz.sizeOf136
 v24 := Tryz.zeroValue136
 t26 := Tryz.underlying9
 a26 := Tryz.isAgg9
 z26 := Tryz.sizeOf9
 v26 := Tryz.zeroValue9
 t28 := Tryz.underlying107
 a28 := Tryz.isAgg107
 z28 := Tryz.sizeOf107
 v28 := Tryz.zeroValue107
 i26 := by kernel_rfl }
def Tryz.sort152_ren : Go.Shelf.Ren := ⟨fun | 6 => 152 | 8 => 99 | 9 => 170 | 19 => 139 | 20 => 140 | 21 => 173 | 22 => 174 | 23 => 175 | 24 => 176 | 25 => 177 | 26 => 178 | 27 => 179 | 28 => 180 | 29 => 181 | 36 => 182 | 31 => 160 | 32 => 161 | 37 => 183 | 38 => 184 | 39 => 185 | 41 => 186 | n => n,fun | 27 => 136 | 29 => 9 | 3 => 3 | 32 => 132 | 26 => 136 | 0 => 0 | 44 => 130 | 46 => 162 | 4 => 4 | 36 => 182 | 35 => 181 | 41 => 133 | 5 => 5 | 9 => 9 | 53 => 204 | 57 => 208 | 63 => 217 | 64 => 218 | n => n,fun | n => n⟩
theorem Tryz.sort152 : Go.Proofs.SlLaysM.n6 Tryz.prog Tryz.sort152_ren := {
 mixed := by kernel_rfl
 f6 := ⟨Tryz.f152.name,by decide,Tryz.func152.trans (congrArg some (by kernel_rfl))⟩
 f8 := Tryz.func99.trans (congrArg some (by kernel_rfl))
 f9 := ⟨Tryz.f170.name,by decide,Tryz.func170.trans (congrArg some (by kernel_rfl))⟩
 f19 := Tryz.func139.trans (congrArg some (by kernel_rfl))
 f20 := Tryz.func140.trans (congrArg some (by kernel_rfl))
 f21 := ⟨Tryz.f173.name,by decide,Tryz.func173.trans (congrArg some (by kernel_rfl))⟩
 f22 := ⟨Tryz.f174.name,by decide,Tryz.func174.trans (congrArg some (by kernel_rfl))⟩
 f23 := ⟨Tryz.f175.name,by decide,Tryz.func175.trans (congrArg some (by kernel_rfl))⟩
 f24 := ⟨Tryz.f176.name,by decide,Tryz.func176.trans (congrArg some (by kernel_rfl))⟩
 f25 := ⟨Tryz.f177.name,by decide,Tryz.func177.trans (congrArg some (by kernel_rfl))⟩
 f26 := ⟨Tryz.f178.name,by decide,Tryz.func178.trans (congrArg some (by kernel_rfl))⟩
 f27 := ⟨Tryz.f179.name,by decide,Tryz.func179.trans (congrArg some (by kernel_rfl))⟩
 f28 := ⟨Tryz.f180.name,by decide,Tryz.func180.trans (congrArg some (by kernel_rfl))⟩
 f29 := ⟨Tryz.f181.name,by decide,Tryz.func181.trans (congrArg some (by kernel_rfl))⟩
 f31 := Tryz.func160.trans (congrArg some (by kernel_rfl))
 f32 := Tryz.func161.trans (congrArg some (by kernel_rfl))
 f36 := ⟨Tryz.f182.name,by decide,Tryz.func182.trans (congrArg some (by kernel_rfl))⟩
 f37 := ⟨Tryz.f183.name,by decide,Tryz.func183.trans (congrArg some (by kernel_rfl))⟩
 f38 := ⟨Tryz.f184.name,by decide,Tryz.func184.trans (congrArg some (by kernel_rfl))⟩
 f39 := ⟨Tryz.f185.name,by decide,Tryz.func185.trans (congrArg some (by kernel_rfl))⟩
 f41 := ⟨Tryz.f186.name,by decide,Tryz.func186.trans (congrArg some (by kernel_rfl))⟩
 t0 := Tryz.underlying0
 a0 := Tryz.isAgg0
 z0 := Tryz.sizeOf0
 v0 := Tryz.zeroValue0
 t3 := Tryz.underlying3
 a3 := Tryz.isAgg3
 z3 := Tryz.sizeOf3
 v3 := Tryz.zeroValue3
 t4 := Tryz.underlying4
 a4 := Tryz.isAgg4
 z4 := Tryz.sizeOf4
 v4 := Tryz.zeroValue4
 t5 := Tryz.underlying5
 a5 := Tryz.isAgg5
 z5 := Tryz.sizeOf5
 v5 := Tryz.zeroValue5
 t9 := Tryz.underlying9
 a9 := Tryz.isAgg9
 z9 := Tryz.sizeOf9
 v9 := Tryz.zeroValue9
 t26 := Tryz.underlying136
 a26 := Tryz.isAgg136
 z26 := Tryz.sizeOf136
 v26 := Tryz.zeroValue136
 t27 := Tryz.underlying136
 a27 := Tryz.isAgg136
 z27 := Tryz.sizeOf136
 v27 := Tryz.zeroValue136
 t29 := Tryz.underlying9
 a29 := Tryz.isAgg9
 z29 := Tryz.sizeOf9
 v29 := Tryz.zeroValue9
 t32 := Tryz.underlying132
 a32 := Tryz.isAgg132
 z32 := Tryz.sizeOf132
 v32 := Tryz.zeroValue132
 t35 := Tryz.underlying181
 a35 := Tryz.isAgg181
 z35 := Tryz.sizeOf181
 v35 := Tryz.zeroValue181
 t36 := Tryz.underlying182
 a36 := Tryz.isAgg182
 z36 := Tryz.sizeOf182
 v36 := Tryz.zeroValue182
 t41 := Tryz.underlying133
 a41 := Tryz.isAgg133
 z41 := Tryz.sizeOf133
 v41 := Tryz.zeroValue133
 t44 := Tryz.underlying130
 a44 := Tryz.isAgg130
 z44 := Tryz.sizeOf130
 v44 := Tryz.zeroValue130
 t46 := Tryz.underlying162
 a46 := Tryz.isAgg162
 z46 := Tryz.sizeOf162
 v46 := Tryz.zeroValue162
 t53 := Tryz.underlying204
 a53 := Tryz.isAgg204
 z53 := Tryz.sizeOf204
 v53 := Tryz.zeroValue204
 t57 := Tryz.underlying208
 a57 := Tryz.isAgg208
 z57 := Tryz.sizeOf208
 v57 := Tryz.zeroValue208
 t63 := Tryz.underlying217
 a63 := Tryz.isAgg217
 z63 := Tryz.sizeOf217
 v63 := Tryz.zeroValue217
 t64 := Tryz.underlying218
 a64 := Tryz.isAgg218
 z64 := Tryz.sizeOf218
 v64 := Tryz.zeroValue218 }
open Go.RowKit Go.Maps Go.Sort
theorem Tryz.sorts123 (m : Nat) : AnyZ.SortsIn Tryz.prog Tryz.sorted123_ren Fence.wide m :=
 ⟨fun blk off cap ss W hH hblk hsz => callsIn_wide.2 (AnyM.slices_Sort_string Tryz.sort152 blk off cap ss W hH hblk hsz),
  fun p cap W => callsIn_wide.2 (AnyM.slices_Sort_string_none Tryz.sort152 p cap W)⟩
set_option maxHeartbeats 1000000 in
theorem Tryz.sorted_keys {H : Type} (R : Value → Option (DataW H × List MemPlace)) (w : World) (Bm b nn : Nat) (D0 : DataW H) (hBm : Bm < w.heap.size) (hm : w.cell? ⟨Bm,0,none⟩ = some (.map (some b))) (hown : w.ownsMap Tryz.prog 9 R b nn D0) (hmax : Maps.size D0 ≤ maxLen) (hbytes : Maps.size D0 * 16 ≤ 140737488355328) :
  Calls Tryz.prog 123 #[.func (.func 153) #[] #[.pointer (some ⟨Bm,0,none⟩)]] w fun e w' => ∃ (v : Value) (ss : List (List UInt8)),e = .returned v ∧ ss.Perm (strKeys D0) ∧
   w'.ownsRow w.heap.size 9 1 v ss.length ((ss.mergeSort (fun x y => decide (x ≤ y))).map encStr) ∧ (v = .slice none 0 0 ↔ ss = []) ∧ Below w.heap.size w w' := by
 have hseq : SeqGives Fence.wide 2 Tryz.prog 153 #[.pointer (some ⟨Bm,0,none⟩)] encStr (fun ss => ss.Perm (strKeys D0)) (Maps.size D0) w :=
  AnyZ.keys_gives (ρ := Tryz.keys153_ren) Tryz.keys153 Fence.wide _ trivial rfl (by omega) Bm b nn D0 _ hBm hm hown
 exact callsIn_wide.1 (AnyZ.sorted_in Tryz.sorted123 Fence.wide 5 trivial trivial trivial trivial rfl (by omega) (Tryz.sorts123 _) (enters_of Tryz.func152 (by kernel_rfl) rfl) 153 #[.pointer (some ⟨Bm,0,none⟩)] trivial (enters_of Tryz.func153 (by kernel_rfl) rfl) _ _ hmax hbytes _ hseq)
end Go.Proofs
/-
 DERIVED: THE SHELF's CONTRACTS AT THIS DUMP,IN PLAIN WORDS (tools/lay-plain.mjs out of 'TryzNum.lean',which tools/lay-shelf.mjs wrote): THE SAME DECLARATIONS UNDER THE SAME NAMES: 'import', 'namespace', 'open', 'def', 'theorem' AND NOTHING ELSE: no command of the shelf's: FOR A HAND-IN. Each laying: the table of numbers ('.._ren') and one theorem,a field a fact of the dump's own or the kernel's comparison; each contract: ONE APPLICATION.
-/
namespace Go.Proofs
open Go.Shelf
def Tryz.laysC174_ren : Go.Shelf.Ren := ⟨fun | 174 => 61 | 247 => 96 | 245 => 97 | 287 => 125 | 279 => 126 | 280 => 127 | 281 => 128 | 282 => 129 | 321 => 154 | 322 => 155 | 316 => 156 | 171 => 158 | 205 => 157 | 243 => 171 | 246 => 86 | 283 => 114 | 284 => 115 | 285 => 116 | 286 => 117 | 129 => 140 | 317 => 145 | 318 => 146 | 319 => 147 | 320 => 148 | 337 => 167 | 338 => 168 | n => n,fun | 9 => 9 | 3 => 3 | 2 => 2 | 75 => 112 | 85 => 113 | 4 => 4 | 167 => 174 | 5 => 5 | 53 => 162 | 175 => 175 | 46 => 132 | 168 => 177 | 37 => 45 | 0 => 0 | 210 => 202 | 21 => 21 | 127 => 171 | 145 => 216 | 143 => 214 | 171 => 161 | 173 => 165 | 212 => 193 | 51 => 130 | 20 => 20 | 213 => 194 | 232 => 220 | 233 => 221 | 80 => 146 | n => n,fun | 15 => 1 | 16 => 2 | 17 => 0 | 18 => 4 | 19 => 5 | n => n⟩
theorem Tryz.laysC174 : Go.Proofs.LaysC.n174 Tryz.prog Tryz.laysC174_ren := {
 mixed := by kernel_rfl
 f129 := Tryz.func140.trans (congrArg some (by kernel_rfl))
 f171 := Tryz.func158.trans (congrArg some (by kernel_rfl))
 f174 := Tryz.func61.trans (congrArg some (by kernel_rfl))
 f205 := Tryz.func157.trans (congrArg some (by kernel_rfl))
 f243 := Tryz.func171.trans (congrArg some (by kernel_rfl))
 f245 := Tryz.func97.trans (congrArg some (by kernel_rfl))
 f246 := Tryz.func86.trans (congrArg some (by kernel_rfl))
 f247 := Tryz.func96.trans (congrArg some (by kernel_rfl))
 f279 := Tryz.func126.trans (congrArg some (by kernel_rfl))
 f280 := Tryz.func127.trans (congrArg some (by kernel_rfl))
 f281 := Tryz.func128.trans (congrArg some (by kernel_rfl))
 f282 := Tryz.func129.trans (congrArg some (by kernel_rfl))
 f283 := Tryz.func114.trans (congrArg some (by kernel_rfl))
 f284 := Tryz.func115.trans (congrArg some (by kernel_rfl))
 f285 := Tryz.func116.trans (congrArg some (by kernel_rfl))
 f286 := Tryz.func117.trans (congrArg some (by kernel_rfl))
 f287 := Tryz.func125.trans (congrArg some (by kernel_rfl))
 f316 := Tryz.func156.trans (congrArg some (by kernel_rfl))
 f317 := Tryz.func145.trans (congrArg some (by kernel_rfl))
 f318 := Tryz.func146.trans (congrArg some (by kernel_rfl))
 f319 := Tryz.func147.trans (congrArg some (by kernel_rfl))
 f320 := Tryz.func148.trans (congrArg some (by kernel_rfl))
 f321 := Tryz.func154.trans (congrArg some (by kernel_rfl))
 f322 := Tryz.func155.trans (congrArg some (by kernel_rfl))
 f337 := Tryz.func167.trans (congrArg some (by kernel_rfl))
 f338 := Tryz.func168.trans (congrArg some (by kernel_rfl))
 t0 := Tryz.underlying0
 a0 := Tryz.isAgg0
 z0 := Tryz.sizeOf0
 v0 := Tryz.zeroValue0
 t2 := Tryz.underlying2
 a2 := Tryz.isAgg2
 z2 := Tryz.sizeOf2
 v2 := Tryz.zeroValue2
 t3 := Tryz.underlying3
 a3 := Tryz.isAgg3
 z3 := Tryz.sizeOf3
 v3 := Tryz.zeroValue3
 t4 := Tryz.underlying4
 a4 := Tryz.isAgg4
 z4 := Tryz.sizeOf4
 v4 := Tryz.zeroValue4
 t5 := Tryz.underlying5
 a5 := Tryz.isAgg5
 z5 := Tryz.sizeOf5
 v5 := Tryz.zeroValue5
 t9 := Tryz.underlying9
 a9 := Tryz.isAgg9
 z9 := Tryz.sizeOf9
 v9 := Tryz.zeroValue9
 t20 := Tryz.underlying20
 a20 := Tryz.isAgg20
 z20 := Tryz.sizeOf20
 v20 := Tryz.zeroValue20
 t21 := Tryz.underlying21
 a21 := Tryz.isAgg21
 z21 := Tryz.sizeOf21
 v21 := Tryz.zeroValue21
 t37 := Tryz.underlying45
 a37 := Tryz.isAgg45
 z37 := Tryz.sizeOf45
 v37 := Tryz.zeroValue45
 t46 := Tryz.underlying132
 a46 := Tryz.isAgg132
 z46 := Tryz.sizeOf132
 v46 := Tryz.zeroValue132
 t51 := Tryz.underlying130
 a51 := Tryz.isAgg130
 z51 := Tryz.sizeOf130
 v51 := Tryz.zeroValue130
 t53 := Tryz.underlying162
 a53 := Tryz.isAgg162
 z53 := Tryz.sizeOf162
 v53 := Tryz.zeroValue162
 t75 := Tryz.underlying112
 a75 := Tryz.isAgg112
 z75 := Tryz.sizeOf112
 v75 := Tryz.zeroValue112
 t85 := Tryz.underlying113
 a85 := Tryz.isAgg113
 z85 := Tryz.sizeOf113
 v85 := Tryz.zeroValue113
 t127 := Tryz.underlying171
 a127 := Tryz.isAgg171
 z127 := Tryz.sizeOf171
 v127 := Tryz.zeroValue171
 t143 := Tryz.underlying214
 a143 := Tryz.isAgg214
 z143 := Tryz.sizeOf214
 v143 := Tryz.zeroValue214
 t145 := Tryz.underlying216
 a145 := Tryz.isAgg216
 z145 := Tryz.sizeOf216
 v145 := Tryz.zeroValue216
 t167 := Tryz.underlying174
 a167 := Tryz.isAgg174
 z167 := Tryz.sizeOf174
 v167 := Tryz.zeroValue174
 t168 := Tryz.underlying177
 a168 := Tryz.isAgg177
 z168 := Tryz.sizeOf177
 v168 := Tryz.zeroValue177
 t171 := Tryz.underlying161
 a171 := Tryz.isAgg161
 z171 := Tryz.sizeOf161
 v171 := Tryz.zeroValue161
 t173 := Tryz.underlying165
 a173 := Tryz.isAgg165
 z173 := Tryz.sizeOf165
 v173 := Tryz.zeroValue165
 t175 := Tryz.underlying175
 a175 := Tryz.isAgg175
 z175 := Tryz.sizeOf175
 v175 := Tryz.zeroValue175
 t210 := Tryz.underlying202
 a210 := Tryz.isAgg202
 z210 := Tryz.sizeOf202
 v210 := Tryz.zeroValue202
 t212 := Tryz.underlying193
 a212 := Tryz.isAgg193
 z212 := Tryz.sizeOf193
 v212 := Tryz.zeroValue193
 t213 := Tryz.underlying194
 a213 := Tryz.isAgg194
 z213 := Tryz.sizeOf194
 t232 := Tryz.underlying220
 a232 := Tryz.isAgg220
 z232 := Tryz.sizeOf220
 v232 := Tryz.zeroValue220
 t233 := Tryz.underlying221
 a233 := Tryz.isAgg221
 z233 := Tryz.sizeOf221
 v233 := Tryz.zeroValue221
 g15 := by kernel_rfl
 g16 := by kernel_rfl
 g17 := by kernel_rfl
 g18 := by kernel_rfl
 g19 := by kernel_rfl
 t80 := Tryz.underlying146
 a80 := Tryz.isAgg146
 z80 := Tryz.sizeOf146
 v80 := Tryz.zeroValue146
 i0 := by kernel_rfl
 i2 := by kernel_rfl
 i3 := by kernel_rfl
 i4 := by kernel_rfl
 i5 := by kernel_rfl
 i9 := by kernel_rfl
 i20 := by kernel_rfl
 i21 := by kernel_rfl
 i37 := by kernel_rfl
 i46 := by kernel_rfl
 i51 := by kernel_rfl
 i53 := by kernel_rfl
 i75 := by kernel_rfl
 i80 := by kernel_rfl
 i85 := by kernel_rfl
 i127 := by kernel_rfl
 i143 := by kernel_rfl
 i145 := by kernel_rfl
 i167 := by kernel_rfl
 i168 := by kernel_rfl
 i171 := by kernel_rfl
 i173 := by kernel_rfl
 i175 := by kernel_rfl
 i210 := by kernel_rfl
 i212 := by kernel_rfl
 i232 := by kernel_rfl
 i233 := by kernel_rfl
 m15 := by kernel_rfl
 m16 := by kernel_rfl
 m17 := by kernel_rfl
 m18 := by kernel_rfl
 m19 := by kernel_rfl
 c0 := by kernel_rfl
 c2 := by kernel_rfl
 c3 := by kernel_rfl
 c4 := by kernel_rfl
 c5 := by kernel_rfl
 c9 := by kernel_rfl
 c20 := by kernel_rfl
 c21 := by kernel_rfl
 c37 := by kernel_rfl
 c46 := by kernel_rfl
 c51 := by kernel_rfl
 c53 := by kernel_rfl
 c75 := by kernel_rfl
 c80 := by kernel_rfl
 c85 := by kernel_rfl
 c127 := by kernel_rfl
 c143 := by kernel_rfl
 c145 := by kernel_rfl
 c167 := by kernel_rfl
 c168 := by kernel_rfl
 c171 := by kernel_rfl
 c173 := by kernel_rfl
 c175 := by kernel_rfl
 c210 := by kernel_rfl
 c212 := by kernel_rfl
 c213 := by kernel_rfl
 c232 := by kernel_rfl
 c233 := by kernel_rfl }
def Tryz.sort62_ren : Go.Shelf.Ren := ⟨fun | 5 => 62 | 8 => 99 | 7 => 98 | 19 => 139 | 20 => 140 | 10 => 130 | 11 => 131 | 12 => 132 | 13 => 133 | 14 => 134 | 15 => 135 | 16 => 136 | 17 => 137 | 18 => 138 | 30 => 159 | 31 => 160 | 32 => 161 | 33 => 162 | 34 => 163 | 35 => 164 | 40 => 172 | n => n,fun | 23 => 69 | 25 => 2 | 3 => 3 | 32 => 132 | 22 => 69 | 0 => 0 | 44 => 130 | 46 => 162 | 4 => 4 | 36 => 182 | 35 => 181 | 41 => 133 | 5 => 5 | 9 => 9 | 53 => 204 | 57 => 208 | 63 => 217 | 64 => 218 | n => n,fun | n => n⟩
theorem Tryz.sort62 : Go.Proofs.SlLaysM.n5 Tryz.prog Tryz.sort62_ren := {
 mixed := by kernel_rfl
 f5 := ⟨Tryz.f62.name,by decide,Tryz.func62.trans (congrArg some (by kernel_rfl))⟩
 f7 := ⟨Tryz.f98.name,by decide,Tryz.func98.trans (congrArg some (by kernel_rfl))⟩
 f8 := Tryz.func99.trans (congrArg some (by kernel_rfl))
 f10 := ⟨Tryz.f130.name,by decide,Tryz.func130.trans (congrArg some (by kernel_rfl))⟩
 f11 := ⟨Tryz.f131.name,by decide,Tryz.func131.trans (congrArg some (by kernel_rfl))⟩
 f12 := ⟨Tryz.f132.name,by decide,Tryz.func132.trans (congrArg some (by kernel_rfl))⟩
 f13 := ⟨Tryz.f133.name,by decide,Tryz.func133.trans (congrArg some (by kernel_rfl))⟩
 f14 := ⟨Tryz.f134.name,by decide,Tryz.func134.trans (congrArg some (by kernel_rfl))⟩
 f15 := ⟨Tryz.f135.name,by decide,Tryz.func135.trans (congrArg some (by kernel_rfl))⟩
 f16 := ⟨Tryz.f136.name,by decide,Tryz.func136.trans (congrArg some (by kernel_rfl))⟩
 f17 := ⟨Tryz.f137.name,by decide,Tryz.func137.trans (congrArg some (by kernel_rfl))⟩
 f18 := ⟨Tryz.f138.name,by decide,Tryz.func138.trans (congrArg some (by kernel_rfl))⟩
 f19 := Tryz.func139.trans (congrArg some (by kernel_rfl))
 f20 := Tryz.func140.trans (congrArg some (by kernel_rfl))
 f30 := ⟨Tryz.f159.name,by decide,Tryz.func159.trans (congrArg some (by kernel_rfl))⟩
 f31 := Tryz.func160.trans (congrArg some (by kernel_rfl))
 f32 := Tryz.func161.trans (congrArg some (by kernel_rfl))
 f33 := ⟨Tryz.f162.name,by decide,Tryz.func162.trans (congrArg some (by kernel_rfl))⟩
 f34 := ⟨Tryz.f163.name,by decide,Tryz.func163.trans (congrArg some (by kernel_rfl))⟩
 f35 := ⟨Tryz.f164.name,by decide,Tryz.func164.trans (congrArg some (by kernel_rfl))⟩
 f40 := ⟨Tryz.f172.name,by decide,Tryz.func172.trans (congrArg some (by kernel_rfl))⟩
 t0 := Tryz.underlying0
 a0 := Tryz.isAgg0
 z0 := Tryz.sizeOf0
 v0 := Tryz.zeroValue0
 t3 := Tryz.underlying3
 a3 := Tryz.isAgg3
 z3 := Tryz.sizeOf3
 v3 := Tryz.zeroValue3
 t4 := Tryz.underlying4
 a4 := Tryz.isAgg4
 z4 := Tryz.sizeOf4
 v4 := Tryz.zeroValue4
 t5 := Tryz.underlying5
 a5 := Tryz.isAgg5
 z5 := Tryz.sizeOf5
 v5 := Tryz.zeroValue5
 t9 := Tryz.underlying9
 a9 := Tryz.isAgg9
 z9 := Tryz.sizeOf9
 v9 := Tryz.zeroValue9
 t22 := Tryz.underlying69
 a22 := Tryz.isAgg69
 z22 := Tryz.sizeOf69
 v22 := Tryz.zeroValue69
 t23 := Tryz.underlying69
 a23 := Tryz.isAgg69
 z23 := Tryz.sizeOf69
 v23 := Tryz.zeroValue69
 t25 := Tryz.underlying2
 a25 := Tryz.isAgg2
 z25 := Tryz.sizeOf2
 v25 := Tryz.zeroValue2
 t32 := Tryz.underlying132
 a32 := Tryz.isAgg132
 z32 := Tryz.sizeOf132
 v32 := Tryz.zeroValue132
 t35 := Tryz.underlying181
 a35 := Tryz.isAgg181
 z35 := Tryz.sizeOf181
 v35 := Tryz.zeroValue181
 t36 := Tryz.underlying182
 a36 := Tryz.isAgg182
 z36 := Tryz.sizeOf182
 v36 := Tryz.zeroValue182
 t41 := Tryz.underlying133
 a41 := Tryz.isAgg133
 z41 := Tryz.sizeOf133
 v41 := Tryz.zeroValue133
 t44 := Tryz.underlying130
 a44 := Tryz.isAgg130
 z44 := Tryz.sizeOf130
 v44 := Tryz.zeroValue130
 t46 := Tryz.underlying162
 a46 := Tryz.isAgg162
 z46 := Tryz.sizeOf162
 v46 := Tryz.zeroValue162
 t53 := Tryz.underlying204
 a53 := Tryz.isAgg204
 z53 := Tryz.sizeOf204
 v53 := Tryz.zeroValue204
 t57 := Tryz.underlying208
 a57 := Tryz.isAgg208
 z57 := Tryz.sizeOf208
 v57 := Tryz.zeroValue208
 t63 := Tryz.underlying217
 a63 := Tryz.isAgg217
 z63 := Tryz.sizeOf217
 v63 := Tryz.zeroValue217
 t64 := Tryz.underlying218
 a64 := Tryz.isAgg218
 z64 := Tryz.sizeOf218
 v64 := Tryz.zeroValue218 }
theorem Tryz.strconv_ParseInt_10 (s : ByteArray) (hmax : s.size ≤ 9223372036854775806) (v : Int) (h : Lib.parseIntB 64 s.data.toList = .ok v) (w : World) :
  Calls Tryz.prog 61 #[.string s,.int .i64 10,.int .i64 64] w fun e w' => e = .returned (.tuple #[.int .i64 v,.nilIface]) ∧ (w' = w ∨ ∃ t,w' = Lib.bytesWorld w 5 t) := Any.strconv_ParseInt_10_at64_ok Tryz.laysC174 s hmax v h w
open Go.Sort Go.RowKit in
theorem Tryz.slices_Sort_int (blk off cap : Nat) (zs : List Int) (w : World) (hH : Holds (Value.int .i64) w blk off zs.toArray) (hblk : blk < w.heap.size) (hsz : zs.length < 4611686018427387904) :
  Calls Tryz.prog 62 #[.slice (some ⟨blk,off,none⟩) zs.length cap] w fun e w' =>
   e = .returned (.tuple #[]) ∧ ∃ n os,w' = grow (putRow (Value.int .i64) (Sort.ahead w n) blk off (zs.mergeSort fun x y => decide (x ≤ y)).toArray) os := AnyM.slices_Sort_int Tryz.sort62 blk off cap zs w hH hblk hsz
open Go.Sort Go.RowKit in
theorem Tryz.slices_Sort_int_none (p : Option Addr) (cap : Nat) (w : World) :
  Calls Tryz.prog 62 #[.slice p 0 cap] w fun e w' => e = .returned (.tuple #[]) ∧ w' = w := AnyM.slices_Sort_int_none Tryz.sort62 p cap w
end Go.Proofs
/- The functions of the law WalAgain as the evaluator holds them. -/
namespace Go.Proofs.YtpfoofcallfjjaaGreatDoor.walA
open Go.AM Go.AM.Wc Go.AM.Wd Go.AM.We Go.AM.Wf wal
set_option maxRecDepth 100000
noncomputable def prim : Nat → Option (List V → H → Option (V × H))
 | 6 => some (yesP fun h => tabB h 0 193)
 | 57 => some (fmt10C 0 193)
 | 58 => some repP
 | 105 => some usedK
 | 61 => some parseG
 | 62 => some sortG
 | 123 => some (sortedG 153 59)
 | 26 => some cloneG
 | 56 => some fallsG
 | _ => none
theorem primOK : PrimOK Tryz.prog prim := by
 intro g f hf
 unfold prim at hf
 split at hf
 ·cases hf
  obtain ⟨h1,hrun⟩ := wal.isTrue_spec live_runs
  refine ⟨⟨_,Tryz.func6,by kernel_rfl,by decide⟩,fun args h v h' m w xs he hr hx n => ?_⟩
  refine yes_ok mixed prim1OK hrun trivial globals.symm h0_ro (fun h hc i o hg => ?_) he hr hx n
  obtain ⟨rfl,rfl⟩ := h0_get i o hg
  refine ⟨?_,Flat.ints _ _ _⟩
  rw [pow_eq]
  exact tabB_ok hc
 ·cases hf; exact prim1OK 57 _ rfl
 ·cases hf; exact prim1OK 58 _ rfl
 ·cases hf
  exact ⟨⟨_,Tryz.func105,by kernel_rfl,by decide⟩,fun args h v h' m w xs he hr hx n => usedK_ok mixed Tryz.func105 (by kernel_rfl) he hr hx n⟩
 ·cases hf
  exact ⟨⟨_,Tryz.func61,by kernel_rfl,by decide⟩,fun args h v h' m w xs he hr hx n => parse_ok (fun s hs v hv w => Tryz.strconv_ParseInt_10 s hs v hv w) he hr hx n⟩
 ·cases hf
  exact ⟨⟨_,Tryz.func62,by kernel_rfl,by decide⟩,fun args h v h' m w xs he hr hx n => sort_ok (fun a b c d e f g i => Tryz.slices_Sort_int a b c d e f g i) (fun p c w => Tryz.slices_Sort_int_none p c w) he hr hx n⟩
 ·cases hf
  exact ⟨⟨_,Tryz.func123,by kernel_rfl,by decide⟩,fun args h v h' m w xs he hr hx n => sorted_ok Tryz.underlying9 (by kernel_rfl) (fun w Bm b nn D0 h1 h2 h3 h4 h5 => Tryz.sorted_keys nilR w Bm b nn D0 h1 h2 h3 h4 h5) he hr hx n⟩
 ·cases hf
  exact ⟨⟨_,Tryz.func26,by kernel_rfl,by decide⟩,fun args h v h' m w xs he hr hx n => clone_ok mixed Tryz.func26 (by kernel_rfl) (by kernel_rfl) (by kernel_rfl) he hr hx n⟩
 ·cases hf
  exact ⟨⟨_,Tryz.func56,by kernel_rfl,by decide⟩,fun args h v h' m w xs he hr hx n => falls_ok mixed Tryz.func56 (by kernel_rfl) (by kernel_rfl) he hr hx n⟩
 ·cases hf
noncomputable def E0 : Env := envOf Tryz.prog prim
theorem live_ok {h : H} (ht : T1 h) : Sp Tryz.prog E0 (.func 6 [] []) [] h fun v h' => v = .bool true ∧ h' = h := by
 refine ⟨.bool true,h,?_,rfl,rfl⟩
 rw [AP_prim (show E0.prim 6 = some (yesP fun h => tabB h 0 193) from rfl)]
 exact if_pos (tabB_of ht)
theorem used_e : E0.prim 105 = some usedK := rfl
theorem sort_e : E0.prim 123 = some (sortedG 153 59) := rfl
theorem fns : Fw Tryz.prog E0 T1 where
 tlow lo h h' hlo t hk := by
  show h'.get 0 = _
  rw [hk.get 0 (by omega)]; exact t
 tsize h t := by have := H.get_lt t; omega
 num57 n h h1 h2 ht := by
  refine ⟨.str (Lib.itoa n),h,?_,rfl,rfl⟩
  rw [AP_prim (show E0.prim 57 = some (fmt10C 0 193) from rfl)]
  refine if_pos ?_
  simp only [tabB_of ht,Bool.true_and,Bool.and_eq_true,decide_eq_true_eq]
  exact ⟨h1,h2⟩
 rep58 k h hk := by
  refine ⟨.str (List.replicate k 48),h,?_,rfl,Keeps.refl _ _⟩
  rw [AP_prim (show E0.prim 58 = some repP from rfl)]
  exact if_pos (by simp; omega)
 f7 := by kernel_rfl
 p7 := rfl
 f8 := by kernel_rfl
 p8 := rfl
 f9 := by kernel_rfl
 p9 := rfl
 f10 := by kernel_rfl
 p10 := rfl
 f11 := by kernel_rfl
 p11 := rfl
 f12 := by kernel_rfl
 p12 := rfl
 f13 := by kernel_rfl
 p13 := rfl
 f14 := by kernel_rfl
 p14 := rfl
 f23 := by kernel_rfl
 p23 := rfl
 f24 := by kernel_rfl
 p24 := rfl
 f25 := by kernel_rfl
 p25 := rfl
 f30 := by kernel_rfl
 p30 := rfl
 f33 := by kernel_rfl
 p33 := rfl
 f34 := by kernel_rfl
 p34 := rfl
 f35 := by kernel_rfl
 p35 := rfl
 f36 := by kernel_rfl
 p36 := rfl
 f37 := by kernel_rfl
 p37 := rfl
 f38 := by kernel_rfl
 p38 := rfl
 f39 := by kernel_rfl
 p39 := rfl
 f40 := by kernel_rfl
 p40 := rfl
 f41 := by kernel_rfl
 p41 := rfl
 f42 := by kernel_rfl
 p42 := rfl
 f55 := by kernel_rfl
 p55 := rfl
 f63 := by kernel_rfl
 p63 := rfl
 f65 := by kernel_rfl
 p65 := rfl
 f67 := by kernel_rfl
 p67 := rfl
 f68 := by kernel_rfl
 p68 := rfl
 f69 := by kernel_rfl
 p69 := rfl
 f100 := by kernel_rfl
 p100 := rfl
 f103 := by kernel_rfl
 p103 := rfl
 f104 := by kernel_rfl
 p104 := rfl
 f106 := by kernel_rfl
 p106 := rfl
 f107 := by kernel_rfl
 p107 := rfl
 f108 := by kernel_rfl
 p108 := rfl
 f141 := by kernel_rfl
 p141 := rfl
theorem fds : Go.AM.Wc.Fd Tryz.prog E0 where
 f22 := by kernel_rfl
 p22 := rfl
 f19 := by kernel_rfl
 p19 := rfl
 f21 := by kernel_rfl
 p21 := rfl
 f28 := by kernel_rfl
 p28 := rfl
 f59 := by kernel_rfl
 p59 := rfl
 f93 := by kernel_rfl
 p93 := rfl
 f94 := by kernel_rfl
 p94 := rfl
 f124 := by kernel_rfl
 p124 := rfl
theorem fes : Go.AM.Wc.Fe Tryz.prog E0 where
 f27 := by kernel_rfl
 p27 := rfl
 f29 := by kernel_rfl
 p29 := rfl
 f32 := by kernel_rfl
 p32 := rfl
 f60 := by kernel_rfl
 p60 := rfl
 f64 := by kernel_rfl
 p64 := rfl
 f95 := by kernel_rfl
 p95 := rfl
 f101 := by kernel_rfl
 p101 := rfl
 f102 := by kernel_rfl
 p102 := rfl
 f120 := by kernel_rfl
 p120 := rfl
 f18 := by kernel_rfl
 p18 := rfl
 f20 := by kernel_rfl
 p20 := rfl
 q61 := rfl
 q62 := rfl
theorem f5 : E0.fns 5 = some Go.AM.Wd.fn5 := by kernel_rfl
theorem p5 : E0.prim 5 = none := rfl
theorem clone_e : E0.prim 26 = some cloneG := rfl
theorem falls_e : E0.prim 56 = some fallsG := rfl
end Go.Proofs.YtpfoofcallfjjaaGreatDoor.walA
