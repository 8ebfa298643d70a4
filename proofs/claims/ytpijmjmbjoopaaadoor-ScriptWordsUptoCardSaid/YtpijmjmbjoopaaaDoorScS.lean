/- My own texts of the evaluator, its soundness and its symbolic runs, laid for this claim. -/
import Derived.Test.YtpijmjmbjoopaaaDoorScE
set_option linter.unusedSimpArgs false
set_option linter.unusedVariables false
namespace Go.AM.Sc
open Go.AM
open Go.Lib (itoa)
variable {P : Program} {E : Env} {T : H → Prop}
def Addr.zero : Addr := ⟨0,0⟩
def Query.zero : Query := ⟨0,[],0⟩
def WStep.zero : WStep := ⟨0,Addr.zero,0,Opr.zero,Query.zero,Entry.zero,0,0,0,0,0⟩
def zeroE (x : Entry) : Prop := (lenOf x.ops = 0 ∧ lenOf x.part.data = 0) ∧ flatOf x = Flat.zero
instance (x : Entry) : Decidable (zeroE x) := by unfold zeroE; infer_instance
def opOk (x : Opr) : Prop := (x.kind = 1 ∨ x.kind = 2 ∨ x.kind = 3) ∧ opBare x = x
instance (x : Opr) : Decidable (opOk x) := by unfold opOk; infer_instance
def resA (c : Prop) [Decidable c] (s : List UInt8) : V := if c then .tup [.str s,.int .i64 0] else .tup [.str [],.int .i64 1]
def atS (x : WStep) : List UInt8 := joinB (itoas [x.at_.group,x.at_.replica])
def stepS (x : WStep) : List UInt8 :=
  if x.kind = 1 then [116,105,99,107,32] ++ atS x else
  if x.kind = 12 then [114,101,115,116,97,114,116,32] ++ atS x else
  if x.kind = 2 then [119,114,105,116,101,32] ++ atS x ++ [32] ++ itoa x.client ++ [32] ++ opS x.op else
  if x.kind = 3 then [114,101,116,114,121,32] ++ atS x ++ [32] ++ itoa x.client else
  if x.kind = 4 then [114,101,97,100,32] ++ atS x ++ [32] ++ itoa x.client ++ [32] ++ queryS x.query else
  if x.kind = 5 then [99,111,110,102,32] ++ atS x ++ [32] ++ entS x.entry else
  if x.kind = 6 then [100,101,108,105,118,101,114,32] ++ itoa x.number else
  if x.kind = 7 then [100,114,111,112,32] ++ itoa x.number else
  if x.kind = 8 then [100,111,117,98,108,101,32] ++ itoa x.number else
  if x.kind = 9 then [115,112,111,105,108,32] ++ itoa x.number ++ [32] ++ joinB (itoas [x.place,x.wth]) else
  if x.kind = 10 then [99,114,97,115,104,32] ++ atS x ++ [32] ++ itoa x.keep else
  if x.kind = 11 then [102,117,115,101,32] ++ atS x ++ [32] ++ joinB (itoas [x.count,x.keep]) else
  if x.kind = 13 then [97,108,108] else
  if x.kind = 14 then [97,114,114,105,118,101] else []
def bareOf (x : WStep) : WStep :=
  if x.kind = 1 ∨ x.kind = 12 ∨ x.kind = 5 then { WStep.zero with kind := x.kind,at_ := x.at_ } else
  if x.kind = 2 then { WStep.zero with kind := x.kind,at_ := x.at_,client := x.client,op := x.op } else
  if x.kind = 3 then { WStep.zero with kind := x.kind,at_ := x.at_,client := x.client } else
  if x.kind = 4 then { WStep.zero with kind := x.kind,at_ := x.at_,client := x.client,query := x.query } else
  if x.kind = 6 ∨ x.kind = 7 ∨ x.kind = 8 then { WStep.zero with kind := x.kind,number := x.number } else
  if x.kind = 9 then { WStep.zero with kind := x.kind,number := x.number,place := x.place,wth := x.wth } else
  if x.kind = 10 then { WStep.zero with kind := x.kind,at_ := x.at_,keep := x.keep } else
  if x.kind = 11 then { WStep.zero with kind := x.kind,at_ := x.at_,count := x.count,keep := x.keep } else { WStep.zero with kind := x.kind }
def txtOk (x : WStep) : Prop := if x.kind = 2 then opOk x.op else if x.kind = 4 then queryOk x.query else if x.kind = 5 then entOk x.entry else True
instance (x : WStep) : Decidable (txtOk x) := by unfold txtOk; infer_instance
def stepOk (x : WStep) : Prop := (1 ≤ x.kind ∧ x.kind ≤ 14) ∧ txtOk x ∧ (x.kind = 5 ∨ zeroE x.entry) ∧ alikeP x (bareOf x)
instance (x : WStep) : Decidable (stepOk x) := by unfold stepOk; infer_instance
structure SIn (h : H) (x : WStep) (s : List UInt8) : Prop where
  ent : EIn h x.entry s
  group : InI x.at_.group
  replica : InI x.at_.replica
  client : InI x.client
  opnode : InI x.op.node
  opparent : InI x.op.parent
  opname : x.op.name.length ≤ 16777216
  opkey : x.op.key.length ≤ 16777216
  opvalue : x.op.value.length ≤ 16777216
  qnode : InI x.query.node
  qpath : x.query.path.length ≤ 16777216
  site : InI x.entry.site
  sponsor : InI x.entry.sponsor
  length : InI x.entry.length
  number : InI x.number
  place : InI x.place
  wth : 0 ≤ x.wth ∧ x.wth ≤ 255
  count : InI x.count
  keep : InI x.keep
set_option maxRecDepth 100000 in
set_option maxHeartbeats 4000000 in
theorem stepTail9 (F : Fns P E T) {x y : WStep} {h h5 : H} {s0 : List UInt8} (hx : EIn h x.entry s0) {ρ : Nat → V} {B bx : Nat} {s : List UInt8} {ok ent : Bool} (gB : h5.get B = some (.cells y.cells 52 false false none)) (gx : h5.get bx = some (.cells x.cells 52 false false none)) (kk : Kp h h5)
    (r1 : ρ 1 = .ptr (some (bx,0))) (r5 : ρ 5 = .ptr (some (B,0))) (r6 : ρ 6 = .str s) (r7 : ρ 7 = .bool ok) (r8 : ρ 8 = .bool ent) :
    XO P E none 227 r9_41 [.c (.cond (.t 225) (.seq (.region r9_42) (.ret)) (.skip)),.c (.seq (.region r9_43) (.ret))] ρ h5 (Fin [.t 2,.t 3] fun v h' => v = resA (ok = true ∧ (ent = true ∨ zeroE x.entry) ∧ alikeP x y) s ∧ Kp h h') := by
  have p0 : ∀ z : WStep,List.take 76 z.cells = z.cells := fun _ => rfl
  have p15 : ∀ z : WStep,List.take 56 (List.drop 15 z.cells) = z.entry.cells := fun _ => rfl
  have fl : ∀ z : WStep,z.cells.length = 76 := fun _ => rfl
  have fin : ∀ (c : Prop) [Decidable c] (hh : H),¬ c → Kp h hh → V.tup [.str [],.int .i64 1] = resA c s ∧ Kp h hh := fun c _ hh hc hk => ⟨by unfold resA; rw [if_neg hc],hk⟩
  cases ok with
  | false =>
    simp (maxSteps := 2000000) only [GO,GO2,evK,fillV,setR,binV,intOp,strOp,shOp,unV,getR,lenV,partV,V.nj,V.njL,V.cells,Nat.reduceLT,Nat.reduceEqDiff,Nat.reduceAdd,↓reduceIte,Nat.reduceLeDiff,reduceCtorEq,r9_41,r9_42,r7,Bool.not_false,Bool.not_true]
    exact fin _ _ (by simp) kk
  | true =>
    cases ent with
    | true =>
      simp (maxSteps := 2000000) only [GO,GO2,evK,fillV,setR,binV,intOp,strOp,shOp,unV,getR,lenV,partV,V.nj,V.njL,V.cells,Nat.reduceLT,Nat.reduceEqDiff,Nat.reduceAdd,↓reduceIte,Nat.reduceLeDiff,reduceCtorEq,r9_41,r9_42,r9_43,r7,r8,r1,r5,gx,gB,p0,fl,Bool.not_false,Bool.not_true]
      refine XC_of (alike29 F) ?_
      rintro _ h6 ⟨rfl,k6⟩
      by_cases ha : alikeP x y
      · have ha' : decide (alikeP x y) = true := by simpa using ha
        simp (maxSteps := 2000000) only [GO,GO2,evK,fillV,setR,binV,intOp,strOp,shOp,unV,getR,lenV,partV,V.nj,V.njL,V.cells,Nat.reduceLT,Nat.reduceEqDiff,Nat.reduceAdd,↓reduceIte,Nat.reduceLeDiff,reduceCtorEq,ha',r6]
        exact ⟨by simp [resA,ha],Kp.trans kk k6⟩
      · have ha' : decide (alikeP x y) = false := by simpa using ha
        simp (maxSteps := 2000000) only [GO,GO2,evK,fillV,setR,binV,intOp,strOp,shOp,unV,getR,lenV,partV,V.nj,V.njL,V.cells,Nat.reduceLT,Nat.reduceEqDiff,Nat.reduceAdd,↓reduceIte,Nat.reduceLeDiff,reduceCtorEq,ha',r6]
        exact fin _ _ (by simp [ha]) (Kp.trans kk k6)
    | false =>
      simp (maxSteps := 2000000) only [GO,GO2,evK,fillV,setR,binV,intOp,strOp,shOp,unV,getR,lenV,partV,V.nj,V.njL,V.cells,Nat.reduceLT,Nat.reduceEqDiff,Nat.reduceAdd,↓reduceIte,Nat.reduceLeDiff,reduceCtorEq,r9_41,r9_42,r9_43,r7,r8,r1,r5,gx,gB,p0,p15,fl,Bool.not_false,Bool.not_true]
      refine XC_of (zeroEntry28 F (hx.keep kk)) ?_
      rintro _ h6 ⟨rfl,k6⟩
      have gx6 := Kp.of k6 gx
      have gB6 := Kp.of k6 gB
      by_cases hz : zeroE x.entry
      · have hz' : decide ((lenOf x.entry.ops = 0 ∧ lenOf x.entry.part.data = 0) ∧ flatOf x.entry = Flat.zero) = true := decide_eq_true hz
        simp (maxSteps := 2000000) only [GO,GO2,evK,fillV,setR,binV,intOp,strOp,shOp,unV,getR,lenV,partV,V.nj,V.njL,V.cells,Nat.reduceLT,Nat.reduceEqDiff,Nat.reduceAdd,↓reduceIte,Nat.reduceLeDiff,reduceCtorEq,hz',r1,r5,gx6,gB6,p0,fl,Bool.not_false,Bool.not_true]
        refine XC_of (alike29 F) ?_
        rintro _ h7 ⟨rfl,k7⟩
        by_cases ha : alikeP x y
        · have ha' : decide (alikeP x y) = true := by simpa using ha
          simp (maxSteps := 2000000) only [GO,GO2,evK,fillV,setR,binV,intOp,strOp,shOp,unV,getR,lenV,partV,V.nj,V.njL,V.cells,Nat.reduceLT,Nat.reduceEqDiff,Nat.reduceAdd,↓reduceIte,Nat.reduceLeDiff,reduceCtorEq,ha',r6]
          exact ⟨by simp [resA,ha,hz],Kp.trans (Kp.trans kk k6) k7⟩
        · have ha' : decide (alikeP x y) = false := by simpa using ha
          simp (maxSteps := 2000000) only [GO,GO2,evK,fillV,setR,binV,intOp,strOp,shOp,unV,getR,lenV,partV,V.nj,V.njL,V.cells,Nat.reduceLT,Nat.reduceEqDiff,Nat.reduceAdd,↓reduceIte,Nat.reduceLeDiff,reduceCtorEq,ha',r6]
          exact fin _ _ (by simp [ha]) (Kp.trans (Kp.trans kk k6) k7)
      · have hz' : decide ((lenOf x.entry.ops = 0 ∧ lenOf x.entry.part.data = 0) ∧ flatOf x.entry = Flat.zero) = false := decide_eq_false hz
        simp (maxSteps := 2000000) only [GO,GO2,evK,fillV,setR,binV,intOp,strOp,shOp,unV,getR,lenV,partV,V.nj,V.njL,V.cells,Nat.reduceLT,Nat.reduceEqDiff,Nat.reduceAdd,↓reduceIte,Nat.reduceLeDiff,reduceCtorEq,hz',r1,r5,gx6,gB6,p0,fl,Bool.not_false,Bool.not_true]
        exact fin _ _ (by simp [hz]) (Kp.trans kk k6)
def blk9 : C := .block 0 (.seq (.seq (.region r9_5) (.cond (.t 24) (.skip) (.region r9_6))) (.cond (.t 24) (.seq (.region r9_7) (.region r9_8)) (.seq (.region r9_9) (.cond (.t 37) (.seq (.draw r9_10) (.seq (.region r9_11) (.region r9_12))) (.seq (.region r9_13) (.cond (.t 65) (.seq (.draw r9_14) (.region r9_15)) (.seq (.region r9_16) (.cond (.t 81) (.seq (.draw r9_17) (.seq (.region r9_18) (.region r9_19))) (.seq (.region r9_20) (.cond (.t 109) (.seq (.region r9_21) (.seq (.region r9_22) (.region r9_23))) (.seq (.seq (.region r9_24) (.cond (.t 127) (.skip) (.seq (.region r9_25) (.cond (.t 127) (.skip) (.region r9_26))))) (.cond (.t 127) (.seq (.region r9_27) (.draw r9_28)) (.seq (.region r9_29) (.cond (.t 143) (.seq (.draw r9_30) (.draw r9_31)) (.seq (.region r9_32) (.cond (.t 167) (.seq (.draw r9_33) (.region r9_34)) (.seq (.region r9_35) (.cond (.t 183) (.seq (.draw r9_36) (.region r9_37)) (.seq (.region r9_38) (.cond (.t 204) (.region [⟨some 6,.mv (.k (.str [97,108,108])),none,0,[6]⟩]) (.seq (.region r9_39) (.cond (.t 206) (.region [⟨some 6,.mv (.k (.str [97,114,114,105,118,101])),none,0,[6]⟩]) (.seq (.region r9_40) (.ret))))))))))))))))))))))))
def rest9 : C := .seq (.seq (.region r9_41) (.cond (.t 225) (.seq (.region r9_42) (.ret)) (.skip))) (.seq (.region r9_43) (.ret))
theorem c9_eq : c9 = .seq (.region r9_0) (.seq (.region r9_1) (.seq (.region r9_2) (.seq (.region r9_3) (.seq (.seq (.region r9_4) blk9) rest9)))) := rfl
set_option maxRecDepth 100000 in
set_option maxHeartbeats 4000000 in
theorem step9_pre (F : Fns P E T) {x : WStep} {h : H} {s0 : List UInt8} (ht : T h) (hx : SIn h x s0) {Q : V → H → Prop}
    (hk : ∀ (ρ : Nat → V) (h3 : H) (bx B : Nat),bx < B → h3.get bx = some (.cells x.cells 52 false false none) → h3.get B = some (.cells ({ WStep.zero with kind := x.kind } : WStep).cells 52 false false none) → Kp h h3 → h.size ≤ B → ρ 1 = .ptr (some (bx,0)) → ρ 4 = .str (atS x) → ρ 5 = .ptr (some (B,0)) → ρ 6 = .str [] → ρ 7 = .bool true → ρ 8 = .bool false → ρ 23 = .int .i64 x.kind →
      X P E none 227 [.c blk9,.c rest9] ρ h3 (Fin [.t 2,.t 3] Q)) :
    Sp P E (.func 9 [] []) [.agg x.cells] h Q := by
  have hk0 : Kp h (h.psh (.cells x.cells 52 false false none)) := Keeps.psh (Nat.le_refl _) _
  have gx := psh_same h (.cells x.cells 52 false false none)
  refine Sp_fn F.f9 F.p9 (by simp [fn9]) ?_
  simp (maxSteps := 2000000) only [GO,GO2,evK,fillV,setR,binV,intOp,strOp,shOp,unV,getR,lenV,partV,V.nj,V.njL,V.cells,Nat.reduceLT,Nat.reduceEqDiff,Nat.reduceAdd,↓reduceIte,Nat.reduceLeDiff,reduceCtorEq,fn9,c9_eq,r9_0,r9_1,gx,WStep.g1,WStep.g2]
  generalize h.psh (.cells x.cells 52 false false none) = h1 at *
  have kp1 : Kp h1 (h1.psh (.cells [.int .i64 x.at_.group,.int .i64 x.at_.replica] 3 false false none)) := Keeps.psh (Nat.le_refl _) _
  refine XC_of (nums F (xs := [x.at_.group,x.at_.replica]) (by simp) (ini2 hx.group hx.replica) (F.tkeep _ _ ht (Kp.trans hk0 kp1)) (sl_ints h1 [x.at_.group,x.at_.replica])) ?_
  rintro _ h2 ⟨rfl,k2⟩
  have k2' := Kp.trans kp1 k2
  have gx2 := Kp.of k2' gx
  have kk2 := Kp.trans hk0 k2'
  obtain ⟨h3,e3,g3,k3,z3⟩ := put_ex (o := 0) (ws := ({ WStep.zero with kind := x.kind } : WStep).cells) (psh_same h2 (.cells WStep.zero.cells 52 false false none)) (Nat.le_refl _) rfl rfl
  have k3' : Kp h2 h3 := Keeps.trans (Keeps.psh (Nat.le_refl _) _) k3
  have gx3 := Kp.of k3' gx2
  have kk3 := Kp.trans kk2 k3'
  have hlt := H.get_lt gx2
  have hle : h.size ≤ h2.size := kk2.size
  have hg0 := WStep.g0 x
  generalize x.cells = xc at *
  simp only [WStep.zero,WStep.cells,Entry.zero,Addr.zero,Query.zero,Opr.zero,Epoch.zero,Vec.zero,Part.zero] at e3
  simp (maxSteps := 2000000) only [GO,GO2,evK,fillV,setR,binV,intOp,strOp,shOp,unV,getR,lenV,partV,V.nj,V.njL,V.cells,Nat.reduceLT,Nat.reduceEqDiff,Nat.reduceAdd,↓reduceIte,Nat.reduceLeDiff,reduceCtorEq,r9_2,r9_3,r9_4,gx2,hg0,e3,gx3]
  exact hk _ h3 h.size h2.size hlt gx3 g3 kk3 hle rfl rfl rfl rfl rfl rfl rfl
def cat (a b : List UInt8) : List UInt8 := a ++ b
def Fit (s : List UInt8) : Prop := s.length ≤ 1099511627776
theorem strOp_cat {x y : List UInt8} (h : Fit (cat x y)) : strOp .add x y = some (.str (cat x y)) := by
  unfold Fit cat at h
  rw [List.length_append] at h
  unfold strOp cat
  rw [if_pos (by omega)]
theorem strOp_eql (x y : List UInt8) : strOp .eql x y = some (.bool (x == y)) := rfl
theorem strOp_neq (x y : List UInt8) : strOp .neq x y = some (.bool (!(x == y))) := rfl
theorem resE {x y : WStep} {s : List UInt8} {ok ent : Bool} (h1 : (ok = true ∧ (ent = true ∨ zeroE x.entry) ∧ alikeP x y) ↔ stepOk x) (h2 : stepOk x → s = stepS x) : resA (ok = true ∧ (ent = true ∨ zeroE x.entry) ∧ alikeP x y) s = resA (stepOk x) (stepS x) := by
  unfold resA
  by_cases hc : stepOk x
  · rw [if_pos hc,if_pos (h1.2 hc),h2 hc]
  · rw [if_neg hc,if_neg (fun h => hc (h1.1 h))]
theorem stepEnd9 (F : Fns P E T) {x y : WStep} {h h5 : H} {s0 : List UInt8} (hx : EIn h x.entry s0) {ρ : Nat → V} {B bx : Nat} {s : List UInt8} {ok ent : Bool} (gB : h5.get B = some (.cells y.cells 52 false false none)) (gx : h5.get bx = some (.cells x.cells 52 false false none)) (kk : Kp h h5)
    (r1 : ρ 1 = .ptr (some (bx,0))) (r5 : ρ 5 = .ptr (some (B,0))) (r6 : ρ 6 = .str s) (r7 : ρ 7 = .bool ok) (r8 : ρ 8 = .bool ent) (h1 : (ok = true ∧ (ent = true ∨ zeroE x.entry) ∧ alikeP x y) ↔ stepOk x) (h2 : stepOk x → s = stepS x) :
    XO P E none 227 r9_41 [.c (.cond (.t 225) (.seq (.region r9_42) (.ret)) (.skip)),.c (.seq (.region r9_43) (.ret))] ρ h5 (Fin [.t 2,.t 3] fun v h' => v = resA (stepOk x) (stepS x) ∧ Kp h h') := by
  rw [← resE h1 h2]
  exact stepTail9 F hx gB gx kk r1 r5 r6 r7 r8
theorem atS_len {x : WStep} (h1 : InI x.at_.group) (h2 : InI x.at_.replica) : (atS x).length ≤ 50 := by
  have l1 := Lib.itoa_length_le x.at_.group h1.1 h1.2
  have l2 := Lib.itoa_length_le x.at_.replica h2.1 h2.2
  unfold atS
  rw [itoas2]; omega
set_option maxRecDepth 100000 in
set_option maxHeartbeats 4000000 in
theorem step9_13 (F : Fns P E T) {x : WStep} {h : H} {s0 : List UInt8} (ht : T h) (hx : SIn h x s0) (hk : x.kind = 13) : Sp P E (.func 9 [] []) [.agg x.cells] h fun v h' => v = resA (stepOk x) (stepS x) ∧ Kp h h' := by
  refine step9_pre F ht hx fun ρ h3 bx B hlt gx gB kk hle r1 r4 r5 r6 r7 r8 r23 => ?_
  have hn1 : (x.kind == 1) = false := by rw [hk]; rfl
  have hn12 : (x.kind == 12) = false := by rw [hk]; rfl
  have hn2 : (x.kind == 2) = false := by rw [hk]; rfl
  have hn3 : (x.kind == 3) = false := by rw [hk]; rfl
  have hn4 : (x.kind == 4) = false := by rw [hk]; rfl
  have hn5 : (x.kind == 5) = false := by rw [hk]; rfl
  have hn6 : (x.kind == 6) = false := by rw [hk]; rfl
  have hn7 : (x.kind == 7) = false := by rw [hk]; rfl
  have hn8 : (x.kind == 8) = false := by rw [hk]; rfl
  have hn9 : (x.kind == 9) = false := by rw [hk]; rfl
  have hn10 : (x.kind == 10) = false := by rw [hk]; rfl
  have hn11 : (x.kind == 11) = false := by rw [hk]; rfl
  have hn13 : (x.kind == 13) = true := by rw [hk]; rfl
  have la := atS_len hx.group hx.replica
  have hb : bareOf x = { WStep.zero with kind := x.kind } := by simp [bareOf,hk]
  simp (maxSteps := 2000000) only [GO,GO2,evK,fillV,setR,binV,intOp,strOp_cat,strOp_eql,strOp_neq,shOp,unV,getR,lenV,partV,V.nj,V.njL,V.cells,Nat.reduceLT,Nat.reduceEqDiff,Nat.reduceAdd,↓reduceIte,Nat.reduceLeDiff,reduceCtorEq,blk9,rest9,r23,hn1,r9_5,hn12,r9_6,hn2,r9_9,hn3,r9_13,hn4,r9_16,hn5,r9_20,hn6,r9_24,hn7,r9_25,hn8,r9_26,hn9,r9_29,hn10,r9_32,hn11,r9_35,hn13,r9_38]
  exact stepEnd9 F hx.ent gB gx kk r1 r5 rfl r7 r8 (by rw [← hb]; simp [stepOk,txtOk,hk]) (fun _ => by simp [stepS,hk])
set_option maxRecDepth 100000 in
set_option maxHeartbeats 4000000 in
theorem step9_14 (F : Fns P E T) {x : WStep} {h : H} {s0 : List UInt8} (ht : T h) (hx : SIn h x s0) (hk : x.kind = 14) : Sp P E (.func 9 [] []) [.agg x.cells] h fun v h' => v = resA (stepOk x) (stepS x) ∧ Kp h h' := by
  refine step9_pre F ht hx fun ρ h3 bx B hlt gx gB kk hle r1 r4 r5 r6 r7 r8 r23 => ?_
  have hn1 : (x.kind == 1) = false := by rw [hk]; rfl
  have hn12 : (x.kind == 12) = false := by rw [hk]; rfl
  have hn2 : (x.kind == 2) = false := by rw [hk]; rfl
  have hn3 : (x.kind == 3) = false := by rw [hk]; rfl
  have hn4 : (x.kind == 4) = false := by rw [hk]; rfl
  have hn5 : (x.kind == 5) = false := by rw [hk]; rfl
  have hn6 : (x.kind == 6) = false := by rw [hk]; rfl
  have hn7 : (x.kind == 7) = false := by rw [hk]; rfl
  have hn8 : (x.kind == 8) = false := by rw [hk]; rfl
  have hn9 : (x.kind == 9) = false := by rw [hk]; rfl
  have hn10 : (x.kind == 10) = false := by rw [hk]; rfl
  have hn11 : (x.kind == 11) = false := by rw [hk]; rfl
  have hn13 : (x.kind == 13) = false := by rw [hk]; rfl
  have hn14 : (x.kind == 14) = true := by rw [hk]; rfl
  have la := atS_len hx.group hx.replica
  have hb : bareOf x = { WStep.zero with kind := x.kind } := by simp [bareOf,hk]
  simp (maxSteps := 2000000) only [GO,GO2,evK,fillV,setR,binV,intOp,strOp_cat,strOp_eql,strOp_neq,shOp,unV,getR,lenV,partV,V.nj,V.njL,V.cells,Nat.reduceLT,Nat.reduceEqDiff,Nat.reduceAdd,↓reduceIte,Nat.reduceLeDiff,reduceCtorEq,blk9,rest9,r23,hn1,r9_5,hn12,r9_6,hn2,r9_9,hn3,r9_13,hn4,r9_16,hn5,r9_20,hn6,r9_24,hn7,r9_25,hn8,r9_26,hn9,r9_29,hn10,r9_32,hn11,r9_35,hn13,r9_38,hn14,r9_39]
  exact stepEnd9 F hx.ent gB gx kk r1 r5 rfl r7 r8 (by rw [← hb]; simp [stepOk,txtOk,hk]) (fun _ => by simp [stepS,hk])
set_option maxRecDepth 100000 in
set_option maxHeartbeats 4000000 in
theorem step9_no (F : Fns P E T) {x : WStep} {h : H} {s0 : List UInt8} (ht : T h) (hx : SIn h x s0) (hk : ¬ (1 ≤ x.kind ∧ x.kind ≤ 14)) : Sp P E (.func 9 [] []) [.agg x.cells] h fun v h' => v = resA (stepOk x) (stepS x) ∧ Kp h h' := by
  refine step9_pre F ht hx fun ρ h3 bx B hlt gx gB kk hle r1 r4 r5 r6 r7 r8 r23 => ?_
  have hn1 : (x.kind == 1) = false := by rw [beq_eq_false_iff_ne]; omega
  have hn12 : (x.kind == 12) = false := by rw [beq_eq_false_iff_ne]; omega
  have hn2 : (x.kind == 2) = false := by rw [beq_eq_false_iff_ne]; omega
  have hn3 : (x.kind == 3) = false := by rw [beq_eq_false_iff_ne]; omega
  have hn4 : (x.kind == 4) = false := by rw [beq_eq_false_iff_ne]; omega
  have hn5 : (x.kind == 5) = false := by rw [beq_eq_false_iff_ne]; omega
  have hn6 : (x.kind == 6) = false := by rw [beq_eq_false_iff_ne]; omega
  have hn7 : (x.kind == 7) = false := by rw [beq_eq_false_iff_ne]; omega
  have hn8 : (x.kind == 8) = false := by rw [beq_eq_false_iff_ne]; omega
  have hn9 : (x.kind == 9) = false := by rw [beq_eq_false_iff_ne]; omega
  have hn10 : (x.kind == 10) = false := by rw [beq_eq_false_iff_ne]; omega
  have hn11 : (x.kind == 11) = false := by rw [beq_eq_false_iff_ne]; omega
  have hn13 : (x.kind == 13) = false := by rw [beq_eq_false_iff_ne]; omega
  have hn14 : (x.kind == 14) = false := by rw [beq_eq_false_iff_ne]; omega
  simp (maxSteps := 2000000) only [GO,GO2,evK,fillV,setR,binV,intOp,strOp_cat,strOp_eql,strOp_neq,shOp,unV,getR,lenV,partV,V.nj,V.njL,V.cells,Nat.reduceLT,Nat.reduceEqDiff,Nat.reduceAdd,↓reduceIte,Nat.reduceLeDiff,reduceCtorEq,blk9,rest9,r23,hn1,r9_5,hn12,r9_6,hn2,r9_9,hn3,r9_13,hn4,r9_16,hn5,r9_20,hn6,r9_24,hn7,r9_25,hn8,r9_26,hn9,r9_29,hn10,r9_32,hn11,r9_35,hn13,r9_38,hn14,r9_39,r9_40]
  have hno : ¬ stepOk x := fun h => hk h.1
  exact ⟨by simp [resA,hno],kk⟩
set_option maxRecDepth 100000 in
set_option maxHeartbeats 4000000 in
theorem step9_3 (F : Fns P E T) {x : WStep} {h : H} {s0 : List UInt8} (ht : T h) (hx : SIn h x s0) (hk : x.kind = 3) : Sp P E (.func 9 [] []) [.agg x.cells] h fun v h' => v = resA (stepOk x) (stepS x) ∧ Kp h h' := by
  refine step9_pre F ht hx fun ρ h3 bx B hlt gx gB kk hle r1 r4 r5 r6 r7 r8 r23 => ?_
  have hn1 : (x.kind == 1) = false := by rw [hk]; rfl
  have hn12 : (x.kind == 12) = false := by rw [hk]; rfl
  have hn2 : (x.kind == 2) = false := by rw [hk]; rfl
  have hn3 : (x.kind == 3) = true := by rw [hk]; rfl
  have la := atS_len hx.group hx.replica
  obtain ⟨h4,e4,g4,k4,z4⟩ := put_ex (o := 1) (ws := x.at_.cells) gB (Nat.le_of_ble_eq_true rfl) rfl rfl
  have gB4 : h4.get B = some (.cells ({ WStep.zero with kind := x.kind,at_ := x.at_ } : WStep).cells 52 false false none) := g4
  have gx4 : h4.get bx = some (.cells x.cells 52 false false none) := by rw [k4.get _ hlt]; exact gx
  have kk4 : Kp h h4 := Keeps.trans (n := h.size) kk (k4.mono hle)
  obtain ⟨h5,e5,g5,k5,z5⟩ := put_ex (o := 3) (ws := [.int .i64 x.client]) gB4 (Nat.le_of_ble_eq_true rfl) rfl rfl
  have gB5 : h5.get B = some (.cells ({ WStep.zero with kind := x.kind,at_ := x.at_,client := x.client } : WStep).cells 52 false false none) := g5
  have gx5 : h5.get bx = some (.cells x.cells 52 false false none) := by rw [k5.get _ hlt]; exact gx4
  have kk5 : Kp h h5 := Keeps.trans (n := h.size) kk4 (k5.mono hle)
  have p1 : List.take 2 (List.drop 1 x.cells) = x.at_.cells := rfl
  have j1 : V.njL x.at_.cells = true := rfl
  have hb : bareOf x = { WStep.zero with kind := x.kind,at_ := x.at_,client := x.client } := by simp [bareOf,hk]
  have l1 := Lib.itoa_length_le x.client hx.client.1 hx.client.2
  have lj : (joinB (itoas [x.client])).length ≤ 30 := by rw [itoas1]; omega
  have f1 : Fit (cat [114,101,116,114,121,32] (atS x)) := by simp only [Fit,cat,List.length_append,List.length_cons,List.length_nil]; omega
  have f2 : Fit (cat (cat [114,101,116,114,121,32] (atS x)) [32]) := by simp only [Fit,cat,List.length_append,List.length_cons,List.length_nil]; omega
  have f3 : Fit (cat (cat (cat [114,101,116,114,121,32] (atS x)) [32]) (joinB (itoas [x.client]))) := by simp only [Fit,cat,List.length_append,List.length_cons,List.length_nil]; omega
  simp (maxSteps := 2000000) only [GO,GO2,evK,fillV,setR,binV,intOp,strOp_cat,strOp_eql,strOp_neq,shOp,unV,getR,lenV,partV,V.nj,V.njL,V.cells,Nat.reduceLT,Nat.reduceEqDiff,Nat.reduceAdd,↓reduceIte,Nat.reduceLeDiff,reduceCtorEq,blk9,r23,hn1,r9_5,hn12,r9_6,hn2,r9_9,hn3,r9_13]
  rw [X_draw]
  refine k9_14 B (XDJ_XDK ?_)
  simp (maxSteps := 2000000) only [GO,GO2,evK,fillV,setR,binV,intOp,strOp_cat,strOp_eql,strOp_neq,shOp,unV,getR,lenV,partV,V.nj,V.njL,V.cells,Nat.reduceLT,Nat.reduceEqDiff,Nat.reduceAdd,↓reduceIte,Nat.reduceLeDiff,reduceCtorEq,r9_14,r1,r5,gx,p1,j1,Addr.len,WStep.g3,WStep.len,hlt,e4]
  refine ⟨k4,?_⟩
  simp (maxSteps := 2000000) only [GO,GO2,evK,fillV,setR,binV,intOp,strOp_cat,strOp_eql,strOp_neq,shOp,unV,getR,lenV,partV,V.nj,V.njL,V.cells,Nat.reduceLT,Nat.reduceEqDiff,Nat.reduceAdd,↓reduceIte,Nat.reduceLeDiff,reduceCtorEq,e5,r5,p1,j1,Addr.len,WStep.g3]
  refine ⟨k5,?_⟩
  have kp : Kp h5 (h5.psh (.cells [.int .i64 x.client] 3 false false none)) := Keeps.psh (Nat.le_refl _) _
  simp (maxSteps := 2000000) only [GO,GO2,evK,fillV,setR,binV,intOp,strOp_cat,strOp_eql,strOp_neq,shOp,unV,getR,lenV,partV,V.nj,V.njL,V.cells,Nat.reduceLT,Nat.reduceEqDiff,Nat.reduceAdd,↓reduceIte,Nat.reduceLeDiff,reduceCtorEq,r9_15,r1,r4,gx5,p1,j1,Addr.len,WStep.g3,WStep.len,f1,f2]
  refine XC_of (nums F (xs := [x.client]) (by simp) (ini1 hx.client) (F.tkeep _ _ ht (Kp.trans kk5 kp)) (sl_ints h5 [x.client])) ?_
  rintro _ h9 ⟨rfl,k9⟩
  have k9' := Kp.trans kp k9
  simp (maxSteps := 2000000) only [GO,GO2,evK,fillV,setR,binV,intOp,strOp_cat,strOp_eql,strOp_neq,shOp,unV,getR,lenV,partV,V.nj,V.njL,V.cells,Nat.reduceLT,Nat.reduceEqDiff,Nat.reduceAdd,↓reduceIte,Nat.reduceLeDiff,reduceCtorEq,f3,rest9]
  exact stepEnd9 F hx.ent (Kp.of k9' gB5) (Kp.of k9' gx5) (Kp.trans kk5 k9') r1 r5 rfl r7 r8 (by rw [← hb]; simp [stepOk,txtOk,hk]) (fun _ => by simp [stepS,hk,cat,itoas1])
set_option maxRecDepth 100000 in
set_option maxHeartbeats 4000000 in
theorem step9_10 (F : Fns P E T) {x : WStep} {h : H} {s0 : List UInt8} (ht : T h) (hx : SIn h x s0) (hk : x.kind = 10) : Sp P E (.func 9 [] []) [.agg x.cells] h fun v h' => v = resA (stepOk x) (stepS x) ∧ Kp h h' := by
  refine step9_pre F ht hx fun ρ h3 bx B hlt gx gB kk hle r1 r4 r5 r6 r7 r8 r23 => ?_
  have hn1 : (x.kind == 1) = false := by rw [hk]; rfl
  have hn12 : (x.kind == 12) = false := by rw [hk]; rfl
  have hn2 : (x.kind == 2) = false := by rw [hk]; rfl
  have hn3 : (x.kind == 3) = false := by rw [hk]; rfl
  have hn4 : (x.kind == 4) = false := by rw [hk]; rfl
  have hn5 : (x.kind == 5) = false := by rw [hk]; rfl
  have hn6 : (x.kind == 6) = false := by rw [hk]; rfl
  have hn7 : (x.kind == 7) = false := by rw [hk]; rfl
  have hn8 : (x.kind == 8) = false := by rw [hk]; rfl
  have hn9 : (x.kind == 9) = false := by rw [hk]; rfl
  have hn10 : (x.kind == 10) = true := by rw [hk]; rfl
  have la := atS_len hx.group hx.replica
  obtain ⟨h4,e4,g4,k4,z4⟩ := put_ex (o := 1) (ws := x.at_.cells) gB (Nat.le_of_ble_eq_true rfl) rfl rfl
  have gB4 : h4.get B = some (.cells ({ WStep.zero with kind := x.kind,at_ := x.at_ } : WStep).cells 52 false false none) := g4
  have gx4 : h4.get bx = some (.cells x.cells 52 false false none) := by rw [k4.get _ hlt]; exact gx
  have kk4 : Kp h h4 := Keeps.trans (n := h.size) kk (k4.mono hle)
  obtain ⟨h5,e5,g5,k5,z5⟩ := put_ex (o := 75) (ws := [.int .i64 x.keep]) gB4 (Nat.le_of_ble_eq_true rfl) rfl rfl
  have gB5 : h5.get B = some (.cells ({ WStep.zero with kind := x.kind,at_ := x.at_,keep := x.keep } : WStep).cells 52 false false none) := g5
  have gx5 : h5.get bx = some (.cells x.cells 52 false false none) := by rw [k5.get _ hlt]; exact gx4
  have kk5 : Kp h h5 := Keeps.trans (n := h.size) kk4 (k5.mono hle)
  have p1 : List.take 2 (List.drop 1 x.cells) = x.at_.cells := rfl
  have j1 : V.njL x.at_.cells = true := rfl
  have hb : bareOf x = { WStep.zero with kind := x.kind,at_ := x.at_,keep := x.keep } := by simp [bareOf,hk]
  have l1 := Lib.itoa_length_le x.keep hx.keep.1 hx.keep.2
  have lj : (joinB (itoas [x.keep])).length ≤ 30 := by rw [itoas1]; omega
  have f1 : Fit (cat [99,114,97,115,104,32] (atS x)) := by simp only [Fit,cat,List.length_append,List.length_cons,List.length_nil]; omega
  have f2 : Fit (cat (cat [99,114,97,115,104,32] (atS x)) [32]) := by simp only [Fit,cat,List.length_append,List.length_cons,List.length_nil]; omega
  have f3 : Fit (cat (cat (cat [99,114,97,115,104,32] (atS x)) [32]) (joinB (itoas [x.keep]))) := by simp only [Fit,cat,List.length_append,List.length_cons,List.length_nil]; omega
  simp (maxSteps := 2000000) only [GO,GO2,evK,fillV,setR,binV,intOp,strOp_cat,strOp_eql,strOp_neq,shOp,unV,getR,lenV,partV,V.nj,V.njL,V.cells,Nat.reduceLT,Nat.reduceEqDiff,Nat.reduceAdd,↓reduceIte,Nat.reduceLeDiff,reduceCtorEq,blk9,r23,hn1,r9_5,hn12,r9_6,hn2,r9_9,hn3,r9_13,hn4,r9_16,hn5,r9_20,hn6,r9_24,hn7,r9_25,hn8,r9_26,hn9,r9_29,hn10,r9_32]
  rw [X_draw]
  refine k9_33 B (XDJ_XDK ?_)
  simp (maxSteps := 2000000) only [GO,GO2,evK,fillV,setR,binV,intOp,strOp_cat,strOp_eql,strOp_neq,shOp,unV,getR,lenV,partV,V.nj,V.njL,V.cells,Nat.reduceLT,Nat.reduceEqDiff,Nat.reduceAdd,↓reduceIte,Nat.reduceLeDiff,reduceCtorEq,r9_33,r1,r5,gx,p1,j1,Addr.len,WStep.g75,WStep.len,hlt,e4]
  refine ⟨k4,?_⟩
  simp (maxSteps := 2000000) only [GO,GO2,evK,fillV,setR,binV,intOp,strOp_cat,strOp_eql,strOp_neq,shOp,unV,getR,lenV,partV,V.nj,V.njL,V.cells,Nat.reduceLT,Nat.reduceEqDiff,Nat.reduceAdd,↓reduceIte,Nat.reduceLeDiff,reduceCtorEq,e5,r5,p1,j1,Addr.len,WStep.g75]
  refine ⟨k5,?_⟩
  have kp : Kp h5 (h5.psh (.cells [.int .i64 x.keep] 3 false false none)) := Keeps.psh (Nat.le_refl _) _
  simp (maxSteps := 2000000) only [GO,GO2,evK,fillV,setR,binV,intOp,strOp_cat,strOp_eql,strOp_neq,shOp,unV,getR,lenV,partV,V.nj,V.njL,V.cells,Nat.reduceLT,Nat.reduceEqDiff,Nat.reduceAdd,↓reduceIte,Nat.reduceLeDiff,reduceCtorEq,r9_34,r1,r4,gx5,p1,j1,Addr.len,WStep.g75,WStep.len,f1,f2]
  refine XC_of (nums F (xs := [x.keep]) (by simp) (ini1 hx.keep) (F.tkeep _ _ ht (Kp.trans kk5 kp)) (sl_ints h5 [x.keep])) ?_
  rintro _ h9 ⟨rfl,k9⟩
  have k9' := Kp.trans kp k9
  simp (maxSteps := 2000000) only [GO,GO2,evK,fillV,setR,binV,intOp,strOp_cat,strOp_eql,strOp_neq,shOp,unV,getR,lenV,partV,V.nj,V.njL,V.cells,Nat.reduceLT,Nat.reduceEqDiff,Nat.reduceAdd,↓reduceIte,Nat.reduceLeDiff,reduceCtorEq,f3,rest9]
  exact stepEnd9 F hx.ent (Kp.of k9' gB5) (Kp.of k9' gx5) (Kp.trans kk5 k9') r1 r5 rfl r7 r8 (by rw [← hb]; simp [stepOk,txtOk,hk]) (fun _ => by simp [stepS,hk,cat,itoas1])
set_option maxRecDepth 100000 in
set_option maxHeartbeats 4000000 in
theorem step9_11 (F : Fns P E T) {x : WStep} {h : H} {s0 : List UInt8} (ht : T h) (hx : SIn h x s0) (hk : x.kind = 11) : Sp P E (.func 9 [] []) [.agg x.cells] h fun v h' => v = resA (stepOk x) (stepS x) ∧ Kp h h' := by
  refine step9_pre F ht hx fun ρ h3 bx B hlt gx gB kk hle r1 r4 r5 r6 r7 r8 r23 => ?_
  have hn1 : (x.kind == 1) = false := by rw [hk]; rfl
  have hn12 : (x.kind == 12) = false := by rw [hk]; rfl
  have hn2 : (x.kind == 2) = false := by rw [hk]; rfl
  have hn3 : (x.kind == 3) = false := by rw [hk]; rfl
  have hn4 : (x.kind == 4) = false := by rw [hk]; rfl
  have hn5 : (x.kind == 5) = false := by rw [hk]; rfl
  have hn6 : (x.kind == 6) = false := by rw [hk]; rfl
  have hn7 : (x.kind == 7) = false := by rw [hk]; rfl
  have hn8 : (x.kind == 8) = false := by rw [hk]; rfl
  have hn9 : (x.kind == 9) = false := by rw [hk]; rfl
  have hn10 : (x.kind == 10) = false := by rw [hk]; rfl
  have hn11 : (x.kind == 11) = true := by rw [hk]; rfl
  have la := atS_len hx.group hx.replica
  obtain ⟨h4,e4,g4,k4,z4⟩ := put_ex (o := 1) (ws := x.at_.cells) gB (Nat.le_of_ble_eq_true rfl) rfl rfl
  have gB4 : h4.get B = some (.cells ({ WStep.zero with kind := x.kind,at_ := x.at_ } : WStep).cells 52 false false none) := g4
  have gx4 : h4.get bx = some (.cells x.cells 52 false false none) := by rw [k4.get _ hlt]; exact gx
  have kk4 : Kp h h4 := Keeps.trans (n := h.size) kk (k4.mono hle)
  obtain ⟨h5,e5,g5,k5,z5⟩ := put_ex (o := 74) (ws := [.int .i64 x.count]) gB4 (Nat.le_of_ble_eq_true rfl) rfl rfl
  have gB5 : h5.get B = some (.cells ({ WStep.zero with kind := x.kind,at_ := x.at_,count := x.count } : WStep).cells 52 false false none) := g5
  have gx5 : h5.get bx = some (.cells x.cells 52 false false none) := by rw [k5.get _ hlt]; exact gx4
  have kk5 : Kp h h5 := Keeps.trans (n := h.size) kk4 (k5.mono hle)
  obtain ⟨h6,e6,g6,k6,z6⟩ := put_ex (o := 75) (ws := [.int .i64 x.keep]) gB5 (Nat.le_of_ble_eq_true rfl) rfl rfl
  have gB6 : h6.get B = some (.cells ({ WStep.zero with kind := x.kind,at_ := x.at_,count := x.count,keep := x.keep } : WStep).cells 52 false false none) := g6
  have gx6 : h6.get bx = some (.cells x.cells 52 false false none) := by rw [k6.get _ hlt]; exact gx5
  have kk6 : Kp h h6 := Keeps.trans (n := h.size) kk5 (k6.mono hle)
  have p1 : List.take 2 (List.drop 1 x.cells) = x.at_.cells := rfl
  have j1 : V.njL x.at_.cells = true := rfl
  have hb : bareOf x = { WStep.zero with kind := x.kind,at_ := x.at_,count := x.count,keep := x.keep } := by simp [bareOf,hk]
  have l1 := Lib.itoa_length_le x.count hx.count.1 hx.count.2
  have l2 := Lib.itoa_length_le x.keep hx.keep.1 hx.keep.2
  have lj : (joinB (itoas [x.count,x.keep])).length ≤ 50 := by rw [itoas2]; omega
  have f1 : Fit (cat [102,117,115,101,32] (atS x)) := by simp only [Fit,cat,List.length_append,List.length_cons,List.length_nil]; omega
  have f2 : Fit (cat (cat [102,117,115,101,32] (atS x)) [32]) := by simp only [Fit,cat,List.length_append,List.length_cons,List.length_nil]; omega
  have f3 : Fit (cat (cat (cat [102,117,115,101,32] (atS x)) [32]) (joinB (itoas [x.count,x.keep]))) := by simp only [Fit,cat,List.length_append,List.length_cons,List.length_nil]; omega
  simp (maxSteps := 2000000) only [GO,GO2,evK,fillV,setR,binV,intOp,strOp_cat,strOp_eql,strOp_neq,shOp,unV,getR,lenV,partV,V.nj,V.njL,V.cells,Nat.reduceLT,Nat.reduceEqDiff,Nat.reduceAdd,↓reduceIte,Nat.reduceLeDiff,reduceCtorEq,blk9,r23,hn1,r9_5,hn12,r9_6,hn2,r9_9,hn3,r9_13,hn4,r9_16,hn5,r9_20,hn6,r9_24,hn7,r9_25,hn8,r9_26,hn9,r9_29,hn10,r9_32,hn11,r9_35]
  rw [X_draw]
  refine k9_36 B (XDJ_XDK ?_)
  simp (maxSteps := 2000000) only [GO,GO2,evK,fillV,setR,binV,intOp,strOp_cat,strOp_eql,strOp_neq,shOp,unV,getR,lenV,partV,V.nj,V.njL,V.cells,Nat.reduceLT,Nat.reduceEqDiff,Nat.reduceAdd,↓reduceIte,Nat.reduceLeDiff,reduceCtorEq,r9_36,r1,r5,gx,p1,j1,Addr.len,WStep.g74,WStep.g75,WStep.len,hlt,e4]
  refine ⟨k4,?_⟩
  simp (maxSteps := 2000000) only [GO,GO2,evK,fillV,setR,binV,intOp,strOp_cat,strOp_eql,strOp_neq,shOp,unV,getR,lenV,partV,V.nj,V.njL,V.cells,Nat.reduceLT,Nat.reduceEqDiff,Nat.reduceAdd,↓reduceIte,Nat.reduceLeDiff,reduceCtorEq,e5,r5,p1,j1,Addr.len,WStep.g74,WStep.g75]
  refine ⟨k5,?_⟩
  simp (maxSteps := 2000000) only [GO,GO2,evK,fillV,setR,binV,intOp,strOp_cat,strOp_eql,strOp_neq,shOp,unV,getR,lenV,partV,V.nj,V.njL,V.cells,Nat.reduceLT,Nat.reduceEqDiff,Nat.reduceAdd,↓reduceIte,Nat.reduceLeDiff,reduceCtorEq,e6,r5,p1,j1,Addr.len,WStep.g74,WStep.g75]
  refine ⟨k6,?_⟩
  have kp : Kp h6 (h6.psh (.cells [.int .i64 x.count,.int .i64 x.keep] 3 false false none)) := Keeps.psh (Nat.le_refl _) _
  simp (maxSteps := 2000000) only [GO,GO2,evK,fillV,setR,binV,intOp,strOp_cat,strOp_eql,strOp_neq,shOp,unV,getR,lenV,partV,V.nj,V.njL,V.cells,Nat.reduceLT,Nat.reduceEqDiff,Nat.reduceAdd,↓reduceIte,Nat.reduceLeDiff,reduceCtorEq,r9_37,r1,r4,gx6,p1,j1,Addr.len,WStep.g74,WStep.g75,WStep.len,f1,f2]
  refine XC_of (nums F (xs := [x.count,x.keep]) (by simp) (ini2 hx.count hx.keep) (F.tkeep _ _ ht (Kp.trans kk6 kp)) (sl_ints h6 [x.count,x.keep])) ?_
  rintro _ h9 ⟨rfl,k9⟩
  have k9' := Kp.trans kp k9
  simp (maxSteps := 2000000) only [GO,GO2,evK,fillV,setR,binV,intOp,strOp_cat,strOp_eql,strOp_neq,shOp,unV,getR,lenV,partV,V.nj,V.njL,V.cells,Nat.reduceLT,Nat.reduceEqDiff,Nat.reduceAdd,↓reduceIte,Nat.reduceLeDiff,reduceCtorEq,f3,rest9]
  exact stepEnd9 F hx.ent (Kp.of k9' gB6) (Kp.of k9' gx6) (Kp.trans kk6 k9') r1 r5 rfl r7 r8 (by rw [← hb]; simp [stepOk,txtOk,hk]) (fun _ => by simp [stepS,hk,cat])
set_option maxRecDepth 100000 in
set_option maxHeartbeats 4000000 in
theorem step9_6 (F : Fns P E T) {x : WStep} {h : H} {s0 : List UInt8} (ht : T h) (hx : SIn h x s0) (hk : x.kind = 6) : Sp P E (.func 9 [] []) [.agg x.cells] h fun v h' => v = resA (stepOk x) (stepS x) ∧ Kp h h' := by
  refine step9_pre F ht hx fun ρ h3 bx B hlt gx gB kk hle r1 r4 r5 r6 r7 r8 r23 => ?_
  have hn1 : (x.kind == 1) = false := by rw [hk]; rfl
  have hn12 : (x.kind == 12) = false := by rw [hk]; rfl
  have hn2 : (x.kind == 2) = false := by rw [hk]; rfl
  have hn3 : (x.kind == 3) = false := by rw [hk]; rfl
  have hn4 : (x.kind == 4) = false := by rw [hk]; rfl
  have hn5 : (x.kind == 5) = false := by rw [hk]; rfl
  have hn6 : (x.kind == 6) = true := by rw [hk]; rfl
  have la := atS_len hx.group hx.replica
  obtain ⟨h4,e4,g4,k4,z4⟩ := put_ex (o := 71) (ws := [.int .i64 x.number]) gB (Nat.le_of_ble_eq_true rfl) rfl rfl
  have gB4 : h4.get B = some (.cells ({ WStep.zero with kind := x.kind,number := x.number } : WStep).cells 52 false false none) := g4
  have gx4 : h4.get bx = some (.cells x.cells 52 false false none) := by rw [k4.get _ hlt]; exact gx
  have kk4 : Kp h h4 := Keeps.trans (n := h.size) kk (k4.mono hle)
  have hb : bareOf x = { WStep.zero with kind := x.kind,number := x.number } := by simp [bareOf,hk]
  have l1 := Lib.itoa_length_le x.number hx.number.1 hx.number.2
  have f1 : Fit (cat [100,101,108,105,118,101,114,32] (itoa x.number)) := by simp only [Fit,cat,List.length_append,List.length_cons,List.length_nil]; omega
  have fk : findK .int (.int .i64 x.kind) [(.int .i64 6,.str [100,101,108,105,118,101,114,32],0),(.int .i64 7,.str [100,114,111,112,32],0),(.int .i64 8,.str [100,111,117,98,108,101,32],0)] 0 = some (some (0,.str [100,101,108,105,118,101,114,32])) := by rw [hk]; rfl
  simp (maxSteps := 2000000) only [GO,GO2,evK,fillV,setR,binV,intOp,strOp_cat,strOp_eql,strOp_neq,shOp,unV,getR,lenV,partV,V.nj,V.njL,V.cells,Nat.reduceLT,Nat.reduceEqDiff,Nat.reduceAdd,↓reduceIte,Nat.reduceLeDiff,reduceCtorEq,blk9,r23,hn1,r9_5,hn12,r9_6,hn2,r9_9,hn3,r9_13,hn4,r9_16,hn5,r9_20,hn6,r9_24,r9_27,r1,r5,gx,WStep.g71,WStep.len,e4]
  rw [X_draw]
  refine d9_28 ?_
  simp (maxSteps := 2000000) only [GO,GO2,evK,fillV,setR,binV,intOp,strOp_cat,strOp_eql,strOp_neq,shOp,unV,getR,lenV,partV,V.nj,V.njL,V.cells,Nat.reduceLT,Nat.reduceEqDiff,Nat.reduceAdd,↓reduceIte,Nat.reduceLeDiff,reduceCtorEq,r9_28,r1,gx4,WStep.g0,WStep.g71,fk]
  refine XCQ_of (num27 F hx.number (F.tkeep _ _ ht kk4)) ?_
  rintro _ h9 ⟨rfl,rfl⟩
  refine ⟨Keeps.refl _ _,?_⟩
  simp (maxSteps := 2000000) only [GO,GO2,evK,fillV,setR,binV,intOp,strOp_cat,strOp_eql,strOp_neq,shOp,unV,getR,lenV,partV,V.nj,V.njL,V.cells,Nat.reduceLT,Nat.reduceEqDiff,Nat.reduceAdd,↓reduceIte,Nat.reduceLeDiff,reduceCtorEq,f1,rest9]
  exact stepEnd9 F hx.ent gB4 gx4 kk4 r1 r5 rfl r7 r8 (by rw [← hb]; simp [stepOk,txtOk,hk]) (fun _ => by simp [stepS,hk,cat])
set_option maxRecDepth 100000 in
set_option maxHeartbeats 4000000 in
theorem step9_7 (F : Fns P E T) {x : WStep} {h : H} {s0 : List UInt8} (ht : T h) (hx : SIn h x s0) (hk : x.kind = 7) : Sp P E (.func 9 [] []) [.agg x.cells] h fun v h' => v = resA (stepOk x) (stepS x) ∧ Kp h h' := by
  refine step9_pre F ht hx fun ρ h3 bx B hlt gx gB kk hle r1 r4 r5 r6 r7 r8 r23 => ?_
  have hn1 : (x.kind == 1) = false := by rw [hk]; rfl
  have hn12 : (x.kind == 12) = false := by rw [hk]; rfl
  have hn2 : (x.kind == 2) = false := by rw [hk]; rfl
  have hn3 : (x.kind == 3) = false := by rw [hk]; rfl
  have hn4 : (x.kind == 4) = false := by rw [hk]; rfl
  have hn5 : (x.kind == 5) = false := by rw [hk]; rfl
  have hn6 : (x.kind == 6) = false := by rw [hk]; rfl
  have hn7 : (x.kind == 7) = true := by rw [hk]; rfl
  have la := atS_len hx.group hx.replica
  obtain ⟨h4,e4,g4,k4,z4⟩ := put_ex (o := 71) (ws := [.int .i64 x.number]) gB (Nat.le_of_ble_eq_true rfl) rfl rfl
  have gB4 : h4.get B = some (.cells ({ WStep.zero with kind := x.kind,number := x.number } : WStep).cells 52 false false none) := g4
  have gx4 : h4.get bx = some (.cells x.cells 52 false false none) := by rw [k4.get _ hlt]; exact gx
  have kk4 : Kp h h4 := Keeps.trans (n := h.size) kk (k4.mono hle)
  have hb : bareOf x = { WStep.zero with kind := x.kind,number := x.number } := by simp [bareOf,hk]
  have l1 := Lib.itoa_length_le x.number hx.number.1 hx.number.2
  have f1 : Fit (cat [100,114,111,112,32] (itoa x.number)) := by simp only [Fit,cat,List.length_append,List.length_cons,List.length_nil]; omega
  have fk : findK .int (.int .i64 x.kind) [(.int .i64 6,.str [100,101,108,105,118,101,114,32],0),(.int .i64 7,.str [100,114,111,112,32],0),(.int .i64 8,.str [100,111,117,98,108,101,32],0)] 0 = some (some (1,.str [100,114,111,112,32])) := by rw [hk]; rfl
  simp (maxSteps := 2000000) only [GO,GO2,evK,fillV,setR,binV,intOp,strOp_cat,strOp_eql,strOp_neq,shOp,unV,getR,lenV,partV,V.nj,V.njL,V.cells,Nat.reduceLT,Nat.reduceEqDiff,Nat.reduceAdd,↓reduceIte,Nat.reduceLeDiff,reduceCtorEq,blk9,r23,hn1,r9_5,hn12,r9_6,hn2,r9_9,hn3,r9_13,hn4,r9_16,hn5,r9_20,hn6,r9_24,hn7,r9_25,r9_27,r1,r5,gx,WStep.g71,WStep.len,e4]
  rw [X_draw]
  refine d9_28 ?_
  simp (maxSteps := 2000000) only [GO,GO2,evK,fillV,setR,binV,intOp,strOp_cat,strOp_eql,strOp_neq,shOp,unV,getR,lenV,partV,V.nj,V.njL,V.cells,Nat.reduceLT,Nat.reduceEqDiff,Nat.reduceAdd,↓reduceIte,Nat.reduceLeDiff,reduceCtorEq,r9_28,r1,gx4,WStep.g0,WStep.g71,fk]
  refine XCQ_of (num27 F hx.number (F.tkeep _ _ ht kk4)) ?_
  rintro _ h9 ⟨rfl,rfl⟩
  refine ⟨Keeps.refl _ _,?_⟩
  simp (maxSteps := 2000000) only [GO,GO2,evK,fillV,setR,binV,intOp,strOp_cat,strOp_eql,strOp_neq,shOp,unV,getR,lenV,partV,V.nj,V.njL,V.cells,Nat.reduceLT,Nat.reduceEqDiff,Nat.reduceAdd,↓reduceIte,Nat.reduceLeDiff,reduceCtorEq,f1,rest9]
  exact stepEnd9 F hx.ent gB4 gx4 kk4 r1 r5 rfl r7 r8 (by rw [← hb]; simp [stepOk,txtOk,hk]) (fun _ => by simp [stepS,hk,cat])
set_option maxRecDepth 100000 in
set_option maxHeartbeats 4000000 in
theorem step9_8 (F : Fns P E T) {x : WStep} {h : H} {s0 : List UInt8} (ht : T h) (hx : SIn h x s0) (hk : x.kind = 8) : Sp P E (.func 9 [] []) [.agg x.cells] h fun v h' => v = resA (stepOk x) (stepS x) ∧ Kp h h' := by
  refine step9_pre F ht hx fun ρ h3 bx B hlt gx gB kk hle r1 r4 r5 r6 r7 r8 r23 => ?_
  have hn1 : (x.kind == 1) = false := by rw [hk]; rfl
  have hn12 : (x.kind == 12) = false := by rw [hk]; rfl
  have hn2 : (x.kind == 2) = false := by rw [hk]; rfl
  have hn3 : (x.kind == 3) = false := by rw [hk]; rfl
  have hn4 : (x.kind == 4) = false := by rw [hk]; rfl
  have hn5 : (x.kind == 5) = false := by rw [hk]; rfl
  have hn6 : (x.kind == 6) = false := by rw [hk]; rfl
  have hn7 : (x.kind == 7) = false := by rw [hk]; rfl
  have hn8 : (x.kind == 8) = true := by rw [hk]; rfl
  have la := atS_len hx.group hx.replica
  obtain ⟨h4,e4,g4,k4,z4⟩ := put_ex (o := 71) (ws := [.int .i64 x.number]) gB (Nat.le_of_ble_eq_true rfl) rfl rfl
  have gB4 : h4.get B = some (.cells ({ WStep.zero with kind := x.kind,number := x.number } : WStep).cells 52 false false none) := g4
  have gx4 : h4.get bx = some (.cells x.cells 52 false false none) := by rw [k4.get _ hlt]; exact gx
  have kk4 : Kp h h4 := Keeps.trans (n := h.size) kk (k4.mono hle)
  have hb : bareOf x = { WStep.zero with kind := x.kind,number := x.number } := by simp [bareOf,hk]
  have l1 := Lib.itoa_length_le x.number hx.number.1 hx.number.2
  have f1 : Fit (cat [100,111,117,98,108,101,32] (itoa x.number)) := by simp only [Fit,cat,List.length_append,List.length_cons,List.length_nil]; omega
  have fk : findK .int (.int .i64 x.kind) [(.int .i64 6,.str [100,101,108,105,118,101,114,32],0),(.int .i64 7,.str [100,114,111,112,32],0),(.int .i64 8,.str [100,111,117,98,108,101,32],0)] 0 = some (some (2,.str [100,111,117,98,108,101,32])) := by rw [hk]; rfl
  simp (maxSteps := 2000000) only [GO,GO2,evK,fillV,setR,binV,intOp,strOp_cat,strOp_eql,strOp_neq,shOp,unV,getR,lenV,partV,V.nj,V.njL,V.cells,Nat.reduceLT,Nat.reduceEqDiff,Nat.reduceAdd,↓reduceIte,Nat.reduceLeDiff,reduceCtorEq,blk9,r23,hn1,r9_5,hn12,r9_6,hn2,r9_9,hn3,r9_13,hn4,r9_16,hn5,r9_20,hn6,r9_24,hn7,r9_25,hn8,r9_26,r9_27,r1,r5,gx,WStep.g71,WStep.len,e4]
  rw [X_draw]
  refine d9_28 ?_
  simp (maxSteps := 2000000) only [GO,GO2,evK,fillV,setR,binV,intOp,strOp_cat,strOp_eql,strOp_neq,shOp,unV,getR,lenV,partV,V.nj,V.njL,V.cells,Nat.reduceLT,Nat.reduceEqDiff,Nat.reduceAdd,↓reduceIte,Nat.reduceLeDiff,reduceCtorEq,r9_28,r1,gx4,WStep.g0,WStep.g71,fk]
  refine XCQ_of (num27 F hx.number (F.tkeep _ _ ht kk4)) ?_
  rintro _ h9 ⟨rfl,rfl⟩
  refine ⟨Keeps.refl _ _,?_⟩
  simp (maxSteps := 2000000) only [GO,GO2,evK,fillV,setR,binV,intOp,strOp_cat,strOp_eql,strOp_neq,shOp,unV,getR,lenV,partV,V.nj,V.njL,V.cells,Nat.reduceLT,Nat.reduceEqDiff,Nat.reduceAdd,↓reduceIte,Nat.reduceLeDiff,reduceCtorEq,f1,rest9]
  exact stepEnd9 F hx.ent gB4 gx4 kk4 r1 r5 rfl r7 r8 (by rw [← hb]; simp [stepOk,txtOk,hk]) (fun _ => by simp [stepS,hk,cat])
theorem opS_len {x : Opr} (h1 : InI x.node) (h2 : InI x.parent) (n1 : x.name.length ≤ 16777216) (n2 : x.key.length ≤ 16777216) (n3 : x.value.length ≤ 16777216) : (opS x).length ≤ 1000000000 := by
  have l1 := Lib.itoa_length_le x.node h1.1 h1.2
  have l2 := Lib.itoa_length_le x.parent h2.1 h2.2
  have q1 := quoteB_len n1
  have q2 := quoteB_len n2
  have q3 := quoteB_len n3
  unfold opS
  split
  · simp only [List.length_append,List.length_cons,List.length_nil]; omega
  · split
    · simp only [List.length_append,List.length_cons,List.length_nil]; omega
    · split
      · simp only [List.length_append,List.length_cons,List.length_nil]; omega
      · simp
theorem queryS_len {x : Query} (h1 : InI x.node) (n1 : x.path.length ≤ 16777216) : (queryS x).length ≤ 1000000000 := by
  have l1 := Lib.itoa_length_le x.node h1.1 h1.2
  have q1 := quoteB_len n1
  unfold queryS
  split
  · simp only [List.length_append,List.length_cons,List.length_nil]; omega
  · split
    · simp only [List.length_append,List.length_cons,List.length_nil]; omega
    · split
      · simp only [List.length_append,List.length_cons,List.length_nil]; omega
      · split
        · simp only [List.length_append,List.length_cons,List.length_nil]; omega
        · simp
theorem entS_len {x : Entry} (h1 : InI x.site) (h2 : InI x.sponsor) (h3 : InI x.length) : (entS x).length ≤ 1000000000 := by
  have l1 := Lib.itoa_length_le x.site h1.1 h1.2
  have l2 := Lib.itoa_length_le x.sponsor h2.1 h2.2
  have l3 := Lib.itoa_length_le x.length h3.1 h3.2
  unfold entS
  split
  · simp
  · split
    · simp only [List.length_append,itoas2,List.length_cons,List.length_nil]; omega
    · split
      · simp only [List.length_append,itoas1,List.length_cons,List.length_nil]; omega
      · split
        · simp only [List.length_append,itoas1,List.length_cons,List.length_nil]; omega
        · simp
set_option maxRecDepth 100000 in
set_option maxHeartbeats 4000000 in
theorem step9_2 (F : Fns P E T) {x : WStep} {h : H} {s0 : List UInt8} (ht : T h) (hx : SIn h x s0) (hk : x.kind = 2) : Sp P E (.func 9 [] []) [.agg x.cells] h fun v h' => v = resA (stepOk x) (stepS x) ∧ Kp h h' := by
  refine step9_pre F ht hx fun ρ h3 bx B hlt gx gB kk hle r1 r4 r5 r6 r7 r8 r23 => ?_
  have hn1 : (x.kind == 1) = false := by rw [hk]; rfl
  have hn12 : (x.kind == 12) = false := by rw [hk]; rfl
  have hn2 : (x.kind == 2) = true := by rw [hk]; rfl
  have la := atS_len hx.group hx.replica
  obtain ⟨h4,e4,g4,k4,z4⟩ := put_ex (o := 1) (ws := x.at_.cells) gB (Nat.le_of_ble_eq_true rfl) rfl rfl
  have gB4 : h4.get B = some (.cells ({ WStep.zero with kind := x.kind,at_ := x.at_ } : WStep).cells 52 false false none) := g4
  have gx4 : h4.get bx = some (.cells x.cells 52 false false none) := by rw [k4.get _ hlt]; exact gx
  have kk4 : Kp h h4 := Keeps.trans (n := h.size) kk (k4.mono hle)
  obtain ⟨h5,e5,g5,k5,z5⟩ := put_ex (o := 3) (ws := [.int .i64 x.client]) gB4 (Nat.le_of_ble_eq_true rfl) rfl rfl
  have gB5 : h5.get B = some (.cells ({ WStep.zero with kind := x.kind,at_ := x.at_,client := x.client } : WStep).cells 52 false false none) := g5
  have gx5 : h5.get bx = some (.cells x.cells 52 false false none) := by rw [k5.get _ hlt]; exact gx4
  have kk5 : Kp h h5 := Keeps.trans (n := h.size) kk4 (k5.mono hle)
  obtain ⟨h6,e6,g6,k6,z6⟩ := put_ex (o := 4) (ws := x.op.cells) gB5 (Nat.le_of_ble_eq_true rfl) rfl rfl
  have gB6 : h6.get B = some (.cells ({ WStep.zero with kind := x.kind,at_ := x.at_,client := x.client,op := x.op } : WStep).cells 52 false false none) := g6
  have gx6 : h6.get bx = some (.cells x.cells 52 false false none) := by rw [k6.get _ hlt]; exact gx5
  have kk6 : Kp h h6 := Keeps.trans (n := h.size) kk5 (k6.mono hle)
  have p1 : List.take 2 (List.drop 1 x.cells) = x.at_.cells := rfl
  have j1 : V.njL x.at_.cells = true := rfl
  have p4 : List.take 8 (List.drop 4 x.cells) = x.op.cells := rfl
  have j4 : V.njL x.op.cells = true := rfl
  have hb : bareOf x = { WStep.zero with kind := x.kind,at_ := x.at_,client := x.client,op := x.op } := by simp [bareOf,hk]
  have l1 := Lib.itoa_length_le x.client hx.client.1 hx.client.2
  have lo := opS_len hx.opnode hx.opparent hx.opname hx.opkey hx.opvalue
  have lj : (joinB (itoas [x.client])).length ≤ 30 := by rw [itoas1]; omega
  have f1 : Fit (cat [119,114,105,116,101,32] (atS x)) := by simp only [Fit,cat,List.length_append,List.length_cons,List.length_nil]; omega
  have f2 : Fit (cat (cat [119,114,105,116,101,32] (atS x)) [32]) := by simp only [Fit,cat,List.length_append,List.length_cons,List.length_nil]; omega
  have f3 : Fit (cat (cat (cat [119,114,105,116,101,32] (atS x)) [32]) (joinB (itoas [x.client]))) := by simp only [Fit,cat,List.length_append,List.length_cons,List.length_nil]; omega
  have f4 : Fit (cat (cat (cat (cat [119,114,105,116,101,32] (atS x)) [32]) (joinB (itoas [x.client]))) [32]) := by simp only [Fit,cat,List.length_append,List.length_cons,List.length_nil]; omega
  have f5 : Fit (cat (cat (cat (cat (cat [119,114,105,116,101,32] (atS x)) [32]) (joinB (itoas [x.client]))) [32]) (opS x.op)) := by simp only [Fit,cat,List.length_append,List.length_cons,List.length_nil]; omega
  simp (maxSteps := 2000000) only [GO,GO2,evK,fillV,setR,binV,intOp,strOp_cat,strOp_eql,strOp_neq,shOp,unV,getR,lenV,partV,V.nj,V.njL,V.cells,Nat.reduceLT,Nat.reduceEqDiff,Nat.reduceAdd,↓reduceIte,Nat.reduceLeDiff,reduceCtorEq,blk9,r23,hn1,r9_5,hn12,r9_6,hn2,r9_9]
  rw [X_draw]
  refine k9_10 B (XDJ_XDK ?_)
  simp (maxSteps := 2000000) only [GO,GO2,evK,fillV,setR,binV,intOp,strOp_cat,strOp_eql,strOp_neq,shOp,unV,getR,lenV,partV,V.nj,V.njL,V.cells,Nat.reduceLT,Nat.reduceEqDiff,Nat.reduceAdd,↓reduceIte,Nat.reduceLeDiff,reduceCtorEq,r9_10,r1,r5,gx,p1,j1,Addr.len,WStep.g3,p4,j4,Opr.len,WStep.len,hlt,e4]
  refine ⟨k4,?_⟩
  simp (maxSteps := 2000000) only [GO,GO2,evK,fillV,setR,binV,intOp,strOp_cat,strOp_eql,strOp_neq,shOp,unV,getR,lenV,partV,V.nj,V.njL,V.cells,Nat.reduceLT,Nat.reduceEqDiff,Nat.reduceAdd,↓reduceIte,Nat.reduceLeDiff,reduceCtorEq,e5,r5,p1,j1,Addr.len,WStep.g3,p4,j4,Opr.len]
  refine ⟨k5,?_⟩
  simp (maxSteps := 2000000) only [GO,GO2,evK,fillV,setR,binV,intOp,strOp_cat,strOp_eql,strOp_neq,shOp,unV,getR,lenV,partV,V.nj,V.njL,V.cells,Nat.reduceLT,Nat.reduceEqDiff,Nat.reduceAdd,↓reduceIte,Nat.reduceLeDiff,reduceCtorEq,e6,r5,p1,j1,Addr.len,WStep.g3,p4,j4,Opr.len]
  refine ⟨k6,?_⟩
  simp (maxSteps := 2000000) only [GO,GO2,evK,fillV,setR,binV,intOp,strOp_cat,strOp_eql,strOp_neq,shOp,unV,getR,lenV,partV,V.nj,V.njL,V.cells,Nat.reduceLT,Nat.reduceEqDiff,Nat.reduceAdd,↓reduceIte,Nat.reduceLeDiff,reduceCtorEq,r9_11,r1,gx6,p1,j1,Addr.len,WStep.g3,p4,j4,Opr.len,WStep.len]
  refine XC_of (opText25 F (F.tkeep _ _ ht kk6) hx.opnode hx.opparent hx.opname hx.opkey hx.opvalue) ?_
  rintro _ h8 ⟨rfl,k8⟩
  have gx8 := Kp.of k8 gx6
  have gB8 := Kp.of k8 gB6
  have kk8 := Kp.trans kk6 k8
  have kp : Kp h8 (h8.psh (.cells [.int .i64 x.client] 3 false false none)) := Keeps.psh (Nat.le_refl _) _
  simp (maxSteps := 2000000) only [GO,GO2,evK,fillV,setR,binV,intOp,strOp_cat,strOp_eql,strOp_neq,shOp,unV,getR,lenV,partV,V.nj,V.njL,V.cells,Nat.reduceLT,Nat.reduceEqDiff,Nat.reduceAdd,↓reduceIte,Nat.reduceLeDiff,reduceCtorEq,r9_12,r1,r4,gx8,p1,j1,Addr.len,WStep.g3,p4,j4,Opr.len,WStep.len,f1,f2]
  refine XC_of (nums F (xs := [x.client]) (by simp) (ini1 hx.client) (F.tkeep _ _ ht (Kp.trans kk8 kp)) (sl_ints h8 [x.client])) ?_
  rintro _ h9 ⟨rfl,k9⟩
  have k9' := Kp.trans kp k9
  simp (maxSteps := 2000000) only [GO,GO2,evK,fillV,setR,binV,intOp,strOp_cat,strOp_eql,strOp_neq,shOp,unV,getR,lenV,partV,V.nj,V.njL,V.cells,Nat.reduceLT,Nat.reduceEqDiff,Nat.reduceAdd,↓reduceIte,Nat.reduceLeDiff,reduceCtorEq,f3,f4,f5,rest9]
  exact stepEnd9 F hx.ent (Kp.of k9' gB8) (Kp.of k9' gx8) (Kp.trans kk8 k9') r1 r5 rfl rfl r8 (by rw [← hb]; simp [stepOk,txtOk,hk,opOk]) (fun _ => by simp [stepS,hk,cat,itoas1])
set_option maxRecDepth 100000 in
set_option maxHeartbeats 4000000 in
theorem step9_4 (F : Fns P E T) {x : WStep} {h : H} {s0 : List UInt8} (ht : T h) (hx : SIn h x s0) (hk : x.kind = 4) : Sp P E (.func 9 [] []) [.agg x.cells] h fun v h' => v = resA (stepOk x) (stepS x) ∧ Kp h h' := by
  refine step9_pre F ht hx fun ρ h3 bx B hlt gx gB kk hle r1 r4 r5 r6 r7 r8 r23 => ?_
  have hn1 : (x.kind == 1) = false := by rw [hk]; rfl
  have hn12 : (x.kind == 12) = false := by rw [hk]; rfl
  have hn2 : (x.kind == 2) = false := by rw [hk]; rfl
  have hn3 : (x.kind == 3) = false := by rw [hk]; rfl
  have hn4 : (x.kind == 4) = true := by rw [hk]; rfl
  have la := atS_len hx.group hx.replica
  obtain ⟨h4,e4,g4,k4,z4⟩ := put_ex (o := 1) (ws := x.at_.cells) gB (Nat.le_of_ble_eq_true rfl) rfl rfl
  have gB4 : h4.get B = some (.cells ({ WStep.zero with kind := x.kind,at_ := x.at_ } : WStep).cells 52 false false none) := g4
  have gx4 : h4.get bx = some (.cells x.cells 52 false false none) := by rw [k4.get _ hlt]; exact gx
  have kk4 : Kp h h4 := Keeps.trans (n := h.size) kk (k4.mono hle)
  obtain ⟨h5,e5,g5,k5,z5⟩ := put_ex (o := 3) (ws := [.int .i64 x.client]) gB4 (Nat.le_of_ble_eq_true rfl) rfl rfl
  have gB5 : h5.get B = some (.cells ({ WStep.zero with kind := x.kind,at_ := x.at_,client := x.client } : WStep).cells 52 false false none) := g5
  have gx5 : h5.get bx = some (.cells x.cells 52 false false none) := by rw [k5.get _ hlt]; exact gx4
  have kk5 : Kp h h5 := Keeps.trans (n := h.size) kk4 (k5.mono hle)
  obtain ⟨h6,e6,g6,k6,z6⟩ := put_ex (o := 12) (ws := x.query.cells) gB5 (Nat.le_of_ble_eq_true rfl) rfl rfl
  have gB6 : h6.get B = some (.cells ({ WStep.zero with kind := x.kind,at_ := x.at_,client := x.client,query := x.query } : WStep).cells 52 false false none) := g6
  have gx6 : h6.get bx = some (.cells x.cells 52 false false none) := by rw [k6.get _ hlt]; exact gx5
  have kk6 : Kp h h6 := Keeps.trans (n := h.size) kk5 (k6.mono hle)
  have p1 : List.take 2 (List.drop 1 x.cells) = x.at_.cells := rfl
  have j1 : V.njL x.at_.cells = true := rfl
  have p12 : List.take 3 (List.drop 12 x.cells) = x.query.cells := rfl
  have j12 : V.njL x.query.cells = true := rfl
  have hb : bareOf x = { WStep.zero with kind := x.kind,at_ := x.at_,client := x.client,query := x.query } := by simp [bareOf,hk]
  have l1 := Lib.itoa_length_le x.client hx.client.1 hx.client.2
  have lo := queryS_len hx.qnode hx.qpath
  have lj : (joinB (itoas [x.client])).length ≤ 30 := by rw [itoas1]; omega
  have f1 : Fit (cat [114,101,97,100,32] (atS x)) := by simp only [Fit,cat,List.length_append,List.length_cons,List.length_nil]; omega
  have f2 : Fit (cat (cat [114,101,97,100,32] (atS x)) [32]) := by simp only [Fit,cat,List.length_append,List.length_cons,List.length_nil]; omega
  have f3 : Fit (cat (cat (cat [114,101,97,100,32] (atS x)) [32]) (joinB (itoas [x.client]))) := by simp only [Fit,cat,List.length_append,List.length_cons,List.length_nil]; omega
  have f4 : Fit (cat (cat (cat (cat [114,101,97,100,32] (atS x)) [32]) (joinB (itoas [x.client]))) [32]) := by simp only [Fit,cat,List.length_append,List.length_cons,List.length_nil]; omega
  have f5 : Fit (cat (cat (cat (cat (cat [114,101,97,100,32] (atS x)) [32]) (joinB (itoas [x.client]))) [32]) (queryS x.query)) := by simp only [Fit,cat,List.length_append,List.length_cons,List.length_nil]; omega
  simp (maxSteps := 2000000) only [GO,GO2,evK,fillV,setR,binV,intOp,strOp_cat,strOp_eql,strOp_neq,shOp,unV,getR,lenV,partV,V.nj,V.njL,V.cells,Nat.reduceLT,Nat.reduceEqDiff,Nat.reduceAdd,↓reduceIte,Nat.reduceLeDiff,reduceCtorEq,blk9,r23,hn1,r9_5,hn12,r9_6,hn2,r9_9,hn3,r9_13,hn4,r9_16]
  rw [X_draw]
  refine k9_17 B (XDJ_XDK ?_)
  simp (maxSteps := 2000000) only [GO,GO2,evK,fillV,setR,binV,intOp,strOp_cat,strOp_eql,strOp_neq,shOp,unV,getR,lenV,partV,V.nj,V.njL,V.cells,Nat.reduceLT,Nat.reduceEqDiff,Nat.reduceAdd,↓reduceIte,Nat.reduceLeDiff,reduceCtorEq,r9_17,r1,r5,gx,p1,j1,Addr.len,WStep.g3,p12,j12,Query.len,WStep.len,hlt,e4]
  refine ⟨k4,?_⟩
  simp (maxSteps := 2000000) only [GO,GO2,evK,fillV,setR,binV,intOp,strOp_cat,strOp_eql,strOp_neq,shOp,unV,getR,lenV,partV,V.nj,V.njL,V.cells,Nat.reduceLT,Nat.reduceEqDiff,Nat.reduceAdd,↓reduceIte,Nat.reduceLeDiff,reduceCtorEq,e5,r5,p1,j1,Addr.len,WStep.g3,p12,j12,Query.len]
  refine ⟨k5,?_⟩
  simp (maxSteps := 2000000) only [GO,GO2,evK,fillV,setR,binV,intOp,strOp_cat,strOp_eql,strOp_neq,shOp,unV,getR,lenV,partV,V.nj,V.njL,V.cells,Nat.reduceLT,Nat.reduceEqDiff,Nat.reduceAdd,↓reduceIte,Nat.reduceLeDiff,reduceCtorEq,e6,r5,p1,j1,Addr.len,WStep.g3,p12,j12,Query.len]
  refine ⟨k6,?_⟩
  simp (maxSteps := 2000000) only [GO,GO2,evK,fillV,setR,binV,intOp,strOp_cat,strOp_eql,strOp_neq,shOp,unV,getR,lenV,partV,V.nj,V.njL,V.cells,Nat.reduceLT,Nat.reduceEqDiff,Nat.reduceAdd,↓reduceIte,Nat.reduceLeDiff,reduceCtorEq,r9_18,r1,gx6,p1,j1,Addr.len,WStep.g3,p12,j12,Query.len,WStep.len]
  refine XC_of (queryText26 F (F.tkeep _ _ ht kk6) hx.qnode hx.qpath) ?_
  rintro _ h8 ⟨rfl,k8⟩
  have gx8 := Kp.of k8 gx6
  have gB8 := Kp.of k8 gB6
  have kk8 := Kp.trans kk6 k8
  have kp : Kp h8 (h8.psh (.cells [.int .i64 x.client] 3 false false none)) := Keeps.psh (Nat.le_refl _) _
  simp (maxSteps := 2000000) only [GO,GO2,evK,fillV,setR,binV,intOp,strOp_cat,strOp_eql,strOp_neq,shOp,unV,getR,lenV,partV,V.nj,V.njL,V.cells,Nat.reduceLT,Nat.reduceEqDiff,Nat.reduceAdd,↓reduceIte,Nat.reduceLeDiff,reduceCtorEq,r9_19,r1,r4,gx8,p1,j1,Addr.len,WStep.g3,p12,j12,Query.len,WStep.len,f1,f2]
  refine XC_of (nums F (xs := [x.client]) (by simp) (ini1 hx.client) (F.tkeep _ _ ht (Kp.trans kk8 kp)) (sl_ints h8 [x.client])) ?_
  rintro _ h9 ⟨rfl,k9⟩
  have k9' := Kp.trans kp k9
  simp (maxSteps := 2000000) only [GO,GO2,evK,fillV,setR,binV,intOp,strOp_cat,strOp_eql,strOp_neq,shOp,unV,getR,lenV,partV,V.nj,V.njL,V.cells,Nat.reduceLT,Nat.reduceEqDiff,Nat.reduceAdd,↓reduceIte,Nat.reduceLeDiff,reduceCtorEq,f3,f4,f5,rest9]
  exact stepEnd9 F hx.ent (Kp.of k9' gB8) (Kp.of k9' gx8) (Kp.trans kk8 k9') r1 r5 rfl rfl r8 (by rw [← hb]; simp [stepOk,txtOk,hk]) (fun _ => by simp [stepS,hk,cat,itoas1])
set_option maxRecDepth 100000 in
set_option maxHeartbeats 4000000 in
theorem step9_9 (F : Fns P E T) {x : WStep} {h : H} {s0 : List UInt8} (ht : T h) (hx : SIn h x s0) (hk : x.kind = 9) : Sp P E (.func 9 [] []) [.agg x.cells] h fun v h' => v = resA (stepOk x) (stepS x) ∧ Kp h h' := by
  refine step9_pre F ht hx fun ρ h3 bx B hlt gx gB kk hle r1 r4 r5 r6 r7 r8 r23 => ?_
  have hn1 : (x.kind == 1) = false := by rw [hk]; rfl
  have hn12 : (x.kind == 12) = false := by rw [hk]; rfl
  have hn2 : (x.kind == 2) = false := by rw [hk]; rfl
  have hn3 : (x.kind == 3) = false := by rw [hk]; rfl
  have hn4 : (x.kind == 4) = false := by rw [hk]; rfl
  have hn5 : (x.kind == 5) = false := by rw [hk]; rfl
  have hn6 : (x.kind == 6) = false := by rw [hk]; rfl
  have hn7 : (x.kind == 7) = false := by rw [hk]; rfl
  have hn8 : (x.kind == 8) = false := by rw [hk]; rfl
  have hn9 : (x.kind == 9) = true := by rw [hk]; rfl
  have la := atS_len hx.group hx.replica
  obtain ⟨h4,e4,g4,k4,z4⟩ := put_ex (o := 71) (ws := [.int .i64 x.number]) gB (Nat.le_of_ble_eq_true rfl) rfl rfl
  have gB4 : h4.get B = some (.cells ({ WStep.zero with kind := x.kind,number := x.number } : WStep).cells 52 false false none) := g4
  have gx4 : h4.get bx = some (.cells x.cells 52 false false none) := by rw [k4.get _ hlt]; exact gx
  have kk4 : Kp h h4 := Keeps.trans (n := h.size) kk (k4.mono hle)
  obtain ⟨h5,e5,g5,k5,z5⟩ := put_ex (o := 72) (ws := [.int .i64 x.place]) gB4 (Nat.le_of_ble_eq_true rfl) rfl rfl
  have gB5 : h5.get B = some (.cells ({ WStep.zero with kind := x.kind,number := x.number,place := x.place } : WStep).cells 52 false false none) := g5
  have gx5 : h5.get bx = some (.cells x.cells 52 false false none) := by rw [k5.get _ hlt]; exact gx4
  have kk5 : Kp h h5 := Keeps.trans (n := h.size) kk4 (k5.mono hle)
  obtain ⟨h6,e6,g6,k6,z6⟩ := put_ex (o := 73) (ws := [.int .u8 x.wth]) gB5 (Nat.le_of_ble_eq_true rfl) rfl rfl
  have gB6 : h6.get B = some (.cells ({ WStep.zero with kind := x.kind,number := x.number,place := x.place,wth := x.wth } : WStep).cells 52 false false none) := g6
  have gx6 : h6.get bx = some (.cells x.cells 52 false false none) := by rw [k6.get _ hlt]; exact gx5
  have kk6 : Kp h h6 := Keeps.trans (n := h.size) kk5 (k6.mono hle)
  have hb : bareOf x = { WStep.zero with kind := x.kind,number := x.number,place := x.place,wth := x.wth } := by simp [bareOf,hk]
  have hw : InI x.wth := ⟨by have := hx.wth.1; omega,by have := hx.wth.2; omega⟩
  have l0 := Lib.itoa_length_le x.number hx.number.1 hx.number.2
  have l1 := Lib.itoa_length_le x.place hx.place.1 hx.place.2
  have l2 := Lib.itoa_length_le x.wth hw.1 hw.2
  have lj : (joinB (itoas [x.place,x.wth])).length ≤ 50 := by rw [itoas2]; omega
  have hwr : IntKind.i64.wrap x.wth = x.wth := wrap_le hw.1 hw.2
  have f1 : Fit (cat [115,112,111,105,108,32] (itoa x.number)) := by simp only [Fit,cat,List.length_append,List.length_cons,List.length_nil]; omega
  have f2 : Fit (cat (cat [115,112,111,105,108,32] (itoa x.number)) [32]) := by simp only [Fit,cat,List.length_append,List.length_cons,List.length_nil]; omega
  have f3 : Fit (cat (cat (cat [115,112,111,105,108,32] (itoa x.number)) [32]) (joinB (itoas [x.place,x.wth]))) := by simp only [Fit,cat,List.length_append,List.length_cons,List.length_nil]; omega
  simp (maxSteps := 2000000) only [GO,GO2,evK,fillV,setR,binV,intOp,strOp_cat,strOp_eql,strOp_neq,shOp,unV,getR,lenV,partV,V.nj,V.njL,V.cells,Nat.reduceLT,Nat.reduceEqDiff,Nat.reduceAdd,↓reduceIte,Nat.reduceLeDiff,reduceCtorEq,blk9,r23,hn1,r9_5,hn12,r9_6,hn2,r9_9,hn3,r9_13,hn4,r9_16,hn5,r9_20,hn6,r9_24,hn7,r9_25,hn8,r9_26,hn9,r9_29]
  rw [X_draw]
  refine k9_30 B (XDJ_XDK ?_)
  simp (maxSteps := 2000000) only [GO,GO2,evK,fillV,setR,binV,intOp,strOp_cat,strOp_eql,strOp_neq,shOp,unV,getR,lenV,partV,V.nj,V.njL,V.cells,Nat.reduceLT,Nat.reduceEqDiff,Nat.reduceAdd,↓reduceIte,Nat.reduceLeDiff,reduceCtorEq,r9_30,r1,r5,gx,WStep.g71,WStep.g72,WStep.g73,WStep.len,hlt,e4]
  refine ⟨k4,?_⟩
  simp (maxSteps := 2000000) only [GO,GO2,evK,fillV,setR,binV,intOp,strOp_cat,strOp_eql,strOp_neq,shOp,unV,getR,lenV,partV,V.nj,V.njL,V.cells,Nat.reduceLT,Nat.reduceEqDiff,Nat.reduceAdd,↓reduceIte,Nat.reduceLeDiff,reduceCtorEq,e5,r5,WStep.g71,WStep.g72,WStep.g73]
  refine ⟨k5,?_⟩
  simp (maxSteps := 2000000) only [GO,GO2,evK,fillV,setR,binV,intOp,strOp_cat,strOp_eql,strOp_neq,shOp,unV,getR,lenV,partV,V.nj,V.njL,V.cells,Nat.reduceLT,Nat.reduceEqDiff,Nat.reduceAdd,↓reduceIte,Nat.reduceLeDiff,reduceCtorEq,e6,r5,WStep.g71,WStep.g72,WStep.g73]
  refine ⟨k6,?_⟩
  have kp : Kp h6 (h6.psh (.cells [.int .i64 x.place,.int .i64 x.wth] 3 false false none)) := Keeps.psh (Nat.le_refl _) _
  rw [X_draw]
  refine d9_31 ?_
  simp (maxSteps := 2000000) only [GO,GO2,evK,fillV,setR,binV,intOp,strOp_cat,strOp_eql,strOp_neq,shOp,unV,getR,lenV,partV,V.nj,V.njL,V.cells,Nat.reduceLT,Nat.reduceEqDiff,Nat.reduceAdd,↓reduceIte,Nat.reduceLeDiff,reduceCtorEq,r9_31,r1,r4,gx6,WStep.g71,WStep.g72,WStep.g73,WStep.len]
  refine XCQ_of (num27 F hx.number (F.tkeep _ _ ht kk6)) ?_
  rintro _ h8 ⟨rfl,rfl⟩
  refine ⟨Keeps.refl _ _,?_⟩
  simp (maxSteps := 2000000) only [GO,GO2,evK,fillV,setR,binV,intOp,strOp_cat,strOp_eql,strOp_neq,shOp,unV,getR,lenV,partV,V.nj,V.njL,V.cells,Nat.reduceLT,Nat.reduceEqDiff,Nat.reduceAdd,↓reduceIte,Nat.reduceLeDiff,reduceCtorEq,r1,r4,gx6,WStep.g71,WStep.g72,WStep.g73,WStep.len,f1,f2,hwr]
  refine ⟨kp,?_⟩
  refine XCQ_of (nums F (xs := [x.place,x.wth]) (by simp) (ini2 hx.place hw) (F.tkeep _ _ ht (Kp.trans kk6 kp)) (sl_ints h8 [x.place,x.wth])) ?_
  rintro _ h9 ⟨rfl,k9⟩
  refine ⟨k9,?_⟩
  have k9' := Kp.trans kp k9
  simp (maxSteps := 2000000) only [GO,GO2,evK,fillV,setR,binV,intOp,strOp_cat,strOp_eql,strOp_neq,shOp,unV,getR,lenV,partV,V.nj,V.njL,V.cells,Nat.reduceLT,Nat.reduceEqDiff,Nat.reduceAdd,↓reduceIte,Nat.reduceLeDiff,reduceCtorEq,f3,rest9]
  exact stepEnd9 F hx.ent (Kp.of k9' gB6) (Kp.of k9' gx6) (Kp.trans kk6 k9') r1 r5 rfl r7 r8 (by rw [← hb]; simp [stepOk,txtOk,hk]) (fun _ => by simp [stepS,hk,cat])
set_option maxRecDepth 100000 in
set_option maxHeartbeats 4000000 in
theorem step9_5 (F : Fns P E T) {x : WStep} {h : H} {s0 : List UInt8} (ht : T h) (hx : SIn h x s0) (hk : x.kind = 5) : Sp P E (.func 9 [] []) [.agg x.cells] h fun v h' => v = resA (stepOk x) (stepS x) ∧ Kp h h' := by
  refine step9_pre F ht hx fun ρ h3 bx B hlt gx gB kk hle r1 r4 r5 r6 r7 r8 r23 => ?_
  have hn1 : (x.kind == 1) = false := by rw [hk]; rfl
  have hn12 : (x.kind == 12) = false := by rw [hk]; rfl
  have hn2 : (x.kind == 2) = false := by rw [hk]; rfl
  have hn3 : (x.kind == 3) = false := by rw [hk]; rfl
  have hn4 : (x.kind == 4) = false := by rw [hk]; rfl
  have hn5 : (x.kind == 5) = true := by rw [hk]; rfl
  have la := atS_len hx.group hx.replica
  obtain ⟨h4,e4,g4,k4,z4⟩ := put_ex (o := 1) (ws := x.at_.cells) gB (Nat.le_of_ble_eq_true rfl) rfl rfl
  have gB4 : h4.get B = some (.cells ({ WStep.zero with kind := x.kind,at_ := x.at_ } : WStep).cells 52 false false none) := g4
  have gx4 : h4.get bx = some (.cells x.cells 52 false false none) := by rw [k4.get _ hlt]; exact gx
  have kk4 : Kp h h4 := Keeps.trans (n := h.size) kk (k4.mono hle)
  have p1 : List.take 2 (List.drop 1 x.cells) = x.at_.cells := rfl
  have j1 : V.njL x.at_.cells = true := rfl
  have hb : bareOf x = { WStep.zero with kind := x.kind,at_ := x.at_ } := by simp [bareOf,hk]
  have p15 : ∀ z : WStep,List.take 56 (List.drop 15 z.cells) = z.entry.cells := fun _ => rfl
  have le := entS_len hx.site hx.sponsor hx.length
  simp (maxSteps := 2000000) only [GO,GO2,evK,fillV,setR,binV,intOp,strOp_cat,strOp_eql,strOp_neq,shOp,unV,getR,lenV,partV,V.nj,V.njL,V.cells,Nat.reduceLT,Nat.reduceEqDiff,Nat.reduceAdd,↓reduceIte,Nat.reduceLeDiff,reduceCtorEq,blk9,r23,hn1,r9_5,hn12,r9_6,hn2,r9_9,hn3,r9_13,hn4,r9_16,hn5,r9_20,r9_21,r1,r5,gx,p1,j1,Addr.len,WStep.len,e4]
  simp (maxSteps := 2000000) only [GO,GO2,evK,fillV,setR,binV,intOp,strOp_cat,strOp_eql,strOp_neq,shOp,unV,getR,lenV,partV,V.nj,V.njL,V.cells,Nat.reduceLT,Nat.reduceEqDiff,Nat.reduceAdd,↓reduceIte,Nat.reduceLeDiff,reduceCtorEq,r9_22,r1,gx4,p15,WStep.len]
  refine XC_of (entry12 F (F.tkeep _ _ ht kk4) (hx.ent.keep kk4) hx.site hx.sponsor hx.length) ?_
  rintro _ h8 ⟨rfl,k8⟩
  have gx8 := Kp.of k8 gx4
  have gB8 := Kp.of k8 gB4
  have kk8 := Kp.trans kk4 k8
  have f1 : Fit (cat [99,111,110,102,32] (atS x)) := by simp only [Fit,cat,List.length_append,List.length_cons,List.length_nil]; omega
  have f2 : Fit (cat (cat [99,111,110,102,32] (atS x)) [32]) := by simp only [Fit,cat,List.length_append,List.length_cons,List.length_nil]; omega
  by_cases he : entOk x.entry
  · have ea : entA x.entry = .tup [.str (entS x.entry),.int .i64 0] := by unfold entA; rw [if_pos he]
    have f3 : Fit (cat (cat (cat [99,111,110,102,32] (atS x)) [32]) (entS x.entry)) := by simp only [Fit,cat,List.length_append,List.length_cons,List.length_nil]; omega
    have z0 : ((0 : Int) == 0) = true := rfl
    simp (maxSteps := 2000000) only [GO,GO2,evK,fillV,setR,binV,intOp,strOp_cat,strOp_eql,strOp_neq,shOp,unV,getR,lenV,partV,V.nj,V.njL,V.cells,Nat.reduceLT,Nat.reduceEqDiff,Nat.reduceAdd,↓reduceIte,Nat.reduceLeDiff,reduceCtorEq,ea,r9_23,r4,f1,f2,f3,z0,rest9]
    exact stepEnd9 F hx.ent gB8 gx8 kk8 r1 r5 rfl rfl rfl (by rw [← hb]; simp [stepOk,txtOk,hk,he]) (fun _ => by simp [stepS,hk,cat])
  · have ea : entA x.entry = .tup [.str [],.int .i64 1] := by unfold entA; rw [if_neg he]
    have f3 : Fit (cat (cat (cat [99,111,110,102,32] (atS x)) [32]) []) := by simp only [Fit,cat,List.length_append,List.length_cons,List.length_nil]; omega
    have z0 : ((1 : Int) == 0) = false := rfl
    have hno : ¬ stepOk x := fun h => by have := h.2.1; simp [txtOk,hk,he] at this
    simp (maxSteps := 2000000) only [GO,GO2,evK,fillV,setR,binV,intOp,strOp_cat,strOp_eql,strOp_neq,shOp,unV,getR,lenV,partV,V.nj,V.njL,V.cells,Nat.reduceLT,Nat.reduceEqDiff,Nat.reduceAdd,↓reduceIte,Nat.reduceLeDiff,reduceCtorEq,ea,r9_23,r4,f1,f2,f3,z0,rest9]
    exact stepEnd9 F hx.ent gB8 gx8 kk8 r1 r5 rfl rfl rfl (by simp [hno]) (fun h => absurd h hno)
set_option maxRecDepth 100000 in
set_option maxHeartbeats 4000000 in
theorem step9_1 (F : Fns P E T) {x : WStep} {h : H} {s0 : List UInt8} (ht : T h) (hx : SIn h x s0) (hk : x.kind = 1) : Sp P E (.func 9 [] []) [.agg x.cells] h fun v h' => v = resA (stepOk x) (stepS x) ∧ Kp h h' := by
  refine step9_pre F ht hx fun ρ h3 bx B hlt gx gB kk hle r1 r4 r5 r6 r7 r8 r23 => ?_
  have hn1 : (x.kind == 1) = true := by rw [hk]; rfl
  have la := atS_len hx.group hx.replica
  obtain ⟨h4,e4,g4,k4,z4⟩ := put_ex (o := 1) (ws := x.at_.cells) gB (Nat.le_of_ble_eq_true rfl) rfl rfl
  have gB4 : h4.get B = some (.cells ({ WStep.zero with kind := x.kind,at_ := x.at_ } : WStep).cells 52 false false none) := g4
  have gx4 : h4.get bx = some (.cells x.cells 52 false false none) := by rw [k4.get _ hlt]; exact gx
  have kk4 : Kp h h4 := Keeps.trans (n := h.size) kk (k4.mono hle)
  have p1 : List.take 2 (List.drop 1 x.cells) = x.at_.cells := rfl
  have j1 : V.njL x.at_.cells = true := rfl
  have hb : bareOf x = { WStep.zero with kind := x.kind,at_ := x.at_ } := by simp [bareOf,hk]
  have f1 : Fit (cat [116,105,99,107,32] (atS x)) := by simp only [Fit,cat,List.length_append,List.length_cons,List.length_nil]; omega
  have m0 := psh_same h4 (.map [] 0)
  have hsz : h4.size < (h4.psh (.map [] 0)).size := Nat.lt_succ_self _
  have m1 := set_at (o := .map [(.int .i64 1,.str [116,105,99,107,32],0)] 1) hsz
  have hsz2 : h4.size < ((h4.psh (.map [] 0)).set h4.size (.map [(.int .i64 1,.str [116,105,99,107,32],0)] 1)).size := hsz
  have m2 := set_at (o := .map [(.int .i64 1,.str [116,105,99,107,32],0),(.int .i64 12,.str [114,101,115,116,97,114,116,32],1)] (1 + 1)) hsz2
  have q0 : findK .int (.int .i64 1) [] 0 = some none := rfl
  have q1 : findK .int (.int .i64 12) [(.int .i64 1,.str [116,105,99,107,32],0)] 0 = some none := rfl
  have q2 : findK .int (.int .i64 x.kind) [(.int .i64 1,.str [116,105,99,107,32],0),(.int .i64 12,.str [114,101,115,116,97,114,116,32],1)] 0 = some (some (0,.str [116,105,99,107,32])) := by rw [hk]; rfl
  have km := Keeps.trans (Keeps.psh (n := h4.size) (Nat.le_refl _) (.map [] 0)) (Keeps.trans (Keeps.set hsz (Nat.le_refl _) (.map [(.int .i64 1,.str [116,105,99,107,32],0)] 1)) (Keeps.set hsz2 (Nat.le_refl _) (.map [(.int .i64 1,.str [116,105,99,107,32],0),(.int .i64 12,.str [114,101,115,116,97,114,116,32],1)] (1 + 1))))
  have gxm := Kp.of km gx4
  have gBm := Kp.of km gB4
  have kkm := Kp.trans kk4 km
  simp (maxSteps := 2000000) only [GO,GO2,evK,fillV,setR,binV,intOp,strOp_cat,strOp_eql,strOp_neq,shOp,unV,getR,lenV,partV,V.nj,V.njL,V.cells,Nat.reduceLT,Nat.reduceEqDiff,Nat.reduceAdd,↓reduceIte,Nat.reduceLeDiff,reduceCtorEq,blk9,r23,hn1,r9_5,r9_7,r1,r5,gx,p1,j1,Addr.len,WStep.len,e4]
  simp (maxSteps := 2000000) only [GO,GO2,evK,fillV,setR,binV,intOp,strOp_cat,strOp_eql,strOp_neq,shOp,unV,getR,lenV,partV,V.nj,V.njL,V.cells,Nat.reduceLT,Nat.reduceEqDiff,Nat.reduceAdd,↓reduceIte,Nat.reduceLeDiff,reduceCtorEq,r9_8,r1,r4,m0,m1,q0,q1]
  simp (maxSteps := 2000000) only [GO,GO2,evK,fillV,setR,binV,intOp,strOp_cat,strOp_eql,strOp_neq,shOp,unV,getR,lenV,partV,V.nj,V.njL,V.cells,Nat.reduceLT,Nat.reduceEqDiff,Nat.reduceAdd,↓reduceIte,Nat.reduceLeDiff,reduceCtorEq,m2,gxm,WStep.g0,q2,f1,r4,r1,rest9]
  exact stepEnd9 F hx.ent gBm gxm kkm r1 r5 rfl r7 r8 (by rw [← hb]; simp [stepOk,txtOk,hk]) (fun _ => by simp [stepS,hk,cat])
set_option maxRecDepth 100000 in
set_option maxHeartbeats 4000000 in
theorem step9_12 (F : Fns P E T) {x : WStep} {h : H} {s0 : List UInt8} (ht : T h) (hx : SIn h x s0) (hk : x.kind = 12) : Sp P E (.func 9 [] []) [.agg x.cells] h fun v h' => v = resA (stepOk x) (stepS x) ∧ Kp h h' := by
  refine step9_pre F ht hx fun ρ h3 bx B hlt gx gB kk hle r1 r4 r5 r6 r7 r8 r23 => ?_
  have hn1 : (x.kind == 1) = false := by rw [hk]; rfl
  have hn12 : (x.kind == 12) = true := by rw [hk]; rfl
  have la := atS_len hx.group hx.replica
  obtain ⟨h4,e4,g4,k4,z4⟩ := put_ex (o := 1) (ws := x.at_.cells) gB (Nat.le_of_ble_eq_true rfl) rfl rfl
  have gB4 : h4.get B = some (.cells ({ WStep.zero with kind := x.kind,at_ := x.at_ } : WStep).cells 52 false false none) := g4
  have gx4 : h4.get bx = some (.cells x.cells 52 false false none) := by rw [k4.get _ hlt]; exact gx
  have kk4 : Kp h h4 := Keeps.trans (n := h.size) kk (k4.mono hle)
  have p1 : List.take 2 (List.drop 1 x.cells) = x.at_.cells := rfl
  have j1 : V.njL x.at_.cells = true := rfl
  have hb : bareOf x = { WStep.zero with kind := x.kind,at_ := x.at_ } := by simp [bareOf,hk]
  have f1 : Fit (cat [114,101,115,116,97,114,116,32] (atS x)) := by simp only [Fit,cat,List.length_append,List.length_cons,List.length_nil]; omega
  have m0 := psh_same h4 (.map [] 0)
  have hsz : h4.size < (h4.psh (.map [] 0)).size := Nat.lt_succ_self _
  have m1 := set_at (o := .map [(.int .i64 1,.str [116,105,99,107,32],0)] 1) hsz
  have hsz2 : h4.size < ((h4.psh (.map [] 0)).set h4.size (.map [(.int .i64 1,.str [116,105,99,107,32],0)] 1)).size := hsz
  have m2 := set_at (o := .map [(.int .i64 1,.str [116,105,99,107,32],0),(.int .i64 12,.str [114,101,115,116,97,114,116,32],1)] (1 + 1)) hsz2
  have q0 : findK .int (.int .i64 1) [] 0 = some none := rfl
  have q1 : findK .int (.int .i64 12) [(.int .i64 1,.str [116,105,99,107,32],0)] 0 = some none := rfl
  have q2 : findK .int (.int .i64 x.kind) [(.int .i64 1,.str [116,105,99,107,32],0),(.int .i64 12,.str [114,101,115,116,97,114,116,32],1)] 0 = some (some (1,.str [114,101,115,116,97,114,116,32])) := by rw [hk]; rfl
  have km := Keeps.trans (Keeps.psh (n := h4.size) (Nat.le_refl _) (.map [] 0)) (Keeps.trans (Keeps.set hsz (Nat.le_refl _) (.map [(.int .i64 1,.str [116,105,99,107,32],0)] 1)) (Keeps.set hsz2 (Nat.le_refl _) (.map [(.int .i64 1,.str [116,105,99,107,32],0),(.int .i64 12,.str [114,101,115,116,97,114,116,32],1)] (1 + 1))))
  have gxm := Kp.of km gx4
  have gBm := Kp.of km gB4
  have kkm := Kp.trans kk4 km
  simp (maxSteps := 2000000) only [GO,GO2,evK,fillV,setR,binV,intOp,strOp_cat,strOp_eql,strOp_neq,shOp,unV,getR,lenV,partV,V.nj,V.njL,V.cells,Nat.reduceLT,Nat.reduceEqDiff,Nat.reduceAdd,↓reduceIte,Nat.reduceLeDiff,reduceCtorEq,blk9,r23,hn1,r9_5,hn12,r9_6,r9_7,r1,r5,gx,p1,j1,Addr.len,WStep.len,e4]
  simp (maxSteps := 2000000) only [GO,GO2,evK,fillV,setR,binV,intOp,strOp_cat,strOp_eql,strOp_neq,shOp,unV,getR,lenV,partV,V.nj,V.njL,V.cells,Nat.reduceLT,Nat.reduceEqDiff,Nat.reduceAdd,↓reduceIte,Nat.reduceLeDiff,reduceCtorEq,r9_8,r1,r4,m0,m1,q0,q1]
  simp (maxSteps := 2000000) only [GO,GO2,evK,fillV,setR,binV,intOp,strOp_cat,strOp_eql,strOp_neq,shOp,unV,getR,lenV,partV,V.nj,V.njL,V.cells,Nat.reduceLT,Nat.reduceEqDiff,Nat.reduceAdd,↓reduceIte,Nat.reduceLeDiff,reduceCtorEq,m2,gxm,WStep.g0,q2,f1,r4,r1,rest9]
  exact stepEnd9 F hx.ent gBm gxm kkm r1 r5 rfl r7 r8 (by rw [← hb]; simp [stepOk,txtOk,hk]) (fun _ => by simp [stepS,hk,cat])
theorem step9 (F : Fns P E T) {x : WStep} {h : H} {s0 : List UInt8} (ht : T h) (hx : SIn h x s0) : Sp P E (.func 9 [] []) [.agg x.cells] h fun v h' => v = resA (stepOk x) (stepS x) ∧ Kp h h' := by
  by_cases hk : 1 ≤ x.kind ∧ x.kind ≤ 14
  · have : x.kind = 1 ∨ x.kind = 2 ∨ x.kind = 3 ∨ x.kind = 4 ∨ x.kind = 5 ∨ x.kind = 6 ∨ x.kind = 7 ∨ x.kind = 8 ∨ x.kind = 9 ∨ x.kind = 10 ∨ x.kind = 11 ∨ x.kind = 12 ∨ x.kind = 13 ∨ x.kind = 14 := by omega
    rcases this with e | e | e | e | e | e | e | e | e | e | e | e | e | e
    · exact step9_1 F ht hx e
    · exact step9_2 F ht hx e
    · exact step9_3 F ht hx e
    · exact step9_4 F ht hx e
    · exact step9_5 F ht hx e
    · exact step9_6 F ht hx e
    · exact step9_7 F ht hx e
    · exact step9_8 F ht hx e
    · exact step9_9 F ht hx e
    · exact step9_10 F ht hx e
    · exact step9_11 F ht hx e
    · exact step9_12 F ht hx e
    · exact step9_13 F ht hx e
    · exact step9_14 F ht hx e
  · exact step9_no F ht hx hk
end Go.AM.Sc
