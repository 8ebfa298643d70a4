/- My own texts of the evaluator, its soundness and its symbolic runs, laid for this claim. -/
import Derived.Test.YtpijmjmbjoopaaaDoorScR
set_option linter.unusedSimpArgs false
set_option linter.unusedVariables false
namespace Go.AM.Sc
open Go.AM
open Go.Lib (itoa)
variable {P : Program} {E : Env} {T : H → Prop}
def blk10 : C := .block 0 (.seq (.region r10_3) (.cond (.t 24) (.seq (.region r10_4) (.region r10_5)) (.seq (.region r10_6) (.cond (.t 33) (.seq (.region r10_7) (.region r10_8)) (.seq (.region r10_9) (.cond (.t 42) (.seq (.region r10_10) (.region r10_11)) (.seq (.region r10_12) (.cond (.t 51) (.seq (.draw r10_13) (.draw r10_14)) (.seq (.region r10_15) (.cond (.t 74) (.region [⟨some 5,.mv (.k (.str [97,108,108])),none,0,[5]⟩]) (.seq (.region r10_16) (.cond (.t 76) (.region [⟨some 5,.mv (.k (.str [97,114,114,105,118,101])),none,0,[5]⟩]) (.seq (.region r10_17) (.seq (.seq (.region r10_18) (.cond (.t 21) (.seq (.region r10_19) (.ret)) (.skip))) (.draw r10_20)))))))))))))))
def rest10 : C := .seq (.seq (.region r10_21) (.cond (.t 81) (.seq (.region r10_22) (.ret)) (.skip))) (.seq (.region r10_23) (.ret))
theorem c10_eq : c10 = .seq (.region r10_0) (.seq (.region r10_1) (.seq (.region [⟨some 5,.mv (.k (.str [])),none,0,[5]⟩]) (.seq (.seq (.region r10_2) blk10) rest10))) := rfl
theorem alikeP_symm (x y : WStep) : alikeP x y ↔ alikeP y x := by
  unfold alikeP
  constructor
  · rintro ⟨a1,a2,a3,a4,a5,a6,a7,a8,a9,a10⟩
    exact ⟨a1.symm,a2.symm,a3.symm,a4.symm,a5.symm,a6.symm,a7.symm,a8.symm,a9.symm,a10.symm⟩
  · rintro ⟨a1,a2,a3,a4,a5,a6,a7,a8,a9,a10⟩
    exact ⟨a1.symm,a2.symm,a3.symm,a4.symm,a5.symm,a6.symm,a7.symm,a8.symm,a9.symm,a10.symm⟩
set_option maxRecDepth 100000 in
set_option maxHeartbeats 4000000 in
theorem stepEnd10 (F : Fns P E T) {x y : WStep} {h h5 : H} {s0 s1 : List UInt8} (hx : EIn h x.entry s0) (hy : EIn h5 y.entry s1) (hy0 : lenOf y.entry.ops = 0) {ρ : Nat → V} {B bx : Nat} {s : List UInt8} (gB : h5.get B = some (.cells y.cells 52 false false none)) (gx : h5.get bx = some (.cells x.cells 52 false false none)) (kk : Kp h h5)
    (r1 : ρ 1 = .ptr (some (bx,0))) (r4 : ρ 4 = .ptr (some (B,0))) (r5 : ρ 5 = .str s) (h1 : (alikeP y x ∧ flatOf y.entry = flatOf x.entry ∧ lenOf x.entry.ops = 0 ∧ s1 = s0) ↔ stepOk x) (h2 : stepOk x → s = stepS x) :
    XO P E none 83 r10_21 [.c (.cond (.t 81) (.seq (.region r10_22) (.ret)) (.skip)),.c (.seq (.region r10_23) (.ret))] ρ h5 (Fin [.t 2,.t 3] fun v h' => v = resA (stepOk x) (stepS x) ∧ Kp h h') := by
  have fl : ∀ z : WStep,z.cells.length = 76 := fun _ => rfl
  have p0 : ∀ z : WStep,List.take 76 z.cells = z.cells := fun _ => rfl
  simp (maxSteps := 2000000) only [GO,GO2,evK,fillV,setR,binV,intOp,strOp_cat,strOp_eql,strOp_neq,shOp,unV,getR,lenV,partV,V.nj,V.njL,V.cells,Nat.reduceLT,Nat.reduceEqDiff,Nat.reduceAdd,↓reduceIte,Nat.reduceLeDiff,reduceCtorEq,r10_21,r1,r4,gx,gB,fl,p0]
  refine XC_of (same33 F hy (hx.keep kk) hy0) ?_
  rintro _ h6 ⟨rfl,k6⟩
  by_cases hc : alikeP y x ∧ flatOf y.entry = flatOf x.entry ∧ lenOf x.entry.ops = 0 ∧ s1 = s0
  · have hd := decide_eq_true hc
    have hok := h1.1 hc
    simp (maxSteps := 2000000) only [GO,GO2,evK,fillV,setR,binV,intOp,strOp_cat,strOp_eql,strOp_neq,shOp,unV,getR,lenV,partV,V.nj,V.njL,V.cells,Nat.reduceLT,Nat.reduceEqDiff,Nat.reduceAdd,↓reduceIte,Nat.reduceLeDiff,reduceCtorEq,hd,Bool.not_true,r10_22,r10_23,r5]
    exact ⟨by simp [resA,hok,h2 hok],Kp.trans kk k6⟩
  · have hd := decide_eq_false hc
    have hok : ¬ stepOk x := fun h => hc (h1.2 h)
    simp (maxSteps := 2000000) only [GO,GO2,evK,fillV,setR,binV,intOp,strOp_cat,strOp_eql,strOp_neq,shOp,unV,getR,lenV,partV,V.nj,V.njL,V.cells,Nat.reduceLT,Nat.reduceEqDiff,Nat.reduceAdd,↓reduceIte,Nat.reduceLeDiff,reduceCtorEq,hd,Bool.not_false,r10_22,r10_23,r5]
    exact ⟨by simp [resA,hok],Kp.trans kk k6⟩
theorem noEnt {h : H} {x y : WStep} {s0 : List UInt8} (hx : EIn h x.entry s0) (hy : y.entry = Entry.zero) (hk : x.kind ≠ 5) (hr : 1 ≤ x.kind ∧ x.kind ≤ 14) (ht : txtOk x) (ha : alikeP y x ↔ alikeP x (bareOf x)) :
    (alikeP y x ∧ flatOf y.entry = flatOf x.entry ∧ lenOf x.entry.ops = 0 ∧ [] = s0) ↔ stepOk x := by
  have hf : flatOf y.entry = Flat.zero := by rw [hy]; rfl
  have hd : [] = s0 ↔ lenOf x.entry.part.data = 0 := by
    rw [hx.dat.len]
    constructor
    · intro e; rw [← e]; rfl
    · intro e; exact (List.eq_nil_of_length_eq_zero e).symm
  unfold stepOk zeroE
  rw [ha,hf,hd]
  constructor
  · rintro ⟨a,b,c,d⟩; exact ⟨hr,ht,.inr ⟨⟨c,d⟩,b.symm⟩,a⟩
  · rintro ⟨_,_,e,a⟩
    rcases e with e | ⟨⟨c,d⟩,b⟩
    · exact absurd e hk
    · exact ⟨a,b.symm,c,d⟩
set_option maxRecDepth 100000 in
set_option maxHeartbeats 4000000 in
theorem step10_pre (F : Fns P E T) {x : WStep} {h : H} {Q : V → H → Prop}
    (hk : ∀ (ρ : Nat → V) (h3 : H) (bx B : Nat),bx < B → h3.get bx = some (.cells x.cells 52 false false none) → h3.get B = some (.cells ({ WStep.zero with kind := x.kind } : WStep).cells 52 false false none) → Kp h h3 → h.size ≤ B → ρ 1 = .ptr (some (bx,0)) → ρ 4 = .ptr (some (B,0)) → ρ 5 = .str [] → ρ 13 = .int .i64 x.kind →
      X P E none 83 [.c blk10,.c rest10] ρ h3 (Fin [.t 2,.t 3] Q)) :
    Sp P E (.func 10 [] []) [.agg x.cells] h Q := by
  have hk0 : Kp h (h.psh (.cells x.cells 52 false false none)) := Keeps.psh (Nat.le_refl _) _
  have gx := psh_same h (.cells x.cells 52 false false none)
  have hlt : h.size < (h.psh (.cells x.cells 52 false false none)).size := Nat.lt_succ_self _
  refine Sp_fn F.f10 F.p10 (by simp [fn10]) ?_
  simp (maxSteps := 2000000) only [GO,GO2,evK,fillV,setR,binV,intOp,strOp_cat,strOp_eql,strOp_neq,shOp,unV,getR,lenV,partV,V.nj,V.njL,V.cells,Nat.reduceLT,Nat.reduceEqDiff,Nat.reduceAdd,↓reduceIte,Nat.reduceLeDiff,reduceCtorEq,fn10,c10_eq,r10_0]
  generalize h.psh (.cells x.cells 52 false false none) = h1 at *
  obtain ⟨h3,e3,g3,k3,z3⟩ := put_ex (o := 0) (ws := ({ WStep.zero with kind := x.kind } : WStep).cells) (psh_same h1 (.cells WStep.zero.cells 52 false false none)) (Nat.le_refl _) rfl rfl
  have k3' : Kp h1 h3 := Keeps.trans (Keeps.psh (Nat.le_refl _) _) k3
  have gx3 := Kp.of k3' gx
  have kk3 := Kp.trans hk0 k3'
  have hle : h.size ≤ h1.size := hk0.size
  have hg0 := WStep.g0 x
  generalize x.cells = xc at *
  simp only [WStep.zero,WStep.cells,Entry.zero,Addr.zero,Query.zero,Opr.zero,Epoch.zero,Vec.zero,Part.zero] at e3
  simp (maxSteps := 2000000) only [GO,GO2,evK,fillV,setR,binV,intOp,strOp_cat,strOp_eql,strOp_neq,shOp,unV,getR,lenV,partV,V.nj,V.njL,V.cells,Nat.reduceLT,Nat.reduceEqDiff,Nat.reduceAdd,↓reduceIte,Nat.reduceLeDiff,reduceCtorEq,r10_1,r10_2,gx,gx3,hg0,e3]
  exact hk _ h3 h.size h1.size hlt gx3 g3 kk3 hle rfl rfl rfl rfl
set_option maxRecDepth 100000 in
set_option maxHeartbeats 4000000 in
theorem step10_13 (F : Fns P E T) {x : WStep} {h : H} {s0 : List UInt8} (ht : T h) (hx : SIn h x s0) (hk : x.kind = 13) : Sp P E (.func 10 [] []) [.agg x.cells] h fun v h' => v = resA (stepOk x) (stepS x) ∧ Kp h h' := by
  refine step10_pre F fun ρ h3 bx B hlt gx gB kk hle r1 r4 r5 r13 => ?_
  have hn6 : (x.kind == 6) = false := by rw [hk]; rfl
  have hn7 : (x.kind == 7) = false := by rw [hk]; rfl
  have hn8 : (x.kind == 8) = false := by rw [hk]; rfl
  have hn9 : (x.kind == 9) = false := by rw [hk]; rfl
  have hn13 : (x.kind == 13) = true := by rw [hk]; rfl
  have hbo : bareOf x = { WStep.zero with kind := x.kind } := by simp [bareOf,hk]
  simp (maxSteps := 2000000) only [GO,GO2,evK,fillV,setR,binV,intOp,strOp_cat,strOp_eql,strOp_neq,shOp,unV,getR,lenV,partV,V.nj,V.njL,V.cells,Nat.reduceLT,Nat.reduceEqDiff,Nat.reduceAdd,↓reduceIte,Nat.reduceLeDiff,reduceCtorEq,blk10,rest10,r13,hn6,r10_3,hn7,r10_6,hn8,r10_9,hn9,r10_12,hn13,r10_15]
  exact stepEnd10 F (y := { WStep.zero with kind := x.kind }) hx.ent ⟨⟨_,_,_,_,rfl⟩,.inl ⟨_,_,rfl,rfl⟩⟩ rfl gB gx kk r1 r4 rfl (noEnt hx.ent rfl (by omega) (by omega) (by simp [txtOk,hk]) (by rw [hbo]; exact alikeP_symm _ _)) (fun _ => by simp [stepS,hk])
set_option maxRecDepth 100000 in
set_option maxHeartbeats 4000000 in
theorem step10_14 (F : Fns P E T) {x : WStep} {h : H} {s0 : List UInt8} (ht : T h) (hx : SIn h x s0) (hk : x.kind = 14) : Sp P E (.func 10 [] []) [.agg x.cells] h fun v h' => v = resA (stepOk x) (stepS x) ∧ Kp h h' := by
  refine step10_pre F fun ρ h3 bx B hlt gx gB kk hle r1 r4 r5 r13 => ?_
  have hn6 : (x.kind == 6) = false := by rw [hk]; rfl
  have hn7 : (x.kind == 7) = false := by rw [hk]; rfl
  have hn8 : (x.kind == 8) = false := by rw [hk]; rfl
  have hn9 : (x.kind == 9) = false := by rw [hk]; rfl
  have hn13 : (x.kind == 13) = false := by rw [hk]; rfl
  have hn14 : (x.kind == 14) = true := by rw [hk]; rfl
  have hbo : bareOf x = { WStep.zero with kind := x.kind } := by simp [bareOf,hk]
  simp (maxSteps := 2000000) only [GO,GO2,evK,fillV,setR,binV,intOp,strOp_cat,strOp_eql,strOp_neq,shOp,unV,getR,lenV,partV,V.nj,V.njL,V.cells,Nat.reduceLT,Nat.reduceEqDiff,Nat.reduceAdd,↓reduceIte,Nat.reduceLeDiff,reduceCtorEq,blk10,rest10,r13,hn6,r10_3,hn7,r10_6,hn8,r10_9,hn9,r10_12,hn13,r10_15,hn14,r10_16]
  exact stepEnd10 F (y := { WStep.zero with kind := x.kind }) hx.ent ⟨⟨_,_,_,_,rfl⟩,.inl ⟨_,_,rfl,rfl⟩⟩ rfl gB gx kk r1 r4 rfl (noEnt hx.ent rfl (by omega) (by omega) (by simp [txtOk,hk]) (by rw [hbo]; exact alikeP_symm _ _)) (fun _ => by simp [stepS,hk])
set_option maxRecDepth 100000 in
set_option maxHeartbeats 4000000 in
theorem step10_6 (F : Fns P E T) {x : WStep} {h : H} {s0 : List UInt8} (ht : T h) (hx : SIn h x s0) (hk : x.kind = 6) : Sp P E (.func 10 [] []) [.agg x.cells] h fun v h' => v = resA (stepOk x) (stepS x) ∧ Kp h h' := by
  refine step10_pre F fun ρ h3 bx B hlt gx gB kk hle r1 r4 r5 r13 => ?_
  have hn6 : (x.kind == 6) = true := by rw [hk]; rfl
  obtain ⟨h4,e4,g4,k4,z4⟩ := put_ex (o := 71) (ws := [.int .i64 x.number]) gB (Nat.le_of_ble_eq_true rfl) rfl rfl
  have gB4 : h4.get B = some (.cells ({ WStep.zero with kind := x.kind,number := x.number } : WStep).cells 52 false false none) := g4
  have gx4 : h4.get bx = some (.cells x.cells 52 false false none) := by rw [k4.get _ hlt]; exact gx
  have kk4 : Kp h h4 := Keeps.trans (n := h.size) kk (k4.mono hle)
  have hbo : bareOf x = { WStep.zero with kind := x.kind,number := x.number } := by simp [bareOf,hk]
  have l1 := Lib.itoa_length_le x.number hx.number.1 hx.number.2
  have f1 : Fit (cat [100,101,108,105,118,101,114,32] (itoa x.number)) := by simp only [Fit,cat,List.length_append,List.length_cons,List.length_nil]; omega
  simp (maxSteps := 2000000) only [GO,GO2,evK,fillV,setR,binV,intOp,strOp_cat,strOp_eql,strOp_neq,shOp,unV,getR,lenV,partV,V.nj,V.njL,V.cells,Nat.reduceLT,Nat.reduceEqDiff,Nat.reduceAdd,↓reduceIte,Nat.reduceLeDiff,reduceCtorEq,blk10,rest10,r13,hn6,r10_3,r10_4,r10_5,r1,r4,gx,gx4,WStep.g71,e4]
  refine XC_of (num30 F hx.number (F.tkeep _ _ ht kk4)) ?_
  rintro _ h9 ⟨rfl,rfl⟩
  simp (maxSteps := 2000000) only [GO,GO2,evK,fillV,setR,binV,intOp,strOp_cat,strOp_eql,strOp_neq,shOp,unV,getR,lenV,partV,V.nj,V.njL,V.cells,Nat.reduceLT,Nat.reduceEqDiff,Nat.reduceAdd,↓reduceIte,Nat.reduceLeDiff,reduceCtorEq,f1]
  exact stepEnd10 F (y := { WStep.zero with kind := x.kind,number := x.number }) hx.ent ⟨⟨_,_,_,_,rfl⟩,.inl ⟨_,_,rfl,rfl⟩⟩ rfl gB4 gx4 kk4 r1 r4 rfl (noEnt hx.ent rfl (by omega) (by omega) (by simp [txtOk,hk]) (by rw [hbo]; exact alikeP_symm _ _)) (fun _ => by simp [stepS,hk,cat])
set_option maxRecDepth 100000 in
set_option maxHeartbeats 4000000 in
theorem step10_7 (F : Fns P E T) {x : WStep} {h : H} {s0 : List UInt8} (ht : T h) (hx : SIn h x s0) (hk : x.kind = 7) : Sp P E (.func 10 [] []) [.agg x.cells] h fun v h' => v = resA (stepOk x) (stepS x) ∧ Kp h h' := by
  refine step10_pre F fun ρ h3 bx B hlt gx gB kk hle r1 r4 r5 r13 => ?_
  have hn6 : (x.kind == 6) = false := by rw [hk]; rfl
  have hn7 : (x.kind == 7) = true := by rw [hk]; rfl
  obtain ⟨h4,e4,g4,k4,z4⟩ := put_ex (o := 71) (ws := [.int .i64 x.number]) gB (Nat.le_of_ble_eq_true rfl) rfl rfl
  have gB4 : h4.get B = some (.cells ({ WStep.zero with kind := x.kind,number := x.number } : WStep).cells 52 false false none) := g4
  have gx4 : h4.get bx = some (.cells x.cells 52 false false none) := by rw [k4.get _ hlt]; exact gx
  have kk4 : Kp h h4 := Keeps.trans (n := h.size) kk (k4.mono hle)
  have hbo : bareOf x = { WStep.zero with kind := x.kind,number := x.number } := by simp [bareOf,hk]
  have l1 := Lib.itoa_length_le x.number hx.number.1 hx.number.2
  have f1 : Fit (cat [100,114,111,112,32] (itoa x.number)) := by simp only [Fit,cat,List.length_append,List.length_cons,List.length_nil]; omega
  simp (maxSteps := 2000000) only [GO,GO2,evK,fillV,setR,binV,intOp,strOp_cat,strOp_eql,strOp_neq,shOp,unV,getR,lenV,partV,V.nj,V.njL,V.cells,Nat.reduceLT,Nat.reduceEqDiff,Nat.reduceAdd,↓reduceIte,Nat.reduceLeDiff,reduceCtorEq,blk10,rest10,r13,hn6,r10_3,hn7,r10_6,r10_7,r10_8,r1,r4,gx,gx4,WStep.g71,e4]
  refine XC_of (num30 F hx.number (F.tkeep _ _ ht kk4)) ?_
  rintro _ h9 ⟨rfl,rfl⟩
  simp (maxSteps := 2000000) only [GO,GO2,evK,fillV,setR,binV,intOp,strOp_cat,strOp_eql,strOp_neq,shOp,unV,getR,lenV,partV,V.nj,V.njL,V.cells,Nat.reduceLT,Nat.reduceEqDiff,Nat.reduceAdd,↓reduceIte,Nat.reduceLeDiff,reduceCtorEq,f1]
  exact stepEnd10 F (y := { WStep.zero with kind := x.kind,number := x.number }) hx.ent ⟨⟨_,_,_,_,rfl⟩,.inl ⟨_,_,rfl,rfl⟩⟩ rfl gB4 gx4 kk4 r1 r4 rfl (noEnt hx.ent rfl (by omega) (by omega) (by simp [txtOk,hk]) (by rw [hbo]; exact alikeP_symm _ _)) (fun _ => by simp [stepS,hk,cat])
set_option maxRecDepth 100000 in
set_option maxHeartbeats 4000000 in
theorem step10_8 (F : Fns P E T) {x : WStep} {h : H} {s0 : List UInt8} (ht : T h) (hx : SIn h x s0) (hk : x.kind = 8) : Sp P E (.func 10 [] []) [.agg x.cells] h fun v h' => v = resA (stepOk x) (stepS x) ∧ Kp h h' := by
  refine step10_pre F fun ρ h3 bx B hlt gx gB kk hle r1 r4 r5 r13 => ?_
  have hn6 : (x.kind == 6) = false := by rw [hk]; rfl
  have hn7 : (x.kind == 7) = false := by rw [hk]; rfl
  have hn8 : (x.kind == 8) = true := by rw [hk]; rfl
  obtain ⟨h4,e4,g4,k4,z4⟩ := put_ex (o := 71) (ws := [.int .i64 x.number]) gB (Nat.le_of_ble_eq_true rfl) rfl rfl
  have gB4 : h4.get B = some (.cells ({ WStep.zero with kind := x.kind,number := x.number } : WStep).cells 52 false false none) := g4
  have gx4 : h4.get bx = some (.cells x.cells 52 false false none) := by rw [k4.get _ hlt]; exact gx
  have kk4 : Kp h h4 := Keeps.trans (n := h.size) kk (k4.mono hle)
  have hbo : bareOf x = { WStep.zero with kind := x.kind,number := x.number } := by simp [bareOf,hk]
  have l1 := Lib.itoa_length_le x.number hx.number.1 hx.number.2
  have f1 : Fit (cat [100,111,117,98,108,101,32] (itoa x.number)) := by simp only [Fit,cat,List.length_append,List.length_cons,List.length_nil]; omega
  simp (maxSteps := 2000000) only [GO,GO2,evK,fillV,setR,binV,intOp,strOp_cat,strOp_eql,strOp_neq,shOp,unV,getR,lenV,partV,V.nj,V.njL,V.cells,Nat.reduceLT,Nat.reduceEqDiff,Nat.reduceAdd,↓reduceIte,Nat.reduceLeDiff,reduceCtorEq,blk10,rest10,r13,hn6,r10_3,hn7,r10_6,hn8,r10_9,r10_10,r10_11,r1,r4,gx,gx4,WStep.g71,e4]
  refine XC_of (num30 F hx.number (F.tkeep _ _ ht kk4)) ?_
  rintro _ h9 ⟨rfl,rfl⟩
  simp (maxSteps := 2000000) only [GO,GO2,evK,fillV,setR,binV,intOp,strOp_cat,strOp_eql,strOp_neq,shOp,unV,getR,lenV,partV,V.nj,V.njL,V.cells,Nat.reduceLT,Nat.reduceEqDiff,Nat.reduceAdd,↓reduceIte,Nat.reduceLeDiff,reduceCtorEq,f1]
  exact stepEnd10 F (y := { WStep.zero with kind := x.kind,number := x.number }) hx.ent ⟨⟨_,_,_,_,rfl⟩,.inl ⟨_,_,rfl,rfl⟩⟩ rfl gB4 gx4 kk4 r1 r4 rfl (noEnt hx.ent rfl (by omega) (by omega) (by simp [txtOk,hk]) (by rw [hbo]; exact alikeP_symm _ _)) (fun _ => by simp [stepS,hk,cat])
set_option maxRecDepth 100000 in
set_option maxHeartbeats 4000000 in
theorem step10_9 (F : Fns P E T) {x : WStep} {h : H} {s0 : List UInt8} (ht : T h) (hx : SIn h x s0) (hk : x.kind = 9) : Sp P E (.func 10 [] []) [.agg x.cells] h fun v h' => v = resA (stepOk x) (stepS x) ∧ Kp h h' := by
  refine step10_pre F fun ρ h3 bx B hlt gx gB kk hle r1 r4 r5 r13 => ?_
  have hn6 : (x.kind == 6) = false := by rw [hk]; rfl
  have hn7 : (x.kind == 7) = false := by rw [hk]; rfl
  have hn8 : (x.kind == 8) = false := by rw [hk]; rfl
  have hn9 : (x.kind == 9) = true := by rw [hk]; rfl
  obtain ⟨h4,e4,g4,k4,z4⟩ := put_ex (o := 71) (ws := [.int .i64 x.number]) gB (Nat.le_of_ble_eq_true rfl) rfl rfl
  have gB4 : h4.get B = some (.cells ({ WStep.zero with kind := x.kind,number := x.number } : WStep).cells 52 false false none) := g4
  have gx4 : h4.get bx = some (.cells x.cells 52 false false none) := by rw [k4.get _ hlt]; exact gx
  have kk4 : Kp h h4 := Keeps.trans (n := h.size) kk (k4.mono hle)
  obtain ⟨h5,e5,g5,k5,z5⟩ := put_ex (o := 72) (ws := [.int .i64 x.place]) gB4 (Nat.le_of_ble_eq_true rfl) rfl rfl
  have gB5 : h5.get B = some (.cells ({ WStep.zero with kind := x.kind,number := x.number,place := x.place } : WStep).cells 52 false false none) := g5
  have gx5 : h5.get bx = some (.cells x.cells 52 false false none) := by rw [k5.get _ hlt]; exact gx4
  have kk5 : Kp h h5 := Keeps.trans (n := h.size) kk4 (k5.mono hle)
  obtain ⟨h6,e6,g6,k6,z6⟩ := put_ex (o := 73) (ws := [.int .u8 x.wth]) gB5 (Nat.le_of_ble_eq_true rfl) rfl rfl
  have gB6 : h6.get B = some (.cells ({ WStep.zero with kind := x.kind,number := x.number,place := x.place,wth := x.wth } : WStep).cells 52 false false none) := g6
  have gx6 : h6.get bx = some (.cells x.cells 52 false false none) := by rw [k6.get _ hlt]; exact gx5
  have kk6 : Kp h h6 := Keeps.trans (n := h.size) kk5 (k6.mono hle)
  have hbo : bareOf x = { WStep.zero with kind := x.kind,number := x.number,place := x.place,wth := x.wth } := by simp [bareOf,hk]
  have hw : InI x.wth := ⟨by have := hx.wth.1; omega,by have := hx.wth.2; omega⟩
  have l0 := Lib.itoa_length_le x.number hx.number.1 hx.number.2
  have ll := ints_len2 hx.place hw
  have hwr : IntKind.i64.wrap x.wth = x.wth := wrap_le hw.1 hw.2
  have f1 : Fit (cat [115,112,111,105,108,32] (itoa x.number)) := by simp only [Fit,cat,List.length_append,List.length_cons,List.length_nil]; omega
  have f2 : Fit (cat (cat [115,112,111,105,108,32] (itoa x.number)) (intsB [x.place,x.wth])) := by simp only [Fit,cat,List.length_append,List.length_cons,List.length_nil]; omega
  simp (maxSteps := 2000000) only [GO,GO2,evK,fillV,setR,binV,intOp,strOp_cat,strOp_eql,strOp_neq,shOp,unV,getR,lenV,partV,V.nj,V.njL,V.cells,Nat.reduceLT,Nat.reduceEqDiff,Nat.reduceAdd,↓reduceIte,Nat.reduceLeDiff,reduceCtorEq,blk10,r13,hn6,r10_3,hn7,r10_6,hn8,r10_9,hn9,r10_12]
  rw [X_draw]
  refine k10_13 B (XDJ_XDK ?_)
  simp (maxSteps := 2000000) only [GO,GO2,evK,fillV,setR,binV,intOp,strOp_cat,strOp_eql,strOp_neq,shOp,unV,getR,lenV,partV,V.nj,V.njL,V.cells,Nat.reduceLT,Nat.reduceEqDiff,Nat.reduceAdd,↓reduceIte,Nat.reduceLeDiff,reduceCtorEq,r10_13,r1,r4,gx,WStep.g71,WStep.g72,WStep.g73,WStep.len,hlt,e4]
  refine ⟨k4,?_⟩
  simp (maxSteps := 2000000) only [GO,GO2,evK,fillV,setR,binV,intOp,strOp_cat,strOp_eql,strOp_neq,shOp,unV,getR,lenV,partV,V.nj,V.njL,V.cells,Nat.reduceLT,Nat.reduceEqDiff,Nat.reduceAdd,↓reduceIte,Nat.reduceLeDiff,reduceCtorEq,e5,r4,WStep.g71,WStep.g72,WStep.g73]
  refine ⟨k5,?_⟩
  simp (maxSteps := 2000000) only [GO,GO2,evK,fillV,setR,binV,intOp,strOp_cat,strOp_eql,strOp_neq,shOp,unV,getR,lenV,partV,V.nj,V.njL,V.cells,Nat.reduceLT,Nat.reduceEqDiff,Nat.reduceAdd,↓reduceIte,Nat.reduceLeDiff,reduceCtorEq,e6,r4,WStep.g71,WStep.g72,WStep.g73]
  refine ⟨k6,?_⟩
  have kp : Kp h6 (h6.psh (.cells [.int .i64 x.place,.int .i64 x.wth] 3 false false none)) := Keeps.psh (Nat.le_refl _) _
  rw [X_draw]
  refine d10_14 ?_
  simp (maxSteps := 2000000) only [GO,GO2,evK,fillV,setR,binV,intOp,strOp_cat,strOp_eql,strOp_neq,shOp,unV,getR,lenV,partV,V.nj,V.njL,V.cells,Nat.reduceLT,Nat.reduceEqDiff,Nat.reduceAdd,↓reduceIte,Nat.reduceLeDiff,reduceCtorEq,r10_14,r1,gx6,WStep.g71,WStep.g72,WStep.g73,WStep.len]
  refine XCQ_of (num30 F hx.number (F.tkeep _ _ ht kk6)) ?_
  rintro _ h8 ⟨rfl,rfl⟩
  refine ⟨Keeps.refl _ _,?_⟩
  simp (maxSteps := 2000000) only [GO,GO2,evK,fillV,setR,binV,intOp,strOp_cat,strOp_eql,strOp_neq,shOp,unV,getR,lenV,partV,V.nj,V.njL,V.cells,Nat.reduceLT,Nat.reduceEqDiff,Nat.reduceAdd,↓reduceIte,Nat.reduceLeDiff,reduceCtorEq,r1,gx6,WStep.g71,WStep.g72,WStep.g73,WStep.len,f1,hwr]
  refine ⟨kp,?_⟩
  refine XCQ_of (ints31k F (xs := [x.place,x.wth]) (by simp) (ini2 hx.place hw) (F.tkeep _ _ ht (Kp.trans kk6 kp)) (sl_ints h8 [x.place,x.wth])) ?_
  rintro _ h9 ⟨rfl,k9'⟩
  refine ⟨k9',?_⟩
  have k9 := Kp.trans kp k9'
  simp (maxSteps := 2000000) only [GO,GO2,evK,fillV,setR,binV,intOp,strOp_cat,strOp_eql,strOp_neq,shOp,unV,getR,lenV,partV,V.nj,V.njL,V.cells,Nat.reduceLT,Nat.reduceEqDiff,Nat.reduceAdd,↓reduceIte,Nat.reduceLeDiff,reduceCtorEq,f2,rest10]
  exact stepEnd10 F (y := { WStep.zero with kind := x.kind,number := x.number,place := x.place,wth := x.wth }) hx.ent ⟨⟨_,_,_,_,rfl⟩,.inl ⟨_,_,rfl,rfl⟩⟩ rfl (Kp.of k9 gB6) (Kp.of k9 gx6) (Kp.trans kk6 k9) r1 r4 rfl (noEnt hx.ent rfl (by omega) (by omega) (by simp [txtOk,hk]) (by rw [hbo]; exact alikeP_symm _ _)) (fun _ => by simp [stepS,hk,cat,intsB_cons])
theorem plOnly_ok {h : H} {x : WStep} {s0 : List UInt8} (hx : EIn h x.entry s0) : V.njL (plOnly x).cells = true ∧ (plOnly x).cells.all V.one = true := by
  obtain ⟨a,n,c,o,e1⟩ := hx.ops
  obtain ⟨a',n',c',o',e2⟩ : ∃ a n c o,x.entry.part.data = .slice a n c o := by
    rcases hx.dat with ⟨c,o,e,_⟩ | ⟨p,n,c,o,cs,e,_⟩
    · exact ⟨_,_,_,_,e⟩
    · exact ⟨_,_,_,_,e⟩
  have key : ∀ y : WStep,y.entry.ops = .slice none 0 0 false ∧ y.entry.part.data = .slice none 0 0 false ∨ y.entry = x.entry → V.njL y.cells = true ∧ y.cells.all V.one = true := by
    intro y hy
    have e3 : ∃ a n c o,y.entry.ops = .slice a n c o := by
      rcases hy with hy | hy
      · exact ⟨_,_,_,_,hy.1⟩
      · rw [hy]; exact ⟨_,_,_,_,e1⟩
    have e4 : ∃ a n c o,y.entry.part.data = .slice a n c o := by
      rcases hy with hy | hy
      · exact ⟨_,_,_,_,hy.2⟩
      · rw [hy]; exact ⟨_,_,_,_,e2⟩
    obtain ⟨_,_,_,_,e3⟩ := e3
    obtain ⟨_,_,_,_,e4⟩ := e4
    constructor
    · simp only [WStep.cells,V.njL,V.nj,e3,e4,Bool.and_self]
    · simp only [WStep.cells,List.all_cons,List.all_nil,V.one,e3,e4,Bool.and_self]
  refine key _ ?_
  unfold plOnly
  split
  · exact .inl ⟨rfl,rfl⟩
  · split
    · exact .inl ⟨rfl,rfl⟩
    · split
      · exact .inl ⟨rfl,rfl⟩
      · split
        · exact .inr rfl
        · split
          · exact .inl ⟨rfl,rfl⟩
          · split <;> exact .inl ⟨rfl,rfl⟩
theorem plOnly_ent (x : WStep) (hk : x.kind ≠ 5) : (plOnly x).entry = Entry.zero := by
  unfold plOnly
  (repeat' split) <;> first | rfl | contradiction
theorem plOnly_alike (x : WStep) (hp : isPl x) : alikeP (plOnly x) x ↔ alikeP x (bareOf x) := by
  rw [alikeP_symm]
  unfold isPl at hp
  rcases hp with e | e | e | e | e | e | e | e <;> simp [plOnly,bareOf,e,alikeP]
set_option maxRecDepth 100000 in
set_option maxHeartbeats 4000000 in
theorem step10_pl (F : Fns P E T) {x : WStep} {h : H} {s0 : List UInt8} (ht : T h) (hx : SIn h x s0) (hk : x.kind ≠ 6 ∧ x.kind ≠ 7 ∧ x.kind ≠ 8 ∧ x.kind ≠ 9 ∧ x.kind ≠ 13 ∧ x.kind ≠ 14) : Sp P E (.func 10 [] []) [.agg x.cells] h fun v h' => v = resA (stepOk x) (stepS x) ∧ Kp h h' := by
  refine step10_pre F fun ρ h3 bx B hlt gx gB kk hle r1 r4 r5 r13 => ?_
  have hn6 : (x.kind == 6) = false := by rw [beq_eq_false_iff_ne]; omega
  have hn7 : (x.kind == 7) = false := by rw [beq_eq_false_iff_ne]; omega
  have hn8 : (x.kind == 8) = false := by rw [beq_eq_false_iff_ne]; omega
  have hn9 : (x.kind == 9) = false := by rw [beq_eq_false_iff_ne]; omega
  have hn13 : (x.kind == 13) = false := by rw [beq_eq_false_iff_ne]; omega
  have hn14 : (x.kind == 14) = false := by rw [beq_eq_false_iff_ne]; omega
  have fl : ∀ z : WStep,z.cells.length = 76 := fun _ => rfl
  have p0 : ∀ z : WStep,List.take 76 z.cells = z.cells := fun _ => rfl
  simp (maxSteps := 2000000) only [GO,GO2,evK,fillV,setR,binV,intOp,strOp_cat,strOp_eql,strOp_neq,shOp,unV,getR,lenV,partV,V.nj,V.njL,V.cells,Nat.reduceLT,Nat.reduceEqDiff,Nat.reduceAdd,↓reduceIte,Nat.reduceLeDiff,reduceCtorEq,blk10,r13,hn6,r10_3,hn7,r10_6,hn8,r10_9,hn9,r10_12,hn13,r10_15,hn14,r10_16,r10_17,r1,gx,fl,p0]
  have hx3 : SIn h3 x s0 := { hx with ent := hx.ent.keep kk }
  refine XC_of (placed32 F (F.tkeep _ _ ht kk) hx3) ?_
  rintro _ h4 ⟨⟨s,rfl,hs⟩,k4⟩
  have gx4 := Kp.of k4 gx
  have gB4 := Kp.of k4 gB
  have kk4 := Kp.trans kk k4
  obtain ⟨hnj,hone⟩ := plOnly_ok hx.ent
  obtain ⟨h5,e5,g5,k5,z5⟩ := put_ex (o := 0) (ws := (plOnly x).cells) (psh_same h4 (.cells WStep.zero.cells 52 false false none)) (Nat.le_refl _) hone rfl
  have g5' : h5.get h4.size = some (.cells (plOnly x).cells 52 false false none) := g5
  have k5' : Kp h4 h5 := Keeps.trans (Keeps.psh (Nat.le_refl _) _) k5
  have gx5 := Kp.of k5' gx4
  have gB5 := Kp.of k5' gB4
  have kk5 := Kp.trans kk4 k5'
  have hlt4 := H.get_lt gB4
  have flp := fl (plOnly x)
  have p0p := p0 (plOnly x)
  have e5' := e5
  generalize hpc : (plOnly x).cells = pc at *
  simp only [WStep.zero,WStep.cells,Entry.zero,Addr.zero,Query.zero,Opr.zero,Epoch.zero,Vec.zero,Part.zero] at e5
  simp (maxSteps := 2000000) only [GO,GO2,evK,fillV,setR,binV,intOp,strOp_cat,strOp_eql,strOp_neq,shOp,unV,getR,lenV,partV,V.nj,V.njL,V.cells,Nat.reduceLT,Nat.reduceEqDiff,Nat.reduceAdd,↓reduceIte,Nat.reduceLeDiff,reduceCtorEq,e5,flp]
  by_cases hc : isPl x ∧ txtOk x
  · have hd := decide_eq_true hc
    obtain ⟨h6,e6,g6,k6,z6⟩ := put_ex (o := 0) (ws := pc) gB5 (by rw [flp,fl]; decide) hone (by rw [← hpc]; rfl)
    have g6' : h6.get B = some (.cells (plOnly x).cells 52 false false none) := by rw [hpc]; rw [g6,← hpc]; rfl
    have gx6 : h6.get bx = some (.cells x.cells 52 false false none) := by rw [k6.get _ hlt]; exact gx5
    have kk6 : Kp h h6 := Keeps.trans (n := h.size) kk5 (k6.mono hle)
    simp (maxSteps := 2000000) only [GO,GO2,evK,fillV,setR,binV,intOp,strOp_cat,strOp_eql,strOp_neq,shOp,unV,getR,lenV,partV,V.nj,V.njL,V.cells,Nat.reduceLT,Nat.reduceEqDiff,Nat.reduceAdd,↓reduceIte,Nat.reduceLeDiff,reduceCtorEq,hd,r10_18,r10_19,Bool.not_true]
    rw [X_draw]
    refine d10_20 ?_
    simp (maxSteps := 2000000) only [GO,GO2,evK,fillV,setR,binV,intOp,strOp_cat,strOp_eql,strOp_neq,shOp,unV,getR,lenV,partV,V.nj,V.njL,V.cells,Nat.reduceLT,Nat.reduceEqDiff,Nat.reduceAdd,↓reduceIte,Nat.reduceLeDiff,reduceCtorEq,r10_20,g5',flp,p0p,hnj,r4,e6,rest10]
    have hS : s = stepS x := hs hc.1 hc.2
    by_cases h5k : x.kind = 5
    · have hok : entOk x.entry := by have := hc.2; simpa [txtOk,h5k] using this
      have hen : (plOnly x).entry = x.entry := by simp [plOnly,h5k]
      refine stepEnd10 F (y := plOnly x) (s1 := s0) hx.ent (by rw [hen]; exact hx.ent.keep kk6) (by rw [hen]; exact hok.2.1.1) g6' gx6 kk6 r1 r4 rfl ?_ (fun _ => hS)
      rw [plOnly_alike x hc.1,hen]
      unfold stepOk
      constructor
      · rintro ⟨a,_,_,_⟩; exact ⟨by omega,hc.2,.inl h5k,a⟩
      · rintro ⟨_,_,_,a⟩; exact ⟨a,rfl,hok.2.1.1,rfl⟩
    · have hen := plOnly_ent x h5k
      have hr : 1 ≤ x.kind ∧ x.kind ≤ 14 := by have := hc.1; unfold isPl at this; omega
      exact stepEnd10 F (y := plOnly x) (s1 := []) hx.ent (by rw [hen]; exact ⟨⟨_,_,_,_,rfl⟩,.inl ⟨_,_,rfl,rfl⟩⟩) (by rw [hen]; rfl) g6' gx6 kk6 r1 r4 rfl (noEnt hx.ent hen h5k hr hc.2 (plOnly_alike x hc.1)) (fun _ => hS)
  · have hd := decide_eq_false hc
    have hno : ¬ stepOk x := fun ⟨a,b,_,_⟩ => hc ⟨by unfold isPl; omega,b⟩
    simp (maxSteps := 2000000) only [GO,GO2,evK,fillV,setR,binV,intOp,strOp_cat,strOp_eql,strOp_neq,shOp,unV,getR,lenV,partV,V.nj,V.njL,V.cells,Nat.reduceLT,Nat.reduceEqDiff,Nat.reduceAdd,↓reduceIte,Nat.reduceLeDiff,reduceCtorEq,hd,r10_18,r10_19,Bool.not_false]
    exact ⟨by simp [resA,hno],kk5⟩
theorem step10 (F : Fns P E T) {x : WStep} {h : H} {s0 : List UInt8} (ht : T h) (hx : SIn h x s0) : Sp P E (.func 10 [] []) [.agg x.cells] h fun v h' => v = resA (stepOk x) (stepS x) ∧ Kp h h' := by
  by_cases hk : x.kind ≠ 6 ∧ x.kind ≠ 7 ∧ x.kind ≠ 8 ∧ x.kind ≠ 9 ∧ x.kind ≠ 13 ∧ x.kind ≠ 14
  · exact step10_pl F ht hx hk
  · have : x.kind = 6 ∨ x.kind = 7 ∨ x.kind = 8 ∨ x.kind = 9 ∨ x.kind = 13 ∨ x.kind = 14 := by omega
    rcases this with e | e | e | e | e | e
    · exact step10_6 F ht hx e
    · exact step10_7 F ht hx e
    · exact step10_8 F ht hx e
    · exact step10_9 F ht hx e
    · exact step10_13 F ht hx e
    · exact step10_14 F ht hx e
end Go.AM.Sc
