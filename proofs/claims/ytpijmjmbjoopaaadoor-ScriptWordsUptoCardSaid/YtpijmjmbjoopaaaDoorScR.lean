/- My own texts of the evaluator, its soundness and its symbolic runs, laid for this claim. -/
import Derived.Test.YtpijmjmbjoopaaaDoorScS
set_option linter.unusedSimpArgs false
set_option linter.unusedVariables false
namespace Go.AM.Sc
open Go.AM
open Go.Lib (itoa)
variable {P : Program} {E : Env} {T : H → Prop}
theorem ints_len2 {a b : Int} (h1 : InI a) (h2 : InI b) : (intsB [a,b]).length ≤ 50 := by
  have l1 := Lib.itoa_length_le a h1.1 h1.2
  have l2 := Lib.itoa_length_le b h2.1 h2.2
  rw [ints2l]; omega
theorem ints_len1 {a : Int} (h1 : InI a) : (intsB [a]).length ≤ 50 := by
  have l1 := Lib.itoa_length_le a h1.1 h1.2
  rw [ints1l]; omega
theorem at43 (F : Fns P E T) {a : Addr} {w : List UInt8} {h : H} (ht : T h) (h1 : InI a.group) (h2 : InI a.replica) (hw : w.length ≤ 100) :
    Sp P E (.func 43 [] []) [.str w,.agg a.cells] h fun v h' => v = .str (cat w (intsB [a.group,a.replica])) ∧ Kp h h' := by
  have hk0 : Kp h (h.psh (.cells a.cells 33 false false none)) := Keeps.psh (Nat.le_refl _) _
  have gx := psh_same h (.cells a.cells 33 false false none)
  refine Sp_fn F.f43 F.p43 (by simp [fn43]) ?_
  have kp : Kp (h.psh (.cells a.cells 33 false false none)) ((h.psh (.cells a.cells 33 false false none)).psh (.cells [.int .i64 a.group,.int .i64 a.replica] 3 false false none)) := Keeps.psh (Nat.le_refl _) _
  have ll := ints_len2 h1 h2
  have f1 : Fit (cat w (intsB [a.group,a.replica])) := by simp only [Fit,cat,List.length_append,List.length_cons,List.length_nil]; omega
  simp (maxSteps := 2000000) only [GO,GO2,evK,fillV,setR,binV,intOp,strOp_cat,strOp_eql,strOp_neq,shOp,unV,getR,lenV,partV,V.nj,V.njL,V.cells,Nat.reduceLT,Nat.reduceEqDiff,Nat.reduceAdd,↓reduceIte,Nat.reduceLeDiff,reduceCtorEq,fn43,c43,r43_0,r43_1,gx,Addr.g0,Addr.g1]
  refine XC_of (ints31k F (xs := [a.group,a.replica]) (by simp) (ini2 h1 h2) (F.tkeep _ _ ht (Kp.trans hk0 kp)) (sl_ints _ [a.group,a.replica])) ?_
  rintro _ h9 ⟨rfl,k9⟩
  simp (maxSteps := 2000000) only [GO,GO2,evK,fillV,setR,binV,intOp,strOp_cat,strOp_eql,strOp_neq,shOp,unV,getR,lenV,partV,V.nj,V.njL,V.cells,Nat.reduceLT,Nat.reduceEqDiff,Nat.reduceAdd,↓reduceIte,Nat.reduceLeDiff,reduceCtorEq,f1]
  exact Kp.trans hk0 (Kp.trans kp k9)
def isPl (x : WStep) : Prop := x.kind = 1 ∨ x.kind = 2 ∨ x.kind = 3 ∨ x.kind = 4 ∨ x.kind = 5 ∨ x.kind = 10 ∨ x.kind = 11 ∨ x.kind = 12
instance (x : WStep) : Decidable (isPl x) := by unfold isPl; infer_instance
def plOnly (x : WStep) : WStep :=
  if x.kind = 2 then { WStep.zero with kind := x.kind,at_ := x.at_,client := x.client,op := x.op } else
  if x.kind = 3 then { WStep.zero with kind := x.kind,at_ := x.at_,client := x.client } else
  if x.kind = 4 then { WStep.zero with kind := x.kind,at_ := x.at_,client := x.client,query := x.query } else
  if x.kind = 5 then { WStep.zero with kind := x.kind,at_ := x.at_,entry := x.entry } else
  if x.kind = 10 then { WStep.zero with kind := x.kind,at_ := x.at_,keep := x.keep } else
  if x.kind = 11 then { WStep.zero with kind := x.kind,at_ := x.at_,count := x.count,keep := x.keep } else { WStep.zero with kind := x.kind,at_ := x.at_ }
def blk32 : C := .block 0 (.seq (.region r32_4) (.cond (.t 18) (.region r32_5) (.seq (.region r32_6) (.cond (.t 23) (.seq (.draw r32_7) (.seq (.region r32_8) (.draw r32_9))) (.seq (.region r32_10) (.cond (.t 48) (.seq (.region r32_11) (.draw r32_12)) (.seq (.region r32_13) (.cond (.t 61) (.seq (.draw r32_14) (.seq (.region r32_15) (.draw r32_16))) (.seq (.region r32_17) (.cond (.t 86) (.seq (.region r32_18) (.seq (.region r32_19) (.seq (.region r32_20) (.region r32_21)))) (.seq (.region r32_22) (.cond (.t 105) (.seq (.region r32_23) (.draw r32_24)) (.seq (.region r32_25) (.cond (.t 118) (.seq (.draw r32_26) (.draw r32_27)) (.seq (.region r32_28) (.cond (.t 136) (.region r32_29) (.skip)))))))))))))))))
theorem c32_eq : c32 = .seq (.region r32_0) (.seq (.region r32_1) (.seq (.region [⟨some 6,.mv (.k (.bool true)),none,0,[6]⟩]) (.seq (.region r32_2) (.seq (.seq (.region r32_3) blk32) (.seq (.draw r32_30) (.ret)))))) := rfl
set_option maxRecDepth 100000 in
set_option maxHeartbeats 4000000 in
theorem plTail32 {x y z : WStep} {h h5 : H} {ρ : Nat → V} {B b3 : Nat} {s : List UInt8} {ok : Bool} (hyn : V.njL y.cells = true) (gB : h5.get B = some (.cells y.cells 52 false false none)) (g3 : h5.get b3 = some (.cells z.cells 52 false false none)) (hle : h.size ≤ b3) (kk : Kp h h5)
    (r3 : ρ 3 = .ptr (some (b3,0))) (r5 : ρ 5 = .ptr (some (B,0))) (r6 : ρ 6 = .bool ok) (r8 : ρ 8 = .str s) (hy1 : y.cells.all V.one = true) {c : Bool} (hc : (ok && !(s == [])) = c) :
    X P E none 148 [.c (.draw r32_30),.c .ret] ρ h5 (Fin [.t 2,.c 3 76 true,.t 4] fun v h' => v = .tup [.str s,.agg y.cells,.bool c] ∧ Kp h h') := by
  have fl : ∀ z : WStep,z.cells.length = 76 := fun _ => rfl
  have p0 : ∀ z : WStep,List.take 76 z.cells = z.cells := fun _ => rfl
  obtain ⟨h6,e6,g6,k6,z6⟩ := put_ex (o := 0) (ws := y.cells) g3 (by rw [fl,fl]; decide) hy1 rfl
  have g6' : h6.get b3 = some (.cells y.cells 52 false false none) := g6
  have kk6 : Keeps h.size h h6 := Keeps.trans (n := h.size) kk (k6.mono hle)
  subst hc
  rw [X_draw]
  refine XD_pin (ps := [true,true,true,true,false,false,false,true,true,true]) rfl rfl ?_
  cases ok with
  | true =>
    simp (maxSteps := 2000000) only [GO,GO2,evK,fillV,setR,binV,intOp,strOp_cat,strOp_eql,strOp_neq,shOp,unV,getR,lenV,partV,V.nj,V.njL,V.cells,Nat.reduceLT,Nat.reduceEqDiff,Nat.reduceAdd,↓reduceIte,Nat.reduceLeDiff,reduceCtorEq,r32_30,r3,r5,r6,r8,gB,fl,p0,hyn,e6]
    rw [resVs_c (L := 148) (a := 3) (i := b3) (o := 0) (by decide) _ ?hp]
    case hp => exact r3
    simp (maxSteps := 2000000) only [GO,GO2,evK,fillV,setR,binV,intOp,strOp_cat,strOp_eql,strOp_neq,shOp,unV,getR,lenV,partV,V.nj,V.njL,V.cells,Nat.reduceLT,Nat.reduceEqDiff,Nat.reduceAdd,↓reduceIte,Nat.reduceLeDiff,reduceCtorEq,g6',fl,p0]
    exact ⟨rfl,kk6⟩
  | false =>
    simp (maxSteps := 2000000) only [GO,GO2,evK,fillV,setR,binV,intOp,strOp_cat,strOp_eql,strOp_neq,shOp,unV,getR,lenV,partV,V.nj,V.njL,V.cells,Nat.reduceLT,Nat.reduceEqDiff,Nat.reduceAdd,↓reduceIte,Nat.reduceLeDiff,reduceCtorEq,r32_30,r3,r5,r6,r8,gB,fl,p0,hyn,e6]
    rw [resVs_c (L := 148) (a := 3) (i := b3) (o := 0) (by decide) _ ?hp]
    case hp => exact r3
    simp (maxSteps := 2000000) only [GO,GO2,evK,fillV,setR,binV,intOp,strOp_cat,strOp_eql,strOp_neq,shOp,unV,getR,lenV,partV,V.nj,V.njL,V.cells,Nat.reduceLT,Nat.reduceEqDiff,Nat.reduceAdd,↓reduceIte,Nat.reduceLeDiff,reduceCtorEq,g6',fl,p0]
    exact ⟨rfl,kk6⟩
set_option maxRecDepth 100000 in
set_option maxHeartbeats 4000000 in
theorem pl32_pre (F : Fns P E T) {x : WStep} {h : H} {Q : V → H → Prop}
    (hk : ∀ (ρ : Nat → V) (h3 : H) (bx b3 B : Nat),bx < B → b3 < B → bx ≠ b3 → h3.get bx = some (.cells x.cells 52 false false none) → h3.get b3 = some (.cells WStep.zero.cells 52 false false none) → h3.get B = some (.cells ({ WStep.zero with kind := x.kind,at_ := x.at_ } : WStep).cells 52 false false none) → Kp h h3 → h.size ≤ B → h.size ≤ b3 → ρ 1 = .ptr (some (bx,0)) → ρ 3 = .ptr (some (b3,0)) → ρ 5 = .ptr (some (B,0)) → ρ 6 = .bool true → ρ 7 = .str [] → ρ 8 = .str [] → ρ 17 = .int .i64 x.kind →
      X P E none 148 [.c blk32,.c (.seq (.draw r32_30) (.ret))] ρ h3 (Fin [.t 2,.c 3 76 true,.t 4] Q)) :
    Sp P E (.func 32 [] []) [.agg x.cells] h Q := by
  have hk0 : Kp h (h.psh (.cells x.cells 52 false false none)) := Keeps.psh (Nat.le_refl _) _
  have gx0 := psh_same h (.cells x.cells 52 false false none)
  have hk1 : Kp (h.psh (.cells x.cells 52 false false none)) ((h.psh (.cells x.cells 52 false false none)).psh (.cells WStep.zero.cells 52 false false none)) := Keeps.psh (Nat.le_refl _) _
  have gz := psh_same (h.psh (.cells x.cells 52 false false none)) (.cells WStep.zero.cells 52 false false none)
  have gx := Kp.of hk1 gx0
  have hlt0 : h.size < (h.psh (.cells x.cells 52 false false none)).size := Nat.lt_succ_self _
  have hlt1 : (h.psh (.cells x.cells 52 false false none)).size < ((h.psh (.cells x.cells 52 false false none)).psh (.cells WStep.zero.cells 52 false false none)).size := Nat.lt_succ_self _
  refine Sp_fn F.f32 F.p32 (by simp [fn32]) ?_
  have kk1 := Kp.trans hk0 hk1
  have hzz : WStep.zero.cells = WStep.zero.cells := rfl
  conv at hzz => rhs; simp only [WStep.zero,WStep.cells,Entry.zero,Addr.zero,Query.zero,Opr.zero,Epoch.zero,Vec.zero,Part.zero]
  simp (maxSteps := 2000000) only [GO,GO2,evK,fillV,setR,binV,intOp,strOp_cat,strOp_eql,strOp_neq,shOp,unV,getR,lenV,partV,V.nj,V.njL,V.cells,Nat.reduceLT,Nat.reduceEqDiff,Nat.reduceAdd,↓reduceIte,Nat.reduceLeDiff,reduceCtorEq,fn32,c32_eq,r32_0,← hzz]
  generalize (h.psh (.cells x.cells 52 false false none)).psh (.cells WStep.zero.cells 52 false false none) = h1 at *
  generalize (h.psh (.cells x.cells 52 false false none)).size = b3 at *
  obtain ⟨h3,e3,g3,k3,z3⟩ := put_ex (o := 0) (ws := ({ WStep.zero with kind := x.kind,at_ := x.at_ } : WStep).cells) (psh_same h1 (.cells WStep.zero.cells 52 false false none)) (Nat.le_refl _) rfl rfl
  have k3' : Kp h1 h3 := Keeps.trans (Keeps.psh (Nat.le_refl _) _) k3
  have gx3 := Kp.of k3' gx
  have gz3 := Kp.of k3' gz
  have kk3 := Kp.trans kk1 k3'
  have p1 : List.take 2 (List.drop 1 x.cells) = [.int .i64 x.at_.group,.int .i64 x.at_.replica] := rfl
  have hg0 := WStep.g0 x
  have fl := WStep.len x
  generalize x.cells = xc at *
  simp only [WStep.zero,WStep.cells,Entry.zero,Addr.zero,Query.zero,Opr.zero,Epoch.zero,Vec.zero,Part.zero] at e3
  simp (maxSteps := 2000000) only [GO,GO2,evK,fillV,setR,binV,intOp,strOp_cat,strOp_eql,strOp_neq,shOp,unV,getR,lenV,partV,V.nj,V.njL,V.cells,Nat.reduceLT,Nat.reduceEqDiff,Nat.reduceAdd,↓reduceIte,Nat.reduceLeDiff,reduceCtorEq,r32_1,r32_2,r32_3,gx,gx3,hg0,fl,p1,e3]
  exact hk _ h3 h.size b3 h1.size (by omega) hlt1 (by omega) gx3 gz3 g3 kk3 (by omega) (by omega) rfl rfl rfl rfl rfl rfl rfl
theorem plEnd32 {x : WStep} {h h5 : H} {s0 : List UInt8} (hx : EIn h x.entry s0) {ρ : Nat → V} {B b3 : Nat} {s : List UInt8} {ok : Bool} (gB : h5.get B = some (.cells (plOnly x).cells 52 false false none)) (g3 : h5.get b3 = some (.cells WStep.zero.cells 52 false false none)) (hle : h.size ≤ b3) (kk : Kp h h5)
    (r3 : ρ 3 = .ptr (some (b3,0))) (r5 : ρ 5 = .ptr (some (B,0))) (r6 : ρ 6 = .bool ok) (r8 : ρ 8 = .str s) {b : Bool} (hb : (s == []) = b) (hc : (ok && !b) = decide (isPl x ∧ txtOk x)) (hs : isPl x → txtOk x → s = stepS x) :
    X P E none 148 [.c (.draw r32_30),.c .ret] ρ h5 (Fin [.t 2,.c 3 76 true,.t 4] fun v h' => (∃ s,v = .tup [.str s,.agg (plOnly x).cells,.bool (decide (isPl x ∧ txtOk x))] ∧ (isPl x → txtOk x → s = stepS x)) ∧ Kp h h') := by
  have hn : V.njL (plOnly x).cells = true ∧ (plOnly x).cells.all V.one = true := by
    obtain ⟨a,n,c,o,e1⟩ := hx.ops
    obtain ⟨a',n',c',o',e2⟩ : ∃ a n c o,x.entry.part.data = .slice a n c o := by
      rcases hx.dat with ⟨c,o,e,_⟩ | ⟨p,n,c,o,cs,e,_⟩
      · exact ⟨_,_,_,_,e⟩
      · exact ⟨_,_,_,_,e⟩
    have key : ∀ y : WStep,y.entry.ops = .slice none 0 0 false ∧ y.entry.part.data = .slice none 0 0 false ∨ y.entry = x.entry → V.njL y.cells = true ∧ y.cells.all V.one = true := by
      intro y hy
      have e3 : ∃ a n c o,y.entry.ops = .slice a n c o := by
        rcases hy with hy | hy
        · exact ⟨_,_,_,_,hy.1⟩
        · rw [hy]; exact ⟨_,_,_,_,e1⟩
      have e4 : ∃ a n c o,y.entry.part.data = .slice a n c o := by
        rcases hy with hy | hy
        · exact ⟨_,_,_,_,hy.2⟩
        · rw [hy]; exact ⟨_,_,_,_,e2⟩
      obtain ⟨_,_,_,_,e3⟩ := e3
      obtain ⟨_,_,_,_,e4⟩ := e4
      constructor
      · simp only [WStep.cells,V.njL,V.nj,e3,e4,Bool.and_self]
      · simp only [WStep.cells,List.all_cons,List.all_nil,V.one,e3,e4,Bool.and_self]
    refine key _ ?_
    unfold plOnly
    split
    · exact .inl ⟨rfl,rfl⟩
    · split
      · exact .inl ⟨rfl,rfl⟩
      · split
        · exact .inl ⟨rfl,rfl⟩
        · split
          · exact .inr rfl
          · split
            · exact .inl ⟨rfl,rfl⟩
            · split <;> exact .inl ⟨rfl,rfl⟩
  have := plTail32 (P := P) (E := E) (x := x) hn.1 gB g3 hle kk r3 r5 r6 r8 hn.2 (c := decide (isPl x ∧ txtOk x)) (by rw [hb]; exact hc)
  obtain ⟨ex,T',h',q1,q2⟩ := this
  refine ⟨ex,T',h',q1,?_⟩
  obtain ⟨w1,w2⟩ := q2
  refine ⟨w1,?_⟩
  split at w2
  · exact ⟨⟨s,w2.1,hs⟩,w2.2⟩
  · exact w2.elim
theorem pl32_end_ok {x : WStep} (h : isPl x ∧ txtOk x) : (true && !false) = decide (isPl x ∧ txtOk x) := by rw [decide_eq_true h]; rfl
set_option maxRecDepth 100000 in
set_option maxHeartbeats 4000000 in
theorem pl32_1 (F : Fns P E T) {x : WStep} {h : H} {s0 : List UInt8} (ht : T h) (hx : SIn h x s0) (hk : x.kind = 1) : Sp P E (.func 32 [] []) [.agg x.cells] h fun v h' => (∃ s,v = .tup [.str s,.agg (plOnly x).cells,.bool (decide (isPl x ∧ txtOk x))] ∧ (isPl x → txtOk x → s = stepS x)) ∧ Kp h h' := by
  refine pl32_pre F fun ρ h3 bx b3 B hlt hlt3 hne gx gz gB kk hle hle3 r1 r3 r5 r6 r7 r8 r17 => ?_
  have hn1 : (x.kind == 1) = true := by rw [hk]; rfl
  have la := ints_len2 hx.group hx.replica
  have p1 : List.take 2 (List.drop 1 x.cells) = x.at_.cells := rfl
  have j1 : V.njL x.at_.cells = true := rfl
  have hbo : plOnly x = { WStep.zero with kind := x.kind,at_ := x.at_ } := by simp [plOnly,hk]
  simp (maxSteps := 2000000) only [GO,GO2,evK,fillV,setR,binV,intOp,strOp_cat,strOp_eql,strOp_neq,shOp,unV,getR,lenV,partV,V.nj,V.njL,V.cells,Nat.reduceLT,Nat.reduceEqDiff,Nat.reduceAdd,↓reduceIte,Nat.reduceLeDiff,reduceCtorEq,blk32,r17,hn1,r32_4,r32_5,r1,gx,WStep.len,p1]
  refine XC_of (at43 F (F.tkeep _ _ ht kk) hx.group hx.replica (by simp)) ?_
  rintro _ h9 ⟨rfl,k9⟩
  simp (maxSteps := 2000000) only [GO,GO2,evK,fillV,setR,binV,intOp,strOp_cat,strOp_eql,strOp_neq,shOp,unV,getR,lenV,partV,V.nj,V.njL,V.cells,Nat.reduceLT,Nat.reduceEqDiff,Nat.reduceAdd,↓reduceIte,Nat.reduceLeDiff,reduceCtorEq]
  exact plEnd32 (b := false) hx.ent (by rw [hbo]; exact Kp.of k9 gB) (Kp.of k9 gz) hle3 (Kp.trans kk k9) r3 r5 r6 rfl rfl (pl32_end_ok (by simp [isPl,txtOk,hk])) (fun _ _ => by simp [stepS,hk,cat,atS,intsB_cons])
set_option maxRecDepth 100000 in
set_option maxHeartbeats 4000000 in
theorem pl32_12 (F : Fns P E T) {x : WStep} {h : H} {s0 : List UInt8} (ht : T h) (hx : SIn h x s0) (hk : x.kind = 12) : Sp P E (.func 32 [] []) [.agg x.cells] h fun v h' => (∃ s,v = .tup [.str s,.agg (plOnly x).cells,.bool (decide (isPl x ∧ txtOk x))] ∧ (isPl x → txtOk x → s = stepS x)) ∧ Kp h h' := by
  refine pl32_pre F fun ρ h3 bx b3 B hlt hlt3 hne gx gz gB kk hle hle3 r1 r3 r5 r6 r7 r8 r17 => ?_
  have hn1 : (x.kind == 1) = false := by rw [hk]; rfl
  have hn2 : (x.kind == 2) = false := by rw [hk]; rfl
  have hn3 : (x.kind == 3) = false := by rw [hk]; rfl
  have hn4 : (x.kind == 4) = false := by rw [hk]; rfl
  have hn5 : (x.kind == 5) = false := by rw [hk]; rfl
  have hn10 : (x.kind == 10) = false := by rw [hk]; rfl
  have hn11 : (x.kind == 11) = false := by rw [hk]; rfl
  have hn12 : (x.kind == 12) = true := by rw [hk]; rfl
  have la := ints_len2 hx.group hx.replica
  have p1 : List.take 2 (List.drop 1 x.cells) = x.at_.cells := rfl
  have j1 : V.njL x.at_.cells = true := rfl
  have hbo : plOnly x = { WStep.zero with kind := x.kind,at_ := x.at_ } := by simp [plOnly,hk]
  simp (maxSteps := 2000000) only [GO,GO2,evK,fillV,setR,binV,intOp,strOp_cat,strOp_eql,strOp_neq,shOp,unV,getR,lenV,partV,V.nj,V.njL,V.cells,Nat.reduceLT,Nat.reduceEqDiff,Nat.reduceAdd,↓reduceIte,Nat.reduceLeDiff,reduceCtorEq,blk32,r17,hn1,r32_4,hn2,r32_6,hn3,r32_10,hn4,r32_13,hn5,r32_17,hn10,r32_22,hn11,r32_25,hn12,r32_28,r32_29,r1,gx,WStep.len,p1]
  refine XC_of (at43 F (F.tkeep _ _ ht kk) hx.group hx.replica (by simp)) ?_
  rintro _ h9 ⟨rfl,k9⟩
  simp (maxSteps := 2000000) only [GO,GO2,evK,fillV,setR,binV,intOp,strOp_cat,strOp_eql,strOp_neq,shOp,unV,getR,lenV,partV,V.nj,V.njL,V.cells,Nat.reduceLT,Nat.reduceEqDiff,Nat.reduceAdd,↓reduceIte,Nat.reduceLeDiff,reduceCtorEq]
  exact plEnd32 (b := false) hx.ent (by rw [hbo]; exact Kp.of k9 gB) (Kp.of k9 gz) hle3 (Kp.trans kk k9) r3 r5 r6 rfl rfl (pl32_end_ok (by simp [isPl,txtOk,hk])) (fun _ _ => by simp [stepS,hk,cat,atS,intsB_cons])
set_option maxRecDepth 100000 in
set_option maxHeartbeats 4000000 in
theorem pl32_3 (F : Fns P E T) {x : WStep} {h : H} {s0 : List UInt8} (ht : T h) (hx : SIn h x s0) (hk : x.kind = 3) : Sp P E (.func 32 [] []) [.agg x.cells] h fun v h' => (∃ s,v = .tup [.str s,.agg (plOnly x).cells,.bool (decide (isPl x ∧ txtOk x))] ∧ (isPl x → txtOk x → s = stepS x)) ∧ Kp h h' := by
  refine pl32_pre F fun ρ h3 bx b3 B hlt hlt3 hne gx gz gB kk hle hle3 r1 r3 r5 r6 r7 r8 r17 => ?_
  have hn1 : (x.kind == 1) = false := by rw [hk]; rfl
  have hn2 : (x.kind == 2) = false := by rw [hk]; rfl
  have hn3 : (x.kind == 3) = true := by rw [hk]; rfl
  have la := ints_len2 hx.group hx.replica
  have p1 : List.take 2 (List.drop 1 x.cells) = x.at_.cells := rfl
  have j1 : V.njL x.at_.cells = true := rfl
  obtain ⟨h4,e4,g4,k4,z4⟩ := put_ex (o := 3) (ws := [.int .i64 x.client]) gB (Nat.le_of_ble_eq_true rfl) rfl rfl
  have gB4 : h4.get B = some (.cells ({ WStep.zero with kind := x.kind,at_ := x.at_,client := x.client } : WStep).cells 52 false false none) := g4
  have gx4 : h4.get bx = some (.cells x.cells 52 false false none) := by rw [k4.get _ hlt]; exact gx
  have gz4 : h4.get b3 = some (.cells WStep.zero.cells 52 false false none) := by rw [k4.get _ hlt3]; exact gz
  have kk4 : Kp h h4 := Keeps.trans (n := h.size) kk (k4.mono hle)
  have hbo : plOnly x = { WStep.zero with kind := x.kind,at_ := x.at_,client := x.client } := by simp [plOnly,hk]
  simp (maxSteps := 2000000) only [GO,GO2,evK,fillV,setR,binV,intOp,strOp_cat,strOp_eql,strOp_neq,shOp,unV,getR,lenV,partV,V.nj,V.njL,V.cells,Nat.reduceLT,Nat.reduceEqDiff,Nat.reduceAdd,↓reduceIte,Nat.reduceLeDiff,reduceCtorEq,blk32,r17,hn1,r32_4,hn2,r32_6,hn3,r32_10,r32_11,r1,r5,gx,WStep.g3,WStep.len,e4]
  rw [X_draw]
  refine d32_12 ?_
  simp (maxSteps := 2000000) only [GO,GO2,evK,fillV,setR,binV,intOp,strOp_cat,strOp_eql,strOp_neq,shOp,unV,getR,lenV,partV,V.nj,V.njL,V.cells,Nat.reduceLT,Nat.reduceEqDiff,Nat.reduceAdd,↓reduceIte,Nat.reduceLeDiff,reduceCtorEq,r32_12,r1,gx4,WStep.g3,WStep.len,p1,j1]
  refine XCQ_of (at43 F (F.tkeep _ _ ht kk4) hx.group hx.replica (by simp)) ?_
  rintro _ h8 ⟨rfl,k8⟩
  refine ⟨k8,?_⟩
  have gx8 := Kp.of k8 gx4
  have gB8 := Kp.of k8 gB4
  have gz8 := Kp.of k8 gz4
  have kk8 := Kp.trans kk4 k8
  have kp : Kp h8 (h8.psh (.cells [.int .i64 x.client] 3 false false none)) := Keeps.psh (Nat.le_refl _) _
  simp (maxSteps := 2000000) only [GO,GO2,evK,fillV,setR,binV,intOp,strOp_cat,strOp_eql,strOp_neq,shOp,unV,getR,lenV,partV,V.nj,V.njL,V.cells,Nat.reduceLT,Nat.reduceEqDiff,Nat.reduceAdd,↓reduceIte,Nat.reduceLeDiff,reduceCtorEq,r1,gx4,gx8,WStep.g3,WStep.len]
  refine ⟨kp,?_⟩
  refine XCQ_of (ints31k F (xs := [x.client]) (by simp) (ini1 hx.client) (F.tkeep _ _ ht (Kp.trans kk8 kp)) (sl_ints h8 [x.client])) ?_
  rintro _ h9 ⟨rfl,k9⟩
  refine ⟨k9,?_⟩
  have k9' := Kp.trans kp k9
  have ll := ints_len1 hx.client
  have f1 : Fit (cat (cat [114,101,116,114,121] (intsB [x.at_.group,x.at_.replica])) (intsB [x.client])) := by simp only [Fit,cat,List.length_append,List.length_cons,List.length_nil]; omega
  simp (maxSteps := 2000000) only [GO,GO2,evK,fillV,setR,binV,intOp,strOp_cat,strOp_eql,strOp_neq,shOp,unV,getR,lenV,partV,V.nj,V.njL,V.cells,Nat.reduceLT,Nat.reduceEqDiff,Nat.reduceAdd,↓reduceIte,Nat.reduceLeDiff,reduceCtorEq,f1]
  exact plEnd32 (b := false) hx.ent (by rw [hbo]; exact Kp.of k9' gB8) (Kp.of k9' gz8) hle3 (Kp.trans kk8 k9') r3 r5 r6 rfl rfl (pl32_end_ok (by simp [isPl,txtOk,hk])) (fun _ _ => by simp [stepS,hk,cat,atS,intsB_cons,itoas1,ints1])
set_option maxRecDepth 100000 in
set_option maxHeartbeats 4000000 in
theorem pl32_10 (F : Fns P E T) {x : WStep} {h : H} {s0 : List UInt8} (ht : T h) (hx : SIn h x s0) (hk : x.kind = 10) : Sp P E (.func 32 [] []) [.agg x.cells] h fun v h' => (∃ s,v = .tup [.str s,.agg (plOnly x).cells,.bool (decide (isPl x ∧ txtOk x))] ∧ (isPl x → txtOk x → s = stepS x)) ∧ Kp h h' := by
  refine pl32_pre F fun ρ h3 bx b3 B hlt hlt3 hne gx gz gB kk hle hle3 r1 r3 r5 r6 r7 r8 r17 => ?_
  have hn1 : (x.kind == 1) = false := by rw [hk]; rfl
  have hn2 : (x.kind == 2) = false := by rw [hk]; rfl
  have hn3 : (x.kind == 3) = false := by rw [hk]; rfl
  have hn4 : (x.kind == 4) = false := by rw [hk]; rfl
  have hn5 : (x.kind == 5) = false := by rw [hk]; rfl
  have hn10 : (x.kind == 10) = true := by rw [hk]; rfl
  have la := ints_len2 hx.group hx.replica
  have p1 : List.take 2 (List.drop 1 x.cells) = x.at_.cells := rfl
  have j1 : V.njL x.at_.cells = true := rfl
  obtain ⟨h4,e4,g4,k4,z4⟩ := put_ex (o := 75) (ws := [.int .i64 x.keep]) gB (Nat.le_of_ble_eq_true rfl) rfl rfl
  have gB4 : h4.get B = some (.cells ({ WStep.zero with kind := x.kind,at_ := x.at_,keep := x.keep } : WStep).cells 52 false false none) := g4
  have gx4 : h4.get bx = some (.cells x.cells 52 false false none) := by rw [k4.get _ hlt]; exact gx
  have gz4 : h4.get b3 = some (.cells WStep.zero.cells 52 false false none) := by rw [k4.get _ hlt3]; exact gz
  have kk4 : Kp h h4 := Keeps.trans (n := h.size) kk (k4.mono hle)
  have hbo : plOnly x = { WStep.zero with kind := x.kind,at_ := x.at_,keep := x.keep } := by simp [plOnly,hk]
  simp (maxSteps := 2000000) only [GO,GO2,evK,fillV,setR,binV,intOp,strOp_cat,strOp_eql,strOp_neq,shOp,unV,getR,lenV,partV,V.nj,V.njL,V.cells,Nat.reduceLT,Nat.reduceEqDiff,Nat.reduceAdd,↓reduceIte,Nat.reduceLeDiff,reduceCtorEq,blk32,r17,hn1,r32_4,hn2,r32_6,hn3,r32_10,hn4,r32_13,hn5,r32_17,hn10,r32_22,r32_23,r1,r5,gx,WStep.g75,WStep.len,e4]
  rw [X_draw]
  refine d32_24 ?_
  simp (maxSteps := 2000000) only [GO,GO2,evK,fillV,setR,binV,intOp,strOp_cat,strOp_eql,strOp_neq,shOp,unV,getR,lenV,partV,V.nj,V.njL,V.cells,Nat.reduceLT,Nat.reduceEqDiff,Nat.reduceAdd,↓reduceIte,Nat.reduceLeDiff,reduceCtorEq,r32_24,r1,gx4,WStep.g75,WStep.len,p1,j1]
  refine XCQ_of (at43 F (F.tkeep _ _ ht kk4) hx.group hx.replica (by simp)) ?_
  rintro _ h8 ⟨rfl,k8⟩
  refine ⟨k8,?_⟩
  have gx8 := Kp.of k8 gx4
  have gB8 := Kp.of k8 gB4
  have gz8 := Kp.of k8 gz4
  have kk8 := Kp.trans kk4 k8
  have kp : Kp h8 (h8.psh (.cells [.int .i64 x.keep] 3 false false none)) := Keeps.psh (Nat.le_refl _) _
  simp (maxSteps := 2000000) only [GO,GO2,evK,fillV,setR,binV,intOp,strOp_cat,strOp_eql,strOp_neq,shOp,unV,getR,lenV,partV,V.nj,V.njL,V.cells,Nat.reduceLT,Nat.reduceEqDiff,Nat.reduceAdd,↓reduceIte,Nat.reduceLeDiff,reduceCtorEq,r1,gx4,gx8,WStep.g75,WStep.len]
  refine ⟨kp,?_⟩
  refine XCQ_of (ints31k F (xs := [x.keep]) (by simp) (ini1 hx.keep) (F.tkeep _ _ ht (Kp.trans kk8 kp)) (sl_ints h8 [x.keep])) ?_
  rintro _ h9 ⟨rfl,k9⟩
  refine ⟨k9,?_⟩
  have k9' := Kp.trans kp k9
  have ll := ints_len1 hx.keep
  have f1 : Fit (cat (cat [99,114,97,115,104] (intsB [x.at_.group,x.at_.replica])) (intsB [x.keep])) := by simp only [Fit,cat,List.length_append,List.length_cons,List.length_nil]; omega
  simp (maxSteps := 2000000) only [GO,GO2,evK,fillV,setR,binV,intOp,strOp_cat,strOp_eql,strOp_neq,shOp,unV,getR,lenV,partV,V.nj,V.njL,V.cells,Nat.reduceLT,Nat.reduceEqDiff,Nat.reduceAdd,↓reduceIte,Nat.reduceLeDiff,reduceCtorEq,f1]
  exact plEnd32 (b := false) hx.ent (by rw [hbo]; exact Kp.of k9' gB8) (Kp.of k9' gz8) hle3 (Kp.trans kk8 k9') r3 r5 r6 rfl rfl (pl32_end_ok (by simp [isPl,txtOk,hk])) (fun _ _ => by simp [stepS,hk,cat,atS,intsB_cons,itoas1,ints1])
set_option maxRecDepth 100000 in
set_option maxHeartbeats 4000000 in
theorem pl32_11 (F : Fns P E T) {x : WStep} {h : H} {s0 : List UInt8} (ht : T h) (hx : SIn h x s0) (hk : x.kind = 11) : Sp P E (.func 32 [] []) [.agg x.cells] h fun v h' => (∃ s,v = .tup [.str s,.agg (plOnly x).cells,.bool (decide (isPl x ∧ txtOk x))] ∧ (isPl x → txtOk x → s = stepS x)) ∧ Kp h h' := by
  refine pl32_pre F fun ρ h3 bx b3 B hlt hlt3 hne gx gz gB kk hle hle3 r1 r3 r5 r6 r7 r8 r17 => ?_
  have hn1 : (x.kind == 1) = false := by rw [hk]; rfl
  have hn2 : (x.kind == 2) = false := by rw [hk]; rfl
  have hn3 : (x.kind == 3) = false := by rw [hk]; rfl
  have hn4 : (x.kind == 4) = false := by rw [hk]; rfl
  have hn5 : (x.kind == 5) = false := by rw [hk]; rfl
  have hn10 : (x.kind == 10) = false := by rw [hk]; rfl
  have hn11 : (x.kind == 11) = true := by rw [hk]; rfl
  have la := ints_len2 hx.group hx.replica
  have p1 : List.take 2 (List.drop 1 x.cells) = x.at_.cells := rfl
  have j1 : V.njL x.at_.cells = true := rfl
  obtain ⟨h4,e4,g4,k4,z4⟩ := put_ex (o := 74) (ws := [.int .i64 x.count]) gB (Nat.le_of_ble_eq_true rfl) rfl rfl
  have gB4 : h4.get B = some (.cells ({ WStep.zero with kind := x.kind,at_ := x.at_,count := x.count } : WStep).cells 52 false false none) := g4
  have gx4 : h4.get bx = some (.cells x.cells 52 false false none) := by rw [k4.get _ hlt]; exact gx
  have gz4 : h4.get b3 = some (.cells WStep.zero.cells 52 false false none) := by rw [k4.get _ hlt3]; exact gz
  have kk4 : Kp h h4 := Keeps.trans (n := h.size) kk (k4.mono hle)
  obtain ⟨h5,e5,g5,k5,z5⟩ := put_ex (o := 75) (ws := [.int .i64 x.keep]) gB4 (Nat.le_of_ble_eq_true rfl) rfl rfl
  have gB5 : h5.get B = some (.cells ({ WStep.zero with kind := x.kind,at_ := x.at_,count := x.count,keep := x.keep } : WStep).cells 52 false false none) := g5
  have gx5 : h5.get bx = some (.cells x.cells 52 false false none) := by rw [k5.get _ hlt]; exact gx4
  have gz5 : h5.get b3 = some (.cells WStep.zero.cells 52 false false none) := by rw [k5.get _ hlt3]; exact gz4
  have kk5 : Kp h h5 := Keeps.trans (n := h.size) kk4 (k5.mono hle)
  have hbo : plOnly x = { WStep.zero with kind := x.kind,at_ := x.at_,count := x.count,keep := x.keep } := by simp [plOnly,hk]
  simp (maxSteps := 2000000) only [GO,GO2,evK,fillV,setR,binV,intOp,strOp_cat,strOp_eql,strOp_neq,shOp,unV,getR,lenV,partV,V.nj,V.njL,V.cells,Nat.reduceLT,Nat.reduceEqDiff,Nat.reduceAdd,↓reduceIte,Nat.reduceLeDiff,reduceCtorEq,blk32,r17,hn1,r32_4,hn2,r32_6,hn3,r32_10,hn4,r32_13,hn5,r32_17,hn10,r32_22,hn11,r32_25]
  rw [X_draw]
  refine k32_26 B (XDJ_XDK ?_)
  simp (maxSteps := 2000000) only [GO,GO2,evK,fillV,setR,binV,intOp,strOp_cat,strOp_eql,strOp_neq,shOp,unV,getR,lenV,partV,V.nj,V.njL,V.cells,Nat.reduceLT,Nat.reduceEqDiff,Nat.reduceAdd,↓reduceIte,Nat.reduceLeDiff,reduceCtorEq,r32_26,r1,r5,gx,WStep.g74,WStep.g75,WStep.len,hlt,e4]
  refine ⟨k4,?_⟩
  simp (maxSteps := 2000000) only [GO,GO2,evK,fillV,setR,binV,intOp,strOp_cat,strOp_eql,strOp_neq,shOp,unV,getR,lenV,partV,V.nj,V.njL,V.cells,Nat.reduceLT,Nat.reduceEqDiff,Nat.reduceAdd,↓reduceIte,Nat.reduceLeDiff,reduceCtorEq,e5,r5,WStep.g74,WStep.g75]
  refine ⟨k5,?_⟩
  rw [X_draw]
  refine d32_27 ?_
  simp (maxSteps := 2000000) only [GO,GO2,evK,fillV,setR,binV,intOp,strOp_cat,strOp_eql,strOp_neq,shOp,unV,getR,lenV,partV,V.nj,V.njL,V.cells,Nat.reduceLT,Nat.reduceEqDiff,Nat.reduceAdd,↓reduceIte,Nat.reduceLeDiff,reduceCtorEq,r32_27,r1,gx5,WStep.g74,WStep.g75,WStep.len,p1,j1]
  refine XCQ_of (at43 F (F.tkeep _ _ ht kk5) hx.group hx.replica (by simp)) ?_
  rintro _ h8 ⟨rfl,k8⟩
  refine ⟨k8,?_⟩
  have gx8 := Kp.of k8 gx5
  have gB8 := Kp.of k8 gB5
  have gz8 := Kp.of k8 gz5
  have kk8 := Kp.trans kk5 k8
  have kp : Kp h8 (h8.psh (.cells [.int .i64 x.count,.int .i64 x.keep] 3 false false none)) := Keeps.psh (Nat.le_refl _) _
  simp (maxSteps := 2000000) only [GO,GO2,evK,fillV,setR,binV,intOp,strOp_cat,strOp_eql,strOp_neq,shOp,unV,getR,lenV,partV,V.nj,V.njL,V.cells,Nat.reduceLT,Nat.reduceEqDiff,Nat.reduceAdd,↓reduceIte,Nat.reduceLeDiff,reduceCtorEq,r1,gx5,gx8,WStep.g74,WStep.g75,WStep.len]
  refine ⟨kp,?_⟩
  refine XCQ_of (ints31k F (xs := [x.count,x.keep]) (by simp) (ini2 hx.count hx.keep) (F.tkeep _ _ ht (Kp.trans kk8 kp)) (sl_ints h8 [x.count,x.keep])) ?_
  rintro _ h9 ⟨rfl,k9⟩
  refine ⟨k9,?_⟩
  have k9' := Kp.trans kp k9
  have ll := ints_len2 hx.count hx.keep
  have f1 : Fit (cat (cat [102,117,115,101] (intsB [x.at_.group,x.at_.replica])) (intsB [x.count,x.keep])) := by simp only [Fit,cat,List.length_append,List.length_cons,List.length_nil]; omega
  simp (maxSteps := 2000000) only [GO,GO2,evK,fillV,setR,binV,intOp,strOp_cat,strOp_eql,strOp_neq,shOp,unV,getR,lenV,partV,V.nj,V.njL,V.cells,Nat.reduceLT,Nat.reduceEqDiff,Nat.reduceAdd,↓reduceIte,Nat.reduceLeDiff,reduceCtorEq,f1]
  exact plEnd32 (b := false) hx.ent (by rw [hbo]; exact Kp.of k9' gB8) (Kp.of k9' gz8) hle3 (Kp.trans kk8 k9') r3 r5 r6 rfl rfl (pl32_end_ok (by simp [isPl,txtOk,hk])) (fun _ _ => by simp [stepS,hk,cat,atS,intsB_cons,itoas1,ints1])
theorem queryS2_len {x : Query} (h1 : InI x.node) (n1 : x.path.length ≤ 16777216) : (queryS2 x).length ≤ 1000000000 := by
  have l1 := Lib.itoa_length_le x.node h1.1 h1.2
  have q1 := quoteB_len n1
  unfold queryS2
  split
  · simp only [List.length_append,List.length_cons,List.length_nil]; omega
  · split
    · simp only [List.length_append,List.length_cons,List.length_nil]; omega
    · split
      · simp only [List.length_append,List.length_cons,List.length_nil]; omega
      · simp only [List.length_append,List.length_cons,List.length_nil]; omega
set_option maxRecDepth 100000 in
set_option maxHeartbeats 4000000 in
theorem pl32_2 (F : Fns P E T) {x : WStep} {h : H} {s0 : List UInt8} (ht : T h) (hx : SIn h x s0) (hk : x.kind = 2) : Sp P E (.func 32 [] []) [.agg x.cells] h fun v h' => (∃ s,v = .tup [.str s,.agg (plOnly x).cells,.bool (decide (isPl x ∧ txtOk x))] ∧ (isPl x → txtOk x → s = stepS x)) ∧ Kp h h' := by
  refine pl32_pre F fun ρ h3 bx b3 B hlt hlt3 hne gx gz gB kk hle hle3 r1 r3 r5 r6 r7 r8 r17 => ?_
  have hn1 : (x.kind == 1) = false := by rw [hk]; rfl
  have hn2 : (x.kind == 2) = true := by rw [hk]; rfl
  have la := ints_len2 hx.group hx.replica
  have p1 : List.take 2 (List.drop 1 x.cells) = x.at_.cells := rfl
  have j1 : V.njL x.at_.cells = true := rfl
  obtain ⟨h4,e4,g4,k4,z4⟩ := put_ex (o := 3) (ws := [.int .i64 x.client]) gB (Nat.le_of_ble_eq_true rfl) rfl rfl
  have gB4 : h4.get B = some (.cells ({ WStep.zero with kind := x.kind,at_ := x.at_,client := x.client } : WStep).cells 52 false false none) := g4
  have gx4 : h4.get bx = some (.cells x.cells 52 false false none) := by rw [k4.get _ hlt]; exact gx
  have gz4 : h4.get b3 = some (.cells WStep.zero.cells 52 false false none) := by rw [k4.get _ hlt3]; exact gz
  have kk4 : Kp h h4 := Keeps.trans (n := h.size) kk (k4.mono hle)
  obtain ⟨h5,e5,g5,k5,z5⟩ := put_ex (o := 4) (ws := x.op.cells) gB4 (Nat.le_of_ble_eq_true rfl) rfl rfl
  have gB5 : h5.get B = some (.cells ({ WStep.zero with kind := x.kind,at_ := x.at_,client := x.client,op := x.op } : WStep).cells 52 false false none) := g5
  have gx5 : h5.get bx = some (.cells x.cells 52 false false none) := by rw [k5.get _ hlt]; exact gx4
  have gz5 : h5.get b3 = some (.cells WStep.zero.cells 52 false false none) := by rw [k5.get _ hlt3]; exact gz4
  have kk5 : Kp h h5 := Keeps.trans (n := h.size) kk4 (k5.mono hle)
  have p4 : List.take 8 (List.drop 4 x.cells) = x.op.cells := rfl
  have j4 : V.njL x.op.cells = true := rfl
  have hbo : plOnly x = { WStep.zero with kind := x.kind,at_ := x.at_,client := x.client,op := x.op } := by simp [plOnly,hk]
  have lo := opS_len hx.opnode hx.opparent hx.opname hx.opkey hx.opvalue
  simp (maxSteps := 2000000) only [GO,GO2,evK,fillV,setR,binV,intOp,strOp_cat,strOp_eql,strOp_neq,shOp,unV,getR,lenV,partV,V.nj,V.njL,V.cells,Nat.reduceLT,Nat.reduceEqDiff,Nat.reduceAdd,↓reduceIte,Nat.reduceLeDiff,reduceCtorEq,blk32,r17,hn1,r32_4,hn2,r32_6]
  rw [X_draw]
  refine k32_7 B (XDJ_XDK ?_)
  simp (maxSteps := 2000000) only [GO,GO2,evK,fillV,setR,binV,intOp,strOp_cat,strOp_eql,strOp_neq,shOp,unV,getR,lenV,partV,V.nj,V.njL,V.cells,Nat.reduceLT,Nat.reduceEqDiff,Nat.reduceAdd,↓reduceIte,Nat.reduceLeDiff,reduceCtorEq,r32_7,r1,r5,gx,WStep.g3,p4,Opr.len,j4,WStep.len,hlt,e4]
  refine ⟨k4,?_⟩
  simp (maxSteps := 2000000) only [GO,GO2,evK,fillV,setR,binV,intOp,strOp_cat,strOp_eql,strOp_neq,shOp,unV,getR,lenV,partV,V.nj,V.njL,V.cells,Nat.reduceLT,Nat.reduceEqDiff,Nat.reduceAdd,↓reduceIte,Nat.reduceLeDiff,reduceCtorEq,e5,r5,WStep.g3,p4,Opr.len,j4]
  refine ⟨k5,?_⟩
  simp (maxSteps := 2000000) only [GO,GO2,evK,fillV,setR,binV,intOp,strOp_cat,strOp_eql,strOp_neq,shOp,unV,getR,lenV,partV,V.nj,V.njL,V.cells,Nat.reduceLT,Nat.reduceEqDiff,Nat.reduceAdd,↓reduceIte,Nat.reduceLeDiff,reduceCtorEq,r32_8,r1,gx5,WStep.g3,p4,Opr.len,j4,WStep.len]
  refine XC_of (opWords44 F (F.tkeep _ _ ht kk5) hx.opnode hx.opparent hx.opname hx.opkey hx.opvalue) ?_
  rintro _ h7 ⟨rfl,k7⟩
  have gx7 := Kp.of k7 gx5
  have gB7 := Kp.of k7 gB5
  have gz7 := Kp.of k7 gz5
  have kk7 := Kp.trans kk5 k7
  simp (maxSteps := 2000000) only [GO,GO2,evK,fillV,setR,binV,intOp,strOp_cat,strOp_eql,strOp_neq,shOp,unV,getR,lenV,partV,V.nj,V.njL,V.cells,Nat.reduceLT,Nat.reduceEqDiff,Nat.reduceAdd,↓reduceIte,Nat.reduceLeDiff,reduceCtorEq]
  rw [X_draw]
  refine d32_9 ?_
  simp (maxSteps := 2000000) only [GO,GO2,evK,fillV,setR,binV,intOp,strOp_cat,strOp_eql,strOp_neq,shOp,unV,getR,lenV,partV,V.nj,V.njL,V.cells,Nat.reduceLT,Nat.reduceEqDiff,Nat.reduceAdd,↓reduceIte,Nat.reduceLeDiff,reduceCtorEq,r32_9,r1,gx7,WStep.g3,p4,Opr.len,j4,WStep.len,p1,j1]
  refine XCQ_of (at43 F (F.tkeep _ _ ht kk7) hx.group hx.replica (by simp)) ?_
  rintro _ h8 ⟨rfl,k8⟩
  refine ⟨k8,?_⟩
  have gx8 := Kp.of k8 gx7
  have gB8 := Kp.of k8 gB7
  have gz8 := Kp.of k8 gz7
  have kk8 := Kp.trans kk7 k8
  have kp : Kp h8 (h8.psh (.cells [.int .i64 x.client] 3 false false none)) := Keeps.psh (Nat.le_refl _) _
  simp (maxSteps := 2000000) only [GO,GO2,evK,fillV,setR,binV,intOp,strOp_cat,strOp_eql,strOp_neq,shOp,unV,getR,lenV,partV,V.nj,V.njL,V.cells,Nat.reduceLT,Nat.reduceEqDiff,Nat.reduceAdd,↓reduceIte,Nat.reduceLeDiff,reduceCtorEq,r1,gx7,gx8,WStep.g3,p4,Opr.len,j4,WStep.len]
  refine ⟨kp,?_⟩
  refine XCQ_of (ints31k F (xs := [x.client]) (by simp) (ini1 hx.client) (F.tkeep _ _ ht (Kp.trans kk8 kp)) (sl_ints h8 [x.client])) ?_
  rintro _ h9 ⟨rfl,k9⟩
  refine ⟨k9,?_⟩
  have k9' := Kp.trans kp k9
  have ll := ints_len1 hx.client
  have f1 : Fit (cat (cat [119,114,105,116,101] (intsB [x.at_.group,x.at_.replica])) (intsB [x.client])) := by simp only [Fit,cat,List.length_append,List.length_cons,List.length_nil]; omega
  have f2 : Fit (cat (cat (cat [119,114,105,116,101] (intsB [x.at_.group,x.at_.replica])) (intsB [x.client])) [32]) := by simp only [Fit,cat,List.length_append,List.length_cons,List.length_nil]; omega
  have f3 : Fit (cat (cat (cat (cat [119,114,105,116,101] (intsB [x.at_.group,x.at_.replica])) (intsB [x.client])) [32]) (opS x.op)) := by simp only [Fit,cat,List.length_append,List.length_cons,List.length_nil]; omega
  simp (maxSteps := 2000000) only [GO,GO2,evK,fillV,setR,binV,intOp,strOp_cat,strOp_eql,strOp_neq,shOp,unV,getR,lenV,partV,V.nj,V.njL,V.cells,Nat.reduceLT,Nat.reduceEqDiff,Nat.reduceAdd,↓reduceIte,Nat.reduceLeDiff,reduceCtorEq,f1,f2,f3]
  exact plEnd32 (b := false) hx.ent (by rw [hbo]; exact Kp.of k9' gB8) (Kp.of k9' gz8) hle3 (Kp.trans kk8 k9') r3 r5 rfl rfl rfl (by simp [isPl,txtOk,hk,opOk]) (fun _ hto => by simp [stepS,hk,cat,atS,intsB_cons,itoas1,ints1])
set_option maxRecDepth 100000 in
set_option maxHeartbeats 4000000 in
theorem pl32_4 (F : Fns P E T) {x : WStep} {h : H} {s0 : List UInt8} (ht : T h) (hx : SIn h x s0) (hk : x.kind = 4) : Sp P E (.func 32 [] []) [.agg x.cells] h fun v h' => (∃ s,v = .tup [.str s,.agg (plOnly x).cells,.bool (decide (isPl x ∧ txtOk x))] ∧ (isPl x → txtOk x → s = stepS x)) ∧ Kp h h' := by
  refine pl32_pre F fun ρ h3 bx b3 B hlt hlt3 hne gx gz gB kk hle hle3 r1 r3 r5 r6 r7 r8 r17 => ?_
  have hn1 : (x.kind == 1) = false := by rw [hk]; rfl
  have hn2 : (x.kind == 2) = false := by rw [hk]; rfl
  have hn3 : (x.kind == 3) = false := by rw [hk]; rfl
  have hn4 : (x.kind == 4) = true := by rw [hk]; rfl
  have la := ints_len2 hx.group hx.replica
  have p1 : List.take 2 (List.drop 1 x.cells) = x.at_.cells := rfl
  have j1 : V.njL x.at_.cells = true := rfl
  obtain ⟨h4,e4,g4,k4,z4⟩ := put_ex (o := 3) (ws := [.int .i64 x.client]) gB (Nat.le_of_ble_eq_true rfl) rfl rfl
  have gB4 : h4.get B = some (.cells ({ WStep.zero with kind := x.kind,at_ := x.at_,client := x.client } : WStep).cells 52 false false none) := g4
  have gx4 : h4.get bx = some (.cells x.cells 52 false false none) := by rw [k4.get _ hlt]; exact gx
  have gz4 : h4.get b3 = some (.cells WStep.zero.cells 52 false false none) := by rw [k4.get _ hlt3]; exact gz
  have kk4 : Kp h h4 := Keeps.trans (n := h.size) kk (k4.mono hle)
  obtain ⟨h5,e5,g5,k5,z5⟩ := put_ex (o := 12) (ws := x.query.cells) gB4 (Nat.le_of_ble_eq_true rfl) rfl rfl
  have gB5 : h5.get B = some (.cells ({ WStep.zero with kind := x.kind,at_ := x.at_,client := x.client,query := x.query } : WStep).cells 52 false false none) := g5
  have gx5 : h5.get bx = some (.cells x.cells 52 false false none) := by rw [k5.get _ hlt]; exact gx4
  have gz5 : h5.get b3 = some (.cells WStep.zero.cells 52 false false none) := by rw [k5.get _ hlt3]; exact gz4
  have kk5 : Kp h h5 := Keeps.trans (n := h.size) kk4 (k5.mono hle)
  have p12 : List.take 3 (List.drop 12 x.cells) = x.query.cells := rfl
  have j12 : V.njL x.query.cells = true := rfl
  have hbo : plOnly x = { WStep.zero with kind := x.kind,at_ := x.at_,client := x.client,query := x.query } := by simp [plOnly,hk]
  have lo := queryS2_len hx.qnode hx.qpath
  simp (maxSteps := 2000000) only [GO,GO2,evK,fillV,setR,binV,intOp,strOp_cat,strOp_eql,strOp_neq,shOp,unV,getR,lenV,partV,V.nj,V.njL,V.cells,Nat.reduceLT,Nat.reduceEqDiff,Nat.reduceAdd,↓reduceIte,Nat.reduceLeDiff,reduceCtorEq,blk32,r17,hn1,r32_4,hn2,r32_6,hn3,r32_10,hn4,r32_13]
  rw [X_draw]
  refine k32_14 B (XDJ_XDK ?_)
  simp (maxSteps := 2000000) only [GO,GO2,evK,fillV,setR,binV,intOp,strOp_cat,strOp_eql,strOp_neq,shOp,unV,getR,lenV,partV,V.nj,V.njL,V.cells,Nat.reduceLT,Nat.reduceEqDiff,Nat.reduceAdd,↓reduceIte,Nat.reduceLeDiff,reduceCtorEq,r32_14,r1,r5,gx,WStep.g3,p12,Query.len,j12,WStep.len,hlt,e4]
  refine ⟨k4,?_⟩
  simp (maxSteps := 2000000) only [GO,GO2,evK,fillV,setR,binV,intOp,strOp_cat,strOp_eql,strOp_neq,shOp,unV,getR,lenV,partV,V.nj,V.njL,V.cells,Nat.reduceLT,Nat.reduceEqDiff,Nat.reduceAdd,↓reduceIte,Nat.reduceLeDiff,reduceCtorEq,e5,r5,WStep.g3,p12,Query.len,j12]
  refine ⟨k5,?_⟩
  simp (maxSteps := 2000000) only [GO,GO2,evK,fillV,setR,binV,intOp,strOp_cat,strOp_eql,strOp_neq,shOp,unV,getR,lenV,partV,V.nj,V.njL,V.cells,Nat.reduceLT,Nat.reduceEqDiff,Nat.reduceAdd,↓reduceIte,Nat.reduceLeDiff,reduceCtorEq,r32_15,r1,gx5,WStep.g3,p12,Query.len,j12,WStep.len]
  refine XC_of (queryWords45 F (F.tkeep _ _ ht kk5) hx.qnode hx.qpath) ?_
  rintro _ h7 ⟨rfl,k7⟩
  have gx7 := Kp.of k7 gx5
  have gB7 := Kp.of k7 gB5
  have gz7 := Kp.of k7 gz5
  have kk7 := Kp.trans kk5 k7
  simp (maxSteps := 2000000) only [GO,GO2,evK,fillV,setR,binV,intOp,strOp_cat,strOp_eql,strOp_neq,shOp,unV,getR,lenV,partV,V.nj,V.njL,V.cells,Nat.reduceLT,Nat.reduceEqDiff,Nat.reduceAdd,↓reduceIte,Nat.reduceLeDiff,reduceCtorEq]
  rw [X_draw]
  refine d32_16 ?_
  simp (maxSteps := 2000000) only [GO,GO2,evK,fillV,setR,binV,intOp,strOp_cat,strOp_eql,strOp_neq,shOp,unV,getR,lenV,partV,V.nj,V.njL,V.cells,Nat.reduceLT,Nat.reduceEqDiff,Nat.reduceAdd,↓reduceIte,Nat.reduceLeDiff,reduceCtorEq,r32_16,r1,gx7,WStep.g3,p12,Query.len,j12,WStep.len,p1,j1]
  refine XCQ_of (at43 F (F.tkeep _ _ ht kk7) hx.group hx.replica (by simp)) ?_
  rintro _ h8 ⟨rfl,k8⟩
  refine ⟨k8,?_⟩
  have gx8 := Kp.of k8 gx7
  have gB8 := Kp.of k8 gB7
  have gz8 := Kp.of k8 gz7
  have kk8 := Kp.trans kk7 k8
  have kp : Kp h8 (h8.psh (.cells [.int .i64 x.client] 3 false false none)) := Keeps.psh (Nat.le_refl _) _
  simp (maxSteps := 2000000) only [GO,GO2,evK,fillV,setR,binV,intOp,strOp_cat,strOp_eql,strOp_neq,shOp,unV,getR,lenV,partV,V.nj,V.njL,V.cells,Nat.reduceLT,Nat.reduceEqDiff,Nat.reduceAdd,↓reduceIte,Nat.reduceLeDiff,reduceCtorEq,r1,gx7,gx8,WStep.g3,p12,Query.len,j12,WStep.len]
  refine ⟨kp,?_⟩
  refine XCQ_of (ints31k F (xs := [x.client]) (by simp) (ini1 hx.client) (F.tkeep _ _ ht (Kp.trans kk8 kp)) (sl_ints h8 [x.client])) ?_
  rintro _ h9 ⟨rfl,k9⟩
  refine ⟨k9,?_⟩
  have k9' := Kp.trans kp k9
  have ll := ints_len1 hx.client
  have f1 : Fit (cat (cat [114,101,97,100] (intsB [x.at_.group,x.at_.replica])) (intsB [x.client])) := by simp only [Fit,cat,List.length_append,List.length_cons,List.length_nil]; omega
  have f2 : Fit (cat (cat (cat [114,101,97,100] (intsB [x.at_.group,x.at_.replica])) (intsB [x.client])) [32]) := by simp only [Fit,cat,List.length_append,List.length_cons,List.length_nil]; omega
  have f3 : Fit (cat (cat (cat (cat [114,101,97,100] (intsB [x.at_.group,x.at_.replica])) (intsB [x.client])) [32]) (queryS2 x.query)) := by simp only [Fit,cat,List.length_append,List.length_cons,List.length_nil]; omega
  simp (maxSteps := 2000000) only [GO,GO2,evK,fillV,setR,binV,intOp,strOp_cat,strOp_eql,strOp_neq,shOp,unV,getR,lenV,partV,V.nj,V.njL,V.cells,Nat.reduceLT,Nat.reduceEqDiff,Nat.reduceAdd,↓reduceIte,Nat.reduceLeDiff,reduceCtorEq,f1,f2,f3]
  exact plEnd32 (b := false) hx.ent (by rw [hbo]; exact Kp.of k9' gB8) (Kp.of k9' gz8) hle3 (Kp.trans kk8 k9') r3 r5 rfl rfl rfl (by simp [isPl,txtOk,hk]) (fun _ hto => by simp [stepS,hk,cat,atS,intsB_cons,itoas1,ints1,queryS2_ok (q := x.query) (by simpa [txtOk,hk] using hto)])
set_option maxRecDepth 100000 in
set_option maxHeartbeats 4000000 in
theorem pl32_5 (F : Fns P E T) {x : WStep} {h : H} {s0 : List UInt8} (ht : T h) (hx : SIn h x s0) (hk : x.kind = 5) : Sp P E (.func 32 [] []) [.agg x.cells] h fun v h' => (∃ s,v = .tup [.str s,.agg (plOnly x).cells,.bool (decide (isPl x ∧ txtOk x))] ∧ (isPl x → txtOk x → s = stepS x)) ∧ Kp h h' := by
  refine pl32_pre F fun ρ h3 bx b3 B hlt hlt3 hne gx gz gB kk hle hle3 r1 r3 r5 r6 r7 r8 r17 => ?_
  have hn1 : (x.kind == 1) = false := by rw [hk]; rfl
  have hn2 : (x.kind == 2) = false := by rw [hk]; rfl
  have hn3 : (x.kind == 3) = false := by rw [hk]; rfl
  have hn4 : (x.kind == 4) = false := by rw [hk]; rfl
  have hn5 : (x.kind == 5) = true := by rw [hk]; rfl
  have la := ints_len2 hx.group hx.replica
  have p1 : List.take 2 (List.drop 1 x.cells) = x.at_.cells := rfl
  have j1 : V.njL x.at_.cells = true := rfl
  have hone : x.entry.cells.all V.one = true := by
    obtain ⟨a,n,c,o,e1⟩ := hx.ent.ops
    obtain ⟨a',n',c',o',e2⟩ : ∃ a n c o,x.entry.part.data = .slice a n c o := by
      rcases hx.ent.dat with ⟨c,o,e,_⟩ | ⟨p,n,c,o,cs,e,_⟩
      · exact ⟨_,_,_,_,e⟩
      · exact ⟨_,_,_,_,e⟩
    simp only [Entry.cells,List.all_cons,List.all_nil,V.one,e1,e2,Bool.and_self]
  obtain ⟨h4,e4,g4,k4,z4⟩ := put_ex (o := 15) (ws := x.entry.cells) gB (Nat.le_of_ble_eq_true rfl) hone rfl
  have gB4 : h4.get B = some (.cells ({ WStep.zero with kind := x.kind,at_ := x.at_,entry := x.entry } : WStep).cells 52 false false none) := g4
  have gx4 : h4.get bx = some (.cells x.cells 52 false false none) := by rw [k4.get _ hlt]; exact gx
  have gz4 : h4.get b3 = some (.cells WStep.zero.cells 52 false false none) := by rw [k4.get _ hlt3]; exact gz
  have kk4 : Kp h h4 := Keeps.trans (n := h.size) kk (k4.mono hle)
  have p15 : List.take 56 (List.drop 15 x.cells) = x.entry.cells := rfl
  have hbo : plOnly x = { WStep.zero with kind := x.kind,at_ := x.at_,entry := x.entry } := by simp [plOnly,hk]
  have le := entS_len hx.site hx.sponsor hx.length
  simp (maxSteps := 2000000) only [GO,GO2,evK,fillV,setR,binV,intOp,strOp_cat,strOp_eql,strOp_neq,shOp,unV,getR,lenV,partV,V.nj,V.njL,V.cells,Nat.reduceLT,Nat.reduceEqDiff,Nat.reduceAdd,↓reduceIte,Nat.reduceLeDiff,reduceCtorEq,blk32,r17,hn1,r32_4,hn2,r32_6,hn3,r32_10,hn4,r32_13,hn5,r32_17,r32_18,r1,r5,gx,p15,Entry.len,WStep.len,e4]
  simp (maxSteps := 2000000) only [GO,GO2,evK,fillV,setR,binV,intOp,strOp_cat,strOp_eql,strOp_neq,shOp,unV,getR,lenV,partV,V.nj,V.njL,V.cells,Nat.reduceLT,Nat.reduceEqDiff,Nat.reduceAdd,↓reduceIte,Nat.reduceLeDiff,reduceCtorEq,r32_19,r1,gx4,p15,Entry.len,WStep.len]
  refine XC_of (entry13 F (F.tkeep _ _ ht kk4) (hx.ent.keep kk4) hx.site hx.sponsor hx.length) ?_
  rintro _ h7 ⟨rfl,k7⟩
  have gx7 := Kp.of k7 gx4
  have gB7 := Kp.of k7 gB4
  have gz7 := Kp.of k7 gz4
  have kk7 := Kp.trans kk4 k7
  by_cases he : entOk x.entry
  · have ea : entA x.entry = .tup [.str (entS x.entry),.int .i64 0] := by unfold entA; rw [if_pos he]
    have z0 : ((0 : Int) == 0) = true := rfl
    simp (maxSteps := 2000000) only [GO,GO2,evK,fillV,setR,binV,intOp,strOp_cat,strOp_eql,strOp_neq,shOp,unV,getR,lenV,partV,V.nj,V.njL,V.cells,Nat.reduceLT,Nat.reduceEqDiff,Nat.reduceAdd,↓reduceIte,Nat.reduceLeDiff,reduceCtorEq,ea,r32_20,r32_21,z0,r1,gx7,p1,Addr.len,WStep.len]
    refine XC_of (at43 F (F.tkeep _ _ ht kk7) hx.group hx.replica (by simp)) ?_
    rintro _ h9 ⟨rfl,k9⟩
    have f1 : Fit (cat (cat [99,111,110,102] (intsB [x.at_.group,x.at_.replica])) [32]) := by simp only [Fit,cat,List.length_append,List.length_cons,List.length_nil]; omega
    have f2 : Fit (cat (cat (cat [99,111,110,102] (intsB [x.at_.group,x.at_.replica])) [32]) (entS x.entry)) := by simp only [Fit,cat,List.length_append,List.length_cons,List.length_nil]; omega
    simp (maxSteps := 2000000) only [GO,GO2,evK,fillV,setR,binV,intOp,strOp_cat,strOp_eql,strOp_neq,shOp,unV,getR,lenV,partV,V.nj,V.njL,V.cells,Nat.reduceLT,Nat.reduceEqDiff,Nat.reduceAdd,↓reduceIte,Nat.reduceLeDiff,reduceCtorEq,f1,f2]
    exact plEnd32 (b := false) hx.ent (by rw [hbo]; exact Kp.of k9 gB7) (Kp.of k9 gz7) hle3 (Kp.trans kk7 k9) r3 r5 rfl rfl rfl (by simp [isPl,txtOk,hk,he]) (fun _ _ => by simp [stepS,hk,cat,atS,intsB_cons])
  · have ea : entA x.entry = .tup [.str [],.int .i64 1] := by unfold entA; rw [if_neg he]
    have z0 : ((1 : Int) == 0) = false := rfl
    simp (maxSteps := 2000000) only [GO,GO2,evK,fillV,setR,binV,intOp,strOp_cat,strOp_eql,strOp_neq,shOp,unV,getR,lenV,partV,V.nj,V.njL,V.cells,Nat.reduceLT,Nat.reduceEqDiff,Nat.reduceAdd,↓reduceIte,Nat.reduceLeDiff,reduceCtorEq,ea,r32_20,r32_21,z0,r1,gx7,p1,Addr.len,WStep.len]
    refine XC_of (at43 F (F.tkeep _ _ ht kk7) hx.group hx.replica (by simp)) ?_
    rintro _ h9 ⟨rfl,k9⟩
    have f1 : Fit (cat (cat [99,111,110,102] (intsB [x.at_.group,x.at_.replica])) [32]) := by simp only [Fit,cat,List.length_append,List.length_cons,List.length_nil]; omega
    have f2 : Fit (cat (cat (cat [99,111,110,102] (intsB [x.at_.group,x.at_.replica])) [32]) ([])) := by simp only [Fit,cat,List.length_append,List.length_cons,List.length_nil]; omega
    simp (maxSteps := 2000000) only [GO,GO2,evK,fillV,setR,binV,intOp,strOp_cat,strOp_eql,strOp_neq,shOp,unV,getR,lenV,partV,V.nj,V.njL,V.cells,Nat.reduceLT,Nat.reduceEqDiff,Nat.reduceAdd,↓reduceIte,Nat.reduceLeDiff,reduceCtorEq,f1,f2]
    exact plEnd32 (b := false) hx.ent (by rw [hbo]; exact Kp.of k9 gB7) (Kp.of k9 gz7) hle3 (Kp.trans kk7 k9) r3 r5 rfl rfl rfl (by simp [isPl,txtOk,hk,he]) (fun _ ht => absurd ht (by simp [txtOk,hk,he]))
set_option maxRecDepth 100000 in
set_option maxHeartbeats 4000000 in
theorem pl32_no (F : Fns P E T) {x : WStep} {h : H} {s0 : List UInt8} (hx : SIn h x s0) (hk : ¬ isPl x) : Sp P E (.func 32 [] []) [.agg x.cells] h fun v h' => (∃ s,v = .tup [.str s,.agg (plOnly x).cells,.bool (decide (isPl x ∧ txtOk x))] ∧ (isPl x → txtOk x → s = stepS x)) ∧ Kp h h' := by
  refine pl32_pre F fun ρ h3 bx b3 B hlt hlt3 hne gx gz gB kk hle hle3 r1 r3 r5 r6 r7 r8 r17 => ?_
  unfold isPl at hk
  have hn1 : (x.kind == 1) = false := by rw [beq_eq_false_iff_ne]; omega
  have hn2 : (x.kind == 2) = false := by rw [beq_eq_false_iff_ne]; omega
  have hn3 : (x.kind == 3) = false := by rw [beq_eq_false_iff_ne]; omega
  have hn4 : (x.kind == 4) = false := by rw [beq_eq_false_iff_ne]; omega
  have hn5 : (x.kind == 5) = false := by rw [beq_eq_false_iff_ne]; omega
  have hn10 : (x.kind == 10) = false := by rw [beq_eq_false_iff_ne]; omega
  have hn11 : (x.kind == 11) = false := by rw [beq_eq_false_iff_ne]; omega
  have hn12 : (x.kind == 12) = false := by rw [beq_eq_false_iff_ne]; omega
  have hbo : plOnly x = { WStep.zero with kind := x.kind,at_ := x.at_ } := by unfold plOnly; rw [if_neg (by omega),if_neg (by omega),if_neg (by omega),if_neg (by omega),if_neg (by omega),if_neg (by omega)]
  simp (maxSteps := 2000000) only [GO,GO2,evK,fillV,setR,binV,intOp,strOp_cat,strOp_eql,strOp_neq,shOp,unV,getR,lenV,partV,V.nj,V.njL,V.cells,Nat.reduceLT,Nat.reduceEqDiff,Nat.reduceAdd,↓reduceIte,Nat.reduceLeDiff,reduceCtorEq,blk32,r17,hn1,r32_4,hn2,r32_6,hn3,r32_10,hn4,r32_13,hn5,r32_17,hn10,r32_22,hn11,r32_25,hn12,r32_28]
  exact plEnd32 (b := true) hx.ent (by rw [hbo]; exact gB) gz hle3 kk r3 r5 r6 r8 rfl (by simp [isPl,hk]) (fun h => absurd h hk)
theorem placed32 (F : Fns P E T) {x : WStep} {h : H} {s0 : List UInt8} (ht : T h) (hx : SIn h x s0) : Sp P E (.func 32 [] []) [.agg x.cells] h fun v h' => (∃ s,v = .tup [.str s,.agg (plOnly x).cells,.bool (decide (isPl x ∧ txtOk x))] ∧ (isPl x → txtOk x → s = stepS x)) ∧ Kp h h' := by
  by_cases hk : isPl x
  · rcases id hk with e | e | e | e | e | e | e | e
    · exact pl32_1 F ht hx e
    · exact pl32_2 F ht hx e
    · exact pl32_3 F ht hx e
    · exact pl32_4 F ht hx e
    · exact pl32_5 F ht hx e
    · exact pl32_10 F ht hx e
    · exact pl32_11 F ht hx e
    · exact pl32_12 F ht hx e
  · exact pl32_no F hx hk
end Go.AM.Sc
