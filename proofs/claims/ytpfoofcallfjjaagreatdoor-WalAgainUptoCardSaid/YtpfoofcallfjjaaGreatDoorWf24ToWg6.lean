/- My own texts, laid for this claim. -/
import Derived.Test.YtpfoofcallfjjaaGreatDoorWf9ToWf23
set_option linter.unusedSimpArgs false
set_option linter.unusedVariables false
namespace Go.AM.Wc
open Go.AM Go.AM.Wd Go.AM.We Go.AM.Wf
variable {P : Program} {E : Env} {T : H → Prop}
set_option maxHeartbeats 1000000 in
theorem check16 (F : Fw P E T) (D : Fd P E) {h : H} {ρ : Nat → V} {K : List Fr} {Q : Po} {la lb bd a nx n : Nat} {sva svb : V} {sya syb : Int} {bra brb : Bool} {sga sgb : List Sg}
  (q6 : ρ 6 = .int .i64 0) (q11 : ρ 11 = .ptr (some (lb,0))) (q7 : ρ 7 = .ptr (some (la,0)))
  (ga : h.get la = some (lgO bd sva nx sya bra)) (gb : h.get lb = some (lgO bd svb nx nx brb)) (ra : Rs h sva sga) (rb : Rs h svb sgb) (ca : chain sga a nx) (cb : chain sgb a nx) (hm : nx ≤ 1000000000000) (hl : sga.length = sgb.length)
  (cont : ∀ (ρ' : Nat → V) (h' : H),Kp h h' → ρ' 103 = .bool false → (∀ j,j < 20 → ρ' j = ρ j) → X P E none 159 K ρ' h' Q) :
  X P E none 159 (.c (.region r5_16) :: K) ρ h Q := by
 have c1 : ((0 : Int) != 0) = false := rfl
 have haa : ((a : Int) != (a : Int)) = false := by simp
 have hnn : ((nx : Int) != (nx : Int)) = false := by simp
 have hll : ((sgb.length : Int) != (sga.length : Int)) = false := by rw [hl]; simp
 have ra0 := ra
 have rb0 := rb
 obtain ⟨pa,ca',oa,hva,_⟩ := ra0
 obtain ⟨pb,cb',ob,hvb,_⟩ := rb0
 simp only [GR,evK,binV,intOp,strOp,shOp,unV,Nat.reduceLT,Nat.reduceEqDiff,Nat.reduceAdd,↓reduceIte,Nat.reduceLeDiff,reduceCtorEq,r5_16,q6,c1,q11,eq_pn]
 refine XC_of (first10 F gb rb cb hm) ?_
 rintro _ h1 ⟨rfl,k1⟩
 simp only [GR,evK,binV,intOp,strOp,shOp,unV,Nat.reduceLT,Nat.reduceEqDiff,Nat.reduceAdd,↓reduceIte,Nat.reduceLeDiff,reduceCtorEq,q7]
 refine XC_of (first10 F (k1.of ga) (ra.kp k1) ca hm) ?_
 rintro _ h2 ⟨rfl,k2⟩
 have kk := Kp.trans k1 k2
 simp only [GR,evK,binV,intOp,strOp,shOp,unV,Nat.reduceLT,Nat.reduceEqDiff,Nat.reduceAdd,↓reduceIte,Nat.reduceLeDiff,reduceCtorEq,haa,q11]
 refine XC_of (next11 F (kk.of gb)) ?_
 rintro _ hx ⟨rfl,e2⟩
 rw [e2]
 clear e2 hx
 simp only [GR,evK,binV,intOp,strOp,shOp,unV,Nat.reduceLT,Nat.reduceEqDiff,Nat.reduceAdd,↓reduceIte,Nat.reduceLeDiff,reduceCtorEq,q7]
 refine XC_of (next11 F (kk.of ga)) ?_
 rintro _ hx ⟨rfl,e2⟩
 rw [e2]
 clear e2 hx
 simp only [GR,evK,binV,intOp,strOp,shOp,unV,Nat.reduceLT,Nat.reduceEqDiff,Nat.reduceAdd,↓reduceIte,Nat.reduceLeDiff,reduceCtorEq,hnn,q11]
 refine XC_of (segs12 F (by have := kk.of gb; rw [hvb] at this; exact this)) ?_
 rintro _ hx ⟨rfl,e2⟩
 rw [e2]
 clear e2 hx
 simp only [GR,evK,binV,intOp,strOp,shOp,unV,Nat.reduceLT,Nat.reduceEqDiff,Nat.reduceAdd,↓reduceIte,Nat.reduceLeDiff,reduceCtorEq,q7]
 refine XC_of (segs12 F (by have := kk.of ga; rw [hva] at this; exact this)) ?_
 rintro _ hx ⟨rfl,e2⟩
 rw [e2]
 clear e2 hx
 simp only [GR,evK,binV,intOp,strOp,shOp,unV,Nat.reduceLT,Nat.reduceEqDiff,Nat.reduceAdd,↓reduceIte,Nat.reduceLeDiff,reduceCtorEq,hll,q11]
 refine XC_of (synced19 F D (kk.of gb)) ?_
 rintro _ hx ⟨rfl,e2⟩
 rw [e2]
 clear e2 hx
 simp only [GR,evK,binV,intOp,strOp,shOp,unV,Nat.reduceLT,Nat.reduceEqDiff,Nat.reduceAdd,↓reduceIte,Nat.reduceLeDiff,reduceCtorEq,q11]
 refine XC_of (next11 F (kk.of gb)) ?_
 rintro _ hx ⟨rfl,e2⟩
 rw [e2]
 clear e2 hx
 simp only [GR,evK,binV,intOp,strOp,shOp,unV,Nat.reduceLT,Nat.reduceEqDiff,Nat.reduceAdd,↓reduceIte,Nat.reduceLeDiff,reduceCtorEq,hnn]
 refine cont _ h2 kk rfl fun j hj => ?_
 simp only [up_app]
 repeat rw [if_neg (by omega)]
theorem check24 (F : Fw P E T) {h : H} {ρ : Nat → V} {K : List Fr} {Q : Po} {la lb bd nx : Nat} {sva svb : V} {sya syb : Int} {bra brb : Bool}
  (q6 : ρ 6 = .int .i64 0) (q15 : ρ 15 = .ptr (some (lb,0))) (q11 : ρ 11 = .ptr (some (la,0)))
  (ga : h.get la = some (lgO bd sva nx sya bra)) (gb : h.get lb = some (lgO bd svb nx syb brb))
  (cont : ∀ (ρ' : Nat → V),ρ' 135 = .bool false → (∀ j,j < 20 → ρ' j = ρ j) → X P E none 159 K ρ' h Q) :
  X P E none 159 (.c (.region r5_24) :: K) ρ h Q := by
 have c1 : ((0 : Int) != 0) = false := rfl
 have hnn : ((nx : Int) != (nx : Int)) = false := by simp
 simp only [GR,evK,binV,intOp,strOp,shOp,unV,Nat.reduceLT,Nat.reduceEqDiff,Nat.reduceAdd,↓reduceIte,Nat.reduceLeDiff,reduceCtorEq,r5_24,q6,c1,q15,eq_pn]
 refine XC_of (next11 F gb) ?_
 rintro _ hx ⟨rfl,e2⟩
 rw [e2]
 clear e2 hx
 simp only [GR,evK,binV,intOp,strOp,shOp,unV,Nat.reduceLT,Nat.reduceEqDiff,Nat.reduceAdd,↓reduceIte,Nat.reduceLeDiff,reduceCtorEq,q11]
 refine XC_of (next11 F ga) ?_
 rintro _ hx ⟨rfl,e2⟩
 rw [e2]
 clear e2 hx
 simp only [GR,evK,binV,intOp,strOp,shOp,unV,Nat.reduceLT,Nat.reduceEqDiff,Nat.reduceAdd,↓reduceIte,Nat.reduceLeDiff,reduceCtorEq,hnn]
 refine cont _ rfl fun j hj => ?_
 simp only [up_app]
 repeat rw [if_neg (by omega)]
end Go.AM.Wc
namespace Go.AM.Wf
def r85_0 : List O := [⟨some 3,.mv (.t 0),none,0,[3,0]⟩,
 ⟨some 4,.mv (.t 0),none,0,[4,0]⟩,
 ⟨some 5,.lenL (.t 4),none,2,[5,4]⟩,
 ⟨some 6,.mv (.t 0),none,0,[6,0]⟩,
 ⟨some 7,.lenL (.t 6),none,8,[7,6]⟩,
 ⟨some 8,.slL 1 (.t 3) none (some (.t 5)) (some (.t 7)),none,31,[8,3,5,7]⟩,
 ⟨some 2,.mv (.t 8),none,63,[2,8]⟩]
def c85 : C := .seq (.region [⟨some 2,.mv (.k (.slice none 0 0 false)),none,0,[2]⟩]) (.seq (.region r85_0) (.ret))
def fn85 : Fn := ⟨9,[.t 2],c85⟩
end Go.AM.Wf
namespace Go.AM.Wc
open Go.AM
def r26_5a : List O := [⟨some 33,.mv (.t 3),none,0,[33,3]⟩,⟨some 34,.nilck (.t 33),none,1,[34,33]⟩,⟨some 35,.fadr 0 (.t 34),none,3,[35,34]⟩,⟨some 36,.load1 (.t 35),none,7,[36,35]⟩,⟨some 37,.mv (.t 4),none,0,[37,4]⟩,⟨some 38,.mv (.t 5),none,0,[38,5]⟩,⟨some 39,.nilck (.t 38),none,32,[39,38]⟩,⟨some 40,.fadr 0 (.t 39),none,96,[40,39]⟩,⟨some 41,.load1 (.t 40),none,224,[41,40]⟩,⟨some 42,.call (.k (.func 42 [] [])) [(.t 41)],none,480,[42,41]⟩,⟨some 43,.mv (.t 5),none,0,[43,5]⟩,⟨some 44,.nilck (.t 43),none,1024,[44,43]⟩,⟨some 45,.fadr 1 (.t 44),none,3072,[45,44]⟩,⟨some 46,.load1 (.t 45),none,7168,[46,45]⟩,⟨some 47,.build [(.slice none 0 0 false),(.int .i64 0)] [(0,1,(.t 42)),(1,1,(.t 46))],none,16352,[47,42,46]⟩,⟨some 48,.box 105 (.t 47),none,32736,[48,47]⟩]
def r26_5b : List O := [⟨none,.mapUpd .str (.t 36) (.t 37) (.t 48),none,65535,[36,37,48]⟩]
theorem l26_5 {P : Program} {E : Env} {ro : Option Nat} {L : Nat} {K : List Fr} {ρ : Nat → V} {h : H} {Q : Po} (hx : XDQ P E ro L (.c (.region r26_5b) :: K) Q h [true,true,true,true,true,true,true,true,true,true,false,false,false,false,true,true] r26_5a ρ h) : XD P E ro L r26_5 K ρ h Q := XD_last (A := r26_5a) (B := r26_5b) rfl rfl hx
end Go.AM.Wc
namespace Go.AM
variable {P : Program}
theorem nsp_ptr (hmix : P.follows .mixedOrders = true) {prim : Nat → Option (List V → H → Option (V × H))} (hp : PrimOK P prim) {g : Nat} {fn : Func} {f : Fn} (hg : P.funcs[g]? = some fn) (hc : cFn P fn = some f) {args : List V} {h : H}
  (he : NSp P (envOf P prim) f args h fun v h' => Kp h h' ∧ ∃ b,v = .ptr (some (b,0)))
  {m : Mp} {w : World} {xs : List Value} (hr : HR P m h w) (hx : VRL m args xs) (n : Nat) : CallsIn (FF none) n P g xs.toArray w (Post P m h w (.ptr (some (h.size,0))) (h.psh .dead)) := by
 refine CallsIn.mono (NSp_sound hmix hp hg hc he hr hx n) fun e w' ⟨v,h',⟨hk,b,hv⟩,m',x,h1,h2,h3,h4⟩ => ?_
 subst hv
 obtain ⟨a,c⟩ := hr.shrink h3 h4 hk
 obtain ⟨r,sh,y,hm,rfl⟩ := h2
 have hne : ∀ i,i < h.size → i ≠ h.size := fun i hi => by omega
 have hlt : ∀ i z,m i = some z → i < h.size := fun i z hz => a.dom i z hz
 have hgp : ∀ i o,(h.psh .dead).get i = some o → o.live = true → h.get i = some o ∧ i < h.size := fun i o hg hl => by
  rw [H.get_psh] at hg
  split at hg
  ·cases hg; cases hl
  ·exact ⟨hg,H.get_lt hg⟩
 refine ⟨fun i => if i = h.size then some (r,sh,y) else m i,_,h1,⟨r,sh,y,if_pos rfl,rfl⟩,?_,?_⟩
 ·refine ⟨?_,fun i z hz => ?_,fun g hg => ?_,fun i r' sh' e' hz => ?_,fun i o hg hl => ?_,fun i j o o' r' sh' e' sh2 e2 hi hj hmu hl hmi hmj => ?_⟩
  ·exact trivial
  ·rw [psh_size]
   split at hz
   ·omega
   ·have := hlt i z hz; omega
  ·have hgm := a.glob g hg
   rw [if_neg (hne g (hlt g _ hgm))]; exact hgm
  ·split at hz
   ·cases hz; exact h3.blk _ _ _ _ hm
   ·exact a.blk _ _ _ _ hz
  ·obtain ⟨hg',hi⟩ := hgp i o hg hl
   obtain ⟨r',sh',e',ob,q1,q2,q3⟩ := a.obj i o hg' hl
   refine ⟨r',sh',e',ob,by rw [if_neg (hne i hi)]; exact q1,q2,q3.mono fun i z hz => ?_⟩
   show (if i = h.size then some (r,sh,y) else m i) = some z
   rw [if_neg (hne i (hlt i z hz))]; exact hz
  ·obtain ⟨hi',hil⟩ := hgp i o hi (Obj.live_of_mut hmu)
   obtain ⟨hj',hjl⟩ := hgp j o' hj hl
   rw [if_neg (hne i hil)] at hmi
   rw [if_neg (hne j hjl)] at hmj
   exact a.inj i j o o' _ _ _ _ _ hi' hj' hmu hl hmi hmj
 ·refine ⟨fun i z hz => ?_,by rw [psh_size]; omega,c.wsize,c.frame,fun b' hb hown => ?_,c.os,c.output,c.tape,fun b' hb hex => ?_⟩
  ·show (if i = h.size then some (r,sh,y) else m i) = some z
   rw [if_neg (hne i (hlt i z hz))]; exact hz
  ·obtain ⟨i,o,s1,e1,q1,q2,q3⟩ := hown
   obtain ⟨q1',hi⟩ := hgp i o q1 (Obj.live_of_mut q2)
   simp only [if_neg (hne i hi)] at q3
   exact ⟨i,o,s1,e1,q1',q2,q3⟩
  ·obtain ⟨i,z,hz⟩ := hex
   by_cases hi : i = h.size
   ·simp only [if_pos hi,Option.some.injEq] at hz
    exact h4.rng b' hb ⟨b,z,hm.trans (congrArg some hz)⟩
   ·simp only [if_neg hi] at hz
    exact ⟨i,z,hz⟩
end Go.AM
namespace Go.AM.Wc
open Go.AM Go.AM.Wd Go.AM.We Go.AM.Wf
variable {P : Program} {E : Env} {T : H → Prop}
theorem none55e (f55 : E.fns 55 = some fn55) (p55 : E.prim 55 = none) {h : H} {R bd bm : Nat} (gd : h.get bd = some (.cells (diskX R bm) 63 false false none)) : Sp P E (.func 55 [] []) [.ptr (some (bd,0))] h fun v h' => v = .bool false ∧ h' = h := by
 unfold diskX at gd
 refine Sp_fn f55 p55 (by simp [fn55]) ?_
 simp only [GR,evK,binV,intOp,strOp,shOp,unV,Nat.reduceLT,Nat.reduceEqDiff,Nat.reduceAdd,↓reduceIte,Nat.reduceLeDiff,reduceCtorEq,fn55,c55,r55_0,eq_pn,gd,eq_mn]
theorem clone42e (f42 : E.fns 42 = some fn42) (p42 : E.prim 42 = none) {h : H} {v : V} {cs : List V} (hv : Rx h v cs) (hn : 1 ≤ cs.length) (hm : cs.length ≤ 4194304) : Sp P E (.func 42 [] []) [v] h fun r h' => Nx h h' r cs := by
 obtain ⟨p,c,q,rfl,he,hb⟩ := hv
 have hp : ∃ a,p = some a := by
  cases p with
  | none => simp only [elemsV] at he; rw [if_neg (by omega)] at he; cases he
  | some a => exact ⟨a,rfl⟩
 obtain ⟨a,rfl⟩ := hp
 have k1 : Kp h (h.psh (.cells [] 5 false false none)) := Keeps.psh (Nat.le_refl _) _
 have he1 := elems_kp k1 he
 have s1 := psh_size h (.cells [] 5 false false none)
 have hap : appV (h.psh (.cells [] 5 false false none)) 5 1 1 (.slice (some (h.size,0)) 0 0 false) (.slice (some a) cs.length c q) = some (.eff (.slice (some (h.size + 1,0)) cs.length cs.length true) ((h.psh (.cells [] 5 false false none)).psh (.cells cs 5 true false none))) := by
  unfold appV
  have c1 : ¬ cs.length ≤ 0 := by omega
  have c2 : cs.length ≤ 1099511627776 ∧ (2 * cs.length + 1024) * 1 ≤ 281474976710656 := by omega
  have c3 : elemsV (h.psh (.cells [] 5 false false none)) 1 0 (.slice (some (h.size,0)) 0 0 false) = some [] := by simp [elemsV]
  simp only [lenV,he1,Nat.zero_add,c1,if_false,c2,and_self,if_true,c3,push_eq,s1,List.nil_append]
 have c4 : eqV h .sl (.slice (some a) cs.length c q) (.slice none 0 0 false) = some false := by simp [eqV]
 have g2 := psh_same (h.psh (.cells [] 5 false false none)) (.cells cs 5 true false none)
 rw [s1] at g2
 have k2 : Kp (h.psh (.cells [] 5 false false none)) ((h.psh (.cells [] 5 false false none)).psh (.cells cs 5 true false none)) := Keeps.psh (Nat.le_refl _) _
 refine Sp_fn f42 p42 (by simp [fn42]) ?_
 simp only [GR,evK,binV,intOp,strOp,shOp,unV,Nat.reduceLT,Nat.reduceEqDiff,Nat.reduceAdd,↓reduceIte,Nat.reduceLeDiff,reduceCtorEq,fn42,c42,r42_0,c4,r42_1,hap]
 exact ⟨h.size + 1,rfl,hb,by omega,g2,Kp.trans k1 k2⟩
def kstr (es : List (V × V × Nat)) : Prop := ∀ e ∈ es, ∃ s,e.1 = .str s
theorem find_kstr {n : List UInt8} : ∀ (es : List (V × V × Nat)) (j : Nat),kstr es → ∃ r,findK .str (.str n) es j = some r
 | [],_,_ => ⟨none,rfl⟩
 | e :: es,j,h => by
  obtain ⟨s,hs⟩ := h e List.mem_cons_self
  unfold findK
  rw [hs]
  simp only [sameK]
  cases hb : n == s with
  | true => exact ⟨_,rfl⟩
  | false => exact find_kstr es (j + 1) fun x hx => h x (List.mem_cons_of_mem _ hx)
theorem kstr_mod {es : List (V × V × Nat)} {n : List UInt8} {v : V} (h : kstr es) (i : Nat) : kstr (es.modify i fun e => (.str n,v,e.2.2)) := by
 intro e he
 obtain ⟨j,hj⟩ := List.getElem?_of_mem he
 rw [List.getElem?_modify] at hj
 cases hc : es[j]? with
 | none => rw [hc] at hj; cases hj
 | some x =>
  rw [hc] at hj
  simp only [Option.map_eq_map,Option.map_some,Option.some.injEq] at hj
  split at hj
  ·subst hj; exact ⟨n,rfl⟩
  ·subst hj; exact h x (List.mem_of_getElem? hc)
set_option maxHeartbeats 1000000 in
theorem clone26n (f55 : E.fns 55 = some fn55) (p55 : E.prim 55 = none) (f42 : E.fns 42 = some fn42) (p42 : E.prim 42 = none) {h : H} {R bd bm k : Nat} {fs : List Fy} (dv : DV h R bd bm k fs) (hc : ∀ f ∈ fs,1 ≤ f.cs.length ∧ f.cs.length ≤ 4194304) :
  NSp P E fn26 [.ptr (some (bd,0))] h fun v h' => Kp h h' ∧ ∃ b,v = .ptr (some (b,0)) := by
 refine ⟨(by decide : (1 : Nat) ≤ 50),?_⟩
 show NC P E none c26 (toL 50 (argF [.ptr (some (bd,0))]),h) fun ex s' => Fin [.t 2] (fun v h' => Kp h h' ∧ ∃ b,v = .ptr (some (b,0))) ex s'.1 s'.2
 have gd := dv.gd
 refine @NC.pre P E none [.region [⟨some 2,.mv (.k (.ptr none)),none,0,[2]⟩],.seq (.region r26_0) (.cond (.t 7) (.seq (.region [⟨some 2,.mv (.k (.ptr none)),none,0,[2]⟩]) (.ret)) (.skip)),.draw r26_1] (.seq (.seq (.region r26_2) (.block 0 (.loop b26_6))) (.seq (.region r26_7) (.ret))) 50 _ _ _ (by intro a ha b e; simp at ha; rcases ha with rfl | rfl | rfl <;> cases e) ?_
 simp only [GR,evK,binV,intOp,strOp,shOp,unV,Nat.reduceLT,Nat.reduceEqDiff,Nat.reduceAdd,↓reduceIte,Nat.reduceLeDiff,reduceCtorEq,List.map_cons,List.map_nil,r26_0]
 refine XC_of (none55e f55 p55 gd) ?_
 rintro _ hx ⟨rfl,e2⟩
 rw [e2]
 clear e2 hx
 unfold diskX at gd
 simp only [GR,evK,binV,intOp,strOp,shOp,unV,Nat.reduceLT,Nat.reduceEqDiff,Nat.reduceAdd,↓reduceIte,Nat.reduceLeDiff,reduceCtorEq]
 rw [X_draw]
 refine d26_1 ?_
 simp only [GR,evK,binV,intOp,strOp,shOp,unV,Nat.reduceLT,Nat.reduceEqDiff,Nat.reduceAdd,↓reduceIte,Nat.reduceLeDiff,reduceCtorEq,r26_1,gd]
 have k1 : Kp h (h.psh (.map [] 0)) := Keeps.psh (Nat.le_refl _) _
 have k2 : Kp (h.psh (.map [] 0)) ((h.psh (.map [] 0)).psh (.cells [.map (some h.size),.int .i64 0,.int .i64 0,.int .i64 R,.bool false] 63 false false none)) := Keeps.psh (Nat.le_refl _) _
 refine ⟨k1,rfl,k2,?_⟩
 have k12 := Kp.trans k1 k2
 have gd2 := k12.of gd
 have dv2 := dv.kp k12
 have hs1 := psh_size h (.map [] 0)
 have gn2 := k2.of (psh_same h (.map [] 0))
 have hs2 := psh_size (h.psh (.map [] 0)) (.cells [.map (some h.size),.int .i64 0,.int .i64 0,.int .i64 R,.bool false] 63 false false none)
 have gb2 := psh_same (h.psh (.map [] 0)) (.cells [.map (some h.size),.int .i64 0,.int .i64 0,.int .i64 R,.bool false] 63 false false none)
 rw [hs1] at gb2 hs2
 rw [hs1]
 generalize (h.psh (.map [] 0)).psh (.cells [.map (some h.size),.int .i64 0,.int .i64 0,.int .i64 R,.bool false] 63 false false none) = h2 at *
 have gm2 := dv2.gm
 unfold mok at gm2
 have k3 : Kp h2 (h2.psh (.mapIter (some bm) (k + (fs.map Fy.ent).length) [] (k + (fs.map Fy.ent).length))) := Keeps.psh (Nat.le_refl _) _
 refine NC.sq (@NC.pre P E none [.region r26_2] (.block 0 (.loop b26_6)) 50 _ _ _ (by intro a ha b e; simp at ha; subst ha; cases e) ?_)
 simp only [GR,evK,binV,intOp,strOp,shOp,unV,Nat.reduceLT,Nat.reduceEqDiff,Nat.reduceAdd,↓reduceIte,Nat.reduceLeDiff,reduceCtorEq,List.map_cons,List.map_nil,r26_2,gd2,gm2]
 have dl : ∀ {i o},h.get i = some o → i ≠ h2.size ∧ i ≠ h.size ∧ i ≠ h.size + 1 := fun hg => by have := H.get_lt hg; omega
 refine NC.blk (NC.mapsK (k := k) (d := 28) (e := 29) (x := 27) (q := 0) (mp := bm) (it := h2.size) (l := fs.map Fy.ent) (by decide) (by decide) (by decide)
  (fun seen ρ h' => ρ 27 = .ptr (some (h2.size,0)) ∧ Itk k h' bm h2.size (fs.map Fy.ent) seen ∧ ρ 3 = .ptr (some (h.size + 1,0)) ∧ Kp h h' ∧ h2.size + 1 ≤ h'.size ∧ h'.get (h.size + 1) = some (.cells [.map (some h.size),.int .i64 0,.int .i64 0,.int .i64 R,.bool false] 63 false false none) ∧ ∃ es c,h'.get h.size = some (.map es c) ∧ kstr es)
  (fun {seen ρ h2} inv => ⟨inv.1,inv.2.1⟩) ?_ ?_ (fs.map Fy.ent).length ⟨rfl,⟨k3.of dv2.gm,psh_same _ _⟩,rfl,Kp.trans k12 k3,by rw [psh_size]; omega,k3.of gb2,[],0,k3.of gn2,by intro e he; cases he⟩ List.nodup_nil (by simp) (by simp))
 ·rintro seen ρ h3 ⟨w27,hi,w3,kk,hsz,gb,es,c,gn,hks⟩ hall
  simp only [if_true]
  refine NC.run (Q := fun ex T h' => Fin [.t 2] (fun v h' => Kp h h' ∧ ∃ b,v = .ptr (some (b,0))) ex T h') (by intro b e; cases e) ?_ (fun _ _ _ h => h)
  simp only [GR,evK,binV,intOp,strOp,shOp,unV,Nat.reduceLT,Nat.reduceEqDiff,Nat.reduceAdd,↓reduceIte,Nat.reduceLeDiff,reduceCtorEq,r26_7,w3]
  exact ⟨kk,_,rfl⟩
 ·rintro seen ρ h3 ⟨w27,hi,w3,kk,hsz,gb,es,c,gn,hks⟩ _ _ i kx u hik hns
  rw [List.getElem?_map] at hik
  cases hr1 : fs[i]? with
  | none => rw [hr1] at hik; cases hik
  | some f =>
  rw [hr1] at hik
  simp only [Option.map_some,Fy.ent,Option.some.injEq,Prod.mk.injEq] at hik
  obtain ⟨rfl,rfl⟩ := hik
  have hm1 := List.mem_of_getElem? hr1
  have hits := H.get_lt hi.itr
  have hlast : ((seen ++ [i]).map (k + ·)).getLast? = some (k + i) := by simp
  have hfind := mos_find (l := fs.map Fy.ent) (k := k) (i := i) (x := f.ent) (by simp [hr1])
  simp only [Fy.ent] at hfind
  have hne : ∀ j o,h.get j = some o → (h3.set h2.size (.mapIter (some bm) (k + (fs.map Fy.ent).length) ((seen ++ [i]).map (k + ·)) (k + (fs.map Fy.ent).length))).get j = some o := by
   intro j o hg
   rw [hset_other hits (Ne.symm (dl hg).1)]; exact kk.of hg
  have gi := hset_same hits (.mapIter (some bm) (k + (fs.map Fy.ent).length) ((seen ++ [i]).map (k + ·)) (k + (fs.map Fy.ent).length))
  have k4 : Keeps h.size h3 (h3.set h2.size (.mapIter (some bm) (k + (fs.map Fy.ent).length) ((seen ++ [i]).map (k + ·)) (k + (fs.map Fy.ent).length))) := Keeps.set hits (by omega) _
  have kk4 : Kp h (h3.set h2.size (.mapIter (some bm) (k + (fs.map Fy.ent).length) ((seen ++ [i]).map (k + ·)) (k + (fs.map Fy.ent).length))) := Keeps.trans (n := h.size) kk k4
  have gb4 : (h3.set h2.size (.mapIter (some bm) (k + (fs.map Fy.ent).length) ((seen ++ [i]).map (k + ·)) (k + (fs.map Fy.ent).length))).get (h.size + 1) = some (.cells [.map (some h.size),.int .i64 0,.int .i64 0,.int .i64 R,.bool false] 63 false false none) := by rw [hset_other hits (by omega)]; exact gb
  have gn4 : (h3.set h2.size (.mapIter (some bm) (k + (fs.map Fy.ent).length) ((seen ++ [i]).map (k + ·)) (k + (fs.map Fy.ent).length))).get h.size = some (.map es c) := by rw [hset_other hits (by omega)]; exact gn
  have hz4 : (h3.set h2.size (.mapIter (some bm) (k + (fs.map Fy.ent).length) ((seen ++ [i]).map (k + ·)) (k + (fs.map Fy.ent).length))).size = h3.size := rfl
  generalize h3.set h2.size (.mapIter (some bm) (k + (fs.map Fy.ent).length) ((seen ++ [i]).map (k + ·)) (k + (fs.map Fy.ent).length)) = h4 at *
  have gm4 := hne _ _ dv.gm
  unfold mok at gm4
  obtain ⟨gf,hx⟩ := dv.fl f hm1
  have hx4 := hx.kp kk4
  have gf4 := hne _ _ gf
  obtain ⟨p,cp,o,hvl⟩ := hx.shape
  rw [hvl] at gf4 hx4
  refine NC.run (Q := fun ex T h' => ∃ ρ',ex = .nrm ∧ T = toL 50 ρ' ∧ ρ' 27 = .ptr (some (h2.size,0)) ∧ Itk k h' bm h2.size (fs.map Fy.ent) (seen ++ [i]) ∧ ρ' 3 = .ptr (some (h.size + 1,0)) ∧ Kp h h' ∧ h2.size + 1 ≤ h'.size ∧ h'.get (h.size + 1) = some (.cells [.map (some h.size),.int .i64 0,.int .i64 0,.int .i64 R,.bool false] 63 false false none) ∧ ∃ es c,h'.get h.size = some (.map es c) ∧ kstr es) (by intro b e; cases e) ?_ ?_
  ·simp only [GR,evK,binV,intOp,strOp,shOp,unV,Nat.reduceLT,Nat.reduceEqDiff,Nat.reduceAdd,↓reduceIte,Nat.reduceLeDiff,reduceCtorEq,r26_4,w27,gi,gm4,hlast,hfind]
   rw [X_draw]
   refine l26_5 ?_
   simp only [GR,evK,binV,intOp,strOp,shOp,unV,Nat.reduceLT,Nat.reduceEqDiff,Nat.reduceAdd,↓reduceIte,Nat.reduceLeDiff,reduceCtorEq,r26_5a,w3,gb4,gf4]
   refine XCQ_of (clone42e f42 p42 hx4 (hc f hm1).1 (hc f hm1).2) ?_
   rintro r h5 ⟨b',rfl,hbs,hb',gb',k5⟩
   refine ⟨k5,?_⟩
   unfold vl
   simp only [GR,evK,binV,intOp,strOp,shOp,unV,Nat.reduceLT,Nat.reduceEqDiff,Nat.reduceAdd,↓reduceIte,Nat.reduceLeDiff,reduceCtorEq,gf4]
   have k6 : Kp h5 (h5.psh (.cells [vl (some b') f.cs.length,.int .i64 f.syn] 105 false false none)) := Keeps.psh (Nat.le_refl _) _
   have k46 := Kp.trans k5 k6
   unfold vl at k6 k46
   refine ⟨k6,?_⟩
   generalize h5.psh (.cells [.slice (some (b',0)) f.cs.length f.cs.length true,.int .i64 f.syn] 105 false false none) = h6 at *
   have gn6 := k46.of gn4
   have gb6 := k46.of gb4
   have hl6 := k46.size
   have km6 : Kp h h6 := Kp.trans kk4 k46
   have it6 : Itk k h6 bm h2.size (fs.map Fy.ent) (seen ++ [i]) := ⟨km6.of dv.gm,k46.of gi⟩
   have hnl := H.get_lt gn6
   have key : ∀ es' c',kstr es' → Itk k (h6.set h.size (.map es' c')) bm h2.size (fs.map Fy.ent) (seen ++ [i]) ∧ Kp h (h6.set h.size (.map es' c')) ∧ h2.size + 1 ≤ (h6.set h.size (.map es' c')).size ∧ (h6.set h.size (.map es' c')).get (h.size + 1) = some (.cells [.map (some h.size),.int .i64 0,.int .i64 0,.int .i64 R,.bool false] 63 false false none) ∧ ∃ es c,(h6.set h.size (.map es' c')).get h.size = some (.map es c) ∧ kstr es := by
    intro es' c' hk'
    refine ⟨⟨?_,?_⟩,Keeps.trans (n := h.size) km6 (Keeps.set hnl (Nat.le_refl _) _),?_,?_,es',c',hset_same hnl _,hk'⟩
    ·rw [hset_other hnl (by have := (dl dv.gm).2.1; omega)]; exact it6.map
    ·rw [hset_other hnl (by omega)]; exact it6.itr
    ·rw [H.set_size]; omega
    ·rw [hset_other hnl (by omega)]; exact gb6
   obtain ⟨x,hx6⟩ := find_kstr (n := f.name) es 0 hks
   cases x with
   | none =>
    simp only [GR,evK,binV,intOp,strOp,shOp,unV,Nat.reduceLT,Nat.reduceEqDiff,Nat.reduceAdd,↓reduceIte,Nat.reduceLeDiff,reduceCtorEq,r26_5b,gn6,hx6]
    obtain ⟨q1,q2,q3,q4,q5⟩ := key (es ++ [(.str f.name,.ptr (some (h5.size,0)),c)]) (c + 1) (fun e he => by
     rcases List.mem_append.1 he with he | he
     ·exact hks e he
     ·rw [List.mem_singleton.1 he]; exact ⟨_,rfl⟩)
    exact ⟨_,rfl,w27,q1,w3,q2,q3,q4,q5⟩
   | some x =>
    simp only [GR,evK,binV,intOp,strOp,shOp,unV,Nat.reduceLT,Nat.reduceEqDiff,Nat.reduceAdd,↓reduceIte,Nat.reduceLeDiff,reduceCtorEq,r26_5b,gn6,hx6]
    obtain ⟨q1,q2,q3,q4,q5⟩ := key _ c (kstr_mod (n := f.name) (v := .ptr (some (h5.size,0))) hks x.1)
    exact ⟨_,rfl,w27,q1,w3,q2,q3,q4,q5⟩
  ·rintro ex T h' ⟨ρ',rfl,rfl,q⟩
   exact ⟨ρ',h',rfl,q⟩
end Go.AM.Wc
namespace Go.AM.Wc
open Go.AM Go.AM.Wd Go.AM.We Go.AM.Wf
variable {P : Program} {E : Env} {T : H → Prop}
open Classical in
noncomputable def cloneG : List V → H → Option (V × H) := fun args h => match args with
 | [.ptr (some (bd,0))] => if ∃ (R bm k : Nat) (fs : List Fy),DV h R bd bm k fs ∧ ∀ f ∈ fs,1 ≤ f.cs.length ∧ f.cs.length ≤ 4194304 then some (.ptr (some (h.size,0)),h.psh .dead) else none
 | _ => none
theorem clone_sp (hp : E.prim 26 = some cloneG) {h : H} {R bd bm k : Nat} {fs : List Fy} (dv : DV h R bd bm k fs) (hc : ∀ f ∈ fs,1 ≤ f.cs.length ∧ f.cs.length ≤ 4194304) :
  Sp P E (.func 26 [] []) [.ptr (some (bd,0))] h fun v h' => (∃ b,v = .ptr (some b)) ∧ Kp h h' := by
 refine ⟨.ptr (some (h.size,0)),h.psh .dead,?_,⟨_,rfl⟩,Keeps.psh (Nat.le_refl _) _⟩
 rw [AP_prim hp]
 exact if_pos ⟨R,bm,k,fs,dv,hc⟩
theorem clone_ok (hmix : P.follows .mixedOrders = true) {fn : Func} (hg : P.funcs[26]? = some fn) (hc : cFn P fn = some fn26)
  (f55 : (envOf P fun _ => none).fns 55 = some fn55) (f42 : (envOf P fun _ => none).fns 42 = some fn42) {args : List V} {h h' : H} {v : V} {m : Mp} {w : World} {xs : List Value} (he : cloneG args h = some (v,h')) (hr : HR P m h w) (hx : VRL m args xs) (n : Nat) :
  CallsIn (FF none) n P 26 xs.toArray w (Post P m h w v h') := by
 unfold cloneG at he
 split at he
 ·rename_i bd
  split at he
  ·rename_i hex
   obtain ⟨R,bm,k,fs,dv,hl⟩ := hex
   cases he
   exact nsp_ptr hmix noPrim hg hc (clone26n (E := envOf P fun _ => none) f55 rfl f42 rfl dv hl) hr hx n
  ·cases he
 ·cases he
end Go.AM.Wc
namespace Go.AM
variable {P : Program}
def VIn (h : H) : V → Prop
 | .int .. | .bool _ | .str _ | .slice none _ _ _ | .map none | .ptr none => True
 | .slice (some (b,_)) _ _ _ | .ptr (some (b,_)) | .map (some b) => ∃ o,h.get b = some o ∧ o.live = true
 | _ => False
theorem VIn.down {m m' : Mp} {h : H} {w : World} (hr : HR P m h w) (hs : Sub m m') : ∀ {v : V} {x : Value},VIn h v → VR m' v x → VR m v x
 | .int ..,_,_,q => q
 | .bool _,_,_,q => q
 | .str _,_,_,q => q
 | .slice none _ _ _,_,_,q => q
 | .map none,_,_,q => q
 | .ptr none,_,_,q => q
 | .slice (some (b,o)) _ _ _,_,⟨ob,hg,hl⟩,q => by
  obtain ⟨r,sh,e,_,h1,_⟩ := hr.obj b ob hg hl
  obtain ⟨r',sh',e',ad,h3,h4⟩ := q
  have := hs _ _ h1; rw [this] at h3; cases h3
  exact ⟨r,sh,e,ad,h1,h4⟩
 | .ptr (some (b,o)),_,⟨ob,hg,hl⟩,q => by
  obtain ⟨r,sh,e,_,h1,_⟩ := hr.obj b ob hg hl
  obtain ⟨r',sh',e',h3,h4⟩ := q
  have := hs _ _ h1; rw [this] at h3; cases h3
  exact ⟨r,sh,e,h1,h4⟩
 | .map (some b),_,⟨ob,hg,hl⟩,q => by
  obtain ⟨r,sh,e,_,h1,_⟩ := hr.obj b ob hg hl
  obtain ⟨r',sh',e',h3,h4⟩ := q
  have := hs _ _ h1; rw [this] at h3; cases h3
  exact ⟨r,sh,e,h1,h4⟩
theorem VIn.downs {m m' : Mp} {h : H} {w : World} (hr : HR P m h w) (hs : Sub m m') : ∀ {vs : List V} {xs : List Value},(∀ v ∈ vs,VIn h v) → VRL m' vs xs → VRL m vs xs
 | [],_,_,q => q
 | v :: vs,_,a,q => by
  obtain ⟨y,ys,h1,h2,h3⟩ := q
  exact ⟨y,ys,(a v List.mem_cons_self).down hr hs h1,VIn.downs hr hs (fun u hu => a u (List.mem_cons_of_mem _ hu)) h2,h3⟩
def Made (h h2 : H) : Prop := h2.size = h.size ∧ ∀ i o,h2.get i = some o → o.live = true → (∃ o',h.get i = some o' ∧ o'.live = true ∧ (o.mut = true → o'.mut = true)) ∧ (h.get i = some o ∨ ∃ vs ty op ro fz,o = .cells vs ty op ro fz ∧ ∀ v ∈ vs,VIn h v)
theorem HR.trim {m m' : Mp} {h h' h2 : H} {w w' : World} (hr : HR P m h w) (hr' : HR P m' h' w') (hx : Ext m h w m' h' w') (hm : Made h h2) (heq : ∀ i o,h2.get i = some o → h'.get i = some o) : HR P m h2 w' ∧ Ext m h w m h2 w' := by
 obtain ⟨hsz,hd⟩ := hm
 refine ⟨⟨trivial,fun i x hx => by rw [hsz]; exact hr.dom i x hx,hr.glob,fun i r sh e hm => Nat.lt_of_lt_of_le (hr.blk i r sh e hm) hx.wsize,fun i o hg hl => ?_,fun i j o o' r sh e sh' e' hi hj hmu hl hmi hmj => hr'.inj i j o o' r sh e sh' e' (heq _ _ hi) (heq _ _ hj) hmu hl (hx.sub _ _ hmi) (hx.sub _ _ hmj)⟩,⟨Sub.refl m,by rw [hsz]; exact Nat.le_refl _,hx.wsize,hx.frame,fun b hb hown => ?_,hx.os,hx.output,hx.tape,fun _ _ h => h⟩⟩
 ·obtain ⟨⟨o',g',l',_⟩,hc⟩ := hd i o hg hl
  obtain ⟨r,sh,e,ob0,q1,q2,q3⟩ := hr.obj i o' g' l'
  obtain ⟨r',sh',e',ob',p1,p2,p3⟩ := hr'.obj i o (heq _ _ hg) hl
  have := hx.sub _ _ q1; rw [this] at p1; cases p1
  refine ⟨r,sh,e,ob',q1,p2,?_⟩
  rcases hc with hc | ⟨vs,ty,op,ro,fz,rfl,hv⟩
  ·rw [hc] at g'; cases g'
   exact q3.down hx.sub p3
  ·obtain ⟨c,fzr,a1,a2,a3⟩ := p3
   exact ⟨c,fzr,a1,VIn.downs hr hx.sub hv a2,a3⟩
 ·obtain ⟨i,o,s,e,g1,g2,g3⟩ := hown
  obtain ⟨⟨o',g',l',mu⟩,_⟩ := hd i o g1 (Obj.live_of_mut g2)
  exact ⟨i,o',s,e,g',mu g2,g3⟩
theorem nsp_set (hmix : P.follows .mixedOrders = true) {prim : Nat → Option (List V → H → Option (V × H))} (hp : PrimOK P prim) {g : Nat} {fn : Func} {f : Fn} (hg : P.funcs[g]? = some fn) (hc : cFn P fn = some f) {args : List V} {h h2 : H} {u : V} (hm : Made h h2) (hu : ∀ m m' x,VR m' u x → VR m u x)
  (he : NSp P (envOf P prim) f args h fun v h' => v = u ∧ ∀ i o,h2.get i = some o → h'.get i = some o)
  {m : Mp} {w : World} {xs : List Value} (hr : HR P m h w) (hx : VRL m args xs) (n : Nat) : CallsIn (FF none) n P g xs.toArray w (Post P m h w u h2) := by
 refine CallsIn.mono (NSp_sound hmix hp hg hc he hr hx n) fun e w' ⟨v,h',⟨hv,heq⟩,m',x,h1,q2,h3,h4⟩ => ?_
 subst hv
 obtain ⟨a,b⟩ := hr.trim h3 h4 hm heq
 exact ⟨m,x,h1,hu _ _ _ q2,a,b⟩
end Go.AM
namespace Go.AM.Wc
open Go.AM Go.AM.Wd Go.AM.We Go.AM.Wf
variable {P : Program} {E : Env} {T : H → Prop}
def clipV (f : Fl) : V := .slice (f.b.map fun b => (b,0)) f.cs.length f.cs.length false
def clipO (f : Fl) : Obj := .cells [clipV f,.int .i64 f.cs.length] 105 false false none
def Fl.footC (f : Fl) : List Cell := (f.blk,clipO f) :: fpt f.b 5 f.cs
def dkD (R bd bm k : Nat) (fs : List Fl) : List Cell := (bd,.cells (diskD R bm) 63 false false none) :: (bm,mok k (fs.map fun f => entU f.fu)) :: fs.flatMap Fl.footC
def fallsH (h : H) : List (V × V × Nat) → H
 | [] => h
 | e :: es => fallsH (match e.2.1 with
  | .ptr (some (b,0)) => match h.get b with
   | some (.cells [.slice p n _ _,_] ty op ro fz) => h.set b (.cells [.slice p n n false,.int .i64 n] ty op ro fz)
   | _ => h
  | _ => h) es
def flOK (f : Fl) : Prop := (∃ b,f.b = some b) ∧ f.syn = f.cs.length ∧ f.cs.length ≤ 4194304
theorem fallsH_ow {lo : Nat} {m2 : List Cell} : ∀ {fs : List Fl} {h : H} {k : Nat} {m1 : List Cell},Ow lo h (m1 ++ (fs.flatMap Fl.foot ++ m2)) → (∀ f ∈ fs,flOK f) →
  Ow lo (fallsH h (mos (fs.map fun f => entU f.fu) k)) (m1 ++ (fs.flatMap Fl.footC ++ m2)) ∧ Keeps lo h (fallsH h (mos (fs.map fun f => entU f.fu) k)) ∧ (fallsH h (mos (fs.map fun f => entU f.fu) k)).size = h.size ∧ ∀ i,(∀ f ∈ fs,f.blk ≠ i) → (fallsH h (mos (fs.map fun f => entU f.fu) k)).get i = h.get i
 | [],h,k,m1,ow,_ => ⟨ow,Keeps.refl _ _,rfl,fun _ _ => rfl⟩
 | f :: fs,h,k,m1,ow,ok => by
  obtain ⟨⟨b,hb⟩,hs,hl⟩ := ok f List.mem_cons_self
  have ow1 : Ow lo h (m1 ++ (f.blk,.cells [vl f.b f.cs.length,.int .i64 f.syn] 105 false false none) :: (fpt f.b 5 f.cs ++ (fs.flatMap Fl.foot ++ m2))) := by
   simpa [Fl.foot] using ow
  have gf := ow1.at (i := f.blk) (o := .cells [vl f.b f.cs.length,.int .i64 f.syn] 105 false false none) (by simp)
  obtain ⟨ow2,k2⟩ := ow1.setM (clipO f)
  have ow2' : Ow lo (h.set f.blk (clipO f)) ((m1 ++ (f.blk,clipO f) :: fpt f.b 5 f.cs) ++ (fs.flatMap Fl.foot ++ m2)) := by simpa using ow2
  obtain ⟨q1,q2,q3,q4⟩ := fallsH_ow (k := k + 1) ow2' fun g hg => ok g (List.mem_cons_of_mem _ hg)
  have e : fallsH h (mos ((f :: fs).map fun f => entU f.fu) k) = fallsH (h.set f.blk (clipO f)) (mos (fs.map fun f => entU f.fu) (k + 1)) := by
   simp only [List.map_cons,mos,fallsH,entU,Fl.fu]
   rw [gf,hb]
   simp only [vl,clipO,clipV,hb,Option.map_some]
  rw [e]
  refine ⟨by simpa [Fl.footC] using q1,Keeps.trans k2 q2,by rw [q3,H.set_size],fun i hi => ?_⟩
  rw [q4 i fun g hg => hi g (List.mem_cons_of_mem _ hg)]
  exact hset_other (H.get_lt gf) (hi f List.mem_cons_self) _
theorem clip85 (f85 : E.fns 85 = some fn85) (p85 : E.prim 85 = none) {h : H} {b n : Nat} : Sp P E (.func 85 [] []) [.slice (some (b,0)) n n true] h fun v h' => v = .slice (some (b,0)) n n false ∧ h' = h := by
 have hb : boundsV n n none (some (.int .i64 (n : Nat))) (some (.int .i64 (n : Nat))) = some (0,n,n) := by
  have q : (0 : Int) ≤ (n : Int) ∧ (n : Int) ≤ (n : Int) := by omega
  unfold boundsV; simp only [boundV,q,and_self,if_true,Int.toNat_natCast]
 refine Sp_fn f85 p85 (by simp [fn85]) ?_
 simp only [GR,evK,binV,intOp,strOp,shOp,unV,Nat.reduceLT,Nat.reduceEqDiff,Nat.reduceAdd,↓reduceIte,Nat.reduceLeDiff,reduceCtorEq,fn85,c85,r85_0,hb,Nat.le_refl,Option.map_some,Nat.zero_mul,Nat.zero_add,Nat.sub_zero,Option.isNone_some,Bool.and_false]
theorem dk_blk {lo : Nat} {h : H} {R bd bm k : Nat} {fs : List Fl} (ow : Ow lo h (dkX R bd bm k fs)) : (∀ f ∈ fs,f.blk ≠ bd ∧ f.blk ≠ bm) ∧ bd ≠ bm ∧ (fs.map Fl.blk).Nodup := by
 have nd := ow.nd
 simp only [dkX,List.map_cons] at nd
 rw [List.nodup_cons,List.nodup_cons] at nd
 obtain ⟨n1,n2,n3⟩ := nd
 have hin : ∀ f ∈ fs,f.blk ∈ (fs.flatMap Fl.foot).map Prod.fst := fun f hf => List.mem_map.2 ⟨_,foot_mem hf,rfl⟩
 refine ⟨fun f hf => ⟨fun e => n1 ?_,fun e => n2 ?_⟩,fun e => n1 (by rw [e]; exact List.mem_cons_self),?_⟩
 ·rw [← e]; exact List.mem_cons_of_mem _ (hin f hf)
 ·rw [← e]; exact hin f hf
 ·clear n1 n2 ow hin
  induction fs with
  | nil => exact List.nodup_nil
  | cons f fs ih =>
   simp only [List.flatMap_cons,List.map_append,Fl.foot,List.map_cons,List.cons_append] at n3
   rw [List.nodup_cons] at n3
   rw [List.map_cons,List.nodup_cons]
   refine ⟨fun hm => ?_,ih ((List.nodup_append.1 n3.2).2.1)⟩
   obtain ⟨g,hg,he⟩ := List.mem_map.1 hm
   refine n3.1 (List.mem_append_right _ ?_)
   rw [← he]
   exact List.mem_map.2 ⟨_,foot_mem hg,rfl⟩
theorem nodup_inj {l : List Nat} (nd : l.Nodup) {i j x : Nat} (hi : l[i]? = some x) (hj : l[j]? = some x) : i = j := by
 induction l generalizing i j with
 | nil => simp at hi
 | cons y r ih =>
  rw [List.nodup_cons] at nd
  cases i with
  | zero => cases j with
   | zero => rfl
   | succ j =>
    simp only [List.getElem?_cons_zero,Option.some.injEq,List.getElem?_cons_succ] at hi hj
    subst hi
    exact (nd.1 (List.mem_of_getElem? hj)).elim
  | succ i => cases j with
   | zero =>
    simp only [List.getElem?_cons_zero,Option.some.injEq,List.getElem?_cons_succ] at hi hj
    subst hj
    exact (nd.1 (List.mem_of_getElem? hi)).elim
   | succ j =>
    simp only [List.getElem?_cons_succ] at hi hj
    rw [ih nd.2 hi hj]
set_option maxHeartbeats 1000000 in
theorem falls56n (f85 : E.fns 85 = some fn85) (p85 : E.prim 85 = none) {h : H} {R bd bm k : Nat} {fs : List Fl} {keep : Int} (ow : Ow 0 h (dkX R bd bm k fs)) (ok : ∀ f ∈ fs,flOK f) (hk : 0 ≤ keep) :
  NSp P E fn56 [.ptr (some (bd,0)),.int .i64 keep] h fun v h' => v = .tup [] ∧ h'.get bd = some (.cells (diskD R bm) 63 false false none) ∧ (∀ f ∈ fs,h'.get f.blk = some (clipO f)) ∧ ∀ i o,h.get i = some o → i ≠ bd → (∀ f ∈ fs,f.blk ≠ i) → h'.get i = some o := by
 refine ⟨(by decide : (2 : Nat) ≤ 54),?_⟩
 show NC P E none c56 (toL 54 (argF [.ptr (some (bd,0)),.int .i64 keep]),h) fun ex s' => Fin [] (fun v h' => v = .tup [] ∧ h'.get bd = some (.cells (diskD R bm) 63 false false none) ∧ (∀ f ∈ fs,h'.get f.blk = some (clipO f)) ∧ ∀ i o,h.get i = some o → i ≠ bd → (∀ f ∈ fs,f.blk ≠ i) → h'.get i = some o) ex s'.1 s'.2
 obtain ⟨nb,hbm,nd⟩ := dk_blk ow
 have gd := ow.at (i := bd) (o := .cells (diskX R bm) 63 false false none) (by simp [dkX])
 have gm0 := ow.at (i := bm) (o := mok k (fs.map fun f => entU f.fu)) (by simp [dkX])
 have gfs : ∀ f ∈ fs,h.get f.blk = some (.cells [vl f.b f.cs.length,.int .i64 f.syn] 105 false false none) := fun f hf => ow.at (by
  have := foot_mem hf
  simp only [dkX,List.mem_cons]
  exact .inr (.inr this))
 have gm := gm0
 unfold mok at gm
 unfold diskX at gd
 have hnat : ∀ i o,h.get i = some o → i ≠ h.size := fun i o hg => by have := H.get_lt hg; omega
 have k3 : Kp h (h.psh (.mapIter (some bm) (k + (fs.map fun f => entU f.fu).length) [] (k + (fs.map fun f => entU f.fu).length))) := Keeps.psh (Nat.le_refl _) _
 refine NC.sq (@NC.pre P E none [.region r56_0] (.block 0 (.loop b56_6)) 54 _ _ _ (by intro a ha b e; simp at ha; subst ha; cases e) ?_)
 simp only [GR,evK,binV,intOp,strOp,shOp,unV,Nat.reduceLT,Nat.reduceEqDiff,Nat.reduceAdd,↓reduceIte,Nat.reduceLeDiff,reduceCtorEq,List.map_cons,List.map_nil,r56_0,gd,gm]
 refine NC.blk (NC.mapsK (k := k) (d := 12) (e := 13) (x := 11) (q := 0) (mp := bm) (it := h.size) (l := fs.map fun f => entU f.fu) (by decide) (by decide) (by decide)
  (fun seen ρ h' => ρ 11 = .ptr (some (h.size,0)) ∧ Itk k h' bm h.size (fs.map fun f => entU f.fu) seen ∧ ρ 0 = .ptr (some (bd,0)) ∧ ρ 1 = .int .i64 keep ∧ (∀ j f,fs[j]? = some f → h'.get f.blk = some (if j ∈ seen then clipO f else .cells [vl f.b f.cs.length,.int .i64 f.syn] 105 false false none)) ∧ ∀ i o,h.get i = some o → (∀ f ∈ fs,f.blk ≠ i) → h'.get i = some o)
  (fun {seen ρ h2} inv => ⟨inv.1,inv.2.1⟩) ?_ ?_ (fs.map fun f => entU f.fu).length ⟨rfl,⟨k3.of gm0,psh_same _ _⟩,rfl,rfl,fun j f hj => by simpa using k3.of (gfs f (List.mem_of_getElem? hj)),fun i o hg _ => k3.of hg⟩ List.nodup_nil (by simp) (by simp))
 ·rintro seen ρ h3 ⟨w11,hi,w0,w1,hf,old⟩ hall
  simp only [if_true]
  have gd3 := old bd _ gd fun f hf => (nb f hf).1
  have lt3 := H.get_lt gd3
  have e1 := put_at (ws := [.int .i64 0,.int .i64 0]) (o := 1) gd3 (by simp) rfl rfl
  have t1 : setR [V.map (some bm),.int .i64 0,.int .i64 0,.int .i64 R,.bool false] 1 [.int .i64 0,.int .i64 0] = [.map (some bm),.int .i64 0,.int .i64 0,.int .i64 R,.bool false] := rfl
  rw [t1] at e1
  have g4 := hset_same lt3 (.cells [.map (some bm),.int .i64 0,.int .i64 0,.int .i64 R,.bool false] 63 false false none)
  have o4 : ∀ i,i ≠ bd → (h3.set bd (.cells [.map (some bm),.int .i64 0,.int .i64 0,.int .i64 R,.bool false] 63 false false none)).get i = h3.get i := fun i hi => hset_other lt3 (Ne.symm hi) _
  refine NC.run (Q := fun ex T h' => Fin [] (fun v h' => v = .tup [] ∧ h'.get bd = some (.cells (diskD R bm) 63 false false none) ∧ (∀ f ∈ fs,h'.get f.blk = some (clipO f)) ∧ ∀ i o,h.get i = some o → i ≠ bd → (∀ f ∈ fs,f.blk ≠ i) → h'.get i = some o) ex T h') (by intro b e; cases e) ?_ (fun _ _ _ h => h)
  simp only [GR,evK,binV,intOp,strOp,shOp,unV,Nat.reduceLT,Nat.reduceEqDiff,Nat.reduceAdd,↓reduceIte,Nat.reduceLeDiff,reduceCtorEq,r56_7,w0,gd3,e1]
  generalize h3.set bd (.cells [.map (some bm),.int .i64 0,.int .i64 0,.int .i64 R,.bool false] 63 false false none) = h4 at *
  have e2 := put_at (ws := [.bool true]) (o := 4) g4 (by simp) rfl rfl
  have t2 : setR [V.map (some bm),.int .i64 0,.int .i64 0,.int .i64 R,.bool false] 4 [.bool true] = diskD R bm := rfl
  rw [t2] at e2
  have lt4 := H.get_lt g4
  simp only [GR,evK,binV,intOp,strOp,shOp,unV,Nat.reduceLT,Nat.reduceEqDiff,Nat.reduceAdd,↓reduceIte,Nat.reduceLeDiff,reduceCtorEq,r56_8,w0,g4,e2]
  refine ⟨rfl,hset_same lt4 _,fun f hfm => ?_,fun i o hg hib hif => ?_⟩
  ·obtain ⟨j,hj⟩ := List.getElem?_of_mem hfm
   rw [hset_other lt4 (Ne.symm (nb f hfm).1),o4 _ (nb f hfm).1,hf j f hj,if_pos (hall j (by rw [List.length_map]; exact (List.getElem?_eq_some_iff.1 hj).1))]
  ·rw [hset_other lt4 (Ne.symm hib),o4 i hib]; exact old i o hg hif
 ·rintro seen ρ h3 ⟨w11,hi,w0,w1,hf,old⟩ _ _ i kx u hik hns
  rw [List.getElem?_map] at hik
  cases hr1 : fs[i]? with
  | none => rw [hr1] at hik; cases hik
  | some f =>
  rw [hr1] at hik
  simp only [Option.map_some,entU,Fl.fu,Option.some.injEq,Prod.mk.injEq] at hik
  obtain ⟨rfl,rfl⟩ := hik
  have hm1 := List.mem_of_getElem? hr1
  obtain ⟨⟨b,hb⟩,hsy,hln⟩ := ok f hm1
  have hits := H.get_lt hi.itr
  have hlast : ((seen ++ [i]).map (k + ·)).getLast? = some (k + i) := by simp
  have hfind : (mos (fs.map fun f => entU f.fu) k).find? (fun e => e.2.2 == k + i) = some (.str f.name,.ptr (some (f.blk,0)),k + i) := mos_find (l := fs.map fun f => entU f.fu) (k := k) (i := i) (x := entU f.fu) (by simp [hr1])
  have gi := hset_same hits (.mapIter (some bm) (k + (fs.map fun f => entU f.fu).length) ((seen ++ [i]).map (k + ·)) (k + (fs.map fun f => entU f.fu).length))
  have old4 : ∀ j,j ≠ h.size → (h3.set h.size (.mapIter (some bm) (k + (fs.map fun f => entU f.fu).length) ((seen ++ [i]).map (k + ·)) (k + (fs.map fun f => entU f.fu).length))).get j = h3.get j := fun j hj => hset_other hits (Ne.symm hj) _
  generalize h3.set h.size (.mapIter (some bm) (k + (fs.map fun f => entU f.fu).length) ((seen ++ [i]).map (k + ·)) (k + (fs.map fun f => entU f.fu).length)) = h4 at *
  have gm4 : h4.get bm = some (mok k (fs.map fun f => entU f.fu)) := by rw [old4 _ (hnat _ _ gm0)]; exact hi.map
  have gm4' := gm4
  unfold mok at gm4'
  have gf4 : h4.get f.blk = some (.cells [vl f.b f.cs.length,.int .i64 f.syn] 105 false false none) := by
   rw [old4 _ (hnat _ _ (gfs f hm1)),hf i f hr1,if_neg hns]
  rw [hb,hsy] at gf4
  unfold vl at gf4
  have hw0 : IntKind.i64.wrap ((f.cs.length : Int) - (f.cs.length : Int)) = 0 := by rw [Int.sub_self]; rfl
  have hmin : minmaxV false (.int .i64 keep) [.int .i64 0] = some (.int .i64 0) := by
   simp only [minmaxV,Bool.false_eq_true,if_false]
   split
   ·rfl
   ·have : keep = 0 := by omega
    rw [this]
  have hw1 : IntKind.i64.wrap ((f.cs.length : Int) + 0) = (f.cs.length : Int) := by rw [Int.add_zero]; exact wrap_nat (by omega)
  have hbd : boundsV f.cs.length f.cs.length none (some (.int .i64 (f.cs.length : Nat))) none = some (0,f.cs.length,f.cs.length) := by
   have := bounds_hi (len := f.cs.length) (cap := f.cs.length) (k := .i64) (a := (f.cs.length : Int)) ⟨by omega,Int.le_refl _⟩
   rw [Int.toNat_natCast] at this; exact this
  have lt4 := H.get_lt gf4
  have e1 := put_at (ws := [.slice (some (b,0)) f.cs.length f.cs.length false]) (o := 0) gf4 (by simp) rfl rfl
  have t1 : setR [V.slice (some (b,0)) f.cs.length f.cs.length true,.int .i64 f.cs.length] 0 [.slice (some (b,0)) f.cs.length f.cs.length false] = [.slice (some (b,0)) f.cs.length f.cs.length false,.int .i64 f.cs.length] := rfl
  rw [t1] at e1
  have hco : clipO f = .cells [.slice (some (b,0)) f.cs.length f.cs.length false,.int .i64 f.cs.length] 105 false false none := by unfold clipO clipV; rw [hb]; rfl
  have g5 := hset_same lt4 (.cells [.slice (some (b,0)) f.cs.length f.cs.length false,.int .i64 f.cs.length] 105 false false none)
  have old5 : ∀ j,j ≠ f.blk → (h4.set f.blk (.cells [.slice (some (b,0)) f.cs.length f.cs.length false,.int .i64 f.cs.length] 105 false false none)).get j = h4.get j := fun j hj => hset_other lt4 (Ne.symm hj) _
  refine NC.run (Q := fun ex T h' => ∃ ρ',ex = .nrm ∧ T = toL 54 ρ' ∧ ρ' 11 = .ptr (some (h.size,0)) ∧ Itk k h' bm h.size (fs.map fun f => entU f.fu) (seen ++ [i]) ∧ ρ' 0 = .ptr (some (bd,0)) ∧ ρ' 1 = .int .i64 keep ∧ (∀ j f,fs[j]? = some f → h'.get f.blk = some (if j ∈ seen ++ [i] then clipO f else .cells [vl f.b f.cs.length,.int .i64 f.syn] 105 false false none)) ∧ ∀ i o,h.get i = some o → (∀ f ∈ fs,f.blk ≠ i) → h'.get i = some o) (by intro b e; cases e) ?_ ?_
  ·simp only [GR,evK,binV,intOp,strOp,shOp,unV,Nat.reduceLT,Nat.reduceEqDiff,Nat.reduceAdd,↓reduceIte,Nat.reduceLeDiff,reduceCtorEq,r56_2,w11,gi,gm4',hlast,hfind]
   rw [X_draw,d56_3]
   simp only [GR,evK,binV,intOp,strOp,shOp,unV,Nat.reduceLT,Nat.reduceEqDiff,Nat.reduceAdd,↓reduceIte,Nat.reduceLeDiff,reduceCtorEq,r56_3,gf4,w1,hw0,hmin,hw1,r56_4,hbd,Nat.le_refl,Option.map_some,Nat.zero_mul,Nat.zero_add,Nat.sub_zero,Option.isNone_none,Bool.and_true]
   refine XC_of (clip85 f85 p85) ?_
   rintro _ hx ⟨rfl,e2⟩
   rw [e2]
   clear e2 hx
   simp only [GR,evK,binV,intOp,strOp,shOp,unV,Nat.reduceLT,Nat.reduceEqDiff,Nat.reduceAdd,↓reduceIte,Nat.reduceLeDiff,reduceCtorEq,e1]
   generalize h4.set f.blk (.cells [.slice (some (b,0)) f.cs.length f.cs.length false,.int .i64 f.cs.length] 105 false false none) = h5 at *
   have lt5 := H.get_lt g5
   have e6 := put_at (ws := [.int .i64 f.cs.length]) (o := 1) g5 (by simp) rfl rfl
   have t6 : setR [V.slice (some (b,0)) f.cs.length f.cs.length false,.int .i64 f.cs.length] 1 [.int .i64 f.cs.length] = [.slice (some (b,0)) f.cs.length f.cs.length false,.int .i64 f.cs.length] := rfl
   rw [t6] at e6
   simp only [GR,evK,binV,intOp,strOp,shOp,unV,Nat.reduceLT,Nat.reduceEqDiff,Nat.reduceAdd,↓reduceIte,Nat.reduceLeDiff,reduceCtorEq,r56_5,g5,e6]
   have old6 : ∀ j,j ≠ f.blk → (h5.set f.blk (.cells [.slice (some (b,0)) f.cs.length f.cs.length false,.int .i64 f.cs.length] 105 false false none)).get j = h4.get j := fun j hj => by rw [hset_other lt5 (Ne.symm hj)]; exact old5 j hj
   have g6 := hset_same lt5 (.cells [.slice (some (b,0)) f.cs.length f.cs.length false,.int .i64 f.cs.length] 105 false false none)
   refine ⟨_,rfl,w11,⟨?_,?_⟩,w0,w1,?_,?_⟩
   ·rw [old6 _ (Ne.symm (nb f hm1).2)]; exact gm4
   ·rw [old6 _ (Ne.symm (hnat _ _ (gfs f hm1)))]; exact gi
   ·intro j g hj
    have hgm := List.mem_of_getElem? hj
    by_cases hji : j = i
    ·subst hji
     rw [hr1] at hj; cases hj
     rw [if_pos (by simp),hco]; exact g6
    ·have hne : g.blk ≠ f.blk := fun e => hji (by
      exact nodup_inj nd (i := j) (j := i) (x := f.blk) (by rw [List.getElem?_map,hj,← e]; rfl) (by rw [List.getElem?_map,hr1]; rfl))
     rw [old6 _ hne,old4 _ (hnat _ _ (gfs g hgm)),hf j g hj]
     have : (j ∈ seen ++ [i]) ↔ j ∈ seen := by simp [hji]
     simp only [this]
   ·intro j o hg hif
    rw [old6 _ (Ne.symm (hif f hm1)),old4 _ (hnat _ _ hg)]; exact old j o hg hif
  ·rintro ex T h' ⟨ρ',rfl,rfl,q⟩
   exact ⟨ρ',h',rfl,q⟩
end Go.AM.Wc
namespace Go.AM.Wc
open Go.AM Go.AM.Wd Go.AM.We Go.AM.Wf
variable {P : Program} {E : Env} {T : H → Prop}
open Classical in
noncomputable def fallsG : List V → H → Option (V × H) := fun args h => match args with
 | [.ptr (some (bd,0)),.int .i64 keep] => match h.get bd with
  | some (.cells [.map (some bm),_,_,r,_] ty op ro fz) => match h.get bm with
   | some (.map es _) => if ∃ (R k : Nat) (fs : List Fl),Ow 0 h (dkX R bd bm k fs) ∧ (∀ f ∈ fs,flOK f) ∧ 0 ≤ keep then some (.tup [],(fallsH h es).set bd (.cells [.map (some bm),.int .i64 0,.int .i64 0,r,.bool true] ty op ro fz)) else none
   | _ => none
  | _ => none
 | _ => none
theorem fallsG_eq {h : H} {R bd bm k : Nat} {fs : List Fl} {keep : Int} (ow : Ow 0 h (dkX R bd bm k fs)) (ok : ∀ f ∈ fs,flOK f) (hk : 0 ≤ keep) :
  fallsG [.ptr (some (bd,0)),.int .i64 keep] h = some (.tup [],(fallsH h (mos (fs.map fun f => entU f.fu) k)).set bd (.cells (diskD R bm) 63 false false none)) := by
 have gd := ow.at (i := bd) (o := .cells (diskX R bm) 63 false false none) (by simp [dkX])
 have gm := ow.at (i := bm) (o := mok k (fs.map fun f => entU f.fu)) (by simp [dkX])
 unfold diskX at gd
 unfold mok at gm
 unfold fallsG
 simp only [gd,gm]
 exact if_pos ⟨R,k,fs,ow,ok,hk⟩
theorem ow_zero {lo : Nat} {h : H} {m : List Cell} (a : Ow lo h m) : Ow 0 h m := ⟨a.get,fun _ _ => Nat.zero_le _,a.nd⟩
theorem falls_ow {lo : Nat} {h : H} {R bd bm k : Nat} {fs : List Fl} {m2 : List Cell} (ow : Ow lo h (dkX R bd bm k fs ++ m2)) (ok : ∀ f ∈ fs,flOK f) :
  Ow lo ((fallsH h (mos (fs.map fun f => entU f.fu) k)).set bd (.cells (diskD R bm) 63 false false none)) (dkD R bd bm k fs ++ m2) ∧ Keeps lo h ((fallsH h (mos (fs.map fun f => entU f.fu) k)).set bd (.cells (diskD R bm) 63 false false none)) := by
 have ow1 : Ow lo h ([(bd,.cells (diskX R bm) 63 false false none),(bm,mok k (fs.map fun f => entU f.fu))] ++ (fs.flatMap Fl.foot ++ m2)) := by simpa [dkX] using ow
 obtain ⟨o2,k2,_,_⟩ := fallsH_ow (k := k) ow1 ok
 have o3 : Ow lo (fallsH h (mos (fs.map fun f => entU f.fu) k)) ((bd,.cells (diskX R bm) 63 false false none) :: ((bm,mok k (fs.map fun f => entU f.fu)) :: (fs.flatMap Fl.footC ++ m2))) := by simpa using o2
 obtain ⟨o4,k4⟩ := Ow.set o3 (.cells (diskD R bm) 63 false false none)
 exact ⟨by simpa [dkD] using o4,Keeps.trans k2 k4⟩
theorem falls_sp (hp : E.prim 56 = some fallsG) {lo : Nat} {h : H} {R bd bm k : Nat} {fs : List Fl} {keep : Int} {m2 : List Cell} (ow : Ow lo h (dkX R bd bm k fs ++ m2)) (ok : ∀ f ∈ fs,flOK f) (hk : 0 ≤ keep) :
  Sp P E (.func 56 [] []) [.ptr (some (bd,0)),.int .i64 keep] h fun _ h' => Ow lo h' (dkD R bd bm k fs ++ m2) ∧ Keeps lo h h' := by
 refine ⟨.tup [],_,?_,falls_ow ow ok⟩
 rw [AP_prim hp]
 exact fallsG_eq (ow_zero ow.left) ok hk
theorem falls_made {h : H} {R bd bm k : Nat} {fs : List Fl} (ow : Ow 0 h (dkX R bd bm k fs)) (ok : ∀ f ∈ fs,flOK f) : Made h ((fallsH h (mos (fs.map fun f => entU f.fu) k)).set bd (.cells (diskD R bm) 63 false false none)) := by
 have owa : Ow 0 h ([(bd,.cells (diskX R bm) 63 false false none),(bm,mok k (fs.map fun f => entU f.fu))] ++ (fs.flatMap Fl.foot ++ [])) := by simpa [dkX] using ow
 obtain ⟨_,_,hsz,hoth⟩ := fallsH_ow (k := k) owa ok
 obtain ⟨o2,_⟩ := falls_ow (m2 := []) (by simpa using ow) ok
 have gd := ow.at (i := bd) (o := .cells (diskX R bm) 63 false false none) (by simp [dkX])
 have gm := ow.at (i := bm) (o := mok k (fs.map fun f => entU f.fu)) (by simp [dkX])
 refine ⟨by rw [H.set_size,hsz],fun i o hg hl => ?_⟩
 by_cases hib : i = bd
 ·subst hib
  have g2 := o2.at (i := i) (o := .cells (diskD R bm) 63 false false none) (by simp [dkD])
  rw [g2] at hg
  cases hg
  refine ⟨⟨_,gd,rfl,fun _ => rfl⟩,.inr ⟨_,_,_,_,_,rfl,?_⟩⟩
  intro v hv
  simp only [diskD,List.mem_cons,List.not_mem_nil,or_false] at hv
  rcases hv with rfl | rfl | rfl | rfl | rfl
  ·exact ⟨_,gm,rfl⟩
  ·trivial
  ·trivial
  ·trivial
  ·trivial
 ·by_cases hf : ∃ f ∈ fs,f.blk = i
  ·obtain ⟨f,hfm,rfl⟩ := hf
   have gf := ow.at (i := f.blk) (o := .cells [vl f.b f.cs.length,.int .i64 f.syn] 105 false false none) (by
    have := foot_mem hfm
    simp only [dkX,List.mem_cons]
    exact .inr (.inr this))
   have g2 := o2.at (i := f.blk) (o := clipO f) (by
    simp only [dkD,List.append_nil,List.mem_cons,List.mem_flatMap]
    exact .inr (.inr ⟨f,hfm,List.mem_cons_self⟩))
   rw [g2] at hg
   cases hg
   obtain ⟨⟨b,hb⟩,_,_⟩ := ok f hfm
   have gb := ow.at (i := b) (o := .cells f.cs 5 true false none) (by
    simp only [dkX,List.mem_cons,List.mem_flatMap]
    exact .inr (.inr ⟨f,hfm,by simp [Fl.foot,fpt,hb]⟩))
   refine ⟨⟨_,gf,rfl,fun _ => rfl⟩,.inr ⟨_,_,_,_,_,rfl,?_⟩⟩
   intro v hv
   simp only [List.mem_cons,List.not_mem_nil,or_false] at hv
   rcases hv with rfl | rfl
   ·unfold clipV; rw [hb]
    exact ⟨_,gb,rfl⟩
   ·trivial
  ·have hnf : ∀ f ∈ fs,f.blk ≠ i := fun f hfm e => hf ⟨f,hfm,e⟩
   have hlt : bd < (fallsH h (mos (fs.map fun f => entU f.fu) k)).size := by rw [hsz]; exact H.get_lt gd
   rw [hset_other hlt (Ne.symm hib),hoth i hnf] at hg
   exact ⟨⟨o,hg,hl,id⟩,.inl hg⟩
theorem falls_ok (hmix : P.follows .mixedOrders = true) {fn : Func} (hg : P.funcs[56]? = some fn) (hc : cFn P fn = some fn56) (f85 : (envOf P fun _ => none).fns 85 = some fn85) {args : List V} {h h' : H} {v : V} {m : Mp} {w : World} {xs : List Value} (he : fallsG args h = some (v,h')) (hr : HR P m h w) (hx : VRL m args xs) (n : Nat) :
  CallsIn (FF none) n P 56 xs.toArray w (Post P m h w v h') := by
 have he0 := he
 unfold fallsG at he
 split at he
 ·rename_i bd keep
  split at he
  ·split at he
   ·split at he
    ·rename_i bm _ _ r _ _ _ _ _ _ _ _ _ _ hex
     obtain ⟨R,k,fs,ow,ok,hk⟩ := hex
     rw [fallsG_eq ow ok hk] at he0
     cases he0
     have owa : Ow 0 h ([(bd,.cells (diskX R bm) 63 false false none),(bm,mok k (fs.map fun f => entU f.fu))] ++ (fs.flatMap Fl.foot ++ [])) := by simpa [dkX] using ow
     obtain ⟨_,_,hsz,hoth⟩ := fallsH_ow (k := k) owa ok
     obtain ⟨o2,_⟩ := falls_ow (m2 := []) (by simpa using ow) ok
     have gd := ow.at (i := bd) (o := .cells (diskX R bm) 63 false false none) (by simp [dkX])
     have hlt : bd < (fallsH h (mos (fs.map fun f => entU f.fu) k)).size := by rw [hsz]; exact H.get_lt gd
     refine nsp_set hmix noPrim hg hc (u := .tup []) (falls_made ow ok) (fun m m' x hx => hx) (NSp.mono (falls56n (E := envOf P fun _ => none) f85 rfl ow ok hk) ?_) hr hx n
     rintro v h' ⟨rfl,q1,q2,q3⟩
     refine ⟨rfl,fun i o hgi => ?_⟩
     by_cases hib : i = bd
     ·subst hib
      rw [hset_same hlt] at hgi
      rw [q1]; exact hgi
     ·by_cases hf : ∃ f ∈ fs,f.blk = i
      ·obtain ⟨f,hfm,rfl⟩ := hf
       have g2 := o2.at (i := f.blk) (o := clipO f) (by
        simp only [dkD,List.append_nil,List.mem_cons,List.mem_flatMap]
        exact .inr (.inr ⟨f,hfm,List.mem_cons_self⟩))
       rw [g2] at hgi
       rw [q2 f hfm]; exact hgi
      ·have hnf : ∀ f ∈ fs,f.blk ≠ i := fun f hfm e => hf ⟨f,hfm,e⟩
       rw [hset_other hlt (Ne.symm hib),hoth i hnf] at hgi
       exact q3 i o hgi hib hnf
    ·cases he
   ·cases he
  ·cases he
 ·cases he
end Go.AM.Wc
namespace Go.AM.Wc
open Go.AM Go.AM.Wd Go.AM.We Go.AM.Wf
variable {P : Program} {E : Env} {T : H → Prop}
theorem fy_len {fs : List Fy} {A : List SegA} {a nx : Nat} (ok : AOK A a nx) (hfs : fs.map (fun f => (f.name,f.cs)) = A.map fA) : ∀ f ∈ fs,1 ≤ f.cs.length ∧ f.cs.length ≤ 4194304 := by
 intro f hf
 have hm : (f.name,f.cs) ∈ A.map fA := by rw [← hfs]; exact List.mem_map.2 ⟨f,hf,rfl⟩
 obtain ⟨s,hs,he⟩ := List.mem_map.1 hm
 have hcs : f.cs = bytA s := by
  have := congrArg Prod.snd he
  exact this.symm
 obtain ⟨_,_,hne⟩ := ok.n9 hs
 have := byt_pos hne
 have := ok.sz s hs
 rw [hcs]; omega
theorem cl_of (hp : E.prim 26 = some cloneG) {R bd bm k : Nat} {fs : List Fy} {A : List SegA} {a nx : Nat} (ok : AOK A a nx) (hfs : fs.map (fun f => (f.name,f.cs)) = A.map fA) :
  ∀ h',DV h' R bd bm k fs → T h' → Sp P E (.func 26 [] []) [.ptr (some (bd,0))] h' fun v h2 => (∃ b,v = .ptr (some b)) ∧ Kp h' h2 :=
 fun _ dv _ => clone_sp hp dv (fy_len ok hfs)
def Fl.fyC (f : Fl) : Fy := ⟨f.name,f.blk,clipV f,f.cs,f.cs.length⟩
theorem dv_fell {lo : Nat} {h : H} {R bd bm k : Nat} {fs : List Fl} {m2 : List Cell} (ow : Ow lo h ((bd,.cells (diskX R bm) 63 false false none) :: (bm,mok k (fs.map fun f => entU f.fu)) :: (fs.flatMap Fl.footC ++ m2))) (hn : ∀ f ∈ fs,(∃ b,f.b = some b) ∧ Bs f.cs) : DV h R bd bm k (fs.map Fl.fyC) where
 gd := ow.at (by simp)
 gm := by
  have := ow.at (i := bm) (o := mok k (fs.map fun f => entU f.fu)) (by simp)
  rw [List.map_map]; exact this
 fl := fun f hf => by
  obtain ⟨g,hg,rfl⟩ := List.mem_map.1 hf
  obtain ⟨⟨b,hb⟩,q2⟩ := hn g hg
  have gf := ow.at (i := g.blk) (o := clipO g) (by
   simp only [List.mem_cons,List.mem_append,List.mem_flatMap]
   exact .inr (.inr (.inl ⟨g,hg,List.mem_cons_self⟩)))
  have gb := ow.at (i := b) (o := .cells g.cs 5 true false none) (by
   simp only [List.mem_cons,List.mem_append,List.mem_flatMap]
   exact .inr (.inr (.inl ⟨g,hg,by simp [Fl.footC,fpt,hb]⟩)))
  refine ⟨gf,?_⟩
  show Rx h (clipV g) g.cs
  have he := vl_elems gb
  unfold clipV
  rw [hb]
  refine ⟨_,_,_,rfl,?_,q2⟩
  rw [← he]
  simp only [Option.map_some,vl,elemsV]
theorem fyC_fil (fs : List Fl) : ((fs.map Fl.sy).map Fl.fyC).map (fun f => (f.name,f.cs)) = fs.map fun f => (f.name,f.cs) := by rw [List.map_map,List.map_map]; rfl
theorem lox_ok {R : Nat} {fs : List Fl} {sb : Option Nat} {gc : List V} {sgs : List Sg} {a nx : Nat} (k : LOX R fs sb gc sgs a nx) (hR : R ≤ 1048576) (hz : sgs = [] → nx = 0) : ∀ f ∈ fs.map Fl.sy,flOK f ∧ Bs f.cs := by
 have ok := aok_of k hR hz
 have hl := fy_len (fs := fs.map Fl.fy) ok (by rw [fy_fil]; exact fs_fA k.fil)
 intro f hf
 obtain ⟨g,hg,rfl⟩ := List.mem_map.1 hf
 have := hl g.fy (List.mem_map.2 ⟨g,hg,rfl⟩)
 refine ⟨⟨?_,rfl,this.2⟩,k.dk.byt g hg⟩
 show ∃ b,g.b = some b
 cases hb : g.b with
 | some b => exact ⟨b,rfl⟩
 | none =>
  have h0 := k.dk.emp g hg hb
  have h1 : 1 ≤ g.cs.length := this.1
  rw [h0] at h1; simp at h1
end Go.AM.Wc
namespace Go.AM.Wc
open Go.AM Go.AM.Wd Go.AM.We Go.AM.Wf
variable {P : Program} {E : Env} {T : H → Prop}
set_option maxHeartbeats 4000000 in
theorem law5 (F : Fw P E T) (D : Fd P E) (G : Fe P E) (f5 : E.fns 5 = some fn5) (p5 : E.prim 5 = none) (hu : E.prim 105 = some usedK) (hs : E.prim 123 = some (sortedG 153 59)) (h26 : E.prim 26 = some cloneG) (h56 : E.prim 56 = some fallsG) (beg : ∀ h,T h → Sp P E (.func 6 [] []) [] h fun r h' => r = .bool true ∧ h' = h)
  {v : V} {ops : List OpX} {keep : Int} {h0 : H} (hv : OsX h0 v ops) (hol : ops.length ≤ 1099511627775) (hk0 : 0 ≤ keep) (hk1 : keep ≤ 255) (ht : T h0) :
  Sp P E (.func 5 [] []) [v,.int .u8 keep] h0 fun r _ => r = .bool true := by
 have h1lo := F.tsize _ ht
 have k1 : Kp h0 (h0.psh (.cells [.bool false] 4 false false none)) := Keeps.psh (Nat.le_refl _) _
 have g1 := psh_same h0 (.cells [.bool false] 4 false false none)
 have c4 : ((0 : Int) != 0) = false := rfl
 have c0 : ((0 : Int) == 0) = true := rfl
 have hvl := hv
 obtain ⟨vp,vc,vo,hvv,_⟩ := hvl
 refine Sp_fn f5 p5 (by simp [fn5]) ?_
 simp only [GR,evK,binV,intOp,strOp,shOp,unV,Nat.reduceLT,Nat.reduceEqDiff,Nat.reduceAdd,↓reduceIte,Nat.reduceLeDiff,reduceCtorEq,fn5,c5]
 generalize h0.psh (.cells [.bool false] 4 false false none) = h1 at *
 have hlo1 : 1 ≤ h1.size := Nat.le_trans h1lo k1.size
 have hr0 : h0.size < h1.size := H.get_lt g1
 have ht1 : T h1 := F.tkeep ht k1
 have hv1 := hv.kp k1
 simp only [GR,evK,binV,intOp,strOp,shOp,unV,Nat.reduceLT,Nat.reduceEqDiff,Nat.reduceAdd,↓reduceIte,Nat.reduceLeDiff,reduceCtorEq,r5_0]
 refine XC_of (beg h1 ht1) ?_
 rintro _ hx ⟨rfl,e2⟩
 rw [e2]
 clear e2 hx
 simp only [GR,evK,binV,intOp,strOp,shOp,unV,Nat.reduceLT,Nat.reduceEqDiff,Nat.reduceAdd,↓reduceIte,Nat.reduceLeDiff,reduceCtorEq,Bool.not_true,r5_1]
 refine XC_of (new7x F (R := 1048576)) ?_
 rintro _ h2 ⟨bd,bm,rfl,ow2,k2⟩
 have ok0 : AOK ([] : List SegA) 0 0 := ⟨rfl,by decide,by decide,by simp,by simp,fun _ => rfl⟩
 have dv2 : DV h2 1048576 bd bm 0 [] := dv_of (m1 := []) (m2 := []) (fs := []) (by simpa using ow2) (by simp)
 simp only [GR,evK,binV,intOp,strOp,shOp,unV,Nat.reduceLT,Nat.reduceEqDiff,Nat.reduceAdd,↓reduceIte,Nat.reduceLeDiff,reduceCtorEq,List.getElem?_cons_zero,List.getElem?_cons_succ,r5_2]
 refine XC_of (open_still F D G hs (A := []) (cl_of h26 ok0 rfl) dv2 rfl (by simp) ok0 (F.tkeep ht1 k2)) ?_
 rintro _ h3 ⟨lb,sb,sgs0,rfl,hsh0,ch0,hsb0,ow3,k3⟩
 have hs0 : sgs0 = [] := List.map_eq_nil_iff.1 hsh0
 subst hs0
 have kk3 : Keeps h1.size h1 h3 := Keeps.trans k2 (k3.mono k2.size)
 have ow3' : Ow h1.size h3 (dkX 1048576 bd bm 0 [] ++ (lgX lb bd sb [] [] 0 0 false ++ [])) := by
  have := Ow.join ow2 k3 k2.size ow3
  simpa using this
 have I3 : LgI 1048576 h1.size lb bd bm [] h3 := ⟨[],sb,[],[],0,0,0,false,0,ow3',⟨rfl,by decide,fun _ => ⟨rfl,rfl⟩,⟨by simp,by simp [totU],by simp,by decide⟩,rfl,by simp,by simp⟩,fun _ => rfl⟩
 have hlo3 : h1.size ≤ h3.size := kk3.size
 simp only [GR,evK,binV,intOp,strOp,shOp,unV,Nat.reduceLT,Nat.reduceEqDiff,Nat.reduceAdd,↓reduceIte,Nat.reduceLeDiff,reduceCtorEq,List.getElem?_cons_zero,List.getElem?_cons_succ,r5_3,c4,eq_pn,r5_4,hvv]
 rw [← hvv]
 refine script5 F G hu (h0 := h3) (lo := h1.size) (R := 1048576) (bd := bd) (bm := bm) (m2 := []) (v := v) (ops := ops) hlo1 (F.tlow _ _ _ hlo1 ht1 kk3) (fun h' k' => hv1.kp (Keeps.trans kk3 k')) hol rfl ?_ ops.length 0 _ h3 (Nat.sub_zero _) (Nat.zero_le _) I3 (Keeps.refl _ _) hlo3 (fun j hj => rfl) ?_ ?_ ?_
 ·intro ρ4 h4 hr4 I4 k4 hlo4
  have q4 : ρ4 4 = .ptr (some (h0.size,0)) := hr4 4 (by decide)
  have q5 : ρ4 5 = .ptr (some (bd,0)) := hr4 5 (by decide)
  have q7 : ρ4 7 = .ptr (some (lb,0)) := hr4 7 (by decide)
  have q1 : ρ4 1 = .int .u8 keep := hr4 1 (by decide)
  clear hr4
  have kk4 : Keeps h1.size h1 h4 := Keeps.trans kk3 k4
  have ht4 : T h4 := F.tlow _ _ _ hlo1 ht1 kk4
  obtain ⟨fs,sb4,gc,sgs,a,nx,sy,br,k,ow4,lok,hz⟩ := I4
  have hR : (1048576 : Nat) ≤ 1048576 := Nat.le_refl _
  have ok := aok_of lok hR hz
  have hfil : (fs.map Fl.fy).map (fun f => (f.name,f.cs)) = (sgs.map Sg.sh).map fA := by rw [fy_fil]; exact fs_fA lok.fil
  have hlim := lok.lim
  have hsl := chain_len lok.ch
  simp only [GR,evK,binV,intOp,strOp,shOp,unV,Nat.reduceLT,Nat.reduceEqDiff,Nat.reduceAdd,↓reduceIte,Nat.reduceLeDiff,reduceCtorEq,r5_15,q5]
  refine XC_of (open_again F D G hs (cl_of h26 ok hfil) ow4 lok hz hR hlo4 hlo1 ht4) ?_
  rintro _ h5 ⟨lb2,sb2,sgs2,rfl,hsh2,ch2,hsb2,ow5,k5⟩
  have kk5 : Keeps h1.size h1 h5 := Keeps.trans kk4 k5
  have hlo5 : h1.size ≤ h5.size := kk5.size
  have gl5 := ow5.at (i := lb) (o := lgO bd (vlo sb4 gc.length sgs.length) nx sy br) (by simp [lgX])
  have gm5 := ow5.at (i := lb2) (o := lgO bd (vl sb2 sgs2.length) nx nx false) (by simp [lgX,vlo_zero])
  have rs5 : Rsx h5 (vlo sb4 gc.length sgs.length) sgs := rsx_log (m1 := dkX 1048576 bd bm k (fs.map Fl.sy)) (m2 := lgX lb2 bd sb2 [] sgs2 nx nx false) (by simpa using ow5) lok.sbn lok.ch
  have rm5 : Rsx h5 (vl sb2 sgs2.length) sgs2 := by
   have := rsx_log (m1 := dkX 1048576 bd bm k (fs.map Fl.sy) ++ lgX lb bd sb4 gc sgs nx sy br) (m2 := []) (lb := lb2) (bd := bd) (sb := sb2) (gc := []) (sgs := sgs2) (nx := nx) (sy := nx) (br := false) (by simpa using ow5) (fun h => ⟨hsb2 h,rfl⟩) ch2
   simpa [vlo_zero] using this
  have hll : sgs.length = sgs2.length := by have := congrArg List.length hsh2; simpa using this.symm
  simp only [GR,evK,binV,intOp,strOp,shOp,unV,Nat.reduceLT,Nat.reduceEqDiff,Nat.reduceAdd,↓reduceIte,Nat.reduceLeDiff,reduceCtorEq,List.getElem?_cons_zero,List.getElem?_cons_succ]
  rw [← X_region]
  refine check16 F D (n := 0) (syb := 0) (la := lb) (lb := lb2) (bd := bd) (a := a) (nx := nx) ?_ ?_ ?_ gl5 gm5 rs5.rs rm5.rs lok.ch ch2 hlim hll ?_
  ·rfl
  ·rfl
  ·exact q7
  intro ρ6 h6 k6 w103 hr6
  have p1 : ρ6 1 = .int .u8 keep := (hr6 1 (by decide)).trans q1
  have p4 : ρ6 4 = .ptr (some (h0.size,0)) := (hr6 4 (by decide)).trans q4
  have p5 : ρ6 5 = .ptr (some (bd,0)) := (hr6 5 (by decide)).trans q5
  have p7 : ρ6 7 = .ptr (some (lb,0)) := (hr6 7 (by decide)).trans q7
  have p11 : ρ6 11 = .ptr (some (lb2,0)) := hr6 11 (by decide)
  clear hr6
  have kb7 : Kp h6 (h6.psh (abx none 0)) := Keeps.psh (Nat.le_refl _) _
  have gb7 := psh_same h6 (abx none 0)
  have ob7 := (Ow.nil h6.size h6).push (Nat.le_refl _) (abx none 0)
  unfold abx vl at kb7 gb7
  have ob7' := ob7
  unfold abx vl at ob7'
  simp only [GR,evK,binV,intOp,strOp,shOp,unV,Nat.reduceLT,Nat.reduceEqDiff,Nat.reduceAdd,↓reduceIte,Nat.reduceLeDiff,reduceCtorEq,w103]
  generalize h6.psh (.cells [.slice none 0 0 false] 31 false false none) = h7 at *
  have gl7 := kb7.of (k6.of gl5)
  have rs6 := rs5.kp k6
  simp only [GR,evK,binV,intOp,strOp,shOp,unV,Nat.reduceLT,Nat.reduceEqDiff,Nat.reduceAdd,↓reduceIte,Nat.reduceLeDiff,reduceCtorEq,r5_17,p7]
  refine XC_of (records14 F gl7 (rs6.kp kb7).rs (by omega)) ?_
  rintro _ h8 ⟨tb,sv',rfl,htb,gt8,cl8,k8⟩
  have ob8 := Ow.newM (m1 := [(h6.size,abx none 0)]) (m2 := []) (by simpa [abx,vl] using ob7') k8 htb kb7.size gt8
  have k68 := Kp.trans kb7 k8
  simp only [GR,evK,binV,intOp,strOp,shOp,unV,Nat.reduceLT,Nat.reduceEqDiff,Nat.reduceAdd,↓reduceIte,Nat.reduceLeDiff,reduceCtorEq]
  refine collect5 F (lo := h6.size) (tb := tb) (xb := h6.size) (a := a) (nx := nx) (h0 := h6) (sv' := sv') (sgs := sgs) (M0 := [(h6.size,abx none 0)]) rfl rfl k68.size ⟨none,[],by simp,fun _ => rfl,by simp,by simp [fpt]⟩ (by simpa [boxO] using ob8) cl8 k68 (fun h' k' => ⟨_,rs6.kp k'⟩) lok.ch hlim ?_
  intro M h9 hM ob9 k9'
  have k9 : Kp h6 h9 := k9'
  clear k9'
  obtain ⟨ob,rs,hrc,hob,hrb,rfl⟩ := hM
  have hra : (recs sgs).take (nx - a) = recs sgs := by
   have := recs_len lok.ch
   exact List.take_of_length_le (by omega)
  rw [hra] at hrc
  have k59 : Kp h5 h9 := Kp.trans k6 k9
  have ow9 := Ow.join (ow5.kp k6) k9 (Nat.le_trans hlo5 k6.size) ob9
  have kk9 : Keeps h1.size h1 h9 := Keeps.trans kk5 (k59.mono hlo5)
  have fok := lox_ok lok hR hz
  have ow9' : Ow h1.size h9 (dkX 1048576 bd bm k (fs.map Fl.sy) ++ (((lgX lb bd sb4 gc sgs nx sy br ++ []) ++ lgX lb2 bd sb2 [] sgs2 nx nx false) ++ ((h6.size,abx ob rs.length) :: (fpt ob 45 (rs.map Rc.v) ++ rs.map Rc.cell)))) := by simpa using ow9
  obtain ⟨mr,hmr⟩ : ∃ x,x = ((lgX lb bd sb4 gc sgs nx sy br ++ []) ++ lgX lb2 bd sb2 [] sgs2 nx nx false) ++ ((h6.size,abx ob rs.length) :: (fpt ob 45 (rs.map Rc.v) ++ rs.map Rc.cell)) := ⟨_,rfl⟩
  rw [← hmr] at ow9'
  have gd9 := ow9'.at (i := bd) (o := .cells (diskX 1048576 bm) 63 false false none) (by simp [dkX])
  have hwk : IntKind.i64.wrap keep = keep := wrap_le (by omega) (by omega)
  simp only [GR,evK,binV,intOp,strOp,shOp,unV,Nat.reduceLT,Nat.reduceEqDiff,Nat.reduceAdd,↓reduceIte,Nat.reduceLeDiff,reduceCtorEq,r5_21,p5,p1,hwk]
  refine XC_of (crash20 F G gd9 hk0 (falls_sp h56 ow9' (fun f hf => (fok f hf).1) hk0)) ?_
  rintro _ h10 ⟨ow10,k10⟩
  have kk10 : Keeps h1.size h1 h10 := Keeps.trans kk9 k10
  simp only [GR,evK,binV,intOp,strOp,shOp,unV,Nat.reduceLT,Nat.reduceEqDiff,Nat.reduceAdd,↓reduceIte,Nat.reduceLeDiff,reduceCtorEq,r5_22,p5]
  refine XC_of (restart21d F D (m1 := []) (m2 := (bm,mok k ((fs.map Fl.sy).map fun f => entU f.fu)) :: ((fs.map Fl.sy).flatMap Fl.footC ++ mr)) (R := 1048576) (bd := bd) (bm := bm) (by simpa [dkD] using ow10)) ?_
  rintro _ h11 ⟨ow11,k11⟩
  have kk11 : Keeps h1.size h1 h11 := Keeps.trans kk10 k11
  have hlo11 := kk11.size
  have ht11 : T h11 := F.tlow _ _ _ hlo1 ht1 kk11
  have dv11 := dv_fell (fs := fs.map Fl.sy) (m2 := mr) (by simpa using ow11) (fun f hf => ⟨(fok f hf).1.1,(fok f hf).2⟩)
  have hfil3 : ((fs.map Fl.sy).map Fl.fyC).map (fun f => (f.name,f.cs)) = (sgs.map Sg.sh).map fA := by rw [fyC_fil]; exact fs_fA lok.fil
  have inM : ∀ p ∈ mr,h11.get p.1 = some p.2 := fun p hp => ow11.get p (by
   simp only [List.nil_append,List.mem_cons,List.mem_append]
   exact .inr (.inr (.inr hp)))
  have gx11 : h11.get h6.size = some (abx ob rs.length) := inM (h6.size,abx ob rs.length) (by rw [hmr]; simp)
  have gl11 : h11.get lb2 = some (lgO bd (vl sb2 sgs2.length) nx nx false) := inM (lb2,lgO bd (vl sb2 sgs2.length) nx nx false) (by rw [hmr]; simp [lgX,vlo_zero])
  have gN11 : ∀ b,ob = some b → h11.get b = some (.cells (rs.map Rc.v) 45 true false none) := fun b hb => inM (b,.cells (rs.map Rc.v) 45 true false none) (by rw [hmr,hb]; simp [fpt])
  have gr11 : ∀ r ∈ rs,h11.get r.b = some (.cells r.cs 5 true false none) := fun r hr => inM (r.b,.cells r.cs 5 true false none) (by
   rw [hmr]
   simp only [List.mem_append,List.mem_cons]
   exact .inr (.inr (.inr (List.mem_map.2 ⟨r,hr,rfl⟩))))
  clear hmr inM
  simp only [GR,evK,binV,intOp,strOp,shOp,unV,Nat.reduceLT,Nat.reduceEqDiff,Nat.reduceAdd,↓reduceIte,Nat.reduceLeDiff,reduceCtorEq,r5_23,p5]
  refine XC_of (open_still F D G hs (A := sgs.map Sg.sh) (a := a) (nx := nx) (cl_of h26 ok hfil3) dv11 hfil3 (fun f hf => by
   obtain ⟨g,hg,rfl⟩ := List.mem_map.1 hf
   rfl) ok ht11) ?_
  rintro _ h12 ⟨lb3,sb3,sgs3,rfl,hsh3,ch3,hsb3,ow12,k12⟩
  have gl12 := k12.of gl11
  have gm12 := ow12.at (i := lb3) (o := lgO bd (vl sb3 sgs3.length) nx nx false) (by simp [lgX,vlo_zero])
  have rs12 : Rsx h12 (vl sb3 sgs3.length) sgs3 := by
   have := rsx_log (m1 := []) (m2 := []) (lb := lb3) (bd := bd) (sb := sb3) (gc := []) (sgs := sgs3) (nx := nx) (sy := nx) (br := false) (by simpa using ow12) (fun h => ⟨hsb3 h,rfl⟩) ch3
   simpa [vlo_zero] using this
  have kk12 : Keeps h1.size h1 h12 := Keeps.trans kk11 (k12.mono hlo11)
  have g12 := k12.of gx11
  have gN12 : ∀ b,ob = some b → h12.get b = some (.cells (rs.map Rc.v) 45 true false none) := fun b hb => k12.of (gN11 b hb)
  have gr12 : ∀ r ∈ rs,h12.get r.b = some (.cells r.cs 5 true false none) := fun r hr => k12.of (gr11 r hr)
  simp only [GR,evK,binV,intOp,strOp,shOp,unV,Nat.reduceLT,Nat.reduceEqDiff,Nat.reduceAdd,↓reduceIte,Nat.reduceLeDiff,reduceCtorEq,List.getElem?_cons_zero,List.getElem?_cons_succ]
  rw [← X_region]
  refine check24 F (la := lb2) (lb := lb3) (bd := bd) (nx := nx) ?_ ?_ ?_ gl12 gm12 ?_
  ·rfl
  ·rfl
  ·exact p11
  intro ρ7 w135 hr7
  have s4 : ρ7 4 = .ptr (some (h0.size,0)) := (hr7 4 (by decide)).trans p4
  have s12 : ρ7 12 = .ptr (some (h6.size,0)) := hr7 12 (by decide)
  have s15 : ρ7 15 = .ptr (some (lb3,0)) := hr7 15 (by decide)
  clear hr7
  have kc : Kp h12 (h12.psh (cntO 0)) := Keeps.psh (Nat.le_refl _) _
  have gc1 := psh_same h12 (cntO 0)
  have oc1 := (Ow.nil h12.size h12).push (Nat.le_refl _) (cntO 0)
  have ec := put_at (ws := [.int .i64 0]) (o := 0) gc1 (by simp) rfl rfl
  have tc : setR [V.int .i64 ((0 : Nat) : Int)] 0 [V.int .i64 0] = [V.int .i64 0] := rfl
  rw [tc] at ec
  obtain ⟨oc2,kc2⟩ := Ow.set oc1 (cntO 0)
  have kc3 : Kp h12 ((h12.psh (cntO 0)).set h12.size (cntO 0)) := Keeps.trans (n := h12.size) kc kc2
  unfold cntO at ec kc3 oc2
  have tz : ((0 : Nat) : Int) = 0 := rfl
  rw [tz] at ec kc3 oc2
  simp only [GR,evK,binV,intOp,strOp,shOp,unV,Nat.reduceLT,Nat.reduceEqDiff,Nat.reduceAdd,↓reduceIte,Nat.reduceLeDiff,reduceCtorEq,w135,r5_25,ec]
  generalize (h12.psh (.cells [.int .i64 0] 3 false false none)).set h12.size (.cells [.int .i64 0] 3 false false none) = h13 at *
  simp only [GR,evK,binV,intOp,strOp,shOp,unV,Nat.reduceLT,Nat.reduceEqDiff,Nat.reduceAdd,↓reduceIte,Nat.reduceLeDiff,reduceCtorEq,r5_26,s15]
  refine XC_of (records14 F (kc3.of gm12) (rs12.kp kc3).rs (by have := chain_len ch3; omega)) ?_
  rintro _ h14 ⟨tb3,sv3,rfl,htb3,gt14,cl14,k14⟩
  have o14 := Ow.newM (m1 := [(h12.size,cntO 0)]) (m2 := []) (by simpa [cntO] using oc2) k14 htb3 kc3.size gt14
  have k1214 := Kp.trans kc3 k14
  have hN1 : (rs.map fun r => (r.v,r.cs)).map (·.1) = rs.map Rc.v := by rw [List.map_map]; rfl
  have hN2 : (rs.map fun r => (r.v,r.cs)).map (·.2) = rs.map Rc.cs := by rw [List.map_map]; rfl
  have hNl : (rs.map fun r => (r.v,r.cs)).length = rs.length := List.length_map ..
  simp only [GR,evK,binV,intOp,strOp,shOp,unV,Nat.reduceLT,Nat.reduceEqDiff,Nat.reduceAdd,↓reduceIte,Nat.reduceLeDiff,reduceCtorEq]
  refine check5 F D (h0 := h12) (tb := tb3) (xb := h6.size) (cb := h12.size) (a := a) (nx := nx) (sv := vl sb3 sgs3.length) (sv' := sv3) (sgs := sgs3) (ob := ob) (N := rs.map fun r => (r.v,r.cs)) ?_ ?_ ?_ k1214.size (by simpa [boxO] using o14) cl14 k1214 (by rw [hNl]; exact g12) (fun b hb => by rw [hN1]; exact gN12 b hb) (fun h => by rw [hob h]; rfl) ?_ ?_ rs12 ch3 hlim ?_
  ·rfl
  ·exact s12
  ·rfl
  ·intro p hp
   obtain ⟨r,hr,rfl⟩ := List.mem_map.1 hp
   exact ⟨_,_,_,rfl,vl_elems (gr12 r hr),hrb r hr⟩
  ·rw [hN2,hrc,recs_sh,recs_sh,hsh3]
  ·intro h15 o15 k15'
   have k15 : Kp h12 h15 := k15'
   have kk15 : Keeps h1.size h1 h15 := Keeps.trans kk12 (k15.mono kk12.size)
   have gC := o15.at (i := h12.size) (o := cntO (rs.map fun r => (r.v,r.cs)).length) (by simp)
   rw [hNl] at gC
   unfold cntO at gC
   have gx15 := k15.of g12
   obtain ⟨xp,xc,xo,hxv⟩ := vl_shape ob rs.length (fun h => by rw [hob h]; rfl)
   unfold abx at gx15
   rw [hxv] at gx15
   have gb15 := (kk15.get h0.size hr0).trans g1
   have hee : ((rs.length : Int) == (rs.length : Int)) = true := by simp
   have e4 := put_at (ws := [.bool true]) (o := 0) gb15 (by simp) rfl rfl
   have t4 : setR [V.bool false] 0 [V.bool true] = [V.bool true] := rfl
   rw [t4] at e4
   have gz : (h15.set h0.size (.cells [.bool true] 4 false false none)).get h0.size = some (.cells [.bool true] 4 false false none) := hset_same (H.get_lt gb15) _
   have key : ∀ ρ : Nat → V,ρ 4 = .ptr (some (h0.size,0)) → Fin [.c 4 1 false] (fun r _ => r = .bool true) .ret (toL 159 ρ) (h15.set h0.size (.cells [.bool true] 4 false false none)) := by
    intro ρ hρ
    refine ⟨trivial,?_⟩
    rw [resVs_c (L := 159) (by decide) hρ gz]
    rfl
   simp only [GR,evK,binV,intOp,strOp,shOp,unV,Nat.reduceLT,Nat.reduceEqDiff,Nat.reduceAdd,↓reduceIte,Nat.reduceLeDiff,reduceCtorEq,r5_31,gC,s12,gx15,hee,s4,gb15,e4]
   exact (key _ s4).2
 ·rfl
 ·rfl
 ·rfl
end Go.AM.Wc
