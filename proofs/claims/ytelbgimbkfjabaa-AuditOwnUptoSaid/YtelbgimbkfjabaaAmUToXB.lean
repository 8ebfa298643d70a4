/- My own texts, laid for this claim. -/
import Derived.Test.YtelbgimbkfjabaaAmR8ToAmT
import Derived.WalkKit
import Derived.ProofKit
import Derived.OpenShut
import Derived.Deep.DeepHandedRow
import Derived.Lib.LaidTab
import Derived.WideKeyArgs
import Derived.Below
set_option linter.unusedSimpArgs false
set_option linter.unusedVariables false
namespace Go.AM
variable {P : Program} {ap : Ap}
theorem cFn_spec {fn : Func} {f : Fn} (hc : cFn P fn = some f) : fn.name ≠ "runtime.NumGoroutine" ∧ ∃ b c rs, fn.body = some b ∧ cC P b = some c ∧ cRV P fn.results.toList = some rs ∧ f = ⟨fn.ntmps, rs, c⟩ := by
 unfold cFn at hc
 split at hc
 ·cases hc
 ·rename_i hn
  refine ⟨by simpa using hn,?_⟩
  split at hc
  ·cases hc
  ·rename_i b hb
   split at hc <;> cases hc
   rename_i c rs h1 h2
   exact ⟨b,c,rs,hb,h1,h2,rfl⟩
theorem evFn_sound (hmix : P.follows .mixedOrders = true) (ha : ApOK P ap) {k : Nat} {g : Nat} {fn : Func} {f : Fn} (hg : P.funcs[g]? = some fn) (hc : cFn P fn = some f) {args : List V} {h : H} {v : V} {h' : H} (he : evFn P ap k f args h = some (v,h'))
  {m : Mp} {w : World} {xs : List Value} (hr : HR P m h w) (hx : VRL m args xs) (n : Nat) : CallsIn (FF none) n P g xs.toArray w (Post P m h w v h') := by
 obtain ⟨hnm,b,c,rs,h1,h2,h3,rfl⟩ := cFn_spec hc
 unfold evFn at he
 simp only at he
 split at he
 ·rename_i hlen
  refine callsIn_of_wp_marks hg h1 trivial ?_
  have cx : Cx P m h w (args ++ List.replicate (fn.ntmps - args.length) undefV) { tmps := xs.toArray ++ Array.replicate (fn.ntmps - xs.toArray.size) undef,defers := [] } := by
   refine ⟨?_,hr⟩
   simp only [TR,Array.toList_append,Array.toList_replicate,List.size_toArray,hx.length]
   exact hx.append (VRL.replicate VR.undef _)
  have hd : DefOK w.heap.size m h w [] := ⟨Nat.le_refl _,[],rfl,List.nodup_nil,by simp⟩
  have fin : ∀ (ex : Ex) (T' : List V) (h'' : H),(ex = .nrm ∨ ex = .ret) → evC P ap k none c (args ++ List.replicate (fn.ntmps - args.length) undefV,h) = some (ex,(T',h'')) → (resVs T' h'' rs).map (fun vs => (oneOr vs,h'')) = some (v,h') →
    b.wpIn (FF none) n P (bodyPostM (FF none) n P fn (Post P m h w v h')) { tmps := xs.toArray ++ Array.replicate (fn.ntmps - xs.toArray.size) undef,defers := [] } w := by
   intro ex T' h'' hex hev hres
   cases hrv : resVs T' h'' rs with
   | none => simp [hrv] at hres
   | some vs =>
    simp [hrv] at hres
    obtain ⟨rfl,rfl⟩ := hres
    refine code_sound (ro := none) (R := none) hmix ha b c h2 hev cx trivial hd fun m' w' a' hat => ?_
    have post : LeavesInM (FF none) n P fn a'.tmps (Post P m h w (oneOr vs) h'') a'.defers .returning w' := by
     obtain ⟨rs0,e1,e2,e3⟩ := hat.dfr.marks
     refine leaves_marks rs0 a'.defers w' e1 e2 (fun r hr => ⟨(e3 r hr).1,(e3 r hr).2.1⟩) hat.cx.hr hat.ext fun w2 k1 k2 => ?_
     obtain ⟨x,j1,j2⟩ := run_results k1 hat.cx.tr h3 hrv
     exact ⟨x,j1,m',x,rfl,j2,k1,k2⟩
    rcases hex with rfl | rfl <;> exact post
  split at he
  ·rename_i T' h'' hev
   exact fin .nrm T' h'' (.inl rfl) hev he
  ·rename_i T' h'' hev
   exact fin .ret T' h'' (.inr rfl) hev he
  ·cases he
 ·cases he
theorem zipSet_sound {m : Mp} : ∀ (ps : List Nat) (args : List V) (xs : List Value) (T : List V) (tl : List Value),VRL m T tl → VRL m args xs →
  VRL m (zipSet T ps args) ((ps.zip xs).foldl (fun l p => l.set p.1 p.2) tl)
 | [],args,xs,T,tl,h,_ => by simpa [zipSet] using h
 | p :: ps,[],xs,T,tl,h,h2 => by cases h2; simpa [zipSet] using h
 | p :: ps,v :: args,_,T,tl,h,h2 => by
  obtain ⟨y,ys,j1,j2,rfl⟩ := h2
  simpa [zipSet] using zipSet_sound ps args ys _ _ (VRL.set h j1 p) j2
theorem foldl_set_list : ∀ (l : List (Nat × Value)) (t : Array Value),(l.foldl (fun (t : Array Value) p => t.setIfInBounds p.1 p.2) t).toList = l.foldl (fun l p => l.set p.1 p.2) t.toList
 | [],_ => rfl
 | p :: l,t => by
  simp only [List.foldl_cons]
  rw [foldl_set_list l,Array.toList_setIfInBounds]
theorem evRound_sound (hmix : P.follows .mixedOrders = true) (ha : ApOK P ap) {k : Nat} {l : Nat} {args : List V} {h : H} {v : V} {h' : H} (he : evRound P ap k l args h = some (v,h'))
  {m : Mp} {w : World} {xs : List Value} {R sh e : Nat} (hr : HR P m h w) (hm : m l = some (R,sh,e)) (hx : VRL m args xs) :
  ∃ L : Loop,w.heap[R]? = some (.loop L) ∧ xs.length = L.params.size ∧
   ∀ n,RoundIn (FF none) n P R L.fn ((L.params.zip xs.toArray).foldl (fun tmps (t,a) => tmps.setIfInBounds t a) L.tmps) L.assign L.body w (Post P m h w v h') := by
 unfold evRound at he
 split at he
 ·rename_i st pd T ps as b hg
  split at he
  ·rename_i hlen
   obtain ⟨L,q1,q2,q3,q4,q5,q6,q7⟩ := hr.loop hg hm
   refine ⟨L,q1,by rw [hx.length,hlen,q5]; simp,fun n => ?_⟩
   have cx : Cx P m h w (zipSet T ps args) { tmps := (L.params.zip xs.toArray).foldl (fun tmps (t,a) => tmps.setIfInBounds t a) L.tmps,defers := [] } := by
    refine ⟨?_,hr⟩
    have := zipSet_sound ps args xs T L.tmps.toList q4 hx
    rw [← foldl_set_list] at this
    simp only [TR]
    rw [← Array.foldl_toList,Array.toList_zip,q5]
    exact this
   have hd : DefOK 0 m h w [] := ⟨Nat.zero_le _,[],rfl,List.nodup_nil,by simp⟩
   split at he
   ·rename_i T1 h1 hev
    split at he
    ·rename_i pd1 T2 ps2 as2 b2 hg1
     split at he
     ·rename_i ex T3 h2 hev2
      split at he
      ·rename_i st3 pd3 T4 ps4 as4 b4 hg2
       refine roundIn_of_wpIn (F := FF none) trivial ?_
       refine code_sound (ro := some l) (R := some R) hmix ha L.assign as q6 hev cx ⟨sh,e,hm⟩ hd fun m1 w1 a1 hat => ?_
       have hm1 := hat.ext.sub _ _ hm
       obtain ⟨L1,r1,r2,r3,r4,r5,r6,r7⟩ := hat.cx.hr.loop hg1 hm1
       obtain ⟨s1,s2⟩ := hat.cx.hr.set (o' := .loop .busy pd1 T2 ps2 as2 b2) hg1 rfl hm1 (Upd.setObj r1 (ob' := .loop { L1 with state := .busy })) ⟨_,rfl,rfl,r3,r4,r5,r6,r7⟩
       refine ⟨{ w1 with heap := w1.heap.setIfInBounds R (.loop { L1 with state := .busy }) },?_,?_⟩
       ·simp [Instr.beginRound,run_getLoop (P := P) r1,run_setObj (P := P) r1 (ob' := .loop { L1 with state := .busy }) (by intros; simp),r2]
       ·have hcx2 : Cx P m1 (h1.set l (.loop .busy pd1 T2 ps2 as2 b2)) { w1 with heap := w1.heap.setIfInBounds R (.loop { L1 with state := .busy }) } T1 a1 := ⟨hat.cx.tr,s1⟩
        refine code_sound (ro := some l) (R := some R) (B := 0) hmix ha L.body b q7 hev2 hcx2 ⟨sh,e,hm1⟩ (hat.dfr.ext s2) fun m2 w2 a2 hat2 => ?_
        have hm2 := hat2.ext.sub _ _ hm1
        obtain ⟨L2,u1,u2,u3,u4,u5,u6,u7⟩ := hat2.cx.hr.loop hg2 hm2
        have hext := (hat.ext.trans s2).trans hat2.ext
        have fin : ∀ (jump : Option Code) (pj : Option C) (stj : LoopState),pendR pj jump → stj = (if jump.isNone then .ready else .done) →
          ∃ v' w',(Instr.endRound R jump).run P w2 = .ok v' w' ∧ Post P m h w (.bool jump.isNone) (h2.set l (.loop stj pj T4 ps4 as4 b4)) (.returned v') w' := by
         intro jump pj stj hpj hst
         obtain ⟨t1,t2⟩ := hat2.cx.hr.set (o' := .loop stj pj T4 ps4 as4 b4) hg2 rfl hm2 (Upd.setObj u1 (ob' := .loop { L2 with state := if jump.isNone then .ready else .done,pending := jump })) ⟨_,rfl,hst.symm,hpj,u4,u5,u6,u7⟩
         refine ⟨.bool jump.isNone,_,?_,m2,.bool jump.isNone,rfl,rfl,t1,hext.trans t2⟩
         have hso := run_setObj (P := P) u1 (ob' := .loop { L2 with state := if jump.isNone then .ready else .done,pending := jump }) (by intros; simp)
         simp only [Instr.endRound,Sem.run_bind,run_getLoop (P := P) u1,Result.andThen_ok]
         rw [hso]
         rfl
        cases ex with
        | nrm => cases he; exact fin none none .ready trivial rfl
        | ret => cases he; exact fin (some .ret) (some .ret) .done trivial rfl
        | exit id => cases he; exact fin (some (.exit id)) (some (.exit id)) .done rfl rfl
      ·cases he
     ·cases he
    ·cases he
   ·cases he
  ·cases he
 ·cases he
def PrimOK (P : Program) (prim : Nat → Option (List V → H → Option (V × H))) : Prop :=
 ∀ g f, prim g = some f → (∃ fn, P.funcs[g]? = some fn ∧ fn.body.isNone = false ∧ fn.name ≠ "runtime.NumGoroutine") ∧
  ∀ args h v h' m w (xs : List Value),f args h = some (v,h') → HR P m h w → VRL m args xs → ∀ n,CallsIn (FF none) n P g xs.toArray w (Post P m h w v h')
theorem ap_sound (hmix : P.follows .mixedOrders = true) {prim : Nat → Option (List V → H → Option (V × H))} (hp : PrimOK P prim) : ∀ n,ApOK P (Go.AM.ap P (envOf P prim) n)
 | 0 => ⟨fun h => by simp [Go.AM.ap] at h,fun h => by simp [Go.AM.ap] at h,fun h => by simp [Go.AM.ap] at h⟩
 | n + 1 => by
  have ih := ap_sound hmix hp n
  refine ⟨?_,?_,?_⟩
  ·intro g fs cs args h v h' m w xs he hr hx
   simp only [Go.AM.ap] at he
   split at he
   ·rename_i f hf
    obtain ⟨k1,k2⟩ := hp g f hf
    exact ⟨k1,k2 _ _ _ _ _ _ _ he hr hx⟩
   ·split at he
    ·rename_i fnc hfn
     simp only [envOf] at hfn
     cases hg : P.funcs[g]? with
     | none => simp [hg] at hfn
     | some fn =>
      simp [hg] at hfn
      obtain ⟨hnm,b,c,rs,h1,h2,h3,h4⟩ := cFn_spec hfn
      exact ⟨⟨fn,rfl,by simp [h1],hnm⟩,evFn_sound hmix ih hg hfn he hr hx⟩
    ·cases he
  ·intro l args h v h' m w xs R sh e he hr hm hx
   simp only [Go.AM.ap] at he
   exact evRound_sound hmix ih he hr hm hx
  ·intro f args h r he
   simp only [Go.AM.ap] at he
   cases f with
   | func g fs cs => exact .inl ⟨g,fs,cs,rfl⟩
   | yield l => exact .inr ⟨l,rfl⟩
   | _ => cases he
end Go.AM
namespace Go.AM
variable {P : Program} {ap : Ap}
def nexts (T : List V) (h : H) (x : A) : Option (List (V × H)) := match x.ev T with
 | some (.ptr (some (r,0))) => match h.get r with
  | some (.mapIter (some m) since seen last) => match h.get m with
   | some (.map es clock) =>
    if !seen.isEmpty && !es.isEmpty && es.all (fun e => decide (e.2.2 ≥ last)) then none else
    let left := es.filter fun e => !seen.contains e.2.2
    let old := left.filter fun e => decide (e.2.2 < since)
    let new := left.filter fun e => decide (e.2.2 ≥ since)
    if old.isEmpty || !new.isEmpty then none else
    some (old.map fun e => (.tup [.bool true,e.1,e.2.1],h.set r (.mapIter (some m) since (seen ++ [e.2.2]) clock)))
   | _ => none
  | _ => none
 | _ => none
def ncR (P : Program) (ap : Ap) (ops : List O) (s : St) (R : St → Prop) : Prop := match evOs P ap ops s.1 s.2 with
 | some s' => R s'
 | none => match ops with
  | o :: rest => match o.op,o.guard with
   | .next false x,none => match nexts s.1 s.2 x with
    | some l => ∀ p ∈ l,match evOs P ap rest (putV s.1 o.dst p.1) p.2 with
     | some s' => R s'
     | none => False
    | none => False
   | _,_ => False
  | [] => False
def nIter (f : St → (Ex → St → Prop) → Prop) : Nat → St → (Ex → St → Prop) → Prop
 | 0,_,_ => False
 | j + 1,s,R => f s fun ex s' => match ex with
  | .nrm => nIter f j s' R
  | ex => R ex s'
def ncC (P : Program) (ap : Ap) (k : Nat) (ro : Option Nat) : C → St → (Ex → St → Prop) → Prop
 | .seq a b,s,R => ncC P ap k ro a s fun ex s' => match ex with
  | .nrm => ncC P ap k ro b s' R
  | ex => R ex s'
 | .cond c a b,s,R => match c.ev s.1 with
  | some (.bool t) => if t then ncC P ap k ro a s R else ncC P ap k ro b s R
  | _ => False
 | .block id b,s,R => ncC P ap k ro b s fun ex s' => match ex with
  | .exit id' => if id' = id then R .nrm s' else R (.exit id') s'
  | ex => R ex s'
 | .loop b,s,R => nIter (ncC P ap k ro b) k s R
 | .region ops,s,R => ncR P ap ops s fun s' => R .nrm s'
 | c,s,R => match evC P ap k ro c s with
  | some (ex,s') => R ex s'
  | none => False
theorem next_any {m : Mp} {h : H} {w : World} {T : List V} {a : Act} {o : Oper} (cx : Cx P m h w T a) {x : Operand} (ho : o.op = .next x false) {y : A} (h1 : cA P x = some y) {l : List (V × H)} (hl : nexts T h y = some l) :
  ∃ v h',(v,h') ∈ l ∧ ∃ m' w' z,HR P m' h' w' ∧ Ext m h w m' h' w' ∧ VR m' v z ∧ (execOp a.eval o).run P w = .ok (.value z) w' := by
 have he : execOp a.eval o = (do pure (Next.value (← Instr.next (a.eval x) false o.type))) := by simp [execOp,ho]
 unfold nexts at hl
 split at hl
 ·rename_i i e1
  obtain ⟨R,sh,ex,hm,hx⟩ := cx.av h1 e1
  split at hl
  ·rename_i mi since seen st hg
   obtain ⟨q,rfl,g1,b,sh2,e2,hmi,rfl⟩ := cx.hr.iter hg hm
   have hob : (getObj R).run P w = .ok (.mapIter (some b) since seen.toArray st) w := run_getObj g1 (by intros; simp)
   split at hl
   ·rename_i es cl hg2
    obtain ⟨es',g2,g3⟩ := cx.hr.map hg2 hmi
    have hobm : (getObj b).run P w = .ok (.map es' cl) w := run_getObj g2 (by intros; simp)
    split at hl
    ·cases hl
    ·rename_i hcond
     have hl1 := g3.filter (f := fun e => !seen.contains e.2.2) (g := fun y => !seen.toArray.contains y.born) (fun e y hb => by simp [hb])
     have ho1 := hl1.filter (f := fun e => decide (e.2.2 < since)) (g := fun y => decide (y.born < since)) (fun e y hb => by simp [hb])
     have hn1 := hl1.filter (f := fun e => decide (e.2.2 ≥ since)) (g := fun y => decide (y.born ≥ since)) (fun e y hb => by simp [hb])
     have hco : (!seen.toArray.isEmpty && !es'.isEmpty && es'.all (fun y => decide (y.born ≥ st))) = false := by
      have e1 : seen.toArray.isEmpty = seen.isEmpty := by simp
      have e2 : es'.isEmpty = es.isEmpty := by
       have hlen : es'.size = es.length := by simpa using g3.length
       cases es <;> simp [Array.isEmpty,hlen]
      have e3 : es'.all (fun y => decide (y.born ≥ st)) = es.all (fun e => decide (e.2.2 ≥ st)) := by
       rw [← Array.all_toList]; exact g3.all (fun e y hb => by simp [hb])
      rw [e1,e2,e3]; simpa using hcond
     simp only at hl
     split at hl
     ·cases hl
     ·rename_i hne
      cases hl
      simp only [Bool.or_eq_true,Bool.not_eq_true',not_or,Bool.not_eq_false] at hne
      obtain ⟨hold,hnew⟩ := hne
      generalize hO : (es'.filter fun y => !seen.toArray.contains y.born).filter (fun y => decide (y.born < since)) = L
      have hLl : L.toList = ((es'.toList.filter fun y => !seen.toArray.contains y.born).filter (fun y => decide (y.born < since))) := by
       rw [← hO,Array.toList_filter,Array.toList_filter]
      have a2 : (es'.filter fun y => !seen.toArray.contains y.born).filter (fun y => decide (y.born ≥ since)) = #[] := by
       apply Array.ext'
       rw [Array.toList_filter,Array.toList_filter]
       have := List.isEmpty_iff.1 hnew
       rw [this] at hn1
       exact hn1
      rw [← hLl] at ho1
      have hlen := ho1.length
      have hL0 : L.size ≠ 0 := by
       rw [← Array.length_toList,hlen]
       intro h0
       exact hold (List.isEmpty_iff.2 (List.length_eq_zero_iff.1 h0))
      have hch : ∃ (j : Nat) (w1 : World),j < L.size ∧ (w1 = w ∨ w1 = w.drew) ∧ (choose (Question.mapNext L.size)).run P w = .ok j w1 := by
       by_cases hf : L.size ≤ 1
       ·exact ⟨0,w,by omega,Or.inl rfl,by simp [choose,Sem.run,Question.forced,hf]⟩
       ·exact ⟨_,w.drew,Nat.mod_lt _ (by omega),Or.inr rfl,by
         simp only [choose,Sem.run,Question.forced,decide_eq_true_eq,hf,if_false,Question.cut]
         rfl⟩
      obtain ⟨j,w1,hj,hal,hrun⟩ := hch
      have get : ∀ {os : List (V × V × Nat)} {ys : List MapEntry} (j : Nat),ER m os ys → j < ys.length → ∃ e y,os[j]? = some e ∧ ys[j]? = some y ∧ VR m e.1 y.key ∧ VR m e.2.1 y.val ∧ y.born = e.2.2 := by
       intro os
       induction os with
       | nil => intro ys j hE hj; cases hE; simp at hj
       | cons e0 os ih =>
        intro ys j hE hj
        obtain ⟨y,ys',z1,z2,z3,z4,rfl⟩ := hE
        cases j with
        | zero => exact ⟨e0,y,rfl,rfl,z1,z2,z3⟩
        | succ j => exact ih j z4 (by simpa using hj)
      obtain ⟨e,y,y1,y2,y3,y4,y5⟩ := get j ho1 (by rw [Array.length_toList]; exact hj)
      rw [Array.getElem?_toList] at y2
      have hheap : w1.heap = w.heap := by rcases hal with rfl | rfl <;> rfl
      have hg1' : w1.heap[R]? = some (.mapIter (some b) since seen.toArray st) := by rw [hheap]; exact g1
      have hr1 : HR P m h w1 := by
       rcases hal with rfl | rfl
       ·exact cx.hr
       ·exact ⟨cx.hr.ok,cx.hr.dom,cx.hr.glob,cx.hr.blk,cx.hr.obj,cx.hr.inj⟩
      have hx1 : Ext m h w m h w1 := by
       rcases hal with rfl | rfl
       ·exact Ext.refl _ _ _
       ·exact ⟨Sub.refl m,Nat.le_refl _,Nat.le_refl _,fun _ _ _ => rfl,fun _ _ h => h,rfl,rfl,rfl,fun _ _ h => h⟩
      obtain ⟨k1,k2⟩ := hr1.set (o' := .mapIter (some mi) since (seen ++ [e.2.2]) cl) hg rfl hm (Upd.setObj (ob' := .mapIter (some b) since (seen.toArray.push y.born) cl) hg1')
       ⟨rfl,some b,by rw [y5]; simp,b,sh2,e2,hmi,rfl⟩
      refine ⟨_,_,List.mem_map.2 ⟨e,List.mem_of_getElem? y1,rfl⟩,m,_,.tuple #[.bool true,y.key,y.val],k1,hx1.trans k2,⟨[_,_,_],.cons rfl (.cons y3 (.one y4)),rfl⟩,?_⟩
      rw [he,hx]
      have hso : ∀ ob,(setObj R ob).run P w1 = .ok () { w1 with heap := w1.heap.setIfInBounds R ob } := fun ob => run_setObj hg1' (by intros; simp)
      have hemp : L.isEmpty = false := by simp [Array.isEmpty,hL0]
      simp only [Instr.next,Nat.add_zero,Sem.run_bind,hob,hobm,Result.andThen_ok,hco,Bool.false_eq_true,if_false,hO,a2,hemp,Array.append_empty,Array.empty_append,Array.size_map,hrun,Array.getElem?_map,y2,Option.map_some,hso,Sem.run_pure]
   ·cases hl
  ·cases hl
 ·cases hl
end Go.AM
namespace Go.AM
variable {P : Program} {ap : Ap}
theorem cBuiltin_next {b : Builtin} {xs : List Operand} {ts : List TypeId} {s : Bool} {x : A} (h : cBuiltin P b xs ts = some (.next s x)) : False := by
 unfold cBuiltin at h
 repeat' split at h
 all_goals try (cases h; done)
 all_goals simp only [Option.map_eq_some_iff] at h
 all_goals try (obtain ⟨y,h1,h2⟩ := h; cases h2; done)
theorem cK_next {op : Op} {s : Bool} {x : A} (h : cK P op = some (.next s x)) : ∃ y,op = .next y s ∧ cA P y = some x := by
 cases op
 all_goals simp only [cK,Option.map_eq_some_iff] at h
 all_goals try (obtain ⟨y,h1,h2⟩ := h; cases h2; exact ⟨_,rfl,h1⟩)
 all_goals try (obtain ⟨y,h1,h2⟩ := h; cases h2; done)
 all_goals try (cases h; done)
 all_goals repeat' split at h
 all_goals try (obtain ⟨y,h1,h2⟩ := h; cases h2; done)
 all_goals try (cases h; done)
 all_goals try (exact (cBuiltin_next h).elim)
 all_goals try simp only [Option.map_eq_some_iff] at h
 all_goals try (obtain ⟨y,h1,h2⟩ := h; cases h2; done)
 all_goals try (rename_i hq; cases hq; done)
 all_goals try contradiction
theorem ncR_sound (ha : ApOK P ap) {ops : Array Oper} {m0 : Mp} {h0 : H} {w0 : World} {ds : List Deferred} {ro : Option Nat} {n : Nat} {Q : Exit → Act → World → Prop} {R : St → Prop}
  (hQ : ∀ s' m' w' a',R s' → Mid P m0 h0 w0 m' s'.2 w' s'.1 ds a' → Q .normal a' w') {os : List Oper} {l : List O} (hl : OpsOK P (ops.toList.map (·.dst)) os l) {T : List V} {h : H} (he : ncR P ap l (T,h) R)
  {m : Mp} {w : World} {a : Act} (md : Mid P m0 h0 w0 m h w T ds a) : wpListIn (FF ro) n P ops Q os a w := by
 unfold ncR at he
 split at he
 ·rename_i s' e
  exact ops_sound ha (fun m' w' a' md' => hQ s' m' w' a' he md') os l hl T h e m w a md
 ·split at he
  ·rename_i o rest
   split at he
   ·rename_i x eop egd
    split at he
    ·rename_i lst hn
     cases os with
     | nil => cases hl
     | cons o' os' =>
      obtain ⟨k,g,oo,l',h1,h2,h3,h4,h5,h6,hoo⟩ := hl
      cases hoo
      rw [eop] at h3
      subst h3
      rw [egd] at h4
      subst h4
      obtain ⟨y,ho,hy⟩ := cK_next h1
      obtain ⟨v,h',hmem,m',w',z,k1,k2,k3,k4⟩ := next_any md.cx ho hy hn
      simp only [wpListIn]
      rw [wanted_sound md.cx.tr h2]
      rw [if_pos (show wantV T none = true from rfl)]
      refine ⟨fun _ _ => trivial,?_⟩
      rw [Oper.semAt_eq _ _ _ (cK_noDefer h1),k4]
      have hp := he (v,h') hmem
      simp only at hp
      split at hp
      ·rename_i s' e
       rw [h5] at e
       exact ops_sound ha (fun m' w' a' md' => hQ s' m' w' a' hp md') os' _ h6 _ _ e m' w' _ (md.put k3 k1 k2 o'.dst)
      ·exact hp.elim
    ·exact he.elim
   ·exact he.elim
  ·exact he.elim
theorem ncC_sound (hmix : P.follows .mixedOrders = true) (ha : ApOK P ap) {k : Nat} {ro R' : Option Nat} {n : Nat} {B : Nat} :
  ∀ (c : Code) (cc : C),cC P c = some cc → ∀ {Q : Exit → Act → World → Prop} {R : Ex → St → Prop} {m : Mp} {h : H} {w : World} {T : List V} {a : Act},
   ncC P ap k ro cc (T,h) R → Cx P m h w T a → RoR m ro R' → DefOK B m h w a.defers →
   (∀ ex s' m' w' a',R ex s' → At P B m h w m' s'.2 w' s'.1 a' → Q (exR ex) a' w') → c.wpIn (FF R') n P Q a w := by
 intro c
 have det : ∀ {c : Code} {cc : C} {Q : Exit → Act → World → Prop} {R : Ex → St → Prop} {m : Mp} {h : H} {w : World} {T : List V} {a : Act},cC P c = some cc → (match evC P ap k ro cc (T,h) with | some (ex,s') => R ex s' | none => False) → Cx P m h w T a → RoR m ro R' → DefOK B m h w a.defers →
   (∀ ex s' m' w' a',R ex s' → At P B m h w m' s'.2 w' s'.1 a' → Q (exR ex) a' w') → c.wpIn (FF R') n P Q a w := by
  intro c cc Q R m h w T a hc he cx hro hd hQ
  split at he
  ·rename_i ex s' e
   exact code_sound hmix ha c cc hc (ex := ex) (T' := s'.1) (h' := s'.2) e cx hro hd fun m' w' a' hat => hQ ex s' m' w' a' he hat
  ·exact he.elim
 induction c with
 | skip =>
  intro cc hc Q R m h w T a he cx hro hd hQ
  have hc0 := hc
  simp only [cC] at hc; cases hc
  exact det hc0 he cx hro hd hQ
 | label l =>
  intro cc hc Q R m h w T a he cx hro hd hQ
  have hc0 := hc
  simp only [cC] at hc; cases hc
  exact det hc0 he cx hro hd hQ
 | exit id =>
  intro cc hc Q R m h w T a he cx hro hd hQ
  have hc0 := hc
  simp only [cC] at hc; cases hc
  exact det hc0 he cx hro hd hQ
 | ret =>
  intro cc hc Q R m h w T a he cx hro hd hQ
  have hc0 := hc
  simp only [cC] at hc; cases hc
  exact det hc0 he cx hro hd hQ
 | goto l => intro cc hc; simp [cC] at hc
 | refuse s =>
  intro cc hc Q R m h w T a he cx hro hd hQ
  have hc0 := hc
  simp only [cC] at hc; cases hc
  exact det hc0 he cx hro hd hQ
 | region id ops draw =>
  intro cc hc Q R m h w T a he cx hro hd hQ
  have hc0 := hc
  simp only [cC] at hc
  cases draw with
  | false =>
   unfold cRegion at hc
   split at hc
   ·cases hc
   ·rename_i l hl
    simp only [Bool.false_eq_true,if_false] at hc
    cases hc
    exact wpIn_region_list (ncR_sound ha (R := fun s' => R .nrm s') (fun s' m' w' a' hr md => hQ .nrm s' m' w' a' hr ⟨md.cx,md.ext,by rw [md.defers]; exact hd.ext md.ext⟩) (cOsFrom_ok _ _ _ hl) he ⟨cx,Ext.refl _ _ _,rfl⟩)
  | true =>
   obtain ⟨l,rfl⟩ : ∃ l,cc = .draw l := by
    unfold cRegion at hc
    split at hc
    ·cases hc
    ·simp only [if_true] at hc
     split at hc
     ·simp only [Option.some.injEq] at hc
      exact ⟨_,hc.symm⟩
     ·cases hc
   exact det hc0 he cx hro hd hQ
 | rangeFunc g ps x y ihx ihy =>
  intro cc hc Q R m h w T a he cx hro hd hQ
  have hc0 := hc
  simp only [cC] at hc
  split at hc <;> cases hc
  exact det hc0 he cx hro hd hQ
 | scope c ih =>
  intro cc hc Q R m h w T a he cx hro hd hQ
  simp only [cC] at hc
  refine wpIn_scope_straight (ih cc hc he cx hro hd fun ex s' m' w' a' hr hat => ?_)
  have := hQ ex s' m' w' a' hr hat
  cases ex <;> exact this
 | cond c x y ihx ihy =>
  intro cc hc Q R m h w T a he cx hro hd hQ
  simp only [cC] at hc
  split at hc <;> cases hc
  rename_i c' x' y' h1 h2 h3
  simp only [ncC] at he
  split at he
  ·rename_i t e1
   refine wpIn_cond (cx.av h1 e1) ?_
   cases t with
   | true => exact ihx x' h2 (by simpa using he) cx hro hd hQ
   | false => exact ihy y' h3 (by simpa using he) cx hro hd hQ
  ·exact he.elim
 | seq x y ihx ihy =>
  intro cc hc Q R m h w T a he cx hro hd hQ
  simp only [cC] at hc
  split at hc <;> cases hc
  rename_i x' y' h1 h2
  simp only [ncC] at he
  refine wpIn_seq (ihx x' h1 he cx hro hd fun ex s1 m1 w1 a1 hr hat => ?_)
  obtain ⟨T1,hh1⟩ := s1
  cases ex with
  | nrm => exact ihy y' h2 hr hat.cx (hro.ext hat.ext.sub) hat.dfr fun ex s' m' w' a' hr' hat' => hQ ex s' m' w' a' hr' ⟨hat'.cx,hat.ext.trans hat'.ext,hat'.dfr⟩
  | exit id => exact hQ (.exit id) _ m1 w1 a1 hr hat
  | ret => exact hQ .ret _ m1 w1 a1 hr hat
 | block id c ih =>
  intro cc hc Q R m h w T a he cx hro hd hQ
  simp only [cC] at hc
  cases h1 : cC P c with
  | none => simp [h1] at hc
  | some c' =>
   simp [h1] at hc; subst hc
   simp only [ncC] at he
   refine wpIn_block (ih c' h1 he cx hro hd fun ex s1 m1 w1 a1 hr hat => ?_)
   cases ex with
   | nrm => exact hQ .nrm s1 m1 w1 a1 hr hat
   | ret => exact hQ .ret s1 m1 w1 a1 hr hat
   | exit id' =>
    simp only at hr
    split at hr
    ·rename_i hid
     simp only [exR,Exit.inBlock,hid,if_true]
     exact hQ .nrm s1 m1 w1 a1 hr hat
    ·rename_i hid
     simp only [exR,Exit.inBlock,hid,if_false]
     exact hQ (.exit id') s1 m1 w1 a1 hr hat
 | loop c ih =>
  intro cc hc Q R m h w T a he cx hro hd hQ
  simp only [cC] at hc
  cases h1 : cC P c with
  | none => simp [h1] at hc
  | some c' =>
   simp [h1] at hc; subst hc
   simp only [ncC] at he
   refine wpIn_loop_rounds k ?_
   have key : ∀ (j : Nat) {m1 : Mp} {h1' : H} {w1 : World} {T1 : List V} {a1 : Act},nIter (ncC P ap k ro c') j (T1,h1') R → At P B m h w m1 h1' w1 T1 a1 → Code.roundsIn (FF R') n P c Q j a1 w1 := by
    intro j
    induction j with
    | zero => intro m1 h1' w1 T1 a1 hi hat; exact hi.elim
    | succ j ihj =>
     intro m1 h1' w1 T1 a1 hi hat
     simp only [nIter] at hi
     rw [roundsIn_succ]
     refine ih c' h1 hi hat.cx (hro.ext hat.ext.sub) hat.dfr fun ex s2 m2 w2 a2 hr hat2 => ?_
     obtain ⟨T2,h2⟩ := s2
     have hat3 : At P B m h w m2 h2 w2 T2 a2 := ⟨hat2.cx,hat.ext.trans hat2.ext,hat2.dfr⟩
     cases ex with
     | nrm => exact ihj hr hat3
     | exit id => exact hQ (.exit id) _ m2 w2 a2 hr hat3
     | ret => exact hQ .ret _ m2 w2 a2 hr hat3
   exact key k he ⟨cx,Ext.refl _ _ _,hd⟩
def ncFn (P : Program) (ap : Ap) (k : Nat) (f : Fn) (args : List V) (h : H) (Q : V → H → Prop) : Prop :=
 args.length ≤ f.ntmps ∧ ncC P ap k none f.body (args ++ List.replicate (f.ntmps - args.length) undefV,h) fun ex s' => (ex = .nrm ∨ ex = .ret) ∧ match resVs s'.1 s'.2 f.results with
  | some vs => Q (oneOr vs) s'.2
  | none => False
theorem ncFn_sound (hmix : P.follows .mixedOrders = true) (ha : ApOK P ap) {k : Nat} {g : Nat} {fn : Func} {f : Fn} (hg : P.funcs[g]? = some fn) (hc : cFn P fn = some f) {args : List V} {h : H} {R : V → H → Prop} (he : ncFn P ap k f args h R)
  {m : Mp} {w : World} {xs : List Value} (hr : HR P m h w) (hx : VRL m args xs) (n : Nat) : CallsIn (FF none) n P g xs.toArray w fun e w' => ∃ v h',R v h' ∧ Post P m h w v h' e w' := by
 obtain ⟨hnm,b,c,rs,h1,h2,h3,rfl⟩ := cFn_spec hc
 obtain ⟨hlen,he⟩ := he
 refine callsIn_of_wp_marks hg h1 trivial ?_
 have cx : Cx P m h w (args ++ List.replicate (fn.ntmps - args.length) undefV) { tmps := xs.toArray ++ Array.replicate (fn.ntmps - xs.toArray.size) undef,defers := [] } := by
  refine ⟨?_,hr⟩
  simp only [TR,Array.toList_append,Array.toList_replicate,List.size_toArray,hx.length]
  exact hx.append (VRL.replicate VR.undef _)
 have hd : DefOK w.heap.size m h w [] := ⟨Nat.le_refl _,[],rfl,List.nodup_nil,by simp⟩
 refine ncC_sound (ro := none) (R' := none) hmix ha b c h2 he cx trivial hd fun ex s' m' w' a' hp hat => ?_
 obtain ⟨hex,hp⟩ := hp
 split at hp
 ·rename_i vs hrv
  have post : LeavesInM (FF none) n P fn a'.tmps (fun e w' => ∃ v h',R v h' ∧ Post P m h w v h' e w') a'.defers .returning w' := by
   obtain ⟨rs0,e1,e2,e3⟩ := hat.dfr.marks
   refine leaves_marks rs0 a'.defers w' e1 e2 (fun r hr => ⟨(e3 r hr).1,(e3 r hr).2.1⟩) hat.cx.hr hat.ext fun w2 k1 k2 => ?_
   obtain ⟨x,j1,j2⟩ := run_results k1 hat.cx.tr h3 hrv
   exact ⟨x,j1,_,_,hp,m',x,rfl,j2,k1,k2⟩
  rcases hex with rfl | rfl <;> exact post
 ·exact hp.elim
end Go.AM
namespace Go.AM
open Go.ChangeShapes Go.WideShapes Go.RowKit
variable {P : Program}
def map0 (P : Program) : Mp := fun i => if i < P.globals.size then some (i,0,0) else none
def ints (k : IntKind) (l : List Int) : List V := l.map fun n => .int k n
theorem VRL_ints (m : Mp) (k : IntKind) (l : List Int) : VRL m (ints k l) (l.map fun z => Value.int k z) := by
 induction l with
 | nil => rfl
 | cons a l ih => exact VRL.cons rfl ih
theorem HR.init {h0 : H} {W : World} (hk : h0.ok) (hs : h0.size = P.globals.size) (hW : P.globals.size ≤ W.heap.size)
  (hob : ∀ i o,h0.get i = some o → o = .dead ∨ ∃ k l ty,o = .cells (ints k l) ty false true none ∧ W.heap[i]? = some (.cells (l.map fun z => Value.int k z).toArray ty)) : HR P (map0 P) h0 W where
 ok := hk
 dom := fun i x hx => by unfold map0 at hx; split at hx <;> first | (rw [hs]; assumption) | cases hx
 glob := fun g hg => by simp [map0,hg]
 blk := fun i r sh e hm => by unfold map0 at hm; split at hm <;> cases hm; omega
 obj := fun i o hg hl => by
  have hi := H.get_lt hg
  rw [hs] at hi
  rcases hob i o hg with rfl | ⟨k,l,ty,rfl,hw⟩
  ·cases hl
  ·exact ⟨i,0,0,_,by simp [map0,hi],hw,OR.closed (VRL_ints _ k l)⟩
 inj := fun i j o o' r sh e sh' e' _ _ _ _ h1 h2 => by
  unfold map0 at h1 h2
  split at h1 <;> split at h2 <;> cases h1 <;> cases h2 <;> rfl
theorem calls_of_ap (hmix : P.follows .mixedOrders = true) {prim : Nat → Option (List V → H → Option (V × H))} (hp : PrimOK P prim) {n g : Nat} {vs : List V} {xs : List Value} {h0 h' : H} {v : V} {m : Mp} {W : World}
  (he : ap P (envOf P prim) n (.func g [] []) vs h0 = some (v,h')) (hr : HR P m h0 W) (hno : ∀ i o,h0.get i = some o → o.mut = false) (hx : VRL m vs xs) :
  Calls P g xs.toArray W fun e w' => ∃ m' x,e = .returned x ∧ VR m' v x ∧ Below W.heap.size W w' := by
 have hA := (ap_sound hmix hp n).fn he hr (xs := xs) (by simpa using hx)
 have hc := callsIn_wide.1 (show CallsIn Fence.wide 0 P g xs.toArray W _ from hA.2 0)
 refine hc.mono fun e w' ⟨m',x,h1,h2,h3,h4⟩ => ⟨m',x,h1,h2,h4.os,h4.tape,h4.output,h4.wsize,fun k hk => h4.frame k hk ?_⟩
 rintro ⟨i,o,sh,e,hg,hm,_⟩
 rw [hno i o hg] at hm; cases hm
theorem noPrim : PrimOK P (fun _ => none) := fun g f h => by cases h
section
variable {H' : Type} {enc : TypeId × Value → H'}
theorem trodAll_keeps (hl : laidOutB P = true) {W W' : World} {sp' : Nat → Bool} : ∀ {ts : List TypeId} {vs : List Value} {ds : List (DataW H')} {ps : List MemPlace},(∀ t ∈ ts,t < P.types.size ∧ P.readableRec t = true) →
  DataW.TrodAll enc P W 0 (fun _ => true) true ts vs ds ps → (∀ p ∈ ps,W.sameAt W' p) → (∀ p ∈ ps,sp' p.block = true) → DataW.TrodAll enc P W' 0 sp' true ts vs ds ps
 | [],[],[],_,_,h,_,_ => h
 | t :: ts,_ :: _,_ :: _,_,hT,⟨p,q,h1,h2,e⟩,h3,h4 =>
  ⟨p,q,WideElems.Trod_stays hl (hT t (by simp)).2 (hT t (by simp)).1 h1 (fun x hx => h3 x (by rw [e]; exact List.mem_append_left _ hx)) (fun x hx => h4 x (by rw [e]; exact List.mem_append_left _ hx)),
   trodAll_keeps hl (fun t ht => hT t (by simp [ht])) h2 (fun x hx => h3 x (by rw [e]; exact List.mem_append_right _ hx)) (fun x hx => h4 x (by rw [e]; exact List.mem_append_right _ hx)),e⟩
theorem post_true {f : Func} {s : ChangeSpec} {fresh handsOn : Bool} {W W' : World} {args : Array Value} {ds gs : List (DataW H')} {before : List MemPlace} {t : TypeId} (hW : DataW.Whole enc P f.params.toList s.vars false W args.toList ds gs before)
  (hv : s.vars = []) (hs : s.fn H' (ds ++ gs) = { results := [.lit (.bool true)],args := ds }) (hrt : f.resultTypes = #[t]) (ht : P.underlying t = some .bool)
  (hl : laidOutB P = true) (hps : ∀ t ∈ f.params.toList,t < P.types.size ∧ P.readableRec t = true) (hb : Below W.heap.size W W') : s.post enc P f false fresh handsOn false W args (.bool true) W' := by
 have hW0 := hW
 obtain ⟨p,q,h1,h2,h3,h4,h5⟩ := hW
 rw [hv] at h2
 have hq : gs = [] ∧ q = [] := by
  cases gs with
  | nil => exact ⟨rfl,h2⟩
  | cons a b => cases h2
 obtain ⟨rfl,rfl⟩ := hq
 simp only [List.append_nil] at h3
 have hbef : before = p := h3
 have hlt := hW0.lt
 refine ⟨ds,[],before,[],p,[],hW0,?_,?_,?_,hb.frame _,fun h => by cases h⟩
 ·rw [hs,hrt]
  exact trodAll_cons_mk (shut_bool ht true) trodAll_mk0
 ·rw [hs]
  exact trodAll_keeps hl hps h1 (fun x hx => hb.same (hlt x (by rw [hbef]; exact hx))) (fun x hx => by simpa using hlt x (by rw [hbef]; exact hx))
 ·rw [hs,hv]; rfl
end
end Go.AM
namespace Go.AM
open Go.ChangeShapes Go.WideShapes Go.RowKit
variable {P : Program}
theorem trodAll_length {H' : Type} {enc : TypeId × Value → H'} {W : World} {base : Nat} {sp : Nat → Bool} {held : Bool} : ∀ {ts : List TypeId} {vs : List Value} {ds : List (DataW H')} {ps : List MemPlace},
  DataW.TrodAll enc P W base sp held ts vs ds ps → vs.length = ts.length ∧ ds.length = ts.length
 | [],vs,ds,ps,h => by obtain ⟨rfl,rfl,rfl⟩ := trodAll_nil h; exact ⟨rfl,rfl⟩
 | t :: ts,vs,ds,ps,h => by
  obtain ⟨v,vs1,d,ds1,a,b,rfl,rfl,rfl,h1,h2⟩ := trodAll_cons h
  obtain ⟨k1,k2⟩ := trodAll_length h2
  exact ⟨by simp [k1],by simp [k2]⟩
def isTrue : Option (V × H) → Bool
 | some (.bool b,_) => b
 | _ => false
theorem isTrue_spec {r : Option (V × H)} (h : isTrue r = true) : ∃ h',r = some (.bool true,h') := by
 unfold isTrue at h
 split at h
 ·subst h; exact ⟨_,rfl⟩
 ·cases h
end Go.AM
namespace Go.AM
def ApLe (f g : Ap) : Prop := ∀ v args h r,f v args h = some r → g v args h = some r
theorem evO_mono {P : Program} {f g : Ap} (hle : ApLe f g) {o : O} {T : List V} {h : H} {r} (he : evO P f o T h = some r) : evO P g o T h = some r := by
 unfold evO at he ⊢
 split
 ·rename_i hw
  simp only [hw,if_true] at he
  cases hk : evK P T h o.op with
  | none => simp [hk] at he
  | some x =>
   cases x with
   | pur v => simpa [hk] using he
   | rd v => simpa [hk] using he
   | eff v h' => simpa [hk] using he
   | call v args =>
    simp only [hk] at he ⊢
    cases ha : f v args h with
    | none => simp [ha] at he
    | some y => rw [hle _ _ _ _ ha]; rw [ha] at he; exact he
 ·rename_i hw
  simpa [hw] using he
theorem evOs_mono {P : Program} {f g : Ap} (hle : ApLe f g) : ∀ (ops : List O) {T : List V} {h : H} {r},evOs P f ops T h = some r → evOs P g ops T h = some r
 | [],_,_,_,he => he
 | o :: ops,T,h,r,he => by
  simp only [evOs] at he ⊢
  cases ho : evO P f o T h with
  | none => simp [ho] at he
  | some y => rw [evO_mono hle ho]; rw [ho] at he; exact evOs_mono hle ops he
theorem evDr_mono {P : Program} {f g : Ap} (hle : ApLe f g) : ∀ (ops : List O) {T : List V} {h : H} {r},evDr P f ops T h = some r → evDr P g ops T h = some r
 | [],_,_,_,he => he
 | o :: ops,T,h,r,he => by
  simp only [evDr] at he ⊢
  split
  ·rename_i hw
   simp only [hw,if_true] at he
   cases hk : evK P T h o.op with
   | none => simp [hk] at he
   | some x =>
    have sub : ∀ T h (k : List Ent × List V × H → List Ent × List V × H) r',(evDr P f ops T h).map k = some r' → (evDr P g ops T h).map k = some r' := by
     intro T h k r' hm
     cases hd : evDr P f ops T h with
     | none => simp [hd] at hm
     | some y => rw [evDr_mono hle ops hd]; rw [hd] at hm; exact hm
    cases x with
    | pur v => simp only [hk] at he ⊢; exact sub _ _ _ _ he
    | rd v => simp only [hk] at he ⊢; exact sub _ _ _ _ he
    | eff v h' => simp only [hk] at he ⊢; exact sub _ _ _ _ he
    | call v args =>
     simp only [hk] at he ⊢
     cases ha : f v args h with
     | none => simp [ha] at he
     | some y => rw [hle _ _ _ _ ha]; rw [ha] at he; exact sub _ _ _ _ he
  ·rename_i hw
   simp only [hw] at he
   simp only [Bool.false_eq_true,if_false] at he
   cases hd : evDr P f ops (putV T o.dst undefV) h with
   | none => simp [hd] at he
   | some y => rw [evDr_mono hle ops hd]; rw [hd] at he; exact he
theorem evDraw_mono {P : Program} {f g : Ap} (hle : ApLe f g) {ops : List O} {T : List V} {h : H} {r} (he : evDraw P f ops T h = some r) : evDraw P g ops T h = some r := by
 unfold evDraw at he ⊢
 cases hd : evDr P f ops T h with
 | none => simp [hd] at he
 | some y => rw [evDr_mono hle ops hd]; rw [hd] at he; exact he
theorem iter_mono {f g : St → Option (Ex × St)} (hle : ∀ s r,f s = some r → g s = some r) : ∀ {n m : Nat} {s r},n ≤ m → iter f n s = some r → iter g m s = some r
 | 0,_,_,_,_,he => by simp [iter] at he
 | n + 1,0,_,_,hnm,_ => by omega
 | n + 1,m + 1,s,r,hnm,he => by
  simp only [iter] at he ⊢
  cases hf : f s with
  | none => simp [hf] at he
  | some y =>
   rw [hle _ _ hf]; rw [hf] at he
   obtain ⟨ex,s'⟩ := y
   cases ex with
   | nrm => exact iter_mono hle (by omega) he
   | exit id => exact he
   | ret => exact he
theorem evC_mono {P : Program} {f g : Ap} (hle : ApLe f g) {n m : Nat} (hnm : n ≤ m) {ro : Option Nat} : ∀ (c : C) {s r},evC P f n ro c s = some r → evC P g m ro c s = some r
 | .skip,_,_,he => he
 | .region ops,(T,h),r,he => by
  simp only [evC] at he ⊢
  cases hd : evOs P f ops T h with
  | none => simp [hd] at he
  | some y => rw [evOs_mono hle ops hd]; rw [hd] at he; exact he
 | .draw ops,(T,h),r,he => by
  simp only [evC] at he ⊢
  cases hd : evDraw P f ops T h with
  | none => simp [hd] at he
  | some y => rw [evDraw_mono hle hd]; rw [hd] at he; exact he
 | .seq a b,s,r,he => by
  simp only [evC] at he ⊢
  cases hd : evC P f n ro a s with
  | none => simp [hd] at he
  | some y =>
   rw [evC_mono hle hnm a hd]; rw [hd] at he
   obtain ⟨ex,s'⟩ := y
   cases ex with
   | nrm => exact evC_mono hle hnm b he
   | exit id => exact he
   | ret => exact he
 | .cond c a b,s,r,he => by
  simp only [evC] at he ⊢
  cases hc : c.ev s.1 with
  | none => simp [hc] at he
  | some v =>
   simp only [hc] at he ⊢
   cases v with
   | bool t => cases t <;> simp only [Bool.false_eq_true,if_true,if_false] at he ⊢ <;> exact evC_mono hle hnm _ he
   | _ => simp at he
 | .block id b,s,r,he => by
  simp only [evC] at he ⊢
  cases hd : evC P f n ro b s with
  | none => simp [hd] at he
  | some y => rw [evC_mono hle hnm b hd]; rw [hd] at he; exact he
 | .loop b,s,r,he => by
  simp only [evC] at he ⊢
  exact iter_mono (fun s r => evC_mono hle hnm b) hnm he
 | .exit _,_,_,he => he
 | .ret,_,_,he => he
 | .bad,_,_,he => he
 | .range x ps as b,(T,h),r,he => by
  simp only [evC] at he ⊢
  split
  ·rename_i hro
   simp only [hro,if_true] at he
   split
   ·rename_i gf fs cs hx
    simp only [hx] at he
    split
    ·rename_i h1 hp
     simp only [hp] at he
     cases ha : f (.func gf fs cs) [.yield h.size] h1 with
     | none => simp [ha] at he
     | some y => rw [hle _ _ _ _ ha]; rw [ha] at he; exact he
    ·rename_i hp; simp [hp] at he
   ·rename_i hx
    split at he
    ·rename_i gf fs cs hx'; exact absurd hx' (hx _ _ _)
    ·cases he
  ·rename_i hro; simp [hro] at he
theorem evFn_mono {P : Program} {f g : Ap} (hle : ApLe f g) {n m : Nat} (hnm : n ≤ m) {fn : Fn} {args : List V} {h : H} {r} (he : evFn P f n fn args h = some r) : evFn P g m fn args h = some r := by
 unfold evFn at he ⊢
 split
 ·rename_i hl
  simp only [hl,if_true] at he
  cases hd : evC P f n none fn.body (args ++ List.replicate (fn.ntmps - args.length) undefV,h) with
  | none => simp [hd] at he
  | some y => rw [evC_mono hle hnm _ hd]; rw [hd] at he; exact he
 ·rename_i hl; simp [hl] at he
theorem evRound_mono {P : Program} {f g : Ap} (hle : ApLe f g) {n m : Nat} (hnm : n ≤ m) {l : Nat} {args : List V} {h : H} {r} (he : evRound P f n l args h = some r) : evRound P g m l args h = some r := by
 unfold evRound at he ⊢
 split
 ·rename_i st pd T ps as b hg
  simp only [hg] at he
  split
  ·rename_i hl
   simp only [hl,if_true] at he
   cases hd : evC P f n (some l) as (zipSet T ps args,h) with
   | none => simp [hd] at he
   | some y =>
    rw [evC_mono hle hnm _ hd]; rw [hd] at he
    obtain ⟨ex,T1,h1⟩ := y
    cases ex with
    | nrm =>
     simp only at he ⊢
     split
     ·rename_i pd2 T2 ps2 as2 b2 hg1
      simp only [hg1] at he
      cases hd2 : evC P f n (some l) b (T1,h1.set l (.loop .busy pd2 T2 ps2 as2 b2)) with
      | none => simp [hd2] at he
      | some z => rw [evC_mono hle hnm _ hd2]; rw [hd2] at he; exact he
     ·rename_i hx
      split at he
      ·rename_i hg1; exact absurd hg1 (hx _ _ _ _ _)
      ·cases he
    | exit id => simp at he
    | ret => simp at he
  ·rename_i hl; simp [hl] at he
 ·rename_i hx
  split at he
  ·rename_i hg; exact absurd hg (hx _ _ _ _ _ _)
  ·cases he
theorem ap_mono (P : Program) (E : Env) : ∀ {n m : Nat},n ≤ m → ApLe (ap P E n) (ap P E m)
 | 0,_,_,_,_,_,_,he => by simp [ap] at he
 | n + 1,0,hnm,_,_,_,_,_ => by omega
 | n + 1,m + 1,hnm,v,args,h,r,he => by
  have ih := ap_mono P E (n := n) (m := m) (by omega)
  cases v with
  | func f fs cs =>
   simp only [ap] at he ⊢
   cases hp : E.prim f with
   | some g => simpa [hp] using he
   | none =>
    simp only [hp] at he ⊢
    cases hf : E.fns f with
    | none => simp [hf] at he
    | some fn => simp only [hf] at he ⊢; exact evFn_mono ih (by omega) he
  | yield l => simp only [ap] at he ⊢; exact evRound_mono ih (by omega) he
  | _ => simp [ap] at he
noncomputable def lim {α : Type} (g : Nat → Option α) : Option α := open Classical in if h : ∃ n,(g n).isSome = true then g h.choose else none
theorem of_lim {α : Type} {g : Nat → Option α} {r : α} (h : lim g = some r) : ∃ n,g n = some r := by
 unfold lim at h
 split at h
 ·exact ⟨_,h⟩
 ·cases h
theorem lim_eq {α : Type} {g : Nat → Option α} (mono : ∀ n m r,n ≤ m → g n = some r → g m = some r) {n : Nat} {r : α} (h : g n = some r) : lim g = some r := by
 unfold lim
 have hx : ∃ n,(g n).isSome = true := ⟨n,by simp [h]⟩
 rw [dif_pos hx]
 obtain ⟨r',hr'⟩ := Option.isSome_iff_exists.1 hx.choose_spec
 have h1 := mono _ (max n hx.choose) _ (Nat.le_max_left _ _) h
 have h2 := mono _ (max n hx.choose) _ (Nat.le_max_right _ _) hr'
 rw [h1] at h2; cases h2; exact hr'
theorem lim_iff {α : Type} {g : Nat → Option α} (mono : ∀ n m r,n ≤ m → g n = some r → g m = some r) {r : α} : lim g = some r ↔ ∃ n,g n = some r :=
 ⟨of_lim,fun ⟨_,h⟩ => lim_eq mono h⟩
theorem opt_ext {α : Type} {a b : Option α} (h : ∀ r,a = some r ↔ b = some r) : a = b := by
 cases a with
 | none => cases b with
  | none => rfl
  | some y => exact ((h y).2 rfl)
 | some x => exact ((h x).1 rfl).symm
section
variable (P : Program) (E : Env)
noncomputable def AP : Ap := fun f args h => lim fun n => ap P E n f args h
noncomputable def EC (ro : Option Nat) (c : C) (s : St) : Option (Ex × St) := lim fun n => evC P (ap P E n) n ro c s
noncomputable def FN (fn : Fn) (args : List V) (h : H) : Option (V × H) :=
 if args.length ≤ fn.ntmps then
  match EC P E none fn.body (args ++ List.replicate (fn.ntmps - args.length) undefV,h) with
  | some (.nrm,(T',h')) => (resVs T' h' fn.results).map fun vs => (oneOr vs,h')
  | some (.ret,(T',h')) => (resVs T' h' fn.results).map fun vs => (oneOr vs,h')
  | _ => none
 else none
noncomputable def RND (l : Nat) (args : List V) (h : H) : Option (V × H) :=
 match h.get l with
 | some (.loop _ _ T ps as b) =>
  if args.length = ps.length then
   match EC P E (some l) as (zipSet T ps args,h) with
   | some (.nrm,(T1,h1)) => match h1.get l with
    | some (.loop .ready pend T ps as b') =>
     match EC P E (some l) b (T1,h1.set l (.loop .busy pend T ps as b')) with
     | some (ex,(_,h2)) => match h2.get l with
      | some (.loop _ _ T ps as b') =>
       match ex with
       | .nrm => some (.bool true,h2.set l (.loop .ready none T ps as b'))
       | .ret => some (.bool false,h2.set l (.loop .done (some .ret) T ps as b'))
       | .exit id => some (.bool false,h2.set l (.loop .done (some (.exit id)) T ps as b'))
      | _ => none
     | none => none
    | _ => none
   | _ => none
  else none
 | _ => none
end
variable {P : Program} {E : Env}
theorem AP_iff {f : V} {args : List V} {h : H} {r} : AP P E f args h = some r ↔ ∃ n,ap P E n f args h = some r :=
 lim_iff fun _ _ _ hnm he => ap_mono P E hnm _ _ _ _ he
theorem EC_iff {ro : Option Nat} {c : C} {s : St} {r} : EC P E ro c s = some r ↔ ∃ n,evC P (ap P E n) n ro c s = some r :=
 lim_iff fun _ _ _ hnm he => evC_mono (ap_mono P E hnm) hnm c he
theorem ap_le (n : Nat) : ApLe (ap P E n) (AP P E) := fun _ _ _ _ he => AP_iff.2 ⟨n,he⟩
theorem evO_lim {o : O} {T : List V} {h : H} {r} (he : evO P (AP P E) o T h = some r) : ∃ n,evO P (ap P E n) o T h = some r := by
 unfold evO at he ⊢
 split
 ·rename_i hw
  simp only [hw,if_true] at he
  cases hk : evK P T h o.op with
  | none => simp [hk] at he
  | some x =>
   cases x with
   | pur v => exact ⟨0,by simpa [hk] using he⟩
   | rd v => exact ⟨0,by simpa [hk] using he⟩
   | eff v h' => exact ⟨0,by simpa [hk] using he⟩
   | call v args =>
    simp only [hk] at he ⊢
    cases ha : AP P E v args h with
    | none => simp [ha] at he
    | some y =>
     obtain ⟨n,hn⟩ := AP_iff.1 ha
     exact ⟨n,by simp only [hn]; rw [ha] at he; exact he⟩
 ·rename_i hw
  exact ⟨0,by simpa [hw] using he⟩
theorem evOs_lim : ∀ (ops : List O) {T : List V} {h : H} {r},evOs P (AP P E) ops T h = some r → ∃ n,evOs P (ap P E n) ops T h = some r
 | [],_,_,_,he => ⟨0,he⟩
 | o :: ops,T,h,r,he => by
  simp only [evOs] at he ⊢
  cases ho : evO P (AP P E) o T h with
  | none => simp [ho] at he
  | some y =>
   rw [ho] at he
   obtain ⟨n,hn⟩ := evO_lim ho
   obtain ⟨k,hk⟩ := evOs_lim ops he
   refine ⟨max n k,?_⟩
   rw [evO_mono (ap_mono P E (Nat.le_max_left n k)) hn]
   exact evOs_mono (ap_mono P E (Nat.le_max_right n k)) ops hk
theorem evDr_lim : ∀ (ops : List O) {T : List V} {h : H} {r},evDr P (AP P E) ops T h = some r → ∃ n,evDr P (ap P E n) ops T h = some r
 | [],_,_,_,he => ⟨0,he⟩
 | o :: ops,T,h,r,he => by
  simp only [evDr] at he ⊢
  split
  ·rename_i hw
   simp only [hw,if_true] at he
   have sub : ∀ T h (k : List Ent × List V × H → List Ent × List V × H),(evDr P (AP P E) ops T h).map k = some r → ∃ n,(evDr P (ap P E n) ops T h).map k = some r := by
    intro T h k hm
    cases hd : evDr P (AP P E) ops T h with
    | none => simp [hd] at hm
    | some y =>
     obtain ⟨n,hn⟩ := evDr_lim ops hd
     exact ⟨n,by rw [hn]; rw [hd] at hm; exact hm⟩
   cases hk : evK P T h o.op with
   | none => simp [hk] at he
   | some x =>
    cases x with
    | pur v => simp only [hk] at he ⊢; exact sub _ _ _ he
    | rd v => simp only [hk] at he ⊢; exact sub _ _ _ he
    | eff v h' => simp only [hk] at he ⊢; exact sub _ _ _ he
    | call v args =>
     simp only [hk] at he ⊢
     cases ha : AP P E v args h with
     | none => simp [ha] at he
     | some y =>
      obtain ⟨n,hn⟩ := AP_iff.1 ha
      rw [ha] at he
      obtain ⟨v',h'⟩ := y
      simp only at he
      cases hd : evDr P (AP P E) ops (putV T o.dst v') h' with
      | none => simp [hd] at he
      | some z =>
       obtain ⟨k,hk'⟩ := evDr_lim ops hd
       refine ⟨max n k,?_⟩
       rw [ap_mono P E (Nat.le_max_left n k) _ _ _ _ hn]
       simp only
       rw [evDr_mono (ap_mono P E (Nat.le_max_right n k)) ops hk']
       rw [hd] at he; exact he
  ·rename_i hw
   simp only [hw,Bool.false_eq_true,if_false] at he
   cases hd : evDr P (AP P E) ops (putV T o.dst undefV) h with
   | none => simp [hd] at he
   | some y =>
    obtain ⟨n,hn⟩ := evDr_lim ops hd
    exact ⟨n,by rw [hn]; rw [hd] at he; exact he⟩
theorem evDraw_lim {ops : List O} {T : List V} {h : H} {r} (he : evDraw P (AP P E) ops T h = some r) : ∃ n,evDraw P (ap P E n) ops T h = some r := by
 unfold evDraw at he ⊢
 cases hd : evDr P (AP P E) ops T h with
 | none => simp [hd] at he
 | some y =>
  obtain ⟨n,hn⟩ := evDr_lim ops hd
  exact ⟨n,by rw [hn]; rw [hd] at he; exact he⟩
variable {ro : Option Nat}
theorem EC_skip (s : St) : EC P E ro .skip s = some (.nrm,s) := EC_iff.2 ⟨0,rfl⟩
theorem EC_exit (id : Nat) (s : St) : EC P E ro (.exit id) s = some (.exit id,s) := EC_iff.2 ⟨0,rfl⟩
theorem EC_ret (s : St) : EC P E ro .ret s = some (.ret,s) := EC_iff.2 ⟨0,rfl⟩
theorem EC_region (ops : List O) (T : List V) (h : H) : EC P E ro (.region ops) (T,h) = (evOs P (AP P E) ops T h).map fun s => (.nrm,s) := by
 refine opt_ext fun r => ?_
 rw [EC_iff]
 simp only [evC]
 constructor
 ·rintro ⟨n,hn⟩
  cases hd : evOs P (ap P E n) ops T h with
  | none => simp [hd] at hn
  | some y => rw [evOs_mono (ap_le n) ops hd]; rw [hd] at hn; exact hn
 ·intro hn
  cases hd : evOs P (AP P E) ops T h with
  | none => simp [hd] at hn
  | some y =>
   obtain ⟨n,hk⟩ := evOs_lim ops hd
   exact ⟨n,by rw [hk]; rw [hd] at hn; exact hn⟩
theorem EC_draw (ops : List O) (T : List V) (h : H) : EC P E ro (.draw ops) (T,h) = (evDraw P (AP P E) ops T h).map fun s => (.nrm,s) := by
 refine opt_ext fun r => ?_
 rw [EC_iff]
 simp only [evC]
 constructor
 ·rintro ⟨n,hn⟩
  cases hd : evDraw P (ap P E n) ops T h with
  | none => simp [hd] at hn
  | some y => rw [evDraw_mono (ap_le n) hd]; rw [hd] at hn; exact hn
 ·intro hn
  cases hd : evDraw P (AP P E) ops T h with
  | none => simp [hd] at hn
  | some y =>
   obtain ⟨n,hk⟩ := evDraw_lim hd
   exact ⟨n,by rw [hk]; rw [hd] at hn; exact hn⟩
def andThen (r : Option (Ex × St)) (k : St → Option (Ex × St)) : Option (Ex × St) :=
 match r with
 | some (.nrm,s') => k s'
 | r => r
theorem EC_seq (a b : C) (s : St) : EC P E ro (.seq a b) s = andThen (EC P E ro a s) (EC P E ro b) := by
 refine opt_ext fun r => ?_
 rw [EC_iff]
 simp only [evC]
 constructor
 ·rintro ⟨n,hn⟩
  cases hd : evC P (ap P E n) n ro a s with
  | none => simp [hd] at hn
  | some y =>
   rw [EC_iff.2 ⟨n,hd⟩]; rw [hd] at hn
   obtain ⟨ex,s'⟩ := y
   cases ex with
   | nrm => exact EC_iff.2 ⟨n,hn⟩
   | exit id => exact hn
   | ret => exact hn
 ·intro hn
  cases hd : EC P E ro a s with
  | none => simp [hd,andThen] at hn
  | some y =>
   rw [hd] at hn
   obtain ⟨n,hk⟩ := EC_iff.1 hd
   obtain ⟨ex,s'⟩ := y
   cases ex with
   | nrm =>
    obtain ⟨k,hk2⟩ := EC_iff.1 hn
    refine ⟨max n k,?_⟩
    rw [evC_mono (ap_mono P E (Nat.le_max_left n k)) (Nat.le_max_left n k) _ hk]
    exact evC_mono (ap_mono P E (Nat.le_max_right n k)) (Nat.le_max_right n k) _ hk2
   | exit id => exact ⟨n,by rw [hk]; exact hn⟩
   | ret => exact ⟨n,by rw [hk]; exact hn⟩
theorem EC_cond (c : A) (a b : C) (s : St) : EC P E ro (.cond c a b) s = (match c.ev s.1 with
  | some (.bool t) => if t then EC P E ro a s else EC P E ro b s
  | _ => none) := by
 refine opt_ext fun r => ?_
 rw [EC_iff]
 simp only [evC]
 cases hc : c.ev s.1 with
 | none => simp
 | some v =>
  cases v with
  | bool t => cases t <;> simp [EC_iff]
  | _ => simp
theorem EC_block (id : Nat) (b : C) (s : St) : EC P E ro (.block id b) s = (match EC P E ro b s with
  | some (.exit id',s') => if id' = id then some (.nrm,s') else some (.exit id',s')
  | r => r) := by
 refine opt_ext fun r => ?_
 rw [EC_iff]
 simp only [evC]
 constructor
 ·rintro ⟨n,hn⟩
  cases hd : evC P (ap P E n) n ro b s with
  | none => simp [hd] at hn
  | some y => rw [EC_iff.2 ⟨n,hd⟩]; rw [hd] at hn; exact hn
 ·intro hn
  cases hd : EC P E ro b s with
  | none => simp [hd] at hn
  | some y =>
   obtain ⟨n,hk⟩ := EC_iff.1 hd
   exact ⟨n,by rw [hk]; rw [hd] at hn; exact hn⟩
theorem EC_loop (b : C) (s : St) : EC P E ro (.loop b) s = andThen (EC P E ro b s) (EC P E ro (.loop b)) := by
 refine opt_ext fun r => ?_
 rw [EC_iff]
 simp only [evC]
 constructor
 ·rintro ⟨n,hn⟩
  cases n with
  | zero => simp [iter] at hn
  | succ n =>
   simp only [iter] at hn
   cases hd : evC P (ap P E (n + 1)) (n + 1) ro b s with
   | none => simp [hd] at hn
   | some y =>
    rw [EC_iff.2 ⟨n + 1,hd⟩]; rw [hd] at hn
    obtain ⟨ex,s'⟩ := y
    cases ex with
    | nrm => exact EC_iff.2 ⟨n + 1,by simp only [evC]; exact iter_mono (fun _ _ h => h) (Nat.le_succ n) hn⟩
    | exit id => exact hn
    | ret => exact hn
 ·intro hn
  cases hd : EC P E ro b s with
  | none => simp [hd,andThen] at hn
  | some y =>
   rw [hd] at hn
   obtain ⟨n,hk⟩ := EC_iff.1 hd
   obtain ⟨ex,s'⟩ := y
   cases ex with
   | nrm =>
    obtain ⟨k,hk2⟩ := EC_iff.1 hn
    simp only [evC] at hk2
    have hnm : n ≤ max n k + 1 := by omega
    have hkm : k ≤ max n k + 1 := by omega
    refine ⟨max n k + 1,?_⟩
    simp only [iter]
    rw [evC_mono (ap_mono P E hnm) hnm _ hk]
    exact iter_mono (fun s r => evC_mono (ap_mono P E hkm) hkm b) (Nat.le_max_right n k) hk2
   | exit id => exact ⟨n + 1,by simp only [iter]; rw [evC_mono (ap_mono P E (Nat.le_succ n)) (Nat.le_succ n) _ hk]; exact hn⟩
   | ret => exact ⟨n + 1,by simp only [iter]; rw [evC_mono (ap_mono P E (Nat.le_succ n)) (Nat.le_succ n) _ hk]; exact hn⟩
def rangeEnd (T : List V) (l : Nat) : Option (V × H) → Option (Ex × St)
 | some (_,h2) => match h2.get l with
  | some (.loop st pend T' ps' as' b') =>
   if st = .busy then none else
   let h3 := h2.set l (.loop .exhausted pend T' ps' as' b')
   match pend with
   | none => some (.nrm,(T,h3))
   | some .ret => some (.ret,(T,h3))
   | some (.exit id) => some (.exit id,(T,h3))
   | some _ => none
  | _ => none
 | none => none
theorem EC_range (f : A) (ps : List Nat) (as b : C) (T : List V) (h : H) (hro : roOk h ro = true) {g : Nat} {fs cs : List V} (hf : f.ev T = some (.func g fs cs)) :
  EC P E ro (.range f ps as b) (T,h) = rangeEnd T h.size (AP P E (.func g fs cs) [.yield h.size] (h.psh (.loop .ready none T ps as b))) := by
 refine opt_ext fun r => ?_
 rw [EC_iff]
 simp only [evC,hro,if_true,hf,H.push]
 constructor
 ·rintro ⟨n,hn⟩
  cases ha : ap P E n (.func g fs cs) [.yield h.size] (h.psh (.loop .ready none T ps as b)) with
  | none => simp [ha] at hn
  | some y => rw [ap_le n _ _ _ _ ha]; rw [ha] at hn; exact hn
 ·intro hn
  cases ha : AP P E (.func g fs cs) [.yield h.size] (h.psh (.loop .ready none T ps as b)) with
  | none => simp [ha,rangeEnd] at hn
  | some y =>
   obtain ⟨n,hk⟩ := AP_iff.1 ha
   exact ⟨n,by rw [hk]; rw [ha] at hn; exact hn⟩
theorem FN_iff {fn : Fn} {args : List V} {h : H} {r} : FN P E fn args h = some r ↔ ∃ n,evFn P (ap P E n) n fn args h = some r := by
 unfold FN evFn
 split
 ·constructor
  ·intro hn
   cases hd : EC P E none fn.body (args ++ List.replicate (fn.ntmps - args.length) undefV,h) with
   | none => simp [hd] at hn
   | some y =>
    obtain ⟨n,hk⟩ := EC_iff.1 hd
    exact ⟨n,by rw [hk]; rw [hd] at hn; exact hn⟩
  ·rintro ⟨n,hn⟩
   cases hd : evC P (ap P E n) n none fn.body (args ++ List.replicate (fn.ntmps - args.length) undefV,h) with
   | none => simp [hd] at hn
   | some y => rw [EC_iff.2 ⟨n,hd⟩]; rw [hd] at hn; exact hn
 ·simp
theorem AP_prim {f : Nat} {fs cs args : List V} {h : H} {g} (hp : E.prim f = some g) : AP P E (.func f fs cs) args h = g (fs ++ args ++ cs) h := by
 refine opt_ext fun r => ?_
 rw [AP_iff]
 constructor
 ·rintro ⟨n,hn⟩
  cases n with
  | zero => simp [ap] at hn
  | succ n => simpa [ap,hp] using hn
 ·intro hn; exact ⟨1,by simpa [ap,hp] using hn⟩
theorem AP_fn {f : Nat} {fs cs args : List V} {h : H} {fn : Fn} (hp : E.prim f = none) (hf : E.fns f = some fn) : AP P E (.func f fs cs) args h = FN P E fn (fs ++ args ++ cs) h := by
 refine opt_ext fun r => ?_
 rw [AP_iff,FN_iff]
 constructor
 ·rintro ⟨n,hn⟩
  cases n with
  | zero => simp [ap] at hn
  | succ n => exact ⟨n,by simpa [ap,hp,hf] using hn⟩
 ·rintro ⟨n,hn⟩; exact ⟨n + 1,by simpa [ap,hp,hf] using hn⟩
theorem RND_iff {l : Nat} {args : List V} {h : H} {r} : RND P E l args h = some r ↔ ∃ n,evRound P (ap P E n) n l args h = some r := by
 unfold RND evRound
 cases hg : h.get l with
 | none => simp
 | some o =>
  cases o with
  | loop st pd T ps as b =>
   simp only
   split
   ·constructor
    ·intro hn
     cases hd : EC P E (some l) as (zipSet T ps args,h) with
     | none => simp [hd] at hn
     | some y =>
      obtain ⟨n,hk⟩ := EC_iff.1 hd
      rw [hd] at hn
      obtain ⟨ex,T1,h1⟩ := y
      cases ex with
      | nrm =>
       simp only at hn
       cases hg1 : h1.get l with
       | none => simp [hg1] at hn
       | some o1 =>
        cases o1 with
        | loop st2 pd2 T2 ps2 as2 b2 =>
         cases st2 with
         | ready =>
          simp only [hg1] at hn
          cases hd2 : EC P E (some l) b (T1,h1.set l (.loop .busy pd2 T2 ps2 as2 b2)) with
          | none => simp [hd2] at hn
          | some z =>
           obtain ⟨k,hk2⟩ := EC_iff.1 hd2
           refine ⟨max n k,?_⟩
           rw [evC_mono (ap_mono P E (Nat.le_max_left n k)) (Nat.le_max_left n k) _ hk]
           simp only [hg1]
           rw [evC_mono (ap_mono P E (Nat.le_max_right n k)) (Nat.le_max_right n k) _ hk2]
           rw [hd2] at hn; exact hn
         | _ => simp [hg1] at hn
        | _ => simp [hg1] at hn
      | exit id => simp at hn
      | ret => simp at hn
    ·rintro ⟨n,hn⟩
     cases hd : evC P (ap P E n) n (some l) as (zipSet T ps args,h) with
     | none => simp [hd] at hn
     | some y =>
      rw [EC_iff.2 ⟨n,hd⟩]; rw [hd] at hn
      obtain ⟨ex,T1,h1⟩ := y
      cases ex with
      | nrm =>
       simp only at hn ⊢
       cases hg1 : h1.get l with
       | none => simp [hg1] at hn
       | some o1 =>
        cases o1 with
        | loop st2 pd2 T2 ps2 as2 b2 =>
         cases st2 with
         | ready =>
          simp only [hg1] at hn ⊢
          cases hd2 : evC P (ap P E n) n (some l) b (T1,h1.set l (.loop .busy pd2 T2 ps2 as2 b2)) with
          | none => simp [hd2] at hn
          | some z => rw [EC_iff.2 ⟨n,hd2⟩]; rw [hd2] at hn; exact hn
         | _ => simp [hg1] at hn
        | _ => simp [hg1] at hn
      | exit id => simp at hn
      | ret => simp at hn
   ·simp
  | _ => simp
theorem AP_yield {l : Nat} {args : List V} {h : H} : AP P E (.yield l) args h = RND P E l args h := by
 refine opt_ext fun r => ?_
 rw [AP_iff,RND_iff]
 constructor
 ·rintro ⟨n,hn⟩
  cases n with
  | zero => simp [ap] at hn
  | succ n => exact ⟨n,by simpa [ap] using hn⟩
 ·rintro ⟨n,hn⟩; exact ⟨n + 1,by simpa [ap] using hn⟩
end Go.AM
namespace Go.AM
def up (ρ : Nat → V) (d : Nat) (v : V) : Nat → V := fun t => if t = d then v else ρ t
def toL (n : Nat) (ρ : Nat → V) : List V := (List.range n).map ρ
def argF (args : List V) : Nat → V := fun i => (args[i]?).getD undefV
theorem up_app (ρ : Nat → V) (d : Nat) (v : V) (t : Nat) : up ρ d v t = if t = d then v else ρ t := rfl
theorem toL_length (n : Nat) (ρ : Nat → V) : (toL n ρ).length = n := by simp [toL]
theorem toL_get {n i : Nat} (h : i < n) (ρ : Nat → V) : (toL n ρ)[i]? = some (ρ i) := by simp [toL,h]
theorem toL_set (n : Nat) (ρ : Nat → V) (d : Nat) (v : V) : (toL n ρ).set d v = toL n (up ρ d v) := by
 refine List.ext_getElem? fun i => ?_
 rw [List.getElem?_set]
 by_cases hi : i < n
 ·rw [toL_get hi,toL_get hi]
  by_cases hd : d = i
  ·subst hd; simp [toL_length,hi,up]
  ·rw [if_neg hd]; simp [up,Ne.symm hd]
 ·simp only [toL,List.getElem?_map,List.length_map,List.length_range]
  rw [List.getElem?_eq_none (by simp; omega)]
  simp; omega
theorem toL_args {n : Nat} {args : List V} (h : args.length ≤ n) : args ++ List.replicate (n - args.length) undefV = toL n (argF args) := by
 refine List.ext_getElem? fun i => ?_
 by_cases hi : i < n
 ·rw [toL_get hi]
  unfold argF
  rw [List.getElem?_append]
  split
  ·rename_i hl; simp [hl]
  ·rename_i hl
   rw [List.getElem?_replicate,if_pos (by omega),List.getElem?_eq_none (by omega)]; rfl
 ·rw [List.getElem?_eq_none (by simp; omega),List.getElem?_eq_none (by simp [toL_length]; omega)]
theorem ev_t {n i : Nat} (h : i < n) (ρ : Nat → V) : A.ev (toL n ρ) (.t i) = some (ρ i) := toL_get h ρ
theorem ev_k (T : List V) (v : V) : A.ev T (.k v) = some v := rfl
theorem evs_nil (T : List V) : evs T [] = some [] := rfl
theorem evs_cons (T : List V) (a : A) (r : List A) : evs T (a :: r) = (match a.ev T,evs T r with
  | some v,some vs => some (v :: vs)
  | _,_ => none) := rfl
theorem evo_none (T : List V) : evo T none = some none := rfl
theorem evo_some (T : List V) (a : A) : evo T (some a) = (match a.ev T with
  | some v => some (some v)
  | none => none) := rfl
theorem putV_some (n : Nat) (ρ : Nat → V) (d : Nat) (v : V) : putV (toL n ρ) (some d) v = toL n (up ρ d v) := toL_set n ρ d v
def isB : V → Bool → Bool
 | .bool b,w => b == w
 | _,_ => false
theorem isB_bool (b w : Bool) : isB (.bool b) w = (b == w) := rfl
theorem wantV_none (T : List V) : wantV T none = true := rfl
theorem wantV_some {n t : Nat} (h : t < n) (ρ : Nat → V) (w : Bool) : wantV (toL n ρ) (some (t,w)) = isB (ρ t) w := by
 simp only [wantV,toL_get h]
 cases ρ t <;> rfl
def stepR (ap : Ap) (dst : Option Nat) (T : List V) (h : H) : Option Res → Option (List V × H)
 | some (.pur v) => some (putV T dst v,h)
 | some (.rd v) => some (putV T dst v,h)
 | some (.eff v h') => some (putV T dst v,h')
 | some (.call f args) => (ap f args h).map fun r => (putV T dst r.1,r.2)
 | none => none
theorem evO_step (P : Program) (ap : Ap) (dst : Option Nat) (k : K) (g : Option (Nat × Bool)) (pre : Nat) (ns : List Nat) (T : List V) (h : H) :
  evO P ap ⟨dst,k,g,pre,ns⟩ T h = if wantV T g then stepR ap dst T h (evK P T h k) else some (putV T dst undefV,h) := by
 unfold evO
 split
 ·simp only
  cases hk : evK P T h k with
  | none => rfl
  | some x =>
   cases x with
   | call f args =>
    simp only [stepR]
    cases ap f args h <;> rfl
   | _ => rfl
 ·rfl
theorem evOs_nil (P : Program) (ap : Ap) (T : List V) (h : H) : evOs P ap [] T h = some (T,h) := rfl
theorem evOs_cons (P : Program) (ap : Ap) (o : O) (r : List O) (T : List V) (h : H) : evOs P ap (o :: r) T h = (evO P ap o T h).bind fun s => evOs P ap r s.1 s.2 := by
 simp only [evOs]
 cases evO P ap o T h <;> rfl
def K.still : K → Bool
 | .alloc .. | .box .. | .bslice .. | .store .. | .s2b .. | .mkMap | .mkSlice .. | .mapUpd .. | .mapDel .. | .rng .. | .next .. | .app .. | .copy .. | .call .. | .appZ .. | .same .. | .ustr .. | .mkNZ .. | .inv .. | .bad => false
 | _ => true
theorem binV_still {h : H} {op : BinOp} {eq : Option EqT} {l : Bool} {x y : V} {r : Res} (hr : binV h op eq l x y = some r) : (∃ v,r = .pur v) ∨ ∃ v,r = .rd v := by
 unfold binV at hr
 split at hr
 ·split at hr
  ·obtain ⟨v,_,rfl⟩ := Option.map_eq_some_iff.1 hr; exact .inl ⟨_,rfl⟩
  ·obtain ⟨v,_,rfl⟩ := Option.map_eq_some_iff.1 hr; exact .inl ⟨_,rfl⟩
  ·split at hr
   ·obtain ⟨v,_,rfl⟩ := Option.map_eq_some_iff.1 hr; exact .inl ⟨_,rfl⟩
   ·cases hr
 ·obtain ⟨v,_,rfl⟩ := Option.map_eq_some_iff.1 hr; exact .inl ⟨_,rfl⟩
 ·split at hr
  ·cases hr
  ·split at hr
   ·cases hr
   ·split at hr <;> first | (cases hr; exact .inr ⟨_,rfl⟩) | cases hr
theorem evK_still {P : Program} {T : List V} {h : H} {k : K} {r : Res} (hk : k.still = true) (hr : evK P T h k = some r) : (∃ v,r = .pur v) ∨ ∃ v,r = .rd v := by
 cases k with
 | bin op eq lit x y =>
  simp only [evK] at hr
  split at hr
  ·exact binV_still hr
  ·cases hr
 | alloc | box | bslice | store | s2b | mkMap | mkSlice | mapUpd | mapDel | rng | next | app | copy | call | appZ | same | ustr | mkNZ | inv | bad => simp [K.still] at hk
 | _ =>
  simp only [evK] at hr
  repeat' split at hr
  all_goals first
   | (cases hr; done)
   | (cases hr; exact .inl ⟨_,rfl⟩)
   | (cases hr; exact .inr ⟨_,rfl⟩)
   | (obtain ⟨v,_,rfl⟩ := Option.map_eq_some_iff.1 hr; exact .inl ⟨_,rfl⟩)
   | (obtain ⟨v,_,rfl⟩ := Option.map_eq_some_iff.1 hr; exact .inr ⟨_,rfl⟩)
theorem evDr_still {P : Program} {ap : Ap} : ∀ (ops : List O) (T : List V) (h : H),ops.all (fun o => o.op.still) = true →
  (evDr P ap ops T h).map (fun x => (x.2.1,x.2.2)) = evOs P ap ops T h ∧ ∀ es T' h',evDr P ap ops T h = some (es,T',h') → ∀ (ops' : List O) (i : Nat),actsOf ops' es i = []
 | [],T,h,_ => ⟨rfl,fun es T' h' he ops' i => by cases he; cases ops' <;> rfl⟩
 | o :: ops,T,h,hall => by
  simp only [List.all_cons,Bool.and_eq_true] at hall
  obtain ⟨ho,hrest⟩ := hall
  have nxt : ∀ (T1 : List V) (ent : Ent),ent.act = false →
    ((evDr P ap ops T1 h).map fun x => (ent :: x.1,x.2)).map (fun x : List Ent × List V × H => (x.2.1,x.2.2)) = evOs P ap ops T1 h ∧
    ∀ es T' h',((evDr P ap ops T1 h).map fun x => (ent :: x.1,x.2)) = some (es,T',h') → ∀ (ops' : List O) (i : Nat),actsOf ops' es i = [] := by
   intro T1 ent hent
   obtain ⟨i1,i2⟩ := evDr_still (ap := ap) ops T1 h hrest
   refine ⟨?_,?_⟩
   ·rw [← i1,Option.map_map]; rfl
   ·intro es T' h' he ops' i
    obtain ⟨⟨es0,T0,h0⟩,h1,h2⟩ := Option.map_eq_some_iff.1 he
    cases h2
    cases ops' with
    | nil => rfl
    | cons o' ops' => simp only [actsOf,hent,Bool.false_eq_true,if_false]; exact i2 _ _ _ h1 ops' (i + 1)
  obtain ⟨dst,k,g,pre,ns⟩ := o
  simp only [evDr,evOs_cons,evO_step]
  split
  ·rename_i hw
   cases hk : evK P T h k with
   | none => simp [stepR]
   | some r =>
    rcases evK_still ho hk with ⟨v,rfl⟩ | ⟨v,rfl⟩
    ·exact nxt _ _ rfl
    ·exact nxt _ _ rfl
  ·exact nxt _ _ rfl
theorem evDraw_still {P : Program} {ap : Ap} {ops : List O} {T : List V} {h : H} (hall : ops.all (fun o => o.op.still) = true) : evDraw P ap ops T h = evOs P ap ops T h := by
 obtain ⟨h1,h2⟩ := evDr_still (P := P) (ap := ap) ops T h hall
 rw [← h1]
 unfold evDraw
 cases hd : evDr P ap ops T h with
 | none => rfl
 | some x =>
  obtain ⟨es,T',h'⟩ := x
  simp only [h2 es T' h' hd ops 0,List.isEmpty_nil,Bool.true_or,if_true]
  rfl
theorem push_eq (h : H) (o : Obj) : h.push o = some (h.psh o) := rfl
theorem psh_size (h : H) (o : Obj) : (h.psh o).size = h.size + 1 := rfl
theorem psh_old {h : H} {i : Nat} {ob : Obj} (hg : h.get i = some ob) (o : Obj) : (h.psh o).get i = some ob := by
 rw [H.get_psh,if_neg (by have := H.get_lt hg; omega)]; exact hg
theorem hset_same {h : H} {i : Nat} (hi : i < h.size) (o : Obj) : (h.set i o).get i = some o := by
 rw [H.get_set trivial hi,if_pos rfl]
theorem hset_other {h : H} {i j : Nat} (hi : i < h.size) (hij : i ≠ j) (o : Obj) : (h.set i o).get j = h.get j := by
 rw [H.get_set trivial hi,if_neg hij]
structure Keeps (n : Nat) (h h' : H) : Prop where
 size : h.size ≤ h'.size
 get : ∀ i,i < n → h'.get i = h.get i
theorem Keeps.refl (n : Nat) (h : H) : Keeps n h h := ⟨Nat.le_refl _,fun _ _ => rfl⟩
theorem Keeps.trans {n : Nat} {a b c : H} (x : Keeps n a b) (y : Keeps n b c) : Keeps n a c := ⟨Nat.le_trans x.size y.size,fun i hi => (y.get i hi).trans (x.get i hi)⟩
theorem Keeps.mono {n k : Nat} {a b : H} (x : Keeps n a b) (h : k ≤ n) : Keeps k a b := ⟨x.size,fun i hi => x.get i (by omega)⟩
theorem Keeps.psh {n : Nat} {h : H} (hn : n ≤ h.size) (o : Obj) : Keeps n h (h.psh o) := ⟨Nat.le_succ _,fun i hi => by rw [H.get_psh,if_neg (by omega)]⟩
theorem Keeps.set {n : Nat} {h : H} {i : Nat} (hi : i < h.size) (hn : n ≤ i) (o : Obj) : Keeps n h (h.set i o) := ⟨Nat.le_refl _,fun j hj => hset_other hi (by omega) o⟩
abbrev Kp (h h' : H) : Prop := Keeps h.size h h'
theorem Keeps.trans' {n : Nat} {a b c : H} (x : Keeps n a b) (hn : n ≤ a.size) (y : Kp b c) : Keeps n a c := x.trans (y.mono (Nat.le_trans hn x.size))
theorem Kp.trans {a b c : H} (x : Kp a b) (y : Kp b c) : Kp a c := Keeps.trans' x (Nat.le_refl _) y
theorem Kp.of {h h' : H} (x : Kp h h') {i : Nat} {o : Obj} (hg : h.get i = some o) : h'.get i = some o := by rw [x.get i (H.get_lt hg)]; exact hg
structure Acc (h : H) (lo ty sz : Nat) (v : V) (xs : List (List V)) : Prop where
 shape : (xs = [] ∧ v = .slice none 0 0 false) ∨ ∃ b,v = .slice (some (b,0)) xs.length xs.length true ∧ lo ≤ b ∧ h.get b = some (.cells xs.flatten ty true false none)
 elem : ∀ x ∈ xs,x.length = sz ∧ x.all V.one = true
theorem Acc.nil (h : H) (lo ty sz : Nat) : Acc h lo ty sz (.slice none 0 0 false) [] := ⟨.inl ⟨rfl,rfl⟩,by simp⟩
theorem flatten_length {sz : Nat} : ∀ {xs : List (List V)},(∀ x ∈ xs,x.length = sz ∧ x.all V.one = true) → xs.flatten.length = xs.length * sz
 | [],_ => by simp
 | x :: xs,h => by
  rw [List.flatten_cons,List.length_append,flatten_length (fun y hy => h y (List.mem_cons_of_mem _ hy)),(h x (List.mem_cons_self)).1,List.length_cons]
  rw [Nat.add_mul]; omega
theorem flatten_one {sz : Nat} : ∀ {xs : List (List V)},(∀ x ∈ xs,x.length = sz ∧ x.all V.one = true) → xs.flatten.all V.one = true
 | [],_ => rfl
 | x :: xs,h => by
  rw [List.flatten_cons,List.all_append,(h x (List.mem_cons_self)).2,flatten_one (fun y hy => h y (List.mem_cons_of_mem _ hy))]; rfl
theorem Acc.keep {h h' : H} {lo ty sz : Nat} {v : V} {xs : List (List V)} (a : Acc h lo ty sz v xs) (hk : Kp h h') : Acc h' lo ty sz v xs := by
 refine ⟨?_,a.elem⟩
 rcases a.shape with h1 | ⟨b,h1,h2,h3⟩
 ·exact .inl h1
 ·exact .inr ⟨b,h1,h2,hk.of h3⟩
theorem Acc.lo {h : H} {lo lo' ty sz : Nat} {v : V} {xs : List (List V)} (a : Acc h lo ty sz v xs) (hl : lo' ≤ lo) : Acc h lo' ty sz v xs := by
 refine ⟨?_,a.elem⟩
 rcases a.shape with h1 | ⟨b,h1,h2,h3⟩
 ·exact .inl h1
 ·exact .inr ⟨b,h1,Nat.le_trans hl h2,h3⟩
theorem getR_all {vs : List V} {n : Nat} (h : vs.length = n) : getR vs 0 n = vs := by
 unfold getR; subst h; simp
theorem app_acc {h : H} {lo ty sz bytes : Nat} {v x : V} {xs ys : List (List V)} (a : Acc h lo ty sz v xs) (hlo : lo ≤ h.size) (hl : lenV x = some ys.length) (he : elemsV h sz ys.length x = some ys.flatten)
  (hy : ∀ y ∈ ys,y.length = sz ∧ y.all V.one = true) (hb : xs.length + ys.length ≤ 1099511627776 ∧ (2 * (xs.length + ys.length) + 1024) * bytes ≤ 281474976710656) :
  ∃ v' h',appV h ty sz bytes v x = some (.eff v' h') ∧ Acc h' lo ty sz v' (xs ++ ys) ∧ Keeps lo h h' := by
 have hall : ∀ z ∈ xs ++ ys,z.length = sz ∧ z.all V.one = true := fun z hz => (List.mem_append.1 hz).elim (a.elem z) (hy z)
 have hyo := flatten_one hy
 rcases a.shape with ⟨rfl,rfl⟩ | ⟨b,rfl,h2,h3⟩
 ·by_cases hn : ys.length = 0
  ·have : ys = [] := List.eq_nil_of_length_eq_zero hn
   subst this
   refine ⟨.slice none 0 0 false,h,?_,?_,Keeps.refl _ _⟩
   ·simp only [List.length_nil] at hl he
    unfold appV; simp [hl,he]
   ·simpa using Acc.nil h lo ty sz
  ·refine ⟨.slice (some (h.size,0)) ys.length ys.length true,h.psh (.cells ys.flatten ty true false none),?_,⟨.inr ⟨h.size,by simp,hlo,by rw [psh_same]; simp⟩,hall⟩,Keeps.psh hlo _⟩
   simp only [List.length_nil,Nat.zero_add] at hb
   have : ¬ ys.length ≤ 0 := by omega
   unfold appV
   simp only [hl,he,Nat.zero_add,this,if_false,hb,and_self,if_true,push_eq]
   simp [elemsV]
 ·have hbs := H.get_lt h3
  by_cases hn : ys.length = 0
  ·have : ys = [] := List.eq_nil_of_length_eq_zero hn
   subst this
   refine ⟨.slice (some (b,0)) xs.length xs.length true,h,?_,?_,Keeps.refl _ _⟩
   ·simp only [List.length_nil] at hl he
    unfold appV; simp [hl,he,putCells]
   ·simpa using a
  ·have hfl := flatten_length a.elem
   refine ⟨.slice (some (h.size,0)) (xs.length + ys.length) (xs.length + ys.length) true,(h.set b .dead).psh (.cells (xs.flatten ++ ys.flatten) ty true false none),?_,⟨.inr ⟨h.size,by simp,hlo,?_⟩,hall⟩,?_⟩
   ·have h1 : ¬ xs.length + ys.length ≤ xs.length := by omega
    have h4 : 0 + xs.length * sz = xs.flatten.length := by rw [hfl]; omega
    unfold appV
    simp only [hl,he,h1,if_false,hb,and_self,if_true,h3,Nat.le_refl,h4,hyo,fzFree]
    simp only [push_eq,Option.map_none]
    rw [getR_all (by rw [hfl])]
   ·have := psh_same (h.set b .dead) (.cells (xs.flatten ++ ys.flatten) ty true false none)
    rw [H.set_size] at this
    rw [this]; simp
   ·exact (Keeps.set hbs h2 _).trans (Keeps.psh (by rw [H.set_size]; exact hlo) _)
theorem ex2 {α β : Type} {a : α} {b : β} {p : α → β → Prop} : (∃ x y,(a = x ∧ b = y) ∧ p x y) ↔ p a b := ⟨fun ⟨_,_,⟨e1,e2⟩,h⟩ => by subst e1 e2; exact h,fun h => ⟨_,_,⟨rfl,rfl⟩,h⟩⟩
theorem ex3 {α β γ : Type} {a : α} {b : β} {c : γ} {p : α → β → γ → Prop} : (∃ x y z,(a = x ∧ b = y ∧ c = z) ∧ p x y z) ↔ p a b c := ⟨fun ⟨_,_,_,⟨e1,e2,e3⟩,h⟩ => by subst e1 e2 e3; exact h,fun h => ⟨_,_,_,⟨rfl,rfl,rfl⟩,h⟩⟩
inductive Fr where
 | c (c : C)
 | b (id : Nat)
 | l (b : C)
section
variable (P : Program) (E : Env) (ro : Option Nat)
noncomputable def EK : List Fr → Ex → St → Option (Ex × St)
 | [],ex,s => some (ex,s)
 | .c c :: K,.nrm,s => (EC P E ro c s).bind fun r => EK K r.1 r.2
 | .c _ :: K,ex,s => EK K ex s
 | .b id :: K,.exit id',s => if id' = id then EK K .nrm s else EK K (.exit id') s
 | .b _ :: K,ex,s => EK K ex s
 | .l b :: K,.nrm,s => (EC P E ro (.loop b) s).bind fun r => EK K r.1 r.2
 | .l _ :: K,ex,s => EK K ex s
variable (L : Nat)
abbrev Po := Ex → List V → H → Prop
def XX (K : List Fr) (ex : Ex) (T : List V) (h : H) (Q : Po) : Prop := ∃ ex' T' h',EK P E ro K ex (T,h) = some (ex',(T',h')) ∧ Q ex' T' h'
def X (K : List Fr) (ρ : Nat → V) (h : H) (Q : Po) : Prop := XX P E ro K .nrm (toL L ρ) h Q
def XQ (ex : Ex) (K : List Fr) (ρ : Nat → V) (h : H) (Q : Po) : Prop := XX P E ro K ex (toL L ρ) h Q
def XO (ops : List O) (K : List Fr) (ρ : Nat → V) (h : H) (Q : Po) : Prop := ∃ T' h',evOs P (AP P E) ops (toL L ρ) h = some (T',h') ∧ XX P E ro K .nrm T' h' Q
def XD (ops : List O) (K : List Fr) (ρ : Nat → V) (h : H) (Q : Po) : Prop := ∃ T' h',evDraw P (AP P E) ops (toL L ρ) h = some (T',h') ∧ XX P E ro K .nrm T' h' Q
def XL (b : C) (K : List Fr) (ρ : Nat → V) (h : H) (Q : Po) : Prop := X P E ro L (.l b :: K) ρ h Q
def XC (f : V) (args : List V) (dst : Option Nat) (r : List O) (K : List Fr) (ρ : Nat → V) (h : H) (Q : Po) : Prop :=
 ∃ v h',AP P E f args h = some (v,h') ∧ ∃ T' h'',evOs P (AP P E) r (putV (toL L ρ) dst v) h' = some (T',h'') ∧ XX P E ro K .nrm T' h'' Q
def XR (dst : Option Nat) (r : List O) (K : List Fr) (ρ : Nat → V) (h : H) (Q : Po) (x : Option Res) : Prop :=
 ∃ T1 h1,stepR (AP P E) dst (toL L ρ) h x = some (T1,h1) ∧ ∃ T' h',evOs P (AP P E) r T1 h1 = some (T',h') ∧ XX P E ro K .nrm T' h' Q
def XT (v : V) (a b : C) (K : List Fr) (ρ : Nat → V) (h : H) (Q : Po) : Prop :=
 match v with
 | .bool t => if t = true then X P E ro L (.c a :: K) ρ h Q else X P E ro L (.c b :: K) ρ h Q
 | _ => False
end
variable {P : Program} {E : Env} {ro : Option Nat} {L : Nat} {K : List Fr} {ρ : Nat → V} {h : H} {Q : Po}
def upo (ρ : Nat → V) : Option Nat → V → Nat → V
 | some d,v => up ρ d v
 | none,_ => ρ
theorem upo_some (ρ : Nat → V) (d : Nat) (v : V) : upo ρ (some d) v = up ρ d v := rfl
theorem upo_none (ρ : Nat → V) (v : V) : upo ρ none v = ρ := rfl
theorem putV_upo (dst : Option Nat) (v : V) : putV (toL L ρ) dst v = toL L (upo ρ dst v) := by
 cases dst with
 | none => rfl
 | some d => exact toL_set L ρ d v
theorem EK_seq (a b : C) (K : List Fr) (s : St) : EK P E ro (.c (.seq a b) :: K) .nrm s = EK P E ro (.c a :: .c b :: K) .nrm s := by
 simp only [EK,EC_seq]
 cases EC P E ro a s with
 | none => rfl
 | some r =>
  obtain ⟨ex,s'⟩ := r
  cases ex <;> simp [andThen,EK]
theorem EK_block (id : Nat) (b : C) (K : List Fr) (s : St) : EK P E ro (.c (.block id b) :: K) .nrm s = EK P E ro (.c b :: .b id :: K) .nrm s := by
 simp only [EK,EC_block]
 cases EC P E ro b s with
 | none => rfl
 | some r =>
  obtain ⟨ex,s'⟩ := r
  cases ex with
  | nrm => simp [EK]
  | ret => simp [EK]
  | exit id' => simp only [Option.bind_some,EK]; split <;> rfl
theorem EK_loop (b : C) (K : List Fr) (s : St) : EK P E ro (.l b :: K) .nrm s = EK P E ro (.c b :: .l b :: K) .nrm s := by
 simp only [EK]
 rw [EC_loop]
 cases EC P E ro b s with
 | none => rfl
 | some r =>
  obtain ⟨ex,s'⟩ := r
  cases ex <;> simp [andThen,EK]
theorem X_nil : X P E ro L [] ρ h Q = Q .nrm (toL L ρ) h := by
 simp [X,XX,EK,ex3]
theorem X_skip : X P E ro L (.c .skip :: K) ρ h Q = X P E ro L K ρ h Q := by
 simp only [X,XX,EK,EC_skip,Option.bind_some]
theorem X_region (ops : List O) : X P E ro L (.c (.region ops) :: K) ρ h Q = XO P E ro L ops K ρ h Q := by
 simp only [X,XX,EK,EC_region,XO]
 cases evOs P (AP P E) ops (toL L ρ) h with
 | none => simp
 | some r => obtain ⟨T',h'⟩ := r; simp [ex2]
theorem X_draw (ops : List O) : X P E ro L (.c (.draw ops) :: K) ρ h Q = XD P E ro L ops K ρ h Q := by
 simp only [X,XX,EK,EC_draw,XD]
 cases evDraw P (AP P E) ops (toL L ρ) h with
 | none => simp
 | some r => obtain ⟨T',h'⟩ := r; simp [ex2]
theorem X_seq (a b : C) : X P E ro L (.c (.seq a b) :: K) ρ h Q = X P E ro L (.c a :: .c b :: K) ρ h Q := by
 simp only [X,XX,EK_seq]
theorem X_block (id : Nat) (b : C) : X P E ro L (.c (.block id b) :: K) ρ h Q = X P E ro L (.c b :: .b id :: K) ρ h Q := by
 simp only [X,XX,EK_block]
theorem X_loop (b : C) : X P E ro L (.c (.loop b) :: K) ρ h Q = XL P E ro L b K ρ h Q := rfl
theorem X_l (b : C) : X P E ro L (.l b :: K) ρ h Q = XL P E ro L b K ρ h Q := rfl
theorem XL_unroll (b : C) : XL P E ro L b K ρ h Q = X P E ro L (.c b :: .l b :: K) ρ h Q := by
 simp only [XL,X,XX,EK_loop]
theorem X_b (id : Nat) : X P E ro L (.b id :: K) ρ h Q = X P E ro L K ρ h Q := by
 simp only [X,XX,EK]
theorem X_exit (id : Nat) : X P E ro L (.c (.exit id) :: K) ρ h Q = XQ P E ro L (.exit id) K ρ h Q := by
 simp only [X,XX,EK,EC_exit,Option.bind_some,XQ]
theorem XQ_ret_all : ∀ (K : List Fr) (T : List V) (h : H) (Q : Po),XX P E ro K .ret T h Q = Q .ret T h
 | [],T,h,Q => by simp [XX,EK,ex3]
 | .c _ :: K,T,h,Q => by simpa only [XX,EK] using XQ_ret_all K T h Q
 | .b _ :: K,T,h,Q => by simpa only [XX,EK] using XQ_ret_all K T h Q
 | .l _ :: K,T,h,Q => by simpa only [XX,EK] using XQ_ret_all K T h Q
theorem X_ret : X P E ro L (.c .ret :: K) ρ h Q = Q .ret (toL L ρ) h := by
 have : X P E ro L (.c .ret :: K) ρ h Q = XX P E ro K .ret (toL L ρ) h Q := by simp only [X,XX,EK,EC_ret,Option.bind_some]
 rw [this,XQ_ret_all]
theorem XQ_nil (id : Nat) : XQ P E ro L (.exit id) [] ρ h Q = Q (.exit id) (toL L ρ) h := by simp [XQ,XX,EK,ex3]
theorem XQ_c (id : Nat) (c : C) : XQ P E ro L (.exit id) (.c c :: K) ρ h Q = XQ P E ro L (.exit id) K ρ h Q := by simp only [XQ,XX,EK]
theorem XQ_l (id : Nat) (c : C) : XQ P E ro L (.exit id) (.l c :: K) ρ h Q = XQ P E ro L (.exit id) K ρ h Q := by simp only [XQ,XX,EK]
theorem XQ_b (id id' : Nat) : XQ P E ro L (.exit id) (.b id' :: K) ρ h Q = if id = id' then X P E ro L K ρ h Q else XQ P E ro L (.exit id) K ρ h Q := by
 simp only [XQ,X,XX,EK]
 split <;> rfl
theorem X_cond (c : A) (a b : C) : X P E ro L (.c (.cond c a b) :: K) ρ h Q = (match c.ev (toL L ρ) with
  | some v => XT P E ro L v a b K ρ h Q
  | none => False) := by
 simp only [X,XX,EK,EC_cond]
 cases c.ev (toL L ρ) with
 | none => simp
 | some v =>
  cases v with
  | bool t => cases t <;> simp [XT,X,XX,EK]
  | _ => simp [XT]
theorem XT_bool (t : Bool) (a b : C) : XT P E ro L (.bool t) a b K ρ h Q = if t = true then X P E ro L (.c a :: K) ρ h Q else X P E ro L (.c b :: K) ρ h Q := rfl
theorem XO_nil : XO P E ro L [] K ρ h Q = X P E ro L K ρ h Q := by simp [XO,evOs_nil,X,ex2]
theorem XO_cons (dst : Option Nat) (k : AM.K) (g : Option (Nat × Bool)) (pre : Nat) (ns : List Nat) (r : List O) (S : List Fr) :
  XO P E ro L (⟨dst,k,g,pre,ns⟩ :: r) S ρ h Q = if wantV (toL L ρ) g then XR P E ro L dst r S ρ h Q (evK P (toL L ρ) h k) else XO P E ro L r S (upo ρ dst undefV) h Q := by
 simp only [XO,evOs_cons,evO_step,XR]
 split
 ·cases stepR (AP P E) dst (toL L ρ) h (evK P (toL L ρ) h k) with
  | none => simp
  | some x => obtain ⟨T1,h1⟩ := x; simp [ex2]
 ·simp [putV_upo]
theorem XR_pur (dst : Option Nat) (r : List O) (v : V) : XR P E ro L dst r K ρ h Q (some (.pur v)) = XO P E ro L r K (upo ρ dst v) h Q := by
 simp [XR,stepR,putV_upo,XO,ex2]
theorem XR_rd (dst : Option Nat) (r : List O) (v : V) : XR P E ro L dst r K ρ h Q (some (.rd v)) = XO P E ro L r K (upo ρ dst v) h Q := by
 simp [XR,stepR,putV_upo,XO,ex2]
theorem XR_eff (dst : Option Nat) (r : List O) (v : V) (h' : H) : XR P E ro L dst r K ρ h Q (some (.eff v h')) = XO P E ro L r K (upo ρ dst v) h' Q := by
 simp [XR,stepR,putV_upo,XO,ex2]
theorem XR_call (dst : Option Nat) (r : List O) (f : V) (args : List V) : XR P E ro L dst r K ρ h Q (some (.call f args)) = XC P E ro L f args dst r K ρ h Q := by
 simp only [XR,stepR,XC]
 cases AP P E f args h with
 | none => simp
 | some x => obtain ⟨v,h'⟩ := x; simp [ex2]
theorem XC_some {f : V} {args : List V} {v : V} {h' : H} (e : AP P E f args h = some (v,h')) (dst : Option Nat) (r : List O) : XC P E ro L f args dst r K ρ h Q = XO P E ro L r K (upo ρ dst v) h' Q := by
 simp [XC,e,putV_upo,XO,ex2]
theorem XD_still {ops : List O} (hs : ops.all (fun o => o.op.still) = true) : XD P E ro L ops K ρ h Q = XO P E ro L ops K ρ h Q := by
 simp only [XD,XO,evDraw_still hs]
def Sp (P : Program) (E : Env) (f : V) (args : List V) (h : H) (Q : V → H → Prop) : Prop := ∃ v h',AP P E f args h = some (v,h') ∧ Q v h'
theorem Sp.mono {f : V} {args : List V} {Q Q' : V → H → Prop} (s : Sp P E f args h Q) (hq : ∀ v h',Q v h' → Q' v h') : Sp P E f args h Q' := by
 obtain ⟨v,h',e,q⟩ := s; exact ⟨v,h',e,hq v h' q⟩
theorem XC_of {f : V} {args : List V} {R : V → H → Prop} (s : Sp P E f args h R) {dst : Option Nat} {r : List O} (hk : ∀ v h',R v h' → XO P E ro L r K (upo ρ dst v) h' Q) : XC P E ro L f args dst r K ρ h Q := by
 obtain ⟨v,h',e,q⟩ := s
 rw [XC_some e]; exact hk v h' q
def Fin (rs : List RV) (Q : V → H → Prop) : Po := fun ex T h => (match ex with | .exit _ => False | _ => True) ∧ match resVs T h rs with
 | some vs => Q (oneOr vs) h
 | none => False
theorem Fin_nrm (rs : List RV) (Q : V → H → Prop) (T : List V) (h : H) : Fin rs Q .nrm T h = (match resVs T h rs with
 | some vs => Q (oneOr vs) h
 | none => False) := by simp [Fin]
theorem Fin_ret (rs : List RV) (Q : V → H → Prop) (T : List V) (h : H) : Fin rs Q .ret T h = (match resVs T h rs with
 | some vs => Q (oneOr vs) h
 | none => False) := by simp [Fin]
theorem resVs_nil (T : List V) (h : H) : resVs T h [] = some [] := rfl
theorem resVs_t {i : Nat} (hi : i < L) (r : List RV) : resVs (toL L ρ) h (.t i :: r) = (resVs (toL L ρ) h r).map (ρ i :: ·) := by
 simp only [resVs,resV,toL_get hi]
 cases resVs (toL L ρ) h r <;> rfl
theorem resVs_c {a n : Nat} {g : Bool} (ha : a < L) (r : List RV) {i o : Nat} (hp : ρ a = .ptr (some (i,o))) : resVs (toL L ρ) h (.c a n g :: r) = (match (match h.get i with
   | some (.cells vs _ _ _ _) => if g then (if o + n ≤ vs.length then some (.agg (getR vs o n)) else none) else vs[o]?
   | _ => none),resVs (toL L ρ) h r with
  | some v,some vs => some (v :: vs)
  | _,_ => none) := by
 simp only [resVs,resV,toL_get ha,hp]
 rfl
theorem oneOr_one (v : V) : oneOr [v] = v := rfl
theorem oneOr_two (u v : V) (r : List V) : oneOr (u :: v :: r) = .tup (u :: v :: r) := rfl
theorem Sp_fn {f : Nat} {fs cs args : List V} {fn : Fn} {Q : V → H → Prop} (hf : E.fns f = some fn) (hp : E.prim f = none) (hl : (fs ++ args ++ cs).length ≤ fn.ntmps)
  (hx : X P E none fn.ntmps [.c fn.body] (argF (fs ++ args ++ cs)) h (Fin fn.results Q)) : Sp P E (.func f fs cs) args h Q := by
 obtain ⟨ex,T',h',e,q1,q2⟩ := hx
 simp only [EK] at e
 unfold Sp
 rw [AP_fn hp hf]
 unfold FN
 rw [if_pos hl,toL_args hl]
 cases hc : EC P E none fn.body (toL fn.ntmps (argF (fs ++ args ++ cs)),h) with
 | none => rw [hc] at e; simp at e
 | some r =>
  obtain ⟨ex1,T1,h1⟩ := r
  simp only [hc,Option.bind_some,Option.some.injEq,Prod.mk.injEq] at e
  obtain ⟨rfl,rfl,rfl⟩ := e
  cases hr : resVs T1 h1 fn.results with
  | none => simp [hr] at q2
  | some vs =>
   simp only [hr] at q2
   cases ex1 with
   | nrm => exact ⟨oneOr vs,h1,by simp [hr],q2⟩
   | ret => exact ⟨oneOr vs,h1,by simp [hr],q2⟩
   | exit id => exact q1.elim
theorem argF_zero (a : V) (r : List V) : argF (a :: r) 0 = a := rfl
theorem argF_succ (a : V) (r : List V) (i : Nat) : argF (a :: r) (i + 1) = argF r i := rfl
end Go.AM
namespace Go.AM
inductive Sl (h : H) (sz : Nat) : V → List (List V) → Prop where
 | nil (a : Option (Nat × Nat)) (cap : Nat) (opn : Bool) : Sl h sz (.slice a 0 cap opn) []
 | at (b o cap : Nat) (opn : Bool) (xs : List (List V)) (vs : List V) (ty : Nat) (op ro : Bool) (fz : Option Nat) (hg : h.get b = some (.cells vs ty op ro fz))
   (hl : o + xs.length * sz ≤ vs.length) (he : ∀ k x,xs[k]? = some x → getR vs (o + k * sz) sz = x) : Sl h sz (.slice (some (b,o)) xs.length cap opn) xs
theorem Sl.keep {h h' : H} {sz : Nat} {v : V} {xs : List (List V)} (s : Sl h sz v xs) (hk : Kp h h') : Sl h' sz v xs := by
 cases s with
 | nil a cap opn => exact .nil a cap opn
 | «at» b o cap opn xs vs ty op ro fz hg hl he => exact .at b o cap opn xs vs ty op ro fz (hk.of hg) hl he
theorem Sl.len {h : H} {sz : Nat} {v : V} {xs : List (List V)} (s : Sl h sz v xs) : ∃ a cap opn,v = .slice a xs.length cap opn := by
 cases s with
 | nil a cap opn => exact ⟨_,_,_,rfl⟩
 | «at» b o cap opn xs vs ty op ro fz hg hl he => exact ⟨_,_,_,rfl⟩
theorem Sl.get {h : H} {sz : Nat} {v : V} {xs : List (List V)} (s : Sl h sz v xs) {k : Nat} {x : List V} (hk : xs[k]? = some x) :
  ∃ b o cap opn vs ty op ro fz,v = .slice (some (b,o)) xs.length cap opn ∧ h.get b = some (.cells vs ty op ro fz) ∧ o + k * sz + sz ≤ vs.length ∧ getR vs (o + k * sz) sz = x := by
 cases s with
 | nil a cap opn => simp at hk
 | «at» b o cap opn xs vs ty op ro fz hg hl he =>
  have hlt : k < xs.length := (List.getElem?_eq_some_iff.1 hk).1
  refine ⟨b,o,cap,opn,vs,ty,op,ro,fz,rfl,hg,?_,he k x hk⟩
  have : (k + 1) * sz ≤ xs.length * sz := Nat.mul_le_mul_right sz hlt
  rw [Nat.add_mul] at this; omega
theorem getR_one {vs : List V} {o : Nat} {x : V} (h : getR vs o 1 = [x]) : vs[o]? = some x := by
 unfold getR at h
 have : (vs.drop o)[0]? = some x := by
  have := congrArg (·[0]?) h
  simpa using this
 simpa using this
theorem wrap_nat {n : Nat} (h : n < 9223372036854775808) : IntKind.i64.wrap (n : Int) = (n : Int) := by
 have : IntKind.i64.wrap (n : Int) = (((n : Int) + 9223372036854775808) % 18446744073709551616 - 9223372036854775808) := by
  simp [IntKind.wrap,IntKind.signed,IntKind.bits,IntKind.max]
  omega
 rw [this]; omega
end Go.AM
