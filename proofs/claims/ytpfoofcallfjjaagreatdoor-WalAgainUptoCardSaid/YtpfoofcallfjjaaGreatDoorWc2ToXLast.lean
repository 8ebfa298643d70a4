/- strconv.toError by the kit's contract; the start with tables and one sentinel. -/
import Derived.Test.YtpfoofcallfjjaaGreatDoorWcCodeToWc1
set_option linter.unusedSimpArgs false
set_option linter.unusedVariables false
namespace Go.AM.Wc
open Go.AM
variable {P : Program} {E : Env} {T : H → Prop}
def Bs (cs : List V) : Prop := ∀ x ∈ cs, ∃ n,x = .int .u8 n
theorem Bs.one {cs : List V} (h : Bs cs) : cs.all V.one = true := List.all_eq_true.2 fun x hx => by obtain ⟨n,rfl⟩ := h x hx; rfl
theorem Bs.app {cs ds : List V} (h : Bs cs) (k : Bs ds) : Bs (cs ++ ds) := fun x hx => (List.mem_append.1 hx).elim (h x) (k x)
theorem Bs.take {cs : List V} (h : Bs cs) (n : Nat) : Bs (cs.take n) := fun x hx => h x (List.mem_of_mem_take hx)
def Rb (h : H) (v : V) (n : Nat) : Prop := ∃ a c o cs,v = .slice a n c o ∧ elemsV h 1 n v = some cs ∧ cs.length = n ∧ Bs cs
def Nb (h h' : H) (r : V) (n : Nat) : Prop := ∃ b cs,r = vl (some b) n ∧ cs.length = n ∧ Bs cs ∧ h.size ≤ b ∧ h'.get b = some (.cells cs 5 true false none) ∧ Kp h h'
theorem elems_kp {h h' : H} (k : Kp h h') {sz n : Nat} {v : V} {cs : List V} (he : elemsV h sz n v = some cs) : elemsV h' sz n v = some cs := by
 cases v with
 | slice a len c o =>
  cases a with
  | none => exact he
  | some p =>
   obtain ⟨i,q⟩ := p
   simp only [elemsV] at he ⊢
   split at he
   ·rename_i h0; rw [if_pos h0]; exact he
   ·rename_i h0
    rw [if_neg h0]
    cases hg : h.get i with
    | none => rw [hg] at he; simp at he
    | some ob => rw [hg] at he; rw [k.of hg]; exact he
 | str s => exact he
 | _ => simp [elemsV] at he
theorem Rb.kp {h h' : H} {v : V} {n : Nat} (a : Rb h v n) (k : Kp h h') : Rb h' v n := by
 obtain ⟨p,c,o,cs,h1,h2,h3⟩ := a
 exact ⟨p,c,o,cs,h1,elems_kp k h2,h3⟩
theorem Rb.len {h : H} {v : V} {n : Nat} (a : Rb h v n) : ∃ p c o,v = .slice p n c o := by
 obtain ⟨p,c,o,cs,h1,_⟩ := a
 exact ⟨p,c,o,h1⟩
theorem vl_elems {h : H} {b : Nat} {cs : List V} {ty : Nat} {op ro : Bool} {fz : Option Nat} (hg : h.get b = some (.cells cs ty op ro fz)) : elemsV h 1 cs.length (vl (some b) cs.length) = some cs := by
 simp only [vl,elemsV]
 by_cases h0 : cs.length * 1 = 0
 ·rw [if_pos h0]
  have : cs = [] := List.eq_nil_of_length_eq_zero (by omega)
  rw [this]
 ·rw [if_neg h0,hg]
  simp [getR_whole']
theorem Rb.of {h : H} {b : Nat} {cs : List V} {ty : Nat} {op ro : Bool} {fz : Option Nat} (hg : h.get b = some (.cells cs ty op ro fz)) (hb : Bs cs) : Rb h (vl (some b) cs.length) cs.length := ⟨_,_,_,cs,rfl,vl_elems hg,rfl,hb⟩
theorem Nb.rb {h h' : H} {r : V} {n : Nat} (a : Nb h h' r n) : Rb h' r n := by
 obtain ⟨b,cs,rfl,rfl,h2,h3,h4,h5⟩ := a
 exact Rb.of h4 h2
theorem Nb.kp {h h' : H} {r : V} {n : Nat} (a : Nb h h' r n) : Kp h h' := by obtain ⟨b,cs,_,_,_,_,_,h5⟩ := a; exact h5
theorem Rb.at {h : H} {v : V} {n k : Nat} (a : Rb h v n) (hk : k < n) : ∃ b o c q cs ty op ro fz m,v = .slice (some (b,o)) n c q ∧ h.get b = some (.cells cs ty op ro fz) ∧ cs[o + k]? = some (.int .u8 m) := by
 obtain ⟨p,c,q,cs,rfl,h2,h3,h4⟩ := a
 cases p with
 | none => simp only [elemsV] at h2; rw [if_neg (by omega)] at h2; cases h2
 | some p =>
  obtain ⟨i,o⟩ := p
  simp only [elemsV] at h2
  rw [if_neg (by omega)] at h2
  split at h2
  ·rename_i vs ty op ro fz hg
   split at h2
   ·rename_i hl
    cases h2
    have hx : (getR vs o (n * 1))[k]? = vs[o + k]? := by
     unfold getR
     rw [List.getElem?_take_of_lt (by omega),List.getElem?_drop]
    have hkl : k < (getR vs o (n * 1)).length := by rw [h3]; exact hk
    obtain ⟨m,hm⟩ := h4 _ (List.getElem_mem hkl)
    refine ⟨i,o,c,q,vs,ty,op,ro,fz,m,rfl,hg,?_⟩
    rw [← hx,List.getElem?_eq_getElem hkl,hm]
   ·cases h2
  ·cases h2
theorem clone42 (F : Fw P E T) {h : H} {v : V} {n : Nat} (hv : Rb h v n) (hn : 1 ≤ n) (hm : n ≤ 1048576) : Sp P E (.func 42 [] []) [v] h fun r h' => Nb h h' r n := by
 have hv0 := hv
 obtain ⟨p,c,q,cs,rfl,he,hl,hb⟩ := hv
 have hp : ∃ a,p = some a := by
  cases p with
  | none => simp only [elemsV] at he; rw [if_neg (by omega)] at he; cases he
  | some a => exact ⟨a,rfl⟩
 obtain ⟨a,rfl⟩ := hp
 have k1 : Kp h (h.psh (.cells [] 5 false false none)) := Keeps.psh (Nat.le_refl _) _
 have he1 := elems_kp k1 he
 have s1 := psh_size h (.cells [] 5 false false none)
 have hap : appV (h.psh (.cells [] 5 false false none)) 5 1 1 (.slice (some (h.size,0)) 0 0 false) (.slice (some a) n c q) = some (.eff (.slice (some (h.size + 1,0)) n n true) ((h.psh (.cells [] 5 false false none)).psh (.cells cs 5 true false none))) := by
  unfold appV
  have c1 : ¬ n ≤ 0 := by omega
  have c2 : n ≤ 1099511627776 ∧ (2 * n + 1024) * 1 ≤ 281474976710656 := by omega
  have c3 : elemsV (h.psh (.cells [] 5 false false none)) 1 0 (.slice (some (h.size,0)) 0 0 false) = some [] := by simp [elemsV]
  simp only [lenV,he1,Nat.zero_add,c1,if_false,c2,and_self,if_true,c3,push_eq,s1,List.nil_append]
 have c4 : eqV h .sl (.slice (some a) n c q) (.slice none 0 0 false) = some false := by simp [eqV]
 have g2 := psh_same (h.psh (.cells [] 5 false false none)) (.cells cs 5 true false none)
 rw [s1] at g2
 have k2 : Kp (h.psh (.cells [] 5 false false none)) ((h.psh (.cells [] 5 false false none)).psh (.cells cs 5 true false none)) := Keeps.psh (Nat.le_refl _) _
 refine Sp_fn F.f42 F.p42 (by simp [fn42]) ?_
 simp only [GR,evK,binV,intOp,strOp,shOp,unV,Nat.reduceLT,Nat.reduceEqDiff,Nat.reduceAdd,↓reduceIte,Nat.reduceLeDiff,reduceCtorEq,fn42,c42,r42_0,c4,r42_1,hap]
 exact ⟨h.size + 1,cs,rfl,hl,hb,by omega,g2,Kp.trans k1 k2⟩
end Go.AM.Wc
namespace Go.AM.Wc
open Go.AM
variable {P : Program} {E : Env} {T : H → Prop}
theorem one_elems (h : H) (x : V) : elemsV (h.psh (.cells [x] 5 false false none)) 1 1 (.slice (some (h.size,0)) 1 1 false) = some [x] := by
 simp only [elemsV]
 rw [if_neg (by omega),psh_same]
 simp [getR]
end Go.AM.Wc
namespace Go.AM.Wc
open Go.AM
variable {P : Program} {E : Env} {T : H → Prop}
theorem grow141 (F : Fw P E T) {h : H} {n : Nat} (hn : 1 ≤ n) (hm : n ≤ 4194304) : Sp P E (.func 141 [] []) [.slice none 0 0 false,.int .i64 n] h fun r h' => r = .slice (some (h.size,0)) 0 n true ∧ h' = h.psh (.cells (List.replicate n (V.int .u8 0)) 5 true false none) := by
 have c1 : ¬ (n : Int) < 0 := by omega
 have c2 : IntKind.i64.wrap ((n : Int) - IntKind.i64.wrap (((0 : Nat) : Int) - ((0 : Nat) : Int))) = n := by
  have h0 : IntKind.i64.wrap (((0 : Nat) : Int) - ((0 : Nat) : Int)) = 0 := by decide
  rw [h0,Int.sub_zero]; exact wrap_nat (by omega)
 have c3 : (n : Int) > 0 := by omega
 have b1 : boundsV 0 0 none (some (.int .i64 ((0 : Nat) : Int))) none = some (0,0,0) := by decide
 have b2 : boundsV n n none (some (.int .i64 ((0 : Nat) : Int))) none = some (0,0,n) := by
  have := bounds_hi (len := n) (cap := n) (k := .i64) (a := ((0 : Nat) : Int)) (by omega)
  simpa using this
 have c4 : (0 : Int) ≤ n ∧ (n : Int) ≤ 1099511627776 ∧ n * 1 ≤ 281474976710656 := by omega
 have c5 : ¬ n ≤ 0 := by omega
 have c6 : n ≤ 1099511627776 ∧ (2 * n + 1024) * 1 ≤ 281474976710656 := by omega
 have e0 : ∀ q : Bool,elemsV h 1 0 (.slice none 0 0 q) = some [] := fun q => by simp [elemsV]
 have hf : (List.replicate n [V.int .u8 0]).flatten = List.replicate n (V.int .u8 0) := by
  have := single_flat (List.replicate n (V.int .u8 0))
  rwa [List.map_replicate] at this
 refine Sp_fn F.f141 F.p141 (by simp [fn141]) ?_
 simp only [GR,evK,binV,intOp,strOp,shOp,unV,Nat.reduceLT,Nat.reduceEqDiff,Nat.reduceAdd,↓reduceIte,Nat.reduceLeDiff,reduceCtorEq,fn141,c141,r141_0,c1,r141_2,c2,r141_3,c3,r141_4,b1,Option.map_none,Nat.sub_zero,Nat.sub_self,Option.isNone_none,Bool.and_true,Int.toNat_natCast,c4,c5,c6,e0,hf,b2,r141_5,Nat.zero_mul,Option.map_some]
end Go.AM.Wc
namespace Go.AM.Wc
open Go.AM
variable {P : Program} {E : Env} {T : H → Prop}
theorem put_at {h : H} {b o : Nat} {vs ws : List V} {ty : Nat} {op : Bool} (hg : h.get b = some (.cells vs ty op false none)) (hw : o + ws.length ≤ vs.length) (h1 : ws.all V.one = true) (hne : ws.isEmpty = false) :
  putCells h b o ws = some (h.set b (.cells (setR vs o ws) ty op false none)) := by
 unfold putCells
 simp only [hne,Bool.false_eq_true,if_false,hg,hw,h1,fzFree,and_self,if_true]
theorem setR_len {vs ws : List V} {o : Nat} (h : o + ws.length ≤ vs.length) : (setR vs o ws).length = vs.length := by
 unfold setR; simp; omega
theorem Bs.set {vs ws : List V} (a : Bs vs) (b : Bs ws) (o : Nat) : Bs (setR vs o ws) := by
 intro x hx
 unfold setR at hx
 simp only [List.mem_append] at hx
 rcases hx with (hx | hx) | hx
 ·exact a x (List.mem_of_mem_take hx)
 ·exact b x hx
 ·exact a x (List.mem_of_mem_drop hx)
def tot (vs : List (V × Nat)) : Nat := (vs.map (·.2)).sum
theorem tot_take {vs : List (V × Nat)} {k : Nat} (hk : k < vs.length) : tot (vs.take (k + 1)) = tot (vs.take k) + vs[k].2 := by
 unfold tot
 rw [List.take_succ_eq_append_getElem hk,List.map_append,List.sum_append]; simp
theorem tot_le (vs : List (V × Nat)) (k : Nat) : tot (vs.take k) ≤ tot vs := by
 have : tot vs = tot (vs.take k) + tot (vs.drop k) := by
  unfold tot
  rw [← List.sum_append,← List.map_append,List.take_append_drop]
 omega
end Go.AM.Wc
namespace Go.AM
variable {P : Program} {ap : Ap}
def nexts (T : List V) (h : H) (x : A) : Option (List (V × H)) := match x.ev T with
 | some (.ptr (some (r,0))) => match h.get r with
  | some (.mapIter (some m) since seen last) => match h.get m with
   | some (.map es clock) =>
    if !seen.isEmpty && !es.isEmpty && es.all (fun e => decide (e.2.2 ≥ last)) then none else
    let left := es.filter fun e => !seen.contains e.2.2
    let old := left.filter fun e => decide (e.2.2 < since)
    let new := left.filter fun e => decide (e.2.2 ≥ since)
    if old.isEmpty || !new.isEmpty then none else
    some (old.map fun e => (.tup [.bool true,e.1,e.2.1],h.set r (.mapIter (some m) since (seen ++ [e.2.2]) clock)))
   | _ => none
  | _ => none
 | _ => none
theorem next_any {m : Mp} {h : H} {w : World} {T : List V} {a : Act} {o : Oper} (cx : Cx P m h w T a) {x : Operand} (ho : o.op = .next x false) {y : A} (h1 : cA P x = some y) {l : List (V × H)} (hl : nexts T h y = some l) :
  ∃ v h',(v,h') ∈ l ∧ ∃ m' w' z,HR P m' h' w' ∧ Ext m h w m' h' w' ∧ VR m' v z ∧ (execOp a.eval o).run P w = .ok (.value z) w' := by
 have he : execOp a.eval o = (do pure (Next.value (← Instr.next (a.eval x) false o.type))) := by simp [execOp,ho]
 unfold nexts at hl
 split at hl
 ·rename_i i e1
  obtain ⟨R,sh,ex,hm,hx⟩ := cx.av h1 e1
  split at hl
  ·rename_i mi since seen st hg
   obtain ⟨q,rfl,g1,b,sh2,e2,hmi,rfl⟩ := cx.hr.iter hg hm
   have hob : (getObj R).run P w = .ok (.mapIter (some b) since seen.toArray st) w := run_getObj g1 (by intros; simp)
   split at hl
   ·rename_i es cl hg2
    obtain ⟨es',g2,g3⟩ := cx.hr.map hg2 hmi
    have hobm : (getObj b).run P w = .ok (.map es' cl) w := run_getObj g2 (by intros; simp)
    split at hl
    ·cases hl
    ·rename_i hcond
     have hl1 := g3.filter (f := fun e => !seen.contains e.2.2) (g := fun y => !seen.toArray.contains y.born) (fun e y hb => by simp [hb])
     have ho1 := hl1.filter (f := fun e => decide (e.2.2 < since)) (g := fun y => decide (y.born < since)) (fun e y hb => by simp [hb])
     have hn1 := hl1.filter (f := fun e => decide (e.2.2 ≥ since)) (g := fun y => decide (y.born ≥ since)) (fun e y hb => by simp [hb])
     have hco : (!seen.toArray.isEmpty && !es'.isEmpty && es'.all (fun y => decide (y.born ≥ st))) = false := by
      have e1 : seen.toArray.isEmpty = seen.isEmpty := by simp
      have e2 : es'.isEmpty = es.isEmpty := by
       have hlen : es'.size = es.length := by simpa using g3.length
       cases es <;> simp [Array.isEmpty,hlen]
      have e3 : es'.all (fun y => decide (y.born ≥ st)) = es.all (fun e => decide (e.2.2 ≥ st)) := by
       rw [← Array.all_toList]; exact g3.all (fun e y hb => by simp [hb])
      rw [e1,e2,e3]; simpa using hcond
     simp only at hl
     split at hl
     ·cases hl
     ·rename_i hne
      cases hl
      simp only [Bool.or_eq_true,Bool.not_eq_true',not_or,Bool.not_eq_false] at hne
      obtain ⟨hold,hnew⟩ := hne
      generalize hO : (es'.filter fun y => !seen.toArray.contains y.born).filter (fun y => decide (y.born < since)) = L
      have hLl : L.toList = ((es'.toList.filter fun y => !seen.toArray.contains y.born).filter (fun y => decide (y.born < since))) := by
       rw [← hO,Array.toList_filter,Array.toList_filter]
      have a2 : (es'.filter fun y => !seen.toArray.contains y.born).filter (fun y => decide (y.born ≥ since)) = #[] := by
       apply Array.ext'
       rw [Array.toList_filter,Array.toList_filter]
       have := List.isEmpty_iff.1 hnew
       rw [this] at hn1
       exact hn1
      rw [← hLl] at ho1
      have hlen := ho1.length
      have hL0 : L.size ≠ 0 := by
       rw [← Array.length_toList,hlen]
       intro h0
       exact hold (List.isEmpty_iff.2 (List.length_eq_zero_iff.1 h0))
      have hch : ∃ (j : Nat) (w1 : World),j < L.size ∧ (w1 = w ∨ w1 = w.drew) ∧ (choose (Question.mapNext L.size)).run P w = .ok j w1 := by
       by_cases hf : L.size ≤ 1
       ·exact ⟨0,w,by omega,Or.inl rfl,by simp [choose,Sem.run,Question.forced,hf]⟩
       ·exact ⟨_,w.drew,Nat.mod_lt _ (by omega),Or.inr rfl,by
         simp only [choose,Sem.run,Question.forced,decide_eq_true_eq,hf,if_false,Question.cut]
         rfl⟩
      obtain ⟨j,w1,hj,hal,hrun⟩ := hch
      have get : ∀ {os : List (V × V × Nat)} {ys : List MapEntry} (j : Nat),ER m os ys → j < ys.length → ∃ e y,os[j]? = some e ∧ ys[j]? = some y ∧ VR m e.1 y.key ∧ VR m e.2.1 y.val ∧ y.born = e.2.2 := by
       intro os
       induction os with
       | nil => intro ys j hE hj; cases hE; simp at hj
       | cons e0 os ih =>
        intro ys j hE hj
        obtain ⟨y,ys',z1,z2,z3,z4,rfl⟩ := hE
        cases j with
        | zero => exact ⟨e0,y,rfl,rfl,z1,z2,z3⟩
        | succ j => exact ih j z4 (by simpa using hj)
      obtain ⟨e,y,y1,y2,y3,y4,y5⟩ := get j ho1 (by rw [Array.length_toList]; exact hj)
      rw [Array.getElem?_toList] at y2
      have hheap : w1.heap = w.heap := by rcases hal with rfl | rfl <;> rfl
      have hg1' : w1.heap[R]? = some (.mapIter (some b) since seen.toArray st) := by rw [hheap]; exact g1
      have hr1 : HR P m h w1 := by
       rcases hal with rfl | rfl
       ·exact cx.hr
       ·exact ⟨cx.hr.ok,cx.hr.dom,cx.hr.glob,cx.hr.blk,cx.hr.obj,cx.hr.inj⟩
      have hx1 : Ext m h w m h w1 := by
       rcases hal with rfl | rfl
       ·exact Ext.refl _ _ _
       ·exact ⟨Sub.refl m,Nat.le_refl _,Nat.le_refl _,fun _ _ _ => rfl,fun _ _ h => h,rfl,rfl,rfl,fun _ _ h => h⟩
      obtain ⟨k1,k2⟩ := hr1.set (o' := .mapIter (some mi) since (seen ++ [e.2.2]) cl) hg rfl hm (Upd.setObj (ob' := .mapIter (some b) since (seen.toArray.push y.born) cl) hg1')
       ⟨rfl,some b,by rw [y5]; simp,b,sh2,e2,hmi,rfl⟩
      refine ⟨_,_,List.mem_map.2 ⟨e,List.mem_of_getElem? y1,rfl⟩,m,_,.tuple #[.bool true,y.key,y.val],k1,hx1.trans k2,⟨[_,_,_],.cons rfl (.cons y3 (.one y4)),rfl⟩,?_⟩
      rw [he,hx]
      have hso : ∀ ob,(setObj R ob).run P w1 = .ok () { w1 with heap := w1.heap.setIfInBounds R ob } := fun ob => run_setObj hg1' (by intros; simp)
      have hemp : L.isEmpty = false := by simp [Array.isEmpty,hL0]
      simp only [Instr.next,Nat.add_zero,Sem.run_bind,hob,hobm,Result.andThen_ok,hco,Bool.false_eq_true,if_false,hO,a2,hemp,Array.append_empty,Array.empty_append,Array.size_map,hrun,Array.getElem?_map,y2,Option.map_some,hso,Sem.run_pure]
   ·cases hl
  ·cases hl
 ·cases hl
end Go.AM
namespace Go.AM
variable {P : Program} {ap : Ap}
theorem cBuiltin_next {b : Builtin} {xs : List Operand} {ts : List TypeId} {s : Bool} {x : A} (h : cBuiltin P b xs ts = some (.next s x)) : False := by
 unfold cBuiltin at h
 repeat' split at h
 all_goals try (cases h; done)
 all_goals simp only [Option.map_eq_some_iff] at h
 all_goals try (obtain ⟨y,h1,h2⟩ := h; cases h2; done)
theorem cK_next {op : Op} {s : Bool} {x : A} (h : cK P op = some (.next s x)) : ∃ y,op = .next y s ∧ cA P y = some x := by
 cases op
 all_goals simp only [cK,Option.map_eq_some_iff] at h
 all_goals try (obtain ⟨y,h1,h2⟩ := h; cases h2; exact ⟨_,rfl,h1⟩)
 all_goals try (obtain ⟨y,h1,h2⟩ := h; cases h2; done)
 all_goals try (cases h; done)
 all_goals repeat' split at h
 all_goals try (obtain ⟨y,h1,h2⟩ := h; cases h2; done)
 all_goals try (cases h; done)
 all_goals try (exact (cBuiltin_next h).elim)
 all_goals try simp only [Option.map_eq_some_iff] at h
 all_goals try (obtain ⟨y,h1,h2⟩ := h; cases h2; done)
 all_goals try (rename_i hq; cases hq; done)
 all_goals try contradiction
end Go.AM
namespace Go.AM
variable {P : Program} {E : Env}
inductive NC (P : Program) (E : Env) (ro : Option Nat) : C → St → (Ex → St → Prop) → Prop
 | det {c : C} {s s' : St} {ex : Ex} {R : Ex → St → Prop} : (∀ b,c ≠ .loop b) → EC P E ro c s = some (ex,s') → R ex s' → NC P E ro c s R
 | seq {a b : C} {s : St} {M R : Ex → St → Prop} : NC P E ro a s M → (∀ s',M .nrm s' → NC P E ro b s' R) → (∀ ex s',ex ≠ .nrm → M ex s' → R ex s') → NC P E ro (.seq a b) s R
 | condT {c : A} {a b : C} {s : St} {R : Ex → St → Prop} : c.ev s.1 = some (.bool true) → NC P E ro a s R → NC P E ro (.cond c a b) s R
 | condF {c : A} {a b : C} {s : St} {R : Ex → St → Prop} : c.ev s.1 = some (.bool false) → NC P E ro b s R → NC P E ro (.cond c a b) s R
 | block {id : Nat} {b : C} {s : St} {M R : Ex → St → Prop} : NC P E ro b s M → (∀ s',M .nrm s' → R .nrm s') → (∀ s',M .ret s' → R .ret s') → (∀ i s',M (.exit i) s' → if i = id then R .nrm s' else R (.exit i) s') → NC P E ro (.block id b) s R
 | loop {b : C} {s : St} {M R : Ex → St → Prop} : NC P E ro b s M → (∀ s',M .nrm s' → NC P E ro (.loop b) s' R) → (∀ ex s',ex ≠ .nrm → M ex s' → R ex s') → NC P E ro (.loop b) s R
 | next {o : O} {rest : List O} {s : St} {l : List (V × H)} {x : A} {R : Ex → St → Prop} : o.op = .next false x → o.guard = none → nexts s.1 s.2 x = some l → (∀ p ∈ l, ∃ s',evOs P (AP P E) rest (putV s.1 o.dst p.1) p.2 = some s' ∧ R .nrm s') → NC P E ro (.region (o :: rest)) s R
section
variable {F : Fence} {n : Nat}
def Lp (F : Fence) (n : Nat) (P : Program) (c : Code) (Q : Exit → Act → World → Prop) (a : Act) (w : World) : Prop :=
 ∀ (b : Frame) (k : List Item) (cs : List Frame),b.roundOf = F.round → F.fn b.fn → F.room (cs.length + 1 + n) →
  ∃ e a' w',Q e a' w' ∧ ArrivesIn (Machine.fenced P F) P (lone (b.atR a (.code c :: .inLoop c :: k)) cs w) b k cs e a' w'
theorem Lp.wp {c : Code} {Q : Exit → Act → World → Prop} {a : Act} {w : World} (h : Lp F n P c Q a w) : (Code.loop c).wpIn F n P Q a w := by
 intro b k cs hro hb hr
 obtain ⟨e,a',w',hq,harr⟩ := h b k cs hro hb hr
 exact ⟨e,a',w',hq,.of_steps (.one (fenced_calm hb hr rfl) stepR_loop) harr⟩
theorem Lp.round {c : Code} {Q : Exit → Act → World → Prop} {a : Act} {w : World} (h : c.wpIn F n P (Exit.then (Lp F n P c Q) Q) a w) : Lp F n P c Q a w := by
 intro b k cs hro hb hr
 obtain ⟨e,a₁,w₁,hq,harr⟩ := h b (.inLoop c :: k) cs hro hb hr
 cases e with
 | normal =>
  obtain ⟨e₂,a₂,w₂,hq₂,harr₂⟩ := hq b k cs hro hb hr
  exact ⟨e₂,a₂,w₂,hq₂,.of_steps (StepsIn.trans harr (.one (fenced_calm hb hr rfl) stepR_inLoop)) harr₂⟩
 | exit id => exact ⟨_,a₁,w₁,hq,.pass (x := .inLoop c) rfl (fun _ _ => .inl (by simp)) harr⟩
 | goto l => exact ⟨_,a₁,w₁,hq,.pass (x := .inLoop c) rfl (fun _ _ => .inl (by simp)) harr⟩
 | ret => exact ⟨_,a₁,w₁,hq,.pass (x := .inLoop c) rfl (fun _ _ => .inl (by simp)) harr⟩
 | panic ch => exact ⟨_,a₁,w₁,hq,.pass (x := .inLoop c) rfl (fun _ _ => .inl (by simp)) harr⟩
 | outgrown => exact ⟨_,a₁,w₁,hq,.pass (x := .inLoop c) rfl (fun _ _ => .inl (by simp)) harr⟩
end
theorem ncR_any {ap : Ap} (ha : ApOK P ap) {ops : Array Oper} {m0 : Mp} {h0 : H} {w0 : World} {ds : List Deferred} {ro : Option Nat} {n : Nat} {Q : Exit → Act → World → Prop} {R : St → Prop} {T : List V} {h : H} {o : O} {rest : List O} {x : A} {lst : List (V × H)}
  (eop : o.op = .next false x) (egd : o.guard = none) (hn : nexts T h x = some lst) (hall : ∀ p ∈ lst, ∃ s',evOs P ap rest (putV T o.dst p.1) p.2 = some s' ∧ R s')
  (hQ : ∀ s' m' w' a',R s' → Mid P m0 h0 w0 m' s'.2 w' s'.1 ds a' → Q .normal a' w') {os : List Oper} (hl : OpsOK P (ops.toList.map (·.dst)) os (o :: rest))
  {m : Mp} {w : World} {a : Act} (md : Mid P m0 h0 w0 m h w T ds a) : wpListIn (FF ro) n P ops Q os a w := by
 cases os with
 | nil => cases hl
 | cons o' os' =>
  obtain ⟨k,g,oo,l',h1,h2,h3,h4,h5,h6,hoo⟩ := hl
  cases hoo
  rw [eop] at h3
  subst h3
  rw [egd] at h4
  subst h4
  obtain ⟨y,ho,hy⟩ := cK_next h1
  obtain ⟨v,h',hmem,m',w',z,k1,k2,k3,k4⟩ := next_any md.cx ho hy hn
  simp only [wpListIn]
  rw [wanted_sound md.cx.tr h2]
  rw [if_pos (show wantV T none = true from rfl)]
  refine ⟨fun _ _ => trivial,?_⟩
  rw [Oper.semAt_eq _ _ _ (cK_noDefer h1),k4]
  obtain ⟨s',e,hr⟩ := hall (v,h') hmem
  rw [h5] at e
  exact ops_sound ha (fun m' w' a' md' => hQ s' m' w' a' hr md') os' _ h6 _ _ e m' w' _ (md.put k3 k1 k2 o'.dst)
theorem cRegion_shape {ops : List Oper} {d : Bool} {c : C} (h : cRegion P ops d = some c) : (∃ l,c = .draw l ∧ d = true) ∨ ∃ l,c = .region l ∧ cOsFrom P (ops.map (·.dst)) ops [] = some l ∧ d = false := by
 unfold cRegion at h
 split at h
 ·cases h
 ·rename_i l hl
  cases d with
  | true =>
   simp only [if_true] at h
   split at h
   ·simp only [Option.some.injEq] at h
    exact .inl ⟨_,h.symm,rfl⟩
   ·cases h
  | false =>
   simp only [Bool.false_eq_true,if_false,Option.some.injEq] at h
   exact .inr ⟨l,h.symm,hl,rfl⟩
def CInv (P : Program) (c : C) (x : Code) : Prop := match c with
 | .seq a b => ∃ y z,x = .seq y z ∧ cC P y = some a ∧ cC P z = some b
 | .cond c a b => ∃ c' y z,x = .cond c' y z ∧ cA P c' = some c ∧ cC P y = some a ∧ cC P z = some b
 | .block id b => ∃ y,x = .block id y ∧ cC P y = some b
 | .loop b => ∃ y,x = .loop y ∧ cC P y = some b
 | .region l => ∃ i ops,x = .region i ops false ∧ cOsFrom P (ops.toList.map (·.dst)) ops.toList [] = some l
 | _ => True
theorem cC_inv {x : Code} {c : C} (hn : ∀ y,x ≠ .scope y) (h : cC P x = some c) : CInv P c x := by
 cases x with
 | scope y => exact (hn y rfl).elim
 | region i ops d =>
  simp only [cC] at h
  rcases cRegion_shape h with ⟨l,rfl,rfl⟩ | ⟨l,rfl,hl,rfl⟩
  ·trivial
  ·exact ⟨i,ops,rfl,hl⟩
 | seq y z =>
  simp only [cC] at h
  split at h <;> cases h
  exact ⟨y,z,rfl,by assumption,by assumption⟩
 | cond c' y z =>
  simp only [cC] at h
  split at h <;> cases h
  exact ⟨c',y,z,rfl,by assumption,by assumption,by assumption⟩
 | block id y =>
  simp only [cC,Option.map_eq_some_iff] at h
  obtain ⟨b,h1,rfl⟩ := h
  exact ⟨y,rfl,h1⟩
 | loop y =>
  simp only [cC,Option.map_eq_some_iff] at h
  obtain ⟨b,h1,rfl⟩ := h
  exact ⟨y,rfl,h1⟩
 | rangeFunc f ps x y =>
  simp only [cC] at h
  split at h <;> cases h
  trivial
 | skip => simp only [cC] at h; cases h; trivial
 | label _ => simp only [cC] at h; cases h; trivial
 | exit _ => simp only [cC] at h; cases h; trivial
 | ret => simp only [cC] at h; cases h; trivial
 | refuse _ => simp only [cC] at h; cases h; trivial
 | goto _ => simp only [cC] at h; cases h
theorem strip {c : C} {p : Code → Prop} (hs : ∀ x,p x → p (.scope x)) (hn : ∀ x,CInv P c x → p x) : ∀ x,cC P x = some c → p x := by
 intro x
 induction x with
 | scope y ih => intro h; exact hs y (ih (by simpa only [cC] using h))
 | _ => intro h; exact hn _ (cC_inv (by intro y e; cases e) h)
def Snds (P : Program) (ro R' : Option Nat) (B : Nat) (R : Ex → St → Prop) (s : St) (f : (Exit → Act → World → Prop) → Act → World → Prop) : Prop :=
 ∀ {Q : Exit → Act → World → Prop} {m : Mp} {w : World} {a : Act},Cx P m s.2 w s.1 a → RoR m ro R' → DefOK B m s.2 w a.defers →
  (∀ ex s' m' w' a',R ex s' → At P B m s.2 w m' s'.2 w' s'.1 a' → Q (exR ex) a' w') → f Q a w
theorem NC_sound (hmix : P.follows .mixedOrders = true) {prim : Nat → Option (List V → H → Option (V × H))} (hp : PrimOK P prim) {ro R' : Option Nat} {B n : Nat} {c : C} {s : St} {R : Ex → St → Prop} (hN : NC P (envOf P prim) ro c s R) :
  (∀ x,cC P x = some c → Snds P ro R' B R s (x.wpIn (FF R') n P)) ∧ (∀ cb,c = .loop cb → ∀ x,cC P x = some cb → Snds P ro R' B R s (Lp (FF R') n P x)) := by
 have scope : ∀ {s : St} {R : Ex → St → Prop} (x : Code),Snds P ro R' B R s (x.wpIn (FF R') n P) → Snds P ro R' B R s ((Code.scope x).wpIn (FF R') n P) := by
  intro s R x hx Q m w a cx hro hd hQ
  refine wpIn_scope_straight (hx cx hro hd fun ex s' m' w' a' hr hat => ?_)
  have := hQ ex s' m' w' a' hr hat
  cases ex <;> exact this
 induction hN with
 | det hnl he hR =>
  rename_i c s s' ex R
  refine ⟨fun x hx Q m w a cx hro hd hQ => ?_,fun cb e => (hnl cb e).elim⟩
  obtain ⟨k,hk⟩ := EC_iff.1 he
  exact code_sound hmix (ap_sound hmix hp k) x c hx (ex := ex) (T' := s'.1) (h' := s'.2) hk cx hro hd fun m' w' a' hat => hQ ex s' m' w' a' hR hat
 | seq h1 h2 h3 ih1 ih2 =>
  rename_i a b s M R
  refine ⟨strip scope fun x hx => ?_,fun cb e => by cases e⟩
  obtain ⟨y,z,rfl,e1,e2⟩ := hx
  intro Q m w a cx hro hd hQ
  refine wpIn_seq (ih1.1 y e1 cx hro hd fun ex s1 m1 w1 a1 hr hat => ?_)
  cases ex with
  | nrm => exact (ih2 s1 hr).1 z e2 hat.cx (hro.ext hat.ext.sub) hat.dfr fun ex s' m' w' a' hr' hat' => hQ ex s' m' w' a' hr' ⟨hat'.cx,hat.ext.trans hat'.ext,hat'.dfr⟩
  | exit id => exact hQ (.exit id) s1 m1 w1 a1 (h3 _ _ (by simp) hr) hat
  | ret => exact hQ .ret s1 m1 w1 a1 (h3 _ _ (by simp) hr) hat
 | condT he h1 ih =>
  rename_i c a b s R
  refine ⟨strip scope fun x hx => ?_,fun cb e => by cases e⟩
  obtain ⟨c',y,z,rfl,e1,e2,e3⟩ := hx
  intro Q m w a cx hro hd hQ
  exact wpIn_cond (t := true) (cx.av e1 he) (ih.1 y e2 cx hro hd hQ)
 | condF he h1 ih =>
  rename_i c a b s R
  refine ⟨strip scope fun x hx => ?_,fun cb e => by cases e⟩
  obtain ⟨c',y,z,rfl,e1,e2,e3⟩ := hx
  intro Q m w a cx hro hd hQ
  exact wpIn_cond (t := false) (cx.av e1 he) (ih.1 z e3 cx hro hd hQ)
 | block h1 h2 h3 h4 ih =>
  rename_i id b s M R
  refine ⟨strip scope fun x hx => ?_,fun cb e => by cases e⟩
  obtain ⟨y,rfl,e1⟩ := hx
  intro Q m w a cx hro hd hQ
  refine wpIn_block (ih.1 y e1 cx hro hd fun ex s1 m1 w1 a1 hr hat => ?_)
  cases ex with
  | nrm => exact hQ .nrm s1 m1 w1 a1 (h2 _ hr) hat
  | ret => exact hQ .ret s1 m1 w1 a1 (h3 _ hr) hat
  | exit id' =>
   have hr := h4 _ _ hr
   split at hr
   ·rename_i hid
    simp only [exR,Exit.inBlock,hid,if_true]
    exact hQ .nrm s1 m1 w1 a1 hr hat
   ·rename_i hid
    simp only [exR,Exit.inBlock,hid,if_false]
    exact hQ (.exit id') s1 m1 w1 a1 hr hat
 | loop h1 h2 h3 ih1 ih2 =>
  rename_i b s M R
  have key : ∀ cb,C.loop b = .loop cb → ∀ x,cC P x = some cb → Snds P ro R' B R s (Lp (FF R') n P x) := by
   intro cb e x hx Q m w a cx hro hd hQ
   cases e
   refine Lp.round (ih1.1 x hx cx hro hd fun ex s1 m1 w1 a1 hr hat => ?_)
   cases ex with
   | nrm => exact (ih2 s1 hr).2 b rfl x hx hat.cx (hro.ext hat.ext.sub) hat.dfr fun ex s' m' w' a' hr' hat' => hQ ex s' m' w' a' hr' ⟨hat'.cx,hat.ext.trans hat'.ext,hat'.dfr⟩
   | exit id => exact hQ (.exit id) s1 m1 w1 a1 (h3 _ _ (by simp) hr) hat
   | ret => exact hQ .ret s1 m1 w1 a1 (h3 _ _ (by simp) hr) hat
  refine ⟨strip scope fun x hx => ?_,key⟩
  obtain ⟨y,rfl,e1⟩ := hx
  intro Q m w a cx hro hd hQ
  exact Lp.wp (key b rfl y e1 cx hro hd hQ)
 | next ho hg hl hall =>
  rename_i o rest s l x R
  refine ⟨strip scope fun y hy => ?_,fun cb e => by cases e⟩
  obtain ⟨i,ops,rfl,e1⟩ := hy
  intro Q m w a cx hro hd hQ
  obtain ⟨k,hk⟩ : ∃ k, ∀ p ∈ l, ∃ s',evOs P (ap P (envOf P prim) k) rest (putV s.1 o.dst p.1) p.2 = some s' ∧ R .nrm s' := by
   clear hl
   induction l with
   | nil => exact ⟨0,by simp⟩
   | cons p l ihl =>
    obtain ⟨k1,hk1⟩ := ihl fun q hq => hall q (List.mem_cons_of_mem _ hq)
    obtain ⟨s',es,hr⟩ := hall p List.mem_cons_self
    obtain ⟨k2,hk2⟩ := evOs_lim rest es
    refine ⟨max k1 k2,fun q hq => ?_⟩
    rcases List.mem_cons.1 hq with rfl | hq
    ·exact ⟨s',evOs_mono (ap_mono P _ (Nat.le_max_right k1 k2)) _ hk2,hr⟩
    ·obtain ⟨s2,e2,r2⟩ := hk1 q hq
     exact ⟨s2,evOs_mono (ap_mono P _ (Nat.le_max_left k1 k2)) _ e2,r2⟩
  refine wpIn_region_list (ncR_any (ap_sound hmix hp k) ho hg hl hk (R := fun s' => R .nrm s') (fun s' m' w' a' hr md => hQ .nrm s' m' w' a' hr ⟨md.cx,md.ext,by rw [md.defers]; exact hd.ext md.ext⟩) (cOsFrom_ok _ _ _ e1) ⟨cx,Ext.refl _ _ _,rfl⟩)
end Go.AM
namespace Go.AM
variable {P : Program}
def eqInts : List V → List Int → Bool
 | [],[] => true
 | .int .u64 a :: vs,b :: bs => a == b && eqInts vs bs
 | _,_ => false
theorem eqInts_ok : ∀ {vs : List V} {zs : List Int},eqInts vs zs = true → vs = ints .u64 zs
 | [],[],_ => rfl
 | v :: vs,[],h => by cases v <;> simp [eqInts] at h
 | [],_ :: _,h => by simp [eqInts] at h
 | v :: vs,b :: bs,h => by
  unfold eqInts at h
  split at h
  ·rename_i e; cases e
  ·rename_i a vs' b' bs' e1 e2
   cases e1; cases e2
   simp only [Bool.and_eq_true,beq_iff_eq] at h
   rw [h.1,eqInts_ok h.2]; rfl
  ·cases h
theorem eqInts_ints : ∀ zs : List Int,eqInts (ints .u64 zs) zs = true
 | [] => rfl
 | z :: zs => by
  have := eqInts_ints zs
  show eqInts (.int .u64 z :: ints .u64 zs) (z :: zs) = true
  simp [eqInts,this]
def tabB (h : H) (g ty : Nat) : Bool := match h.get g with
 | some (.cells vs t false true none) => t == ty && eqInts vs Lib.pow10Tab
 | _ => false
theorem tabB_ok {h : H} {g ty : Nat} (hb : tabB h g ty = true) : Tb g ty h := by
 unfold tabB at hb
 split at hb
 ·rename_i vs t e
  simp only [Bool.and_eq_true,beq_iff_eq] at hb
  unfold Tb
  rw [e,hb.1,eqInts_ok hb.2]
 ·cases hb
theorem tabB_of {h : H} {g ty : Nat} (hb : Tb g ty h) : tabB h g ty = true := by
 unfold Tb at hb
 unfold tabB
 rw [hb]
 simp [eqInts_ints]
def fmt10C (g ty : Nat) : List V → H → Option (V × H) := fun args h => match args with
 | [.int .i64 n,.int .i64 10] => if tabB h g ty && (decide (-9223372036854775808 ≤ n) && decide (n ≤ 9223372036854775807)) then some (.str (Lib.itoa n),h) else none
 | _ => none
theorem fmt10C_P {g ty : Nat} {args : List V} {h : H} {r : V × H} (he : fmt10C g ty args h = some r) : fmt10P g ty args h = some r := by
 unfold fmt10C at he
 split at he
 ·split at he
  ·rename_i hc
   simp only [Bool.and_eq_true,decide_eq_true_eq] at hc
   unfold fmt10P
   rw [← he]
   exact if_pos ⟨tabB_ok hc.1,hc.2.1,hc.2.2⟩
  ·cases he
 ·cases he
open Go.RowKit
theorem HR.below {m : Mp} {h : H} {w w' : World} (hr : HR P m h w) (hb : Below w.heap.size w w') : HR P m h w' ∧ Ext m h w m h w' := by
 have hws := hb.size
 refine ⟨⟨hr.ok,hr.dom,hr.glob,fun i r sh e hm => ?_,fun i o hg hl => ?_,hr.inj⟩,?_⟩
 ·have := hr.blk i r sh e hm; omega
 ·obtain ⟨r,sh,e,ob',h1,h2,h3⟩ := hr.obj i o hg hl
  exact ⟨r,sh,e,ob',h1,by rw [hb.block r (hr.blk i r sh e h1)]; exact h2,h3⟩
 ·exact ⟨Sub.refl m,Nat.le_refl _,hws,fun b hb' _ => hb.block b hb',fun _ _ h => h,hb.os,hb.output,hb.tape,fun _ _ h => h⟩
def Es (g t ty : Nat) (h : H) : Prop := h.get g = some (.cells [.iface t .junk] ty false true none)
theorem Es.keep {g t ty : Nat} (h h' : H) (e : Es g t ty h) (hk : Keeps h.size h h') : Es g t ty h' := Kp.of hk e
end Go.AM
namespace Go.AM
open Go.RowKit
variable {P : Program}
def Flat (P : Program) (o : Obj) : Prop := ∀ m m' ob sh e,OR P m ob sh e o → OR P m' ob sh e o
theorem Flat.ints (k : IntKind) (zs : List Int) (ty : Nat) : Flat P (.cells (ints k zs) ty false true none) := by
 intro m m' ob sh e ⟨c,fzr,h1,h2,h3⟩
 refine ⟨c,fzr,h1,?_,h3⟩
 rw [VRL_ints_eq h2]
 exact VRL_ints _ _ _
theorem HR.tables {m : Mp} {h h0 : H} {w : World} (hr : HR P m h w) (hk : h0.ok) (hs : h0.size = P.globals.size) (hsub : ∀ i o,h0.get i = some o → h.get i = some o ∧ Flat P o) : HR P (map0 P) h0 w where
 ok := hk
 dom := fun i x hx => by unfold map0 at hx; split at hx <;> first | (rw [hs]; assumption) | cases hx
 glob := fun g hg => by simp [map0,hg]
 blk := fun i r sh e hm => by
  unfold map0 at hm
  split at hm <;> cases hm
  rename_i hi
  exact hr.blk _ _ _ _ (hr.glob i hi)
 obj := fun i o hg hl => by
  have hi := H.get_lt hg
  rw [hs] at hi
  obtain ⟨h1,h2⟩ := hsub i o hg
  obtain ⟨r,sh,e,ob,q1,q2,q3⟩ := hr.obj i o h1 hl
  have := hr.glob i hi
  rw [q1] at this
  cases this
  exact ⟨i,0,0,ob,by simp [map0,hi],q2,h2 _ _ _ _ _ q3⟩
 inj := fun i j o o' r sh e sh' e' _ _ _ _ h1 h2 => by
  unfold map0 at h1 h2
  split at h1 <;> split at h2 <;> cases h1 <;> cases h2 <;> rfl
def yesP (c : H → Bool) : List V → H → Option (V × H) := fun args h => match args with
 | [] => if c h then some (.bool true,h) else none
 | _ => none
theorem yes_ok (hmix : P.follows .mixedOrders = true) {prim : Nat → Option (List V → H → Option (V × H))} (hp : PrimOK P prim) {k g : Nat} {h0 h1 : H} {c : H → Bool}
  (run : ap P (envOf P prim) k (.func g [] []) [] h0 = some (.bool true,h1)) (hk : h0.ok) (hs : h0.size = P.globals.size) (hno : ∀ i o,h0.get i = some o → o.mut = false)
  (hc : ∀ h,c h = true → ∀ i o,h0.get i = some o → h.get i = some o ∧ Flat P o)
  {args : List V} {h : H} {v : V} {h' : H} {m : Mp} {w : World} {xs : List Value} (he : yesP c args h = some (v,h')) (hr : HR P m h w) (hx : VRL m args xs) (n : Nat) : CallsIn (FF none) n P g xs.toArray w (Post P m h w v h') := by
 unfold yesP at he
 split at he
 ·split at he
  ·rename_i hc2
   cases he
   cases hx
   have h2 := calls_of_ap hmix hp run (hr.tables hk hs (hc h hc2)) hno (xs := []) rfl
   refine callsIn_wide.2 (h2.mono fun e w' ⟨m',x,q1,q2,q3⟩ => ?_)
   cases q2
   obtain ⟨a,b⟩ := hr.below q3
   exact ⟨m,_,q1,rfl,a,b⟩
  ·cases he
 ·cases he
end Go.AM
namespace Go.AM
variable {P : Program}
mutual
theorem VR.down {m m' : Mp} (hs : Sub m m') : ∀ (v : V) (x0 x : Value),VR m v x0 → VR m' v x → VR m v x
 | .bool _,_,_,_,h => h
 | .int _ _,_,_,_,h => h
 | .str _,_,_,_,h => h
 | .ptr none,_,_,_,h => h
 | .ptr (some (i,o)),x0,x,h0,h => by
  obtain ⟨r,sh,e,h1,h2⟩ := h0
  obtain ⟨r',sh',e',h3,h4⟩ := h
  have := hs _ _ h1; rw [this] at h3; cases h3
  exact ⟨r,sh,e,h1,h4⟩
 | .slice none _ _ _,_,_,_,h => h
 | .slice (some (i,o)) len cap opn,x0,x,h0,h => by
  obtain ⟨r,sh,e,ad,h1,h2⟩ := h0
  obtain ⟨r',sh',e',ad',h3,h4⟩ := h
  have := hs _ _ h1; rw [this] at h3; cases h3
  exact ⟨r,sh,e,ad',h1,h4⟩
 | .map none,_,_,_,h => h
 | .map (some i),x0,x,h0,h => by
  obtain ⟨r,sh,e,h1,h2⟩ := h0
  obtain ⟨r',sh',e',h3,h4⟩ := h
  have := hs _ _ h1; rw [this] at h3; cases h3
  exact ⟨r,sh,e,h1,h4⟩
 | .func f fs cs,x0,x,h0,h => by
  obtain ⟨xs,ys,h1,h2,h3⟩ := h0
  obtain ⟨xs',ys',h1',h2',h3'⟩ := h
  exact ⟨xs',ys',VRL.down hs _ _ _ h1 h1',VRL.down hs _ _ _ h2 h2',h3'⟩
 | .yield l,x0,x,h0,h => by
  obtain ⟨r,sh,e,h1,h2⟩ := h0
  obtain ⟨r',sh',e',h3,h4⟩ := h
  have := hs _ _ h1; rw [this] at h3; cases h3
  exact ⟨r,sh,e,h1,h4⟩
 | .nilFunc,_,_,_,h => h
 | .iface t v,x0,x,h0,h => by
  obtain ⟨y,h1,h2⟩ := h0
  obtain ⟨y',h3,h4⟩ := h
  exact ⟨y',VR.down hs _ _ _ h1 h3,h4⟩
 | .nilIface,_,_,_,h => h
 | .agg cs,x0,x,h0,h => by
  obtain ⟨y,h1,h2⟩ := h0
  obtain ⟨y',h3,h4⟩ := h
  exact ⟨y',VRL.down hs _ _ _ h1 h3,h4⟩
 | .tup cs,x0,x,h0,h => by
  obtain ⟨y,h1,h2⟩ := h0
  obtain ⟨y',h3,h4⟩ := h
  exact ⟨y',VRL.down hs _ _ _ h1 h3,h4⟩
 | .junk,_,_,_,h => h
theorem VRL.down {m m' : Mp} (hs : Sub m m') : ∀ (v : List V) (x0 x : List Value),VRL m v x0 → VRL m' v x → VRL m v x
 | [],_,_,_,h => h
 | v :: vs,x0,x,h0,h => by
  obtain ⟨y,ys,h1,h2,h3⟩ := h0
  obtain ⟨y',ys',h1',h2',h3'⟩ := h
  exact ⟨y',ys',VR.down hs _ _ _ h1 h1',VRL.down hs _ _ _ h2 h2',h3'⟩
end
theorem ER.down {m m' : Mp} (hs : Sub m m') : ∀ {es : List (V × V × Nat)} {y0 ys : List MapEntry},ER m es y0 → ER m' es ys → ER m es ys
 | [],_,_,_,h => h
 | _ :: _,_,_,h0,h => by
  obtain ⟨y,ys,h1,h2,h3,h4,h5⟩ := h0
  obtain ⟨y',ys',h1',h2',h3',h4',h5'⟩ := h
  exact ⟨y',ys',VR.down hs _ _ _ h1 h1',VR.down hs _ _ _ h2 h2',h3',ER.down hs h4 h4',h5'⟩
theorem OR.down {m m' : Mp} (hs : Sub m m') {ob0 ob : Go.Obj} {sh e : Nat} : ∀ {o : Obj},OR P m ob0 sh e o → OR P m' ob sh e o → OR P m ob sh e o
 | .cells ..,h0,h => by
  obtain ⟨c0,f0,h1,h2,h3⟩ := h0
  obtain ⟨c,fzr,h1',h2',h3'⟩ := h
  exact ⟨c,fzr,h1',VRL.down hs _ _ _ h2 h2',h3'⟩
 | .map ..,h0,h => by
  obtain ⟨c0,h1,h2⟩ := h0
  obtain ⟨es',h1',h2'⟩ := h
  exact ⟨es',h1',h2.down hs h2'⟩
 | .mapIter mm _ _ _,h0,h => by
  obtain ⟨z0,r,h1,h2⟩ := h0
  obtain ⟨z0',r',h1',h2'⟩ := h
  refine ⟨z0',r',h1',?_⟩
  cases mm with
  | none => exact h2'
  | some i =>
   obtain ⟨b,sh,e,h3,h4⟩ := h2
   obtain ⟨b',sh',e',h3',h4'⟩ := h2'
   have := hs _ _ h3; rw [this] at h3'; cases h3'
   exact ⟨b,sh,e,h3,h4'⟩
 | .strIter ..,_,h => h
 | .loop ..,h0,h => by
  obtain ⟨L0,a1,a2,a3,a4,a5⟩ := h0
  obtain ⟨L,h1,h2,h3,h4,h5⟩ := h
  exact ⟨L,h1,h2,h3,VRL.down hs _ _ _ a4 h4,h5⟩
 | .dead,_,h => h
theorem HR.shrink {m m' : Mp} {h h' : H} {w w' : World} (hr : HR P m h w) (hr' : HR P m' h' w') (hx : Ext m h w m' h' w') (hk : Kp h h') : HR P m h w' ∧ Ext m h w m h w' := by
 refine ⟨⟨hr.ok,hr.dom,hr.glob,fun i r sh e hm => Nat.lt_of_lt_of_le (hr.blk i r sh e hm) hx.wsize,fun i o hg hl => ?_,hr.inj⟩,⟨Sub.refl m,Nat.le_refl _,hx.wsize,hx.frame,fun _ _ h => h,hx.os,hx.output,hx.tape,fun _ _ h => h⟩⟩
 obtain ⟨r,sh,e,ob0,q1,q2,q3⟩ := hr.obj i o hg hl
 obtain ⟨r',sh',e',ob',p1,p2,p3⟩ := hr'.obj i o (hk.of hg) hl
 have := hx.sub _ _ q1; rw [this] at p1; cases p1
 exact ⟨r,sh,e,ob',q1,p2,q3.down hx.sub p3⟩
def NSp (P : Program) (E : Env) (f : Fn) (args : List V) (h : H) (Q : V → H → Prop) : Prop :=
 args.length ≤ f.ntmps ∧ NC P E none f.body (toL f.ntmps (argF args),h) fun ex s' => Fin f.results Q ex s'.1 s'.2
theorem NSp_sound (hmix : P.follows .mixedOrders = true) {prim : Nat → Option (List V → H → Option (V × H))} (hp : PrimOK P prim) {g : Nat} {fn : Func} {f : Fn} (hg : P.funcs[g]? = some fn) (hc : cFn P fn = some f) {args : List V} {h : H} {R : V → H → Prop} (he : NSp P (envOf P prim) f args h R)
  {m : Mp} {w : World} {xs : List Value} (hr : HR P m h w) (hx : VRL m args xs) (n : Nat) : CallsIn (FF none) n P g xs.toArray w fun e w' => ∃ v h',R v h' ∧ Post P m h w v h' e w' := by
 obtain ⟨hnm,b,c,rs,h1,h2,h3,rfl⟩ := cFn_spec hc
 obtain ⟨hlen,he⟩ := he
 rw [← toL_args hlen] at he
 refine callsIn_of_wp_marks hg h1 trivial ?_
 have cx : Cx P m h w (args ++ List.replicate (fn.ntmps - args.length) undefV) { tmps := xs.toArray ++ Array.replicate (fn.ntmps - xs.toArray.size) undef,defers := [] } := by
  refine ⟨?_,hr⟩
  simp only [TR,Array.toList_append,Array.toList_replicate,List.size_toArray,hx.length]
  exact hx.append (VRL.replicate VR.undef _)
 have hd : DefOK w.heap.size m h w [] := ⟨Nat.le_refl _,[],rfl,List.nodup_nil,by simp⟩
 refine (NC_sound (R' := none) hmix hp he).1 b h2 cx trivial hd fun ex s' m' w' a' hp hat => ?_
 obtain ⟨hex,hp⟩ := hp
 simp only at hp
 split at hp
 ·rename_i vs hrv
  have post : LeavesInM (FF none) n P fn a'.tmps (fun e w' => ∃ v h',R v h' ∧ Post P m h w v h' e w') a'.defers .returning w' := by
   obtain ⟨rs0,e1,e2,e3⟩ := hat.dfr.marks
   refine leaves_marks rs0 a'.defers w' e1 e2 (fun r hr => ⟨(e3 r hr).1,(e3 r hr).2.1⟩) hat.cx.hr hat.ext fun w2 k1 k2 => ?_
   obtain ⟨x,j1,j2⟩ := run_results k1 hat.cx.tr h3 hrv
   exact ⟨x,j1,_,_,hp,m',x,rfl,j2,k1,k2⟩
  cases ex with
  | nrm => exact post
  | ret => exact post
  | exit _ => exact hex.elim
 ·exact hp.elim
theorem nsp_prim (hmix : P.follows .mixedOrders = true) {prim : Nat → Option (List V → H → Option (V × H))} (hp : PrimOK P prim) {g : Nat} {fn : Func} {f : Fn} (hg : P.funcs[g]? = some fn) (hc : cFn P fn = some f) {args : List V} {h : H} {u : V}
  (he : NSp P (envOf P prim) f args h fun v h' => Kp h h' ∧ ∀ m m' x,VR m v x → VR m' u x)
  {m : Mp} {w : World} {xs : List Value} (hr : HR P m h w) (hx : VRL m args xs) (n : Nat) : CallsIn (FF none) n P g xs.toArray w (Post P m h w u h) := by
 refine CallsIn.mono (NSp_sound hmix hp hg hc he hr hx n) fun e w' ⟨v,h',⟨hk,hv⟩,m',x,h1,h2,h3,h4⟩ => ?_
 obtain ⟨a,b⟩ := hr.shrink h3 h4 hk
 exact ⟨m,x,h1,hv _ _ _ h2,a,b⟩
theorem NC.weak {P : Program} {E : Env} {ro : Option Nat} {c : C} {s : St} {R R' : Ex → St → Prop} (h : NC P E ro c s R) (hm : ∀ ex s,R ex s → R' ex s) : NC P E ro c s R' := by
 induction h generalizing R' with
 | det h1 h2 h3 => exact .det h1 h2 (hm _ _ h3)
 | seq h1 h2 h3 ih1 ih2 => exact .seq h1 (fun s' hs => ih2 s' hs hm) (fun ex s' hn hs => hm _ _ (h3 ex s' hn hs))
 | condT h1 h2 ih => exact .condT h1 (ih hm)
 | condF h1 h2 ih => exact .condF h1 (ih hm)
 | block h1 h2 h3 h4 ih =>
  refine .block h1 (fun s' hs => hm _ _ (h2 s' hs)) (fun s' hs => hm _ _ (h3 s' hs)) fun i s' hs => ?_
  have := h4 i s' hs
  split
  ·rename_i hid; rw [if_pos hid] at this; exact hm _ _ this
  ·rename_i hid; rw [if_neg hid] at this; exact hm _ _ this
 | loop h1 h2 h3 ih1 ih2 => exact .loop h1 (fun s' hs => ih2 s' hs hm) (fun ex s' hn hs => hm _ _ (h3 ex s' hn hs))
 | next h1 h2 h3 h4 => exact .next h1 h2 h3 fun p hp => by obtain ⟨s',a,b⟩ := h4 p hp; exact ⟨s',a,hm _ _ b⟩
theorem NSp.mono {E : Env} {f : Fn} {args : List V} {h : H} {Q Q' : V → H → Prop} (s : NSp P E f args h Q) (hq : ∀ v h',Q v h' → Q' v h') : NSp P E f args h Q' := by
 refine ⟨s.1,NC.weak s.2 fun ex s' hs => ?_⟩
 obtain ⟨a,b⟩ := hs
 refine ⟨a,?_⟩
 split at b
 ·exact hq _ _ b
 ·exact b
section
variable {E : Env} {ro : Option Nat} {L : Nat} {ρ : Nat → V} {h : H} {R R' : Ex → St → Prop} {c : C}
theorem NC.run {Q : Ex → List V → H → Prop} (hnl : ∀ b,c ≠ .loop b) (hx : X P E ro L [.c c] ρ h Q) (hq : ∀ ex T h',Q ex T h' → R ex (T,h')) : NC P E ro c (toL L ρ,h) R := by
 obtain ⟨ex',T',h',e,q⟩ := hx
 simp only [EK] at e
 cases hc : EC P E ro c (toL L ρ,h) with
 | none => rw [hc] at e; simp at e
 | some r =>
  obtain ⟨ex,s⟩ := r
  rw [hc] at e
  simp only [Option.bind_some,Option.some.injEq,Prod.mk.injEq] at e
  obtain ⟨rfl,rfl⟩ := e
  exact .det hnl hc (hq _ _ _ q)
end
end Go.AM
namespace Go.AM
variable {P : Program} {E : Env} {ro : Option Nat}
def mos : List (V × V) → Nat → List (V × V × Nat)
 | [],_ => []
 | x :: r,i => (x.1,x.2,i) :: mos r (i + 1)
def mo (l : List (V × V)) : Obj := .map (mos l 0) l.length
theorem mos_length : ∀ (l : List (V × V)) (k : Nat),(mos l k).length = l.length
 | [],_ => rfl
 | _ :: r,k => by simp [mos,mos_length r]
theorem mos_append : ∀ (l : List (V × V)) (x : V × V) (k : Nat),mos (l ++ [x]) k = mos l k ++ [(x.1,x.2,k + l.length)]
 | [],_,_ => rfl
 | _ :: r,x,k => by simp [mos,mos_append r,Nat.add_assoc,Nat.add_comm 1]
theorem mos_mem : ∀ {l : List (V × V)} {k : Nat} {e : V × V × Nat},e ∈ mos l k → ∃ i,l[i]? = some (e.1,e.2.1) ∧ e.2.2 = k + i
 | [],_,_,h => by cases h
 | x :: r,k,e,h => by
  rcases List.mem_cons.1 h with rfl | h
  ·exact ⟨0,rfl,rfl⟩
  ·obtain ⟨i,h1,h2⟩ := mos_mem h
   exact ⟨i + 1,by simpa using h1,by omega⟩
theorem mem_mos : ∀ {l : List (V × V)} {k i : Nat} {x : V × V},l[i]? = some x → (x.1,x.2,k + i) ∈ mos l k
 | [],_,_,_,h => by simp at h
 | y :: r,k,0,x,h => by simp at h; subst h; exact List.mem_cons_self
 | y :: r,k,i + 1,x,h => by
  have := mem_mos (l := r) (k := k + 1) (i := i) (x := x) (by simpa using h)
  rw [show k + (i + 1) = k + 1 + i by omega]
  exact List.mem_cons_of_mem _ this
theorem mos_find : ∀ {l : List (V × V)} {k i : Nat} {x : V × V},l[i]? = some x → (mos l k).find? (fun e => e.2.2 == k + i) = some (x.1,x.2,k + i)
 | [],_,_,_,h => by simp at h
 | y :: r,k,0,x,h => by simp at h; subst h; simp [mos]
 | y :: r,k,i + 1,x,h => by
  have := mos_find (l := r) (k := k + 1) (i := i) (x := x) (by simpa using h)
  rw [show k + (i + 1) = k + 1 + i by omega]
  simp only [mos,List.find?_cons]
  rw [show (k == k + 1 + i) = false by simp; omega]
  exact this
structure It (h : H) (mp it : Nat) (l : List (V × V)) (seen : List Nat) : Prop where
 map : h.get mp = some (mo l)
 itr : h.get it = some (.mapIter (some mp) l.length seen l.length)
theorem It.parts {h : H} {mp it : Nat} {l : List (V × V)} {seen : List Nat} (_ : It h mp it l seen) :
  (!seen.isEmpty && !(mos l 0).isEmpty && (mos l 0).all (fun e => decide (e.2.2 ≥ l.length))) = false ∧
  ((mos l 0).filter fun e => !seen.contains e.2.2).filter (fun e => decide (e.2.2 < l.length)) = (mos l 0).filter (fun e => !seen.contains e.2.2) ∧
  ((mos l 0).filter fun e => !seen.contains e.2.2).filter (fun e => decide (e.2.2 ≥ l.length)) = [] := by
 have hlt : ∀ e ∈ mos l 0,e.2.2 < l.length := fun e he => by
  obtain ⟨i,h1,h2⟩ := mos_mem he
  have := (List.getElem?_eq_some_iff.1 h1).1
  omega
 refine ⟨?_,?_,?_⟩
 ·cases l with
  | nil => simp [mos]
  | cons x r =>
   have := hlt (x.1,x.2,0) (by simp [mos])
   simp only [Bool.and_eq_false_iff]
   exact .inr (by simp [mos])
 ·refine List.filter_eq_self.2 fun e he => ?_
  simpa using hlt e (List.mem_filter.1 he).1
 ·refine List.filter_eq_nil_iff.2 fun e he => ?_
  have := hlt e (List.mem_filter.1 he).1
  simpa using this
variable {L : Nat} {ρ : Nat → V} {h : H} {R : Ex → St → Prop}
theorem NC.nextR {d e x mp it : Nat} {l : List (V × V)} {seen : List Nat} {pre pre' : Nat} {ns ns' : List Nat} (hd : d < L) (hx : x < L) (hv : ρ x = .ptr (some (it,0))) (hi : It h mp it l seen)
  (hend : (∀ i,i < l.length → i ∈ seen) → R .nrm (toL L (up (up ρ d (.tup [.bool false])) e (.bool false)),h))
  (hstep : ∀ i k v,l[i]? = some (k,v) → i ∉ seen → R .nrm (toL L (up (up ρ d (.tup [.bool true,k,v])) e (.bool true)),h.set it (.mapIter (some mp) l.length (seen ++ [i]) l.length))) :
  NC P E ro (.region [⟨some d,.next false (.t x),none,pre,ns⟩,⟨some e,.extract (.t d) 0,none,pre',ns'⟩]) (toL L ρ,h) R := by
 obtain ⟨p1,p2,p3⟩ := hi.parts
 have hlen := mos_length l 0
 cases hl : (mos l 0).filter fun e => !seen.contains e.2.2 with
 | nil =>
  have hall : ∀ i,i < l.length → i ∈ seen := by
   intro i hlt
   have := List.filter_eq_nil_iff.1 hl _ (mem_mos (k := 0) (List.getElem?_eq_getElem hlt))
   simpa using this
  refine .det (by intro b e; cases e) (s' := (toL L (up (up ρ d (.tup [.bool false])) e (.bool false)),h)) ?_ (hend hall)
  rw [EC_region]
  have e1 : evK P (toL L ρ) h (.next false (.t x)) = some (.eff (.tup [.bool false]) h) := by
   simp only [evK,ev_t hx,hv,hi.itr,hi.map,mo,p1]
   simp only [Bool.false_eq_true,if_false,hl,List.filter_nil]
  have e2 : evK P (toL L (up ρ d (.tup [.bool false]))) h (.extract (.t d) 0) = some (.pur (.bool false)) := by
   simp only [evK,ev_t hd,up_app,if_true]; rfl
  simp only [evOs_cons,evO_step,wantV_none,if_true,e1,stepR,putV_some,Option.bind_some,e2,evOs_nil,Option.map_some]
 | cons e0 r0 =>
  refine .next (x := .t x) (l := (e0 :: r0).map fun e => (.tup [.bool true,e.1,e.2.1],h.set it (.mapIter (some mp) l.length (seen ++ [e.2.2]) l.length))) rfl rfl ?_ ?_
  ·unfold nexts
   simp only [ev_t hx,hv,hi.itr,hi.map,mo,p1]
   simp only [Bool.false_eq_true,if_false]
   rw [p2,p3,hl]
   simp
  ·intro p hp
   obtain ⟨e',he',rfl⟩ := List.mem_map.1 hp
   rw [← hl] at he'
   obtain ⟨hm,hns⟩ := List.mem_filter.1 he'
   obtain ⟨i,h1,h2⟩ := mos_mem hm
   rw [Nat.zero_add] at h2
   refine ⟨(toL L (up (up ρ d (.tup [.bool true,e'.1,e'.2.1])) e (.bool true)),h.set it (.mapIter (some mp) l.length (seen ++ [e'.2.2]) l.length)),?_,?_⟩
   ·have e2 : ∀ h',evK P (toL L (up ρ d (.tup [.bool true,e'.1,e'.2.1]))) h' (.extract (.t d) 0) = some (.pur (.bool true)) := by
     intro h'
     simp only [evK,ev_t hd,up_app,if_true]; rfl
    simp only [evOs_cons,evO_step,wantV_none,if_true,putV_some,e2,stepR,evOs_nil,Option.bind_some]
   ·rw [h2]
    exact hstep i _ _ h1 (by rw [h2] at hns; simpa using hns)
theorem NC.maps {d e x q mp it : Nat} {l : List (V × V)} {pre pre' : Nat} {ns ns' : List Nat} {B : C} (hd : d < L) (he : e < L) (hx : x < L)
  (Inv : List Nat → (Nat → V) → H → Prop)
  (hI : ∀ {seen ρ h},Inv seen ρ h → ρ x = .ptr (some (it,0)) ∧ It h mp it l seen)
  (hend : ∀ {seen ρ h},Inv seen ρ h → (∀ i,i < l.length → i ∈ seen) → R (.exit q) (toL L (up (up ρ d (.tup [.bool false])) e (.bool false)),h))
  (hstep : ∀ {seen ρ h},Inv seen ρ h → seen.Nodup → (∀ i ∈ seen,i < l.length) → ∀ i k v,l[i]? = some (k,v) → i ∉ seen →
   NC P E ro B (toL L (up (up ρ d (.tup [.bool true,k,v])) e (.bool true)),h.set it (.mapIter (some mp) l.length (seen ++ [i]) l.length))
    fun ex s => match ex with
     | .nrm => ∃ ρ' h',s = (toL L ρ',h') ∧ Inv (seen ++ [i]) ρ' h'
     | ex => R ex s) :
  ∀ (n : Nat) {seen ρ h},Inv seen ρ h → seen.Nodup → (∀ i ∈ seen,i < l.length) → seen.length + n = l.length →
   NC P E ro (.loop (.seq (.region [⟨some d,.next false (.t x),none,pre,ns⟩,⟨some e,.extract (.t d) 0,none,pre',ns'⟩]) (.seq (.cond (.t e) .skip (.exit q)) B))) (toL L ρ,h) R := by
 intro n
 induction n with
 | zero =>
  intro seen ρ h inv nd lt hn
  obtain ⟨h1,h2⟩ := hI inv
  have hfull : ∀ i k v,l[i]? = some (k,v) → i ∉ seen → False := by
   intro i k v hi hns
   have hi' := (List.getElem?_eq_some_iff.1 hi).1
   have hsub : (i :: seen) ⊆ List.range l.length := by
    intro j hj
    rcases List.mem_cons.1 hj with rfl | hj
    ·simpa using hi'
    ·simpa using lt j hj
   have := (List.nodup_cons.2 ⟨hns,nd⟩).length_le_of_subset hsub
   simp at this; omega
  refine .loop (M := fun ex s => ex = .exit q ∧ R ex s) (.seq (M := fun ex s => ex = .nrm ∧ s = (toL L (up (up ρ d (.tup [.bool false])) e (.bool false)),h) ∧ ∀ i,i < l.length → i ∈ seen) (NC.nextR hd hx h1 h2 (fun ha => ⟨rfl,rfl,ha⟩) fun i k v hi hns => (hfull i k v hi hns).elim) ?_ ?_) ?_ ?_
  ·rintro s' ⟨_,rfl,ha⟩
   refine .seq (M := fun ex s => ex = .exit q ∧ R ex s) (.condF (by simp only [ev_t he,up_app,if_true]) (.det (by intro b e; cases e) (EC_exit q _) ⟨rfl,hend inv ha⟩)) ?_ ?_
   ·rintro s' ⟨h,_⟩; cases h
   ·rintro ex s' _ h; exact h
  ·rintro ex s' hne ⟨h,_⟩; exact (hne h).elim
  ·rintro s' ⟨h,_⟩; cases h
  ·rintro ex s' _ ⟨_,h⟩; exact h
 | succ n ih =>
  intro seen ρ h inv nd lt hn
  obtain ⟨h1,h2⟩ := hI inv
  refine .loop (M := fun ex s => match ex with
    | .nrm => ∃ i ρ' h',i ∉ seen ∧ i < l.length ∧ s = (toL L ρ',h') ∧ Inv (seen ++ [i]) ρ' h'
    | ex => R ex s)
   (.seq (M := fun ex s => ex = .nrm ∧ ((s = (toL L (up (up ρ d (.tup [.bool false])) e (.bool false)),h) ∧ ∀ i,i < l.length → i ∈ seen) ∨
    ∃ i k v,l[i]? = some (k,v) ∧ i ∉ seen ∧ s = (toL L (up (up ρ d (.tup [.bool true,k,v])) e (.bool true)),h.set it (.mapIter (some mp) l.length (seen ++ [i]) l.length))))
    (NC.nextR hd hx h1 h2 (fun ha => ⟨rfl,.inl ⟨rfl,ha⟩⟩) fun i k v hi hns => ⟨rfl,.inr ⟨i,k,v,hi,hns,rfl⟩⟩) ?_ ?_) ?_ ?_
  ·rintro s' ⟨_,⟨rfl,ha⟩ | ⟨i,k,v,hi,hns,rfl⟩⟩
   ·refine .seq (M := fun ex s => ex = .exit q ∧ R ex s) (.condF (by simp only [ev_t he,up_app,if_true]) (.det (by intro b e; cases e) (EC_exit q _) ⟨rfl,hend inv ha⟩)) ?_ ?_
    ·rintro s' ⟨h,_⟩; cases h
    ·rintro ex s' _ ⟨rfl,h⟩; exact h
   ·refine .seq (M := fun ex s => ex = .nrm ∧ s = (toL L (up (up ρ d (.tup [.bool true,k,v])) e (.bool true)),h.set it (.mapIter (some mp) l.length (seen ++ [i]) l.length))) (.condT (by simp only [ev_t he,up_app,if_true]) (.det (by intro b e; cases e) (EC_skip _) ⟨rfl,rfl⟩)) ?_ ?_
    ·rintro s' ⟨_,rfl⟩
     have hs := hstep inv nd lt i k v hi hns
     refine NC.weak hs fun ex s => ?_
     cases ex with
     | nrm => rintro ⟨ρ',h',hh,hi'⟩; exact ⟨i,ρ',h',hns,(List.getElem?_eq_some_iff.1 hi).1,hh,hi'⟩
     | ret => exact id
     | exit _ => exact id
    ·rintro ex s' hne ⟨h,_⟩; exact (hne h).elim
  ·rintro ex s' hne ⟨h,_⟩; exact (hne h).elim
  ·rintro s' ⟨i,ρ',h',hns,hlt,rfl,inv'⟩
   refine ih inv' ?_ ?_ ?_
   ·exact List.nodup_append.2 ⟨nd,by simp,by intro a ha b hb; simp at hb; subst hb; intro e; subst e; exact hns ha⟩
   ·intro j hj
    rcases List.mem_append.1 hj with hj | hj
    ·exact lt j hj
    ·simp at hj; subst hj; exact hlt
   ·simp; omega
  ·intro ex s' hne hm
   cases ex with
   | nrm => exact (hne rfl).elim
   | ret => exact hm
   | exit _ => exact hm
theorem NC.preK : ∀ (as : List C) (c : C) (s : St) (ex : Ex) (s' : St) (R : Ex → St → Prop),(∀ a ∈ as, ∀ b,a ≠ .loop b) → EK P E ro (as.map .c) .nrm s = some (ex,s') → (ex = .nrm → NC P E ro c s' R) → (ex ≠ .nrm → R ex s') → NC P E ro (as.foldr .seq c) s R
 | [],c,s,ex,s',R,_,he,h1,_ => by
  simp only [List.map_nil,EK,Option.some.injEq,Prod.mk.injEq] at he
  obtain ⟨rfl,rfl⟩ := he
  exact h1 rfl
 | a :: as,c,s,ex,s',R,hl,he,h1,h2 => by
  simp only [List.map_cons,EK] at he
  cases ha : EC P E ro a s with
  | none => rw [ha] at he; simp at he
  | some r =>
   obtain ⟨e1,s1⟩ := r
   rw [ha] at he
   simp only [Option.bind_some] at he
   have hnl := hl a List.mem_cons_self
   cases e1 with
   | nrm =>
    refine .seq (M := fun ex s => ex = .nrm ∧ s = s1) (.det hnl ha ⟨rfl,rfl⟩) ?_ ?_
    ·rintro s2 ⟨_,rfl⟩
     exact NC.preK as c _ ex s' R (fun a h => hl a (List.mem_cons_of_mem _ h)) he h1 h2
    ·rintro ex s2 hne ⟨h,_⟩; exact (hne h).elim
   | exit id =>
    have : EK P E ro (as.map .c) (.exit id) s1 = some (.exit id,s1) := by
     clear he hl
     induction as with
     | nil => rfl
     | cons b bs ih => simpa only [List.map_cons,EK] using ih
    rw [this] at he; cases he
    refine .seq (M := fun ex s => ex = .exit id ∧ s = s') (.det hnl ha ⟨rfl,rfl⟩) ?_ ?_
    ·rintro s2 ⟨h,_⟩; cases h
    ·rintro ex s2 hne ⟨rfl,rfl⟩; exact h2 (by simp)
   | ret =>
    have : EK P E ro (as.map .c) .ret s1 = some (.ret,s1) := by
     clear he hl
     induction as with
     | nil => rfl
     | cons b bs ih => simpa only [List.map_cons,EK] using ih
    rw [this] at he; cases he
    refine .seq (M := fun ex s => ex = .ret ∧ s = s') (.det hnl ha ⟨rfl,rfl⟩) ?_ ?_
    ·rintro s2 ⟨h,_⟩; cases h
    ·rintro ex s2 hne ⟨rfl,rfl⟩; exact h2 (by simp)
theorem NC.pre {as : List C} {c : C} {L : Nat} {ρ : Nat → V} {h : H} {R : Ex → St → Prop} (hl : ∀ a ∈ as, ∀ b,a ≠ .loop b)
  (hx : X P E ro L (as.map .c) ρ h fun ex T h' => match ex with | .nrm => NC P E ro c (T,h') R | ex => R ex (T,h')) : NC P E ro (as.foldr .seq c) (toL L ρ,h) R := by
 obtain ⟨ex,T',h',e,q⟩ := hx
 refine NC.preK as c _ ex (T',h') R hl e ?_ ?_
 ·rintro rfl; exact q
 ·intro hne
  cases ex with
  | nrm => exact (hne rfl).elim
  | ret => exact q
  | exit _ => exact q
theorem NC.blk {id : Nat} {b : C} {s : St} {R : Ex → St → Prop} (h : NC P E ro b s fun ex s' => match ex with | .exit i => if i = id then R .nrm s' else R (.exit i) s' | ex => R ex s') : NC P E ro (.block id b) s R :=
 .block h (fun _ h => h) (fun _ h => h) (fun _ _ h => h)
theorem NC.rnd {b : C} {s : St} {R : Ex → St → Prop} (h : NC P E ro b s fun ex s' => match ex with | .nrm => NC P E ro (.loop b) s' R | ex => R ex s') : NC P E ro (.loop b) s R :=
 .loop h (fun _ h => h) (fun ex s' hne hm => by cases ex with
  | nrm => exact (hne rfl).elim
  | ret => exact hm
  | exit _ => exact hm)
theorem NC.sq {a b : C} {s : St} {R : Ex → St → Prop} (h : NC P E ro a s fun ex s' => match ex with | .nrm => NC P E ro b s' R | ex => R ex s') : NC P E ro (.seq a b) s R :=
 .seq h (fun _ h => h) (fun ex s' hne hm => by cases ex with
  | nrm => exact (hne rfl).elim
  | ret => exact hm
  | exit _ => exact hm)
end Go.AM
namespace Go.AM.Wc
open Go.AM
variable {P : Program} {E : Env} {T : H → Prop}
abbrev FU := List UInt8 × Nat × Nat
def entU (u : FU) : V × V := (.str u.1,.ptr (some (u.2.1,0)))
def totU (us : List FU) : Nat := (us.map (·.2.2)).sum
structure US (h : H) (bm : Nat) (us : List FU) : Prop where
 map : h.get bm = some (mo (us.map entU))
 at_ : ∀ u ∈ us, ∃ p c o s ty op ro fz,h.get u.2.1 = some (.cells [.slice p u.2.2 c o,s] ty op ro fz)
 small : totU us ≤ 1099511627776
def sumS (us : List FU) (S : List Nat) : Nat := (S.map fun i => ((us[i]?).map (·.2.2)).getD 0).sum
theorem sumS_app (us : List FU) (S : List Nat) {i : Nat} {u : FU} (h : us[i]? = some u) : sumS us (S ++ [i]) = sumS us S + u.2.2 := by
 unfold sumS
 rw [List.map_append,List.sum_append]; simp [h]
theorem sum_perm : ∀ {a b : List Nat},a.Perm b → a.sum = b.sum := by
 intro a b p
 induction p with
 | nil => rfl
 | cons x _ ih => simp [ih]
 | swap x y l => simp; omega
 | trans _ _ h1 h2 => exact h1.trans h2
theorem perm_range {n : Nat} {S : List Nat} (nd : S.Nodup) (lt : ∀ i ∈ S,i < n) (all : ∀ i,i < n → i ∈ S) : S.Perm (List.range n) :=
 (List.perm_ext_iff_of_nodup nd List.nodup_range).2 fun i => ⟨fun h => List.mem_range.2 (lt i h),fun h => all i (List.mem_range.1 h)⟩
theorem sumS_all (us : List FU) {S : List Nat} (nd : S.Nodup) (lt : ∀ i ∈ S,i < us.length) (all : ∀ i,i < us.length → i ∈ S) : sumS us S = totU us := by
 unfold sumS totU
 rw [sum_perm ((perm_range nd lt all).map _)]
 congr 1
 refine List.ext_getElem (by simp) fun i h1 h2 => ?_
 simp at h1
 simp [h1]
theorem sumS_le (us : List FU) {S : List Nat} (nd : S.Nodup) (lt : ∀ i ∈ S,i < us.length) : sumS us S ≤ totU us := by
 have h := sumS_all us (S := S ++ (List.range us.length).filter fun i => !S.contains i) ?_ ?_ ?_
 ·rw [← h]; unfold sumS; rw [List.map_append,List.sum_append]; omega
 ·refine List.nodup_append.2 ⟨nd,List.nodup_range.filter _,?_⟩
  rintro a ha b hb rfl
  have := (List.mem_filter.1 hb).2
  simp at this
  exact this ha
 ·intro i hi
  rcases List.mem_append.1 hi with hi | hi
  ·exact lt i hi
  ·exact List.mem_range.1 (List.mem_filter.1 hi).1
 ·intro i hi
  by_cases hs : i ∈ S
  ·exact List.mem_append_left _ hs
  ·exact List.mem_append_right _ (List.mem_filter.2 ⟨List.mem_range.2 hi,by simpa using hs⟩)
theorem used105 {h0 : H} {bm : Nat} {us : List FU} (a : US h0 bm us) : NSp P E fn105 [.map (some bm)] h0 fun v h' => v = .int .i64 (totU us) ∧ Kp h0 h' := by
 refine ⟨(by decide : (1 : Nat) ≤ 20),?_⟩
 show NC P E none c105 (toL 20 (argF [.map (some bm)]),h0) fun ex s' => Fin [.t 2] (fun v h' => v = .int .i64 (totU us) ∧ Kp h0 h') ex s'.1 s'.2
 have gm : h0.get bm = some (.map (mos (us.map entU) 0) (us.map entU).length) := a.map
 have kit : Kp h0 (h0.psh (.mapIter (some bm) (us.map entU).length [] (us.map entU).length)) := Keeps.psh (Nat.le_refl _) _
 refine NC.pre (as := [.region [⟨some 2,.mv (.k (.int .i64 0)),none,0,[2]⟩],.region [⟨some 3,.mv (.k (.int .i64 0)),none,0,[3]⟩]]) (c := .seq (.seq (.region r105_0) (.block 0 (.loop b105_4))) (.seq (.region r105_5) (.ret))) (by intro a ha b e; simp at ha; rcases ha with rfl | rfl <;> cases e) ?_
 simp only [GR,evK,binV,intOp,strOp,shOp,unV,Nat.reduceLT,Nat.reduceEqDiff,Nat.reduceAdd,↓reduceIte,Nat.reduceLeDiff,reduceCtorEq,List.map_cons,List.map_nil]
 refine NC.sq (NC.pre (as := [.region r105_0]) (c := .block 0 (.loop b105_4)) (by intro a ha b e; simp at ha; subst ha; cases e) ?_)
 simp only [GR,evK,binV,intOp,strOp,shOp,unV,Nat.reduceLT,Nat.reduceEqDiff,Nat.reduceAdd,↓reduceIte,Nat.reduceLeDiff,reduceCtorEq,List.map_cons,List.map_nil,r105_0,gm]
 refine NC.blk (NC.maps (d := 8) (e := 9) (x := 7) (q := 0) (mp := bm) (it := h0.size) (l := us.map entU) (by decide) (by decide) (by decide)
  (fun seen ρ h => seen.Nodup ∧ (∀ i ∈ seen,i < us.length) ∧ ρ 7 = .ptr (some (h0.size,0)) ∧ It h bm h0.size (us.map entU) seen ∧ ρ 3 = .int .i64 (sumS us seen) ∧ (∀ j o,h0.get j = some o → h.get j = some o) ∧ Kp h0 h)
  (fun {seen ρ h2} inv => ⟨inv.2.2.1,inv.2.2.2.1⟩) ?_ ?_ us.length ⟨List.nodup_nil,by simp,rfl,⟨kit.of gm,psh_same _ _⟩,rfl,fun j o hg => kit.of hg,kit⟩ List.nodup_nil (by simp) (by simp))
 ·rintro seen ρ h2 ⟨nd,lt,w7,hi2,w3,old,k2⟩ hall
  simp only [if_true]
  have hs := sumS_all us nd lt (by simpa using hall)
  refine NC.run (Q := fun ex T h' => Fin [.t 2] (fun v h' => v = .int .i64 (totU us) ∧ Kp h0 h') ex T h') (by intro b e; cases e) ?_ (fun _ _ _ h => h)
  simp only [GR,evK,binV,intOp,strOp,shOp,unV,Nat.reduceLT,Nat.reduceEqDiff,Nat.reduceAdd,↓reduceIte,Nat.reduceLeDiff,reduceCtorEq,r105_5,w3]
  exact ⟨by rw [hs],k2⟩
 ·rintro seen ρ h2 ⟨nd,lt,w7,hi2,w3,old,k2⟩ _ _ i k u hik hns
  rw [List.getElem?_map] at hik
  cases hr1 : us[i]? with
  | none => rw [hr1] at hik; cases hik
  | some r1 =>
  rw [hr1] at hik
  simp only [Option.map_some,entU,Option.some.injEq,Prod.mk.injEq] at hik
  obtain ⟨rfl,rfl⟩ := hik
  have hm1 := List.mem_of_getElem? hr1
  have hits := H.get_lt hi2.itr
  have hlast : (seen ++ [i]).getLast? = some i := by simp
  have hfind := mos_find (l := us.map entU) (k := 0) (i := i) (x := entU r1) (by simp [hr1])
  rw [Nat.zero_add] at hfind
  simp only [entU] at hfind
  have gi := hset_same hits (.mapIter (some bm) (us.map entU).length (seen ++ [i]) (us.map entU).length)
  have hold : ∀ j o,h0.get j = some o → (h2.set h0.size (.mapIter (some bm) (us.map entU).length (seen ++ [i]) (us.map entU).length)).get j = some o := by
   intro j o hg
   have := H.get_lt hg
   rw [hset_other hits (by omega)]; exact old j o hg
  have k3 : Kp h0 (h2.set h0.size (.mapIter (some bm) (us.map entU).length (seen ++ [i]) (us.map entU).length)) := Keeps.trans (n := h0.size) k2 (Keeps.set hits (Nat.le_refl _) _)
  have hnd : (seen ++ [i]).Nodup := List.nodup_append.2 ⟨nd,by simp,by intro a ha b hb; simp at hb; subst hb; intro e; subst e; exact hns ha⟩
  have hlt : ∀ j ∈ seen ++ [i],j < us.length := by
   intro j hj
   rcases List.mem_append.1 hj with hj | hj
   ·exact lt j hj
   ·rw [List.mem_singleton.1 hj]; exact (List.getElem?_eq_some_iff.1 hr1).1
  have hsa := sumS_app us seen hr1
  have hsl := sumS_le us hnd hlt
  have hsm := a.small
  generalize h2.set h0.size (.mapIter (some bm) (us.map entU).length (seen ++ [i]) (us.map entU).length) = h3 at *
  have gm3 := hold _ _ gm
  obtain ⟨p,c,o,s,ty,op,ro,fz,hg1⟩ := a.at_ r1 hm1
  have hg3 := hold _ _ hg1
  have hw : IntKind.i64.wrap ((sumS us seen : Int) + (r1.2.2 : Int)) = ((sumS us (seen ++ [i]) : Nat) : Int) := by rw [hsa]; exact wrap_nat (by omega)
  refine NC.run (Q := fun ex T h' => ∃ ρ',ex = .nrm ∧ T = toL 20 ρ' ∧ h3 = h' ∧ ρ' 7 = .ptr (some (h0.size,0)) ∧ ρ' 3 = .int .i64 (sumS us (seen ++ [i]))) (by intro b e; cases e) ?_ ?_
  ·simp only [GR,evK,binV,intOp,strOp,shOp,unV,Nat.reduceLT,Nat.reduceEqDiff,Nat.reduceAdd,↓reduceIte,Nat.reduceLeDiff,reduceCtorEq,r105_2,w7,gi,gm3,hlast,hfind,r105_3,w3,hg3,hw]
   refine ⟨_,rfl,?_,?_⟩
   ·exact w7
   ·rfl
  ·rintro ex T h' ⟨ρ',rfl,rfl,rfl,y7,y3⟩
   exact ⟨ρ',h3,rfl,hnd,hlt,y7,⟨gm3,gi⟩,y3,hold,k3⟩
end Go.AM.Wc
namespace Go.AM.Wc
open Go.AM
variable {P : Program} {E : Env}
theorem mos_inj : ∀ {l l' : List (V × V)} {k : Nat},mos l k = mos l' k → l = l'
 | [],[],_,_ => rfl
 | [],_ :: _,_,h => by cases h
 | _ :: _,[],_,h => by cases h
 | x :: l,y :: l',k,h => by
  simp only [mos,List.cons.injEq,Prod.mk.injEq,and_true] at h
  obtain ⟨⟨h1,h2⟩,h3⟩ := h
  rw [mos_inj h3,Prod.ext h1 h2]
theorem us_eq : ∀ {us us' : List FU},us.map entU = us'.map entU → (∀ u ∈ us, ∀ u' ∈ us',u.2.1 = u'.2.1 → u.2.2 = u'.2.2) → totU us = totU us'
 | [],[],_,_ => rfl
 | [],_ :: _,h,_ => by cases h
 | _ :: _,[],h,_ => by cases h
 | u :: us,u' :: us',h,hn => by
  simp only [List.map_cons,List.cons.injEq,entU,Prod.mk.injEq,V.ptr.injEq,Option.some.injEq,and_true] at h
  have ih := us_eq (us := us) (us' := us') h.2 fun a ha b hb => hn a (List.mem_cons_of_mem _ ha) b (List.mem_cons_of_mem _ hb)
  have h1 := hn u List.mem_cons_self u' List.mem_cons_self h.1.2
  simp only [totU,List.map_cons,List.sum_cons] at ih ⊢
  omega
theorem US.uniq {h : H} {bm : Nat} {us us' : List FU} (a : US h bm us) (b : US h bm us') : totU us = totU us' := by
 have e : some (mo (us.map entU)) = some (mo (us'.map entU)) := a.map.symm.trans b.map
 unfold mo at e
 simp only [Option.some.injEq,Obj.map.injEq] at e
 refine us_eq (mos_inj e.1) fun u hu u' hu' hb => ?_
 obtain ⟨p,c,o,s,ty,op,ro,fz,h1⟩ := a.at_ u hu
 obtain ⟨p',c',o',s',ty',op',ro',fz',h2⟩ := b.at_ u' hu'
 rw [hb,h2] at h1
 simp only [Option.some.injEq,Obj.cells.injEq,List.cons.injEq,V.slice.injEq] at h1
 exact h1.1.1.2.1.symm
open Classical in
noncomputable def usedG : List V → H → Option (V × H) := fun args h => match args with
 | [.map (some bm)] => if he : ∃ us,US h bm us then some (.int .i64 (totU he.choose),h) else none
 | _ => none
theorem used_ok (hmix : P.follows .mixedOrders = true) {fn : Func} (hg : P.funcs[105]? = some fn) (hc : cFn P fn = some fn105) {args : List V} {h h' : H} {v : V} {m : Mp} {w : World} {xs : List Value} (he : usedG args h = some (v,h')) (hr : HR P m h w) (hx : VRL m args xs) (n : Nat) :
  CallsIn (FF none) n P 105 xs.toArray w (Post P m h w v h') := by
 unfold usedG at he
 split at he
 ·rename_i bm
  split at he
  ·rename_i hex
   cases he
   refine nsp_prim hmix noPrim hg hc (NSp.mono (used105 (E := envOf P fun _ => none) hex.choose_spec) ?_) hr hx n
   rintro v h' ⟨rfl,k⟩
   exact ⟨k,fun m m' x hx => hx⟩
  ·cases he
 ·cases he
variable {P : Program} {E : Env} {T : H → Prop}
structure Fl where
 name : List UInt8
 blk : Nat
 b : Option Nat
 cs : List V
 syn : Int
def Fl.foot (f : Fl) : List Cell := (f.blk,.cells [vl f.b f.cs.length,.int .i64 f.syn] 105 false false none) :: fpt f.b 5 f.cs
def Fl.fu (f : Fl) : FU := (f.name,f.blk,f.cs.length)
structure DkOK (fs : List Fl) : Prop where
 emp : ∀ f ∈ fs,f.b = none → f.cs = []
 room : totU (fs.map Fl.fu) ≤ 1048576
 byt : ∀ f ∈ fs,Bs f.cs
theorem vl_shape (b : Option Nat) (n : Nat) (hb : b = none → n = 0) : ∃ p c o,vl b n = .slice p n c o := by
 cases b with
 | none => rw [hb rfl]; exact ⟨_,_,_,rfl⟩
 | some b => exact ⟨_,_,_,rfl⟩
theorem foot_mem {fs : List Fl} {f : Fl} (hf : f ∈ fs) : (f.blk,Obj.cells [vl f.b f.cs.length,.int .i64 f.syn] 105 false false none) ∈ fs.flatMap Fl.foot := List.mem_flatMap.2 ⟨f,hf,List.mem_cons_self⟩
end Go.AM.Wc
namespace Go.AM.Wc
open Go.AM
variable {P : Program} {E : Env} {T : H → Prop}
theorem find_none {n : List UInt8} : ∀ {fs : List Fl} {k j : Nat},(∀ f ∈ fs,f.name ≠ n) → findK .str (.str n) (mos (fs.map fun f => entU f.fu) k) j = some none
 | [],_,_,_ => rfl
 | f :: fs,k,j,h => by
  have h1 : (n == f.name) = false := by
   have := h f List.mem_cons_self
   cases hq : n == f.name with
   | false => rfl
   | true => exact (this (beq_iff_eq.1 hq).symm).elim
  have ih := find_none (n := n) (fs := fs) (k := k + 1) (j := j + 1) fun g hg => h g (List.mem_cons_of_mem _ hg)
  simp only [List.map_cons,mos,entU,Fl.fu,findK,sameK,h1] at ih ⊢
  exact ih
theorem find_some {n : List UInt8} {f : Fl} {fs2 : List Fl} : ∀ {fs1 : List Fl} {k j : Nat},(∀ g ∈ fs1,g.name ≠ n) → f.name = n → findK .str (.str n) (mos ((fs1 ++ f :: fs2).map fun f => entU f.fu) k) j = some (some (j + fs1.length,.ptr (some (f.blk,0))))
 | [],k,j,_,hf => by
  have h1 : (n == f.name) = true := beq_iff_eq.2 hf.symm
  simp only [List.nil_append,List.map_cons,mos,entU,Fl.fu,findK,sameK,h1]; rfl
 | g :: fs1,k,j,h,hf => by
  have h1 : (n == g.name) = false := by
   have := h g List.mem_cons_self
   cases hq : n == g.name with
   | false => rfl
   | true => exact (this (beq_iff_eq.1 hq).symm).elim
  have ih := find_some (n := n) (f := f) (fs2 := fs2) (fs1 := fs1) (k := k + 1) (j := j + 1) (fun x hx => h x (List.mem_cons_of_mem _ hx)) hf
  simp only [List.cons_append,List.map_cons,mos,entU,Fl.fu,findK,sameK,h1,List.length_cons] at ih ⊢
  rw [ih]
  congr 3; omega
theorem split_name (n : List UInt8) : ∀ fs : List Fl,(∀ f ∈ fs,f.name ≠ n) ∨ ∃ fs1 f fs2,fs = fs1 ++ f :: fs2 ∧ f.name = n ∧ ∀ g ∈ fs1,g.name ≠ n
 | [] => .inl (by simp)
 | f :: fs => by
  by_cases hf : f.name = n
  ·exact .inr ⟨[],f,fs,rfl,hf,by simp⟩
  ·rcases split_name n fs with h | ⟨a,g,b,h1,h2,h3⟩
   ·exact .inl fun x hx => by
     rcases List.mem_cons.1 hx with rfl | hx
     ·exact hf
     ·exact h x hx
   ·exact .inr ⟨f :: a,g,b,by rw [h1]; rfl,h2,fun x hx => by
     rcases List.mem_cons.1 hx with rfl | hx
     ·exact hf
     ·exact h3 x hx⟩
theorem eq_pn (h : H) (a : Nat × Nat) : eqV h .ptr (.ptr (some a)) (.ptr none) = some false := by simp [eqV]
theorem eq_nn (h : H) : eqV h .ptr (.ptr none) (.ptr none) = some true := by simp [eqV]
theorem eq_mn (h : H) (a : Nat) : eqV h .mp (.map (some a)) (.map none) = some false := by simp [eqV]
end Go.AM.Wc
namespace Go.AM.Wc
open Go.AM
variable {P : Program} {E : Env} {T : H → Prop}
theorem totU_mid (fs1 : List Fl) (f : Fl) (fs2 : List Fl) : totU ((fs1 ++ f :: fs2).map Fl.fu) = totU ((fs1 ++ fs2).map Fl.fu) + f.cs.length := by
 simp [totU,Fl.fu]; omega
theorem DkOK.put {fs1 : List Fl} {f : Fl} {fs2 : List Fl} {b' : Option Nat} {cs' : List V} (ok : DkOK (fs1 ++ f :: fs2)) (he : b' = none → cs' = []) (hb : Bs cs') (hr : totU ((fs1 ++ f :: fs2).map Fl.fu) + cs'.length ≤ 1048576 + f.cs.length) : DkOK (fs1 ++ { f with b := b',cs := cs' } :: fs2) where
 emp := by
  intro g hg
  rcases List.mem_append.1 hg with h | h
  ·exact ok.emp g (List.mem_append_left _ h)
  ·rcases List.mem_cons.1 h with rfl | h
   ·exact he
   ·exact ok.emp g (List.mem_append_right _ (List.mem_cons_of_mem _ h))
 room := by
  rw [totU_mid] at hr ⊢
  simp only
  omega
 byt := by
  intro g hg
  rcases List.mem_append.1 hg with h | h
  ·exact ok.byt g (List.mem_append_left _ h)
  ·rcases List.mem_cons.1 h with rfl | h
   ·exact hb
   ·exact ok.byt g (List.mem_append_right _ (List.mem_cons_of_mem _ h))
theorem DkOK.add {fs : List Fl} (ok : DkOK fs) (n : List UInt8) (b : Nat) : DkOK (fs ++ [⟨n,b,none,[],0⟩]) where
 emp := by
  intro g hg
  rcases List.mem_append.1 hg with h | h
  ·exact ok.emp g h
  ·rw [List.mem_singleton.1 h]; exact fun _ => rfl
 room := by
  rw [totU_mid]
  simpa using ok.room
 byt := by
  intro g hg
  rcases List.mem_append.1 hg with h | h
  ·exact ok.byt g h
  ·rw [List.mem_singleton.1 h]; intro x hx; simp at hx
theorem elems_set {h : H} {i sz n : Nat} {es : List (V × V × Nat)} {c : Nat} (hi : h.get i = some (.map es c)) (o : Obj) {v : V} {r : List V} (he : elemsV h sz n v = some r) : elemsV (h.set i o) sz n v = some r := by
 cases v with
 | slice p l c q =>
  cases p with
  | none => exact he
  | some a =>
   obtain ⟨j,u⟩ := a
   unfold elemsV at he ⊢
   simp only at he ⊢
   by_cases hn : n * sz = 0
   ·simpa [hn] using he
   ·rw [if_neg hn] at he ⊢
    by_cases hij : i = j
    ·rw [← hij,hi] at he; cases he
    ·rw [hset_other (H.get_lt hi) hij]; exact he
 | _ => exact he
end Go.AM.Wc
namespace Go.AM.Wc
open Go.AM
variable {P : Program} {E : Env} {T : H → Prop}
structure Rc where
 b : Nat
 cs : List V
def Rc.v (r : Rc) : V := vl (some r.b) r.cs.length
def Rc.cell (r : Rc) : Cell := (r.b,.cells r.cs 5 true false none)
structure Sg where
 fst : Nat
 rb : Option Nat
 rs : List Rc
 size : Int
 loose : Bool
def Sg.cells (s : Sg) : List V := [.int .i64 s.fst,vl s.rb s.rs.length,.int .i64 s.size,.bool s.loose]
def Sg.foot (s : Sg) : List Cell := fpt s.rb 45 (s.rs.map Rc.v) ++ s.rs.map Rc.cell
def logN : List UInt8 := [108,111,103]
def lgC (bd : Nat) (sv : V) (nx sy : Int) (br : Bool) : List V := [.ptr (some (bd,0)),.str logN,sv,.int .i64 nx,.int .i64 sy,.bool br]
def lgO (bd : Nat) (sv : V) (nx sy : Int) (br : Bool) : Obj := .cells (lgC bd sv nx sy br) 68 false false none
structure okS (s : Sg) : Prop where
 ne : s.rs ≠ []
 nn : s.rb = none → s.rs = []
 rc : ∀ c ∈ s.rs,Bs c.cs ∧ 1 ≤ c.cs.length ∧ c.cs.length ≤ 65536
def chain : List Sg → Nat → Nat → Prop
 | [],a,z => a = z
 | s :: r,a,z => s.fst = a ∧ okS s ∧ chain r (a + s.rs.length) z
theorem chain_snoc {s : Sg} : ∀ {pre : List Sg} {a z : Nat},chain (pre ++ [s]) a z ↔ chain pre a s.fst ∧ okS s ∧ s.fst + s.rs.length = z
 | [],a,z => by
  simp only [List.nil_append,chain]
  constructor
  ·rintro ⟨h1,h2,h3⟩; exact ⟨h1.symm,h2,by omega⟩
  ·rintro ⟨h1,h2,h3⟩; exact ⟨h1.symm,h2,by omega⟩
 | p :: pre,a,z => by
  simp only [List.cons_append,chain]
  rw [chain_snoc]
  constructor
  ·rintro ⟨h1,h2,h3,h4,h5⟩; exact ⟨⟨h1,h2,h3⟩,h4,h5⟩
  ·rintro ⟨⟨h1,h2,h3⟩,h4,h5⟩; exact ⟨h1,h2,h3,h4,h5⟩
theorem chain_len : ∀ {sgs : List Sg} {a z : Nat},chain sgs a z → a + sgs.length ≤ z
 | [],a,z,h => by simp only [chain] at h; simp; omega
 | s :: r,a,z,h => by
  obtain ⟨h1,h2,h3⟩ := h
  have := chain_len h3
  have : 1 ≤ s.rs.length := by
   rcases hq : s.rs with _ | ⟨x,y⟩
   ·exact (h2.ne hq).elim
   ·simp
  simp only [List.length_cons]; omega
theorem chain_mem : ∀ {sgs : List Sg} {a z : Nat},chain sgs a z → ∀ s ∈ sgs,okS s ∧ a ≤ s.fst ∧ s.fst + s.rs.length ≤ z
 | [],_,_,_,s,hs => by cases hs
 | p :: r,a,z,h,s,hs => by
  obtain ⟨h1,h2,h3⟩ := h
  have := chain_len h3
  rcases List.mem_cons.1 hs with rfl | hs
  ·exact ⟨h2,by omega,by omega⟩
  ·obtain ⟨q1,q2,q3⟩ := chain_mem h3 s hs
   exact ⟨q1,by omega,q3⟩
theorem none34 (F : Fw P E T) {h : H} {lb bd : Nat} {sv : V} {nx sy : Int} {br : Bool} (gl : h.get lb = some (lgO bd sv nx sy br)) : Sp P E (.func 34 [] []) [.ptr (some (lb,0))] h fun v h' => v = .bool false ∧ h' = h := by
 unfold lgO lgC at gl
 have e1 : (logN == ([] : List UInt8)) = false := by decide
 refine Sp_fn F.f34 F.p34 (by simp [fn34]) ?_
 simp only [GR,evK,binV,intOp,strOp,shOp,unV,Nat.reduceLT,Nat.reduceEqDiff,Nat.reduceAdd,↓reduceIte,Nat.reduceLeDiff,reduceCtorEq,fn34,c34,r34_0,eq_pn,gl,e1]
theorem next11 (F : Fw P E T) {h : H} {lb bd : Nat} {sv : V} {nx sy : Int} {br : Bool} (gl : h.get lb = some (lgO bd sv nx sy br)) : Sp P E (.func 11 [] []) [.ptr (some (lb,0))] h fun v h' => v = .int .i64 nx ∧ h' = h := by
 refine Sp_fn F.f11 F.p11 (by simp [fn11]) ?_
 simp only [GR,evK,binV,intOp,strOp,shOp,unV,Nat.reduceLT,Nat.reduceEqDiff,Nat.reduceAdd,↓reduceIte,Nat.reduceLeDiff,reduceCtorEq,fn11,c11,r11_0]
 refine XC_of (none34 F gl) ?_
 rintro _ hx ⟨rfl,e2⟩
 rw [e2]
 clear e2 hx
 unfold lgO lgC at gl
 simp only [GR,evK,binV,intOp,strOp,shOp,unV,Nat.reduceLT,Nat.reduceEqDiff,Nat.reduceAdd,↓reduceIte,Nat.reduceLeDiff,reduceCtorEq,r11_1,gl]
theorem segs12 (F : Fw P E T) {h : H} {lb bd : Nat} {p : Option (Nat × Nat)} {n c : Nat} {q : Bool} {nx sy : Int} {br : Bool} (gl : h.get lb = some (lgO bd (.slice p n c q) nx sy br)) : Sp P E (.func 12 [] []) [.ptr (some (lb,0))] h fun v h' => v = .int .i64 n ∧ h' = h := by
 refine Sp_fn F.f12 F.p12 (by simp [fn12]) ?_
 simp only [GR,evK,binV,intOp,strOp,shOp,unV,Nat.reduceLT,Nat.reduceEqDiff,Nat.reduceAdd,↓reduceIte,Nat.reduceLeDiff,reduceCtorEq,fn12,c12,r12_0]
 refine XC_of (none34 F gl) ?_
 rintro _ hx ⟨rfl,e2⟩
 rw [e2]
 clear e2 hx
 unfold lgO lgC at gl
 simp only [GR,evK,binV,intOp,strOp,shOp,unV,Nat.reduceLT,Nat.reduceEqDiff,Nat.reduceAdd,↓reduceIte,Nat.reduceLeDiff,reduceCtorEq,r12_1,gl]
theorem end30 (F : Fw P E T) {h : H} {s : Sg} (hb : s.rb = none → s.rs = []) (hm : s.fst + s.rs.length ≤ 1000000000000) : Sp P E (.func 30 [] []) [.agg s.cells] h fun v h' => v = .int .i64 (s.fst + s.rs.length : Nat) ∧ Kp h h' := by
 obtain ⟨p,c,o,hv⟩ := vl_shape s.rb s.rs.length (fun h => by rw [hb h]; rfl)
 have hw : IntKind.i64.wrap ((s.fst : Int) + (s.rs.length : Int)) = ((s.fst + s.rs.length : Nat) : Int) := by
  rw [wrap_le (by omega) (by omega)]; omega
 have g := psh_same h (.cells s.cells 74 false false none)
 have k1 : Kp h (h.psh (.cells s.cells 74 false false none)) := Keeps.psh (Nat.le_refl _) _
 unfold Sg.cells at *
 rw [hv] at g k1 ⊢
 refine Sp_fn F.f30 F.p30 (by simp [fn30]) ?_
 simp only [GR,evK,binV,intOp,strOp,shOp,unV,Nat.reduceLT,Nat.reduceEqDiff,Nat.reduceAdd,↓reduceIte,Nat.reduceLeDiff,reduceCtorEq,fn30,c30,r30_0,r30_1,g,hw]
 exact k1
theorem fail37 (F : Fw P E T) {lo : Nat} {h : H} {lb bd : Nat} {sv : V} {nx sy e : Int} {br : Bool} {m1 m2 : List Cell} (ow : Ow lo h (m1 ++ (lb,lgO bd sv nx sy br) :: m2)) : Sp P E (.func 37 [] []) [.ptr (some (lb,0)),.int .i64 e] h fun v h' => v = .int .i64 e ∧ Ow lo h' (m1 ++ (lb,lgO bd sv nx sy (br || e != 0)) :: m2) ∧ Keeps lo h h' := by
 have gl := ow.at (i := lb) (o := lgO bd sv nx sy br) (by simp)
 obtain ⟨ow2,k2⟩ := ow.setM (lgO bd sv nx sy (br || e != 0))
 unfold lgO at gl ow2 k2
 have e4 := put_at (ws := [.bool (br || e != 0)]) (o := 5) gl (by simp [lgC]) rfl rfl
 have hset : setR (lgC bd sv nx sy br) 5 [.bool (br || e != 0)] = lgC bd sv nx sy (br || e != 0) := rfl
 rw [hset] at e4
 unfold lgC at gl
 refine Sp_fn F.f37 F.p37 (by simp [fn37]) ?_
 cases br with
 | true =>
  have hh : (true || e != 0) = true := rfl
  rw [hh] at e4 ow2 k2
  simp only [GR,evK,binV,intOp,strOp,shOp,unV,Nat.reduceLT,Nat.reduceEqDiff,Nat.reduceAdd,↓reduceIte,Nat.reduceLeDiff,reduceCtorEq,fn37,c37,r37_0,gl,r37_1,e4]
  exact ⟨ow2,k2⟩
 | false =>
  have hh : (false || e != 0) = (e != 0) := rfl
  rw [hh] at e4 ow2 k2
  simp only [GR,evK,binV,intOp,strOp,shOp,unV,Nat.reduceLT,Nat.reduceEqDiff,Nat.reduceAdd,↓reduceIte,Nat.reduceLeDiff,reduceCtorEq,fn37,c37,r37_0,gl,r37_1,e4]
  exact ⟨ow2,k2⟩
end Go.AM.Wc
namespace Go.AM.Wc
open Go.Lib
theorem dec_le : ∀ (k u : Nat),u < 10 ^ (k + 1) → (decDigits u).length ≤ k + 1 := by
 intro k
 induction k with
 | zero =>
  intro u h
  rw [decDigits,dif_pos (by simpa using h)]; simp
 | succ k ih =>
  intro u h
  rw [decDigits]
  split
  ·simp
  ·have h2 : u / 10 < 10 ^ (k + 1) := by
    rw [Nat.div_lt_iff_lt_mul (by decide)]
    rw [Nat.pow_succ] at h; exact h
   have := ih (u / 10) h2
   simp only [List.length_append,List.length_cons,List.length_nil]; omega
theorem itoa_le {n : Int} (h0 : 0 ≤ n) (h1 : n ≤ 999999999999) : (itoa n).length ≤ 12 := by
 unfold itoa
 rw [if_neg (by omega)]
 exact dec_le 11 n.toNat (by omega)
def dval (l : List UInt8) : Nat := l.foldl (fun a c => a * 10 + (c.toNat - 48)) 0
theorem dval_snoc (l : List UInt8) (c : UInt8) : dval (l ++ [c]) = dval l * 10 + (c.toNat - 48) := by simp [dval]
theorem dval_zeros (l : List UInt8) : ∀ k,dval (List.replicate k 48 ++ l) = dval l
 | 0 => rfl
 | k + 1 => by
  have := dval_zeros l k
  rw [List.replicate_succ,List.cons_append]
  exact this
theorem dg_val {u : Nat} (h : u < 10) : (UInt8.ofNat (48 + u)).toNat - 48 = u := by
 rw [UInt8.toNat_ofNat']; omega
theorem dval_dec : ∀ u,dval (decDigits u) = u := by
 intro u
 induction u using Nat.strongRecOn with
 | _ u ih =>
  rw [decDigits]
  split
  ·rename_i h
   have : dval [UInt8.ofNat (48 + u)] = (UInt8.ofNat (48 + u)).toNat - 48 := by simp [dval]
   rw [this,dg_val h]
  ·rename_i h
   rw [dval_snoc,ih (u / 10) (by omega),dg_val (by omega)]
   omega
def segN (n : Nat) : List UInt8 := segS [108,111,103] (n : Int)
theorem segN_eq {n : Nat} (h : n ≤ 999999999999) : segN n = [108,111,103,46] ++ (List.replicate (12 - (decDigits n).length) 48 ++ decDigits n) := by
 unfold segN segS
 rw [if_pos ⟨by decide,by omega,by omega⟩,show itoa (n : Int) = decDigits n by unfold itoa; rw [if_neg (by omega)]; simp]
 rfl
theorem segN_len {n : Nat} (h : n ≤ 999999999999) : (segN n).length = 16 := by
 have : (decDigits n).length ≤ 12 := dec_le 11 n (by omega)
 rw [segN_eq h]
 simp only [List.length_append,List.length_cons,List.length_nil,List.length_replicate]
 omega
theorem segN_inj {n m : Nat} (hn : n ≤ 999999999999) (hm : m ≤ 999999999999) (h : segN n = segN m) : n = m := by
 rw [segN_eq hn,segN_eq hm] at h
 have h2 := List.append_cancel_left h
 have h3 := congrArg dval h2
 rw [dval_zeros,dval_zeros,dval_dec,dval_dec] at h3
 exact h3
end Go.AM.Wc
namespace Go.AM.Wc
open Go.AM
variable {P : Program} {E : Env} {T : H → Prop}
def Rl (h : H) (v : V) (xs : List (V × Nat)) : Prop := ∃ a c o,v = .slice a xs.length c o ∧ elemsV h 1 xs.length v = some (xs.map (·.1)) ∧ ∀ p ∈ xs,Rb h p.1 p.2
theorem Rl.kp {h h' : H} {v : V} {xs : List (V × Nat)} (a : Rl h v xs) (k : Kp h h') : Rl h' v xs := by
 obtain ⟨p,c,o,h1,h2,h3⟩ := a
 exact ⟨p,c,o,h1,elems_kp k h2,fun x hx => (h3 x hx).kp k⟩
theorem Rl.at {h : H} {v : V} {xs : List (V × Nat)} {k : Nat} (a : Rl h v xs) (hk : k < xs.length) : ∃ b o c q cs ty op ro fz,v = .slice (some (b,o)) xs.length c q ∧ h.get b = some (.cells cs ty op ro fz) ∧ cs[o + k]? = some xs[k].1 := by
 obtain ⟨p,c,q,rfl,h2,h3⟩ := a
 cases p with
 | none => simp only [elemsV] at h2; rw [if_neg (by omega)] at h2; cases h2
 | some p =>
  obtain ⟨i,o⟩ := p
  simp only [elemsV] at h2
  rw [if_neg (by omega)] at h2
  split at h2
  ·rename_i vs ty op ro fz hg
   split at h2
   ·rename_i hle
    simp only [Option.some.injEq] at h2
    refine ⟨i,o,c,q,vs,ty,op,ro,fz,rfl,hg,?_⟩
    have e : (getR vs o (xs.length * 1))[k]? = (xs.map (·.1))[k]? := by rw [h2]
    unfold getR at e
    rw [List.getElem?_take,if_pos (by omega),List.getElem?_drop] at e
    rw [e]
    simp [hk]
   ·cases h2
  ·cases h2
theorem bad36 (F : Fw P E T) {h : H} {p : Option (Nat × Nat)} {n c : Nat} {o : Bool} : Sp P E (.func 36 [] []) [.slice p n c o] h fun r h' => r = .bool (decide (n = 0 ∨ 65536 < n)) ∧ h' = h := by
 refine Sp_fn F.f36 F.p36 (by simp [fn36]) ?_
 by_cases h0 : n = 0
 ·have c1 : ((n : Int) == 0) = true := by rw [h0]; rfl
  simp only [GR,evK,binV,intOp,strOp,shOp,unV,Nat.reduceLT,Nat.reduceEqDiff,Nat.reduceAdd,↓reduceIte,Nat.reduceLeDiff,reduceCtorEq,fn36,c36,r36_0,c1]
  simp [h0]
 ·have c1 : ((n : Int) == 0) = false := by
   cases hq : ((n : Int) == 0) with
   | false => rfl
   | true => rw [beq_iff_eq] at hq; omega
  by_cases h1 : (n : Int) > 65536
  ·simp only [GR,evK,binV,intOp,strOp,shOp,unV,Nat.reduceLT,Nat.reduceEqDiff,Nat.reduceAdd,↓reduceIte,Nat.reduceLeDiff,reduceCtorEq,fn36,c36,r36_0,c1,h1]
   have : 65536 < n := by omega
   simp [this]
  ·simp only [GR,evK,binV,intOp,strOp,shOp,unV,Nat.reduceLT,Nat.reduceEqDiff,Nat.reduceAdd,↓reduceIte,Nat.reduceLeDiff,reduceCtorEq,fn36,c36,r36_0,c1,h1]
   have : ¬ 65536 < n := by omega
   simp [h0,this]
end Go.AM.Wc
namespace Go.AM
def K.sure : K → Bool
 | .mv _ | .un .. | .fadr .. | .nilck _ | .call .. | .app .. | .store .. | .bslice .. | .box .. | .build .. | .lenL _ | .mapUpd .. => true
 | _ => false
theorem sure_rd {P : Program} {T : List V} {h : H} {k : K} {v : V} (hr : evK P T h k = some (.rd v)) : k.sure = false := by
 cases hs : k.sure with
 | false => rfl
 | true =>
  exfalso
  cases k with
  | app ty size bytes s x =>
   simp only [evK] at hr
   split at hr
   ·obtain ⟨v',h1,e⟩ := appV_eff hr; cases e
   ·cases hr
  | mv | un | fadr | nilck | call | store | bslice | box | build | lenL | mapUpd =>
   simp only [evK] at hr
   repeat' split at hr
   all_goals first
    | (cases hr; done)
    | (obtain ⟨v',_,e⟩ := Option.map_eq_some_iff.1 hr; cases e; done)
  | _ => simp [K.sure] at hs
def pinB (A B : List O) : Bool := B.all fun b => b.op.sure && (b.op.still || A.zipIdx.all fun a => a.1.op.sure || b.pre.testBit a.2)
theorem evDr_of {P : Program} {ap : Ap} : ∀ (ops : List O) (T : List V) (h : H) (T' : List V) (h' : H),evOs P ap ops T h = some (T',h') → ∃ es,evDr P ap ops T h = some (es,T',h')
 | [],T,h,T',h',he => by simp only [evOs_nil,Option.some.injEq,Prod.mk.injEq] at he; exact ⟨[],by simp [evDr,he]⟩
 | ⟨dst,k,g,pre,ns⟩ :: ops,T,h,T',h',he => by
  rw [evOs_cons,evO_step] at he
  simp only [evDr]
  split at he
  ·rename_i hw
   rw [if_pos hw]
   cases hk : evK P T h k with
   | none => rw [hk] at he; simp [stepR] at he
   | some x =>
    rw [hk] at he
    cases x with
    | pur v =>
     simp only [stepR,Option.bind_some] at he
     obtain ⟨es,e⟩ := evDr_of ops _ _ _ _ he
     simp only [e,Option.map_some]; exact ⟨_,rfl⟩
    | rd v =>
     simp only [stepR,Option.bind_some] at he
     obtain ⟨es,e⟩ := evDr_of ops _ _ _ _ he
     simp only [e,Option.map_some]; exact ⟨_,rfl⟩
    | eff v h1 =>
     simp only [stepR,Option.bind_some] at he
     obtain ⟨es,e⟩ := evDr_of ops _ _ _ _ he
     simp only [e,Option.map_some]; exact ⟨_,rfl⟩
    | call f args =>
     simp only [stepR] at he
     cases ha : ap f args h with
     | none => rw [ha] at he; simp at he
     | some r =>
      obtain ⟨v,h1⟩ := r
      rw [ha] at he
      simp only [Option.map_some,Option.bind_some] at he
      obtain ⟨es,e⟩ := evDr_of ops _ _ _ _ he
      simp only [ha,e,Option.map_some]; exact ⟨_,rfl⟩
  ·rename_i hw
   rw [if_neg hw]
   simp only [Option.bind_some] at he
   obtain ⟨es,e⟩ := evDr_of ops _ _ _ _ he
   simp only [e,Option.map_some]; exact ⟨_,rfl⟩
theorem evDr_append {P : Program} {ap : Ap} : ∀ (A B : List O) (T : List V) (h : H) (es : List Ent) (T1 : List V) (h1 : H) (es2 : List Ent) (T2 : List V) (h2 : H),evDr P ap A T h = some (es,T1,h1) → evDr P ap B T1 h1 = some (es2,T2,h2) → evDr P ap (A ++ B) T h = some (es ++ es2,T2,h2)
 | [],B,T,h,es,T1,h1,es2,T2,h2,ha,hb => by cases ha; exact hb
 | o :: A,B,T,h,es,T1,h1,es2,T2,h2,ha,hb => by
  have one : ∀ (ent : Ent) (T0 : List V) (h0 : H),(evDr P ap A T0 h0).map (fun x => (ent :: x.1,x.2)) = some (es,T1,h1) → (evDr P ap (A ++ B) T0 h0).map (fun x => (ent :: x.1,x.2)) = some (es ++ es2,T2,h2) := by
   intro ent T0 h0 hm
   obtain ⟨⟨es0,T3,h3⟩,m1,m2⟩ := Option.map_eq_some_iff.1 hm
   simp only [Prod.mk.injEq] at m2
   obtain ⟨rfl,rfl,rfl⟩ := m2
   rw [evDr_append A B T0 h0 es0 _ _ es2 T2 h2 m1 hb]
   rfl
  simp only [evDr,List.cons_append] at ha ⊢
  split at ha
  ·rename_i hw
   rw [if_pos hw]
   cases hk : evK P T h o.op with
   | none => rw [hk] at ha; simp at ha
   | some x =>
    rw [hk] at ha
    cases x with
    | pur v => exact one _ _ _ ha
    | rd v => exact one _ _ _ ha
    | eff v h1 => exact one _ _ _ ha
    | call f args =>
     simp only at ha ⊢
     cases hap : ap f args h with
     | none => rw [hap] at ha; simp at ha
     | some r => rw [hap] at ha; exact one _ _ _ ha
  ·rename_i hw
   rw [if_neg hw]
   exact one _ _ _ ha
theorem readsM {P : Program} {h0 : H} {o : O} {e : Ent} {i : Nat} (hpre : (∀ h,Kp h0 h → sameAt P o e h = true) ∨ (∀ h,Kp e.h h → sameAt P o e h = true)) (hna : e.act = false) : ∀ (ops : List O) (es : List Ent) (j : Nat) (h : H),
  (∀ e0,es[0]? = some e0 → e0.h = h) → (∀ (k : Nat) a b,es[k]? = some a → es[k + 1]? = some b → b.h = a.h') → (∀ (k : Nat) a,es[k]? = some a → a.act = false → a.h' = a.h) →
  (∀ (k : Nat) a q,es[k]? = some a → ops[k]? = some q → a.act = true → Kp a.h a.h' ∨ q.pre.testBit i = true) → es.length = ops.length →
  Kp h0 h → (j ≤ i → es[i - j]? = some e) → (i < j → Kp e.h h) →
  ((∀ h,Kp h0 h → sameAt P o e h = true) ∨ ∀ (k : Nat) a,es[k]? = some a → a.act = true → j + k < i → o.pre.testBit (j + k) = true) →
  readsOk P o e i h (actsOf ops es j) = true
 | [],[],j,h,_,_,_,_,_,hk,h4,h5,_ => by
  have hji : i < j := by
   rcases Nat.lt_or_ge i j with h | h
   ·exact h
   ·have := h4 h; simp at this
  simp only [actsOf,readsOk]
  rcases hpre with hp | hp
  ·exact hp h hk
  ·exact hp h (h5 hji)
 | [],_ :: _,_,_,_,_,_,_,hl,_,_,_,_ => by simp at hl
 | _ :: _,[],_,_,_,_,_,_,hl,_,_,_,_ => by simp at hl
 | o1 :: ops,e1 :: es,j,h,h1,h2,h3,h3',hl,hk,h4,h5,h6 => by
  have e1h := h1 e1 rfl
  have nxt : ∀ h',e1.h' = h' → Kp h0 h' → (i < j + 1 → Kp e.h h') → readsOk P o e i h' (actsOf ops es (j + 1)) = true := by
   intro h' hh hk' hlast
   refine readsM hpre hna ops es (j + 1) h' (fun e0 he0 => ?_) (fun k a b ha hb => h2 (k + 1) a b (by simpa using ha) (by simpa using hb)) (fun k a ha => h3 (k + 1) a (by simpa using ha)) (fun k a q ha hq => h3' (k + 1) a q (by simpa using ha) (by simpa using hq)) (by simpa using hl) hk'
    (fun hj => ?_) hlast ?_
   ·rw [← hh]; exact h2 0 e1 e0 rfl (by simpa using he0)
   ·have := h4 (by omega)
    rw [show i - j = (i - (j + 1)) + 1 by omega] at this
    simpa using this
   ·rcases h6 with h6 | h6
    ·exact .inl h6
    ·refine .inr fun k a ha hact hlt => ?_
     have := h6 (k + 1) a (by simpa using ha) hact (by omega)
     rwa [show j + (k + 1) = j + 1 + k by omega] at this
  unfold actsOf
  by_cases ha : e1.act = true
  ·simp only [ha,if_true,readsOk]
   have hne : j ≠ i := by
    intro hji
    have := h4 (by omega)
    rw [hji,Nat.sub_self] at this
    simp at this; subst this
    rw [hna] at ha; cases ha
   have hc : ((o.pre.testBit j || (actsOf ops es (j + 1)).any fun b => o.pre.testBit b.1) || sameAt P o e h) = true := by
    simp only [Bool.or_eq_true]
    rcases h6 with h6 | h6
    ·exact .inr (h6 h hk)
    ·rcases Nat.lt_or_ge j i with hlt | hge
     ·exact .inl (.inl (by simpa using h6 0 e1 rfl ha (by omega)))
     ·rcases hpre with hp | hp
      ·exact .inr (hp h hk)
      ·exact .inr (hp h (h5 (by omega)))
   rw [hc,Bool.true_and,Bool.or_eq_true]
   rcases h3' 0 e1 o1 rfl rfl ha with hkk | hpin
   ·rw [e1h] at hkk
    exact .inr (nxt e1.h' rfl (hk.trans hkk) (fun hh => (h5 (by omega)).trans hkk))
   ·exact .inl hpin
  ·have ha' : e1.act = false := by simpa using ha
   simp only [ha',Bool.false_eq_true,if_false]
   have hh := h3 0 e1 rfl ha'
   refine nxt h (hh.trans e1h) hk fun hji => ?_
   rcases Nat.lt_or_ge i j with hlt | hge
   ·exact h5 hlt
   ·have hij : i = j := by omega
    have := h4 hge
    rw [hij,Nat.sub_self] at this
    simp at this; subst this
    rw [e1h]; exact Keeps.refl _ _
variable {P : Program} {E : Env} {ro : Option Nat} {L : Nat} {S : List Fr} {Q : Po} {h0 : H}
theorem XD_last {A B : List O} {fs : List Bool} {ρ : Nat → V} (hf : flagsFrom [] A 0 = fs) (hc : (chained (flagsFrom [] (A ++ B) 0) (A ++ B) && fstat (A ++ B) && pinB A B) = true) (hx : XDQ P E ro L (.c (.region B) :: S) Q h0 fs A ρ h0) : XD P E ro L (A ++ B) S ρ h0 Q := by
 have flen : ∀ (ops : List O) (acts : List Nat) (j : Nat),(flagsFrom acts ops j).length = ops.length := by
  intro ops
  induction ops with
  | nil => intro _ _; rfl
  | cons o r ih => intro _ _; simp [flagsFrom,ih]
 have hlen : fs.length = A.length := by rw [← hf]; exact flen _ _ _
 obtain ⟨esA,T1,h1,heA,hq,hX⟩ := XDQ_ents fs A ρ h0 hlen (Keeps.refl _ _) hx
 simp only [XX,EK,EC_region] at hX
 obtain ⟨ex',T3,h3,hX1,hX2⟩ := hX
 cases hB : evOs P (AP P E) B T1 h1 with
 | none => rw [hB] at hX1; simp at hX1
 | some r =>
 obtain ⟨T2,h2⟩ := r
 rw [hB] at hX1
 simp only [Option.map_some] at hX1
 obtain ⟨esB,heB⟩ := evDr_of B T1 h1 T2 h2 hB
 have he := evDr_append A B _ _ esA T1 h1 esB T2 h2 heA heB
 refine ⟨T2,h2,?_,ex',T3,h3,by simpa using hX1,hX2⟩
 obtain ⟨a1,a2,a3,a4,a5⟩ := evDr_ents A (toL L ρ) h0 esA T1 h1 heA
 obtain ⟨b1,b2,b3,b4,b5⟩ := evDr_ents B T1 h1 esB T2 h2 heB
 obtain ⟨e1,e2,e3,e4,e5⟩ := evDr_ents (A ++ B) (toL L ρ) h0 (esA ++ esB) T2 h2 he
 rw [Bool.and_eq_true,Bool.and_eq_true] at hc
 obtain ⟨⟨hc,hfs⟩,hpin⟩ := hc
 have fget : ∀ (i : Nat) o,(A ++ B)[i]? = some o → ∃ f,(flagsFrom [] (A ++ B) 0)[i]? = some f ∧ (f = true → ∀ (k : Nat) o',k < i → (A ++ B)[k]? = some o' → o'.op.still = false → o.pre.testBit k = true) := fun i o hi => by
  obtain ⟨f,h1,h2⟩ := flags_get (A ++ B) [] 0 i o hi
  refine ⟨f,h1,fun hft k o' hk ho' hs => ?_⟩
  have := (h2 hft).2 k o' hk ho' hs
  simpa using this
 have fgetA : ∀ (i : Nat) o,A[i]? = some o → ∃ f,fs[i]? = some f ∧ (f = true → ∀ (k : Nat) o',k < i → A[k]? = some o' → o'.op.still = false → o.pre.testBit k = true) := fun i o hi => by
  obtain ⟨f,h1,h2⟩ := flags_get A [] 0 i o hi
  rw [hf] at h1
  refine ⟨f,h1,fun hft k o' hk ho' hs => ?_⟩
  have := (h2 hft).2 k o' hk ho' hs
  simpa using this
 have hfl : floatOk (actsF (A ++ B) (esA ++ esB) 0) (A ++ B) = true := fstat_ok hfs fun k o e a1 a2 a3 => (e2 k e o a2 a1).1 a3
 have hch : chainF (actsF (A ++ B) (esA ++ esB) 0) = true := chain_ok (A ++ B) (esA ++ esB) 0 fun k l o o' a b a1 a2 a3 a4 a5 a6 a7 => by
  have hs := (e2 k a o a3 a1).1 a5
  have hs' := (e2 l b o' a4 a2).1 a6
  obtain ⟨f,hf1,hf2⟩ := fget l o' a2
  rw [Nat.zero_add]
  exact (chained_get _ (A ++ B) hc l f o' hf1 a2 hs').elim (fun hft => .inr (hf2 hft k o a7 a1 hs)) .inl
 have hrd : rdsOk P (actsOf (A ++ B) (esA ++ esB) 0) h0 (A ++ B) (esA ++ esB) 0 = true := rds_ok (A ++ B) (esA ++ esB) 0 fun k o e q1 q2 q3 => by
  rw [Nat.zero_add]
  obtain ⟨w1,w2⟩ := (e2 k e o q2 q1).2 q3
  have hns := sure_rd w1
  rcases Nat.lt_or_ge k A.length with hkA | hkB
  rotate_left
  ·exfalso
   have hb : B[k - A.length]? = some o := by rw [List.getElem?_append_right hkB] at q1; exact q1
   have hmem := List.mem_of_getElem? hb
   have := List.all_eq_true.1 hpin o hmem
   rw [hns] at this
   simp at this
  have q1A : A[k]? = some o := by rw [List.getElem?_append_left hkA] at q1; exact q1
  have q2A : esA[k]? = some e := by rw [List.getElem?_append_left (by omega)] at q2; exact q2
  obtain ⟨f,hf1,hf2⟩ := fgetA k o q1A
  obtain ⟨hnj,hor⟩ := (EntsQ_get fs A esA hq k f o e hf1 q1A q2A).2 q3
  have hsame : ∀ hh,evK P e.T hh o.op = some (.rd e.v) → sameAt P o e hh = true := fun hh hv => by
   unfold sameAt; rw [hv]; exact V.beq_refl _ hnj
  have hacts : ∀ (l : Nat) a q,(esA ++ esB)[l]? = some a → (A ++ B)[l]? = some q → a.act = true → Kp a.h a.h' ∨ q.pre.testBit k = true := fun l a q c1 c2 c3 => by
   rcases Nat.lt_or_ge l A.length with hlA | hlB
   ·rw [List.getElem?_append_left (by omega)] at c1
    rw [List.getElem?_append_left hlA] at c2
    obtain ⟨f',hf1',_⟩ := fgetA l q c2
    exact .inl ((EntsQ_get fs A esA hq l f' q a hf1' c2 c1).1 c3)
   ·rw [List.getElem?_append_right (by omega)] at c1
    rw [List.getElem?_append_right hlB] at c2
    rw [a1] at c1
    have hs := (b2 _ a q c1 c2).1 c3
    have hp := List.all_eq_true.1 hpin q (List.mem_of_getElem? c2)
    simp only [Bool.and_eq_true,hs,Bool.false_or] at hp
    have hz : (o,k) ∈ A.zipIdx := by
     rw [List.mem_zipIdx_iff_getElem?]; exact q1A
    have := List.all_eq_true.1 hp.2 _ hz
    simp only [hns,Bool.false_or] at this
    exact .inr this
  have hget : (esA ++ esB)[k - 0]? = some e := by simpa using q2
  rcases hor with hft | hv0
  ·refine readsM (h0 := h0) (.inr fun hh hk => hsame hh (evK_rd hk w1)) w2 (A ++ B) (esA ++ esB) 0 h0 e3 e4 e5 hacts e1 (Keeps.refl _ _) (fun _ => hget) (fun hh => by omega) (.inr fun l a b1 b3 b4 => ?_)
   rw [Nat.zero_add] at b4 ⊢
   have hll : l < A.length := by omega
   have b1' : esA[l]? = some a := by rw [List.getElem?_append_left (by omega)] at b1; exact b1
   exact hf2 hft l A[l] b4 (List.getElem?_eq_getElem hll) ((a2 l a A[l] b1' (List.getElem?_eq_getElem hll)).1 b3)
  ·have hall : ∀ hh,Kp h0 hh → sameAt P o e hh = true := fun hh hk => hsame hh (evK_rd hk hv0)
   exact readsM (.inl hall) w2 (A ++ B) (esA ++ esB) 0 h0 e3 e4 e5 hacts e1 (Keeps.refl _ _) (fun _ => hget) (fun hh => by omega) (.inl hall)
 unfold evDraw
 rw [he]
 simp only [hch,hrd,hfl,Bool.and_self,Bool.or_true,if_true]
end Go.AM
