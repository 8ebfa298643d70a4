/- My own texts, laid for this claim. -/
import Derived.Test.YtpfoofcallfjjaaGreatDoorAmGToAmM
import Derived.Laws.BytesString
import Derived.Laws.Externs
import Derived.Lib.MakeNoZero
import Derived.Lib.UnsafeStr
import Derived.LoopNIn
set_option linter.unusedSimpArgs false
set_option linter.unusedVariables false
namespace Go.AM
variable {P : Program} {m : Mp} {h : H} {w : World} {T : List V} {a : Act} {o : Oper} {k : K}
theorem run_getObj {r : Nat} {ob : Go.Obj} (hb : w.heap[r]? = some ob) (hn : ∀ c t f,ob ≠ .cells c t f) : (getObj r).run P w = .ok ob w := by
 cases ob <;> first | (simp only [getObj,Sem.run,hb]; done) | exact absurd rfl (hn _ _ _)
theorem run_setObj {r : Nat} {ob ob' : Go.Obj} (hb : w.heap[r]? = some ob) (hn : ∀ c t f,ob ≠ .cells c t f) : (setObj r ob').run P w = .ok () { w with heap := w.heap.setIfInBounds r ob' } := by
 cases ob <;> first | (simp only [setObj,Sem.run,hb]; done) | exact absurd rfl (hn _ _ _)
theorem Upd.setObj {r : Nat} {ob ob' : Go.Obj} (hb : w.heap[r]? = some ob) : Upd w r ob' { w with heap := w.heap.setIfInBounds r ob' } := by
 have hr : r < w.heap.size := by
  rcases Nat.lt_or_ge r w.heap.size with h | h
  ·exact h
  ·simp [Array.getElem?_eq_none h] at hb
 refine ⟨by simp,by simp [hr],fun b hb => ?_,rfl,rfl,rfl,Nat.le_refl _⟩
 simp [Ne.symm hb]
theorem HR.map {i r sh e : Nat} {es : List (V × V × Nat)} {cl : Nat} (hr : HR P m h w) (hg : h.get i = some (.map es cl)) (hm : m i = some (r,sh,e)) :
  ∃ es',w.heap[r]? = some (.map es' cl) ∧ ER m es es'.toList := by
 obtain ⟨r',sh',e',ob,h1,h2,es',rfl,h3⟩ := hr.obj i _ hg rfl
 rw [hm] at h1; cases h1
 exact ⟨es',h2,h3⟩
theorem ER.length : ∀ {es : List (V × V × Nat)} {ys : List MapEntry},ER m es ys → ys.length = es.length
 | [],_,h => by cases h; rfl
 | _ :: _,_,h => by obtain ⟨y,ys,_,_,_,h4,rfl⟩ := h; simp [ER.length h4]
theorem ER.get : ∀ {es : List (V × V × Nat)} {ys : List MapEntry},ER m es ys → ∀ {i : Nat} {e : V × V × Nat},es[i]? = some e → ∃ y,ys[i]? = some y ∧ VR m e.1 y.key ∧ VR m e.2.1 y.val ∧ y.born = e.2.2
 | [],_,_,i,e,hi => by simp at hi
 | _ :: _,_,h,i,e,hi => by
  obtain ⟨y,ys,h1,h2,h3,h4,rfl⟩ := h
  cases i with
  | zero => simp at hi; subst hi; exact ⟨y,rfl,h1,h2,h3⟩
  | succ i => simpa using ER.get h4 (by simpa using hi)
theorem ER.of_get : ∀ {es : List (V × V × Nat)} {ys : List MapEntry},ys.length = es.length → (∀ (i : Nat) (e : V × V × Nat),es[i]? = some e → ∃ y,ys[i]? = some y ∧ VR m e.1 y.key ∧ VR m e.2.1 y.val ∧ y.born = e.2.2) → ER m es ys
 | [],ys,hl,_ => by cases ys with | nil => rfl | cons a b => simp at hl
 | e :: es,[],hl,_ => by simp at hl
 | e :: es,y :: ys,hl,h => by
  obtain ⟨z,hz,h1,h2,h3⟩ := h 0 e rfl
  simp at hz; subst hz
  exact ⟨y,ys,h1,h2,h3,ER.of_get (by simpa using hl) fun i u hu => by simpa using h (i + 1) u (by simpa using hu),rfl⟩
theorem run_checkKey {t : TypeId} {d : TypeDesc} (hu : P.underlying t = some d) (hd : d = .bool ∨ (∀ k,d = .int k ∨ True) ∧ (∃ k,d = .int k) ∨ d = .string) (b : Bool) (n : Nat) (v : Value) (w : World) :
  (Instr.checkKey b (n + 1) t v).run P w = .ok () w := by
 simp only [Instr.checkKey,Sem.run_bind,run_underlying hu,Result.andThen_ok]
 rcases hd with rfl | ⟨_,k,rfl⟩ | rfl <;> rfl
theorem keyT_spec {t : TypeId} {q : EqT} (b : Bool) (hq : keyT P t = some q) : ∃ d,P.underlying t = some d ∧ (∀ v w,(Instr.checkKey b 10000 t v).run P w = .ok () w) ∧
  (∀ (x y : V) (X Y : Value) (c : Bool),VR m x X → VR m y Y → sameK q x y = some c → Instr.sameNow d X Y = some c) := by
 unfold keyT at hq
 split at hq <;> cases hq
 ·rename_i hu
  refine ⟨_,hu,fun v w => run_checkKey hu (.inl rfl) b 9999 v w,fun x y X Y c hx hy hs => ?_⟩
  unfold sameK at hs
  split at hs <;> first | cases hs; done | (cases hx; cases hy; simp_all [Instr.sameNow])
 ·rename_i kd hu
  refine ⟨_,hu,fun v w => run_checkKey hu (.inr (.inl ⟨fun _ => .inr trivial,kd,rfl⟩)) b 9999 v w,fun x y X Y c hx hy hs => ?_⟩
  unfold sameK at hs
  split at hs <;> first | cases hs; done | (cases hx; cases hy; simp_all [Instr.sameNow])
 ·rename_i hu
  refine ⟨_,hu,fun v w => run_checkKey hu (.inr (.inr rfl)) b 9999 v w,fun x y X Y c hx hy hs => ?_⟩
  unfold sameK at hs
  split at hs <;> first | cases hs; done | (cases hx; cases hy; simp_all [Instr.sameNow,byteArray_beq])
theorem findNow_of {d : TypeDesc} {q : EqT} {x : V} {X : Value} (hx : VR m x X) (hs : ∀ (x y : V) (X Y : Value) (c : Bool),VR m x X → VR m y Y → sameK q x y = some c → Instr.sameNow d X Y = some c) :
  ∀ {es : List (V × V × Nat)} {ys : List MapEntry} {i : Nat} {res : Option (Nat × V)},ER m es ys → findK q x es i = some res →
   ∃ res',Instr.findNow d X ys i = some res' ∧ (match res with
    | none => res' = none
    | some (j,v) => ∃ V',res' = some (j,V') ∧ VR m v V' ∧ i ≤ j ∧ ∃ e,es[j - i]? = some e ∧ e.2.1 = v ∧ sameK q x e.1 = some true)
 | [],_,i,res,h,hf => by cases h; simp [findK] at hf; subst hf; exact ⟨none,rfl,rfl⟩
 | e :: es,_,i,res,h,hf => by
  obtain ⟨y,ys,h1,h2,h3,h4,rfl⟩ := h
  simp only [findK] at hf
  split at hf
  ·rename_i hk
   cases hf
   exact ⟨some (i,y.val),by simp [Instr.findNow,hs _ _ _ _ _ hx h1 hk],y.val,rfl,h2,Nat.le_refl _,e,by simp,rfl,hk⟩
  ·rename_i hk
   obtain ⟨res',r1,r2⟩ := findNow_of hx hs h4 hf
   refine ⟨res',by simp [Instr.findNow,hs _ _ _ _ _ hx h1 hk,r1],?_⟩
   cases res with
   | none => exact r2
   | some p =>
    obtain ⟨V',e1,e2,e3,e',e4,e5,e6⟩ := r2
    refine ⟨V',e1,e2,by omega,e',?_,e5,e6⟩
    rw [show p.1 - i = (p.1 - (i + 1)) + 1 by omega,List.getElem?_cons_succ]; exact e4
  ·cases hf
theorem snd_lookup (cx : Cx P m h w T a) {t : TypeId} {mp ky : Operand} {ok : Bool} (ho : o.op = .lookup t mp ky ok) (hc : cK P (.lookup t mp ky ok) = some k) : Snd P m h w T a o k := by
 intro r hr
 have he : execOp a.eval o = (do pure (Next.value (← Instr.lookup t (a.eval mp) (a.eval ky) ok))) := by simp [execOp,ho]
 simp only [cK] at hc
 split at hc
 ·rename_i kt et mp' ky' h1 h2 h3
  split at hc <;> cases hc
  rename_i q z h4 h5
  obtain ⟨zv,hz,hrz⟩ := zeroT_spec (m := m) h5
  simp only [evK] at hr
  split at hr
  ·-- a nil map
   rename_i kv e1 e2
   split at hr <;> cases hr
   have hx : a.eval mp = .map none := cx.av h2 e1
   obtain ⟨d,hd,hck,hsm⟩ := keyT_spec (m := m) true h4
   refine rd_val (x := if ok then .tuple #[zv,.bool false] else zv) ?_ ?_ he
   ·rw [hx]
    have hfk : (Instr.findKey kt (a.eval ky) []).run P w = .ok none w := by simp [Instr.findKey,run_underlying hd,Instr.findNow]
    simp [Instr.lookup,run_underlying h1,hck,hfk,hrz]
   ·cases ok
    ·exact hz
    ·exact ⟨[zv,.bool false],.cons hz (.one rfl),rfl⟩
  ·rename_i R kv e1 e2
   obtain ⟨r',sh,ex,hm,hx⟩ := cx.av h2 e1
   split at hr
   ·rename_i es cl hg
    obtain ⟨es',g1,g2⟩ := cx.hr.map hg hm
    obtain ⟨d,hd,hck,hsm⟩ := keyT_spec (m := m) es'.isEmpty h4
    have hob : (getObj r').run P w = .ok (.map es' cl) w := run_getObj g1 (by intros; simp)
    split at hr <;> cases hr
    ·rename_i j v hf
     obtain ⟨res',f1,V',rfl,f2,_⟩ := findNow_of (cx.av h3 e2) hsm g2 hf
     have hfk : (Instr.findKey kt (a.eval ky) es'.toList).run P w = .ok (some (j,V')) w := by simp [Instr.findKey,run_underlying hd,f1]
     refine rd_val (x := if ok then .tuple #[V',.bool true] else V') ?_ ?_ he
     ·rw [hx]
      simp [Instr.lookup,run_underlying h1,hck,hfk,hob]
     ·cases ok
      ·exact f2
      ·exact ⟨[V',.bool true],.cons f2 (.one rfl),rfl⟩
    ·rename_i hf
     obtain ⟨res',f1,rfl⟩ := findNow_of (cx.av h3 e2) hsm g2 hf
     have hfk : (Instr.findKey kt (a.eval ky) es'.toList).run P w = .ok none w := by simp [Instr.findKey,run_underlying hd,f1]
     refine rd_val (x := if ok then .tuple #[zv,.bool false] else zv) ?_ ?_ he
     ·rw [hx]
      simp [Instr.lookup,run_underlying h1,hck,hfk,hob,hrz]
     ·cases ok
      ·exact hz
      ·exact ⟨[zv,.bool false],.cons hz (.one rfl),rfl⟩
   ·cases hr
  ·cases hr
 ·cases hc
theorem ER.append {es fs : List (V × V × Nat)} {xs ys : List MapEntry} (h1 : ER m es xs) (h2 : ER m fs ys) : ER m (es ++ fs) (xs ++ ys) := by
 induction es generalizing xs with
 | nil => cases h1; exact h2
 | cons e es ih => obtain ⟨y,ys',a1,a2,a3,a4,rfl⟩ := h1; exact ⟨y,ys' ++ ys,a1,a2,a3,ih a4,rfl⟩
theorem HR.setMap {i r sh e : Nat} {es fs : List (V × V × Nat)} {cl cl' : Nat} {es' fs' : Array MapEntry} (hr : HR P m h w) (hg : h.get i = some (.map es cl)) (hm : m i = some (r,sh,e))
  (hb : w.heap[r]? = some (.map es' cl)) (hf : ER m fs fs'.toList) :
  HR P m (h.set i (.map fs cl')) { w with heap := w.heap.setIfInBounds r (.map fs' cl') } ∧ Ext m h w m (h.set i (.map fs cl')) { w with heap := w.heap.setIfInBounds r (.map fs' cl') } :=
 hr.set hg rfl hm (Upd.setObj hb) ⟨fs',rfl,hf⟩
theorem sameK_bits {q : EqT} {x y : V} {X Y : Value} (hx : VR m x X) (hy : VR m y Y) (hs : sameK q x y = some true) : Instr.sameBits 10000 Y X = true := by
 unfold sameK at hs
 split at hs
 ·split at hs <;> simp at hs
  rename_i hk; subst hk; subst hs; cases hx; cases hy
  show (_ == _ && _ == _) = true
  simp
 ·simp at hs; subst hs; cases hx; cases hy
  show ((_ : ByteArray) == _) = true
  simp [byteArray_beq]
 ·simp at hs; subst hs; cases hx; cases hy
  show (_ == _) = true
  simp
 ·cases hs
theorem snd_mapUpdate (cx : Cx P m h w T a) {t : TypeId} {mp ky vl : Operand} (ho : o.op = .mapUpdate t mp ky vl ∨ o.op = .insert t mp ky vl) (hc : cK P (.mapUpdate t mp ky vl) = some k) : Snd P m h w T a o k := by
 intro r hr
 have he : execOp a.eval o = (do Instr.mapUpdate t (a.eval mp) (a.eval ky) (a.eval vl); pure Next.skip) := by rcases ho with ho | ho <;> simp [execOp,ho]
 simp only [cK] at hc
 split at hc
 ·rename_i kt et mp' ky' vl' h1 h2 h3 h4
  cases h5 : keyT P kt with
  | none => simp [h5] at hc
  | some q =>
   simp [h5] at hc; subst hc
   simp only [evK] at hr
   split at hr
   ·rename_i R kv vv e1 e2 e3
    obtain ⟨r',sh,ex,hm,hx⟩ := cx.av h2 e1
    have hk := cx.av h3 e2
    have hv := cx.av h4 e3
    split at hr
    ·rename_i es cl hg
     obtain ⟨es',g1,g2⟩ := cx.hr.map hg hm
     obtain ⟨d,hd,hck,hsm⟩ := keyT_spec (m := m) false h5
     have hob : (getObj r').run P w = .ok (.map es' cl) w := run_getObj g1 (by intros; simp)
     have hso : ∀ ob,(setObj r' ob).run P w = .ok () { w with heap := w.heap.setIfInBounds r' ob } := fun ob => run_setObj g1 (by intros; simp)
     split at hr <;> cases hr
     ·rename_i j v hf
      obtain ⟨res',f1,V',rfl,f2,_,e,f3,f4,f5⟩ := findNow_of hk hsm g2 hf
      have hfk : (Instr.findKey kt (a.eval ky) es'.toList).run P w = .ok (some (j,V')) w := by simp [Instr.findKey,run_underlying hd,f1]
      simp only [Nat.sub_zero] at f3
      obtain ⟨y,y1,y2,y3,y4⟩ := g2.get f3
      have hbits := sameK_bits hk y2 f5
      have hy1 : es'[j]? = some y := by simpa using y1
      have hER : ER m (es.modify j fun e => (kv,vv,e.2.2)) (es'.modify j fun e => { e with key := a.eval ky,val := a.eval vl }).toList := by
       refine ER.of_get (by simp [g2.length]) fun i u hu => ?_
       rw [List.getElem?_modify] at hu
       rw [Array.toList_modify,List.getElem?_modify]
       cases hi : es[i]? with
       | none => simp [hi] at hu
       | some u0 =>
        obtain ⟨y0,z1,z2,z3,z4⟩ := g2.get hi
        rw [hi] at hu
        simp only [Option.map_eq_map,Option.map_some,Option.some.injEq] at hu
        by_cases hji : j = i
        ·rw [if_pos hji] at hu
         subst hu
         refine ⟨{ y0 with key := a.eval ky,val := a.eval vl },?_,hk,hv,z4⟩
         rw [z1]; simp [hji]
        ·rw [if_neg hji] at hu
         subst hu
         refine ⟨y0,?_,z2,z3,z4⟩
         rw [z1]; simp [hji]
      obtain ⟨k1,k2⟩ := cx.hr.setMap (cl' := cl) hg hm g1 hER
      refine ⟨m,_,undef,k1,k2,⟨[],rfl,rfl⟩,.inr ⟨?_,rfl⟩⟩
      rw [he,hx]
      simp [Instr.mapUpdate,run_underlying h1,hob,hck,hfk,Instr.keyThatStays,hy1,hbits,hso]
     ·rename_i hf
      obtain ⟨res',f1,rfl⟩ := findNow_of hk hsm g2 hf
      have hfk : (Instr.findKey kt (a.eval ky) es'.toList).run P w = .ok none w := by simp [Instr.findKey,run_underlying hd,f1]
      have hER : ER m (es ++ [(kv,vv,cl)]) (es'.push { key := a.eval ky,val := a.eval vl,born := cl }).toList := by
       rw [Array.toList_push]
       exact g2.append ⟨_,[],hk,hv,rfl,rfl,rfl⟩
      obtain ⟨k1,k2⟩ := cx.hr.setMap (cl' := cl + 1) hg hm g1 hER
      refine ⟨m,_,undef,k1,k2,⟨[],rfl,rfl⟩,.inr ⟨?_,rfl⟩⟩
      rw [he,hx]
      simp [Instr.mapUpdate,run_underlying h1,hob,hck,hfk,hso]
    ·cases hr
   ·cases hr
 ·cases hc
theorem snd_range (cx : Cx P m h w T a) {t : TypeId} {x : Operand} (ho : o.op = .range t x) (hc : cK P (.range t x) = some k) : Snd P m h w T a o k := by
 intro r hr
 have he : execOp a.eval o = (do pure (Next.value (← Instr.range t (a.eval x)))) := by simp [execOp,ho]
 have key : ∀ (ob : Obj) (rob : Go.Obj) (h' : H),h.push ob = some h' → OR P m rob 0 0 ob →
   (Instr.range t (a.eval x)).run P w = .ok (.pointer (some ⟨w.heap.size,0,none⟩)) { w with heap := w.heap.push rob } → ResOK P m h w ((execOp a.eval o).run P w) (.eff (.ptr (some (h.size,0))) h') := fun ob rob h' hp hor hrun => by
  obtain ⟨h1,h2⟩ := cx.hr.push (e := 0) hp (New.alloc w rob) hor
  exact ⟨_,_,.pointer (some ⟨w.heap.size,0,none⟩),h1,h2,⟨_,_,_,upd_self _ _ _,rfl⟩,.inl (by rw [he]; simp [hrun])⟩
 simp only [cK] at hc
 split at hc
 ·rename_i y hu hy
  cases hc
  simp only [evK] at hr
  split at hr
  ·rename_i s e1 _
   split at hr
   ·rename_i h' hp
    cases hr
    have hx : a.eval x = .string ⟨s.toArray⟩ := cx.av hy e1
    refine key (.strIter s 0) (.stringIter ⟨s.toArray⟩ 0) h' hp ⟨rfl,rfl⟩ ?_
    rw [hx]; simp [Instr.range,run_underlying hu]
   ·cases hr
  all_goals first | (cases hr; done) | simp_all
 ·rename_i kt et y hu hy
  cases hc
  simp only [evK] at hr
  split at hr
  ·simp_all
  ·rename_i e1 _
   split at hr
   ·rename_i h' hp
    cases hr
    have hx : a.eval x = .map none := cx.av hy e1
    refine key (.mapIter none 0 [] 0) (.mapIter none 0 #[] 0) h' hp ⟨rfl,none,rfl,rfl⟩ ?_
    rw [hx]; simp [Instr.range,run_underlying hu]
   ·cases hr
  ·rename_i R e1 _
   obtain ⟨r',sh,ex,hm,hx⟩ := cx.av hy e1
   split at hr
   ·rename_i es cl hg
    obtain ⟨es',g1,g2⟩ := cx.hr.map hg hm
    split at hr
    ·rename_i h' hp
     cases hr
     refine key (.mapIter (some R) cl [] cl) (.mapIter (some r') cl #[] cl) h' hp ⟨rfl,some r',rfl,r',sh,ex,hm,rfl⟩ ?_
     have hob : (getObj r').run P w = .ok (.map es' cl) w := run_getObj g1 (by intros; simp)
     rw [hx]; simp [Instr.range,run_underlying hu,hob]
    ·cases hr
   ·cases hr
  all_goals first | (cases hr; done) | simp_all
 ·cases hc
theorem HR.iter {i r sh e : Nat} {mm : Option Nat} {since st : Nat} {seen : List Nat} (hr : HR P m h w) (hg : h.get i = some (.mapIter mm since seen st)) (hm : m i = some (r,sh,e)) :
  ∃ q,sh = 0 ∧ w.heap[r]? = some (.mapIter q since seen.toArray st) ∧ IterR m mm q := by
 obtain ⟨r',sh',e',ob,h1,h2,h0,q,rfl,h3⟩ := hr.obj i _ hg rfl
 rw [hm] at h1; cases h1
 exact ⟨q,h0,h2,h3⟩
theorem ER.filter {f : V × V × Nat → Bool} {g : MapEntry → Bool} (hfg : ∀ e y,y.born = e.2.2 → g y = f e) : ∀ {es : List (V × V × Nat)} {ys : List MapEntry},ER m es ys → ER m (es.filter f) (ys.filter g)
 | [],_,h => by cases h; rfl
 | e :: es,_,h => by
  obtain ⟨y,ys,h1,h2,h3,h4,rfl⟩ := h
  have := hfg e y h3
  simp only [List.filter_cons,this]
  split
  ·exact ⟨y,_,h1,h2,h3,ER.filter hfg h4,rfl⟩
  ·exact ER.filter hfg h4
theorem ER.all {f : V × V × Nat → Bool} {g : MapEntry → Bool} (hfg : ∀ e y,y.born = e.2.2 → g y = f e) : ∀ {es : List (V × V × Nat)} {ys : List MapEntry},ER m es ys → ys.all g = es.all f
 | [],_,h => by cases h; rfl
 | e :: es,_,h => by
  obtain ⟨y,ys,h1,h2,h3,h4,rfl⟩ := h
  simp [List.all_cons,hfg e y h3,ER.all hfg h4]
theorem snd_next (cx : Cx P m h w T a) {x : Operand} {s : Bool} (ho : o.op = .next x s) (hc : cK P (.next x s) = some k) : Snd P m h w T a o k := by
 intro r hr
 have he : execOp a.eval o = (do pure (Next.value (← Instr.next (a.eval x) s o.type))) := by simp [execOp,ho]
 simp only [cK] at hc
 cases h1 : cA P x with
 | none => simp [h1] at hc
 | some y =>
  simp [h1] at hc; subst hc
  simp only [evK] at hr
  split at hr
  ·rename_i i e1
   obtain ⟨R,sh,ex,hm,hx⟩ := cx.av h1 e1
   split at hr
   ·-- a text
    rename_i str pos hg
    obtain ⟨r',sh',e',ob,g1,g2,g3⟩ := cx.hr.obj i _ hg rfl
    rw [hm] at g1; cases g1
    obtain ⟨rfl,rfl⟩ := g3
    have hob : (getObj R).run P w = .ok (.stringIter ⟨str.toArray⟩ pos) w := run_getObj g2 (by intros; simp)
    have hso : ∀ ob,(setObj R ob).run P w = .ok () { w with heap := w.heap.setIfInBounds R ob } := fun ob => run_setObj g2 (by intros; simp)
    have hsz : (⟨str.toArray⟩ : ByteArray).size = str.length := by simp [ByteArray.size]
    split at hr <;> cases hr
    ·rename_i hlt
     obtain ⟨k1,k2⟩ := cx.hr.set (o' := .strIter str (pos + (Utf8.decode ⟨str.toArray⟩ pos).2)) hg rfl hm (Upd.setObj (ob' := .stringIter ⟨str.toArray⟩ (pos + (Utf8.decode ⟨str.toArray⟩ pos).2)) g2) ⟨rfl,rfl⟩
     refine ⟨m,_,.tuple #[.bool true,.int .i64 pos,.int .i32 (Utf8.decode ⟨str.toArray⟩ pos).1],k1,k2,⟨[_,_,_],.cons rfl (.cons rfl (.one rfl)),rfl⟩,.inl ?_⟩
     rw [he,hx]
     simp [Instr.next,hob,hsz,hlt,hso,goInt]
    ·rename_i hlt
     refine ⟨m,w,.tuple #[.bool false],cx.hr,Ext.refl _ _ _,⟨[_],.one rfl,rfl⟩,.inl ?_⟩
     rw [he,hx]
     simp [Instr.next,hob,hsz,hlt]
   ·rename_i since seen st hg
    obtain ⟨q,rfl,g1,rfl⟩ := cx.hr.iter hg hm
    cases hr
    have hob : (getObj R).run P w = .ok (.mapIter none since seen.toArray st) w := run_getObj g1 (by intros; simp)
    refine ⟨m,w,.tuple #[.bool false],cx.hr,Ext.refl _ _ _,⟨[_],.one rfl,rfl⟩,.inl ?_⟩
    rw [he,hx]
    simp [Instr.next,hob]
   ·rename_i mi since seen st hg
    obtain ⟨q,rfl,g1,b,sh2,e2,hmi,rfl⟩ := cx.hr.iter hg hm
    have hob : (getObj R).run P w = .ok (.mapIter (some b) since seen.toArray st) w := run_getObj g1 (by intros; simp)
    have hso : ∀ ob,(setObj R ob).run P w = .ok () { w with heap := w.heap.setIfInBounds R ob } := fun ob => run_setObj g1 (by intros; simp)
    split at hr
    ·rename_i es cl hg2
     obtain ⟨es',g2,g3⟩ := cx.hr.map hg2 hmi
     have hobm : (getObj b).run P w = .ok (.map es' cl) w := run_getObj g2 (by intros; simp)
     split at hr
     ·cases hr
     ·rename_i hcond
      have hl := g3.filter (f := fun e => !seen.contains e.2.2) (g := fun y => !seen.toArray.contains y.born) (fun e y hb => by simp [hb])
      have ho1 := hl.filter (f := fun e => decide (e.2.2 < since)) (g := fun y => decide (y.born < since)) (fun e y hb => by simp [hb])
      have hn1 := hl.filter (f := fun e => decide (e.2.2 ≥ since)) (g := fun y => decide (y.born ≥ since)) (fun e y hb => by simp [hb])
      have hco : (!seen.toArray.isEmpty && !es'.isEmpty && es'.all (fun y => decide (y.born ≥ st))) = false := by
       have e1 : seen.toArray.isEmpty = seen.isEmpty := by simp
       have e2 : es'.isEmpty = es.isEmpty := by
        have hlen : es'.size = es.length := by simpa using g3.length
        cases es <;> simp [Array.isEmpty,hlen]
       have e3 : es'.all (fun y => decide (y.born ≥ st)) = es.all (fun e => decide (e.2.2 ≥ st)) := by
        rw [← Array.all_toList]; exact g3.all (fun e y hb => by simp [hb])
       rw [e1,e2,e3]; simpa using hcond
      have harr : ∀ {A : Array MapEntry} {l : List MapEntry},A.toList = l → A = l.toArray := fun h => Array.ext' (by simpa using h)
      split at hr
      ·-- all have been seen
       rename_i hold hnew
       cases hr
       rw [hold] at ho1
       rw [hnew] at hn1
       have a1 : (es'.filter fun y => !seen.toArray.contains y.born).filter (fun y => decide (y.born < since)) = #[] := by
        apply harr; rw [Array.toList_filter,Array.toList_filter]; exact ho1
       have a2 : (es'.filter fun y => !seen.toArray.contains y.born).filter (fun y => decide (y.born ≥ since)) = #[] := by
        apply harr; rw [Array.toList_filter,Array.toList_filter]; exact hn1
       refine ⟨m,w,.tuple #[.bool false],cx.hr,Ext.refl _ _ _,⟨[_],.one rfl,rfl⟩,.inl ?_⟩
       rw [he,hx]
       simp only [Instr.next,Nat.add_zero,Sem.run_bind,hob,hobm,Result.andThen_ok,hco,Bool.false_eq_true,if_false,a1,a2]
       simp [Question.forced]
      ·-- the one that is left
       rename_i e hold hnew
       cases hr
       rw [hold] at ho1
       rw [hnew] at hn1
       obtain ⟨y,l',y1,y2,y3,hl',hly⟩ := ho1
       cases hl'
       have a1 : (es'.filter fun y => !seen.toArray.contains y.born).filter (fun y => decide (y.born < since)) = #[y] := by
        apply harr; rw [Array.toList_filter,Array.toList_filter]; exact hly
       have a2 : (es'.filter fun y => !seen.toArray.contains y.born).filter (fun y => decide (y.born ≥ since)) = #[] := by
        apply harr; rw [Array.toList_filter,Array.toList_filter]; exact hn1
       obtain ⟨k1,k2⟩ := cx.hr.set (o' := .mapIter (some mi) since (seen ++ [e.2.2]) cl) hg rfl hm (Upd.setObj (ob' := .mapIter (some b) since (seen.toArray.push y.born) cl) g1)
        ⟨rfl,some b,by rw [y3]; simp,b,sh2,e2,hmi,rfl⟩
       refine ⟨m,_,.tuple #[.bool true,y.key,y.val],k1,k2,⟨[_,_,_],.cons rfl (.cons y1 (.one y2)),rfl⟩,.inl ?_⟩
       rw [he,hx]
       simp only [Instr.next,Nat.add_zero,Sem.run_bind,hob,hobm,Result.andThen_ok,hco,Bool.false_eq_true,if_false,a1,a2]
       simp [Question.forced,hso]
      ·cases hr
    ·cases hr
   ·cases hr
  ·cases hr
theorem snd_entry (cx : Cx P m h w T a) {x : Operand} (ho : o.op = .entry x) (hc : cK P (.entry x) = some k) : Snd P m h w T a o k := by
 intro r hr
 have he : execOp a.eval o = (do pure (Next.value (← Instr.entry (a.eval x)))) := by simp [execOp,ho]
 simp only [cK] at hc
 cases h1 : cA P x with
 | none => simp [h1] at hc
 | some y =>
  simp [h1] at hc; subst hc
  simp only [evK] at hr
  split at hr
  ·rename_i i e1
   obtain ⟨R,sh,ex,hm,hx⟩ := cx.av h1 e1
   split at hr
   ·rename_i mi since seen st hg
    obtain ⟨q,rfl,g1,b,sh2,e2,hmi,rfl⟩ := cx.hr.iter hg hm
    have hob : (getObj R).run P w = .ok (.mapIter (some b) since seen.toArray st) w := run_getObj g1 (by intros; simp)
    split at hr
    ·rename_i stamp es cl hst hg2
     obtain ⟨es',g2,g3⟩ := cx.hr.map hg2 hmi
     have hobm : (getObj b).run P w = .ok (.map es' cl) w := run_getObj g2 (by intros; simp)
     split at hr
     ·rename_i hcl
      cases hf : es.find? (fun e => e.2.2 == stamp) with
      | none => simp [hf] at hr
      | some e =>
       simp [hf] at hr; subst hr
       have hfind : ∀ {es : List (V × V × Nat)} {ys : List MapEntry},ER m es ys → es.find? (fun e => e.2.2 == stamp) = some e →
         ∃ y,ys.find? (fun y => y.born == stamp) = some y ∧ VR m e.1 y.key ∧ VR m e.2.1 y.val := by
        intro es
        induction es with
        | nil => intro ys _ hf; simp at hf
        | cons e0 es ih =>
         intro ys hE hf
         obtain ⟨y,ys',z1,z2,z3,z4,rfl⟩ := hE
         rw [List.find?_cons] at hf ⊢
         rw [z3]
         split at hf
         ·cases hf; exact ⟨y,rfl,z1,z2⟩
         ·exact ih z4 hf
       obtain ⟨y,z1,z2,z3⟩ := hfind g3 hf
       have z1' : es'.find? (fun y => y.born == stamp) = some y := by rw [← Array.find?_toList]; exact z1
       have hback : seen.toArray.back? = some stamp := by simpa using hst
       refine rd_val (x := .tuple #[y.key,y.val]) ?_ ⟨[_,_],.cons z2 (.one z3),rfl⟩ he
       rw [hx]
       have hcl' : (cl != st) = false := by simp [hcl]
       simp [Instr.entry,hob,hobm,hback,hcl,z1']
     ·cases hr
    ·cases hr
   ·cases hr
  ·cases hr
end Go.AM
namespace Go.AM
variable {P : Program} {m : Mp} {h : H} {w : World} {T : List V} {a : Act} {o : Oper} {k : K}
theorem bytesV_sound : ∀ {cs : List V} {xs : List Value} {bs : List UInt8},VRL m cs xs → bytesV cs = some bs →
  ∃ ns : List Int,xs = ns.map (Value.int .u8) ∧ bs = ns.map (fun n => UInt8.ofNat n.toNat)
 | [],_,bs,h,hb => by cases h; simp [bytesV] at hb; subst hb; exact ⟨[],rfl,rfl⟩
 | c :: cs,_,bs,h,hb => by
  obtain ⟨x,xs,h1,h2,rfl⟩ := h
  cases c <;> try (simp [bytesV] at hb; done)
  rename_i kd n
  cases kd <;> simp only [bytesV] at hb <;> try cases hb
  split at hb <;> cases hb
  rename_i bs' hb'
  obtain ⟨ns,rfl,rfl⟩ := bytesV_sound h2 hb'
  cases h1
  exact ⟨n :: ns,rfl,rfl⟩
theorem foldl_push (ns : List Int) : ∀ (acc : ByteArray),(ns.foldl (fun r n => r.push (UInt8.ofNat n.toNat)) acc) = ⟨(acc.data.toList ++ ns.map (fun n => UInt8.ofNat n.toNat)).toArray⟩ := by
 induction ns with
 | nil => intro acc; simp
 | cons n ns ih => intro acc; rw [List.foldl_cons,ih]; simp [ByteArray.push]
theorem snd_b2s (cx : Cx P m h w T a) {t u : TypeId} {x : Operand} {e : TypeId} {y : A} (ho : o.op = .convert t u x) (h1 : P.underlying t = some (.slice e)) (h2 : P.underlying u = some .string)
  (h3 : P.underlying e = some (.int .u8)) (h4 : cA P x = some y) : Snd P m h w T a o (.b2s y) := by
 intro r hr
 have he : execOp a.eval o = (do pure (Next.value (← convert t u (a.eval x)))) := by simp [execOp,ho]
 simp only [evK] at hr
 split at hr
 ·rename_i p len c q e1
  split at hr
  ·rename_i cs hcs
   have hv := cx.av h4 e1
   split at hr
   ·rename_i hp
    cases hr
    cases p with
    | none =>
     have hx : a.eval x = .slice none len c := hv
     refine rd_val (x := .string .empty) ?_ rfl he
     rw [hx,run_convert_bytes_string w t u e _ _ _ h1 h3 h2]; simp [Conv.bytesToString]
    | some p => simp at hp
   ·cases hb : bytesV cs with
    | none => simp [hb] at hr
    | some bs =>
     simp [hb] at hr; subst hr
     cases p with
     | none =>
      simp only [elemsV] at hcs
      split at hcs <;> cases hcs
      have hx : a.eval x = .slice none len c := hv
      simp [bytesV] at hb; subst hb
      refine rd_val (x := .string .empty) ?_ rfl he
      rw [hx,run_convert_bytes_string w t u e _ _ _ h1 h3 h2]; simp [Conv.bytesToString]
     | some p =>
      obtain ⟨xs,g1,g2⟩ := run_elemsV cx.hr hv rfl (Nat.le_refl _) hcs
      obtain ⟨i,q0⟩ := p
      obtain ⟨R,sh,ex,ad,hm,hx,hz⟩ := hv
      obtain ⟨ns,rfl,rfl⟩ := bytesV_sound g2 hb
      rw [hx] at g1
      simp only [Builtin.firstCells,Nat.mul_one] at g1
      refine rd_val (x := .string ⟨(ns.map (fun (n : Int) => UInt8.ofNat n.toNat)).toArray⟩) ?_ rfl he
      rw [hx,run_convert_bytes_string w t u e _ _ _ h1 h3 h2,run_bytesToString w ad len _ ns g1,foldl_push]
      rfl
  ·cases hr
 ·cases hr
theorem New.freeze {w w1 : World} {c : Array Value} {ty : TypeId} (hn : New w (.cells c ty) w1) :
  New w (.cells c ty (c.size,c.size + 1)) (w1.freeze { block := w.heap.size,off := c.size } 1) := by
 refine ⟨?_,hn.os,hn.output,hn.tape,hn.drawn⟩
 simp only [World.freeze,Nat.one_ne_zero,if_false,hn.heap]
 apply Array.ext_getElem?
 intro i
 rw [Array.getElem?_modify,Array.getElem?_push,Array.getElem?_push]
 by_cases hi : i = w.heap.size
 ·subst hi; simp
 ·simp [hi,Ne.symm hi]
theorem run_stringToBytes (e : TypeId) (s : List UInt8) (w : World) : (Conv.stringToBytes e ⟨s.toArray⟩).run P w =
  .ok (.slice (some ⟨w.heap.size,0,none⟩) s.length (drawnCap w s.length 0 e))
   (World.freeze { w.drew with heap := w.heap.push (.cells ((s.map fun (b : UInt8) => Value.int .u8 b.toNat) ++ List.replicate (drawnCap w s.length 0 e - s.length) (Value.int .u8 0)).toArray e) }
    { block := w.heap.size,off := ((s.map fun (b : UInt8) => Value.int .u8 b.toNat) ++ List.replicate (drawnCap w s.length 0 e - s.length) (Value.int .u8 0)).toArray.size } 1) := by
 have hsz : (⟨s.toArray⟩ : ByteArray).size = s.length := by simp [ByteArray.size]
 have harr : (s.toArray.map fun (b : UInt8) => Value.int .u8 b.toNat) ++ Array.replicate (drawnCap w s.length 0 e - s.length) (Value.int .u8 0) =
   ((s.map fun (b : UInt8) => Value.int .u8 b.toNat) ++ List.replicate (drawnCap w s.length 0 e - s.length) (Value.int .u8 0)).toArray := by
  apply Array.ext'; simp
 have hch : (choose (.appendCap s.length 0 e)).run P w = .ok (drawnCap w s.length 0 e) w.drew := rfl
 simp only [Conv.stringToBytes,Sem.run_bind,hch,Result.andThen_ok,hsz,newRow,run_newObj,Sem.run_pure,markStringish,run_shape]
 rw [harr]
 have hsh : World.shape? { w.drew with heap := w.drew.heap.push (.cells ((s.map fun (b : UInt8) => Value.int .u8 b.toNat) ++ List.replicate (drawnCap w s.length 0 e - s.length) (Value.int .u8 0)).toArray e) } w.drew.heap.size =
   some (e,((s.map fun (b : UInt8) => Value.int .u8 b.toNat) ++ List.replicate (drawnCap w s.length 0 e - s.length) (Value.int .u8 0)).toArray.size) := by
  simp only [World.shape?]
  rw [show w.drew.heap.size = w.heap.size from rfl,show w.drew.heap = w.heap from rfl,Array.getElem?_push_size]
 rw [hsh]
 rfl
theorem snd_s2b (cx : Cx P m h w T a) {t u : TypeId} {x : Operand} {e : TypeId} {y : A} (ho : o.op = .convert t u x) (h1 : P.underlying t = some .string) (h2 : P.underlying u = some (.slice e))
  (h3 : P.underlying e = some (.int .u8)) (hs1 : P.cellsOf e = 1) (h4 : cA P x = some y) : Snd P m h w T a o (.s2b e y) := by
 intro r hr
 have he : execOp a.eval o = (do pure (Next.value (← convert t u (a.eval x)))) := by simp [execOp,ho]
 simp only [evK] at hr
 split at hr
 ·rename_i s e1
  split at hr <;> cases hr
  rename_i h' hp
  have hx : a.eval x = .string ⟨s.toArray⟩ := cx.av h4 e1
  have hsz : (⟨s.toArray⟩ : ByteArray).size = s.length := by simp [ByteArray.size]
  have hge : s.length ≤ drawnCap w s.length 0 e := drawnCap_ge w s.length 0 e
  have hxs : VRL m (s.map fun b => V.int .u8 b.toNat) (s.map fun b => Value.int .u8 b.toNat) := by
   refine VRL.of_get (by simp) fun i v hv => ?_
   simp only [List.getElem?_map,Option.map_eq_some_iff] at hv ⊢
   obtain ⟨b,hb,rfl⟩ := hv
   exact ⟨_,⟨b,hb,rfl⟩,rfl⟩
  have hn : New w (.cells ((s.map fun (b : UInt8) => Value.int .u8 b.toNat) ++ List.replicate (drawnCap w s.length 0 e - s.length) (Value.int .u8 0)).toArray e)
    { w.drew with heap := w.heap.push (.cells ((s.map fun (b : UInt8) => Value.int .u8 b.toNat) ++ List.replicate (drawnCap w s.length 0 e - s.length) (Value.int .u8 0)).toArray e) } :=
   New.of_drew (Drew.one w) (New.alloc w.drew _)
  obtain ⟨k1,k2⟩ := cx.hr.push (e := drawnCap w s.length 0 e - s.length) hp (New.freeze hn) (OR.opened hxs (by rw [hs1]; simp) (by
   refine ⟨Nat.le_succ _,fun j hj1 _ => ?_⟩
   simpa using hj1))
  refine ⟨_,_,.slice (some ⟨w.heap.size,0,none⟩) s.length (drawnCap w s.length 0 e),k1,k2,⟨_,_,_,_,upd_self _ _ _,?_,.inl rfl⟩,.inl ?_⟩
  ·congr 1; simp only [if_true]; omega
  ·rw [he,hx]
   have hrun := run_stringToBytes (P := P) e s w
   simp only [convert,Sem.run_bind,run_underlying h1,run_underlying h2,run_underlying h3,Result.andThen_ok]
   rw [hrun]
   rfl
 ·cases hr
theorem HR.freezeEnd {i r sh e : Nat} {vs : List V} {ty : Nat} {opn : Bool} {fz : Option Nat} (hr : HR P m h w) (hg : h.get i = some (.cells vs ty opn false fz)) (hm : m i = some (r,sh,e)) (hf : fz.getD 0 = 0) :
  ∃ n,w.shape? r = some (ty,n) ∧ HR P m (h.set i (.cells vs ty opn false (some 0))) (w.freeze { block := r,off := n } 1) ∧ Ext m h w m (h.set i (.cells vs ty opn false (some 0))) (w.freeze { block := r,off := n } 1) := by
 obtain ⟨c,fzr,g1,g2,g3,g4,g5⟩ := hr.cells hg hm
 have g5 := g5 rfl
 refine ⟨c.size,by simp [World.shape?,g1],?_⟩
 have hrs : r < w.heap.size := hr.blk _ _ _ _ hm
 refine hr.set hg rfl hm (ob := .cells c ty (if fzr.1 == fzr.2 then (c.size,c.size + 1) else (min fzr.1 c.size,max fzr.2 (c.size + 1)))) ⟨?_,?_,fun b hb => ?_,rfl,rfl,rfl,Nat.le_refl _⟩ ⟨c,_,rfl,g2,g4,?_⟩
 ·simp [World.freeze]
 ·simp only [World.freeze,Nat.one_ne_zero,if_false,Array.getElem?_modify,if_true,g1,Option.map_some]
 ·simp [World.freeze,Array.getElem?_modify,Ne.symm hb]
 ·obtain ⟨lo,hi⟩ := fzr
  have hle : lo ≤ hi ∧ (lo < hi → c.size ≤ lo) := by
   cases fz with
   | none => simp only [FzOK,Prod.mk.injEq] at g5; omega
   | some f =>
    simp at hf; subst hf
    refine ⟨g5.1,fun hlt => ?_⟩
    have := g5.2 lo (Nat.le_refl _) hlt
    simpa using this
  intro _
  simp only
  split
  ·exact ⟨Nat.le_succ _,fun j hj1 _ => by simpa using hj1⟩
  ·rename_i hne
   have hne' : lo ≠ hi := by simpa using hne
   refine ⟨by simp only; omega,fun j hj1 _ => ?_⟩
   simp only [if_true] at *
   omega
theorem snd_same (cx : Cx P m h w T a) {t u : TypeId} {x : Operand} {e : TypeId} {y : A} (ho : o.op = .convert t u x) (htu : t = u) (h1 : P.underlying t = some (.slice e))
  (h3 : P.underlying e = some (.int .u8)) (h4 : cA P x = some y) : Snd P m h w T a o (.same y) := by
 intro r hr
 subst htu
 have he : execOp a.eval o = (do pure (Next.value (← convert t t (a.eval x)))) := by simp [execOp,ho]
 simp only [evK] at hr
 split at hr
 ·rename_i i q l c op e1
  obtain ⟨R,sh,ex,ad,hm,hx,hz⟩ := cx.av h4 e1
  split at hr
  ·rename_i vs ty op' fz hg
   split at hr <;> cases hr
   rename_i hf
   obtain ⟨hf,hcap⟩ := hf
   obtain ⟨n,k0,k1,k2⟩ := cx.hr.freezeEnd hg hm hf
   have hb : ad.block = R := by
    rcases hz with hz | ⟨_,hz0,hz⟩
    ·rw [hz]
    ·rcases hcap with hcap | hcap
     ·exact hz hcap
     ·omega
   refine ⟨m,_,.slice (some ad) l (c + if op then ex else 0),k1,k2,⟨R,sh,ex,ad,hm,rfl,hz⟩,.inl ?_⟩
   rw [he,hx]
   have : (convert t t (.slice (some ad) l (c + if op then ex else 0))).run P w = .ok (.slice (some ad) l (c + if op then ex else 0)) (w.freeze { block := R,off := n } 1) := by
    simp only [convert,Sem.run_bind,run_underlying h1,run_underlying h3,Result.andThen_ok,beq_self_eq_true,markStringish,run_shape,hb,k0,run_freeze,Sem.run_pure]
   simp [this]
  ·cases hr
 ·cases hr
end Go.AM
namespace Go.AM
variable {P : Program} {m : Mp} {h : H} {w : World} {T : List V} {a : Act} {o : Oper} {k : K}
theorem liesAt_off {e : TypeId} (hc : P.cellsOf e = 1) (count off n : Nat) (hn : off + n ≤ count) : liesAt P P.depth e count off e n = true := by
 have hd : P.depth = (2 * (P.types.size + Made.depth) + 1) + 1 := rfl
 rw [hd]
 simp only [liesAt,Bool.or_eq_true]
 left
 rw [hd]
 simp [rowAt,hc,sameLayout,Nat.mod_one]
 omega
theorem run_loadBytes_ints (r : Nat) : ∀ (ns : List Int) (q : Nat) (acc : ByteArray),(∀ j n,ns[j]? = some n → w.cell? (⟨r,q + j,none⟩ : Addr) = some (.int .u8 n)) →
  (loadBytes ⟨r,q,none⟩ acc ns.length).run P w = .ok (ns.foldl (fun r n => r.push (UInt8.ofNat n.toNat)) acc) w
 | [],_,acc,_ => by simp [loadBytes]
 | n :: ns,q,acc,h => by
  have h0 := h 0 n rfl
  rw [Nat.add_zero] at h0
  have ih := run_loadBytes_ints r ns (q + 1) (acc.push (UInt8.ofNat n.toNat)) (fun j y hy => by
   have := h (j + 1) y (by simpa using hy)
   rw [show q + 1 + j = q + (j + 1) by omega]; exact this)
  simp only [List.length_cons,loadBytes,Sem.run_bind,run_load,h0,Result.andThen,add_at,List.foldl_cons]
  exact ih
theorem run_unsafeString_at (pt it ty e : TypeId) (hp : P.underlying pt = some (.pointer e)) (hc : P.cellsOf e = 1) {g off cells : Nat} (hsh : w.shape? g = some (e,cells)) (kd : IntKind) (l : List Int) (h0 : l ≠ []) (hn : off + l.length ≤ cells) (h63 : l.length ≤ 9223372036854775807)
  (hcell : ∀ j x,l[j]? = some x → w.cell? (⟨g,off + j,none⟩ : Addr) = some (.int .u8 x)) :
  (Builtin.unsafeString_ #[pt,it] ty #[.pointer (some ⟨g,off,none⟩),.int kd l.length]).run P w = .ok (.string ⟨(l.map fun n => UInt8.ofNat n.toNat).toArray⟩) (w.freeze ⟨g,off,none⟩ l.length) := by
 have hl : l.length ≠ 0 := by simpa using h0
 have hlb := run_loadBytes_ints (P := P) g l off .empty hcell
 rw [foldl_push] at hlb
 have hlies := liesAt_off (P := P) hc (cells / P.cellsOf e) off l.length (by rw [hc]; simpa using hn)
 have h63' : ¬ (9223372036854775807 : Int) < (l.length : Int) := by omega
 have hdef : Builtin.unsafeString_ #[pt,it] ty #[.pointer (some ⟨g,off,none⟩),.int kd l.length] =
   (do
    let n ← asInt (.int kd l.length)
    if n < 0 then runtimePanic (.error "unsafe.String: len out of range")
    if n > IntKind.i64.max then unsupported (.unsafePointer "String: a length above the largest int")
    if n = 0 then pure (.string .empty)
    else if ← variablesAt ⟨g,off,none⟩ (← elemOf pt) n.toNat then do
     let s ← loadBytes ⟨g,off,none⟩ .empty n.toNat
     freeze ⟨g,off,none⟩ n.toNat
     pure (.string s)
    else unsupported (.unsafePointer "String: not so many bytes at ptr")) := rfl
 rw [hdef]
 have hmax : IntKind.i64.max = 9223372036854775807 := rfl
 have hneg : ¬ (l.length : Int) < 0 := by omega
 simp [asInt,asIntOf,hmax,h63',hneg,hl,variablesAt,hsh,elemOf,run_underlying hp,hlies,hlb]
theorem HR.freeze {i r sh e q n : Nat} {vs : List V} {ty : Nat} {opn : Bool} {fz : Option Nat} (hr : HR P m h w) (hg : h.get i = some (.cells vs ty opn false fz)) (hm : m i = some (r,sh,e)) (hf : fz ≠ some 0) (hn : n ≠ 0) :
  HR P m (h.set i (.cells vs ty opn false (some (max (fz.getD 0) (q + n))))) (w.freeze { block := r,off := sh + q } n) ∧
   Ext m h w m (h.set i (.cells vs ty opn false (some (max (fz.getD 0) (q + n))))) (w.freeze { block := r,off := sh + q } n) := by
 obtain ⟨c,fzr,g1,g2,g3,g4,g5⟩ := hr.cells hg hm
 have g5 := g5 rfl
 refine hr.set hg rfl hm (ob := .cells c ty (if fzr.1 == fzr.2 then (sh + q,sh + q + n) else (min fzr.1 (sh + q),max fzr.2 (sh + q + n)))) ⟨?_,?_,fun b hb => ?_,?_,?_,?_,?_⟩ ⟨c,_,rfl,g2,g4,?_⟩
 ·simp [World.freeze,hn]
 ·simp only [World.freeze,hn,if_false,Array.getElem?_modify,if_true,g1,Option.map_some]
 ·simp [World.freeze,hn,Array.getElem?_modify,Ne.symm hb]
 ·simp [World.freeze,hn]
 ·simp [World.freeze,hn]
 ·simp [World.freeze,hn]
 ·simp [World.freeze,hn]
 ·obtain ⟨lo,hi⟩ := fzr
  have hle : lo ≤ hi ∧ ∀ j,lo ≤ j → j < hi → j < sh + fz.getD 0 := by
   cases fz with
   | none => simp only [FzOK,Prod.mk.injEq] at g5; exact ⟨by omega,fun j h1 h2 => by omega⟩
   | some f =>
    have hf0 : f ≠ 0 := fun h => hf (by rw [h])
    refine ⟨g5.1,fun j h1 h2 => ?_⟩
    have := g5.2 j h1 h2
    rw [if_neg hf0] at this
    simpa using this
  have hne0 : max (fz.getD 0) (q + n) ≠ 0 := by omega
  intro _
  simp only
  split
  ·refine ⟨by simp only; omega,fun j hj1 hj2 => ?_⟩
   simp only at hj1 hj2
   rw [if_neg hne0]; omega
  ·rename_i hne
   have hne' : lo ≠ hi := by simpa using hne
   refine ⟨by simp only; omega,fun j hj1 hj2 => ?_⟩
   simp only at hj1 hj2
   rw [if_neg hne0]
   rcases Nat.lt_or_ge j (sh + q + n) with hlt | hge
   ·omega
   ·have hlohi : lo < hi := by omega
    have h2 := hle.2 (hi - 1) (by omega) (by omega)
    omega
theorem snd_ustr (cx : Cx P m h w T a) {c : Call} (ho : o.op = .call c) (hb : c.callee = .builtin .unsafeString) {x n : Operand} {t e : TypeId} {y z : A} (ha : c.args = #[x,n]) (ht : c.argTypes[0]? = some t)
  (h1 : P.underlying t = some (.pointer e)) (h2 : cA P x = some y) (h3 : cA P n = some z) (h4 : sizeT P e = some 1) : Snd P m h w T a o (.ustr e y z) := by
 intro r hr
 obtain ⟨cst,e3⟩ := exec_builtin (P := P) (w := w) (a := a) ho hb
 simp only [evK] at hr
 split at hr
 ·rename_i p kd k e1 e2
  have hxv := cx.av h2 e1
  have hnv : a.eval n = .int kd k := cx.av h3 e2
  have hargs : (#[t] : Array TypeId).size = 1 := rfl
  have hun : ∀ (q : Option Addr) (kk : Int) (w' : World) (y : Value),(∀ it,(Builtin.unsafeString_ #[t,it] o.type #[.pointer q,.int kd kk]).run P w = .ok y w') → (Builtin.unsafeString_ c.argTypes o.type #[.pointer q,.int kd kk]).run P w = .ok y w' := by
   intro q kk w' y hy
   rw [← hy t]
   have : ∀ ats : Array TypeId,ats[0]? = some t → (Builtin.unsafeString_ ats o.type #[.pointer q,.int kd kk]).run P w = (Builtin.unsafeString_ #[t,t] o.type #[.pointer q,.int kd kk]).run P w := by
    intro ats hats
    have e1 : ∀ ats : Array TypeId,Builtin.unsafeString_ ats o.type #[.pointer q,.int kd kk] = (do
     let n ← asInt (.int kd kk)
     let some pt := ats[0]? | stuck "unsafe.String: no argument types"
     if n < 0 then runtimePanic (.error "unsafe.String: len out of range")
     if n > IntKind.i64.max then unsupported (.unsafePointer "String: a length above the largest int")
     match q with
     | none =>
      if n = 0 then pure (.string .empty)
      else runtimePanic (.error "unsafe.String: ptr is nil and len is not zero")
     | some a =>
      if n = 0 then pure (.string .empty)
      else if ← variablesAt a (← elemOf pt) n.toNat then do
       let s ← loadBytes a .empty n.toNat
       freeze a n.toNat
       pure (.string s)
      else unsupported (.unsafePointer "String: not so many bytes at ptr")) := fun _ => rfl
    rw [e1,e1,hats]
    rfl
   exact this _ ht
  split at hr
  ·rename_i hk0
   cases hr
   subst hk0
   refine ⟨.string ⟨#[]⟩,rfl,.inl ?_⟩
   rw [e3,ha]
   have hq : ∃ q,a.eval x = .pointer q := by
    cases p with
    | none => exact ⟨none,hxv⟩
    | some p => obtain ⟨R,sh,ex,_,hx⟩ := hxv; exact ⟨_,hx⟩
   obtain ⟨q,hq⟩ := hq
   have := hun q 0 w (.string .empty) (fun it => by
    cases q with
    | none =>
     have hd : Builtin.unsafeString_ #[t,it] o.type #[.pointer none,.int kd 0] = (do
      let n ← asInt (.int kd 0)
      if n < 0 then runtimePanic (.error "unsafe.String: len out of range")
      if n > IntKind.i64.max then unsupported (.unsafePointer "String: a length above the largest int")
      if n = 0 then pure (.string .empty)
      else runtimePanic (.error "unsafe.String: ptr is nil and len is not zero")) := rfl
     have hmax : IntKind.i64.max = 9223372036854775807 := rfl
     rw [hd]; simp [asInt,asIntOf,hmax]
    | some q =>
     have hd : Builtin.unsafeString_ #[t,it] o.type #[.pointer (some q),.int kd 0] = (do
      let n ← asInt (.int kd 0)
      if n < 0 then runtimePanic (.error "unsafe.String: len out of range")
      if n > IntKind.i64.max then unsupported (.unsafePointer "String: a length above the largest int")
      if n = 0 then pure (.string .empty)
      else if ← variablesAt q (← elemOf t) n.toNat then do
       let s ← loadBytes q .empty n.toNat
       freeze q n.toNat
       pure (.string s)
      else unsupported (.unsafePointer "String: not so many bytes at ptr")) := rfl
     have hmax : IntKind.i64.max = 9223372036854775807 := rfl
     rw [hd]; simp [asInt,asIntOf,hmax])
   simp only [builtin,Sem.run_bind,List.map_toArray,List.map_cons,List.map_nil,hq,hnv]
   rw [this]; rfl
  ·rename_i hk0
   split at hr
   ·cases hr
   ·rename_i hrange
    split at hr
    ·cases hr
    ·rename_i i q
     obtain ⟨R,sh,ex,hm,hx⟩ := hxv
     split at hr
     ·rename_i vs ty op fz hg
      split at hr
      ·rename_i hcond
       obtain ⟨hty,hle,hfz⟩ := hcond
       subst hty
       split at hr <;> cases hr
       rename_i bs hbs
       obtain ⟨cc,fzr,g1,g2,g3,g4,g5⟩ := cx.hr.cells hg hm
       have hgr := g2.range q k.toNat
       obtain ⟨ns,n1,n2⟩ := bytesV_sound hgr hbs
       have hnl : ns.length = k.toNat := by
        have := congrArg List.length n1
        rw [List.length_map] at this
        rw [← this]
        simp; omega
       have hkk : (ns.length : Int) = k := by omega
       obtain ⟨k1,k2⟩ := cx.hr.freeze hg hm hfz (n := k.toNat) (q := q) (by omega)
       have hsh : w.shape? R = some (ty,cc.size) := by simp [World.shape?,g1]
       refine ⟨m,_,.string ⟨bs.toArray⟩,k1,k2,rfl,.inl ?_⟩
       rw [e3,ha]
       have := hun (some ⟨R,sh + q,none⟩) k (w.freeze ⟨R,sh + q,none⟩ k.toNat) (.string ⟨bs.toArray⟩) (fun it => by
        have hru := run_unsafeString_at (P := P) (w := w) (off := sh + q) t it o.type ty h1 (sizeT_cells h4) hsh kd ns (by intro h; rw [h] at hnl; simp at hnl; omega) (by omega) (by omega) (fun j v hj => by
         rw [cell_at g1]
         have hj' : (ns.map (Value.int .u8))[j]? = some (.int .u8 v) := by rw [List.getElem?_map,hj]; rfl
         rw [← n1,List.getElem?_take] at hj'
         split at hj'
         ·rw [List.getElem?_drop,List.getElem?_take] at hj'
          split at hj'
          ·rw [List.getElem?_drop] at hj'
           rw [← hj',Array.getElem?_toList]; congr 1; omega
          ·cases hj'
         ·cases hj')
        rw [hkk,hnl] at hru
        rw [n2]; exact hru)
       simp only [builtin,Sem.run_bind,List.map_toArray,List.map_cons,List.map_nil,hx,hnv]
       rw [this]; rfl
      ·cases hr
     ·cases hr
 ·cases hr
end Go.AM
namespace Go.AM
variable {P : Program} {m : Mp} {h : H} {w : World} {T : List V} {a : Act} {o : Oper} {k : K}
def appZV (h : H) (ty size bytes : Nat) (z : List V) (base : Option (Nat × Nat)) (len cap : Nat) (opn : Bool) (n : Int) : Option Res :=
   if 0 ≤ n ∧ n ≤ 1099511627776 ∧ n.toNat * bytes ≤ 281474976710656 then
    if len + n.toNat ≤ cap then
     match base with
     | none => some (.eff (.slice none (len + n.toNat) cap opn) h)
     | some (i,o) => match putCells h i (o + len * size) (List.replicate n.toNat z).flatten with
      | some h' => some (.eff (.slice base (len + n.toNat) cap opn) h')
      | none => none
    else if len + n.toNat ≤ 1099511627776 ∧ (2 * (len + n.toNat) + 1024) * bytes ≤ 281474976710656 ∧ opn = false then
     match elemsV h size len (.slice base len cap opn) with
     | none => none
     | some old => match h.push (.cells (old ++ (List.replicate n.toNat z).flatten) ty true false none) with
      | some h' => some (.eff (.slice (some (h.size,0)) (len + n.toNat) (len + n.toNat) true) h')
      | none => none
    else none
   else none
theorem appZ_eff {h : H} {ty size bytes : Nat} {z : List V} {base : Option (Nat × Nat)} {len cap : Nat} {opn : Bool} {n : Int} {r : Res} (hr : appZV h ty size bytes z base len cap opn n = some r) : ∃ v h',r = .eff v h' := by
 unfold appZV at hr
 split at hr
 ·split at hr
  ·split at hr
   ·cases hr; exact ⟨_,_,rfl⟩
   ·split at hr <;> cases hr; exact ⟨_,_,rfl⟩
  ·split at hr
   ·split at hr
    ·cases hr
    ·split at hr <;> cases hr; exact ⟨_,_,rfl⟩
   ·cases hr
 ·cases hr
theorem wrap_small (n : Int) (h0 : 0 ≤ n) (h1 : n ≤ 1099511627776) : IntKind.i64.wrap n = n := by
 have h2 : n % 18446744073709551616 = n := Int.emod_eq_of_lt h0 (by omega)
 simp [IntKind.wrap,IntKind.bits,IntKind.signed,h2]
 omega
section run
variable {t u e : TypeId} {i : TypeInfo} {z : Value} {k' kx : IntKind}
theorem run_appendZ_fits (ty : TypeId) {base : Option Addr} {sLen sCap : Nat} {n : Int} {w' : World} (h1 : P.underlying t = some (.slice e)) (h2 : P.underlying u = some (.int k'))
  (h3 : P.info? e = some i) (h4 : ∀ w,(zeroValue e).run P w = .ok z w) (hz : z.cells.size = i.size) (n0 : 0 ≤ n) (n1 : n ≤ 1099511627776) (n2 : n.toNat * i.bytes ≤ 281474976710656) (hfit : sLen + n.toNat ≤ sCap)
  (hs : match base with | none => w' = w | some a => (storeCells (a.add (sLen * i.size)) (Builtin.zeroCells z.cells n.toNat).toList).run P w = .ok () w') :
  (Builtin.append_ #[t,u] ty #[.slice base sLen sCap,.int kx n]).run P w = .ok (.slice base (sLen + n.toNat) sCap) w' := by
 have hsz : (sizeOf e).run P w = .ok i.size w := by simp [sizeOf,run_typeInfo h3]
 have q0 : (#[t,u] : Array TypeId)[0]? = some t := rfl
 have q1 : (#[t,u] : Array TypeId)[1]? = some u := rfl
 have q2 : (#[Value.slice base sLen sCap,.int kx n] : Array Value)[0]? = some (.slice base sLen sCap) := rfl
 have q3 : (#[Value.slice base sLen sCap,.int kx n] : Array Value)[1]? = some (.int kx n) := rfl
 have hw := wrap_small n n0 n1
 have c0 : ¬ (n < 0) := by omega
 have c1 : ¬ (n * (i.bytes : Int) > 2 ^ 48) := by
  have : n * (i.bytes : Int) = ((n.toNat * i.bytes : Nat) : Int) := by rw [Int.natCast_mul]; congr 1; omega
  rw [this]; omega
 have happ : (if n.toNat * i.size = 0 then (pure #[] : Sem (Array Value)) else do pure (Builtin.zeroCells (← zeroValue e).cells n.toNat)).run P w = .ok (Builtin.zeroCells z.cells n.toNat) w := by
  by_cases h0 : n.toNat * i.size = 0
  ·rw [if_pos h0]
   have : (Builtin.zeroCells z.cells n.toNat) = #[] := by
    apply Array.eq_empty_of_size_eq_zero
    rw [length_zeroCells,hz]; exact h0
   rw [this]; rfl
  ·rw [if_neg h0]; simp [h4]
 simp only [Builtin.append_,q0,q1,q2,q3,Sem.run_bind,run_underlying h1,Result.andThen_ok,hsz,run_underlying h2]
 simp only [Sem.run_pure,Result.andThen_ok,if_true,Sem.run_bind,asInt,asIntOf,hw,c0,if_false,run_typeInfo h3,c1,Sem.run_ite,hfit,Bool.not_true,Bool.false_eq_true]
 simp only [Sem.run_ite,Sem.run_bind,Sem.run_pure] at happ
 rw [happ]
 cases base with
 | none => subst hs; rfl
 | some a => simp only at hs; simp [hs]
theorem run_appendZ_grows (ty : TypeId) {base : Option Addr} {sLen sCap : Nat} {n : Int} {old : List Value} (h1 : P.underlying t = some (.slice e)) (h2 : P.underlying u = some (.int k'))
  (h3 : P.info? e = some i) (h4 : ∀ w,(zeroValue e).run P w = .ok z w) (hz : z.cells.size = i.size) (n0 : 0 ≤ n) (n1 : n ≤ 1099511627776) (n2 : n.toNat * i.bytes ≤ 281474976710656)
  (ho : (Builtin.firstCells i.size sLen (.slice base sLen sCap)).run P w.drew = .ok old.toArray w.drew) (hfit : ¬ sLen + n.toNat ≤ sCap)
  (hb1 : sLen + n.toNat ≤ 1099511627776) (hb2 : (2 * (sLen + n.toNat) + 1024) * i.bytes ≤ 281474976710656) :
  (Builtin.append_ #[t,u] ty #[.slice base sLen sCap,.int kx n]).run P w =
   .ok (.slice (some ⟨w.heap.size,0,none⟩) (sLen + n.toNat) (drawnCap w (sLen + n.toNat) sCap e))
    { w.drew with heap := w.heap.push (.cells (old.toArray ++ Builtin.zeroCells z.cells n.toNat ++ Builtin.zeroCells z.cells (drawnCap w (sLen + n.toNat) sCap e - (sLen + n.toNat))) e) } := by
 have hsz : ∀ w,(sizeOf e).run P w = .ok i.size w := fun w => by simp [sizeOf,run_typeInfo h3]
 have q0 : (#[t,u] : Array TypeId)[0]? = some t := rfl
 have q1 : (#[t,u] : Array TypeId)[1]? = some u := rfl
 have q2 : (#[Value.slice base sLen sCap,.int kx n] : Array Value)[0]? = some (.slice base sLen sCap) := rfl
 have q3 : (#[Value.slice base sLen sCap,.int kx n] : Array Value)[1]? = some (.int kx n) := rfl
 have hw := wrap_small n n0 n1
 have c0 : ¬ (n < 0) := by omega
 have c1 : ¬ (n * (i.bytes : Int) > 2 ^ 48) := by
  have : n * (i.bytes : Int) = ((n.toNat * i.bytes : Nat) : Int) := by rw [Int.natCast_mul]; congr 1; omega
  rw [this]; omega
 have happ : (if n.toNat * i.size = 0 then (pure #[] : Sem (Array Value)) else do pure (Builtin.zeroCells (← zeroValue e).cells n.toNat)).run P w.drew = .ok (Builtin.zeroCells z.cells n.toNat) w.drew := by
  by_cases h0 : n.toNat * i.size = 0
  ·rw [if_pos h0]
   have : (Builtin.zeroCells z.cells n.toNat) = #[] := by
    apply Array.eq_empty_of_size_eq_zero
    rw [length_zeroCells,hz]; exact h0
   rw [this]; rfl
  ·rw [if_neg h0]; simp [h4]
 have d1 : ¬ (((sLen + n.toNat : Nat) : Int) > IntKind.i64.max) := by simp [IntKind.max,IntKind.signed,IntKind.bits]; omega
 have d2 : ¬ (Builtin.nextslicecap (sLen + n.toNat) sCap * i.bytes > 2 ^ 48) := by
  have := Nat.mul_le_mul_right i.bytes (nextslicecap_le (need := sLen + n.toNat) (cap := sCap) (by omega))
  omega
 simp only [Builtin.append_,q0,q1,q2,q3,Sem.run_bind,run_underlying h1,Result.andThen_ok,hsz,run_underlying h2]
 simp only [Sem.run_pure,Result.andThen_ok,if_true,Sem.run_bind,asInt,asIntOf,hw,c0,if_false,run_typeInfo h3,c1,Sem.run_ite,hfit,Bool.not_true,Bool.false_eq_true,d1,false_and,d2,
  run_choose,Question.forced,run_askRoom]
 simp only [Sem.run_ite,Sem.run_bind,Sem.run_pure] at happ
 simp [ho,h4,newRow,drawnCap]
 by_cases h0 : n.toNat * i.size = 0
 ·have hemp : Builtin.zeroCells z.cells n.toNat = #[] := by
   apply Array.eq_empty_of_size_eq_zero
   rw [length_zeroCells,hz]; exact h0
  rw [if_pos h0,hemp,Array.empty_append]
  rfl
 ·rw [if_neg h0]
  rfl
end run
theorem appZ_sound {t u e ty : TypeId} {i : TypeInfo} {zv : V} {k' kx : IntKind} {base : Option (Nat × Nat)} {len cap : Nat} {opn : Bool} {n : Int} {S : Value} {h' : H} {v : V} (hr : HR P m h w) (h1 : P.underlying t = some (.slice e)) (h2 : P.underlying u = some (.int k'))
  (h3 : P.info? e = some i) (h4 : zeroT P e = some zv) (h5 : zv.cells.length = i.size) (hs : VR m (.slice base len cap opn) S) (ha : appZV h e i.size i.bytes zv.cells base len cap opn n = some (.eff v h')) :
  ∃ m' w' y,HR P m' h' w' ∧ Ext m h w m' h' w' ∧ VR m' v y ∧ (Builtin.append_ #[t,u] ty #[S,.int kx n]).run P w = .ok y w' := by
 obtain ⟨z,hz,hrz⟩ := zeroT_spec (m := m) h4
 have hzs : z.cells.size = i.size := by rw [← Array.length_toList,(VR.cells hz).length]; exact h5
 have hcell : P.cellsOf e = i.size := by simp [Program.cellsOf,h3]
 have hzc : (Builtin.zeroCells z.cells n.toNat).toList = (List.replicate n.toNat z.cells.toList).flatten := by
  unfold Builtin.zeroCells; exact range_mod _ _
 have hnew : VRL m (List.replicate n.toNat zv.cells).flatten (Builtin.zeroCells z.cells n.toNat).toList := by rw [hzc]; exact VRL.flatten (VR.cells hz) _
 unfold appZV at ha
 split at ha
 ·rename_i hn
  obtain ⟨n0,n1,n2⟩ := hn
  split at ha
  ·rename_i hfit
   split at ha
   ·cases ha
    cases hs
    exact ⟨m,w,_,hr,Ext.refl _ _ _,rfl,run_appendZ_fits ty h1 h2 h3 hrz hzs n0 n1 n2 hfit rfl⟩
   ·rename_i b q
    split at ha <;> cases ha
    rename_i hp
    obtain ⟨R,sh,ex,ad,hm,rfl,hzz⟩ := hs
    by_cases had : ad = ⟨R,sh + q,none⟩
    ·subst had
     obtain ⟨w',e1,e2,e3⟩ := putCells_sound hr hm hnew hp
     refine ⟨m,w',_,e2,e3,⟨R,sh,ex,_,hm,rfl,.inl rfl⟩,run_appendZ_fits ty h1 h2 h3 hrz hzs n0 n1 n2 (by omega) ?_⟩
     simp only [add_at]
     rw [Nat.add_assoc] at *
     exact e1
    ·obtain ⟨hl0,hc0,hb0⟩ := hzz.resolve_left had
     have hn0 : n.toNat = 0 := by omega
     have hh : h' = h := by simpa [putCells,hn0] using hp.symm
     subst hh
     refine ⟨m,w,_,hr,Ext.refl _ _ _,⟨R,sh,ex,ad,hm,rfl,.inr ⟨by omega,hc0,hb0⟩⟩,run_appendZ_fits ty h1 h2 h3 hrz hzs n0 n1 n2 (by omega) ?_⟩
     simp [hn0,Builtin.zeroCells,storeCells]
  ·rename_i hfit
   split at ha
   ·rename_i hbig
    obtain ⟨b1,b2,rfl⟩ := hbig
    split at ha
    ·cases ha
    ·rename_i old hold
     split at ha <;> cases ha
     rename_i hp
     have hrd := hr.drew (Drew.one w)
     obtain ⟨os,ro,hos⟩ := run_elemsV hrd hs rfl (Nat.le_refl _) hold
     have grow : ∀ base',S = .slice base' len cap → ∃ m' w' y,HR P m' h' w' ∧ Ext m h w m' h' w' ∧ VR m' (.slice (some (h.size,0)) (len + n.toNat) (len + n.toNat) true) y ∧ (Builtin.append_ #[t,u] ty #[S,.int kx n]).run P w = .ok y w' := by
      rintro base' rfl
      have hge := drawnCap_ge w (len + n.toNat) cap e
      obtain ⟨g1,g2⟩ := hr.push (e := drawnCap w (len + n.toNat) cap e - (len + n.toNat)) hp
       (New.of_drew (Drew.one w) (New.alloc w.drew (.cells ((os ++ (Builtin.zeroCells z.cells n.toNat).toList) ++ (Builtin.zeroCells z.cells (drawnCap w (len + n.toNat) cap e - (len + n.toNat))).toList).toArray e)))
       (OR.opened (hos.append hnew) (by rw [Array.length_toList,length_zeroCells,hzs,hcell]; exact Nat.le_refl _) (by simp [FzOK]))
      refine ⟨_,_,.slice (some ⟨w.heap.size,0,none⟩) (len + n.toNat) (drawnCap w (len + n.toNat) cap e),g1,g2,?_,?_⟩
      ·refine ⟨w.heap.size,0,drawnCap w (len + n.toNat) cap e - (len + n.toNat),⟨w.heap.size,0,none⟩,upd_self _ _ _,?_,.inl rfl⟩
       congr 1
       simp; omega
      ·rw [run_appendZ_grows ty h1 h2 h3 hrz hzs n0 n1 n2 ro hfit b1 b2]
       congr 1
       refine congrArg (fun hp => ({ heap := w.heap.push (.cells hp e),tape := w.tape,drawn := w.drawn + 1,os := w.os,output := w.output } : World)) ?_
       apply Array.ext'
       simp
     cases base with
     | none => cases hs; exact grow none rfl
     | some b =>
      obtain ⟨bi,bo⟩ := b
      obtain ⟨R,sh,ex,ad,hm,rfl,hzz⟩ := hs
      exact grow (some ad) (by simp)
   ·cases ha
 ·cases ha
end Go.AM
namespace Go.AM
variable {P : Program} {m : Mp} {h : H} {w : World} {T : List V} {a : Act} {o : Oper} {k : K}
theorem snd_p2u (cx : Cx P m h w T a) {t u : TypeId} {x : Operand} {e : TypeId} {y : A} (ho : o.op = .convert t u x) (h1 : P.underlying t = some (.pointer e)) (h2 : P.underlying u = some .unsafePointer)
  (h3 : (sizeT P e).getD 0 ≠ 0) (h4 : cA P x = some y) : Snd P m h w T a o (.p2u y) := by
 intro r hr
 have he : execOp a.eval o = (do pure (Next.value (← convert t u (a.eval x)))) := by simp [execOp,ho]
 cases hs : sizeT P e with
 | none => simp [hs] at h3
 | some s =>
  simp only [hs,Option.getD_some] at h3
  simp only [evK] at hr
  split at hr
  ·rename_i e1
   cases hr
   have hx : a.eval x = .pointer none := cx.av h4 e1
   refine pur_val (x := .pointer none) ?_ rfl he
   rw [hx]; simp [convert,run_underlying h1,run_underlying h2,Conv.unsafePointer]
  ·rename_i i q e1
   obtain ⟨R,sh,ex,hm,hx⟩ := cx.av h4 e1
   split at hr
   ·rename_i vs ty op ro fz hg
    split at hr <;> cases hr
    rename_i hq
    obtain ⟨c,fzr,g1,g2,g3,g4,g5⟩ := cx.hr.cells hg hm
    refine rd_val (x := .pointer (some ⟨R,sh + q,none⟩)) ?_ ⟨R,sh,ex,hm,rfl⟩ he
    have hsh : w.shape? R = some (ty,c.size) := by simp [World.shape?,g1]
    have hlt : ¬ (c.size ≤ sh + q) := by omega
    rw [hx]
    simp [convert,run_underlying h1,run_underlying h2,Conv.unsafePointer,Conv.seenAt,viewAt,hsh,cellsIn,run_sizeOf hs,h3,hlt]
   ·cases hr
  ·cases hr
theorem snd_u2p (cx : Cx P m h w T a) {t u : TypeId} {x : Operand} {e : TypeId} {y : A} (ho : o.op = .convert t u x) (h1 : P.underlying t = some .unsafePointer) (h2 : P.underlying u = some (.pointer e))
  (h3 : (sizeT P e).getD 0 ≠ 0) (h4 : cA P x = some y) : Snd P m h w T a o (.u2p e y) := by
 intro r hr
 have he : execOp a.eval o = (do pure (Next.value (← convert t u (a.eval x)))) := by simp [execOp,ho]
 cases hs : sizeT P e with
 | none => simp [hs] at h3
 | some s =>
  simp only [hs,Option.getD_some] at h3
  simp only [evK] at hr
  split at hr
  ·rename_i e1
   cases hr
   have hx : a.eval x = .pointer none := cx.av h4 e1
   refine pur_val (x := .pointer none) ?_ rfl he
   rw [hx]; simp [convert,run_underlying h1,run_underlying h2,Conv.unsafePointer]
  ·rename_i i q e1
   obtain ⟨R,sh,ex,hm,hx⟩ := cx.av h4 e1
   split at hr
   ·rename_i vs ty ro fz hg
    split at hr <;> cases hr
    rename_i hl
    obtain ⟨c,fzr,g1,g2,g3,g4,g5⟩ := cx.hr.cells hg hm
    simp only [Bool.false_eq_true,if_false] at g4
    obtain ⟨rfl,_,hcs⟩ := g4
    refine rd_val (x := .pointer (some ⟨R,0 + q,none⟩)) ?_ ⟨R,0,ex,hm,rfl⟩ he
    have hsh : w.shape? R = some (ty,c.size) := by simp [World.shape?,g1]
    rw [hx]
    rw [← hcs] at hl
    simp [convert,run_underlying h1,run_underlying h2,Conv.unsafePointer,Conv.seenAt,viewAt,hsh,variablesAt,run_sizeOf hs,h3,hl]
   ·cases hr
  ·cases hr
theorem snd_conv (cx : Cx P m h w T a) {t u : TypeId} {x : Operand} (ho : o.op = .convert t u x) (hc : cK P (.convert t u x) = some k) : Snd P m h w T a o k := by
 by_cases hmem : ∀ y,k ≠ .same y ∧ (∀ q,k ≠ .s2b q y) ∧ k ≠ .b2s y ∧ k ≠ .p2u y ∧ (∀ q,k ≠ .u2p q y)
 ·exact snd_convert cx ho hmem hc
 ·have hc0 := hc
  simp only [cK] at hc
  split at hc
  ·cases hc; exact absurd (fun y => by simp) hmem
  ·cases hc; exact absurd (fun y => by simp) hmem
  ·rename_i e e' y h1 h2 h3
   split at hc
   ·rename_i htu
    split at hc
    ·rename_i h4; cases hc; exact snd_same cx ho htu.1 h1 h4 h3
    ·cases hc
   ·cases hc
  ·rename_i e y h1 h2 h3
   split at hc
   ·cases hc
   ·rename_i h4; cases hc; exact snd_p2u cx ho h1 h2 h4 h3
  ·rename_i e y h1 h2 h3
   split at hc
   ·cases hc
   ·rename_i h4; cases hc; exact snd_u2p cx ho h1 h2 h4 h3
  ·cases hc; exact absurd (fun y => by simp) hmem
  ·rename_i e y h1 h2 h3
   split at hc
   ·rename_i h4
    split at hc <;> cases hc
    rename_i h5
    exact snd_s2b cx ho h1 h2 h4 (sizeT_cells h5) h3
   ·cases hc
  ·rename_i e y h1 h2 h3
   split at hc
   ·rename_i h4; cases hc; exact snd_b2s cx ho h1 h2 h4 h3
   ·cases hc
  ·cases hc
theorem appV_eff {h : H} {ty size bytes : Nat} {s x : V} {r : Res} (hr : appV h ty size bytes s x = some r) : ∃ v h',r = .eff v h' := by
 unfold appV at hr
 split at hr
 ·split at hr
  ·cases hr
  ·simp only at hr
   split at hr
   ·split at hr
    ·cases hr; exact ⟨_,_,rfl⟩
    ·split at hr
     ·cases hr; exact ⟨_,_,rfl⟩
     ·cases hr
   ·split at hr
    ·split at hr
     ·split at hr
      ·split at hr
       ·split at hr
        ·cases hr; exact ⟨_,_,rfl⟩
        ·cases hr
       ·cases hr
      ·cases hr
     ·split at hr
      ·cases hr
      ·split at hr
       ·cases hr; exact ⟨_,_,rfl⟩
       ·cases hr
    ·cases hr
 ·cases hr
theorem ER.eraseIdx {m : Mp} : ∀ {es : List (V × V × Nat)} {ys : List MapEntry},ER m es ys → ∀ i,ER m (es.eraseIdx i) (ys.eraseIdx i)
 | [],_,h,i => by cases h; exact rfl
 | e :: es,_,h,i => by
  obtain ⟨y,ys,h1,h2,h3,h4,rfl⟩ := h
  cases i with
  | zero => exact h4
  | succ i => exact ⟨y,_,h1,h2,h3,ER.eraseIdx h4 i,rfl⟩
theorem set_same {w : World} {r : Nat} {ob : Go.Obj} (h : w.heap[r]? = some ob) : { w with heap := w.heap.setIfInBounds r ob } = w := by
 have : w.heap.setIfInBounds r ob = w.heap := by
  apply Array.ext_getElem?
  intro i
  rw [Array.getElem?_setIfInBounds]
  split
  ·rename_i e; subst e
   split
   ·exact h.symm
   ·rename_i hn; simp at hn; rw [Array.getElem?_eq_none hn]
  ·rfl
 rw [this]
theorem toList_one {α : Type} {xs : Array α} {x : α} (h : xs.toList = [x]) : xs = #[x] := Array.ext' (by simpa using h)
theorem toList_two {α : Type} {xs : Array α} {x y : α} (h : xs.toList = [x,y]) : xs = #[x,y] := Array.ext' (by simpa using h)
theorem blt_pur {c : Call} {b : Builtin} {v : V} {x : Value} (ho : o.op = .call c) (hb : c.callee = .builtin b)
  (hrun : ∀ consts,(builtin b c.argTypes o.type consts (c.args.map a.eval)).run P w = .ok (.value x) w) (hv : VR m v x) : ResOK P m h w ((execOp a.eval o).run P w) (.pur v) := by
 obtain ⟨cs,e⟩ := exec_builtin (P := P) (w := w) (a := a) ho hb
 exact ⟨x,hv,.inl (by rw [e]; exact hrun cs)⟩
theorem blt_rd {c : Call} {b : Builtin} {v : V} {x : Value} (ho : o.op = .call c) (hb : c.callee = .builtin b)
  (hrun : ∀ consts,(builtin b c.argTypes o.type consts (c.args.map a.eval)).run P w = .ok (.value x) w) (hv : VR m v x) : ResOK P m h w ((execOp a.eval o).run P w) (.rd v) := by
 obtain ⟨cs,e⟩ := exec_builtin (P := P) (w := w) (a := a) ho hb
 exact ⟨x,hv,.inl (by rw [e]; exact hrun cs)⟩
theorem run_minmax {mx : Bool} : ∀ {vs : List V} {xs : List Value} {v r : V} {x : Value},VR m v x → VRL m vs xs → minmaxV mx v vs = some r →
  ∃ y,VR m r y ∧ (xs.foldlM (if mx then Builtin.max2 else Builtin.min2) x).run P w = .ok y w
 | [],_,v,r,x,hv,h,hr => by cases h; simp [minmaxV] at hr; subst hr; exact ⟨x,hv,rfl⟩
 | u :: vs,_,v,r,x,hv,h,hr => by
  obtain ⟨y,ys,h1,h2,rfl⟩ := h
  cases v <;> try (simp [minmaxV] at hr; done)
  cases u <;> try (simp [minmaxV] at hr; done)
  rename_i k p k' q
  simp only [minmaxV] at hr
  cases hv; cases h1
  obtain ⟨z,z1,z2⟩ := run_minmax (v := .int k (if mx then (if q > p then q else p) else (if q < p then q else p))) (x := .int k (if mx then (if q > p then q else p) else (if q < p then q else p))) rfl h2 hr
  refine ⟨z,z1,?_⟩
  cases mx <;> simpa [List.foldlM_cons,Builtin.min2,Builtin.max2] using z2
theorem snd_builtin (cx : Cx P m h w T a) {c : Call} {b : Builtin} (ho : o.op = .call c) (hb : c.callee = .builtin b) (hc : cBuiltin P b c.args.toList c.argTypes.toList = some k) : Snd P m h w T a o k := by
 intro r hr
 unfold cBuiltin at hc
 split at hc
 ·-- len
  rename_i x t hargs htys
  have ha := toList_one hargs
  have ht := toList_one htys
  split at hc
  ·rename_i y h1 h2
   cases hc
   simp only [evK] at hr
   split at hr <;> cases hr
   rename_i s e1
   have hx : a.eval x = .string ⟨s.toArray⟩ := cx.av h2 e1
   refine blt_pur ho hb (x := .int .i64 s.length) (fun cs => ?_) rfl
   rw [ha,ht]
   have hsz : (⟨s.toArray⟩ : ByteArray).size = s.length := by simp [ByteArray.size]
   simp [builtin,Builtin.len_,run_underlying h1,hx,goInt,hsz]
  ·rename_i e y h1 h2
   cases hc
   simp only [evK] at hr
   split at hr <;> cases hr
   rename_i p n cp q e1
   have hx := cx.av h2 e1
   refine blt_pur ho hb (x := .int .i64 n) (fun cs => ?_) rfl
   rw [ha,ht]
   cases p with
   | none => simp [builtin,Builtin.len_,run_underlying h1,show a.eval x = _ from hx,goInt]
   | some p => obtain ⟨_,_,_,_,_,hx,_⟩ := hx; simp [builtin,Builtin.len_,run_underlying h1,hx,goInt]
  ·rename_i kt et y h1 h2
   cases hc
   simp only [evK] at hr
   split at hr
   ·rename_i e1
    cases hr
    have hx : a.eval x = .map none := cx.av h2 e1
    refine blt_rd ho hb (x := .int .i64 0) (fun cs => ?_) rfl
    rw [ha,ht]
    simp [builtin,Builtin.len_,run_underlying h1,hx,goInt]
   ·rename_i R e1
    obtain ⟨r',sh,ex,hm,hx⟩ := cx.av h2 e1
    split at hr <;> cases hr
    rename_i es cl hg
    obtain ⟨es',g1,g2⟩ := cx.hr.map hg hm
    have hob : (getObj r').run P w = .ok (.map es' cl) w := run_getObj g1 (by intros; simp)
    have hlen : es'.size = es.length := by simpa using g2.length
    refine blt_rd ho hb (x := .int .i64 es.length) (fun cs => ?_) rfl
    rw [ha,ht]
    simp [builtin,Builtin.len_,run_underlying h1,hx,goInt,hob,hlen]
   ·cases hr
  ·rename_i n e h1
   cases hc
   simp [evK,A.ev] at hr; subst hr
   refine blt_pur ho hb (x := .int .i64 n) (fun cs => ?_) rfl
   rw [ha,ht]
   simp [builtin,Builtin.len_,run_underlying h1,goInt]
  ·rename_i arr h1
   split at hc
   ·rename_i n e h2
    cases hc
    simp [evK,A.ev] at hr; subst hr
    refine blt_pur ho hb (x := .int .i64 n) (fun cs => ?_) rfl
    rw [ha,ht]
    simp [builtin,Builtin.len_,run_underlying h1,run_underlying h2,goInt]
   ·cases hc
  ·cases hc
 ·-- append
  rename_i s x t u hargs htys
  have ha := toList_two hargs
  have ht := toList_two htys
  split at hc
  ·rename_i e d s' x' h1 h2 h3 h4
   split at hc
   ·rename_i kd
    split at hc
    ·rename_i i z h5 h6
     split at hc <;> cases hc
     rename_i hz
     simp only [evK] at hr
     split at hr
     ·rename_i base len cap opn kx n e1 e2
      obtain ⟨v,h',rfl⟩ := appZ_eff hr
      have hxv : a.eval x = .int kx n := cx.av h4 e2
      obtain ⟨m',w',y,k1,k2,k3,k4⟩ := appZ_sound (u := u) (ty := o.type) (kx := kx) cx.hr h1 h2 h5 h6 hz (cx.av h3 e1) hr
      obtain ⟨cs,e3⟩ := exec_builtin (P := P) (w := w) (a := a) ho hb
      refine ⟨m',w',y,k1,k2,k3,.inl ?_⟩
      rw [e3,ha,ht]
      simp only [builtin,Sem.run_bind,List.map_toArray,List.map_cons,List.map_nil,hxv]
      rw [k4]; rfl
     ·cases hr
    ·cases hc
   ·rename_i hd
    split at hc
    ·rename_i i z h5 h6
     split at hc <;> cases hc
     rename_i hz
     simp only [evK] at hr
     split at hr
     ·rename_i sv xv e1 e2
      obtain ⟨v,h',rfl⟩ := appV_eff hr
      obtain ⟨m',w',y,k1,k2,k3,k4⟩ := appV_sound (u := u) (ty := o.type) cx.hr h1 h2 (fun k => by rintro rfl; exact hd k rfl) h5 h6 hz (cx.av h3 e1) (cx.av h4 e2) hr
      obtain ⟨cs,e3⟩ := exec_builtin (P := P) (w := w) (a := a) ho hb
      refine ⟨m',w',y,k1,k2,k3,.inl ?_⟩
      rw [e3,ha,ht]
      simp only [builtin,Sem.run_bind,List.map_toArray,List.map_cons,List.map_nil]
      rw [k4]; rfl
     ·cases hr
    ·cases hc
  ·cases hc
 ·-- copy
  rename_i d s t ts hargs htys
  have ha := toList_two hargs
  have ht : c.argTypes[0]? = some t := by rw [← Array.getElem?_toList,htys]; rfl
  split at hc
  ·rename_i e d' s' h1 h2 h3
   cases hs : sizeT P e with
   | none => simp [hs] at hc
   | some z =>
    simp [hs] at hc; subst hc
    simp only [evK] at hr
    split at hr
    ·rename_i base dlen dcap dopn sv e1 e2
     have hd := cx.av h2 e1
     have hsv := cx.av h3 e2
     split at hr
     ·cases hr
     ·rename_i sl hsl
      split at hr
      ·cases hr
      ·rename_i cs hcs
       have rl := run_lenV (P := P) (w := w) hsv hsl
       obtain ⟨xs,re,hxs⟩ := run_elemsV cx.hr hsv hsl (Nat.min_le_left _ _) hcs
       obtain ⟨cst,e3⟩ := exec_builtin (P := P) (w := w) (a := a) ho hb
       split at hr
       ·cases hr
        have hdx : a.eval d = .slice none dlen dcap := hd
        refine ⟨m,w,.int .i64 (Nat.min sl dlen : Nat),cx.hr,Ext.refl _ _ _,rfl,.inl ?_⟩
        rw [e3,ha]
        simp only [builtin,Sem.run_bind,List.map_toArray,List.map_cons,List.map_nil,Builtin.copy_,ht]
        simp [run_underlying h1,hdx,rl,run_sizeOf hs,re,goInt]
       ·rename_i i q
        obtain ⟨R,sh,ex,ad,hm,hdx,hz⟩ := hd
        cases hp : putCells h i q cs with
        | none => simp [hp] at hr
        | some h' =>
         simp [hp] at hr; subst hr
         have fin : ∀ w',(storeCells ad xs).run P w = .ok () w' → HR P m h' w' → Ext m h w m h' w' →
           ResOK P m h w ((execOp a.eval o).run P w) (.eff (.int .i64 (Nat.min sl dlen : Nat)) h') := fun w' e4 e5 e6 => by
          refine ⟨m,w',.int .i64 (Nat.min sl dlen : Nat),e5,e6,rfl,.inl ?_⟩
          rw [e3,ha]
          simp only [builtin,Sem.run_bind,List.map_toArray,List.map_cons,List.map_nil,Builtin.copy_,ht]
          simp [run_underlying h1,hdx,rl,run_sizeOf hs,re,goInt,e4]
         by_cases had : ad = ⟨R,sh + q,none⟩
         ·subst had
          obtain ⟨w',e4,e5,e6⟩ := putCells_sound cx.hr hm hxs hp
          exact fin w' e4 e5 e6
         ·obtain ⟨hl0,_,_⟩ := hz.resolve_left had
          have hcs0 : cs = [] := List.length_eq_zero_iff.1 (by
           rw [length_elemsV hsl (Nat.min_le_left _ _) hcs]
           have : Nat.min sl dlen = 0 := by rw [hl0]; exact Nat.min_zero _
           rw [show min sl dlen = 0 from this,Nat.zero_mul])
          subst hcs0
          cases hxs
          have hh : h' = h := by simpa [putCells] using hp.symm
          subst hh
          exact fin w (by simp [storeCells]) cx.hr (Ext.refl _ _ _)
    ·cases hr
  ·cases hc
 ·-- delete
  rename_i mp ky t ts hargs htys
  have ha := toList_two hargs
  have ht : c.argTypes[0]? = some t := by rw [← Array.getElem?_toList,htys]; rfl
  split at hc
  ·rename_i kt et mp' ky' h1 h2 h3
   cases h5 : keyT P kt with
   | none => simp [h5] at hc
   | some q =>
    simp [h5] at hc; subst hc
    simp only [evK] at hr
    split at hr
    ·rename_i R kv e1 e2
     obtain ⟨r',sh,ex,hm,hx⟩ := cx.av h2 e1
     have hk := cx.av h3 e2
     split at hr
     ·rename_i es cl hg
      obtain ⟨es',g1,g2⟩ := cx.hr.map hg hm
      obtain ⟨d,hd,hck,hsm⟩ := keyT_spec (m := m) es'.isEmpty h5
      have hob : (getObj r').run P w = .ok (.map es' cl) w := run_getObj g1 (by intros; simp)
      have hso : ∀ ob,(setObj r' ob).run P w = .ok () { w with heap := w.heap.setIfInBounds r' ob } := fun ob => run_setObj g1 (by intros; simp)
      obtain ⟨cst,e3⟩ := exec_builtin (P := P) (w := w) (a := a) ho hb
      split at hr <;> cases hr
      ·rename_i j v hf
       obtain ⟨res',f1,V',rfl,f2,_,e,f3,f4,f5⟩ := findNow_of hk hsm g2 hf
       have hfk : (Instr.findKey kt (a.eval ky) es'.toList).run P w = .ok (some (j,V')) w := by simp [Instr.findKey,run_underlying hd,f1]
       have hER : ER m (es.eraseIdx j) (es'.eraseIdxIfInBounds j).toList := by
        have := g2.eraseIdx j
        simp only [Array.eraseIdxIfInBounds]
        split
        ·simpa using this
        ·rename_i hn
         rw [List.eraseIdx_of_length_le (l := es'.toList) (by simpa using hn)] at this
         exact this
       obtain ⟨k1,k2⟩ := cx.hr.setMap (cl' := cl) hg hm g1 hER
       refine ⟨m,_,.tuple #[],k1,k2,⟨[],rfl,rfl⟩,.inl ?_⟩
       rw [e3,ha]
       simp only [builtin,Sem.run_bind,List.map_toArray,List.map_cons,List.map_nil,Builtin.delete_,ht]
       simp [run_underlying h1,hx,hob,hck,hfk,hso]
      ·rename_i hf
       obtain ⟨res',f1,rfl⟩ := findNow_of hk hsm g2 hf
       have hfk : (Instr.findKey kt (a.eval ky) es'.toList).run P w = .ok none w := by simp [Instr.findKey,run_underlying hd,f1]
       have hss := hso (.map es' cl)
       rw [set_same g1] at hss
       refine ⟨m,w,.tuple #[],cx.hr,Ext.refl _ _ _,⟨[],rfl,rfl⟩,.inl ?_⟩
       rw [e3,ha]
       simp only [builtin,Sem.run_bind,List.map_toArray,List.map_cons,List.map_nil,Builtin.delete_,ht]
       simp [run_underlying h1,hx,hob,hck,hfk,hss]
     ·cases hr
    ·cases hr
  ·cases hc
 ·-- cap
  rename_i x t hargs htys
  have ha := toList_one hargs
  have ht := toList_one htys
  split at hc
  ·rename_i e y h1 h2
   cases hc
   simp only [evK] at hr
   split at hr <;> cases hr
   rename_i p l n e1
   have hx := cx.av h2 e1
   refine blt_pur ho hb (x := .int .i64 n) (fun cs => ?_) rfl
   rw [ha,ht]
   cases p with
   | none => simp [builtin,Builtin.cap_,run_underlying h1,show a.eval x = _ from hx,goInt]
   | some p => obtain ⟨_,_,_,_,_,hx,_⟩ := hx; simp [builtin,Builtin.cap_,run_underlying h1,hx,goInt]
  ·cases hc
 ·-- unsafe.SliceData
  rename_i ts x hargs
  have ha := toList_one hargs
  cases h1 : cA P x with
  | none => simp [h1] at hc
  | some y =>
   simp [h1] at hc; subst hc
   simp only [evK] at hr
   split at hr <;> cases hr
   ·rename_i l c q e1
    have hx : a.eval x = .slice none l c := cx.av h1 e1
    refine blt_pur ho hb (x := .pointer none) (fun cs => ?_) rfl
    rw [ha]
    have hd : ∀ ts ty,Builtin.unsafeSliceData_ ts ty #[.slice none l c] = pure (.pointer none) := fun _ _ => rfl
    simp [builtin,hx,hd]
   ·rename_i p l c q e1
    obtain ⟨i,q0⟩ := p
    obtain ⟨R,sh,ex,ad,hm,hx,hz⟩ := cx.av h1 e1
    have had : ad = ⟨R,sh + q0,none⟩ := by
     rcases hz with hz | ⟨_,hz,_⟩
     ·exact hz
     ·omega
    subst had
    refine blt_pur ho hb (x := .pointer (some ⟨R,sh + q0,none⟩)) (fun cs => ?_) ⟨R,sh,ex,hm,rfl⟩
    rw [ha]
    have hd : ∀ ts ty cc,Builtin.unsafeSliceData_ ts ty #[.slice (some ⟨R,sh + q0,none⟩) l cc] = (do
      if cc ≠ 0 then pure (.pointer (some ⟨R,sh + q0,none⟩))
      else if (← viewAt R).isSome then pure (.pointer (some ⟨R,sh + q0,none⟩))
      else pure (.pointer (some ⟨← newObj (.view ⟨R,sh + q0,none⟩ (← elemOf ty)),0,none⟩))) := fun _ _ _ => rfl
    simp [builtin,hx,hd]
 ·-- unsafe.String
  rename_i x n t ts hargs htys
  have ha := toList_two hargs
  have ht : c.argTypes[0]? = some t := by rw [← Array.getElem?_toList,htys]; rfl
  split at hc
  ·rename_i e x' n' h1 h2 h3
   split at hc <;> cases hc
   rename_i h4
   exact snd_ustr cx ho hb ha ht h1 h2 h3 h4 r hr
  ·cases hc
 ·-- min
  rename_i args ts
  cases h1 : cAs P c.args.toList with
  | none => simp [h1] at hc
  | some ys =>
   simp [h1] at hc; subst hc
   simp only [evK] at hr
   split at hr
   ·rename_i v vs e1
    cases hm : minmaxV false v vs with
    | none => simp [hm] at hr
    | some z =>
     simp [hm] at hr; subst hr
     obtain ⟨X,XS,h3,h2,h4⟩ := cx.avs h1 e1
     obtain ⟨y,y1,y2⟩ := run_minmax (P := P) (w := w) (mx := false) h3 h2 hm
     refine blt_pur ho hb (x := y) (fun cs => ?_) y1
     have : (c.args.map a.eval).toList = X :: XS := by rw [Array.toList_map]; exact h4
     simp only [builtin,Sem.run_bind,Builtin.min_,this]
     simp only [Bool.false_eq_true,if_false] at y2
     simp [y2]
   ·cases hr
 ·rename_i args ts
  cases h1 : cAs P c.args.toList with
  | none => simp [h1] at hc
  | some ys =>
   simp [h1] at hc; subst hc
   simp only [evK] at hr
   split at hr
   ·rename_i v vs e1
    cases hm : minmaxV true v vs with
    | none => simp [hm] at hr
    | some z =>
     simp [hm] at hr; subst hr
     obtain ⟨X,XS,h3,h2,h4⟩ := cx.avs h1 e1
     obtain ⟨y,y1,y2⟩ := run_minmax (P := P) (w := w) (mx := true) h3 h2 hm
     refine blt_pur ho hb (x := y) (fun cs => ?_) y1
     have : (c.args.map a.eval).toList = X :: XS := by rw [Array.toList_map]; exact h4
     simp only [builtin,Sem.run_bind,Builtin.max_,this]
     simp only [if_true] at y2
     simp [y2]
   ·cases hr
 ·cases hc
end Go.AM
namespace Go.AM
variable {P : Program} {m : Mp} {h : H} {w : World} {T : List V} {a : Act} {o : Oper} {k : K}
theorem find_noEscape {fn : Func} (hn : fn.name = "internal/abi.NoEscape") (ho : fn.origin = "") : Extern.findNext fn = none ∧ Extern.find fn = some Extern.AbiNoEscape.same := by
 have e1 : Extern.allNextRows.lookup "internal/abi.NoEscape" = none := by kernel_rfl
 have e2 : Extern.allNextRows.lookup "" = none := by kernel_rfl
 have e3 : Extern.allGenericRows.lookup "internal/abi.NoEscape" = none := by kernel_rfl
 have e4 : Extern.allTypedRows.lookup "internal/abi.NoEscape" = none := by kernel_rfl
 have e5 : Extern.allRows.lookup "internal/abi.NoEscape" = some Extern.AbiNoEscape.same := by kernel_rfl
 constructor
 ·simp [Extern.findNext,hn,ho,e1,e2]
 ·simp [Extern.find,hn,ho,e3,e4,e5]
theorem find_makeNoZero {fn : Func} (hn : fn.name = "internal/bytealg.MakeNoZero") (ho : fn.origin = "") : Extern.findNext fn = none ∧ Extern.find fn = some (Extern.BytealgMakeNoZero.makeNoZero fn.params fn.resultTypes) := by
 have e1 : Extern.allNextRows.lookup "internal/bytealg.MakeNoZero" = none := by kernel_rfl
 have e2 : Extern.allNextRows.lookup "" = none := by kernel_rfl
 have e3 : Extern.allGenericRows.lookup "internal/bytealg.MakeNoZero" = none := by kernel_rfl
 have e4 : Extern.allTypedRows.lookup "internal/bytealg.MakeNoZero" = some Extern.BytealgMakeNoZero.makeNoZero := by kernel_rfl
 constructor
 ·simp [Extern.findNext,hn,ho,e1,e2]
 ·simp [Extern.find,hn,ho,e3,e4]
theorem exec_call {c : Call} {f : Operand} (ho : o.op = .call c) (hb : c.callee = .value f) :
  (execOp a.eval o).run P w = ((Deferred.ofValue (a.eval f) (c.args.map a.eval)).run P w).andThen fun d w' => (invoke d.target d.args).run P w' := by
 simp [execOp,ho,resolve,hb]
theorem callR_of {f : Value} {F : V} {xs : List Value} {args : List V} (hf : VR m F f) (hx : VRL m args xs) :
  CallR P m w (((Deferred.ofValue f xs.toArray).run P w).andThen fun d w' => (invoke d.target d.args).run P w') F args := by
 cases F <;> try trivial
 ·obtain ⟨fs,cs,h1,h2,rfl⟩ := hf
  refine ⟨fs ++ xs ++ cs,(h1.append hx).append h2,?_⟩
  simp [Deferred.ofValue,invoke]
 ·obtain ⟨R,sh,ex,hm,rfl⟩ := hf
  exact ⟨R,sh,ex,xs,hm,hx,by simp [Deferred.ofValue,invoke]⟩
theorem length_digits : ∀ (n t : Nat) (acc : Array Value),(∀ v ∈ acc.toList, ∃ k,v = .int .u8 k) → ∀ v ∈ (Extern.BytealgMakeNoZero.digits n t acc).toList, ∃ k,v = .int .u8 k
 | 0,_,_,h => h
 | n + 1,t,acc,h => length_digits n _ _ (by
   intro v hv
   simp only [Array.toList_push,List.mem_append,List.mem_singleton] at hv
   rcases hv with hv | rfl
   ·exact h v hv
   ·exact ⟨_,rfl⟩)
theorem run_mkNZ (ps : Array TypeId) (rs : Array TypeId) (t e : TypeId) (hrs : rs[0]? = some t) (ht : P.underlying t = some (.slice e)) (n : Nat) (hn : n ≤ 281474976710656) :
  ∃ cs : Array Value,(Extern.BytealgMakeNoZero.makeNoZero ps rs #[.int .i64 n]).run P w = .ok (.slice (some ⟨w.heap.size,0,none⟩) n cs.size) { w.drew.drew with heap := w.heap.push (.cells cs e) } ∧ n ≤ cs.size ∧
   (∀ v ∈ cs.toList, ∃ k,v = .int .u8 k) := by
 have hdef : Extern.BytealgMakeNoZero.makeNoZero ps rs #[.int .i64 n] =
   (do
    let some t := rs[0]? | stuck "bytealg.MakeNoZero: no result type"
    let .slice elem ← underlying t | stuck "bytealg.MakeNoZero: slice type expected"
    if (n : Int) < 0 || (n : Int) > 2 ^ 48 then runtimePanic (.error "makeslice: len out of range")
    let cap ← choose (.appendCap (n : Int).toNat 0 elem)
    askRoom cap
    let bytes ← choose (.extern "internal/bytealg.MakeNoZero.bytes" 0)
    let a ← newRow elem (Extern.BytealgMakeNoZero.digits cap bytes #[])
    pure (.slice (some a) (n : Int).toNat cap)) := rfl
 refine ⟨Extern.BytealgMakeNoZero.digits (grownCap w n 0 e) ((Question.extern "internal/bytealg.MakeNoZero.bytes" 0).cut (w.tape (w.drawn + 1) (.extern "internal/bytealg.MakeNoZero.bytes" 0))) #[], ?_, ?_, ?_⟩
 ·rw [hdef,hrs]
  have h1 : ¬ (n : Int) < 0 := by omega
  have h2 : ¬ (281474976710656 : Int) < (n : Int) := by omega
  simp [run_underlying ht,h1,h2,Question.forced,newRow,Lib.size_digits,grownCap]
  rfl
 ·rw [Lib.size_digits]
  simpa using grownCap_ge w n 0 e
 ·exact length_digits _ _ _ (by simp)
theorem snd_mv_noEscape (cx : Cx P m h w T a) {c : Call} {g : Nat} {f : Operand} {x : Operand} {y : A} {fn : Func} (ho : o.op = .call c) (hb : c.callee = .value f) (hf : a.eval f = .func (.func g) #[] #[])
  (hx : c.args.toList = [x]) (hy : cA P x = some y) (hg : P.funcs[g]? = some fn) (hbd : fn.body.isNone = true) (hn : fn.name = "internal/abi.NoEscape") (hor : fn.origin = "") : Snd P m h w T a o (.mv y) := by
 intro r hr
 simp only [evK] at hr
 cases e : y.ev T with
 | none => simp [e] at hr
 | some v =>
  simp [e] at hr; subst hr
  refine ⟨a.eval x,cx.av hy e,.inl ?_⟩
  have hargs := toList_one hx
  obtain ⟨e1,e2⟩ := find_noEscape hn hor
  rw [exec_call ho hb,hf,hargs]
  simp only [Deferred.ofValue,Sem.run_pure,Result.andThen_ok,invoke]
  have : (#[] : Array Value) ++ Array.map a.eval #[x] ++ #[] = #[a.eval x] := by simp
  rw [this,run_callFunc_extern hg (by rw [hn]; decide) hbd e1 e2]
  rfl
theorem snd_mkNZ (cx : Cx P m h w T a) {c : Call} {g : Nat} {f : Operand} {x : Operand} {y : A} {fn : Func} {t e : TypeId} (ho : o.op = .call c) (hb : c.callee = .value f) (hf : a.eval f = .func (.func g) #[] #[])
  (hx : c.args.toList = [x]) (hy : cA P x = some y) (hg : P.funcs[g]? = some fn) (hbd : fn.body.isNone = true) (hn : fn.name = "internal/bytealg.MakeNoZero") (hor : fn.origin = "")
  (ht : fn.resultTypes[0]? = some t) (hu : P.underlying t = some (.slice e)) (hs : sizeT P e = some 1) : Snd P m h w T a o (.mkNZ e y) := by
 intro r hr
 simp only [evK] at hr
 split at hr
 ·rename_i n e0
  split at hr
  ·rename_i hb2
   split at hr <;> cases hr
   rename_i h' hp
   have hxv : a.eval x = .int .i64 n := cx.av hy e0
   have hnn : (n.toNat : Int) = n := by omega
   obtain ⟨cs,k1,k2,k3⟩ := run_mkNZ (P := P) (w := w) fn.params fn.resultTypes t e ht hu n.toNat (by omega)
   rw [hnn] at k1
   have hV : VRL m (List.replicate n.toNat .junk) (cs.toList.take n.toNat) := by
    refine VRL.of_get (by simp; omega) fun i u hu => ?_
    rw [List.getElem?_replicate] at hu
    split at hu <;> cases hu
    rename_i hi
    have hi' : i < cs.size := by omega
    refine ⟨cs[i],by rw [List.getElem?_take_of_lt hi]; simp [hi'],?_⟩
    obtain ⟨kk,hk⟩ := k3 cs[i] (by simp)
    rw [hk]
    exact ⟨rfl,(fun b hb => by cases hb),(fun hb => by cases hb)⟩
   obtain ⟨g1,g2⟩ := cx.hr.push (e := cs.size - n.toNat) hp (New.of_drew ((Drew.one w).trans (Drew.one w.drew)) (New.alloc w.drew.drew (.cells (cs.toList.take n.toNat ++ cs.toList.drop n.toNat).toArray e)))
    (OR.opened hV (by rw [sizeT_cells hs]; simp) (by simp [FzOK]))
   refine ⟨_,_,.slice (some ⟨w.heap.size,0,none⟩) n.toNat cs.size,g1,g2,?_,.inl ?_⟩
   ·refine ⟨w.heap.size,0,cs.size - n.toNat,⟨w.heap.size,0,none⟩,upd_self _ _ _,?_,.inl rfl⟩
    congr 1
    simp; omega
   ·obtain ⟨e1,e2⟩ := find_makeNoZero hn hor
    rw [exec_call ho hb,hf,toList_one hx]
    simp only [Deferred.ofValue,Sem.run_pure,Result.andThen_ok,invoke]
    have hargs : (#[] : Array Value) ++ Array.map a.eval #[x] ++ #[] = #[.int .i64 n] := by simp [hxv]
    rw [hargs,run_callFunc_extern hg (by rw [hn]; decide) hbd e1 e2,k1]
    simp
    rfl
  ·cases hr
 ·cases hr
theorem cAs_one {xs : List Operand} {y : A} (hc : cAs P xs = some [y]) : ∃ x,xs = [x] ∧ cA P x = some y := by
 cases xs with
 | nil => simp [cAs] at hc
 | cons x r =>
  simp only [cAs] at hc
  split at hc <;> cases hc
  rename_i h1 h2
  cases r with
  | nil => exact ⟨x,rfl,h1⟩
  | cons z r => simp only [cAs] at h2; split at h2 <;> cases h2
theorem snd_call (cx : Cx P m h w T a) {c : Call} {f : Operand} (ho : o.op = .call c) (hb : c.callee = .value f) (hc : cK P (.call c) = some k) : Snd P m h w T a o k := by
 have key : ∀ (fa : A) (l : List A),cA P f = some fa → cAs P c.args.toList = some l → Snd P m h w T a o (.call fa l) := by
  intro fa l h1 h2 r hr
  simp only [evK] at hr
  split at hr <;> cases hr
  rename_i fv av e1 e2
  simp only [ResOK]
  rw [exec_call ho hb]
  have := callR_of (P := P) (w := w) (cx.av h1 e1) (cx.avs h2 e2)
  rwa [← Array.toList_map,Array.toArray_toList] at this
 simp only [cK,hb] at hc
 split at hc
 ·rename_i fa l h1 h2
  split at hc
  ·rename_i g
   split at hc
   ·rename_i fn hg
    split at hc
    ·rename_i hbd
     split at hc
     ·cases hc
     ·rename_i hor
      have hor : fn.origin = "" := Classical.not_not.1 hor
      have hfv : a.eval f = .func (.func g) #[] #[] := by
       obtain ⟨xs,ys,q1,q2,q3⟩ := cx.av (v := .func g [] []) h1 rfl
       cases q1; cases q2; exact q3
      split at hc
      ·rename_i hn
       split at hc
       ·rename_i y
        cases hc
        obtain ⟨x,hx,hy⟩ := cAs_one h2
        exact snd_mv_noEscape cx ho hb hfv hx hy hg hbd hn hor
       ·cases hc
      ·split at hc
       ·rename_i hn
        split at hc
        ·rename_i y t ht
         split at hc
         ·rename_i e hu
          split at hc <;> cases hc
          rename_i hs
          obtain ⟨x,hx,hy⟩ := cAs_one h2
          exact snd_mkNZ cx ho hb hfv hx hy hg hbd hn hor ht hu hs
         ·cases hc
        ·cases hc
       ·cases hc
    ·cases hc; exact key _ _ h1 h2
   ·cases hc
  ·cases hc; exact key _ _ h1 h2
 ·cases hc
theorem snd_tass (cx : Cx P m h w T a) {x : Operand} {t t' : TypeId} {ok : Bool} (ho : o.op = .typeAssert x t' t ok) (hc : cK P (.typeAssert x t' t ok) = some k) : Snd P m h w T a o k := by
 intro r hr
 simp only [cK] at hc
 split at hc
 ·cases hc
 ·rename_i d y z n h1 h2 h3
  cases hc
  obtain ⟨zx,hz,hzr⟩ := zeroT_spec (m := m) h3
  have he : execOp a.eval o = (do pure (Next.value (← Instr.typeAssert (a.eval x) t' t ok))) := by simp [execOp,ho]
  have hni : ∀ ms,d ≠ .interface ms := fun ms hd => n ms (by rw [hd])
  simp only [evK] at hr
  split at hr
  ·rename_i u v e1
   obtain ⟨y',hy,hx⟩ := cx.av h2 e1
   split at hr
   ·rename_i hut
    subst hut
    cases hr
    refine pur_val (x := if ok then .tuple #[y',.bool true] else y') ?_ ?_ he
    ·rw [hx]
     simp only [Instr.typeAssert,Sem.run_bind,run_underlying h1,Result.andThen_ok]
     cases d <;> first | (simp; done) | exact absurd rfl (hni _)
    ·cases ok
     ·exact hy
     ·exact ⟨_,VRL.cons hy (VRL.one (v := .bool true) (x := .bool true) rfl),rfl⟩
   ·rename_i hut
    split at hr <;> cases hr
    rename_i hok
    subst hok
    refine pur_val (x := .tuple #[zx,.bool false]) ?_ ⟨_,VRL.cons hz (VRL.one (v := .bool false) (x := .bool false) rfl),rfl⟩ he
    rw [hx]
    simp only [Instr.typeAssert,Sem.run_bind,run_underlying h1,Result.andThen_ok]
    cases d <;> first | (simp [hut,hzr]; done) | exact absurd rfl (hni _)
  ·rename_i e1
   split at hr <;> cases hr
   rename_i hok
   subst hok
   have hx : a.eval x = .nilIface := cx.av h2 e1
   refine pur_val (x := .tuple #[zx,.bool false]) ?_ ⟨_,VRL.cons hz (VRL.one (v := .bool false) (x := .bool false) rfl),rfl⟩ he
   rw [hx]
   simp only [Instr.typeAssert,Sem.run_bind,run_underlying h1,Result.andThen_ok]
   cases d <;> first | (simp [hzr]; done) | exact absurd rfl (hni _)
  ·cases hr
 ·cases hc
theorem run_method {t : TypeId} {v : Value} {name : String} {f : FuncId} (hf : methOf P t name = some f) (n : Nat) : (method (n + 1) t v name).run P w = .ok (f,v) w := by
 unfold methOf at hf
 split at hf
 ·rename_i i hi
  split at hf
  ·rename_i md hm
   split at hf
   ·rename_i hp
    have hp' : md.path.toList = [] := by simpa using hp
    split at hf <;> cases hf
    ·rename_i e h2 h1
     simp [method,run_typeInfo hi,hm,hp',follow,h1,receiverAt,run_underlying h2,Place.get]
    ·rename_i d h3 h2 h1
     simp only [method,Sem.run_bind,run_typeInfo hi,Result.andThen_ok,hm,hp',follow,Sem.run_pure,h1,receiverAt,run_underlying h2]
     cases d <;> first | rfl | exact absurd h1 (h3 _ _ · h2)
   ·cases hf
  ·cases hf
 ·cases hf
theorem snd_inv (cx : Cx P m h w T a) {c : Call} {f : Operand} {name : String} (ho : o.op = .call c) (hb : c.callee = .invoke f name) (hc : cK P (.call c) = some k) : Snd P m h w T a o k := by
 intro r hr
 simp only [cK,hb] at hc
 split at hc <;> cases hc
 rename_i x l h1 h2
 simp only [evK] at hr
 split at hr
 ·rename_i t v vs e1 e2
  split at hr <;> cases hr
  rename_i g hg
  obtain ⟨y,hy,hx⟩ := cx.av h1 e1
  have hxs := cx.avs h2 e2
  refine ⟨y :: c.args.toList.map a.eval,?_,?_⟩
  ·simpa using VRL.cons hy hxs
  ·have hrm := run_method (P := P) (w := w) (v := y) hg (P.types.size + Made.depth - 1)
   have hn : P.types.size + Made.depth - 1 + 1 = P.types.size + Made.depth := by
    have : 0 < Made.depth := by decide
    omega
   rw [hn] at hrm
   have hargs : (#[Value.iface t y] ++ c.args.map a.eval).extract 1 (#[Value.iface t y] ++ c.args.map a.eval).size = c.args.map a.eval := by
    apply Array.ext'
    simp [List.take_of_length_le]
   have e0 : (#[Value.iface t y] ++ c.args.map a.eval)[0]? = some (.iface t y) := by rw [Array.getElem?_append_left (by simp)]; rfl
   simp only [execOp,ho,resolve,hb,Sem.run_bind,Sem.run_pure,Result.andThen_ok,hx,invoke,e0,hargs,callMethod,run_program,hrm]
   congr 2
   apply Array.ext'
   simp
 ·cases hr
theorem opSound (cx : Cx P m h w T a) (hc : cK P o.op = some k) : Snd P m h w T a o k := by
 cases ho : o.op with
 | move x => rw [ho] at hc; exact snd_move cx (.inl ho) hc
 | assign x => rw [ho] at hc; exact snd_move cx (.inr ho) hc
 | pick c x y => rw [ho] at hc; exact snd_pick cx ho hc
 | alloc e => rw [ho] at hc; exact snd_alloc cx ho hc
 | box e x => rw [ho] at hc; exact snd_box cx ho hc
 | build t ps => rw [ho] at hc; exact snd_build cx ho hc
 | buildSlice t l ps => rw [ho] at hc; exact snd_bslice cx ho hc
 | load t x => rw [ho] at hc; exact snd_load cx ho hc
 | store t x y => rw [ho] at hc; exact snd_store cx ho hc
 | nilCheck x => rw [ho] at hc; exact snd_nilck cx ho hc
 | binOp op t x y z => rw [ho] at hc; exact snd_bin cx ho hc
 | unOp op t x => rw [ho] at hc; exact snd_un cx ho hc
 | convert t u x => rw [ho] at hc; exact snd_conv cx ho hc
 | makeInterface t x => rw [ho] at hc; exact snd_mkI cx ho hc
 | makeFunc f fs cs =>
  rw [ho] at hc
  cases f <;> first | exact snd_mkF cx ho hc | (simp [cK] at hc)
 | makeMap t r => rw [ho] at hc; exact snd_makeMap cx ho hc
 | makeSlice t l c => rw [ho] at hc; exact snd_makeSlice cx ho hc
 | slice t x lo hi mx => rw [ho] at hc; exact snd_slice cx ho hc
 | fieldAddr t x f => rw [ho] at hc; exact snd_fieldAddr cx ho hc
 | indexAddr t x i => rw [ho] at hc; exact snd_indexAddr cx ho hc
 | field t x f => rw [ho] at hc; exact snd_fld cx ho hc
 | index t x i => rw [ho] at hc; exact snd_index cx ho hc
 | lookup t x y ok => rw [ho] at hc; exact snd_lookup cx ho hc
 | mapUpdate t x y z => rw [ho] at hc; exact snd_mapUpdate cx (.inl ho) hc
 | insert t x y z => rw [ho] at hc; exact snd_mapUpdate cx (.inr ho) hc
 | range t x => rw [ho] at hc; exact snd_range cx ho hc
 | next x s => rw [ho] at hc; exact snd_next cx ho hc
 | entry x => rw [ho] at hc; exact snd_entry cx ho hc
 | extract x i => rw [ho] at hc; exact snd_extract cx ho hc
 | call c =>
  rw [ho] at hc
  cases hb : c.callee with
  | builtin b => exact snd_builtin cx ho hb (by simpa [cK,hb] using hc)
  | value f => exact snd_call cx ho hb hc
  | invoke f n => exact snd_inv cx ho hb hc
 | typeAssert x t' t ok => rw [ho] at hc; exact snd_tass cx ho hc
 | panic x =>
  rw [ho] at hc
  simp only [cK] at hc
  cases hc
  intro r hr; simp [evK] at hr
 | _ => rw [ho] at hc; simp [cK] at hc
end Go.AM
