/- My own texts, laid for this claim. -/
import Derived.Test.YtpfoofcallfjjaaGreatDoorAmAToAmF
import Derived.Laws.StructEq
import Derived.ChangeKeysEq
import Derived.Laws.Slices
set_option linter.unusedSimpArgs false
set_option linter.unusedVariables false
namespace Go.AM
def Yld (r : Result Next) (x : Value) (w' : World) : Prop := r = .ok (.value x) w' ∨ (r = .ok .skip w' ∧ x = undef)
def CallR (P : Program) (m : Mp) (w : World) (r : Result Next) (f : V) (args : List V) : Prop :=
 match f with
 | .func g fs cs => ∃ xs : List Value,VRL m (fs ++ args ++ cs) xs ∧ r = (callFunc g xs.toArray).run P w
 | .yield l => ∃ R sh e, ∃ xs : List Value,m l = some (R,sh,e) ∧ VRL m args xs ∧ r = (Instr.yield R xs.toArray).run P w
 | _ => True
def ResOK (P : Program) (m : Mp) (h : H) (w : World) (r : Result Next) : Res → Prop
 | .pur v => ∃ x,VR m v x ∧ Yld r x w
 | .rd v => ∃ x,VR m v x ∧ Yld r x w
 | .eff v h' => ∃ m' w' x,HR P m' h' w' ∧ Ext m h w m' h' w' ∧ VR m' v x ∧ Yld r x w'
 | .call f args => CallR P m w r f args
structure Cx (P : Program) (m : Mp) (h : H) (w : World) (T : List V) (a : Act) : Prop where
 tr : TR m T a.tmps
 hr : HR P m h w
def Snd (P : Program) (m : Mp) (h : H) (w : World) (T : List V) (a : Act) (o : Oper) (k : K) : Prop :=
 ∀ r,evK P T h k = some r → ResOK P m h w ((execOp a.eval o).run P w) r
variable {P : Program} {m : Mp} {h : H} {w : World} {T : List V} {a : Act} {o : Oper} {k : K}
theorem Cx.av (cx : Cx P m h w T a) {x : Operand} {y : A} {v : V} (hc : cA P x = some y) (hv : y.ev T = some v) : VR m v (a.eval x) := evA cx.tr cx.hr.glob hc hv
theorem Cx.avs (cx : Cx P m h w T a) {xs : List Operand} {ys : List A} {vs : List V} (hc : cAs P xs = some ys) (hv : evs T ys = some vs) : VRL m vs (xs.map a.eval) := evAs cx.tr cx.hr.glob hc hv
theorem pur_val {s : Sem Value} {v : V} {x : Value} (h1 : s.run P w = .ok x w) (hv : VR m v x) (he : execOp a.eval o = (do pure (Next.value (← s)))) :
  ResOK P m h w ((execOp a.eval o).run P w) (.pur v) := ⟨x,hv,.inl (by rw [he]; simp [h1])⟩
theorem rd_val {s : Sem Value} {v : V} {x : Value} (h1 : s.run P w = .ok x w) (hv : VR m v x) (he : execOp a.eval o = (do pure (Next.value (← s)))) :
  ResOK P m h w ((execOp a.eval o).run P w) (.rd v) := ⟨x,hv,.inl (by rw [he]; simp [h1])⟩
theorem snd_move (cx : Cx P m h w T a) {x : Operand} (ho : o.op = .move x ∨ o.op = .assign x) (hc : (cA P x).map K.mv = some k) : Snd P m h w T a o k := by
 intro r hr
 cases h1 : cA P x with
 | none => simp [h1] at hc
 | some y =>
  simp [h1] at hc; subst hc
  simp only [evK] at hr
  cases h2 : y.ev T with
  | none => simp [h2] at hr
  | some v =>
   simp [h2] at hr; subst hr
   refine ⟨a.eval x,cx.av h1 h2,.inl ?_⟩
   rcases ho with ho | ho <;> simp [execOp,ho]
theorem snd_pick (cx : Cx P m h w T a) {c x y : Operand} (ho : o.op = .pick c x y) (hc : cK P (.pick c x y) = some k) : Snd P m h w T a o k := by
 intro r hr
 simp only [cK] at hc
 split at hc <;> cases hc
 rename_i c' x' y' h1 h2 h3
 simp only [evK] at hr
 split at hr <;> cases hr
 rename_i b v u e1 e2 e3
 have hb : a.eval c = .bool b := cx.av h1 e1
 refine ⟨if b then a.eval x else a.eval y,?_,.inl ?_⟩
 ·cases b
  ·exact cx.av h3 e3
  ·exact cx.av h2 e2
 ·simp [execOp,ho,hb,asBool]
theorem snd_nilck (cx : Cx P m h w T a) {x : Operand} (ho : o.op = .nilCheck x) (hc : cK P (.nilCheck x) = some k) : Snd P m h w T a o k := by
 intro r hr
 simp only [cK] at hc
 cases h1 : cA P x with
 | none => simp [h1] at hc
 | some y =>
  simp [h1] at hc; subst hc
  simp only [evK] at hr
  split at hr <;> cases hr
  rename_i v n1 n2 n3 n4 e
  have hv := cx.av h1 e
  refine ⟨a.eval x,hv,.inl ?_⟩
  have : (execOp a.eval o) = pure (.value (a.eval x)) := by
   simp only [execOp,ho]
   cases v with
   | ptr p => cases p with
    | none => exact absurd rfl (n1 · )
    | some p => obtain ⟨r,sh,e,_,hx⟩ := hv; rw [hx]
   | nilFunc => exact absurd rfl (n3 ·)
   | nilIface => exact absurd rfl (n2 ·)
   | bool b => rw [show a.eval x = _ from hv]
   | int k n => rw [show a.eval x = _ from hv]
   | str s => rw [show a.eval x = _ from hv]
   | slice p l c q => cases p with
    | none => rw [show a.eval x = _ from hv]
    | some p => obtain ⟨r,sh,e,ad,_,hx,_⟩ := hv; rw [hx]
   | map p => cases p with
    | none => rw [show a.eval x = _ from hv]
    | some p => obtain ⟨r,sh,e,_,hx⟩ := hv; rw [hx]
   | func f fs cs => obtain ⟨xs,ys,_,_,hx⟩ := hv; rw [hx]
   | yield l => obtain ⟨r,sh,e,_,hx⟩ := hv; rw [hx]
   | iface t u => obtain ⟨y,_,hx⟩ := hv; rw [hx]
   | agg cs => obtain ⟨ys,_,hx⟩ := hv; rw [hx]
   | tup cs => obtain ⟨ys,_,hx⟩ := hv; rw [hx]
   | junk => exact absurd rfl (n4 ·)
  rw [this]; rfl
theorem snd_un (cx : Cx P m h w T a) {op : UnOp} {t : TypeId} {x : Operand} (ho : o.op = .unOp op t x) (hc : cK P (.unOp op t x) = some k) : Snd P m h w T a o k := by
 intro r hr
 simp only [cK] at hc
 cases h1 : cA P x with
 | none => simp [h1] at hc
 | some y =>
  simp [h1] at hc; subst hc
  simp only [evK] at hr
  split at hr
  ·rename_i v e
   have hv := cx.av h1 e
   cases hu : unV op v with
   | none => simp [hu] at hr
   | some u =>
    simp [hu] at hr; subst hr
    unfold unV at hu
    split at hu <;> cases hu
    ·refine pur_val (s := Op.unary .neg (a.eval x)) ?_ rfl (by simp [execOp,ho])
     rw [show a.eval x = _ from hv]; simp [Op.unary,Op.intArith]
    ·rename_i kd n
     refine pur_val (s := Op.unary .xor (a.eval x)) ?_ rfl (by simp [execOp,ho])
     rw [show a.eval x = _ from hv]; simp [Op.unary,Op.intBits]
    ·refine pur_val (s := Op.unary .not (a.eval x)) ?_ rfl (by simp [execOp,ho])
     rw [show a.eval x = _ from hv]; simp [Op.unary]
  ·cases hr
theorem snd_mkF (cx : Cx P m h w T a) {f : FuncId} {fs cs : Array Operand} (ho : o.op = .makeFunc (.func f) fs cs) (hc : cK P (.makeFunc (.func f) fs cs) = some k) : Snd P m h w T a o k := by
 intro r hr
 simp only [cK] at hc
 split at hc <;> cases hc
 rename_i fs' cs' h1 h2
 simp only [evK] at hr
 split at hr <;> cases hr
 rename_i vs us e1 e2
 refine pur_val (s := Instr.makeFunc (.func f) (fs.map a.eval) (cs.map a.eval)) (x := .func (.func f) (fs.map a.eval) (cs.map a.eval)) (by simp [Instr.makeFunc]) ?_ (by simp [execOp,ho])
 exact ⟨_,_,cx.avs h1 e1,cx.avs h2 e2,by rw [← Array.toList_map,← Array.toList_map]⟩
theorem snd_mkI (cx : Cx P m h w T a) {t : TypeId} {x : Operand} (ho : o.op = .makeInterface t x) (hc : cK P (.makeInterface t x) = some k) : Snd P m h w T a o k := by
 intro r hr
 simp only [cK] at hc
 split at hc
 ·cases hc
 ·rename_i d y n h1 h2
  cases hc
  simp only [evK] at hr
  cases e : y.ev T with
  | none => simp [e] at hr
  | some v =>
   simp [e] at hr; subst hr
   refine pur_val (s := Instr.makeInterface t (a.eval x)) (x := .iface t (a.eval x)) ?_ ⟨_,cx.av h2 e,rfl⟩ (by simp [execOp,ho])
   simp only [Instr.makeInterface,Sem.run_bind,run_underlying h1,Result.andThen_ok]
   cases d <;> first | rfl | exact (n _ rfl).elim
 ·cases hc
theorem snd_extract (cx : Cx P m h w T a) {x : Operand} {i : Nat} (ho : o.op = .extract x i) (hc : cK P (.extract x i) = some k) : Snd P m h w T a o k := by
 intro r hr
 simp only [cK] at hc
 cases h1 : cA P x with
 | none => simp [h1] at hc
 | some y =>
  simp [h1] at hc; subst hc
  simp only [evK] at hr
  split at hr
  ·rename_i vs e
   obtain ⟨ys,hys,hx⟩ := cx.av h1 e
   cases hv : vs[i]? with
   | none => simp [hv] at hr
   | some v =>
    simp [hv] at hr; subst hr
    obtain ⟨z,hz,hr⟩ := hys.get hv
    exact pur_val (s := Instr.extract (a.eval x) i) (x := z) (by rw [hx]; simp [Instr.extract,hz]) hr (by simp [execOp,ho])
  ·cases hr
theorem run_part {t : TypeId} {s : Nat} (hs : sizeT P t = some s) {cs : List V} {xs : List Value} (hc : VRL m cs xs) {off : Nat} {v : V} (hv : partV cs off s (aggT P t) = some v) :
  ∃ x,(part t xs.toArray off).run P w = .ok x w ∧ VR m v x := by
 simp only [part,Sem.run_bind,run_isAgg' hs,Result.andThen_ok,partV] at hv ⊢
 cases ha : aggT P t with
 | true =>
  simp only [ha,if_true] at hv ⊢
  cases hv
  refine ⟨.agg (xs.toArray.extract off (off + s)),by simp [run_sizeOf hs],?_⟩
  refine ⟨(xs.drop off).take s,hc.range off s,?_⟩
  congr 1
  apply Array.ext'
  simp [List.extract_eq_take_drop]
 | false =>
  simp only [ha,Bool.false_eq_true,if_false] at hv ⊢
  obtain ⟨x,hx,hr⟩ := hc.get hv
  exact ⟨x,by simp [hx],hr⟩
theorem snd_fld (cx : Cx P m h w T a) {t : TypeId} {x : Operand} {f : Nat} (ho : o.op = .field t x f) (hc : cK P (.field t x f) = some k) : Snd P m h w T a o k := by
 intro r hr
 simp only [cK] at hc
 split at hc
 ·rename_i fs y h1 h2
  split at hc
  ·rename_i fd h3
   cases h4 : sizeT P fd.type with
   | none => simp [h4] at hc
   | some s =>
    simp [h4] at hc; subst hc
    simp only [evK] at hr
    split at hr
    ·rename_i cs e
     obtain ⟨ys,hys,hx⟩ := cx.av h2 e
     cases hv : partV cs fd.offset s (aggT P fd.type) with
     | none => simp [hv] at hr
     | some v =>
      simp [hv] at hr; subst hr
      obtain ⟨z,hz,hzr⟩ := run_part (w := w) h4 hys hv
      exact pur_val (s := Instr.field t (a.eval x) f) (x := z) (by rw [hx]; simp [Instr.field,run_underlying h1,h3,asAgg,hz]) hzr (by simp [execOp,ho])
    ·cases hr
  ·cases hc
 ·cases hc
theorem snd_index (cx : Cx P m h w T a) {t : TypeId} {x i : Operand} (ho : o.op = .index t x i) (hc : cK P (.index t x i) = some k) : Snd P m h w T a o k := by
 intro r hr
 simp only [cK] at hc
 split at hc
 ·rename_i n e y j h1 h2 h3
  cases h4 : sizeT P e with
  | none => simp [h4] at hc
  | some s =>
   simp [h4] at hc; subst hc
   simp only [evK] at hr
   split at hr
   ·rename_i cs kd q e1 e2
    obtain ⟨ys,hys,hx⟩ := cx.av h2 e1
    have hi : a.eval i = .int kd q := cx.av h3 e2
    split at hr
    ·rename_i hq
     cases hv : partV cs (q.toNat * s) s (aggT P e) with
     | none => simp [hv] at hr
     | some v =>
      simp [hv] at hr; subst hr
      obtain ⟨z,hz,hzr⟩ := run_part (w := w) h4 hys hv
      exact pur_val (s := Instr.index t (a.eval x) (a.eval i)) (x := z) (by rw [hx,hi]; simp [Instr.index,asIntOf,run_underlying h1,hq,run_sizeOf h4,hz]) hzr (by simp [execOp,ho])
    ·cases hr
   ·cases hr
 ·rename_i y j h1 h2 h3
  cases hc
  simp only [evK] at hr
  split at hr
  ·rename_i s kd q e1 e2
   have hx : a.eval x = .string ⟨s.toArray⟩ := cx.av h2 e1
   have hi : a.eval i = .int kd q := cx.av h3 e2
   split at hr
   ·rename_i hq
    cases hv : s[q.toNat]? with
    | none => simp [hv] at hr
    | some b =>
     simp [hv] at hr; subst hr
     refine pur_val (s := Instr.index t (a.eval x) (a.eval i)) (x := .int .u8 b.toNat) ?_ rfl (by simp [execOp,ho])
     have hlt : q.toNat < s.length := by
      rcases Nat.lt_or_ge q.toNat s.length with h' | h'
      ·exact h'
      ·simp [List.getElem?_eq_none h'] at hv
     have hb : (⟨s.toArray⟩ : ByteArray)[q.toNat]? = some b := by
      rw [ByteArray.getElem?_lt' _ _ (by simpa [ByteArray.size] using hlt)]
      have : s[q.toNat]? = some s[q.toNat] := by simp [hlt]
      rw [this] at hv; cases hv; rfl
     rw [hx,hi]; simp [Instr.index,asIntOf,run_underlying h1,hq,hb]
   ·cases hr
  ·cases hr
 ·cases hc
end Go.AM
namespace Go.AM
variable {P : Program} {m : Mp} {h : H} {w : World} {T : List V} {a : Act} {o : Oper} {k : K}
theorem run_eqFields_of {D : Nat} {h : H} (hr : HR P m h w) : ∀ (fs : List Field) (e : EqT) (xs ys : List V) (rx ry : List Value) (b : Bool) (f : TypeId → Option EqT),
  (∀ t q (x y : V) (X Y : Value) (b : Bool),f t = some q → VR m x X → VR m y Y → eqV h q x y = some b → (Op.equalIn D t X Y).run P w = .ok b w) →
  eqFields P f fs = some e → VRL m xs rx → VRL m ys ry → eqV h e (.agg xs) (.agg ys) = some b → (Op.eqFields D rx.toArray ry.toArray fs).run P w = .ok b w
 | [],e,xs,ys,rx,ry,b,f,_,he,_,_,hb => by
  simp [eqFields] at he; subst he
  simp [eqV] at hb; subst hb
  rfl
 | fd :: fs,e,xs,ys,rx,ry,b,f,ih,he,hx,hy,hb => by
  simp only [eqFields] at he
  split at he
  ·cases he
  ·rename_i rest h1
   split at he
   ·rename_i hn
    cases he
    have := run_eqFields_of hr fs e xs ys rx ry b f ih h1 hx hy hb
    simp only [Op.eqFields,hn]; simpa using this
   ·rename_i hn
    split at he
    ·rename_i q s h2 h3
     cases he
     simp only [eqV] at hb
     split at hb
     ·rename_i u v e1 e2
      obtain ⟨U,hU,rU⟩ := run_part (w := w) h3 hx e1
      obtain ⟨W,hW,rW⟩ := run_part (w := w) h3 hy e2
      simp only [Op.eqFields,ne_eq,hn,not_false_eq_true,if_true,Sem.run_bind,hU,hW,Result.andThen_ok]
      split at hb
      ·rename_i e3
       rw [ih _ q u v U W true h2 rU rW e3]
       simp only [Result.andThen_ok,Bool.not_true,Bool.false_eq_true,if_false]
       exact run_eqFields_of hr fs rest xs ys rx ry b f ih h1 hx hy hb
      ·rename_i r e3
       cases b with
       | true => exact absurd hb (e3 ·)
       | false => rw [ih _ q u v U W false h2 rU rW hb]; simp
     ·cases hb
    ·cases he
theorem run_eqItems_of {D e s : Nat} {h : H} {q : EqT} (hs : sizeT P e = some s) {xs ys : List V} {rx ry : List Value} (hx : VRL m xs rx) (hy : VRL m ys ry)
  (ih : ∀ (x y : V) (X Y : Value) (b : Bool),VR m x X → VR m y Y → eqV h q x y = some b → (Op.equalIn D e X Y).run P w = .ok b w) : ∀ (n i : Nat) (b : Bool),
  allM (fun i => match partV xs (i * s) s (aggT P e),partV ys (i * s) s (aggT P e) with
   | some x,some y => eqV h q x y
   | _,_ => none) n i = some b → (Op.eqItems D e s rx.toArray ry.toArray (List.range' i n)).run P w = .ok b w
 | 0,i,b,hb => by simp [allM] at hb; subst hb; rfl
 | n + 1,i,b,hb => by
  simp only [allM] at hb
  rw [List.range'_succ]
  cases e1 : partV xs (i * s) s (aggT P e) with
  | none => simp [e1] at hb
  | some u =>
   cases e2 : partV ys (i * s) s (aggT P e) with
   | none => simp [e1,e2] at hb
   | some v =>
    simp only [e1,e2] at hb
    obtain ⟨U,hU,rU⟩ := run_part (w := w) hs hx e1
    obtain ⟨W,hW,rW⟩ := run_part (w := w) hs hy e2
    simp only [Op.eqItems,Sem.run_bind,hU,hW,Result.andThen_ok]
    split at hb
    ·rename_i e3
     rw [ih u v U W true rU rW e3]
     simp only [Result.andThen_ok,Bool.not_true,Bool.false_eq_true,if_false]
     exact run_eqItems_of hs hx hy ih n (i + 1) b hb
    ·rename_i r e3
     cases b with
     | true => exact absurd hb (e3 ·)
     | false => rw [ih u v U W false rU rW hb]; simp
theorem byteArray_beq (s t : List UInt8) : ((⟨s.toArray⟩ : ByteArray) == ⟨t.toArray⟩) = (s == t) := by
 rw [beq_toListBytes]; simp [ByteArray.toList_eq]
theorem frozen_zero {r o : Nat} {c : Array Value} {ty : TypeId} (hb : w.heap[r]? = some (.cells c ty (0,0))) : w.frozen? ⟨r,o,none⟩ = false := by
 simp [World.frozen?,hb]
theorem run_sameAddr {i j oi oj : Nat} {r sh e r' sh' e' : Nat} {b : Bool} (hr : HR P m h w) (h1 : m i = some (r,sh,e)) (h2 : m j = some (r',sh',e'))
  (hb : ptrEq h (i,oi) (j,oj) = some b) : (sameAddr ⟨r,sh + oi,none⟩ ⟨r',sh' + oj,none⟩).run P w = .ok b w := by
 unfold ptrEq at hb
 simp only at hb
 split at hb
 ·rename_i hij
  subst hij
  rw [h1] at h2; cases h2
  cases hb
  simp only [sameAddr,beq_self_eq_true,if_true,Sem.run_pure]
  congr 1
  rw [Bool.eq_iff_iff]; simp
 ·rename_i hij
  split at hb
  ·rename_i vs ty op vs' ty' op' g1 g2
   cases hb
   obtain ⟨a1,b1,c1,d1,e1,f1,c,fz,rfl,_,_,hz⟩ := hr.obj i _ g1 rfl
   obtain ⟨a2,b2,c2,d2,e2,f2,c',fz',rfl,_,_,hz'⟩ := hr.obj j _ g2 rfl
   have hz := hz rfl
   have hz' := hz' rfl
   simp only [FzOK] at hz hz'
   subst hz; subst hz'
   rw [h1] at e1; cases e1
   rw [h2] at e2; cases e2
   have hne : r ≠ r' := fun he => by
    subst he
    exact hij (hr.inj i j _ _ r sh e sh' e' g1 g2 rfl rfl h1 h2)
   have hs1 : w.shape? r = some (ty,c.size) := by simp [World.shape?,f1]
   have hs2 : w.shape? r' = some (ty',c'.size) := by simp [World.shape?,f2]
   simp [sameAddr,hne,frozen_zero f1,frozen_zero f2,noView,viewAt,hs1,hs2,mayBeOne,stringish]
  ·cases hb
theorem eqV_fnil {x y : V} {b : Bool} (hb : eqV h .fnil x y = some b) : ∃ xs ys,x = .agg xs ∧ y = .agg ys := by
 unfold eqV at hb; split at hb <;> simp_all
theorem eqV_fcons {p q : Nat} {g : Bool} {e r : EqT} {x y : V} {b : Bool} (hb : eqV h (.fcons p q g e r) x y = some b) : ∃ xs ys,x = .agg xs ∧ y = .agg ys := by
 unfold eqV at hb; split at hb <;> simp_all
theorem eqV_bool {x y : V} {b : Bool} (hb : eqV h .bool x y = some b) : ∃ p q,x = .bool p ∧ y = .bool q := by
 unfold eqV at hb; split at hb <;> simp_all
theorem eqV_int {x y : V} {b : Bool} (hb : eqV h .int x y = some b) : ∃ k p k' q,x = .int k p ∧ y = .int k' q := by
 unfold eqV at hb; split at hb <;> simp_all
theorem eqV_str {x y : V} {b : Bool} (hb : eqV h .str x y = some b) : ∃ p q,x = .str p ∧ y = .str q := by
 unfold eqV at hb; split at hb <;> simp_all
theorem eqV_ar {p q : Nat} {g : Bool} {e : EqT} {x y : V} {b : Bool} (hb : eqV h (.ar p q g e) x y = some b) : ∃ xs ys,x = .agg xs ∧ y = .agg ys := by
 unfold eqV at hb; split at hb <;> simp_all
set_option maxHeartbeats 1000000 in
theorem eqV_sound (hr : HR P m h w) : ∀ (d : Nat) (t : TypeId) (q : EqT) (x y : V) (X Y : Value) (b : Bool) (D : Nat),d ≤ D → eqT P d t = some q → VR m x X → VR m y Y →
  eqV h q x y = some b → (Op.equalIn D t X Y).run P w = .ok b w
 | 0,_,_,_,_,_,_,_,_,_,hq,_,_,_ => by simp [eqT] at hq
 | d + 1,t,q,x,y,X,Y,b,D,hD,hq,hx,hy,hb => by
  obtain ⟨D,rfl⟩ : ∃ D',D = D' + 1 := ⟨D - 1,by omega⟩
  have hD' : d ≤ D := by omega
  have ih := eqV_sound hr d
  simp only [eqT] at hq
  split at hq
  ·-- bool
   rename_i hu; cases hq
   obtain ⟨p,q,rfl,rfl⟩ := eqV_bool hb
   simp only [eqV] at hb; cases hb
   cases hx; cases hy
   exact run_equalIn_bool w D t _ _ hu
  ·rename_i hu; cases hq
   obtain ⟨k1,p,k2,q,rfl,rfl⟩ := eqV_int hb
   simp only [eqV] at hb
   cases hx; cases hy
   split at hb
   ·rename_i hk; subst hk; cases hb
    simp [Op.equalIn,run_underlying hu]
   ·cases hb
  ·rename_i hu; cases hq
   obtain ⟨p,q,rfl,rfl⟩ := eqV_str hb
   simp only [eqV] at hb; cases hb
   cases hx; cases hy
   simp [Op.equalIn,run_underlying hu,byteArray_beq]
  ·-- pointers
   rename_i e hu
   split at hq
   ·rename_i s hs
    cases hq
    cases x with
    | ptr p => cases y with
     | ptr q => cases p with
      | none =>
       simp only [eqV] at hb; cases hb
       cases hx
       cases q with
       | none => cases hy; simp [Op.equalIn,run_underlying hu]
       | some q => obtain ⟨r,sh,e,_,rfl⟩ := hy; simp [Op.equalIn,run_underlying hu]
      | some p => cases q with
       | none =>
        simp only [eqV] at hb; cases hb
        cases hy
        obtain ⟨r,sh,e,_,rfl⟩ := hx; simp [Op.equalIn,run_underlying hu]
       | some q =>
        simp only [eqV] at hb
        obtain ⟨i,oi⟩ := p
        obtain ⟨j,oj⟩ := q
        obtain ⟨r,sh,e,h1,rfl⟩ := hx
        obtain ⟨r',sh',e',h2,rfl⟩ := hy
        have := run_sameAddr hr h1 h2 hb
        simp [Op.equalIn,run_underlying hu,run_sizeOf hs,this]
     | _ => simp [eqV] at hb
    | _ => cases y <;> simp [eqV] at hb
   ·cases hq
  ·-- slices
   rename_i e hu; cases hq
   cases x with
   | slice p l c op => cases y with
    | slice q l' c' op' => cases p with
     | none =>
      simp only [eqV] at hb; cases hb
      cases hx
      cases q with
      | none => cases hy; simp [Op.equalIn,run_underlying hu]
      | some q => obtain ⟨r,sh,e,ad,_,rfl,_⟩ := hy; simp [Op.equalIn,run_underlying hu]
     | some p => cases q with
      | none =>
       simp only [eqV] at hb; cases hb
       cases hy
       obtain ⟨r,sh,e,ad,_,rfl,_⟩ := hx; simp [Op.equalIn,run_underlying hu]
      | some q => simp [eqV] at hb
    | _ => simp [eqV] at hb
   | _ => cases y <;> simp [eqV] at hb
  ·-- maps
   rename_i kt et hu; cases hq
   cases x with
   | map p => cases y with
    | map q => cases p with
     | none =>
      simp only [eqV] at hb; cases hb
      cases hx
      cases q with
      | none => cases hy; simp [Op.equalIn,run_underlying hu]
      | some q => obtain ⟨r,sh,e,_,rfl⟩ := hy; simp [Op.equalIn,run_underlying hu]
     | some p => cases q with
      | none =>
       simp only [eqV] at hb; cases hb
       cases hy
       obtain ⟨r,sh,e,_,rfl⟩ := hx; simp [Op.equalIn,run_underlying hu]
      | some q => simp [eqV] at hb
    | _ => simp [eqV] at hb
   | _ => cases y <;> simp [eqV] at hb
  ·-- functions
   rename_i u1 u2 u3 hu; cases hq
   cases x with
   | nilFunc => cases y with
    | nilFunc => simp only [eqV] at hb; cases hb; cases hx; cases hy; simp [Op.equalIn,run_underlying hu]
    | func f fs cs => simp only [eqV] at hb; cases hb; cases hx; obtain ⟨_,_,_,_,rfl⟩ := hy; simp [Op.equalIn,run_underlying hu]
    | yield l => simp only [eqV] at hb; cases hb; cases hx; obtain ⟨_,_,_,_,rfl⟩ := hy; simp [Op.equalIn,run_underlying hu]
    | _ => simp [eqV] at hb
   | func f fs cs => cases y with
    | nilFunc => simp only [eqV] at hb; cases hb; cases hy; obtain ⟨_,_,_,_,rfl⟩ := hx; simp [Op.equalIn,run_underlying hu]
    | _ => simp [eqV] at hb
   | yield l => cases y with
    | nilFunc => simp only [eqV] at hb; cases hb; cases hy; obtain ⟨_,_,_,_,rfl⟩ := hx; simp [Op.equalIn,run_underlying hu]
    | _ => simp [eqV] at hb
   | _ => cases y <;> simp [eqV] at hb
  ·-- interfaces
   rename_i ms hu; cases hq
   cases x with
   | nilIface => cases y with
    | nilIface => simp only [eqV] at hb; cases hb; cases hx; cases hy; simp [Op.equalIn,run_underlying hu]
    | iface t u => simp only [eqV] at hb; cases hb; cases hx; obtain ⟨_,_,rfl⟩ := hy; simp [Op.equalIn,run_underlying hu]
    | _ => simp [eqV] at hb
   | iface t u => cases y with
    | nilIface => simp only [eqV] at hb; cases hb; cases hy; obtain ⟨_,_,rfl⟩ := hx; simp [Op.equalIn,run_underlying hu]
    | iface t' u' =>
     simp only [eqV] at hb
     split at hb
     ·rename_i hne; cases hb; obtain ⟨_,_,rfl⟩ := hy; obtain ⟨_,_,rfl⟩ := hx; simp [Op.equalIn,run_underlying hu,hne]
     ·cases hb
    | _ => simp [eqV] at hb
   | _ => cases y <;> simp [eqV] at hb
  ·-- structs
   rename_i fs hu
   split at hq
   ·cases hq
   ·rename_i hst
    have hpf : P.fieldsOf t = fs := by simp [Program.fieldsOf,hu]
    have key : ∀ xs ys : List V,x = .agg xs → y = .agg ys → (Op.equalIn (D + 1) t X Y).run P w = .ok b w := by
     rintro xs ys rfl rfl
     obtain ⟨rx,hrx,rfl⟩ := hx
     obtain ⟨ry,hry,rfl⟩ := hy
     rw [run_equalIn_struct w D t _ _ (by rw [hpf]; exact hu) (by simpa using hst),hpf]
     exact run_eqFields_of hr fs.toList q xs ys rx ry b (eqT P d) (fun t q x y X Y b h1 h2 h3 h4 => ih t q x y X Y b D hD' h1 h2 h3 h4) hq hrx hry hb
    have hq2 : q = .fnil ∨ ∃ a b c d e,q = .fcons a b c d e := by
     clear hb key
     generalize fs.toList = l at hq
     induction l generalizing q with
     | nil => simp [eqFields] at hq; exact .inl hq.symm
     | cons f l ihl =>
      simp only [eqFields] at hq
      split at hq
      ·cases hq
      ·split at hq
       ·cases hq; rename_i h1 _ ; first | exact ihl _ h1 | exact ihl _ ‹_›
       ·split at hq
        ·cases hq; exact .inr ⟨_,_,_,_,_,rfl⟩
        ·cases hq
    rcases hq2 with rfl | ⟨_,_,_,_,_,rfl⟩
    ·obtain ⟨xs,ys,e1,e2⟩ := eqV_fnil hb; exact key xs ys e1 e2
    ·obtain ⟨xs,ys,e1,e2⟩ := eqV_fcons hb; exact key xs ys e1 e2
  ·-- arrays
   rename_i n e hu
   split at hq
   ·rename_i q' s h1 h2
    cases hq
    obtain ⟨ie,de,i1,i2,i3⟩ := sizeT_spec h2
    obtain ⟨xs,ys,rfl,rfl⟩ := eqV_ar hb
    simp only [eqV] at hb
    obtain ⟨rx,hrx,rfl⟩ := hx
    obtain ⟨ry,hry,rfl⟩ := hy
    rw [run_equalIn_array w D rx.toArray ry.toArray hu i1,sizeT_cells h2,List.range_eq_range']
    exact run_eqItems_of h2 hrx hry (fun x y X Y b a1 a2 a3 => ih e q' x y X Y b D hD' h1 a1 a2 a3) n 0 b hb
   ·cases hq
  ·cases hq
end Go.AM
namespace Go.AM
variable {P : Program} {m : Mp} {h : H} {w : World} {T : List V} {a : Act} {o : Oper} {k : K}
theorem run_eqGuard_ok {op : BinOp} {t : TypeId} {x y : Operand} {X Y : Value} (h1 : (X = .nilIface ∧ Y = .nilIface) → (isLit x || isLit y) = true)
    (h2 : ∀ c d,X = .agg c → Y = .agg d → P.eqGuardType P.depth t = false) (w : World) : (eqGuard op t x y X Y).run P w = .ok () w := by
  by_cases hn : X = .nilIface ∧ Y = .nilIface
  · obtain ⟨rfl,rfl⟩ := hn
    have hl := h1 ⟨rfl,rfl⟩
    clear h1 h2
    cases op <;> first
      | rfl
      | (cases x <;> cases y <;> first | rfl | (simp [isLit] at hl))
  · have hg : op = .eql ∨ op = .neq → (eqGuard op t x y X Y).run P w = .ok () w := fun hop => by
      cases X with
      | agg c => cases Y with
        | agg d => have := h2 c d rfl rfl; rcases hop with rfl | rfl <;> simp [eqGuard,this]
        | _ => rcases hop with rfl | rfl <;> rfl
      | nilIface => cases Y with
        | nilIface => exact absurd ⟨rfl,rfl⟩ hn
        | _ => rcases hop with rfl | rfl <;> rfl
      | _ => rcases hop with rfl | rfl <;> rfl
    cases op <;> first | exact hg (.inl rfl) | exact hg (.inr rfl) | rfl
theorem intOp_sound {op : BinOp} {kd : IntKind} {p q : Int} {v : V} (t : TypeId) (hv : intOp op kd p q = some v) (hs : op ≠ .shl ∧ op ≠ .shr) :
    ∃ x,(binOp op t (.int kd p) (.int kd q)).run P w = .ok x w ∧ VR m v x := by
  unfold intOp at hv
  split at hv <;> first
    | (cases hv; refine ⟨_,?_,rfl⟩; simp [binOp,Op.intArith,Op.intCmp,Op.intBits]; done)
    | (split at hv
       · cases hv
       · rename_i hq; cases hv; refine ⟨_,?_,rfl⟩; simp [binOp,Op.intDiv,hq])
    | cases hv
theorem shOp_sound {op : BinOp} {kd k' : IntKind} {p q : Int} {v : V} (t : TypeId) (hv : shOp op kd p q = some v) :
    ∃ x,(binOp op t (.int kd p) (.int k' q)).run P w = .ok x w ∧ VR m v x := by
  unfold shOp at hv
  split at hv
  · cases hv
  · rename_i hq
    split at hv <;> cases hv <;> exact ⟨_,by simp [binOp,Op.shift,hq],rfl⟩
theorem strOp_sound {op : BinOp} {p q : List UInt8} {v : V} (t : TypeId) (hv : strOp op p q = some v) :
    ∃ x,(binOp op t (.string ⟨p.toArray⟩) (.string ⟨q.toArray⟩)).run P w = .ok x w ∧ VR m v x := by
  unfold strOp at hv
  split at hv
  · split at hv
    · rename_i hl
      cases hv
      refine ⟨.string ⟨(p ++ q).toArray⟩,?_,rfl⟩
      have h1 : ¬ ((((⟨p.toArray⟩ : ByteArray).size + (⟨q.toArray⟩ : ByteArray).size : Nat) : Int) > IntKind.i64.max) := by
        simp [ByteArray.size,IntKind.max,IntKind.signed,IntKind.bits]; omega
      simp only [binOp,Op.stringOp,h1,if_false,Sem.run_pure]
      congr 2
    · cases hv
  all_goals first
    | (cases hv; refine ⟨_,?_,rfl⟩; simp [binOp,Op.stringOp,ByteArray.toList_eq]; done)
    | cases hv
theorem run_equalOp {u v : V} {X Y : Value} {q : EqT} {b : Bool} {t : TypeId} (hx : VR m u X) (hy : VR m v Y) (hb : eqV h q u v = some b)
    (n1 : ∀ k a k' b,u = .int k a → v = .int k' b → False) (n2 : ∀ a b,u = .str a → v = .str b → False) (hE : (Op.equal t X Y).run P w = .ok b w) :
    (binOp .eql t X Y).run P w = .ok (.bool b) w ∧ (binOp .neq t X Y).run P w = .ok (.bool !b) w := by
  have key : (binOp .eql t X Y = do pure (.bool (← Op.equal t X Y))) ∧ (binOp .neq t X Y = do pure (.bool (!(← Op.equal t X Y)))) := by
    cases u with
    | bool p => cases hx; exact ⟨rfl,rfl⟩
    | int k p =>
      exfalso
      clear hx hy hE
      unfold eqV at hb
      split at hb <;> first | exact n1 _ _ _ _ rfl rfl | simp_all
    | str p =>
      exfalso
      clear hx hy hE
      unfold eqV at hb
      split at hb <;> first | exact n2 _ _ rfl rfl | simp_all
    | ptr p => cases p with
      | none => cases hx; exact ⟨rfl,rfl⟩
      | some p => obtain ⟨_,_,_,_,rfl⟩ := hx; exact ⟨rfl,rfl⟩
    | slice p _ _ _ => cases p with
      | none => cases hx; exact ⟨rfl,rfl⟩
      | some p => obtain ⟨_,_,_,_,_,rfl,_⟩ := hx; exact ⟨rfl,rfl⟩
    | map p => cases p with
      | none => cases hx; exact ⟨rfl,rfl⟩
      | some p => obtain ⟨_,_,_,_,rfl⟩ := hx; exact ⟨rfl,rfl⟩
    | func f fs cs => obtain ⟨_,_,_,_,rfl⟩ := hx; exact ⟨rfl,rfl⟩
    | yield l => obtain ⟨_,_,_,_,rfl⟩ := hx; exact ⟨rfl,rfl⟩
    | nilFunc => cases hx; exact ⟨rfl,rfl⟩
    | iface t' z => obtain ⟨_,_,rfl⟩ := hx; exact ⟨rfl,rfl⟩
    | nilIface => cases hx; exact ⟨rfl,rfl⟩
    | agg cs => obtain ⟨_,_,rfl⟩ := hx; exact ⟨rfl,rfl⟩
    | tup cs => exfalso; unfold eqV at hb; split at hb <;> simp_all
    | junk => exfalso; unfold eqV at hb; split at hb <;> simp_all
  rw [key.1,key.2]
  simp [hE]
theorem VR.of_nilIface {v : V} (hv : VR m v .nilIface) : v = .nilIface := by
  cases v with
  | ptr p => cases p <;> simp [VR] at hv
  | slice p _ _ _ => cases p <;> simp [VR] at hv
  | map p => cases p <;> simp [VR] at hv
  | nilIface => rfl
  | _ => simp [VR] at hv
theorem VR.of_agg {v : V} {c : Array Value} (hv : VR m v (.agg c)) : ∃ xs,v = .agg xs := by
  cases v with
  | ptr p => cases p <;> simp [VR] at hv
  | slice p _ _ _ => cases p <;> simp [VR] at hv
  | map p => cases p <;> simp [VR] at hv
  | agg xs => exact ⟨xs,rfl⟩
  | junk => simp [VR,Value.oneCell'] at hv
  | _ => simp [VR] at hv
theorem eqT_agg {d : Nat} {t : TypeId} {q : EqT} {xs : List V} {v : V} {b : Bool} (hq : eqT P (d + 1) t = some q) (hb : eqV h q (.agg xs) v = some b) : aggT P t = true := by
  simp only [eqT] at hq
  unfold aggT
  split at hq
  case h_9 => rename_i hu; simp [hu]
  case h_10 => rename_i hu; simp [hu]
  case h_11 => cases hq
  case h_4 => split at hq <;> first | cases hq; done | (cases hq; exfalso; unfold eqV at hb; first | cases hb; done | (split at hb <;> simp_all))
  all_goals (cases hq; exfalso; unfold eqV at hb; first | cases hb; done | (split at hb <;> simp_all))
theorem snd_bin (cx : Cx P m h w T a) {op : BinOp} {t t' : TypeId} {x y : Operand} (ho : o.op = .binOp op t x y t') (hc : cK P (.binOp op t x y t') = some k) : Snd P m h w T a o k := by
  intro r hr
  simp only [cK] at hc
  split at hc <;> cases hc
  rename_i x' y' h1 h2
  simp only [evK] at hr
  split at hr
  · rename_i u v e1 e2
    have hx := cx.av h1 e1
    have hy := cx.av h2 e2
    have he : execOp a.eval o = (do pure (Next.value (← (do eqGuard op t x y (a.eval x) (a.eval y); binOp op t (a.eval x) (a.eval y))))) := by simp [execOp,ho]
    unfold binV at hr
    split at hr
    · rename_i kd p k' q
      rw [show a.eval x = _ from hx,show a.eval y = _ from hy] at he
      have hg : (eqGuard op t x y (.int kd p) (.int k' q)).run P w = .ok () w := run_eqGuard_ok (by simp) (by simp) w
      have sh : ∀ r,(shOp op kd p q).map Res.pur = some r → ResOK P m h w ((execOp a.eval o).run P w) r := fun r hr => by
        cases hv : shOp op kd p q with
        | none => simp [hv] at hr
        | some z =>
          simp [hv] at hr; subst hr
          obtain ⟨X,h3,h4⟩ := shOp_sound (P := P) (w := w) (m := m) (k' := k') t hv
          exact pur_val (x := X) (by simp [hg,h3]) h4 he
      split at hr
      · exact sh r hr
      · exact sh r hr
      · rename_i s1 s2
        split at hr
        · rename_i hk
          subst hk
          cases hv : intOp op kd p q with
          | none => simp [hv] at hr
          | some z =>
            simp [hv] at hr; subst hr
            obtain ⟨X,h3,h4⟩ := intOp_sound (P := P) (w := w) (m := m) t hv ⟨s1,s2⟩
            exact pur_val (x := X) (by simp [hg,h3]) h4 he
        · cases hr
    · rename_i p q
      rw [show a.eval x = _ from hx,show a.eval y = _ from hy] at he
      have hg : (eqGuard op t x y (.string ⟨p.toArray⟩) (.string ⟨q.toArray⟩)).run P w = .ok () w := run_eqGuard_ok (by simp) (by simp) w
      cases hv : strOp op p q with
      | none => simp [hv] at hr
      | some z =>
        simp [hv] at hr; subst hr
        obtain ⟨X,h3,h4⟩ := strOp_sound (P := P) (w := w) (m := m) t hv
        exact pur_val (x := X) (by simp [hg,h3]) h4 he
    · rename_i n1 n2
      split at hr
      · cases hr
      · rename_i q hq
        have hq' : eqT P 40 t = some q := by
          unfold eqTop at hq; split at hq
          · cases hq
          · exact hq
        have fin : ∀ b,eqV h q u v = some b → (u = .nilIface → v = .nilIface → (isLit x || isLit y) = true) →
            ((eqGuard op t x y (a.eval x) (a.eval y)).run P w = .ok () w ∧ (binOp .eql t (a.eval x) (a.eval y)).run P w = .ok (.bool b) w ∧ (binOp .neq t (a.eval x) (a.eval y)).run P w = .ok (.bool !b) w) := fun b hb hn => by
          have hE : (Op.equal t (a.eval x) (a.eval y)).run P w = .ok b w := eqV_sound cx.hr 40 t q u v _ _ b 10000 (by omega) hq' hx hy hb
          refine ⟨run_eqGuard_ok ?_ ?_ w,run_equalOp hx hy hb n1 n2 hE⟩
          · rintro ⟨ex,ey⟩
            exact hn (VR.of_nilIface (ex ▸ hx)) (VR.of_nilIface (ey ▸ hy))
          · intro c d ec _
            obtain ⟨xs,rfl⟩ := VR.of_agg (ec ▸ hx)
            have hag := eqT_agg hq' hb
            unfold eqTop at hq
            rw [hag] at hq
            simp only [Bool.true_and] at hq
            split at hq
            · cases hq
            · rename_i hgt; simpa using hgt
        split at hr
        · cases hr
        · rename_i u v _ _ _ nn
          have hn : u = .nilIface → v = .nilIface → (isLit x || isLit y) = true := fun e1 e2 => by
            cases hl : (isLit x || isLit y) with
            | true => rfl
            | false => exact (nn e1 e2 hl).elim
          split at hr <;> cases hr
          · rename_i b hb
            obtain ⟨f1,f2,f3⟩ := fin b hb hn
            exact rd_val (x := .bool b) (by simp [f1,f2]) rfl he
          · rename_i b hb
            obtain ⟨f1,f2,f3⟩ := fin b hb hn
            exact rd_val (x := .bool !b) (by simp [f1,f3]) rfl he
  · cases hr
end Go.AM
namespace Go.AM
variable {P : Program} {m : Mp} {h : H} {w : World} {T : List V} {a : Act} {o : Oper} {k : K}
theorem snd_fieldAddr (cx : Cx P m h w T a) {t : TypeId} {x : Operand} {f : Nat} (ho : o.op = .fieldAddr t x f) (hc : cK P (.fieldAddr t x f) = some k) : Snd P m h w T a o k := by
 intro r hr
 simp only [cK] at hc
 split at hc
 ·rename_i fs y h1 h2
  split at hc
  ·rename_i fd h3
   split at hc
   ·rename_i s hs
    cases hc
    simp only [evK] at hr
    split at hr <;> cases hr
    rename_i i q e
    obtain ⟨R,sh,ex,hm,hx⟩ := cx.av h2 e
    refine pur_val (s := Instr.fieldAt t (a.eval x) f) (x := .pointer (some ⟨R,sh + (q + fd.offset),none⟩)) ?_ ⟨R,sh,ex,hm,rfl⟩ (by simp [execOp,ho])
    rw [hx]
    simp [Instr.fieldAt,run_underlying h1,h3,Instr.sureAddr,fieldPlace,run_sizeOf hs,Addr.add]
    split <;> simp_all <;> omega
   ·cases hc
  ·cases hc
 ·cases hc
theorem add_at (r o n : Nat) : (⟨r,o,none⟩ : Addr).add n = ⟨r,o + n,none⟩ := by
 unfold Addr.add; split <;> simp_all
theorem snd_indexAddr (cx : Cx P m h w T a) {t : TypeId} {x i : Operand} (ho : o.op = .indexAddr t x i) (hc : cK P (.indexAddr t x i) = some k) : Snd P m h w T a o k := by
 intro r hr
 simp only [cK] at hc
 split at hc
 ·rename_i e y j h1 h2 h3
  cases h4 : sizeT P e with
  | none => simp [h4] at hc
  | some s =>
   simp [h4] at hc; subst hc
   simp only [evK] at hr
   split at hr
   ·rename_i b q len c op kd n e1 e2
    split at hr <;> cases hr
    rename_i hn
    obtain ⟨R,sh,ex,ad,hm,hx,hz⟩ := cx.av h2 e1
    have hi : a.eval i = .int kd n := cx.av h3 e2
    refine pur_val (s := Instr.indexAt t (a.eval x) (a.eval i)) (x := .pointer (some ⟨R,sh + (q + n.toNat * s),none⟩)) ?_ ⟨R,sh,ex,hm,rfl⟩ (by simp [execOp,ho])
    have had : ad = ⟨R,sh + q,none⟩ := by
     rcases hz with hz | ⟨hz,_⟩
     ·exact hz
     ·omega
    subst had
    rw [hx,hi]
    simp [Instr.indexAt,asIntOf,run_underlying h1,hn,run_sizeOf h4,add_at,Nat.add_assoc]
   ·cases hr
 ·rename_i len e y j h1 h2 h3
  cases h4 : sizeT P e with
  | none => simp [h4] at hc
  | some s =>
   simp [h4] at hc; subst hc
   simp only [evK] at hr
   split at hr
   ·rename_i b q kd n e1 e2
    split at hr <;> cases hr
    rename_i hn
    obtain ⟨R,sh,ex,hm,hx⟩ := cx.av h2 e1
    have hi : a.eval i = .int kd n := cx.av h3 e2
    refine pur_val (s := Instr.indexAt t (a.eval x) (a.eval i)) (x := .pointer (some ⟨R,sh + (q + n.toNat * s),none⟩)) ?_ ⟨R,sh,ex,hm,rfl⟩ (by simp [execOp,ho])
    rw [hx,hi]
    simp [Instr.indexAt,asIntOf,run_underlying h1,Instr.sureAddr,hn,run_sizeOf h4,add_at,Nat.add_assoc]
   ·cases hr
 ·cases hc
theorem snd_convert (cx : Cx P m h w T a) {t u : TypeId} {x : Operand} (ho : o.op = .convert t u x)
  (hmem : ∀ y,k ≠ .same y ∧ (∀ q,k ≠ .s2b q y) ∧ k ≠ .b2s y ∧ k ≠ .p2u y ∧ (∀ q,k ≠ .u2p q y)) (hc : cK P (.convert t u x) = some k) : Snd P m h w T a o k := by
 intro r hr
 simp only [cK] at hc
 split at hc
 ·rename_i k1 k2 y h1 h2 h3
  cases hc
  simp only [evK] at hr
  split at hr <;> cases hr
  rename_i kd n e
  have hx : a.eval x = .int kd n := cx.av h3 e
  refine pur_val (s := convert t u (a.eval x)) (x := .int k2 (k2.wrap n)) ?_ rfl (by simp [execOp,ho])
  rw [hx]; simp [convert,run_underlying h1,run_underlying h2,Conv.intToInt]
 ·rename_i k1 y h1 h2 h3
  cases hc
  simp only [evK] at hr
  split at hr <;> cases hr
  rename_i kd n e
  have hx : a.eval x = .int kd n := cx.av h3 e
  refine pur_val (s := convert t u (a.eval x)) (x := .string (Utf8.encode n)) ?_ ?_ (by simp [execOp,ho])
  ·rw [hx]; simp [convert,run_underlying h1,run_underlying h2,Conv.intToString]
  ·simp [VR]
 ·split at hc
  ·split at hc
   ·cases hc; exact absurd rfl (hmem _).1
   ·cases hc
  ·cases hc
 ·split at hc
  ·cases hc
  ·cases hc; exact absurd rfl (hmem _).2.2.2.1
 ·split at hc
  ·cases hc
  ·cases hc; exact absurd rfl ((hmem _).2.2.2.2 _)
 ·rename_i y h1 h2 h3
  cases hc
  simp only [evK] at hr
  split at hr <;> cases hr
  rename_i s e
  have hx : a.eval x = .string ⟨s.toArray⟩ := cx.av h3 e
  refine pur_val (s := convert t u (a.eval x)) (x := .string ⟨s.toArray⟩) ?_ rfl (by simp [execOp,ho])
  rw [hx]; simp [convert,run_underlying h1,run_underlying h2]
 ·split at hc
  ·split at hc <;> cases hc
   exact absurd rfl ((hmem _).2.1 _)
  ·cases hc
 ·split at hc
  ·cases hc; exact absurd rfl (hmem _).2.2.1
  ·cases hc
 ·cases hc
theorem run_boundV {y y' : Nat} {v : V} {x : Value} {n : Nat} {code : BoundsCode} (hv : VR m v x) (hb : boundV y v = some n) (hy : y ≤ y') : (Instr.sliceBound x y' code).run P w = .ok n w ∧ n ≤ y := by
 cases v <;> simp only [boundV] at hb <;> try cases hb
 rename_i kd q
 split at hb <;> cases hb
 rename_i hq
 cases hv
 refine ⟨?_,by omega⟩
 have : 0 ≤ q ∧ q ≤ (y' : Int) := ⟨hq.1,by omega⟩
 simp [Instr.sliceBound,asIntOf,this]
theorem Cx.ao (cx : Cx P m h w T a) {x : Option Operand} {y : Option A} {v : Option V} (hc : cAo P x = some y) (hv : evo T y = some v) : OptR m v (x.map a.eval) :=
 evAo cx.tr cx.hr.glob hc hv
theorem run_boundsV {b : Bool} {len cap e : Nat} {lo hi mx : Option V} {rlo rhi rmx : Option Value} {l hh mm : Nat}
  (h1 : OptR m lo rlo) (h2 : OptR m hi rhi) (h3 : OptR m mx rmx) (hlen : len ≤ cap) (hb : boundsV len cap lo hi mx = some (l,hh,mm)) :
  (Instr.sliceBounds b len (cap + e) rlo rhi rmx).run P w = .ok (l,hh,mm + if mx.isNone then e else 0) w ∧ l ≤ hh ∧ hh ≤ mm ∧ mm ≤ cap := by
 unfold boundsV at hb
 split at hb
 ·cases hb
 ·rename_i m' hm'
  split at hb
  ·cases hb
  ·rename_i h' hh'
   split at hb
   ·cases hb
   ·rename_i l' hl'
    simp only [Option.some.injEq,Prod.mk.injEq] at hb
    obtain ⟨rfl,rfl,rfl⟩ := hb
    have hlo : ∀ code,(match rlo with | some v => Instr.sliceBound v h' code | none => pure 0).run P w = .ok l' w ∧ l' ≤ h' := fun code => by
     cases lo with
     | none => cases h1; cases hl'; exact ⟨rfl,Nat.zero_le _⟩
     | some u => obtain ⟨z,rfl,hz⟩ := h1; exact run_boundV hz hl' (Nat.le_refl _)
    cases mx with
    | none =>
     cases h3
     cases hm'
     simp only [Option.isNone_none,if_true]
     cases hi with
     | none =>
      cases h2
      cases hh'
      refine ⟨?_,(hlo .sliceB).2,hlen,Nat.le_refl _⟩
      have := (hlo .sliceB).1
      simp only [Instr.sliceBounds,Sem.run_bind,Sem.run_pure,Result.andThen_ok,Option.isSome_none,Bool.false_eq_true,if_false]
      cases rlo <;> simp_all
     | some u =>
      obtain ⟨z,rfl,hz⟩ := h2
      have e1 := run_boundV (P := P) (w := w) (code := if b then .sliceAcap else .sliceAlen) hz hh' (Nat.le_add_right cap e)
      refine ⟨?_,(hlo .sliceB).2,e1.2,Nat.le_refl _⟩
      have := (hlo .sliceB).1
      simp only [Instr.sliceBounds,Sem.run_bind,Sem.run_pure,Result.andThen_ok,Option.isSome_none,Bool.false_eq_true,if_false,e1.1]
      cases rlo <;> simp_all
    | some um =>
     obtain ⟨zm,rfl,hzm⟩ := h3
     have e0 := run_boundV (P := P) (w := w) (code := if b then .slice3Acap else .slice3Alen) hzm hm' (Nat.le_add_right cap e)
     simp only [Option.isNone_some,Bool.false_eq_true,if_false,Nat.add_zero]
     cases hi with
     | none => cases hh'
     | some u =>
      obtain ⟨z,rfl,hz⟩ := h2
      have e1 := run_boundV (P := P) (w := w) (code := .slice3B) hz hh' (Nat.le_refl _)
      refine ⟨?_,(hlo .slice3C).2,e1.2,e0.2⟩
      have := (hlo .slice3C).1
      simp only [Instr.sliceBounds,Sem.run_bind,Result.andThen_ok,Option.isSome_some,if_true,e0.1,e1.1]
      cases rlo <;> simp_all
theorem snd_slice (cx : Cx P m h w T a) {t : TypeId} {x : Operand} {lo hi mx : Option Operand} (ho : o.op = .slice t x lo hi mx) (hc : cK P (.slice t x lo hi mx) = some k) : Snd P m h w T a o k := by
 intro r hr
 have he : execOp a.eval o = (do pure (Next.value (← Instr.sliceAt t (a.eval x) (lo.map a.eval) (hi.map a.eval) (mx.map a.eval)))) := by simp [execOp,ho]
 simp only [cK] at hc
 split at hc
 ·rename_i x' lo' hi' h1 h2 h3 h4 h5
  cases hc
  simp only [evK] at hr
  split at hr
  ·rename_i s vlo vhi e1 e2 e3
   split at hr <;> cases hr
   rename_i l hh mm hb
   have hx : a.eval x = .string ⟨s.toArray⟩ := cx.av h2 e1
   have hmx : mx = none := by
    cases mx with
    | none => rfl
    | some q => simp only [cAo] at h5; cases h6 : cA P q <;> simp [h6] at h5
   subst hmx
   obtain ⟨e4,e5,e6,e7⟩ := run_boundsV (P := P) (w := w) (m := m) (b := false) (e := 0) (mx := none) (rmx := none) (cx.ao h3 e2) (cx.ao h4 e3) (show OptR m none none from rfl) (Nat.le_refl _) hb
   refine pur_val (x := .string ((⟨s.toArray⟩ : ByteArray).extract l hh)) ?_ ?_ he
   ·rw [hx]
    have hsz : (⟨s.toArray⟩ : ByteArray).size = s.length := by simp [ByteArray.size]
    simp only [Nat.add_zero] at e4
    simp [Instr.sliceAt,run_underlying h1,Instr.slice,hsz,e4]
   ·simp only [VR]
    congr 1
    apply ByteArray.ext
    apply Array.ext'
    simp [ByteArray.extract,ByteArray.copySlice,List.extract_eq_take_drop]
  ·cases hr
 ·rename_i e x' lo' hi' mx' h1 h2 h3 h4 h5
  cases h6 : sizeT P e with
  | none => simp [h6] at hc
  | some s =>
   simp [h6] at hc; subst hc
   simp only [evK] at hr
   split at hr
   ·rename_i p len cap opn vlo vhi vmx e1 e2 e3 e4
    split at hr
    ·rename_i hlc
     split at hr <;> cases hr
     rename_i l hh mm hb
     have hxv := cx.av h2 e1
     cases p with
     | none =>
      have hx : a.eval x = .slice none len cap := hxv
      obtain ⟨e5,e6,e7,e8⟩ := run_boundsV (P := P) (w := w) (m := m) (b := true) (e := 0) (cx.ao h3 e2) (cx.ao h4 e3) (cx.ao h5 e4) hlc hb
      refine pur_val (x := .slice none (hh - l) (mm - l)) ?_ rfl he
      rw [hx]
      simp only [Nat.add_zero,ite_self] at e5
      simp [Instr.sliceAt,run_underlying h1,Instr.slice,e5,run_sizeOf h6]
     | some p =>
      obtain ⟨i,q⟩ := p
      obtain ⟨R,sh,ex,ad,hm,hx,hz⟩ := hxv
      obtain ⟨e5,e6,e7,e8⟩ := run_boundsV (P := P) (w := w) (m := m) (b := true) (e := if opn then ex else 0) (cx.ao h3 e2) (cx.ao h4 e3) (cx.ao h5 e4) hlc hb
      generalize hM : mm + (if vmx.isNone then (if opn then ex else 0) else 0) = M at e5
      refine pur_val (x := .slice (some (if M = l then ad else ad.add (l * s))) (hh - l) (M - l)) ?_ ?_ he
      ·rw [hx]
       simp [Instr.sliceAt,run_underlying h1,Instr.slice,e5,run_sizeOf h6]
       split <;> rfl
      ·refine ⟨R,sh,ex,(if M = l then ad else ad.add (l * s)),hm,?_,?_⟩
       ·congr 1
        subst hM
        cases vmx <;> cases opn <;> simp <;> omega
       ·have hMl : M - l = mm - l + if (opn && vmx.isNone) = true then ex else 0 := by
         subst hM
         cases vmx <;> cases opn <;> simp <;> omega
        by_cases hml : M = l
        ·right
         rw [← hMl]
         have : mm ≤ M := by rw [← hM]; exact Nat.le_add_right _ _
         refine ⟨by omega,by omega,?_⟩
         rw [if_pos hml]
         rcases hz with hz | ⟨_,_,hz⟩
         ·rw [hz]; exact fun _ => rfl
         ·intro ho2
          simp only [Bool.and_eq_true] at ho2
          exact hz ho2.1
        ·left
         rw [if_neg hml]
         rcases hz with hz | ⟨_,hz,_⟩
         ·subst hz; rw [add_at,Nat.add_assoc]
         ·exfalso
          have : M ≤ cap + if opn then ex else 0 := by
           rw [← hM]
           cases vmx <;> simp <;> omega
          omega
    ·cases hr
   ·cases hr
 ·rename_i n e x' lo' hi' mx' h1 h2 h3 h4 h5
  cases h6 : sizeT P e with
  | none => simp [h6] at hc
  | some s =>
   simp [h6] at hc; subst hc
   simp only [evK] at hr
   split at hr
   ·rename_i i q vlo vhi vmx e1 e2 e3 e4
    split at hr <;> cases hr
    rename_i l hh mm hb
    obtain ⟨R,sh,ex,hm,hx⟩ := cx.av h2 e1
    obtain ⟨e5,e6,e7,e8⟩ := run_boundsV (P := P) (w := w) (m := m) (b := false) (e := 0) (cx.ao h3 e2) (cx.ao h4 e3) (cx.ao h5 e4) (Nat.le_refl n) hb
    simp only [Nat.add_zero,ite_self] at e5
    refine pur_val (x := .slice (some (if mm = l then ⟨R,sh + q,none⟩ else ⟨R,sh + (q + l * s),none⟩)) (hh - l) (mm - l)) ?_ ?_ he
    ·rw [hx]
     simp [Instr.sliceAt,run_underlying h1,Instr.sureAddr,e5,run_sizeOf h6,add_at,Nat.add_assoc]
    ·refine ⟨R,sh,ex,(if mm = l then ⟨R,sh + q,none⟩ else ⟨R,sh + (q + l * s),none⟩),hm,by simp,?_⟩
     by_cases hml : mm = l
     ·right; simp [hml]; omega
     ·left; simp [hml]
   ·cases hr
 ·cases hc
end Go.AM
namespace Go.AM
variable {P : Program} {m : Mp} {h : H} {w : World} {T : List V} {a : Act} {o : Oper} {k : K}
theorem exec_builtin {c : Call} {b : Builtin} (ho : o.op = .call c) (hb : c.callee = .builtin b) :
  ∃ consts,(execOp a.eval o).run P w = (builtin b c.argTypes o.type consts (c.args.map a.eval)).run P w := by
 simp only [execOp,ho,resolve,hb,invoke,Sem.run_bind,Sem.run_pure,Result.andThen_ok]
 exact ⟨_,rfl⟩
theorem HR.cells {i r sh e : Nat} {vs : List V} {ty : Nat} {opn ro : Bool} {fz : Option Nat} (hr : HR P m h w) (hg : h.get i = some (.cells vs ty opn ro fz)) (hm : m i = some (r,sh,e)) :
  ∃ c fzr,w.heap[r]? = some (.cells c ty fzr) ∧ VRL m vs ((c.toList.drop sh).take vs.length) ∧ sh + vs.length ≤ c.size ∧
   (if opn then sh + vs.length + e * P.cellsOf ty ≤ c.size else sh = 0 ∧ e = 0 ∧ c.size = vs.length) ∧
   (ro = false → FzOK fz sh c.size fzr) := by
 obtain ⟨r',sh',e',ob,h1,h2,c,fzr,rfl,h3,h4,h5⟩ := hr.obj i _ hg rfl
 rw [hm] at h1; cases h1
 refine ⟨c,fzr,h2,h3,?_,h4,h5⟩
 cases opn with
 | true => simp only [if_true] at h4; omega
 | false => simp only [Bool.false_eq_true,if_false] at h4; omega
theorem HR.load1 {i r sh e o : Nat} {vs : List V} {ty : Nat} {opn ro : Bool} {fz : Option Nat} {v : V} (hr : HR P m h w) (hg : h.get i = some (.cells vs ty opn ro fz)) (hm : m i = some (r,sh,e))
  (hv : vs[o]? = some v) : ∃ x,w.cell? ⟨r,sh + o,none⟩ = some x ∧ VR m v x := by
 obtain ⟨c,fzr,h1,h2,h3,_⟩ := hr.cells hg hm
 obtain ⟨x,hx,hvr⟩ := h2.get hv
 have ho : o < vs.length := by
  rcases Nat.lt_or_ge o vs.length with h' | h'
  ·exact h'
  ·simp [List.getElem?_eq_none h'] at hv
 refine ⟨x,?_,hvr⟩
 rw [cell_at h1]
 rw [List.getElem?_take,if_pos ho,List.getElem?_drop] at hx
 simpa using hx
theorem HR.loadN {i r sh e o n : Nat} {vs : List V} {ty : Nat} {opn ro : Bool} {fz : Option Nat} (hr : HR P m h w) (hg : h.get i = some (.cells vs ty opn ro fz)) (hm : m i = some (r,sh,e))
  (hn : o + n ≤ vs.length) : ∃ xs : List Value,(loadCells ⟨r,sh + o,none⟩ n).run P w = .ok xs.toArray w ∧ VRL m (getR vs o n) xs := by
 obtain ⟨c,fzr,h1,h2,h3,_⟩ := hr.cells hg hm
 refine ⟨_,run_loadCells h1 (by omega),?_⟩
 have := h2.range o n
 rw [List.drop_take,List.drop_drop,List.take_take,Nat.min_eq_left (by omega)] at this
 exact this
theorem snd_load (cx : Cx P m h w T a) {t : TypeId} {x : Operand} (ho : o.op = .load t x) (hc : cK P (.load t x) = some k) : Snd P m h w T a o k := by
 intro r hr
 have he : execOp a.eval o = (do pure (Next.value (← Instr.loadAt t (a.eval x)))) := by simp [execOp,ho]
 simp only [cK] at hc
 split at hc
 ·rename_i y s h1 h2
  split at hc
  ·rename_i hag
   cases hc
   simp only [evK] at hr
   split at hr
   ·rename_i i q e
    obtain ⟨R,sh,ex,hm,hx⟩ := cx.av h1 e
    split at hr
    ·rename_i vs ty opn ro fz hg
     split at hr <;> cases hr
     rename_i hn
     obtain ⟨xs,h3,h4⟩ := cx.hr.loadN hg hm hn
     refine rd_val (x := .agg xs.toArray) ?_ ⟨xs,h4,rfl⟩ he
     rw [hx]
     simp [Instr.loadAt,Instr.sureAddr,loadVar,run_isAgg' h2,hag,run_sizeOf h2,h3]
    ·cases hr
   ·cases hr
  ·rename_i hag
   cases hc
   simp only [evK] at hr
   split at hr
   ·rename_i i q e
    obtain ⟨R,sh,ex,hm,hx⟩ := cx.av h1 e
    split at hr
    ·rename_i vs ty opn ro fz hg
     cases hv : vs[q]? with
     | none => simp [hv] at hr
     | some v =>
      simp [hv] at hr; subst hr
      obtain ⟨z,h3,h4⟩ := cx.hr.load1 hg hm hv
      refine rd_val (x := z) ?_ h4 he
      rw [hx]
      simp [Instr.loadAt,Instr.sureAddr,loadVar,run_isAgg' h2,hag,h3]
    ·cases hr
   ·cases hr
 ·cases hc
theorem length_setR (vs ws : List V) (o : Nat) (ho : o + ws.length ≤ vs.length) : (setR vs o ws).length = vs.length := by
 simp [setR]; omega
theorem VRL.splice {vs ws : List V} {xs ys : List Value} {o : Nat} (h1 : VRL m vs xs) (h2 : VRL m ws ys) :
  VRL m (setR vs o ws) (xs.take o ++ ys ++ xs.drop (o + ys.length)) := by
 unfold setR
 rw [h2.length]
 exact ((h1.take o).append h2).append (h1.drop _)
theorem HR.put {i r sh e q : Nat} {vs ws : List V} {ys : List Value} {ty : Nat} {opn : Bool} {fz : Option Nat} (hr : HR P m h w) (hg : h.get i = some (.cells vs ty opn false fz)) (hm : m i = some (r,sh,e))
  (hq : q + ws.length ≤ vs.length) (hw : VRL m ws ys) (h1 : ws.all V.one = true) (hf : fzFree fz q = true) :
  ∃ w',(storeCells ⟨r,sh + q,none⟩ ys).run P w = .ok () w' ∧ HR P m (h.set i (.cells (setR vs q ws) ty opn false fz)) w' ∧ Ext m h w m (h.set i (.cells (setR vs q ws) ty opn false fz)) w' := by
 obtain ⟨c,fzr,g1,g2,g3,g4,g5⟩ := hr.cells hg hm
 have g5 := g5 rfl
 have hone : ∀ y ∈ ys,y.oneCell' = true := by
  intro y hy
  obtain ⟨j,hj,rfl⟩ := List.getElem_of_mem hy
  have hjw : j < ws.length := by rw [← hw.length]; exact hj
  obtain ⟨z,hz,hzr⟩ := hw.get (i := j) (v := ws[j]) (by simp [hjw])
  have : ys[j] = z := by simpa [hj] using hz
  rw [this]
  exact VR.one hzr (List.all_eq_true.1 h1 _ (List.getElem_mem hjw))
 have hfree : ∀ j,sh + q + 0 ≤ j → j < sh + q + 0 + ys.length → ¬ (fzr.1 ≤ j ∧ j < fzr.2) := by
  intro j hj1 hj2 ⟨hj3,hj4⟩
  rw [hw.length] at hj2
  cases fz with
  | none => simp only [FzOK] at g5; subst g5; simp at hj4
  | some f =>
   simp only [fzFree,decide_eq_true_eq] at hf
   simp only [FzOK] at g5
   have g6 := g5.2 j hj3 hj4
   split at g6 <;> omega
 obtain ⟨w',c',e1,e2,e3⟩ := run_storeCells (P := P) ys 0 c w g1 hone (by rw [hw.length]; omega) hfree
 refine ⟨w',e1,?_⟩
 have hlen : (c'.toList).length = c.toList.length := by
  rw [e3]; simp; rw [hw.length]; omega
 refine hr.set hg rfl hm e2 ?_
 refine ⟨c',fzr,rfl,?_,?_,?_⟩
 ·rw [length_setR _ _ _ hq,e3]
  have hl := hw.length
  have : ((c.toList.take (sh + q + 0) ++ ys ++ c.toList.drop (sh + q + 0 + ys.length)).drop sh).take vs.length = ((c.toList.drop sh).take vs.length).take q ++ ys ++ ((c.toList.drop sh).take vs.length).drop (q + ys.length) := by
   refine List.ext_getElem? fun j => ?_
   rw [List.getElem?_take]
   rw [getElem?_splice _ _ q j (by simp; omega)]
   by_cases hj : j < vs.length
   ·rw [if_pos hj,List.getElem?_drop,getElem?_splice c.toList ys (sh + q + 0) (sh + j) (by simp; omega)]
    simp only [List.getElem?_take,List.getElem?_drop,hj,if_true,Nat.add_zero]
    by_cases a1 : j < q
    ·rw [if_pos (by omega),if_pos a1]
    ·rw [if_neg (by omega),if_neg a1]
     by_cases a2 : j < q + ys.length
     ·rw [if_pos (by omega),if_pos a2]; congr 1; omega
     ·rw [if_neg (by omega),if_neg a2]
   ·rw [if_neg hj,if_neg (by omega),if_neg (by omega),List.getElem?_take,if_neg hj]
  rw [this]
  exact g2.splice hw
 ·rw [length_setR _ _ _ hq]
  have : c'.size = c.size := by simpa using hlen
  rw [this]; exact g4
 ·have : c'.size = c.size := by simpa using hlen
  rw [this]; exact fun _ => g5
theorem putCells_sound {i r sh e q : Nat} {ws : List V} {ys : List Value} {h' : H} (hr : HR P m h w) (hm : m i = some (r,sh,e)) (hw : VRL m ws ys) (hp : putCells h i q ws = some h') :
  ∃ w',(storeCells ⟨r,sh + q,none⟩ ys).run P w = .ok () w' ∧ HR P m h' w' ∧ Ext m h w m h' w' := by
 unfold putCells at hp
 split at hp
 ·rename_i he
  cases hp
  have : ws = [] := by simpa using he
  subst this
  cases hw
  exact ⟨w,by simp [storeCells],hr,Ext.refl _ _ _⟩
 ·split at hp
  ·rename_i vs ty opn fz hg
   split at hp <;> cases hp
   rename_i hc
   exact hr.put hg hm hc.1 hw hc.2.1 hc.2.2
  ·cases hp
theorem snd_store (cx : Cx P m h w T a) {t : TypeId} {x y : Operand} (ho : o.op = .store t x y) (hc : cK P (.store t x y) = some k) : Snd P m h w T a o k := by
 intro r hr
 simp only [cK] at hc
 split at hc <;> cases hc
 rename_i x' y' s h1 h2 h3
 simp only [evK] at hr
 split at hr
 ·rename_i i q v e1 e2
  obtain ⟨R,sh,ex,hm,hx⟩ := cx.av h1 e1
  have hv := cx.av h2 e2
  split at hr
  ·rename_i hs
   cases hp : putCells h i q v.cells with
   | none => simp [hp] at hr
   | some h' =>
    simp [hp] at hr; subst hr
    have hcs := VR.cells hv
    obtain ⟨w',e3,e4,e5⟩ := putCells_sound cx.hr hm hcs hp
    refine ⟨m,w',undef,e4,e5,⟨[],rfl,rfl⟩,.inr ⟨?_,rfl⟩⟩
    have hsz : (a.eval y).cells.size = s := by rw [← Array.length_toList,hcs.length]; exact hs
    rw [show execOp a.eval o = (do Instr.storeAt t (a.eval x) (a.eval y); pure Next.skip) by simp [execOp,ho],hx]
    simp [Instr.storeAt,Instr.sureAddr,storeVar,hsz,run_sizeOf h3,e3]
  ·cases hr
 ·cases hr
end Go.AM
namespace Go.AM
variable {P : Program} {m : Mp} {h : H} {w : World} {T : List V} {a : Act} {o : Oper} {k : K}
theorem OR.closed {vs : List V} {xs : List Value} {ty : TypeId} {ro : Bool} (hx : VRL m vs xs) : OR P m (.cells xs.toArray ty) 0 0 (.cells vs ty false ro none) := by
 refine ⟨xs.toArray,(0,0),rfl,?_,?_,fun _ => rfl⟩
 ·rw [List.drop_zero,← hx.length]; simpa using hx
 ·simp [hx.length]
theorem OR.opened {vs : List V} {xs rest : List Value} {ty : TypeId} {ro : Bool} {e : Nat} {fz : Option Nat} {fzr : Nat × Nat} (hx : VRL m vs xs) (he : e * P.cellsOf ty ≤ rest.length)
  (hf : FzOK fz 0 (xs ++ rest).length fzr) : OR P m (.cells (xs ++ rest).toArray ty fzr) 0 e (.cells vs ty true ro fz) := by
 refine ⟨(xs ++ rest).toArray,fzr,rfl,?_,?_,?_⟩
 ·rw [List.drop_zero,← hx.length]; simpa using hx
 ·simp [hx.length]; omega
 ·intro _; simpa using hf
theorem zeroT_spec {t : TypeId} {z : V} (hz : zeroT P t = some z) : ∃ x,VR m z x ∧ ∀ w,(zeroValue t).run P w = .ok x w := by
 unfold zeroT at hz
 cases hi : P.info? t with
 | none => simp [hi] at hz
 | some i =>
  cases hx : i.zero with
  | none => simp [hi,hx] at hz
  | some x =>
   simp [hi,hx] at hz
   exact ⟨x,vOf_sound 64 x z hz,fun w => by simp [zeroValue,run_typeInfo hi,hx]⟩
theorem eff_new {vs : List V} {xs : List Value} {ty : TypeId} {h' : H} {v : V} {x : Value} {r : Result Next} (hr : HR P m h w) (hx : VRL m vs xs) (hp : h.push (.cells vs ty false false none) = some h')
  (hv : VR (upd m h.size (w.heap.size,0,0)) v x) (hrun : Yld r x { w with heap := w.heap.push (.cells xs.toArray ty) }) : ResOK P m h w r (.eff v h') := by
 obtain ⟨h1,h2⟩ := hr.push hp (New.alloc w (.cells xs.toArray ty)) (OR.closed hx)
 exact ⟨_,_,x,h1,h2,hv,hrun⟩
theorem snd_alloc (cx : Cx P m h w T a) {e : TypeId} (ho : o.op = .alloc e) (hc : cK P (.alloc e) = some k) : Snd P m h w T a o k := by
 intro r hr
 simp only [cK] at hc
 cases hz : zeroT P e with
 | none => simp [hz] at hc
 | some z =>
  simp [hz] at hc; subst hc
  simp only [evK] at hr
  split at hr <;> cases hr
  rename_i h' hp
  obtain ⟨x,hx,hrun⟩ := zeroT_spec (m := m) hz
  have hcs := VR.cells hx
  refine eff_new cx.hr hcs hp (x := .pointer (some ⟨w.heap.size,0,none⟩)) ⟨_,_,_,upd_self _ _ _,rfl⟩ (.inl ?_)
  rw [show execOp a.eval o = (do pure (Next.value (← Instr.alloc e true (.tuple #[])))) by simp [execOp,ho]]
  simp [Instr.alloc,hrun,newVar,newRow]
theorem snd_box (cx : Cx P m h w T a) {e : TypeId} {x : Operand} (ho : o.op = .box e x) (hc : cK P (.box e x) = some k) : Snd P m h w T a o k := by
 intro r hr
 simp only [cK] at hc
 cases h1 : cA P x with
 | none => simp [h1] at hc
 | some y =>
  simp [h1] at hc; subst hc
  simp only [evK] at hr
  split at hr
  ·rename_i v e1
   split at hr <;> cases hr
   rename_i h' hp
   have hcs := VR.cells (cx.av h1 e1)
   refine eff_new cx.hr hcs hp (x := .pointer (some ⟨w.heap.size,0,none⟩)) ⟨_,_,_,upd_self _ _ _,rfl⟩ (.inl ?_)
   rw [show execOp a.eval o = (do pure (Next.value (← Instr.box e (a.eval x)))) by simp [execOp,ho]]
   simp [Instr.box,newVar,newRow]
  ·cases hr
theorem foldl_set : ∀ (xs : List Value) (i off : Nat) (c : Array Value),off + i + xs.length ≤ c.size →
  ((xs.zipIdx i).foldl (fun (cs : Array Value) (x,j) => cs.setIfInBounds (off + j) x) c).toList = c.toList.take (off + i) ++ xs ++ c.toList.drop (off + i + xs.length)
 | [],i,off,c,_ => by simp
 | x :: xs,i,off,c,hn => by
  simp only [List.length_cons] at hn
  rw [List.zipIdx_cons,List.foldl_cons,foldl_set xs (i + 1) off _ (by rw [Array.size_setIfInBounds]; omega)]
  refine List.ext_getElem? fun j => ?_
  rw [show off + (i + 1) = off + i + 1 from by omega]
  rw [getElem?_splice (c.setIfInBounds (off + i) x).toList xs (off + i + 1) j (by simp; omega)]
  rw [getElem?_splice c.toList (x :: xs) (off + i) j (by simp; omega)]
  simp only [Array.toList_setIfInBounds,List.getElem?_set,Array.length_toList]
  have e2 : (x :: xs).length = xs.length + 1 := rfl
  by_cases a1 : j < off + i
  ·rw [if_pos (by omega),if_pos a1,if_neg (by omega)]
  ·rw [if_neg a1]
   by_cases a2 : j = off + i
   ·subst a2
    rw [if_pos (by omega),if_pos rfl,if_pos (by omega),if_pos (by omega)]; simp
   ·rw [if_neg (by omega)]
    by_cases a3 : j < off + i + 1 + xs.length
    ·rw [if_pos a3,if_pos (by omega),show j - (off + i) = (j - (off + i + 1)) + 1 by omega,List.getElem?_cons_succ]
    ·rw [if_neg a3,if_neg (by omega),if_neg (by omega)]
theorem fill_sound (cx : Cx P m h w T a) {f g : Nat → Option (Nat × Nat)} : ∀ (ps : List (Nat × Operand)) (qs : List (Nat × Nat × A)) (z cs : List V) (c : Array Value),
  (∀ i q,f i = some q → g i = some q) → cParts P f ps = some qs → VRL m z c.toList → fillV T z qs = some cs →
  ∃ c',Instr.fill g c (ps.map fun (i,x) => (i,a.eval x)) = some c' ∧ VRL m cs c'.toList
 | [],qs,z,cs,c,_,hc,hz,hf => by
  simp [cParts] at hc; subst hc
  simp [fillV] at hf; subst hf
  exact ⟨c,rfl,hz⟩
 | (i,x) :: ps,qs,z,cs,c,hfg,hc,hz,hf => by
  simp only [cParts] at hc
  split at hc <;> cases hc
  rename_i off s y l h1 h2 h3
  simp only [fillV] at hf
  split at hf
  ·rename_i v e1
   split at hf
   ·rename_i hs
    have hv := cx.av h2 e1
    have hcs := VR.cells hv
    have hsz : (a.eval x).cells.size = s := by rw [← Array.length_toList,hcs.length]; exact hs.1
    have hzl : c.size = z.length := by rw [← Array.length_toList,hz.length]
    simp only [List.map_cons,Instr.fill,hfg i _ h1]
    have hcond : ((a.eval x).cells.size ≠ s || off + (a.eval x).cells.size > c.size) = false := by
     simp [hsz]; omega
    simp only [hcond,Bool.false_eq_true,if_false]
    refine fill_sound cx ps l _ cs _ hfg h3 ?_ hf
    have hfold := foldl_set (a.eval x).cells.toList 0 off c (by simp; omega)
    simp only [← Array.foldl_toList,Array.toList_zipIdx]
    rw [hfold]
    exact hz.splice hcs
   ·cases hf
  ·cases hf
theorem run_places (fs : Array Field) (hall : fs.toList.all (fun f => (sizeT P f.type).isSome) = true) (w : World) :
  (fs.mapM fun f => (do pure (f.offset,← sizeOf f.type) : Sem (Nat × Nat))).run P w = .ok (fs.map fun f => (f.offset,(sizeT P f.type).getD 0)) w := by
 rw [Array.mapM_eq_mapM_toList]
 have : ∀ l : List Field,l.all (fun f => (sizeT P f.type).isSome) = true →
   (l.mapM fun f => (do pure (f.offset,← sizeOf f.type) : Sem (Nat × Nat))).run P w = .ok (l.map fun f => (f.offset,(sizeT P f.type).getD 0)) w := by
  intro l
  induction l with
  | nil => intro _; rfl
  | cons f l ih =>
   intro hl
   simp only [List.all_cons,Bool.and_eq_true] at hl
   cases hs : sizeT P f.type with
   | none => simp [hs] at hl
   | some s =>
    have ih' := ih hl.2
    simp only [List.mapM_cons,Sem.run_bind,run_sizeOf hs,Result.andThen_ok,Sem.run_pure,ih',List.map_cons,hs,Option.getD_some]
 simp only [Sem.run_map,this _ hall,Result.andThen_ok]
 congr 1
 apply Array.ext'
 simp
theorem snd_build (cx : Cx P m h w T a) {t : TypeId} {parts : Array (Nat × Operand)} (ho : o.op = .build t parts) (hc : cK P (.build t parts) = some k) : Snd P m h w T a o k := by
 intro r hr
 have he : execOp a.eval o = (do pure (Next.value (← Instr.build t (parts.map fun (i,x) => (i,a.eval x))))) := by simp [execOp,ho]
 simp only [cK] at hc
 split at hc
 ·rename_i fs z h1 h2
  split at hc
  ·rename_i hall
   cases hps : cParts P (fun i => (fs[i]?).bind fun f => (sizeT P f.type).map fun s => (f.offset,s)) parts.toList with
   | none => simp [hps] at hc
   | some qs =>
    simp [hps] at hc; subst hc
    simp only [evK] at hr
    cases hf : fillV T z.cells qs with
    | none => simp [hf] at hr
    | some cs =>
     simp [hf] at hr; subst hr
     obtain ⟨x,hx,hrun⟩ := zeroT_spec (m := m) h2
     obtain ⟨c',e1,e2⟩ := fill_sound cx (g := fun i => (fs.map fun f => (f.offset,(sizeT P f.type).getD 0))[i]?) _ _ _ _ _ (fun i q hq => by
      cases hfi : fs[i]? with
      | none => simp [hfi] at hq
      | some f =>
       cases hs : sizeT P f.type with
       | none => simp [hfi,hs] at hq
       | some s => simp [hfi,hs] at hq; simp [hfi,hs,hq]) hps (VR.cells hx) hf
     refine pur_val (x := .agg c') ?_ ⟨_,e2,rfl⟩ he
     simp only [Instr.build,Sem.run_bind,hrun,Result.andThen_ok,run_underlying h1,run_places fs hall w]
     rw [Array.toList_map,e1]
     rfl
  ·cases hc
 ·rename_i n e z h1 h2
  split at hc
  ·rename_i s hs
   cases hps : cParts P (fun i => some (i * s,s)) parts.toList with
   | none => simp [hps] at hc
   | some qs =>
    simp [hps] at hc; subst hc
    simp only [evK] at hr
    cases hf : fillV T z.cells qs with
    | none => simp [hf] at hr
    | some cs =>
     simp [hf] at hr; subst hr
     obtain ⟨x,hx,hrun⟩ := zeroT_spec (m := m) h2
     obtain ⟨c',e1,e2⟩ := fill_sound cx (g := fun i => some (i * s,s)) _ _ _ _ _ (fun i q hq => hq) hps (VR.cells hx) hf
     refine pur_val (x := .agg c') ?_ ⟨_,e2,rfl⟩ he
     simp only [Instr.build,Sem.run_bind,hrun,Result.andThen_ok,run_underlying h1,run_sizeOf hs]
     rw [Array.toList_map,e1]
     rfl
  ·cases hc
 ·cases hc
theorem VRL.flatten {zs : List V} {xs : List Value} (h : VRL m zs xs) : ∀ n,VRL m (List.replicate n zs).flatten (List.replicate n xs).flatten
 | 0 => VRL.nil
 | n + 1 => by simp only [List.replicate_succ,List.flatten_cons]; exact h.append (VRL.flatten h n)
theorem range_mod (xs : Array Value) : ∀ n,((Array.range (n * xs.size)).map (fun i => xs[i % xs.size]!)).toList = (List.replicate n xs.toList).flatten := by
 intro n
 rw [Array.toList_map,Array.toList_range]
 induction n with
 | zero => simp
 | succ n ih =>
  rw [show (n + 1) * xs.size = n * xs.size + xs.size from by rw [Nat.succ_mul],List.range_add,List.map_append,ih,List.replicate_succ',List.flatten_append]
  congr 1
  rw [List.map_map]
  simp only [List.flatten_cons,List.flatten_nil,List.append_nil]
  refine List.ext_getElem (by simp) fun i h1 h2 => ?_
  have hi : i < xs.size := by simpa using h1
  have hmod : (n * xs.size + i) % xs.size = i := by
   rw [Nat.add_comm,Nat.add_mul_mod_self_right,Nat.mod_eq_of_lt hi]
  simp [hmod,hi]
theorem snd_bslice (cx : Cx P m h w T a) {t : TypeId} {len : Nat} {parts : Array (Nat × Operand)} (ho : o.op = .buildSlice t len parts) (hc : cK P (.buildSlice t len parts) = some k) : Snd P m h w T a o k := by
 intro r hr
 simp only [cK] at hc
 split at hc
 ·rename_i e h1
  split at hc
  ·rename_i s z h2 h3
   split at hc
   ·rename_i hl
    cases hps : cParts P (fun i => some (i * s,s)) parts.toList with
    | none => simp [hps] at hc
    | some qs =>
     simp [hps] at hc; subst hc
     simp only [evK] at hr
     split at hr
     ·rename_i cs hf
      split at hr <;> cases hr
      rename_i h' hp
      obtain ⟨x,hx,hrun⟩ := zeroT_spec (m := m) h3
      have hcs := VR.cells hx
      have hxs : x.cells.size = s := by rw [← Array.length_toList,hcs.length]; exact hl.2
      have hz : VRL m (List.replicate len z.cells).flatten ((Array.range (len * s)).map (fun i => (if len * s = 0 then #[] else x.cells)[i % (if len * s = 0 then #[] else x.cells).size]!)).toList := by
       by_cases h0 : len * s = 0
       ·rw [h0]
        have : (List.replicate len z.cells).flatten = [] := by
         rcases Nat.mul_eq_zero.1 h0 with h' | h'
         ·simp [h']
         ·have : z.cells = [] := by rw [h'] at hl; exact List.length_eq_zero_iff.1 hl.2
          simp [this]
        rw [this]; simp [VRL.nil]
       ·simp only [if_neg h0]
        rw [← hxs,range_mod]
        exact VRL.flatten hcs len
      obtain ⟨c',e1,e2⟩ := fill_sound cx (g := fun i => some (i * s,s)) _ _ _ _ _ (fun i q hq => hq) hps hz hf
      refine eff_new cx.hr e2 hp (x := .slice (some ⟨w.heap.size,0,none⟩) len len) ⟨_,_,_,_,upd_self _ _ _,rfl,.inl rfl⟩ (.inl ?_)
      rw [show execOp a.eval o = (do pure (Next.value (← Instr.buildSlice t len (parts.map fun (i,x) => (i,a.eval x))))) by simp [execOp,ho]]
      have hbig : ¬ (len * s > 2 ^ 24) := by omega
      simp only [Instr.buildSlice,Sem.run_bind,run_underlying h1,Result.andThen_ok,run_sizeOf h2,Sem.run_ite,hbig,if_false,Sem.run_pure]
      by_cases h0 : len * s = 0
      ·simp only [h0,if_true] at e1 ⊢
       rw [Array.toList_map,e1]
       simp [newRow]
      ·simp only [h0,if_false] at e1 ⊢
       simp only [hrun,Result.andThen_ok]
       rw [Array.toList_map,e1]
       simp [newRow]
     ·cases hr
   ·cases hc
  ·cases hc
 ·cases hc
theorem snd_makeMap (cx : Cx P m h w T a) {t : TypeId} {res : Option Operand} (ho : o.op = .makeMap t res) (hc : cK P (.makeMap t res) = some k) : Snd P m h w T a o k := by
 intro r hr
 have key : ∀ h',h.push (.map [] 0) = some h' → (execOp a.eval o).run P w = .ok (.value (.map (some w.heap.size))) { w with heap := w.heap.push (.map #[] 0) } →
   ResOK P m h w ((execOp a.eval o).run P w) (.eff (.map (some h.size)) h') := fun h' hp hrun => by
  obtain ⟨h1,h2⟩ := cx.hr.push (e := 0) hp (New.alloc w (.map #[] 0)) ⟨#[],rfl,rfl⟩
  exact ⟨_,_,_,h1,h2,⟨_,_,_,upd_self _ _ _,rfl⟩,.inl hrun⟩
 have he : execOp a.eval o = (do pure (Next.value (← Instr.makeMap t (res.map a.eval)))) := by simp [execOp,ho]
 simp only [cK] at hc
 split at hc
 ·cases hc
  simp only [evK] at hr
  split at hr <;> cases hr
  rename_i hp
  exact key _ hp (by rw [he]; simp [Instr.makeMap])
 ·rename_i kd n kt et h1
  cases hc
  simp only [evK] at hr
  split at hr <;> cases hr
  rename_i hp
  exact key _ hp (by rw [he]; simp [Instr.makeMap,Act.eval,run_underlying h1,asInt,asIntOf])
 ·cases hc
theorem snd_makeSlice (cx : Cx P m h w T a) {t : TypeId} {l c : Operand} (ho : o.op = .makeSlice t l c) (hc : cK P (.makeSlice t l c) = some k) : Snd P m h w T a o k := by
 intro r hr
 simp only [cK] at hc
 split at hc
 ·rename_i e l' c' h1 h2 h3
  split at hc
  ·rename_i i z h4 h5
   split at hc <;> cases hc
   rename_i hzs
   simp only [evK] at hr
   split at hr
   ·rename_i kl nl kc nc e1 e2
    split at hr
    ·rename_i hb
     split at hr <;> cases hr
     rename_i h' hp
     have hl : a.eval l = .int kl nl := cx.av h2 e1
     have hcv : a.eval c = .int kc nc := cx.av h3 e2
     obtain ⟨x,hx,hrun⟩ := zeroT_spec (m := m) h5
     have hcs := VR.cells hx
     have hxs : x.cells.size = i.size := by rw [← Array.length_toList,hcs.length]; exact hzs
     have hi : P.info? e = some i := h4
     have hsz : (sizeOf e).run P w = .ok i.size w := by simp [sizeOf,run_typeInfo hi]
     obtain ⟨b0,b1,b2,b3⟩ := hb
     have hw : ∀ n : Int,0 ≤ n → n ≤ 1099511627776 → IntKind.i64.wrap n = n := fun n h0 h1 => by
      have h2 : n % 18446744073709551616 = n := Int.emod_eq_of_lt h0 (by omega)
      simp [IntKind.wrap,IntKind.bits,IntKind.signed,h2]
      omega
     have hwl := hw nl b0 (by omega)
     have hwc := hw nc (by omega) b2
     have hbytes : (i.bytes : Int) * nc ≤ 281474976710656 := by rw [Int.mul_comm]; exact b3
     have hbytes' : (i.bytes : Int) * nl ≤ 281474976710656 := Int.le_trans (Int.mul_le_mul_of_nonneg_left b1 (Int.natCast_nonneg _)) hbytes
     refine eff_new cx.hr (xs := (List.replicate nc.toNat x.cells.toList).flatten) (VRL.flatten hcs _) hp (x := .slice (some ⟨w.heap.size,0,none⟩) nl.toNat nc.toNat) ⟨_,_,_,_,upd_self _ _ _,rfl,.inl rfl⟩ (.inl ?_)
     rw [show execOp a.eval o = (do pure (Next.value (← Instr.makeSlice t (a.eval l) (a.eval c)))) by simp [execOp,ho],hl,hcv]
     have t1 : ¬ (nc < 0) := by omega
     have t2 : ¬ ((i.bytes : Int) * nc > 281474976710656) := by omega
     have t3 : ¬ (nl < 0) := by omega
     have t4 : ¬ (nl > nc) := by omega
     have hcond : (decide (nc < 0) || decide ((i.bytes : Int) * nc > 2 ^ 48) || decide (nl < 0) || decide (nl > nc)) = false := by simp [t1,t3,t4]; omega
     simp only [Instr.makeSlice,Sem.run_bind,run_underlying h1,Result.andThen_ok,asInt,asIntOf,Sem.run_pure,run_typeInfo hi,hwl,hwc]
     simp only [hcond,Bool.false_eq_true,if_false,Sem.run_bind,run_askRoom,Result.andThen_ok,hsz,Sem.run_ite]
     have harr : ∀ zs : Array Value,(nc.toNat * i.size = 0 → zs = #[]) → (nc.toNat * i.size ≠ 0 → zs = x.cells) →
       Array.map (fun j => zs[j % zs.size]!) (Array.range (nc.toNat * i.size)) = (List.replicate nc.toNat x.cells.toList).flatten.toArray := fun zs z1 z2 => by
      by_cases h0 : nc.toNat * i.size = 0
      ·rw [h0]
       have : (List.replicate nc.toNat x.cells.toList).flatten = [] := by
        rcases Nat.mul_eq_zero.1 h0 with h' | h'
        ·simp [h']
        ·have : x.cells.toList = [] := by rw [← List.length_eq_zero_iff,Array.length_toList]; omega
         simp [this]
       rw [this]; simp
      ·rw [z2 h0,← hxs]
       apply Array.ext'
       rw [range_mod]
     by_cases h0 : nc.toNat * i.size = 0
     ·simp only [h0,if_true,Sem.run_pure,Result.andThen_ok,newRow,Sem.run_bind,run_newObj]
      rw [← h0,harr #[] (fun _ => rfl) (fun hn => absurd h0 hn)]
     ·simp only [h0,if_false,hrun,Sem.run_pure,Result.andThen_ok,newRow,Sem.run_bind,run_newObj]
      rw [harr x.cells (fun hz => absurd hz h0) (fun _ => rfl)]
    ·cases hr
   ·cases hr
  ·cases hc
 ·cases hc
end Go.AM
namespace Go.AM
variable {P : Program} {m : Mp} {h : H} {w : World} {T : List V} {a : Act} {o : Oper} {k : K}
theorem run_lenV {v : V} {x : Value} {n : Nat} (hv : VR m v x) (hn : lenV v = some n) : (Builtin.lenOf x).run P w = .ok n w := by
 cases v <;> simp only [lenV] at hn <;> try cases hn
 ·cases hv; simp [Builtin.lenOf,ByteArray.size]
 ·rename_i p c q
  cases p with
  | none => cases hv; rfl
  | some p => obtain ⟨_,_,_,_,_,rfl,_⟩ := hv; rfl
theorem run_elemsV (hr : HR P m h w) {v : V} {x : Value} {size n n0 : Nat} {cs : List V} (hv : VR m v x) (hl : lenV v = some n0) (hn : n ≤ n0) (hc : elemsV h size n v = some cs) :
  ∃ xs : List Value,(Builtin.firstCells size n x).run P w = .ok xs.toArray w ∧ VRL m cs xs := by
 cases v <;> simp only [lenV] at hl <;> try cases hl
 ·rename_i s
  cases hv
  simp only [elemsV] at hc
  split at hc <;> cases hc
  refine ⟨(s.take n).map fun b => .int .u8 b.toNat,?_,?_⟩
  ·simp only [Builtin.firstCells,Sem.run_pure]
   congr 1
   apply Array.ext'
   simp [ByteArray.extract,ByteArray.copySlice,List.extract_eq_take_drop]
  ·refine VRL.of_get (by simp) fun i u hu => ?_
   simp only [List.getElem?_map,Option.map_eq_some_iff] at hu ⊢
   obtain ⟨b,hb,rfl⟩ := hu
   exact ⟨_,⟨b,hb,rfl⟩,rfl⟩
 ·rename_i p c q
  cases p with
  | none =>
   cases hv
   simp only [elemsV] at hc
   split at hc <;> cases hc
   exact ⟨[],rfl,rfl⟩
  | some p =>
   obtain ⟨i,of⟩ := p
   obtain ⟨R,sh,ex,ad,hm,rfl,hz⟩ := hv
   simp only [elemsV] at hc
   split at hc
   ·rename_i h0
    cases hc
    exact ⟨[],by simp [Builtin.firstCells,h0,run_loadCells_zero],rfl⟩
   ·rename_i h0
    split at hc
    ·rename_i vs ty op ro fz hg
     split at hc <;> cases hc
     rename_i hle
     have had : ad = ⟨R,sh + of,none⟩ := by
      rcases hz with hz | ⟨hz,_⟩
      ·exact hz
      ·exfalso; apply h0; have : n = 0 := by omega
       simp [this]
     subst had
     obtain ⟨xs,e1,e2⟩ := hr.loadN hg hm hle
     exact ⟨xs,by simpa [Builtin.firstCells] using e1,e2⟩
    ·cases hc
theorem length_elemsV {v : V} {size n n0 : Nat} {cs : List V} (hl : lenV v = some n0) (hn : n ≤ n0) (hc : elemsV h size n v = some cs) : cs.length = n * size := by
 cases v <;> simp only [lenV] at hl <;> try cases hl
 ·simp only [elemsV] at hc
  split at hc <;> cases hc
  rename_i hs
  subst hs
  simp; omega
 ·rename_i p c q
  cases p with
  | none =>
   simp only [elemsV] at hc
   split at hc <;> cases hc
   rename_i h0; simp [h0]
  | some p =>
   obtain ⟨i,of⟩ := p
   simp only [elemsV] at hc
   split at hc
   ·rename_i h0; cases hc; simp [h0]
   ·split at hc
    ·split at hc <;> cases hc
     rename_i hle
     simp [getR]; omega
    ·cases hc
theorem growBy_le (need : Nat) : ∀ (k c : Nat),c < need → Builtin.growBy need k c ≤ need + (need + 768) / 4 + 1
 | 0,c,hc => by simp only [Builtin.growBy]; omega
 | k + 1,c,hc => by
  simp only [Builtin.growBy]
  rw [if_neg (by omega)]
  by_cases h2 : c + (c + 768) / 4 < need
  ·exact growBy_le need k _ h2
  ·cases k with
   | zero => simp only [Builtin.growBy]; omega
   | succ k => simp only [Builtin.growBy]; rw [if_pos (by omega)]; omega
theorem nextslicecap_le {need cap : Nat} (hc : cap < need) : Builtin.nextslicecap need cap ≤ 2 * need + 1024 := by
 unfold Builtin.nextslicecap
 split
 ·omega
 ·split
  ·omega
  ·have := growBy_le need 4 cap hc; omega
def drawnCap (w : World) (need cap : Nat) (e : TypeId) : Nat := (Question.appendCap need cap e).cut (w.tape w.drawn (.appendCap need cap e))
theorem drawnCap_ge (w : World) (need cap : Nat) (e : TypeId) : need ≤ drawnCap w need cap e := by simp [drawnCap,Question.cut]
section run
variable {t u e : TypeId} {i : TypeInfo} {z : Value} {d : TypeDesc}
theorem run_append_fits (ty : TypeId) {base : Option Addr} {sLen sCap n : Nat} {x : Value} {new : List Value} {w' : World} (h1 : P.underlying t = some (.slice e)) (h2 : P.underlying u = some d) (hd : ∀ k,d ≠ .int k)
  (h3 : P.info? e = some i) (hn : (Builtin.lenOf x).run P w = .ok n w) (hx : (Builtin.firstCells i.size n x).run P w = .ok new.toArray w) (hfit : sLen + n ≤ sCap)
  (hs : match base with | none => w' = w | some a => (storeCells (a.add (sLen * i.size)) new).run P w = .ok () w') :
  (Builtin.append_ #[t,u] ty #[.slice base sLen sCap,x]).run P w = .ok (.slice base (sLen + n) sCap) w' := by
 have hsz : (sizeOf e).run P w = .ok i.size w := by simp [sizeOf,run_typeInfo h3]
 have q0 : (#[t,u] : Array TypeId)[0]? = some t := rfl
 have q1 : (#[t,u] : Array TypeId)[1]? = some u := rfl
 have q2 : (#[Value.slice base sLen sCap,x] : Array Value)[0]? = some (.slice base sLen sCap) := rfl
 have q3 : (#[Value.slice base sLen sCap,x] : Array Value)[1]? = some x := rfl
 simp only [Builtin.append_,q0,q1,q2,q3,Sem.run_bind,run_underlying h1,Result.andThen_ok,hsz,run_underlying h2]
 simp only [Sem.run_pure,Result.andThen_ok,Bool.false_eq_true,if_false,hn,Bool.not_false,if_true,Sem.run_ite,hfit,Sem.run_bind,hx]
 cases base with
 | none => subst hs; rfl
 | some a => simp only at hs; simp [hs]
theorem run_append_grows (ty : TypeId) {base : Option Addr} {sLen sCap n : Nat} {x : Value} {old new : List Value} (h1 : P.underlying t = some (.slice e)) (h2 : P.underlying u = some d) (hd : ∀ k,d ≠ .int k)
  (h3 : P.info? e = some i) (h4 : ∀ w,(zeroValue e).run P w = .ok z w) (hn : (Builtin.lenOf x).run P w = .ok n w)
  (hx : (Builtin.firstCells i.size n x).run P w.drew = .ok new.toArray w.drew)
  (ho : (Builtin.firstCells i.size sLen (.slice base sLen sCap)).run P w.drew = .ok old.toArray w.drew) (hfit : ¬ sLen + n ≤ sCap)
  (hb1 : sLen + n ≤ 1099511627776) (hb2 : (2 * (sLen + n) + 1024) * i.bytes ≤ 281474976710656) (hc : sCap < sLen + n) :
  (Builtin.append_ #[t,u] ty #[.slice base sLen sCap,x]).run P w =
   .ok (.slice (some ⟨w.heap.size,0,none⟩) (sLen + n) (drawnCap w (sLen + n) sCap e))
    { w.drew with heap := w.heap.push (.cells (old.toArray ++ new.toArray ++ Builtin.zeroCells z.cells (drawnCap w (sLen + n) sCap e - (sLen + n))) e) } := by
 have hsz : ∀ w,(sizeOf e).run P w = .ok i.size w := fun w => by simp [sizeOf,run_typeInfo h3]
 have q0 : (#[t,u] : Array TypeId)[0]? = some t := rfl
 have q1 : (#[t,u] : Array TypeId)[1]? = some u := rfl
 have q2 : (#[Value.slice base sLen sCap,x] : Array Value)[0]? = some (.slice base sLen sCap) := rfl
 have q3 : (#[Value.slice base sLen sCap,x] : Array Value)[1]? = some x := rfl
 have c1 : ¬ (((sLen + n : Nat) : Int) > IntKind.i64.max) := by simp [IntKind.max,IntKind.signed,IntKind.bits]; omega
 have c2 : ¬ (Builtin.nextslicecap (sLen + n) sCap * i.bytes > 2 ^ 48) := by
  have := Nat.mul_le_mul_right i.bytes (nextslicecap_le hc)
  omega
 simp only [Builtin.append_,q0,q1,q2,q3,Sem.run_bind,run_underlying h1,Result.andThen_ok,hsz,run_underlying h2]
 simp only [Sem.run_pure,Result.andThen_ok,Bool.false_eq_true,if_false,hn,Bool.not_false,if_true,Sem.run_ite,hfit,Sem.run_bind,run_typeInfo h3,c1,false_and,c2,Sem.run_pure,
  run_choose,Question.forced,run_askRoom]
 simp [ho,hx,h4,newRow,drawnCap]
 refine congrArg (fun hp => ({ heap := hp,tape := w.tape,drawn := w.drawn + 1,os := w.os,output := w.output } : World)) ?_
 simp [← Array.append_assoc]
 rfl
end run
theorem length_zeroCells (z : Array Value) (n : Nat) : (Builtin.zeroCells z n).size = n * z.size := by simp [Builtin.zeroCells]
theorem VRL.all_one {ws : List V} {ys : List Value} (hw : VRL m ws ys) (h1 : ws.all V.one = true) : ∀ y ∈ ys,y.oneCell' = true := by
 intro y hy
 obtain ⟨j,hj,rfl⟩ := List.getElem_of_mem hy
 have hjw : j < ws.length := by rw [← hw.length]; exact hj
 obtain ⟨z,hz,hzr⟩ := hw.get (i := j) (v := ws[j]) (by simp [hjw])
 have : ys[j] = z := by simpa [hj] using hz
 rw [this]
 exact VR.one hzr (List.all_eq_true.1 h1 _ (List.getElem_mem hjw))
set_option maxHeartbeats 1000000 in
theorem appV_sound {t u e ty : TypeId} {i : TypeInfo} {zv : V} {d : TypeDesc} {s x : V} {S X : Value} {h' : H} {v : V} (hr : HR P m h w) (h1 : P.underlying t = some (.slice e)) (h2 : P.underlying u = some d) (hd : ∀ k,d ≠ .int k)
  (h3 : P.info? e = some i) (h4 : zeroT P e = some zv) (h5 : zv.cells.length = i.size) (hs : VR m s S) (hx : VR m x X) (ha : appV h e i.size i.bytes s x = some (.eff v h')) :
  ∃ m' w' y,HR P m' h' w' ∧ Ext m h w m' h' w' ∧ VR m' v y ∧ (Builtin.append_ #[t,u] ty #[S,X]).run P w = .ok y w' := by
 obtain ⟨z,hz,hrz⟩ := zeroT_spec (m := m) h4
 have hzs : z.cells.size = i.size := by rw [← Array.length_toList,(VR.cells hz).length]; exact h5
 have hcell : P.cellsOf e = i.size := by simp [Program.cellsOf,h3]
 unfold appV at ha
 split at ha
 ·rename_i base len cap opn n hn
  split at ha
  ·cases ha
  ·rename_i new hnew
   have rl := run_lenV (P := P) (w := w) hx hn
   obtain ⟨ys,re,hys⟩ := run_elemsV hr hx hn (Nat.le_refl _) hnew
   have hrd := hr.drew (Drew.one w)
   obtain ⟨ys2,re2,hys2⟩ := run_elemsV hrd hx hn (Nat.le_refl _) hnew
   simp only at ha
   split at ha
   ·-- there is room
    rename_i hfit
    split at ha
    ·-- nil
     cases ha
     cases hs
     exact ⟨m,w,_,hr,Ext.refl _ _ _,rfl,run_append_fits ty h1 h2 hd h3 rl re hfit rfl⟩
    ·rename_i b q
     split at ha <;> cases ha
     rename_i hp
     obtain ⟨R,sh,ex,ad,hm,rfl,hz⟩ := hs
     by_cases had : ad = ⟨R,sh + q,none⟩
     ·subst had
      obtain ⟨w',e1,e2,e3⟩ := putCells_sound hr hm hys hp
      refine ⟨m,w',_,e2,e3,⟨R,sh,ex,_,hm,rfl,.inl rfl⟩,run_append_fits ty h1 h2 hd h3 rl re (by omega) ?_⟩
      simp only [add_at]
      rw [Nat.add_assoc] at *
      exact e1
     ·-- an empty slice without room
      obtain ⟨hl0,hc0,hb0⟩ := hz.resolve_left had
      have hn0 : n = 0 := by omega
      subst hn0; subst hl0
      have hnew0 : new = [] := List.length_eq_zero_iff.1 (by rw [length_elemsV hn (Nat.le_refl _) hnew]; simp)
      subst hnew0
      cases hys
      have hh : h' = h := by
       simpa [putCells] using hp.symm
      subst hh
      refine ⟨m,w,_,hr,Ext.refl _ _ _,⟨R,sh,ex,ad,hm,rfl,.inr ⟨by omega,hc0,hb0⟩⟩,run_append_fits ty h1 h2 hd h3 rl re (by omega) ?_⟩
      simp [storeCells]
   ·rename_i hfit
    split at ha
    ·rename_i hbig
     -- a new real block,whatever the abstract heap then is
     have grow : ∀ (h1' : H) (m1 : Mp) (base' : Option Addr) (cap' : Nat) (old : List V) (os : List Value) (fz : Option Nat),HR P m h1' w → Ext m h w m h1' w → S = .slice base' len cap' → cap' < len + n → VRL m old os →
       (Builtin.firstCells i.size len (.slice base' len cap')).run P w.drew = .ok os.toArray w.drew → h1'.size = h.size → h1'.push (.cells (old ++ new) e true false fz) = some h' → v = .slice (some (h.size,0)) (len + n) (len + n) true →
       ∃ m' w' y,HR P m' h' w' ∧ Ext m h w m' h' w' ∧ VR m' v y ∧ (Builtin.append_ #[t,u] ty #[S,X]).run P w = .ok y w' := by
      intro h1' m1 base' cap' old os fz hr1 hx1 hS hc hold hos hsz hp hv
      subst hS; subst hv
      have hge := drawnCap_ge w (len + n) cap' e
      obtain ⟨g1,g2⟩ := hr1.push (e := drawnCap w (len + n) cap' e - (len + n)) hp
       (New.of_drew (Drew.one w) (New.alloc w.drew (.cells ((os ++ ys2) ++ (Builtin.zeroCells z.cells (drawnCap w (len + n) cap' e - (len + n))).toList).toArray e)))
       (OR.opened (hold.append hys2) (by rw [Array.length_toList,length_zeroCells,hzs,hcell]; exact Nat.le_refl _) (by cases fz <;> simp [FzOK]))
      refine ⟨_,_,.slice (some ⟨w.heap.size,0,none⟩) (len + n) (drawnCap w (len + n) cap' e),g1,hx1.trans g2,?_,?_⟩
      ·refine ⟨w.heap.size,0,drawnCap w (len + n) cap' e - (len + n),⟨w.heap.size,0,none⟩,by rw [hsz]; exact upd_self _ _ _,?_,.inl rfl⟩
       congr 1
       simp; omega
      ·rw [run_append_grows ty h1 h2 hd h3 hrz rl re2 hos (by omega) hbig.1 hbig.2 hc]
       congr 1
       refine congrArg (fun hp => ({ heap := w.heap.push (.cells hp e),tape := w.tape,drawn := w.drawn + 1,os := w.os,output := w.output } : World)) ?_
       apply Array.ext'
       simp
     split at ha
     ·-- the slice may have room that is not known
      rename_i b q
      split at ha
      ·rename_i vs ty' fz hg
       split at ha
       ·rename_i hcond
        obtain ⟨hty,hlc,hend,hone,hfr⟩ := hcond
        subst hty
        split at ha <;> cases ha
        rename_i hp
        obtain ⟨R,sh,ex,ad,hm,rfl,hz⟩ := hs
        obtain ⟨c,fzr,g1,g2,g3,g4,g5⟩ := hr.cells hg hm
        have g5 := g5 rfl
        simp only [if_true] at g4 hz
        rw [hcell] at g4
        have hlcs : len * i.size ≤ cap * i.size := Nat.mul_le_mul_right _ hlc
        have hold : VRL m (getR vs q (len * i.size)) (((c.toList.drop sh).take vs.length).drop q |>.take (len * i.size)) := g2.range q _
        by_cases hroom : len + n ≤ cap + ex
        ·-- in place
         have had : ad = ⟨R,sh + q,none⟩ := by
          rcases hz with hz | ⟨_,hz,_⟩
          ·exact hz
          ·omega
         subst had
         have hmul : (len + n) * i.size ≤ (cap + ex) * i.size := Nat.mul_le_mul_right _ hroom
         have hlen : new.length = n * i.size := length_elemsV hn (Nat.le_refl _) hnew
         have hyl : ys.length = n * i.size := by rw [hys.length]; exact hlen
         have hdist : (len + n) * i.size = len * i.size + n * i.size := Nat.add_mul _ _ _
         have hdist2 : (cap + ex) * i.size = cap * i.size + ex * i.size := Nat.add_mul _ _ _
         have hfree : ∀ j,sh + q + len * i.size ≤ j → j < sh + q + len * i.size + ys.length → ¬ (fzr.1 ≤ j ∧ j < fzr.2) := by
          intro j hj1 hj2 ⟨hj3,hj4⟩
          cases fz with
          | none => simp only [FzOK] at g5; subst g5; simp at hj4
          | some f =>
           simp only [fzFree,decide_eq_true_eq] at hfr
           simp only [FzOK] at g5
           have g6 := g5.2 j hj3 hj4
           split at g6 <;> omega
         obtain ⟨w',c',e1,e2,e3⟩ := run_storeCells (P := P) (r := R) (o := sh + q + len * i.size) ys 0 c w g1 (hys.all_one hone) (by omega) (by simpa using hfree)
         simp only [Nat.add_zero] at e3
         have hcsz : c'.size = c.size := by
          have : c'.toList.length = c.toList.length := by rw [e3]; simp; omega
          simpa using this
         have hcont : VRL m (getR vs q (len * i.size) ++ new) ((c'.toList.drop (sh + q)).take (len * i.size + n * i.size)) := by
          have : (c'.toList.drop (sh + q)).take (len * i.size + n * i.size) = (((c.toList.drop sh).take vs.length).drop q).take (len * i.size) ++ ys := by
           refine List.ext_getElem? fun j => ?_
           rw [List.getElem?_take,e3,List.getElem?_drop]
           rw [getElem?_splice c.toList ys (sh + q + len * i.size) (sh + q + j) (by simp; omega)]
           have hl1 : ((((c.toList.drop sh).take vs.length).drop q).take (len * i.size)).length = len * i.size := by simp; omega
           by_cases a1 : j < len * i.size
           ·rw [if_pos (by omega),if_pos (by omega),List.getElem?_append_left (by omega),List.getElem?_take,if_pos a1,List.getElem?_drop,List.getElem?_take,if_pos (by omega),List.getElem?_drop]
            congr 1; omega
           ·rw [List.getElem?_append_right (by omega),hl1]
            by_cases a2 : j < len * i.size + n * i.size
            ·rw [if_pos a2,if_neg (by omega),if_pos (by omega)]; congr 1; omega
            ·rw [if_neg a2,List.getElem?_eq_none (by omega)]
          rw [this]
          exact hold.append hys
         have hol : (getR vs q (len * i.size)).length = len * i.size := by simp [getR]; omega
         obtain ⟨k1,k2⟩ := hr.move (sh2 := sh + q) (e2 := cap + ex - (len + n)) hg rfl hm e2 hp (by
          refine ⟨c',fzr,rfl,?_,?_,?_⟩
          ·rw [List.length_append,hol,hlen]; exact hcont
          ·simp only [if_true]
           rw [List.length_append,hol,hlen,hcell,hcsz,Nat.sub_mul]
           omega
          ·intro _
           rw [hcsz]
           cases fz with
           | none => exact g5
           | some f =>
            refine ⟨g5.1,fun j hj1 hj2 => ?_⟩
            have g6 := g5.2 j hj1 hj2
            by_cases hf0 : f = 0
            ·simp only [hf0,if_true] at g6 ⊢; exact g6
            ·simp only [hf0,if_false] at g6 ⊢
             rw [if_neg (by omega)]
             omega)
         refine ⟨_,w',_,k1,k2,⟨R,sh + q,cap + ex - (len + n),⟨R,sh + q,none⟩,upd_self _ _ _,?_,.inl rfl⟩,run_append_fits ty h1 h2 hd h3 rl re (by simp only [if_true]; exact hroom) ?_⟩
         ·congr 1
          simp only [if_true]; omega
         ·simp only [add_at]; exact e1
        ·-- it grows
         obtain ⟨q1,q2⟩ := hr.kill hg
         have hfirst : (Builtin.firstCells i.size len (.slice (some ad) len (cap + ex))).run P w.drew = .ok ((((c.toList.drop sh).take vs.length).drop q).take (len * i.size)).toArray w.drew := by
          by_cases h0 : len * i.size = 0
          ·simp [Builtin.firstCells,h0,run_loadCells_zero]
          ·have had : ad = ⟨R,sh + q,none⟩ := by
            rcases hz with hz | ⟨hz,_⟩
            ·exact hz
            ·simp [hz] at h0
           subst had
           simp only [Builtin.firstCells]
           rw [run_loadCells (w := w.drew) g1 (by omega)]
           congr 2
           refine List.ext_getElem? fun j => ?_
           rw [List.getElem?_take,List.getElem?_take,List.getElem?_drop,List.getElem?_drop,List.getElem?_take,List.getElem?_drop]
           by_cases a1 : j < len * i.size
           ·rw [if_pos a1,if_pos a1,if_pos (by omega)]; congr 1; omega
           ·rw [if_neg a1,if_neg a1]
         exact grow (h.set b .dead) m (some ad) (cap + ex) _ _ _ q1 q2 rfl (by omega) hold hfirst rfl hp rfl
       ·cases ha
      ·cases ha
     ·rename_i hcase
      split at ha
      ·cases ha
      ·rename_i old hold
       split at ha <;> cases ha
       rename_i hp
       obtain ⟨os,ro,hos⟩ := run_elemsV hrd hs rfl (Nat.le_refl _) hold
       cases base with
       | none =>
        cases hs
        exact grow h m none cap old os none hr (Ext.refl _ _ _) rfl (by omega) hos ro rfl hp rfl
       | some b =>
        cases opn with
        | true => exact absurd rfl (hcase _ _ rfl ·)
        | false =>
         obtain ⟨bi,bo⟩ := b
         obtain ⟨R,sh,ex,ad,hm,rfl,hz⟩ := hs
         simp only [Bool.false_eq_true,if_false,Nat.add_zero] at ro hz ⊢
         exact grow h m (some ad) cap old os none hr (Ext.refl _ _ _) rfl (by omega) hos ro rfl hp rfl
    ·cases ha
 ·cases ha
end Go.AM
