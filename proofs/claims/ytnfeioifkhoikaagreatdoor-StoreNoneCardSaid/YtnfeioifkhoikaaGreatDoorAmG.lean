/- My own text of the evaluator and its soundness (abstract machine), laid for this claim. -/
import Derived.Test.YtnfeioifkhoikaaGreatDoorAmF
import Derived.Laws.StructEq
import Derived.ChangeKeysEq
/-! Soundness, III: operations that look at no memory. -/
namespace Go.AM

/-- An operation that has given a value, or been carried out. -/
def Yld (r : Result Next) (x : Value) (w' : World) : Prop := r = .ok (.value x) w' ∨ (r = .ok .skip w' ∧ x = undef)

def CallR (P : Program) (m : Mp) (w : World) (r : Result Next) (f : V) (args : List V) : Prop :=
  match f with
  | .func g fs cs => ∃ xs : List Value, VRL m (fs ++ args ++ cs) xs ∧ r = (callFunc g xs.toArray).run P w
  | .yield l => ∃ R sh e, ∃ xs : List Value, m l = some (R, sh, e) ∧ VRL m args xs ∧ r = (Instr.yield R xs.toArray).run P w
  | _ => True

def ResOK (P : Program) (m : Mp) (h : H) (w : World) (r : Result Next) : Res → Prop
  | .pur v => ∃ x, VR m v x ∧ Yld r x w
  | .rd v => ∃ x, VR m v x ∧ Yld r x w
  | .eff v h' => ∃ m' w' x, HR P m' h' w' ∧ Ext m h w m' h' w' ∧ VR m' v x ∧ Yld r x w'
  | .call f args => CallR P m w r f args

/-- The activation against the abstract one. -/
structure Cx (P : Program) (m : Mp) (h : H) (w : World) (T : List V) (a : Act) : Prop where
  tr : TR m T a.tmps
  hr : HR P m h w

def Snd (P : Program) (m : Mp) (h : H) (w : World) (T : List V) (a : Act) (o : Oper) (k : K) : Prop :=
  ∀ r, evK P T h k = some r → ResOK P m h w ((execOp a.eval o).run P w) r

variable {P : Program} {m : Mp} {h : H} {w : World} {T : List V} {a : Act} {o : Oper} {k : K}

theorem Cx.av (cx : Cx P m h w T a) {x : Operand} {y : A} {v : V} (hc : cA P x = some y) (hv : y.ev T = some v) : VR m v (a.eval x) := evA cx.tr cx.hr.glob hc hv
theorem Cx.avs (cx : Cx P m h w T a) {xs : List Operand} {ys : List A} {vs : List V} (hc : cAs P xs = some ys) (hv : evs T ys = some vs) : VRL m vs (xs.map a.eval) := evAs cx.tr cx.hr.glob hc hv

theorem pur_val {s : Sem Value} {v : V} {x : Value} (h1 : s.run P w = .ok x w) (hv : VR m v x) (he : execOp a.eval o = (do pure (Next.value (← s)))) :
    ResOK P m h w ((execOp a.eval o).run P w) (.pur v) := ⟨x, hv, .inl (by rw [he]; simp [h1])⟩
theorem rd_val {s : Sem Value} {v : V} {x : Value} (h1 : s.run P w = .ok x w) (hv : VR m v x) (he : execOp a.eval o = (do pure (Next.value (← s)))) :
    ResOK P m h w ((execOp a.eval o).run P w) (.rd v) := ⟨x, hv, .inl (by rw [he]; simp [h1])⟩

theorem snd_move (cx : Cx P m h w T a) {x : Operand} (ho : o.op = .move x ∨ o.op = .assign x) (hc : (cA P x).map K.mv = some k) : Snd P m h w T a o k := by
  intro r hr
  cases h1 : cA P x with
  | none => simp [h1] at hc
  | some y =>
    simp [h1] at hc; subst hc
    simp only [evK] at hr
    cases h2 : y.ev T with
    | none => simp [h2] at hr
    | some v =>
      simp [h2] at hr; subst hr
      refine ⟨a.eval x, cx.av h1 h2, .inl ?_⟩
      rcases ho with ho | ho <;> simp [execOp, ho]

theorem snd_pick (cx : Cx P m h w T a) {c x y : Operand} (ho : o.op = .pick c x y) (hc : cK P (.pick c x y) = some k) : Snd P m h w T a o k := by
  intro r hr
  simp only [cK] at hc
  split at hc <;> cases hc
  rename_i c' x' y' h1 h2 h3
  simp only [evK] at hr
  split at hr <;> cases hr
  rename_i b v u e1 e2 e3
  have hb : a.eval c = .bool b := cx.av h1 e1
  refine ⟨if b then a.eval x else a.eval y, ?_, .inl ?_⟩
  · cases b
    · exact cx.av h3 e3
    · exact cx.av h2 e2
  · simp [execOp, ho, hb, asBool]

theorem snd_nilck (cx : Cx P m h w T a) {x : Operand} (ho : o.op = .nilCheck x) (hc : cK P (.nilCheck x) = some k) : Snd P m h w T a o k := by
  intro r hr
  simp only [cK] at hc
  cases h1 : cA P x with
  | none => simp [h1] at hc
  | some y =>
    simp [h1] at hc; subst hc
    simp only [evK] at hr
    split at hr <;> cases hr
    rename_i v n1 n2 n3 n4 e
    have hv := cx.av h1 e
    refine ⟨a.eval x, hv, .inl ?_⟩
    have : (execOp a.eval o) = pure (.value (a.eval x)) := by
      simp only [execOp, ho]
      cases v with
      | ptr p => cases p with
        | none => exact absurd rfl (n1 · )
        | some p => obtain ⟨r, sh, e, _, hx⟩ := hv; rw [hx]
      | nilFunc => exact absurd rfl (n3 ·)
      | nilIface => exact absurd rfl (n2 ·)
      | bool b => rw [show a.eval x = _ from hv]
      | int k n => rw [show a.eval x = _ from hv]
      | str s => rw [show a.eval x = _ from hv]
      | slice p l c q => cases p with
        | none => rw [show a.eval x = _ from hv]
        | some p => obtain ⟨r, sh, e, ad, _, hx, _⟩ := hv; rw [hx]
      | map p => cases p with
        | none => rw [show a.eval x = _ from hv]
        | some p => obtain ⟨r, sh, e, _, hx⟩ := hv; rw [hx]
      | func f fs cs => obtain ⟨xs, ys, _, _, hx⟩ := hv; rw [hx]
      | yield l => obtain ⟨r, sh, e, _, hx⟩ := hv; rw [hx]
      | iface t u => obtain ⟨y, _, hx⟩ := hv; rw [hx]
      | agg cs => obtain ⟨ys, _, hx⟩ := hv; rw [hx]
      | tup cs => obtain ⟨ys, _, hx⟩ := hv; rw [hx]
      | junk => exact absurd rfl (n4 ·)
    rw [this]; rfl

theorem snd_un (cx : Cx P m h w T a) {op : UnOp} {t : TypeId} {x : Operand} (ho : o.op = .unOp op t x) (hc : cK P (.unOp op t x) = some k) : Snd P m h w T a o k := by
  intro r hr
  simp only [cK] at hc
  cases h1 : cA P x with
  | none => simp [h1] at hc
  | some y =>
    simp [h1] at hc; subst hc
    simp only [evK] at hr
    split at hr
    · rename_i v e
      have hv := cx.av h1 e
      cases hu : unV op v with
      | none => simp [hu] at hr
      | some u =>
        simp [hu] at hr; subst hr
        unfold unV at hu
        split at hu <;> cases hu
        · refine pur_val (s := Op.unary .neg (a.eval x)) ?_ rfl (by simp [execOp, ho])
          rw [show a.eval x = _ from hv]; simp [Op.unary, Op.intArith]
        · rename_i kd n
          refine pur_val (s := Op.unary .xor (a.eval x)) ?_ rfl (by simp [execOp, ho])
          rw [show a.eval x = _ from hv]; simp [Op.unary, Op.intBits]
        · refine pur_val (s := Op.unary .not (a.eval x)) ?_ rfl (by simp [execOp, ho])
          rw [show a.eval x = _ from hv]; simp [Op.unary]
    · cases hr

theorem snd_mkF (cx : Cx P m h w T a) {f : FuncId} {fs cs : Array Operand} (ho : o.op = .makeFunc (.func f) fs cs) (hc : cK P (.makeFunc (.func f) fs cs) = some k) : Snd P m h w T a o k := by
  intro r hr
  simp only [cK] at hc
  split at hc <;> cases hc
  rename_i fs' cs' h1 h2
  simp only [evK] at hr
  split at hr <;> cases hr
  rename_i vs us e1 e2
  refine pur_val (s := Instr.makeFunc (.func f) (fs.map a.eval) (cs.map a.eval)) (x := .func (.func f) (fs.map a.eval) (cs.map a.eval)) (by simp [Instr.makeFunc]) ?_ (by simp [execOp, ho])
  exact ⟨_, _, cx.avs h1 e1, cx.avs h2 e2, by rw [← Array.toList_map, ← Array.toList_map]⟩

theorem snd_mkI (cx : Cx P m h w T a) {t : TypeId} {x : Operand} (ho : o.op = .makeInterface t x) (hc : cK P (.makeInterface t x) = some k) : Snd P m h w T a o k := by
  intro r hr
  simp only [cK] at hc
  split at hc
  · cases hc
  · rename_i d y n h1 h2
    cases hc
    simp only [evK] at hr
    cases e : y.ev T with
    | none => simp [e] at hr
    | some v =>
      simp [e] at hr; subst hr
      refine pur_val (s := Instr.makeInterface t (a.eval x)) (x := .iface t (a.eval x)) ?_ ⟨_, cx.av h2 e, rfl⟩ (by simp [execOp, ho])
      simp only [Instr.makeInterface, Sem.run_bind, run_underlying h1, Result.andThen_ok]
      cases d <;> first | rfl | exact (n _ rfl).elim
  · cases hc

theorem snd_extract (cx : Cx P m h w T a) {x : Operand} {i : Nat} (ho : o.op = .extract x i) (hc : cK P (.extract x i) = some k) : Snd P m h w T a o k := by
  intro r hr
  simp only [cK] at hc
  cases h1 : cA P x with
  | none => simp [h1] at hc
  | some y =>
    simp [h1] at hc; subst hc
    simp only [evK] at hr
    split at hr
    · rename_i vs e
      obtain ⟨ys, hys, hx⟩ := cx.av h1 e
      cases hv : vs[i]? with
      | none => simp [hv] at hr
      | some v =>
        simp [hv] at hr; subst hr
        obtain ⟨z, hz, hr⟩ := hys.get hv
        exact pur_val (s := Instr.extract (a.eval x) i) (x := z) (by rw [hx]; simp [Instr.extract, hz]) hr (by simp [execOp, ho])
    · cases hr

/-! ### parts -/
theorem run_part {t : TypeId} {s : Nat} (hs : sizeT P t = some s) {cs : List V} {xs : List Value} (hc : VRL m cs xs) {off : Nat} {v : V} (hv : partV cs off s (aggT P t) = some v) :
    ∃ x, (part t xs.toArray off).run P w = .ok x w ∧ VR m v x := by
  simp only [part, Sem.run_bind, run_isAgg' hs, Result.andThen_ok, partV] at hv ⊢
  cases ha : aggT P t with
  | true =>
    simp only [ha, if_true] at hv ⊢
    cases hv
    refine ⟨.agg (xs.toArray.extract off (off + s)), by simp [run_sizeOf hs], ?_⟩
    refine ⟨(xs.drop off).take s, hc.range off s, ?_⟩
    congr 1
    apply Array.ext'
    simp [List.extract_eq_take_drop]
  | false =>
    simp only [ha, Bool.false_eq_true, if_false] at hv ⊢
    obtain ⟨x, hx, hr⟩ := hc.get hv
    exact ⟨x, by simp [hx], hr⟩

theorem snd_fld (cx : Cx P m h w T a) {t : TypeId} {x : Operand} {f : Nat} (ho : o.op = .field t x f) (hc : cK P (.field t x f) = some k) : Snd P m h w T a o k := by
  intro r hr
  simp only [cK] at hc
  split at hc
  · rename_i fs y h1 h2
    split at hc
    · rename_i fd h3
      cases h4 : sizeT P fd.type with
      | none => simp [h4] at hc
      | some s =>
        simp [h4] at hc; subst hc
        simp only [evK] at hr
        split at hr
        · rename_i cs e
          obtain ⟨ys, hys, hx⟩ := cx.av h2 e
          cases hv : partV cs fd.offset s (aggT P fd.type) with
          | none => simp [hv] at hr
          | some v =>
            simp [hv] at hr; subst hr
            obtain ⟨z, hz, hzr⟩ := run_part (w := w) h4 hys hv
            exact pur_val (s := Instr.field t (a.eval x) f) (x := z) (by rw [hx]; simp [Instr.field, run_underlying h1, h3, asAgg, hz]) hzr (by simp [execOp, ho])
        · cases hr
    · cases hc
  · cases hc

theorem snd_index (cx : Cx P m h w T a) {t : TypeId} {x i : Operand} (ho : o.op = .index t x i) (hc : cK P (.index t x i) = some k) : Snd P m h w T a o k := by
  intro r hr
  simp only [cK] at hc
  split at hc
  · rename_i n e y j h1 h2 h3
    cases h4 : sizeT P e with
    | none => simp [h4] at hc
    | some s =>
      simp [h4] at hc; subst hc
      simp only [evK] at hr
      split at hr
      · rename_i cs kd q e1 e2
        obtain ⟨ys, hys, hx⟩ := cx.av h2 e1
        have hi : a.eval i = .int kd q := cx.av h3 e2
        split at hr
        · rename_i hq
          cases hv : partV cs (q.toNat * s) s (aggT P e) with
          | none => simp [hv] at hr
          | some v =>
            simp [hv] at hr; subst hr
            obtain ⟨z, hz, hzr⟩ := run_part (w := w) h4 hys hv
            exact pur_val (s := Instr.index t (a.eval x) (a.eval i)) (x := z) (by rw [hx, hi]; simp [Instr.index, asIntOf, run_underlying h1, hq, run_sizeOf h4, hz]) hzr (by simp [execOp, ho])
        · cases hr
      · cases hr
  · rename_i y j h1 h2 h3
    cases hc
    simp only [evK] at hr
    split at hr
    · rename_i s kd q e1 e2
      have hx : a.eval x = .string ⟨s.toArray⟩ := cx.av h2 e1
      have hi : a.eval i = .int kd q := cx.av h3 e2
      split at hr
      · rename_i hq
        cases hv : s[q.toNat]? with
        | none => simp [hv] at hr
        | some b =>
          simp [hv] at hr; subst hr
          refine pur_val (s := Instr.index t (a.eval x) (a.eval i)) (x := .int .u8 b.toNat) ?_ rfl (by simp [execOp, ho])
          have hlt : q.toNat < s.length := by
            rcases Nat.lt_or_ge q.toNat s.length with h' | h'
            · exact h'
            · simp [List.getElem?_eq_none h'] at hv
          have hb : (⟨s.toArray⟩ : ByteArray)[q.toNat]? = some b := by
            rw [ByteArray.getElem?_lt' _ _ (by simpa [ByteArray.size] using hlt)]
            have : s[q.toNat]? = some s[q.toNat] := by simp [hlt]
            rw [this] at hv; cases hv; rfl
          rw [hx, hi]; simp [Instr.index, asIntOf, run_underlying h1, hq, hb]
      · cases hr
    · cases hr
  · cases hc
end Go.AM
