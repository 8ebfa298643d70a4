/- My own texts of the evaluator, its soundness and its symbolic runs, laid for this claim. -/
import Derived.Test.YtelbgimbkfjabaaAmQ
import Derived.TacticsIn
set_option linter.unusedSimpArgs false
set_option linter.unusedVariables false
/-! Soundness, XIV: regions in the order of the text. -/
namespace Go.AM

def FF (ro : Option Nat) : Fence := { Fence.wide with round := ro }

def Post (P : Program) (m : Mp) (h : H) (w : World) (v : V) (h' : H) : Ending → World → Prop :=
  fun e w' => ∃ m' x, e = .returned x ∧ VR m' v x ∧ HR P m' h' w' ∧ Ext m h w m' h' w'

structure ApOK (P : Program) (ap : Ap) : Prop where
  fn : ∀ {g : Nat} {fs cs args : List V} {h : H} {v : V} {h' : H} {m : Mp} {w : World} {xs : List Value}, ap (.func g fs cs) args h = some (v, h') → HR P m h w → VRL m (fs ++ args ++ cs) xs →
    (∃ fn, P.funcs[g]? = some fn ∧ fn.body.isNone = false ∧ fn.name ≠ "runtime.NumGoroutine") ∧ ∀ n, CallsIn (FF none) n P g xs.toArray w (Post P m h w v h')
  rnd : ∀ {l : Nat} {args : List V} {h : H} {v : V} {h' : H} {m : Mp} {w : World} {xs : List Value} {R sh e : Nat}, ap (.yield l) args h = some (v, h') → HR P m h w → m l = some (R, sh, e) → VRL m args xs →
    ∃ L : Loop, w.heap[R]? = some (.loop L) ∧ xs.length = L.params.size ∧
      ∀ n, RoundIn (FF none) n P R L.fn ((L.params.zip xs.toArray).foldl (fun tmps (t, a) => tmps.setIfInBounds t a) L.tmps) L.assign L.body w (Post P m h w v h')
  oth : ∀ {f : V} {args : List V} {h : H} {r : V × H}, ap f args h = some r → (∃ g fs cs, f = .func g fs cs) ∨ ∃ l, f = .yield l

variable {P : Program} {m : Mp} {h : H} {w : World} {T : List V} {a : Act} {o : Oper} {k : K} {ap : Ap}

theorem callsIn_FF {ro : Option Nat} {n : Nat} {f : FuncId} {args : Array Value} {R : Ending → World → Prop} (hc : CallsIn (FF none) n P f args w R) : CallsIn (FF ro) n P f args w R := hc
theorem roundIn_FF {ro : Option Nat} {n : Nat} {l : Nat} {f : FuncId} {t : Array Value} {x y : Code} {R : Ending → World → Prop} (hc : RoundIn (FF none) n P l f t x y w R) : RoundIn (FF ro) n P l f t x y w R := hc

def evR (P : Program) (ap : Ap) (T : List V) (h : H) (k : K) : Option (V × H) :=
  match evK P T h k with
  | some (.pur v) => some (v, h)
  | some (.rd v) => some (v, h)
  | some (.eff v h') => some (v, h')
  | some (.call f args) => ap f args h
  | none => none

theorem run_callFunc_enter {g : Nat} {fn : Func} {args : Array Value} (hf : P.funcs[g]? = some fn) (hb : fn.body.isNone = false) (hn : fn.name ≠ "runtime.NumGoroutine") :
    (callFunc g args).run P w = .ok (.enter g args) w := by
  have h1 : fn.body ≠ none := by intro h; simp [h] at hb
  simp [callFunc, hf, hn, h1]

theorem cK_noDefer (hc : cK P o.op = some k) : ∀ c, o.op ≠ .defer c := by
  intro c e; rw [e] at hc; simp [cK] at hc

theorem op_step (ha : ApOK P ap) (cx : Cx P m h w T a) (hc : cK P o.op = some k) {v : V} {h' : H} (he : evR P ap T h k = some (v, h')) {ro : Option Nat} {n : Nat} {K : Act → World → Prop} {Q : Exit → Act → World → Prop}
    (hK : ∀ m' w' x, VR m' v x → HR P m' h' w' → Ext m h w m' h' w' → K (a.put o.dst x) w') : o.wpIn (FF ro) n P a w K Q := by
  have hs := opSound cx hc
  unfold Snd at hs
  have yld : ∀ r x w' m', Yld r x w' → VR m' v x → HR P m' h' w' → Ext m h w m' h' w' → o.uponIn (FF ro) n P a K Q r := by
    intro r x w' m' hy h1 h2 h3
    rcases hy with rfl | ⟨rfl, rfl⟩
    · exact hK m' w' x h1 h2 h3
    · exact hK m' w' undef h1 h2 h3
  refine ⟨fun _ _ => trivial, ?_⟩
  rw [Oper.semAt_eq _ _ _ (cK_noDefer hc)]
  unfold evR at he
  split at he
  · rename_i v' hk
    cases he
    obtain ⟨x, h1, h2⟩ := hs _ hk
    exact yld _ x w m h2 h1 cx.hr (Ext.refl _ _ _)
  · rename_i v' hk
    cases he
    obtain ⟨x, h1, h2⟩ := hs _ hk
    exact yld _ x w m h2 h1 cx.hr (Ext.refl _ _ _)
  · rename_i v' h'' hk
    cases he
    obtain ⟨m', w', x, h1, h2, h3, h4⟩ := hs _ hk
    exact yld _ x w' m' h4 h3 h1 h2
  · rename_i f args hk
    have hr := hs _ hk
    simp only [ResOK] at hr
    rcases ha.oth he with ⟨g, fs, cs, rfl⟩ | ⟨l, rfl⟩
    · obtain ⟨xs, h1, h2⟩ := hr
      obtain ⟨⟨fn, f1, f2, f3⟩, f4⟩ := ha.fn he cx.hr h1
      rw [h2, run_callFunc_enter f1 f2 f3, Oper.uponIn_enter]
      refine ⟨(fun h => nomatch h), ?_⟩
      refine CallsIn.mono (callsIn_FF (f4 (n - 1))) fun e w' hp => ?_
      obtain ⟨m', x, rfl, p2, p3, p4⟩ := hp
      exact hK m' w' x p2 p3 p4
    · obtain ⟨R, sh, e, xs, h1, h2, h3⟩ := hr
      obtain ⟨L, f1, f2, f4⟩ := ha.rnd he cx.hr h1 h2
      have hrun : (Instr.yield R xs.toArray).run P w = .ok (.round R L.fn ((L.params.zip xs.toArray).foldl (fun tmps (t, a) => tmps.setIfInBounds t a) L.tmps) L.assign L.body) w := by
        have : (Instr.getLoop R).run P w = .ok L w := by
          simp [Instr.getLoop, run_getObj (P := P) f1 (by intros; simp)]
        simp [Instr.yield, this, f2]
      rw [h3, hrun, Oper.uponIn_round]
      refine ⟨(fun h => nomatch h), ?_⟩
      refine RoundIn.mono (roundIn_FF (f4 (n - 1))) fun e w' hp => ?_
      obtain ⟨m', x, rfl, p2, p3, p4⟩ := hp
      exact hK m' w' x p2 p3 p4
  · cases he

theorem VR.bool_inv {v : V} {b : Bool} (hv : VR m v (.bool b)) : v = .bool b := by
  cases v with
  | bool c => cases hv; rfl
  | int k n => cases hv
  | str s => cases hv
  | ptr p => cases p with
    | none => cases hv
    | some p => obtain ⟨_, _, _, _, h⟩ := hv; cases h
  | slice p l c q => cases p with
    | none => cases hv
    | some p => obtain ⟨_, _, _, _, _, h, _⟩ := hv; cases h
  | map p => cases p with
    | none => cases hv
    | some p => obtain ⟨_, _, _, _, h⟩ := hv; cases h
  | func f fs cs => obtain ⟨_, _, _, _, h⟩ := hv; cases h
  | yield l => obtain ⟨_, _, _, _, h⟩ := hv; cases h
  | nilFunc => cases hv
  | iface t u => obtain ⟨_, _, h⟩ := hv; cases h
  | nilIface => cases hv
  | agg cs => obtain ⟨_, _, h⟩ := hv; cases h
  | tup cs => obtain ⟨_, _, h⟩ := hv; cases h
  | junk => exact absurd rfl (hv.2.1 b)

theorem VRL.get_none {vs : List V} {xs : List Value} (hv : VRL m vs xs) {i : Nat} (h : vs[i]? = none) : xs[i]? = none := by
  rw [List.getElem?_eq_none_iff] at h ⊢
  rw [hv.length]; exact h

theorem wanted_sound {T : List V} {tmps : Array Value} (ht : TR m T tmps) {ops : Array Oper} {o : Oper} {g : Option (Nat × Bool)} (hg : cGuard (ops.toList.map (·.dst)) o.guard = some g) :
    Region.wanted o (yielded ops tmps) = wantV T g := by
  unfold Region.wanted
  cases hgd : o.guard with
  | none => rw [hgd] at hg; cases hg; rfl
  | some jw =>
    obtain ⟨j, wt⟩ := jw
    rw [hgd] at hg
    simp only [cGuard] at hg
    split at hg <;> cases hg
    rename_i t hd
    have hd' : (ops[j]?).bind (·.dst) = some t := by
      rw [List.getElem?_map] at hd
      cases ho : ops[j]? with
      | none => rw [Array.getElem?_toList, ho] at hd; cases hd
      | some o' => rw [Array.getElem?_toList, ho] at hd; simpa using hd
    simp only [yielded, hd', Option.bind_some, wantV]
    cases hT : T[t]? with
    | none =>
      have := VRL.get_none ht hT
      rw [Array.getElem?_toList] at this
      simp [this]
    | some v =>
      obtain ⟨x, hx, hv⟩ := VRL.get ht hT
      rw [Array.getElem?_toList] at hx
      simp only [hx]
      cases v with
      | bool b =>
        cases hv
        cases b <;> cases wt <;> rfl
      | _ =>
        cases x <;> first | (have := VR.bool_inv hv; cases this; done) | rfl

theorem TR.put {T : List V} {a : Act} (ht : TR m T a.tmps) {v : V} {x : Value} (hv : VR m v x) (dst : Option Nat) : TR m (putV T dst v) (a.put dst x).tmps := by
  cases dst with
  | none => exact ht
  | some d =>
    simp only [putV, Act.put, TR]
    rw [Array.toList_setIfInBounds]
    exact VRL.set ht hv d

theorem put_defers (a : Act) (dst : Option Nat) (x : Value) : (a.put dst x).defers = a.defers := by cases dst <;> rfl

theorem evO_eq (o : O) (T : List V) (h : H) : evO P ap o T h = if wantV T o.guard then (evR P ap T h o.op).map fun r => (putV T o.dst r.1, r.2) else some (putV T o.dst undefV, h) := by
  unfold evO evR
  split
  · cases evK P T h o.op with
    | none => rfl
    | some r =>
      cases r with
      | call f args => simp only; cases ap f args h <;> rfl
      | _ => rfl
  · rfl

theorem VR.undef : VR m undefV undef := ⟨[], rfl, rfl⟩

def OpsOK (P : Program) (dsts : List (Option Nat)) : List Oper → List O → Prop
  | [], l => l = []
  | o :: os, l => ∃ k g oo l', cK P o.op = some k ∧ cGuard dsts o.guard = some g ∧ oo.op = k ∧ oo.guard = g ∧ oo.dst = o.dst ∧ OpsOK P dsts os l' ∧ l = oo :: l'

theorem cOsFrom_ok {dsts : List (Option Nat)} : ∀ (os : List Oper) (acc : List Nat) (l : List O), cOsFrom P dsts os acc = some l → OpsOK P dsts os l
  | [], _, l, h => by cases h; rfl
  | o :: os, acc, l, h => by
    simp only [cOsFrom] at h
    split at h <;> cases h
    rename_i x l' h1 h2
    unfold cO at h1
    split at h1 <;> cases h1
    rename_i k g h3 h4
    exact ⟨k, g, _, l', h3, h4, rfl, rfl, rfl, cOsFrom_ok os _ l' h2, rfl⟩

structure Mid (P : Program) (m0 : Mp) (h0 : H) (w0 : World) (m : Mp) (h : H) (w : World) (T : List V) (ds : List Deferred) (a : Act) : Prop where
  cx : Cx P m h w T a
  ext : Ext m0 h0 w0 m h w
  defers : a.defers = ds

theorem Mid.put {m0 m : Mp} {h0 h : H} {w0 w : World} {T : List V} {ds : List Deferred} {a : Act} (md : Mid P m0 h0 w0 m h w T ds a) {m' : Mp} {h' : H} {w' : World} {v : V} {x : Value} (h1 : VR m' v x) (h2 : HR P m' h' w')
    (h3 : Ext m h w m' h' w') (dst : Option Nat) : Mid P m0 h0 w0 m' h' w' (putV T dst v) ds (a.put dst x) :=
  ⟨⟨TR.put (VRL.mono h3.sub _ _ md.cx.tr) h1 dst,h2⟩,md.ext.trans h3,(put_defers a dst x).trans md.defers⟩

theorem ops_sound (ha : ApOK P ap) {ops : Array Oper} {m0 : Mp} {h0 : H} {w0 : World} {ds : List Deferred} {ro : Option Nat} {n : Nat} {Q : Exit → Act → World → Prop} {T' : List V} {h' : H}
    (hQ : ∀ m' w' a', Mid P m0 h0 w0 m' h' w' T' ds a' → Q .normal a' w') :
    ∀ (os : List Oper) (l : List O), OpsOK P (ops.toList.map (·.dst)) os l → ∀ (T : List V) (h : H), evOs P ap l T h = some (T', h') → ∀ (m : Mp) (w : World) (a : Act), Mid P m0 h0 w0 m h w T ds a →
      wpListIn (FF ro) n P ops Q os a w
  | [], l, hl, T, h, he, m, w, a, md => by
    cases hl
    simp only [evOs] at he
    cases he
    exact hQ m w a md
  | o :: os, l, hl, T, h, he, m, w, a, md => by
    obtain ⟨k, g, oo, l', h1, h2, h3, h4, h5, h6, rfl⟩ := hl
    simp only [evOs] at he
    split at he
    · rename_i T1 h1' he1
      rw [evO_eq, h3, h4, h5] at he1
      simp only [wpListIn]
      rw [wanted_sound md.cx.tr h2]
      split
      · rename_i hw
        rw [if_pos hw] at he1
        cases hr : evR P ap T h k with
        | none => simp [hr] at he1
        | some r =>
          obtain ⟨v, h''⟩ := r
          simp [hr] at he1
          obtain ⟨rfl, rfl⟩ := he1
          exact op_step ha md.cx h1 hr fun m' w' x e1 e2 e3 => ops_sound ha hQ os l' h6 _ _ he m' w' _ (md.put e1 e2 e3 o.dst)
      · rename_i hw
        rw [if_neg hw] at he1
        cases he1
        exact ⟨fun _ _ => trivial, ops_sound ha hQ os l' h6 _ _ he m w _ (md.put VR.undef md.cx.hr (Ext.refl _ _ _) o.dst)⟩
    · cases he
end Go.AM
