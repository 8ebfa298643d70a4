/- My own texts of the evaluator, its soundness and its symbolic runs, laid for this claim. -/
import Derived.Test.YtelbgimbkfjabaaAmTAmU
set_option linter.unusedSimpArgs false
set_option linter.unusedVariables false
/-! The evaluator over code whose map loops may take any order: every order is run, and what comes of each is asked. -/
namespace Go.AM
variable {P : Program} {ap : Ap}

def nexts (T : List V) (h : H) (x : A) : Option (List (V × H)) := match x.ev T with
  | some (.ptr (some (r, 0))) => match h.get r with
    | some (.mapIter (some m) since seen last) => match h.get m with
      | some (.map es clock) =>
        if !seen.isEmpty && !es.isEmpty && es.all (fun e => decide (e.2.2 ≥ last)) then none else
        let left := es.filter fun e => !seen.contains e.2.2
        let old := left.filter fun e => decide (e.2.2 < since)
        let new := left.filter fun e => decide (e.2.2 ≥ since)
        if old.isEmpty || !new.isEmpty then none else
        some (old.map fun e => (.tup [.bool true, e.1, e.2.1], h.set r (.mapIter (some m) since (seen ++ [e.2.2]) clock)))
      | _ => none
    | _ => none
  | _ => none

def ncR (P : Program) (ap : Ap) (ops : List O) (s : St) (R : St → Prop) : Prop := match evOs P ap ops s.1 s.2 with
  | some s' => R s'
  | none => match ops with
    | o :: rest => match o.op, o.guard with
      | .next false x, none => match nexts s.1 s.2 x with
        | some l => ∀ p ∈ l, match evOs P ap rest (putV s.1 o.dst p.1) p.2 with
          | some s' => R s'
          | none => False
        | none => False
      | _, _ => False
    | [] => False

def nIter (f : St → (Ex → St → Prop) → Prop) : Nat → St → (Ex → St → Prop) → Prop
  | 0, _, _ => False
  | j + 1, s, R => f s fun ex s' => match ex with
    | .nrm => nIter f j s' R
    | ex => R ex s'

def ncC (P : Program) (ap : Ap) (k : Nat) (ro : Option Nat) : C → St → (Ex → St → Prop) → Prop
  | .seq a b, s, R => ncC P ap k ro a s fun ex s' => match ex with
    | .nrm => ncC P ap k ro b s' R
    | ex => R ex s'
  | .cond c a b, s, R => match c.ev s.1 with
    | some (.bool t) => if t then ncC P ap k ro a s R else ncC P ap k ro b s R
    | _ => False
  | .block id b, s, R => ncC P ap k ro b s fun ex s' => match ex with
    | .exit id' => if id' = id then R .nrm s' else R (.exit id') s'
    | ex => R ex s'
  | .loop b, s, R => nIter (ncC P ap k ro b) k s R
  | .region ops, s, R => ncR P ap ops s fun s' => R .nrm s'
  | c, s, R => match evC P ap k ro c s with
    | some (ex, s') => R ex s'
    | none => False

theorem next_any {m : Mp} {h : H} {w : World} {T : List V} {a : Act} {o : Oper} (cx : Cx P m h w T a) {x : Operand} (ho : o.op = .next x false) {y : A} (h1 : cA P x = some y) {l : List (V × H)} (hl : nexts T h y = some l) :
    ∃ v h', (v, h') ∈ l ∧ ∃ m' w' z, HR P m' h' w' ∧ Ext m h w m' h' w' ∧ VR m' v z ∧ (execOp a.eval o).run P w = .ok (.value z) w' := by
  have he : execOp a.eval o = (do pure (Next.value (← Instr.next (a.eval x) false o.type))) := by simp [execOp, ho]
  unfold nexts at hl
  split at hl
  · rename_i i e1
    obtain ⟨R, sh, ex, hm, hx⟩ := cx.av h1 e1
    split at hl
    · rename_i mi since seen st hg
      obtain ⟨q, rfl, g1, b, sh2, e2, hmi, rfl⟩ := cx.hr.iter hg hm
      have hob : (getObj R).run P w = .ok (.mapIter (some b) since seen.toArray st) w := run_getObj g1 (by intros; simp)
      split at hl
      · rename_i es cl hg2
        obtain ⟨es', g2, g3⟩ := cx.hr.map hg2 hmi
        have hobm : (getObj b).run P w = .ok (.map es' cl) w := run_getObj g2 (by intros; simp)
        split at hl
        · cases hl
        · rename_i hcond
          have hl1 := g3.filter (f := fun e => !seen.contains e.2.2) (g := fun y => !seen.toArray.contains y.born) (fun e y hb => by simp [hb])
          have ho1 := hl1.filter (f := fun e => decide (e.2.2 < since)) (g := fun y => decide (y.born < since)) (fun e y hb => by simp [hb])
          have hn1 := hl1.filter (f := fun e => decide (e.2.2 ≥ since)) (g := fun y => decide (y.born ≥ since)) (fun e y hb => by simp [hb])
          have hco : (!seen.toArray.isEmpty && !es'.isEmpty && es'.all (fun y => decide (y.born ≥ st))) = false := by
            have e1 : seen.toArray.isEmpty = seen.isEmpty := by simp
            have e2 : es'.isEmpty = es.isEmpty := by
              have hlen : es'.size = es.length := by simpa using g3.length
              cases es <;> simp [Array.isEmpty, hlen]
            have e3 : es'.all (fun y => decide (y.born ≥ st)) = es.all (fun e => decide (e.2.2 ≥ st)) := by
              rw [← Array.all_toList]; exact g3.all (fun e y hb => by simp [hb])
            rw [e1, e2, e3]; simpa using hcond
          simp only at hl
          split at hl
          · cases hl
          · rename_i hne
            cases hl
            simp only [Bool.or_eq_true, Bool.not_eq_true', not_or, Bool.not_eq_false] at hne
            obtain ⟨hold, hnew⟩ := hne
            generalize hO : (es'.filter fun y => !seen.toArray.contains y.born).filter (fun y => decide (y.born < since)) = L
            have hLl : L.toList = ((es'.toList.filter fun y => !seen.toArray.contains y.born).filter (fun y => decide (y.born < since))) := by
              rw [← hO, Array.toList_filter, Array.toList_filter]
            have a2 : (es'.filter fun y => !seen.toArray.contains y.born).filter (fun y => decide (y.born ≥ since)) = #[] := by
              apply Array.ext'
              rw [Array.toList_filter, Array.toList_filter]
              have := List.isEmpty_iff.1 hnew
              rw [this] at hn1
              exact hn1
            rw [← hLl] at ho1
            have hlen := ho1.length
            have hL0 : L.size ≠ 0 := by
              rw [← Array.length_toList, hlen]
              intro h0
              exact hold (List.isEmpty_iff.2 (List.length_eq_zero_iff.1 h0))
            have hch : ∃ (j : Nat) (w1 : World), j < L.size ∧ (w1 = w ∨ w1 = w.drew) ∧ (choose (Question.mapNext L.size)).run P w = .ok j w1 := by
              by_cases hf : L.size ≤ 1
              · exact ⟨0, w, by omega, Or.inl rfl, by simp [choose, Sem.run, Question.forced, hf]⟩
              · exact ⟨_, w.drew, Nat.mod_lt _ (by omega), Or.inr rfl, by
                  simp only [choose, Sem.run, Question.forced, decide_eq_true_eq, hf, if_false, Question.cut]
                  rfl⟩
            obtain ⟨j, w1, hj, hal, hrun⟩ := hch
            have get : ∀ {os : List (V × V × Nat)} {ys : List MapEntry} (j : Nat), ER m os ys → j < ys.length → ∃ e y, os[j]? = some e ∧ ys[j]? = some y ∧ VR m e.1 y.key ∧ VR m e.2.1 y.val ∧ y.born = e.2.2 := by
              intro os
              induction os with
              | nil => intro ys j hE hj; cases hE; simp at hj
              | cons e0 os ih =>
                intro ys j hE hj
                obtain ⟨y, ys', z1, z2, z3, z4, rfl⟩ := hE
                cases j with
                | zero => exact ⟨e0, y, rfl, rfl, z1, z2, z3⟩
                | succ j => exact ih j z4 (by simpa using hj)
            obtain ⟨e, y, y1, y2, y3, y4, y5⟩ := get j ho1 (by rw [Array.length_toList]; exact hj)
            rw [Array.getElem?_toList] at y2
            have hheap : w1.heap = w.heap := by rcases hal with rfl | rfl <;> rfl
            have hg1' : w1.heap[R]? = some (.mapIter (some b) since seen.toArray st) := by rw [hheap]; exact g1
            have hr1 : HR P m h w1 := by
              rcases hal with rfl | rfl
              · exact cx.hr
              · exact ⟨cx.hr.ok, cx.hr.dom, cx.hr.glob, cx.hr.blk, cx.hr.obj, cx.hr.inj⟩
            have hx1 : Ext m h w m h w1 := by
              rcases hal with rfl | rfl
              · exact Ext.refl _ _ _
              · exact ⟨Sub.refl m, Nat.le_refl _, Nat.le_refl _, fun _ _ _ => rfl, fun _ _ h => h, rfl, rfl, rfl, fun _ _ h => h⟩
            obtain ⟨k1, k2⟩ := hr1.set (o' := .mapIter (some mi) since (seen ++ [e.2.2]) cl) hg rfl hm (Upd.setObj (ob' := .mapIter (some b) since (seen.toArray.push y.born) cl) hg1')
              ⟨rfl, some b, by rw [y5]; simp, b, sh2, e2, hmi, rfl⟩
            refine ⟨_, _, List.mem_map.2 ⟨e, List.mem_of_getElem? y1, rfl⟩, m, _, .tuple #[.bool true, y.key, y.val], k1, hx1.trans k2, ⟨[_, _, _], .cons rfl (.cons y3 (.one y4)), rfl⟩, ?_⟩
            rw [he, hx]
            have hso : ∀ ob, (setObj R ob).run P w1 = .ok () { w1 with heap := w1.heap.setIfInBounds R ob } := fun ob => run_setObj hg1' (by intros; simp)
            have hemp : L.isEmpty = false := by simp [Array.isEmpty, hL0]
            simp only [Instr.next, Nat.add_zero, Sem.run_bind, hob, hobm, Result.andThen_ok, hco, Bool.false_eq_true, if_false, hO, a2, hemp, Array.append_empty, Array.empty_append, Array.size_map, hrun, Array.getElem?_map, y2, Option.map_some, hso, Sem.run_pure]
      · cases hl
    · cases hl
  · cases hl
end Go.AM
namespace Go.AM
variable {P : Program} {ap : Ap}
theorem cBuiltin_next {b : Builtin} {xs : List Operand} {ts : List TypeId} {s : Bool} {x : A} (h : cBuiltin P b xs ts = some (.next s x)) : False := by
  unfold cBuiltin at h
  repeat' split at h
  all_goals try (cases h; done)
  all_goals simp only [Option.map_eq_some_iff] at h
  all_goals try (obtain ⟨y, h1, h2⟩ := h; cases h2; done)
theorem cK_next {op : Op} {s : Bool} {x : A} (h : cK P op = some (.next s x)) : ∃ y, op = .next y s ∧ cA P y = some x := by
  cases op
  all_goals simp only [cK, Option.map_eq_some_iff] at h
  all_goals try (obtain ⟨y, h1, h2⟩ := h; cases h2; exact ⟨_, rfl, h1⟩)
  all_goals try (obtain ⟨y, h1, h2⟩ := h; cases h2; done)
  all_goals try (cases h; done)
  all_goals repeat' split at h
  all_goals try (obtain ⟨y, h1, h2⟩ := h; cases h2; done)
  all_goals try (cases h; done)
  all_goals try (exact (cBuiltin_next h).elim)
  all_goals try simp only [Option.map_eq_some_iff] at h
  all_goals try (obtain ⟨y, h1, h2⟩ := h; cases h2; done)
  all_goals try (rename_i hq; cases hq; done)
  all_goals try contradiction
theorem ncR_sound (ha : ApOK P ap) {ops : Array Oper} {m0 : Mp} {h0 : H} {w0 : World} {ds : List Deferred} {ro : Option Nat} {n : Nat} {Q : Exit → Act → World → Prop} {R : St → Prop}
    (hQ : ∀ s' m' w' a', R s' → Mid P m0 h0 w0 m' s'.2 w' s'.1 ds a' → Q .normal a' w') {os : List Oper} {l : List O} (hl : OpsOK P (ops.toList.map (·.dst)) os l) {T : List V} {h : H} (he : ncR P ap l (T, h) R)
    {m : Mp} {w : World} {a : Act} (md : Mid P m0 h0 w0 m h w T ds a) : wpListIn (FF ro) n P ops Q os a w := by
  unfold ncR at he
  split at he
  · rename_i s' e
    exact ops_sound ha (fun m' w' a' md' => hQ s' m' w' a' he md') os l hl T h e m w a md
  · split at he
    · rename_i o rest
      split at he
      · rename_i x eop egd
        split at he
        · rename_i lst hn
          cases os with
          | nil => cases hl
          | cons o' os' =>
            obtain ⟨k, g, oo, l', h1, h2, h3, h4, h5, h6, hoo⟩ := hl
            cases hoo
            rw [eop] at h3
            subst h3
            rw [egd] at h4
            subst h4
            obtain ⟨y, ho, hy⟩ := cK_next h1
            obtain ⟨v, h', hmem, m', w', z, k1, k2, k3, k4⟩ := next_any md.cx ho hy hn
            simp only [wpListIn]
            rw [wanted_sound md.cx.tr h2]
            rw [if_pos (show wantV T none = true from rfl)]
            refine ⟨fun _ _ => trivial, ?_⟩
            rw [Oper.semAt_eq _ _ _ (cK_noDefer h1), k4]
            have hp := he (v, h') hmem
            simp only at hp
            split at hp
            · rename_i s' e
              rw [h5] at e
              exact ops_sound ha (fun m' w' a' md' => hQ s' m' w' a' hp md') os' _ h6 _ _ e m' w' _ (md.put k3 k1 k2 o'.dst)
            · exact hp.elim
        · exact he.elim
      · exact he.elim
    · exact he.elim

theorem ncC_sound (hmix : P.follows .mixedOrders = true) (ha : ApOK P ap) {k : Nat} {ro R' : Option Nat} {n : Nat} {B : Nat} :
    ∀ (c : Code) (cc : C), cC P c = some cc → ∀ {Q : Exit → Act → World → Prop} {R : Ex → St → Prop} {m : Mp} {h : H} {w : World} {T : List V} {a : Act},
      ncC P ap k ro cc (T, h) R → Cx P m h w T a → RoR m ro R' → DefOK B m h w a.defers →
      (∀ ex s' m' w' a', R ex s' → At P B m h w m' s'.2 w' s'.1 a' → Q (exR ex) a' w') → c.wpIn (FF R') n P Q a w := by
  intro c
  have det : ∀ {c : Code} {cc : C} {Q : Exit → Act → World → Prop} {R : Ex → St → Prop} {m : Mp} {h : H} {w : World} {T : List V} {a : Act}, cC P c = some cc → (match evC P ap k ro cc (T, h) with | some (ex, s') => R ex s' | none => False) → Cx P m h w T a → RoR m ro R' → DefOK B m h w a.defers →
      (∀ ex s' m' w' a', R ex s' → At P B m h w m' s'.2 w' s'.1 a' → Q (exR ex) a' w') → c.wpIn (FF R') n P Q a w := by
    intro c cc Q R m h w T a hc he cx hro hd hQ
    split at he
    · rename_i ex s' e
      exact code_sound hmix ha c cc hc (ex := ex) (T' := s'.1) (h' := s'.2) e cx hro hd fun m' w' a' hat => hQ ex s' m' w' a' he hat
    · exact he.elim
  induction c with
  | skip =>
    intro cc hc Q R m h w T a he cx hro hd hQ
    have hc0 := hc
    simp only [cC] at hc; cases hc
    exact det hc0 he cx hro hd hQ
  | label l =>
    intro cc hc Q R m h w T a he cx hro hd hQ
    have hc0 := hc
    simp only [cC] at hc; cases hc
    exact det hc0 he cx hro hd hQ
  | exit id =>
    intro cc hc Q R m h w T a he cx hro hd hQ
    have hc0 := hc
    simp only [cC] at hc; cases hc
    exact det hc0 he cx hro hd hQ
  | ret =>
    intro cc hc Q R m h w T a he cx hro hd hQ
    have hc0 := hc
    simp only [cC] at hc; cases hc
    exact det hc0 he cx hro hd hQ
  | goto l => intro cc hc; simp [cC] at hc
  | refuse s =>
    intro cc hc Q R m h w T a he cx hro hd hQ
    have hc0 := hc
    simp only [cC] at hc; cases hc
    exact det hc0 he cx hro hd hQ
  | region id ops draw =>
    intro cc hc Q R m h w T a he cx hro hd hQ
    have hc0 := hc
    simp only [cC] at hc
    cases draw with
    | false =>
      unfold cRegion at hc
      split at hc
      · cases hc
      · rename_i l hl
        simp only [Bool.false_eq_true, if_false] at hc
        cases hc
        exact wpIn_region_list (ncR_sound ha (R := fun s' => R .nrm s') (fun s' m' w' a' hr md => hQ .nrm s' m' w' a' hr ⟨md.cx, md.ext, by rw [md.defers]; exact hd.ext md.ext⟩) (cOsFrom_ok _ _ _ hl) he ⟨cx, Ext.refl _ _ _, rfl⟩)
    | true =>
      obtain ⟨l, rfl⟩ : ∃ l, cc = .draw l := by
        unfold cRegion at hc
        split at hc
        · cases hc
        · simp only [if_true] at hc
          split at hc
          · simp only [Option.some.injEq] at hc
            exact ⟨_, hc.symm⟩
          · cases hc
      exact det hc0 he cx hro hd hQ
  | rangeFunc g ps x y ihx ihy =>
    intro cc hc Q R m h w T a he cx hro hd hQ
    have hc0 := hc
    simp only [cC] at hc
    split at hc <;> cases hc
    exact det hc0 he cx hro hd hQ
  | scope c ih =>
    intro cc hc Q R m h w T a he cx hro hd hQ
    simp only [cC] at hc
    refine wpIn_scope_straight (ih cc hc he cx hro hd fun ex s' m' w' a' hr hat => ?_)
    have := hQ ex s' m' w' a' hr hat
    cases ex <;> exact this
  | cond c x y ihx ihy =>
    intro cc hc Q R m h w T a he cx hro hd hQ
    simp only [cC] at hc
    split at hc <;> cases hc
    rename_i c' x' y' h1 h2 h3
    simp only [ncC] at he
    split at he
    · rename_i t e1
      refine wpIn_cond (cx.av h1 e1) ?_
      cases t with
      | true => exact ihx x' h2 (by simpa using he) cx hro hd hQ
      | false => exact ihy y' h3 (by simpa using he) cx hro hd hQ
    · exact he.elim
  | seq x y ihx ihy =>
    intro cc hc Q R m h w T a he cx hro hd hQ
    simp only [cC] at hc
    split at hc <;> cases hc
    rename_i x' y' h1 h2
    simp only [ncC] at he
    refine wpIn_seq (ihx x' h1 he cx hro hd fun ex s1 m1 w1 a1 hr hat => ?_)
    obtain ⟨T1, hh1⟩ := s1
    cases ex with
    | nrm => exact ihy y' h2 hr hat.cx (hro.ext hat.ext.sub) hat.dfr fun ex s' m' w' a' hr' hat' => hQ ex s' m' w' a' hr' ⟨hat'.cx, hat.ext.trans hat'.ext, hat'.dfr⟩
    | exit id => exact hQ (.exit id) _ m1 w1 a1 hr hat
    | ret => exact hQ .ret _ m1 w1 a1 hr hat
  | block id c ih =>
    intro cc hc Q R m h w T a he cx hro hd hQ
    simp only [cC] at hc
    cases h1 : cC P c with
    | none => simp [h1] at hc
    | some c' =>
      simp [h1] at hc; subst hc
      simp only [ncC] at he
      refine wpIn_block (ih c' h1 he cx hro hd fun ex s1 m1 w1 a1 hr hat => ?_)
      cases ex with
      | nrm => exact hQ .nrm s1 m1 w1 a1 hr hat
      | ret => exact hQ .ret s1 m1 w1 a1 hr hat
      | exit id' =>
        simp only at hr
        split at hr
        · rename_i hid
          simp only [exR, Exit.inBlock, hid, if_true]
          exact hQ .nrm s1 m1 w1 a1 hr hat
        · rename_i hid
          simp only [exR, Exit.inBlock, hid, if_false]
          exact hQ (.exit id') s1 m1 w1 a1 hr hat
  | loop c ih =>
    intro cc hc Q R m h w T a he cx hro hd hQ
    simp only [cC] at hc
    cases h1 : cC P c with
    | none => simp [h1] at hc
    | some c' =>
      simp [h1] at hc; subst hc
      simp only [ncC] at he
      refine wpIn_loop_rounds k ?_
      have key : ∀ (j : Nat) {m1 : Mp} {h1' : H} {w1 : World} {T1 : List V} {a1 : Act}, nIter (ncC P ap k ro c') j (T1, h1') R → At P B m h w m1 h1' w1 T1 a1 → Code.roundsIn (FF R') n P c Q j a1 w1 := by
        intro j
        induction j with
        | zero => intro m1 h1' w1 T1 a1 hi hat; exact hi.elim
        | succ j ihj =>
          intro m1 h1' w1 T1 a1 hi hat
          simp only [nIter] at hi
          rw [roundsIn_succ]
          refine ih c' h1 hi hat.cx (hro.ext hat.ext.sub) hat.dfr fun ex s2 m2 w2 a2 hr hat2 => ?_
          obtain ⟨T2, h2⟩ := s2
          have hat3 : At P B m h w m2 h2 w2 T2 a2 := ⟨hat2.cx, hat.ext.trans hat2.ext, hat2.dfr⟩
          cases ex with
          | nrm => exact ihj hr hat3
          | exit id => exact hQ (.exit id) _ m2 w2 a2 hr hat3
          | ret => exact hQ .ret _ m2 w2 a2 hr hat3
      exact key k he ⟨cx, Ext.refl _ _ _, hd⟩

def ncFn (P : Program) (ap : Ap) (k : Nat) (f : Fn) (args : List V) (h : H) (Q : V → H → Prop) : Prop :=
  args.length ≤ f.ntmps ∧ ncC P ap k none f.body (args ++ List.replicate (f.ntmps - args.length) undefV, h) fun ex s' => (ex = .nrm ∨ ex = .ret) ∧ match resVs s'.1 s'.2 f.results with
    | some vs => Q (oneOr vs) s'.2
    | none => False
theorem ncFn_sound (hmix : P.follows .mixedOrders = true) (ha : ApOK P ap) {k : Nat} {g : Nat} {fn : Func} {f : Fn} (hg : P.funcs[g]? = some fn) (hc : cFn P fn = some f) {args : List V} {h : H} {R : V → H → Prop} (he : ncFn P ap k f args h R)
    {m : Mp} {w : World} {xs : List Value} (hr : HR P m h w) (hx : VRL m args xs) (n : Nat) : CallsIn (FF none) n P g xs.toArray w fun e w' => ∃ v h', R v h' ∧ Post P m h w v h' e w' := by
  obtain ⟨hnm, b, c, rs, h1, h2, h3, rfl⟩ := cFn_spec hc
  obtain ⟨hlen, he⟩ := he
  refine callsIn_of_wp_marks hg h1 trivial ?_
  have cx : Cx P m h w (args ++ List.replicate (fn.ntmps - args.length) undefV) { tmps := xs.toArray ++ Array.replicate (fn.ntmps - xs.toArray.size) undef, defers := [] } := by
    refine ⟨?_, hr⟩
    simp only [TR, Array.toList_append, Array.toList_replicate, List.size_toArray, hx.length]
    exact hx.append (VRL.replicate VR.undef _)
  have hd : DefOK w.heap.size m h w [] := ⟨Nat.le_refl _, [], rfl, List.nodup_nil, by simp⟩
  refine ncC_sound (ro := none) (R' := none) hmix ha b c h2 he cx trivial hd fun ex s' m' w' a' hp hat => ?_
  obtain ⟨hex, hp⟩ := hp
  split at hp
  · rename_i vs hrv
    have post : LeavesInM (FF none) n P fn a'.tmps (fun e w' => ∃ v h', R v h' ∧ Post P m h w v h' e w') a'.defers .returning w' := by
      obtain ⟨rs0, e1, e2, e3⟩ := hat.dfr.marks
      refine leaves_marks rs0 a'.defers w' e1 e2 (fun r hr => ⟨(e3 r hr).1, (e3 r hr).2.1⟩) hat.cx.hr hat.ext fun w2 k1 k2 => ?_
      obtain ⟨x, j1, j2⟩ := run_results k1 hat.cx.tr h3 hrv
      exact ⟨x, j1, _, _, hp, m', x, rfl, j2, k1, k2⟩
    rcases hex with rfl | rfl <;> exact post
  · exact hp.elim
end Go.AM
