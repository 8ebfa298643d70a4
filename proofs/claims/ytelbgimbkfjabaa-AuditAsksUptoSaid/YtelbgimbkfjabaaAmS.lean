/- My own texts of the evaluator, its soundness and its symbolic runs, laid for this claim. -/
import Derived.Test.YtelbgimbkfjabaaAmRa
import Derived.Scope
set_option linter.unusedSimpArgs false
set_option linter.unusedVariables false
/-! Soundness, XV: code. -/
namespace Go.AM
variable {P : Program} {ap : Ap}

def exR : Ex → Exit
  | .nrm => .normal
  | .exit id => .exit id
  | .ret => .ret

def RoR (m : Mp) : Option Nat → Option Nat → Prop
  | none, none => True
  | some l, some R => ∃ sh e, m l = some (R, sh, e)
  | _, _ => False

structure DefOK (B : Nat) (m : Mp) (h : H) (w : World) (ds : List Deferred) : Prop where
  size : B ≤ w.heap.size
  marks : ∃ rs : List Nat, ds.map (·.target) = rs.map Target.collected ∧ rs.Nodup ∧ ∀ r ∈ rs, B ≤ r ∧ w.heap[r]? = some (.deferred (some [])) ∧ ¬ Own m h r

theorem DefOK.ext {B : Nat} {m m' : Mp} {h h' : H} {w w' : World} {ds : List Deferred} (d : DefOK B m h w ds) (x : Ext m h w m' h' w') : DefOK B m' h' w' ds := by
  obtain ⟨h1, rs, h2, h3, h4⟩ := d
  refine ⟨Nat.le_trans h1 x.wsize, rs, h2, h3, fun r hr => ?_⟩
  obtain ⟨k1, k2, k3⟩ := h4 r hr
  have hlt : r < w.heap.size := by
    rcases Nat.lt_or_ge r w.heap.size with h | h
    · exact h
    · simp [Array.getElem?_eq_none h] at k2
  exact ⟨k1, by rw [x.frame r hlt k3]; exact k2, fun ho => k3 (x.own r hlt ho)⟩

theorem RoR.ext {m m' : Mp} (hs : Sub m m') : ∀ {ro R : Option Nat}, RoR m ro R → RoR m' ro R
  | none, none, _ => trivial
  | some _, some _, ⟨sh, e, h⟩ => ⟨sh, e, hs _ _ h⟩
  | none, some _, h => h.elim
  | some _, none, h => h.elim

theorem HR.more {m : Mp} {h : H} {w w' : World} {ob : Go.Obj} (hr : HR P m h w) (hn : New w ob w') : HR P m h w' ∧ Ext m h w m h w' := by
  have hget : ∀ b, b < w.heap.size → w'.heap[b]? = w.heap[b]? := fun b hb => by
    rw [hn.heap, Array.getElem?_push]; rw [if_neg (by omega)]
  have hws : w'.heap.size = w.heap.size + 1 := by rw [hn.heap]; simp
  refine ⟨⟨hr.ok, hr.dom, hr.glob, fun i r sh e hm => ?_, fun i o hg hl => ?_, hr.inj⟩, ?_⟩
  · have := hr.blk i r sh e hm; omega
  · obtain ⟨r, sh, e, ob', h1, h2, h3⟩ := hr.obj i o hg hl
    exact ⟨r, sh, e, ob', h1, by rw [hget r (hr.blk i r sh e h1)]; exact h2, h3⟩
  · exact ⟨Sub.refl m, Nat.le_refl _, by omega, fun b hb _ => hget b hb, fun _ _ h => h, hn.os, hn.output, hn.tape, fun _ _ h => h⟩

structure At (P : Program) (B : Nat) (m0 : Mp) (h0 : H) (w0 : World) (m : Mp) (h : H) (w : World) (T : List V) (a : Act) : Prop where
  cx : Cx P m h w T a
  ext : Ext m0 h0 w0 m h w
  dfr : DefOK B m h w a.defers

section
variable {F : Fence} {n : Nat} {Q : Exit → Act → World → Prop} {a : Act} {w : World} {b : Frame} {k : List Item} {cs : List Frame}
theorem stepR_scope {c : Code} : step P (lone (b.atR a (.code (.scope c) :: k)) cs w) = .next (lone (b.atR a (.code c :: .inScope c :: k)) cs w) :=
  step_lone_go (by simp [stepG, stepG.exec, Frame.atR])
theorem stepR_inScope {c : Code} : step P (lone (b.atR a (.inScope c :: k)) cs w) = .next (lone (b.atR a k) cs w) :=
  step_lone_go (by simp [stepG, stepG.exec, Frame.atR])

theorem wpIn_scope_straight {c : Code} (h : c.wpIn F n P (Exit.noGoto Q) a w) : (Code.scope c).wpIn F n P Q a w := by
  intro b k cs hro hb hr
  have h0 : (lone (b.atR a (.code (.scope c) :: k)) cs w).fenced P F := fenced_calm hb hr rfl
  obtain ⟨e, a₁, w₁, hq, harr⟩ := h b (.inScope c :: k) cs hro hb hr
  cases e with
  | normal => exact ⟨.normal, a₁, w₁, hq, .head h0 stepR_scope (StepsIn.trans harr (.one (fenced_calm hb hr rfl) stepR_inScope))⟩
  | exit id =>
    have hx : exitTo id (.inScope c :: k) = exitTo id k := by simp [exitTo]
    exact ⟨.exit id, a₁, w₁, hq, fun k' hk => .head h0 stepR_scope (harr.1 k' (by rw [hx]; exact hk)),
      fun hr' hk => let ⟨k₁, h1, h2⟩ := harr.2 hr' (by rw [hx]; exact hk); ⟨k₁, h1, .head h0 stepR_scope h2⟩⟩
  | goto l => exact hq.elim
  | ret => exact ⟨_, a₁, w₁, hq, .of_steps (.one h0 stepR_scope) harr⟩
  | panic ch => exact ⟨_, a₁, w₁, hq, .of_steps (.one h0 stepR_scope) harr⟩
  | outgrown => exact ⟨_, a₁, w₁, hq, .of_steps (.one h0 stepR_scope) harr⟩
end

theorem region_sound (hmix : P.follows .mixedOrders = true) (ha : ApOK P ap) {id : Nat} {ops : Array Oper} {draw : Bool} {cc : C} (hc : cRegion P ops.toList draw = some cc) {k : Nat} {ro R : Option Nat} {n : Nat} {Q : Exit → Act → World → Prop}
    {B : Nat} {m : Mp} {h : H} {w : World} {T : List V} {a : Act} {ex : Ex} {T' : List V} {h' : H} (he : evC P ap k ro cc (T, h) = some (ex, (T', h'))) (cx : Cx P m h w T a) (hd : DefOK B m h w a.defers)
    (hQ : ∀ m' w' a', At P B m h w m' h' w' T' a' → Q (exR ex) a' w') : (Code.region id ops draw).wpIn (FF R) n P Q a w := by
  have hQ' : ex = .nrm → ∀ m' w' a', Mid P m h w m' h' w' T' a.defers a' → Q .normal a' w' := fun e m' w' a' md => by
    subst e
    exact hQ m' w' a' ⟨md.cx, md.ext, by rw [md.defers]; exact hd.ext md.ext⟩
  cases draw with
  | false =>
    unfold cRegion at hc
    split at hc
    · cases hc
    · rename_i l hl
      simp only [Bool.false_eq_true, if_false] at hc
      cases hc
      simp only [evC] at he
      cases hev : evOs P ap l T h with
      | none => simp [hev] at he
      | some s =>
        obtain ⟨T1, h1⟩ := s
        simp [hev] at he
        obtain ⟨rfl, rfl, rfl⟩ := he
        exact wpIn_region_list (ops_sound ha (hQ' rfl) _ _ (cOsFrom_ok _ _ _ hl) T h hev m w a ⟨cx, Ext.refl _ _ _, rfl⟩)
  | true =>
    have hc0 := hc
    obtain ⟨l, rfl⟩ : ∃ l, cc = .draw l := by
      unfold cRegion at hc
      split at hc
      · cases hc
      · simp only [if_true] at hc
        split at hc
        · simp only [Option.some.injEq] at hc
          exact ⟨_, hc.symm⟩
        · cases hc
    simp only [evC] at he
    cases hev : evDraw P ap l T h with
    | none => simp [hev] at he
    | some s =>
      obtain ⟨T1, h1⟩ := s
      simp [hev] at he
      obtain ⟨rfl, rfl, rfl⟩ := he
      exact draw_sound hmix ha (hQ' rfl) hc0 hev ⟨cx, Ext.refl _ _ _, rfl⟩

theorem pendR_none {c : Option Code} (h : pendR none c) : c = none := by cases c <;> first | rfl | exact h.elim
theorem pendR_ret {c : Option Code} (h : pendR (some .ret) c) : c = some .ret := by
  cases c with
  | none => exact h.elim
  | some c => cases c <;> first | rfl | exact h.elim
theorem pendR_exit {c : Option Code} {id : Nat} (h : pendR (some (.exit id)) c) : c = some (.exit id) := by
  cases c with
  | none => exact h.elim
  | some c => cases c <;> first | (cases h; rfl) | exact h.elim

theorem HR.loop {m : Mp} {h : H} {w : World} {i r sh e : Nat} {st : LoopState} {pend : Option C} {T : List V} {ps : List Nat} {as b : C} (hr : HR P m h w) (hg : h.get i = some (.loop st pend T ps as b)) (hm : m i = some (r, sh, e)) :
    ∃ L : Loop, w.heap[r]? = some (.loop L) ∧ L.state = st ∧ pendR pend L.pending ∧ TR m T L.tmps ∧ L.params = ps.toArray ∧ cC P L.assign = some as ∧ cC P L.body = some b := by
  obtain ⟨r', sh', e', ob, h1, h2, L, rfl, h3⟩ := hr.obj i _ hg rfl
  rw [hm] at h1; cases h1
  exact ⟨L, h2, h3⟩

theorem run_getLoop {w : World} {r : Nat} {L : Loop} (hb : w.heap[r]? = some (.loop L)) : (Instr.getLoop r).run P w = .ok L w := by
  simp [Instr.getLoop, run_getObj (P := P) hb (by intros; simp)]

theorem enter_sound {a : Act} {m : Mp} {h h1 : H} {w : World} {T : List V} {ro R : Option Nat} {B : Nat} {ps : Array Tmp} {assign body : Code} {as b : C} (cx : Cx P m h w T a) (hro : RoR m ro R) (hrok : roOk h ro = true)
    (hd : DefOK B m h w a.defers) (has : cC P assign = some as) (hbd : cC P body = some b) (hpush : h.push (.loop .ready none T ps.toList as b) = some h1) (fn : FuncId) :
    ∃ l mark w1 m1, (Instr.enterLoop fn a.tmps ps assign body R).run P w = .ok (l, mark) w1 ∧ HR P m1 h1 w1 ∧ Ext m h w m1 h1 w1 ∧ m1 h.size = some (l, 0, 0) ∧ DefOK B m1 h1 w1 (mark ++ a.defers) := by
  have lor : ∀ (m : Mp) (d : Nat), TR m T a.tmps → OR P m (.loop { state := .ready, pending := none, fn, tmps := a.tmps, params := ps, assign, body, defers := d }) 0 0 (.loop .ready none T ps.toList as b) := fun m d ht =>
    ⟨_, rfl, rfl, trivial, ht, by simp, has, hbd⟩
  cases ro with
  | none =>
    cases R with
    | some R => exact hro.elim
    | none =>
      obtain ⟨k1, k2⟩ := cx.hr.more (New.alloc w (.deferred (some [])))
      obtain ⟨g1, g2⟩ := k1.push hpush (New.alloc { w with heap := w.heap.push (.deferred (some [])) } (.loop { state := .ready, pending := none, fn, tmps := a.tmps, params := ps, assign, body, defers := w.heap.size })) (lor m _ cx.tr)
      have hlt : w.heap.size < (w.heap.push (.deferred (some []))).size := by simp
      have hno : ¬ Own m h w.heap.size := by
        rintro ⟨i, o, sh, e, _, _, hm⟩
        exact Nat.lt_irrefl _ (cx.hr.blk _ _ _ _ hm)
      refine ⟨_, [{ target := .collected w.heap.size, args := #[] }], _, _, ?_, g1, k2.trans g2, upd_self _ _ _, ?_⟩
      · simp [Instr.enterLoop]; rfl
      · have d := hd.ext (k2.trans g2)
        obtain ⟨rs, e1, e2, e3⟩ := d.marks
        refine ⟨d.size, w.heap.size :: rs, by simp [e1], ?_, ?_⟩
        · refine List.nodup_cons.2 ⟨fun hmem => ?_, e2⟩
          obtain ⟨rs0, f1, f2, f3⟩ := hd.marks
          have : rs0.map Target.collected = rs.map Target.collected := by rw [← f1, ← e1]
          have hmem0 : Target.collected w.heap.size ∈ rs0.map Target.collected := by rw [this]; exact List.mem_map.2 ⟨_, hmem, rfl⟩
          obtain ⟨x, hx, hx2⟩ := List.mem_map.1 hmem0
          cases hx2
          have := (f3 _ hx).2.1
          simp at this
        · intro r hr
          rcases List.mem_cons.1 hr with rfl | hr
          · exact ⟨hd.size, by simp [Array.getElem?_push], fun ho => hno (g2.own _ (by simp) ho)⟩
          · exact e3 r hr
  | some l0 =>
    cases R with
    | none => exact hro.elim
    | some R =>
      obtain ⟨sh, e, hm0⟩ := hro
      simp only [roOk] at hrok
      split at hrok
      · rename_i hg0
        obtain ⟨L0, q1, _⟩ := cx.hr.loop hg0 hm0
        obtain ⟨g1, g2⟩ := cx.hr.push hpush (New.alloc w (.loop { state := .ready, pending := none, fn, tmps := a.tmps, params := ps, assign, body, defers := L0.defers })) (lor m _ cx.tr)
        refine ⟨_, [], _, _, ?_, g1, g2, upd_self _ _ _, ?_⟩
        · simp [Instr.enterLoop, run_getLoop (P := P) q1]
        · exact hd.ext g2
      · cases hrok

theorem range_sound (ha : ApOK P ap) {g : Operand} {ps : Array Tmp} {assign body : Code} {cc : C} (hc : cC P (.rangeFunc g ps assign body) = some cc) {k : Nat} {ro R : Option Nat} {n : Nat} {Q : Exit → Act → World → Prop}
    {B : Nat} {m : Mp} {h : H} {w : World} {T : List V} {a : Act} {ex : Ex} {T' : List V} {h' : H} (he : evC P ap k ro cc (T, h) = some (ex, (T', h'))) (cx : Cx P m h w T a) (hro : RoR m ro R) (hd : DefOK B m h w a.defers)
    (hQ : ∀ m' w' a', At P B m h w m' h' w' T' a' → Q (exR ex) a' w') : (Code.rangeFunc g ps assign body).wpIn (FF R) n P Q a w := by
  simp only [cC] at hc
  split at hc <;> cases hc
  rename_i f as b hf has hbd
  simp only [evC] at he
  split at he
  · rename_i hrok
    split at he
    · rename_i gf fs cs hfe
      split at he
      · rename_i h1 hpush
        split at he
        · rename_i v h2 hap
          split at he
          · rename_i st pend T2 ps2 as2 b2 hget
            split at he
            · cases he
            · rename_i hbusy
              obtain ⟨xs, ys, hxs, hys, hfv⟩ := cx.av hf hfe
              refine wpIn_rangeFunc fun fn _ => ?_
              obtain ⟨l, mark, w1, m1, q1, q2, q3, q4, q5⟩ := enter_sound cx hro hrok hd has hbd hpush fn
              have hargs : VRL m1 (fs ++ [.yield h.size] ++ cs) (xs ++ [Value.func (.yield l) #[] #[]] ++ ys) :=
                ((VRL.mono q3.sub _ _ hxs).append (VRL.one (v := .yield h.size) (x := .func (.yield l) #[] #[]) ⟨l, 0, 0, q4, rfl⟩)).append (VRL.mono q3.sub _ _ hys)
              obtain ⟨⟨fnn, f1, f2, f3⟩, f4⟩ := ha.fn hap q2 hargs
              refine ⟨l, mark, w1, { target := .fn (.func gf) ys.toArray, args := xs.toArray ++ #[Value.func (.yield l) #[] #[]] }, w1, gf, (xs ++ [Value.func (.yield l) #[] #[]] ++ ys).toArray, w1, q1, ?_, fun _ _ => trivial, ?_, (fun h => nomatch h), ?_⟩
              · have hmap : Array.map a.eval #[Operand.const (Value.func (.yield l) #[] #[])] = #[Value.func (.yield l) #[] #[]] := by simp; rfl
                simp only [resolve, hfv, Deferred.ofValue, hmap]
                rfl
              · have : (xs.toArray ++ #[Value.func (.yield l) #[] #[]]) ++ ys.toArray = (xs ++ [Value.func (.yield l) #[] #[]] ++ ys).toArray := by simp
                simp only [invoke, this]
                exact run_callFunc_enter f1 f2 f3
              · refine CallsIn.mono (callsIn_FF (f4 (n - 1))) fun e w2 hp => ?_
                obtain ⟨m2, x, rfl, p2, p3, p4⟩ := hp
                have hm2 := p4.sub _ _ q4
                obtain ⟨L, r1, r2, r3, r4, r5, r6, r7⟩ := p3.loop hget hm2
                have hL : ¬ L.state = LoopState.busy := by rw [r2]; exact hbusy
                have hend : (Instr.endLoop l).run P w2 = .ok L.pending { w2 with heap := w2.heap.setIfInBounds l (.loop { L with state := .exhausted }) } := by
                  simp [Instr.endLoop, run_getLoop (P := P) r1, hL, run_setObj (P := P) r1 (ob' := .loop { L with state := .exhausted }) (by intros; simp)]
                obtain ⟨s1, s2⟩ := p3.set (o' := .loop .exhausted pend T2 ps2 as2 b2) hget rfl hm2 (Upd.setObj r1 (ob' := .loop { L with state := .exhausted })) ⟨_, rfl, rfl, r3, r4, r5, r6, r7⟩
                have hx : Ext m h w m2 (h2.set h.size (.loop .exhausted pend T2 ps2 as2 b2)) { w2 with heap := w2.heap.setIfInBounds l (.loop { L with state := .exhausted }) } := (q3.trans p4).trans s2
                have hcx : Cx P m2 (h2.set h.size (.loop .exhausted pend T2 ps2 as2 b2)) { w2 with heap := w2.heap.setIfInBounds l (.loop { L with state := .exhausted }) } T { a with defers := mark ++ a.defers } := ⟨VRL.mono (q3.sub.trans p4.sub) _ _ cx.tr, s1⟩
                have hdf := (q5.ext p4).ext s2
                have hfin : ∀ w4, At P B m h w m2 (h2.set h.size (.loop .exhausted pend T2 ps2 as2 b2)) w4 T { a with defers := mark ++ a.defers } → ∀ pd, pendR pend pd →
                    (match pd with
                     | none => Q .normal { a with defers := mark ++ a.defers } w4
                     | some c => c.wpIn (FF R) n P Q { a with defers := mark ++ a.defers } w4) := by
                  intro w4 hat pd hpd
                  split at he
                  · cases he
                    rw [pendR_none hpd]
                    exact hQ _ _ _ hat
                  · cases he
                    rw [pendR_ret hpd]
                    exact wpIn_ret (hQ _ _ _ hat)
                  · cases he
                    rw [pendR_exit hpd]
                    exact wpIn_exit (hQ _ _ _ hat)
                  · cases he
                exact ⟨L.pending, _, hend, hfin _ ⟨hcx, hx, hdf⟩ _ r3⟩
          · cases he
        · cases he
      · cases he
    · cases he
  · cases he

theorem code_sound (hmix : P.follows .mixedOrders = true) (ha : ApOK P ap) {k : Nat} {ro R : Option Nat} {n : Nat} {B : Nat} :
    ∀ (c : Code) (cc : C), cC P c = some cc → ∀ {Q : Exit → Act → World → Prop} {m : Mp} {h : H} {w : World} {T : List V} {a : Act} {ex : Ex} {T' : List V} {h' : H},
      evC P ap k ro cc (T, h) = some (ex, (T', h')) → Cx P m h w T a → RoR m ro R → DefOK B m h w a.defers →
      (∀ m' w' a', At P B m h w m' h' w' T' a' → Q (exR ex) a' w') → c.wpIn (FF R) n P Q a w := by
  intro c
  induction c with
  | skip =>
    intro cc hc Q m h w T a ex T' h' he cx hro hd hQ
    simp only [cC] at hc; cases hc
    simp only [evC] at he; cases he
    exact wpIn_skip (hQ m w a ⟨cx, Ext.refl _ _ _, hd⟩)
  | label l =>
    intro cc hc Q m h w T a ex T' h' he cx hro hd hQ
    simp only [cC] at hc; cases hc
    simp only [evC] at he; cases he
    exact wpIn_label (hQ m w a ⟨cx, Ext.refl _ _ _, hd⟩)
  | exit id =>
    intro cc hc Q m h w T a ex T' h' he cx hro hd hQ
    simp only [cC] at hc; cases hc
    simp only [evC] at he; cases he
    exact wpIn_exit (hQ m w a ⟨cx, Ext.refl _ _ _, hd⟩)
  | ret =>
    intro cc hc Q m h w T a ex T' h' he cx hro hd hQ
    simp only [cC] at hc; cases hc
    simp only [evC] at he; cases he
    exact wpIn_ret (hQ m w a ⟨cx, Ext.refl _ _ _, hd⟩)
  | goto l => intro cc hc; simp [cC] at hc
  | refuse s =>
    intro cc hc Q m h w T a ex T' h' he cx hro hd hQ
    simp only [cC] at hc; cases hc
    simp [evC] at he
  | region id ops draw =>
    intro cc hc Q m h w T a ex T' h' he cx hro hd hQ
    exact region_sound hmix ha (by simpa only [cC] using hc) he cx hd hQ
  | rangeFunc g ps x y ihx ihy =>
    intro cc hc Q m h w T a ex T' h' he cx hro hd hQ
    exact range_sound ha hc he cx hro hd hQ
  | scope c ih =>
    intro cc hc Q m h w T a ex T' h' he cx hro hd hQ
    simp only [cC] at hc
    refine wpIn_scope_straight (ih cc hc he cx hro hd fun m' w' a' hat => ?_)
    have := hQ m' w' a' hat
    cases ex <;> exact this
  | cond c x y ihx ihy =>
    intro cc hc Q m h w T a ex T' h' he cx hro hd hQ
    simp only [cC] at hc
    split at hc <;> cases hc
    rename_i c' x' y' h1 h2 h3
    simp only [evC] at he
    split at he
    · rename_i t e1
      refine wpIn_cond (cx.av h1 e1) ?_
      cases t with
      | true => exact ihx x' h2 (by simpa using he) cx hro hd hQ
      | false => exact ihy y' h3 (by simpa using he) cx hro hd hQ
    · cases he
  | seq x y ihx ihy =>
    intro cc hc Q m h w T a ex T' h' he cx hro hd hQ
    simp only [cC] at hc
    split at hc <;> cases hc
    rename_i x' y' h1 h2
    simp only [evC] at he
    split at he
    · rename_i s e1
      obtain ⟨T1, hh1⟩ := s
      refine wpIn_seq (ihx x' h1 e1 cx hro hd fun m1 w1 a1 hat => ?_)
      exact ihy y' h2 he hat.cx (hro.ext hat.ext.sub) hat.dfr fun m' w' a' hat' => hQ m' w' a' ⟨hat'.cx, hat.ext.trans hat'.ext, hat'.dfr⟩
    · rename_i r hne
      refine wpIn_seq (ihx x' h1 he cx hro hd fun m1 w1 a1 hat => ?_)
      have := hQ m1 w1 a1 hat
      cases ex with
      | nrm => exact absurd he (hne _)
      | exit id => exact this
      | ret => exact this
  | block id c ih =>
    intro cc hc Q m h w T a ex T' h' he cx hro hd hQ
    simp only [cC] at hc
    cases h1 : cC P c with
    | none => simp [h1] at hc
    | some c' =>
      simp [h1] at hc; subst hc
      simp only [evC] at he
      split at he
      · rename_i id' s e1
        obtain ⟨T1, hh1⟩ := s
        refine wpIn_block (ih c' h1 e1 cx hro hd fun m1 w1 a1 hat => ?_)
        split at he
        · rename_i hid
          cases he
          simp only [exR, Exit.inBlock, hid, if_true]
          exact hQ m1 w1 a1 hat
        · rename_i hid
          cases he
          simp only [exR, Exit.inBlock, hid, if_false]
          exact hQ m1 w1 a1 hat
      · rename_i r hne
        refine wpIn_block (ih c' h1 he cx hro hd fun m1 w1 a1 hat => ?_)
        have := hQ m1 w1 a1 hat
        cases ex with
        | nrm => exact this
        | exit id => exact absurd he (hne _ _)
        | ret => exact this
  | loop c ih =>
    intro cc hc Q m h w T a ex T' h' he cx hro hd hQ
    simp only [cC] at hc
    cases h1 : cC P c with
    | none => simp [h1] at hc
    | some c' =>
      simp [h1] at hc; subst hc
      simp only [evC] at he
      refine wpIn_loop_rounds k ?_
      have key : ∀ (j : Nat) {m1 : Mp} {h1' : H} {w1 : World} {T1 : List V} {a1 : Act}, iter (evC P ap k ro c') j (T1, h1') = some (ex, (T', h')) → At P B m h w m1 h1' w1 T1 a1 → Code.roundsIn (FF R) n P c Q j a1 w1 := by
        intro j
        induction j with
        | zero => intro m1 h1' w1 T1 a1 hi hat; simp [iter] at hi
        | succ j ihj =>
          intro m1 h1' w1 T1 a1 hi hat
          simp only [iter] at hi
          rw [roundsIn_succ]
          split at hi
          · rename_i s e1
            obtain ⟨T2, h2⟩ := s
            refine ih c' h1 e1 hat.cx (hro.ext hat.ext.sub) hat.dfr fun m2 w2 a2 hat2 => ?_
            exact ihj hi ⟨hat2.cx, hat.ext.trans hat2.ext, hat2.dfr⟩
          · rename_i r hne
            refine ih c' h1 hi hat.cx (hro.ext hat.ext.sub) hat.dfr fun m2 w2 a2 hat2 => ?_
            have := hQ m2 w2 a2 ⟨hat2.cx, hat.ext.trans hat2.ext, hat2.dfr⟩
            cases ex with
            | nrm => exact absurd hi (hne _)
            | exit id => exact this
            | ret => exact this
      exact key k he ⟨cx, Ext.refl _ _ _, hd⟩
end Go.AM
