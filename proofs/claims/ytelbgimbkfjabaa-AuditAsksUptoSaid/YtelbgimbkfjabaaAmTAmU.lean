/- My own texts of the evaluator, its soundness and its symbolic runs, laid for this claim. -/
import Derived.Test.YtelbgimbkfjabaaAmS
set_option linter.unusedSimpArgs false
set_option linter.unusedVariables false
/-! Soundness, XVI: functions, rounds. -/
namespace Go.AM
variable {P : Program} {ap : Ap}

theorem HR.off {m : Mp} {h : H} {w : World} {r : Nat} {ds : Option (List Deferred)} {ob : Go.Obj} (hr : HR P m h w) (hb : w.heap[r]? = some (.deferred ds)) : HR P m h { w with heap := w.heap.setIfInBounds r ob } := by
  refine ⟨hr.ok, hr.dom, hr.glob, fun i R sh e hm => by simpa using hr.blk i R sh e hm, fun i o hg hl => ?_, hr.inj⟩
  obtain ⟨R, sh, e, ob', h1, h2, h3⟩ := hr.obj i o hg hl
  refine ⟨R, sh, e, ob', h1, ?_, h3⟩
  have hne : r ≠ R := by
    rintro rfl
    rw [hb] at h2
    cases h2
    cases o with
    | cells vs ty op ro fz => obtain ⟨c, fzr, hx, _⟩ := h3; cases hx
    | map es cl => obtain ⟨es', hx, _⟩ := h3; cases hx
    | mapIter a b c d => obtain ⟨_, q, hx, _⟩ := h3; cases hx
    | strIter s p => obtain ⟨_, hx⟩ := h3; cases hx
    | loop st pd T ps as b => obtain ⟨L, hx, _⟩ := h3; cases hx
    | dead => cases hl
  simp only
  rw [Array.getElem?_setIfInBounds_ne hne]
  exact h2

theorem leaves_marks {fn : Func} {tmps : Array Value} {R : Ending → World → Prop} {n : Nat} {m0 m : Mp} {h0 h : H} {w0 : World} : ∀ (rs : List Nat) (ds : List Deferred) (w : World), ds.map (·.target) = rs.map Target.collected → rs.Nodup →
    (∀ r ∈ rs, w0.heap.size ≤ r ∧ w.heap[r]? = some (.deferred (some []))) → HR P m h w → Ext m0 h0 w0 m h w →
    (∀ w', HR P m h w' → Ext m0 h0 w0 m h w' → LeavesIn (FF none) n P fn tmps R [] .returning w') → LeavesInM (FF none) n P fn tmps R ds .returning w
  | [], ds, w, h1, _, _, h4, h5, h6 => by
    cases ds with
    | nil => exact h6 w h4 h5
    | cons d ds => simp at h1
  | r :: rs, ds, w, h1, h2, h3, h4, h5, h6 => by
    cases ds with
    | nil => simp at h1
    | cons d ds =>
      simp only [List.map_cons, List.cons.injEq] at h1
      obtain ⟨h1a, h1b⟩ := h1
      obtain ⟨hnm, hnd⟩ := List.nodup_cons.1 h2
      obtain ⟨k1, k2⟩ := h3 r (List.mem_cons_self)
      refine ⟨by simp, .inl ⟨r, { w with heap := w.heap.setIfInBounds r (.deferred none) }, h1a, ?_, ?_⟩⟩
      · simp [Instr.takeDeferred, run_getObj (P := P) k2 (by intros; simp), run_setObj (P := P) k2 (ob' := .deferred none) (by intros; simp)]
      · refine leaves_marks rs ds _ h1b hnd (fun r' hr' => ?_) (h4.off k2) ?_ h6
        · obtain ⟨q1, q2⟩ := h3 r' (List.mem_cons_of_mem _ hr')
          refine ⟨q1, ?_⟩
          simp only
          rw [Array.getElem?_setIfInBounds_ne (by rintro rfl; exact hnm hr')]
          exact q2
        · refine ⟨h5.sub, h5.hsize, by simpa using h5.wsize, fun b hb hn => ?_, h5.own, h5.os, h5.output, h5.tape, h5.rng⟩
          simp only
          rw [Array.getElem?_setIfInBounds_ne (by omega)]
          exact h5.frame b hb hn

def resOne (tmps : Array Value) : ResultVar → Sem Value
  | .tmp t => pure (tmps.getD t undef)
  | .cell a t => do loadVar t (← asAddr (tmps.getD a undef))

theorem run_resV {m : Mp} {h : H} {w : World} (hr : HR P m h w) {T : List V} {tmps : Array Value} (ht : TR m T tmps) : ∀ (rvs : List ResultVar) (rs : List RV) (vs : List V), cRV P rvs = some rs → resVs T h rs = some vs →
    ∃ xs, (rvs.mapM (resOne tmps)).run P w = .ok xs w ∧ VRL m vs xs
  | [], rs, vs, h1, h2 => by
    cases h1; cases h2
    exact ⟨[], rfl, rfl⟩
  | .tmp t :: r, rs, vs, h1, h2 => by
    simp only [cRV] at h1
    cases h3 : cRV P r with
    | none => simp [h3] at h1
    | some rs' =>
      simp [h3] at h1; subst h1
      simp only [resVs] at h2
      split at h2 <;> cases h2
      rename_i v vs' e1 e2
      obtain ⟨xs, k1, k2⟩ := run_resV hr ht r rs' vs' h3 e2
      simp only [resV] at e1
      obtain ⟨x, hx, hv⟩ := VRL.get ht e1
      rw [Array.getElem?_toList] at hx
      have hx' : tmps.getD t undef = x := by simp [Array.getD_eq_getD_getElem?, hx]
      refine ⟨x :: xs, ?_, VRL.cons hv k2⟩
      simp only [List.mapM_cons, resOne, Sem.run_bind, hx', Sem.run_pure, Result.andThen_ok]
      rw [k1]
      simp
  | .cell a t :: r, rs, vs, h1, h2 => by
    simp only [cRV] at h1
    split at h1 <;> cases h1
    rename_i s rs' h4 h3
    simp only [resVs] at h2
    split at h2 <;> cases h2
    rename_i v vs' e1 e2
    obtain ⟨xs, k1, k2⟩ := run_resV hr ht r rs' vs' h3 e2
    simp only [resV] at e1
    split at e1
    · rename_i i q hT
      obtain ⟨x, hx, hv⟩ := VRL.get ht hT
      obtain ⟨R, sh, ex, hm, rfl⟩ := hv
      rw [Array.getElem?_toList] at hx
      have hx' : tmps.getD a undef = .pointer (some ⟨R, sh + q, none⟩) := by simp [Array.getD_eq_getD_getElem?, hx]
      split at e1
      · rename_i cs ty op ro fz hg
        have hload : ∃ y, (loadVar t ⟨R, sh + q, none⟩).run P w = .ok y w ∧ VR m v y := by
          cases hagg : aggT P t with
          | true =>
            simp only [hagg, if_true] at e1
            split at e1 <;> cases e1
            rename_i hle
            obtain ⟨ys, y1, y2⟩ := hr.loadN hg hm hle
            exact ⟨.agg ys.toArray, by simp [loadVar, run_isAgg' h4, hagg, run_sizeOf h4, y1], ys, y2, rfl⟩
          | false =>
            simp only [hagg, Bool.false_eq_true, if_false] at e1
            obtain ⟨y, y1, y2⟩ := hr.load1 hg hm e1
            exact ⟨y, by simp [loadVar, run_isAgg' h4, hagg, y1], y2⟩
        obtain ⟨y, y1, y2⟩ := hload
        refine ⟨y :: xs, ?_, VRL.cons y2 k2⟩
        simp only [List.mapM_cons, resOne, Sem.run_bind, hx', asAddr, Sem.run_pure, Result.andThen_ok, y1]
        rw [k1]
        simp
      · cases e1
    · cases e1

theorem run_results {m : Mp} {h : H} {w : World} (hr : HR P m h w) {T : List V} {tmps : Array Value} (ht : TR m T tmps) {fn : Func} {rs : List RV} {vs : List V} (h1 : cRV P fn.results.toList = some rs) (h2 : resVs T h rs = some vs) :
    ∃ x, (results fn tmps).run P w = .ok x w ∧ VR m (oneOr vs) x := by
  obtain ⟨xs, k1, k2⟩ := run_resV hr ht _ _ _ h1 h2
  refine ⟨if h : xs.toArray.size = 1 then xs.toArray[0] else .tuple xs.toArray, ?_, ?_⟩
  · have hd : results fn tmps = (do
        let vs ← fn.results.mapM (resOne tmps)
        pure (if h : vs.size = 1 then vs[0] else .tuple vs)) := rfl
    rw [hd, Array.mapM_eq_mapM_toList]
    simp only [Sem.run_bind, Sem.run_map, k1, Result.andThen_ok]
    rfl
  · cases vs with
    | nil => cases k2; exact ⟨[], rfl, rfl⟩
    | cons v vs =>
      obtain ⟨y, ys, j1, j2, rfl⟩ := k2
      cases vs with
      | nil => cases j2; exact j1
      | cons u us =>
        obtain ⟨z, zs, i1, i2, rfl⟩ := j2
        exact ⟨_, VRL.cons j1 (VRL.cons i1 i2), by simp⟩
end Go.AM
/-! Soundness, XVII: the evaluator's answers are the machine's. -/
namespace Go.AM
variable {P : Program} {ap : Ap}

theorem cFn_spec {fn : Func} {f : Fn} (hc : cFn P fn = some f) : fn.name ≠ "runtime.NumGoroutine" ∧ ∃ b c rs, fn.body = some b ∧ cC P b = some c ∧ cRV P fn.results.toList = some rs ∧ f = ⟨fn.ntmps, rs, c⟩ := by
  unfold cFn at hc
  split at hc
  · cases hc
  · rename_i hn
    refine ⟨by simpa using hn, ?_⟩
    split at hc
    · cases hc
    · rename_i b hb
      split at hc <;> cases hc
      rename_i c rs h1 h2
      exact ⟨b, c, rs, hb, h1, h2, rfl⟩

theorem evFn_sound (hmix : P.follows .mixedOrders = true) (ha : ApOK P ap) {k : Nat} {g : Nat} {fn : Func} {f : Fn} (hg : P.funcs[g]? = some fn) (hc : cFn P fn = some f) {args : List V} {h : H} {v : V} {h' : H} (he : evFn P ap k f args h = some (v, h'))
    {m : Mp} {w : World} {xs : List Value} (hr : HR P m h w) (hx : VRL m args xs) (n : Nat) : CallsIn (FF none) n P g xs.toArray w (Post P m h w v h') := by
  obtain ⟨hnm, b, c, rs, h1, h2, h3, rfl⟩ := cFn_spec hc
  unfold evFn at he
  simp only at he
  split at he
  · rename_i hlen
    refine callsIn_of_wp_marks hg h1 trivial ?_
    have cx : Cx P m h w (args ++ List.replicate (fn.ntmps - args.length) undefV) { tmps := xs.toArray ++ Array.replicate (fn.ntmps - xs.toArray.size) undef, defers := [] } := by
      refine ⟨?_, hr⟩
      simp only [TR, Array.toList_append, Array.toList_replicate, List.size_toArray, hx.length]
      exact hx.append (VRL.replicate VR.undef _)
    have hd : DefOK w.heap.size m h w [] := ⟨Nat.le_refl _, [], rfl, List.nodup_nil, by simp⟩
    have fin : ∀ (ex : Ex) (T' : List V) (h'' : H), (ex = .nrm ∨ ex = .ret) → evC P ap k none c (args ++ List.replicate (fn.ntmps - args.length) undefV, h) = some (ex, (T', h'')) → (resVs T' h'' rs).map (fun vs => (oneOr vs, h'')) = some (v, h') →
        b.wpIn (FF none) n P (bodyPostM (FF none) n P fn (Post P m h w v h')) { tmps := xs.toArray ++ Array.replicate (fn.ntmps - xs.toArray.size) undef, defers := [] } w := by
      intro ex T' h'' hex hev hres
      cases hrv : resVs T' h'' rs with
      | none => simp [hrv] at hres
      | some vs =>
        simp [hrv] at hres
        obtain ⟨rfl, rfl⟩ := hres
        refine code_sound (ro := none) (R := none) hmix ha b c h2 hev cx trivial hd fun m' w' a' hat => ?_
        have post : LeavesInM (FF none) n P fn a'.tmps (Post P m h w (oneOr vs) h'') a'.defers .returning w' := by
          obtain ⟨rs0, e1, e2, e3⟩ := hat.dfr.marks
          refine leaves_marks rs0 a'.defers w' e1 e2 (fun r hr => ⟨(e3 r hr).1, (e3 r hr).2.1⟩) hat.cx.hr hat.ext fun w2 k1 k2 => ?_
          obtain ⟨x, j1, j2⟩ := run_results k1 hat.cx.tr h3 hrv
          exact ⟨x, j1, m', x, rfl, j2, k1, k2⟩
        rcases hex with rfl | rfl <;> exact post
    split at he
    · rename_i T' h'' hev
      exact fin .nrm T' h'' (.inl rfl) hev he
    · rename_i T' h'' hev
      exact fin .ret T' h'' (.inr rfl) hev he
    · cases he
  · cases he

theorem zipSet_sound {m : Mp} : ∀ (ps : List Nat) (args : List V) (xs : List Value) (T : List V) (tl : List Value), VRL m T tl → VRL m args xs →
    VRL m (zipSet T ps args) ((ps.zip xs).foldl (fun l p => l.set p.1 p.2) tl)
  | [], args, xs, T, tl, h, _ => by simpa [zipSet] using h
  | p :: ps, [], xs, T, tl, h, h2 => by cases h2; simpa [zipSet] using h
  | p :: ps, v :: args, _, T, tl, h, h2 => by
    obtain ⟨y, ys, j1, j2, rfl⟩ := h2
    simpa [zipSet] using zipSet_sound ps args ys _ _ (VRL.set h j1 p) j2

theorem foldl_set_list : ∀ (l : List (Nat × Value)) (t : Array Value), (l.foldl (fun (t : Array Value) p => t.setIfInBounds p.1 p.2) t).toList = l.foldl (fun l p => l.set p.1 p.2) t.toList
  | [], _ => rfl
  | p :: l, t => by
    simp only [List.foldl_cons]
    rw [foldl_set_list l, Array.toList_setIfInBounds]

theorem evRound_sound (hmix : P.follows .mixedOrders = true) (ha : ApOK P ap) {k : Nat} {l : Nat} {args : List V} {h : H} {v : V} {h' : H} (he : evRound P ap k l args h = some (v, h'))
    {m : Mp} {w : World} {xs : List Value} {R sh e : Nat} (hr : HR P m h w) (hm : m l = some (R, sh, e)) (hx : VRL m args xs) :
    ∃ L : Loop, w.heap[R]? = some (.loop L) ∧ xs.length = L.params.size ∧
      ∀ n, RoundIn (FF none) n P R L.fn ((L.params.zip xs.toArray).foldl (fun tmps (t, a) => tmps.setIfInBounds t a) L.tmps) L.assign L.body w (Post P m h w v h') := by
  unfold evRound at he
  split at he
  · rename_i st pd T ps as b hg
    split at he
    · rename_i hlen
      obtain ⟨L, q1, q2, q3, q4, q5, q6, q7⟩ := hr.loop hg hm
      refine ⟨L, q1, by rw [hx.length, hlen, q5]; simp, fun n => ?_⟩
      have cx : Cx P m h w (zipSet T ps args) { tmps := (L.params.zip xs.toArray).foldl (fun tmps (t, a) => tmps.setIfInBounds t a) L.tmps, defers := [] } := by
        refine ⟨?_, hr⟩
        have := zipSet_sound ps args xs T L.tmps.toList q4 hx
        rw [← foldl_set_list] at this
        simp only [TR]
        rw [← Array.foldl_toList, Array.toList_zip, q5]
        exact this
      have hd : DefOK 0 m h w [] := ⟨Nat.zero_le _, [], rfl, List.nodup_nil, by simp⟩
      split at he
      · rename_i T1 h1 hev
        split at he
        · rename_i pd1 T2 ps2 as2 b2 hg1
          split at he
          · rename_i ex T3 h2 hev2
            split at he
            · rename_i st3 pd3 T4 ps4 as4 b4 hg2
              refine roundIn_of_wpIn (F := FF none) trivial ?_
              refine code_sound (ro := some l) (R := some R) hmix ha L.assign as q6 hev cx ⟨sh, e, hm⟩ hd fun m1 w1 a1 hat => ?_
              have hm1 := hat.ext.sub _ _ hm
              obtain ⟨L1, r1, r2, r3, r4, r5, r6, r7⟩ := hat.cx.hr.loop hg1 hm1
              obtain ⟨s1, s2⟩ := hat.cx.hr.set (o' := .loop .busy pd1 T2 ps2 as2 b2) hg1 rfl hm1 (Upd.setObj r1 (ob' := .loop { L1 with state := .busy })) ⟨_, rfl, rfl, r3, r4, r5, r6, r7⟩
              refine ⟨{ w1 with heap := w1.heap.setIfInBounds R (.loop { L1 with state := .busy }) }, ?_, ?_⟩
              · simp [Instr.beginRound, run_getLoop (P := P) r1, run_setObj (P := P) r1 (ob' := .loop { L1 with state := .busy }) (by intros; simp), r2]
              · have hcx2 : Cx P m1 (h1.set l (.loop .busy pd1 T2 ps2 as2 b2)) { w1 with heap := w1.heap.setIfInBounds R (.loop { L1 with state := .busy }) } T1 a1 := ⟨hat.cx.tr, s1⟩
                refine code_sound (ro := some l) (R := some R) (B := 0) hmix ha L.body b q7 hev2 hcx2 ⟨sh, e, hm1⟩ (hat.dfr.ext s2) fun m2 w2 a2 hat2 => ?_
                have hm2 := hat2.ext.sub _ _ hm1
                obtain ⟨L2, u1, u2, u3, u4, u5, u6, u7⟩ := hat2.cx.hr.loop hg2 hm2
                have hext := (hat.ext.trans s2).trans hat2.ext
                have fin : ∀ (jump : Option Code) (pj : Option C) (stj : LoopState), pendR pj jump → stj = (if jump.isNone then .ready else .done) →
                    ∃ v' w', (Instr.endRound R jump).run P w2 = .ok v' w' ∧ Post P m h w (.bool jump.isNone) (h2.set l (.loop stj pj T4 ps4 as4 b4)) (.returned v') w' := by
                  intro jump pj stj hpj hst
                  obtain ⟨t1, t2⟩ := hat2.cx.hr.set (o' := .loop stj pj T4 ps4 as4 b4) hg2 rfl hm2 (Upd.setObj u1 (ob' := .loop { L2 with state := if jump.isNone then .ready else .done, pending := jump })) ⟨_, rfl, hst.symm, hpj, u4, u5, u6, u7⟩
                  refine ⟨.bool jump.isNone, _, ?_, m2, .bool jump.isNone, rfl, rfl, t1, hext.trans t2⟩
                  have hso := run_setObj (P := P) u1 (ob' := .loop { L2 with state := if jump.isNone then .ready else .done, pending := jump }) (by intros; simp)
                  simp only [Instr.endRound, Sem.run_bind, run_getLoop (P := P) u1, Result.andThen_ok]
                  rw [hso]
                  rfl
                cases ex with
                | nrm => cases he; exact fin none none .ready trivial rfl
                | ret => cases he; exact fin (some .ret) (some .ret) .done trivial rfl
                | exit id => cases he; exact fin (some (.exit id)) (some (.exit id)) .done rfl rfl
            · cases he
          · cases he
        · cases he
      · cases he
    · cases he
  · cases he

def PrimOK (P : Program) (prim : Nat → Option (List V → H → Option (V × H))) : Prop :=
  ∀ g f, prim g = some f → (∃ fn, P.funcs[g]? = some fn ∧ fn.body.isNone = false ∧ fn.name ≠ "runtime.NumGoroutine") ∧
    ∀ args h v h' m w (xs : List Value), f args h = some (v, h') → HR P m h w → VRL m args xs → ∀ n, CallsIn (FF none) n P g xs.toArray w (Post P m h w v h')

theorem ap_sound (hmix : P.follows .mixedOrders = true) {prim : Nat → Option (List V → H → Option (V × H))} (hp : PrimOK P prim) : ∀ n, ApOK P (Go.AM.ap P (envOf P prim) n)
  | 0 => ⟨fun h => by simp [Go.AM.ap] at h, fun h => by simp [Go.AM.ap] at h, fun h => by simp [Go.AM.ap] at h⟩
  | n + 1 => by
    have ih := ap_sound hmix hp n
    refine ⟨?_, ?_, ?_⟩
    · intro g fs cs args h v h' m w xs he hr hx
      simp only [Go.AM.ap] at he
      split at he
      · rename_i f hf
        obtain ⟨k1, k2⟩ := hp g f hf
        exact ⟨k1, k2 _ _ _ _ _ _ _ he hr hx⟩
      · split at he
        · rename_i fnc hfn
          simp only [envOf] at hfn
          cases hg : P.funcs[g]? with
          | none => simp [hg] at hfn
          | some fn =>
            simp [hg] at hfn
            obtain ⟨hnm, b, c, rs, h1, h2, h3, h4⟩ := cFn_spec hfn
            exact ⟨⟨fn, rfl, by simp [h1], hnm⟩, evFn_sound hmix ih hg hfn he hr hx⟩
        · cases he
    · intro l args h v h' m w xs R sh e he hr hm hx
      simp only [Go.AM.ap] at he
      exact evRound_sound hmix ih he hr hm hx
    · intro f args h r he
      simp only [Go.AM.ap] at he
      cases f with
      | func g fs cs => exact .inl ⟨g, fs, cs, rfl⟩
      | yield l => exact .inr ⟨l, rfl⟩
      | _ => cases he
end Go.AM
