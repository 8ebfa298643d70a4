/- My own text of the evaluator and its soundness (abstract machine), laid for this claim. -/
import Derived.Test.YtnfeioifkhoikaaGreatDoorAmT
/-! Soundness, XVII: the evaluator's answers are the machine's. -/
namespace Go.AM
variable {P : Program} {ap : Ap}

theorem cFn_spec {fn : Func} {f : Fn} (hc : cFn P fn = some f) : fn.name ≠ "runtime.NumGoroutine" ∧ ∃ b c rs, fn.body = some b ∧ cC P b = some c ∧ cRV P fn.results.toList = some rs ∧ f = ⟨fn.ntmps, rs, c⟩ := by
  unfold cFn at hc
  split at hc
  · cases hc
  · rename_i hn
    refine ⟨by simpa using hn, ?_⟩
    split at hc
    · cases hc
    · rename_i b hb
      split at hc <;> cases hc
      rename_i c rs h1 h2
      exact ⟨b, c, rs, hb, h1, h2, rfl⟩

theorem evFn_sound (hmix : P.follows .mixedOrders = true) (ha : ApOK P ap) {k : Nat} {g : Nat} {fn : Func} {f : Fn} (hg : P.funcs[g]? = some fn) (hc : cFn P fn = some f) {args : List V} {h : H} {v : V} {h' : H} (he : evFn P ap k f args h = some (v, h'))
    {m : Mp} {w : World} {xs : List Value} (hr : HR P m h w) (hx : VRL m args xs) (n : Nat) : CallsIn (FF none) n P g xs.toArray w (Post P m h w v h') := by
  obtain ⟨hnm, b, c, rs, h1, h2, h3, rfl⟩ := cFn_spec hc
  unfold evFn at he
  simp only at he
  split at he
  · rename_i hlen
    refine callsIn_of_wp_marks hg h1 trivial ?_
    have cx : Cx P m h w (args ++ List.replicate (fn.ntmps - args.length) undefV) { tmps := xs.toArray ++ Array.replicate (fn.ntmps - xs.toArray.size) undef, defers := [] } := by
      refine ⟨?_, hr⟩
      simp only [TR, Array.toList_append, Array.toList_replicate, List.size_toArray, hx.length]
      exact hx.append (VRL.replicate VR.undef _)
    have hd : DefOK w.heap.size m h w [] := ⟨Nat.le_refl _, [], rfl, List.nodup_nil, by simp⟩
    have fin : ∀ (ex : Ex) (T' : List V) (h'' : H), (ex = .nrm ∨ ex = .ret) → evC P ap k none c (args ++ List.replicate (fn.ntmps - args.length) undefV, h) = some (ex, (T', h'')) → (resVs T' h'' rs).map (fun vs => (oneOr vs, h'')) = some (v, h') →
        b.wpIn (FF none) n P (bodyPostM (FF none) n P fn (Post P m h w v h')) { tmps := xs.toArray ++ Array.replicate (fn.ntmps - xs.toArray.size) undef, defers := [] } w := by
      intro ex T' h'' hex hev hres
      cases hrv : resVs T' h'' rs with
      | none => simp [hrv] at hres
      | some vs =>
        simp [hrv] at hres
        obtain ⟨rfl, rfl⟩ := hres
        refine code_sound (ro := none) (R := none) hmix ha b c h2 hev cx trivial hd fun m' w' a' hat => ?_
        have post : LeavesInM (FF none) n P fn a'.tmps (Post P m h w (oneOr vs) h'') a'.defers .returning w' := by
          obtain ⟨rs0, e1, e2, e3⟩ := hat.dfr.marks
          refine leaves_marks rs0 a'.defers w' e1 e2 (fun r hr => ⟨(e3 r hr).1, (e3 r hr).2.1⟩) hat.cx.hr hat.ext fun w2 k1 k2 => ?_
          obtain ⟨x, j1, j2⟩ := run_results k1 hat.cx.tr h3 hrv
          exact ⟨x, j1, m', x, rfl, j2, k1, k2⟩
        rcases hex with rfl | rfl <;> exact post
    split at he
    · rename_i T' h'' hev
      exact fin .nrm T' h'' (.inl rfl) hev he
    · rename_i T' h'' hev
      exact fin .ret T' h'' (.inr rfl) hev he
    · cases he
  · cases he

theorem zipSet_sound {m : Mp} : ∀ (ps : List Nat) (args : List V) (xs : List Value) (T : List V) (tl : List Value), VRL m T tl → VRL m args xs →
    VRL m (zipSet T ps args) ((ps.zip xs).foldl (fun l p => l.set p.1 p.2) tl)
  | [], args, xs, T, tl, h, _ => by simpa [zipSet] using h
  | p :: ps, [], xs, T, tl, h, h2 => by cases h2; simpa [zipSet] using h
  | p :: ps, v :: args, _, T, tl, h, h2 => by
    obtain ⟨y, ys, j1, j2, rfl⟩ := h2
    simpa [zipSet] using zipSet_sound ps args ys _ _ (VRL.set h j1 p) j2

theorem foldl_set_list : ∀ (l : List (Nat × Value)) (t : Array Value), (l.foldl (fun (t : Array Value) p => t.setIfInBounds p.1 p.2) t).toList = l.foldl (fun l p => l.set p.1 p.2) t.toList
  | [], _ => rfl
  | p :: l, t => by
    simp only [List.foldl_cons]
    rw [foldl_set_list l, Array.toList_setIfInBounds]

theorem evRound_sound (hmix : P.follows .mixedOrders = true) (ha : ApOK P ap) {k : Nat} {l : Nat} {args : List V} {h : H} {v : V} {h' : H} (he : evRound P ap k l args h = some (v, h'))
    {m : Mp} {w : World} {xs : List Value} {R sh e : Nat} (hr : HR P m h w) (hm : m l = some (R, sh, e)) (hx : VRL m args xs) :
    ∃ L : Loop, w.heap[R]? = some (.loop L) ∧ xs.length = L.params.size ∧
      ∀ n, RoundIn (FF none) n P R L.fn ((L.params.zip xs.toArray).foldl (fun tmps (t, a) => tmps.setIfInBounds t a) L.tmps) L.assign L.body w (Post P m h w v h') := by
  unfold evRound at he
  split at he
  · rename_i st pd T ps as b hg
    split at he
    · rename_i hlen
      obtain ⟨L, q1, q2, q3, q4, q5, q6, q7⟩ := hr.loop hg hm
      refine ⟨L, q1, by rw [hx.length, hlen, q5]; simp, fun n => ?_⟩
      have cx : Cx P m h w (zipSet T ps args) { tmps := (L.params.zip xs.toArray).foldl (fun tmps (t, a) => tmps.setIfInBounds t a) L.tmps, defers := [] } := by
        refine ⟨?_, hr⟩
        have := zipSet_sound ps args xs T L.tmps.toList q4 hx
        rw [← foldl_set_list] at this
        simp only [TR]
        rw [← Array.foldl_toList, Array.toList_zip, q5]
        exact this
      have hd : DefOK 0 m h w [] := ⟨Nat.zero_le _, [], rfl, List.nodup_nil, by simp⟩
      split at he
      · rename_i T1 h1 hev
        split at he
        · rename_i pd1 T2 ps2 as2 b2 hg1
          split at he
          · rename_i ex T3 h2 hev2
            split at he
            · rename_i st3 pd3 T4 ps4 as4 b4 hg2
              refine roundIn_of_wpIn (F := FF none) trivial ?_
              refine code_sound (ro := some l) (R := some R) hmix ha L.assign as q6 hev cx ⟨sh, e, hm⟩ hd fun m1 w1 a1 hat => ?_
              have hm1 := hat.ext.sub _ _ hm
              obtain ⟨L1, r1, r2, r3, r4, r5, r6, r7⟩ := hat.cx.hr.loop hg1 hm1
              obtain ⟨s1, s2⟩ := hat.cx.hr.set (o' := .loop .busy pd1 T2 ps2 as2 b2) hg1 rfl hm1 (Upd.setObj r1 (ob' := .loop { L1 with state := .busy })) ⟨_, rfl, rfl, r3, r4, r5, r6, r7⟩
              refine ⟨{ w1 with heap := w1.heap.setIfInBounds R (.loop { L1 with state := .busy }) }, ?_, ?_⟩
              · simp [Instr.beginRound, run_getLoop (P := P) r1, run_setObj (P := P) r1 (ob' := .loop { L1 with state := .busy }) (by intros; simp), r2]
              · have hcx2 : Cx P m1 (h1.set l (.loop .busy pd1 T2 ps2 as2 b2)) { w1 with heap := w1.heap.setIfInBounds R (.loop { L1 with state := .busy }) } T1 a1 := ⟨hat.cx.tr, s1⟩
                refine code_sound (ro := some l) (R := some R) (B := 0) hmix ha L.body b q7 hev2 hcx2 ⟨sh, e, hm1⟩ (hat.dfr.ext s2) fun m2 w2 a2 hat2 => ?_
                have hm2 := hat2.ext.sub _ _ hm1
                obtain ⟨L2, u1, u2, u3, u4, u5, u6, u7⟩ := hat2.cx.hr.loop hg2 hm2
                have hext := (hat.ext.trans s2).trans hat2.ext
                have fin : ∀ (jump : Option Code) (pj : Option C) (stj : LoopState), pendR pj jump → stj = (if jump.isNone then .ready else .done) →
                    ∃ v' w', (Instr.endRound R jump).run P w2 = .ok v' w' ∧ Post P m h w (.bool jump.isNone) (h2.set l (.loop stj pj T4 ps4 as4 b4)) (.returned v') w' := by
                  intro jump pj stj hpj hst
                  obtain ⟨t1, t2⟩ := hat2.cx.hr.set (o' := .loop stj pj T4 ps4 as4 b4) hg2 rfl hm2 (Upd.setObj u1 (ob' := .loop { L2 with state := if jump.isNone then .ready else .done, pending := jump })) ⟨_, rfl, hst.symm, hpj, u4, u5, u6, u7⟩
                  refine ⟨.bool jump.isNone, _, ?_, m2, .bool jump.isNone, rfl, rfl, t1, hext.trans t2⟩
                  have hso := run_setObj (P := P) u1 (ob' := .loop { L2 with state := if jump.isNone then .ready else .done, pending := jump }) (by intros; simp)
                  simp only [Instr.endRound, Sem.run_bind, run_getLoop (P := P) u1, Result.andThen_ok]
                  rw [hso]
                  rfl
                cases ex with
                | nrm => cases he; exact fin none none .ready trivial rfl
                | ret => cases he; exact fin (some .ret) (some .ret) .done trivial rfl
                | exit id => cases he; exact fin (some (.exit id)) (some (.exit id)) .done rfl rfl
            · cases he
          · cases he
        · cases he
      · cases he
    · cases he
  · cases he

def PrimOK (P : Program) (prim : Nat → Option (List V → H → Option (V × H))) : Prop :=
  ∀ g f, prim g = some f → (∃ fn, P.funcs[g]? = some fn ∧ fn.body.isNone = false ∧ fn.name ≠ "runtime.NumGoroutine") ∧
    ∀ args h v h' m w (xs : List Value), f args h = some (v, h') → HR P m h w → VRL m args xs → ∀ n, CallsIn (FF none) n P g xs.toArray w (Post P m h w v h')

theorem ap_sound (hmix : P.follows .mixedOrders = true) {prim : Nat → Option (List V → H → Option (V × H))} (hp : PrimOK P prim) : ∀ n, ApOK P (Go.AM.ap P (envOf P prim) n)
  | 0 => ⟨fun h => by simp [Go.AM.ap] at h, fun h => by simp [Go.AM.ap] at h, fun h => by simp [Go.AM.ap] at h⟩
  | n + 1 => by
    have ih := ap_sound hmix hp n
    refine ⟨?_, ?_, ?_⟩
    · intro g fs cs args h v h' m w xs he hr hx
      simp only [Go.AM.ap] at he
      split at he
      · rename_i f hf
        obtain ⟨k1, k2⟩ := hp g f hf
        exact ⟨k1, k2 _ _ _ _ _ _ _ he hr hx⟩
      · split at he
        · rename_i fnc hfn
          simp only [envOf] at hfn
          cases hg : P.funcs[g]? with
          | none => simp [hg] at hfn
          | some fn =>
            simp [hg] at hfn
            obtain ⟨hnm, b, c, rs, h1, h2, h3, h4⟩ := cFn_spec hfn
            exact ⟨⟨fn, rfl, by simp [h1], hnm⟩, evFn_sound hmix ih hg hfn he hr hx⟩
        · cases he
    · intro l args h v h' m w xs R sh e he hr hm hx
      simp only [Go.AM.ap] at he
      exact evRound_sound hmix ih he hr hm hx
    · intro f args h r he
      simp only [Go.AM.ap] at he
      cases f with
      | func g fs cs => exact .inl ⟨g, fs, cs, rfl⟩
      | yield l => exact .inr ⟨l, rfl⟩
      | _ => cases he
end Go.AM
