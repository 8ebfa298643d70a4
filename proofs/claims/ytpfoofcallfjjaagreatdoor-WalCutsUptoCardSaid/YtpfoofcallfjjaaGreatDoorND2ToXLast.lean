/- My own texts, laid for this claim. -/
import Derived.Test.YtpfoofcallfjjaaGreatDoorXGoToXPrim4
set_option linter.unusedSimpArgs false
set_option linter.unusedVariables false
/-! A function whose map loops may take any order, as a primitive: its answer is one, and what it made is left. -/
namespace Go.AM
variable {P : Program}
mutual
theorem VR.down {m m' : Mp} (hs : Sub m m') : ∀ (v : V) (x0 x : Value), VR m v x0 → VR m' v x → VR m v x
  | .bool _, _, _, _, h => h
  | .int _ _, _, _, _, h => h
  | .str _, _, _, _, h => h
  | .ptr none, _, _, _, h => h
  | .ptr (some (i, o)), x0, x, h0, h => by
    obtain ⟨r, sh, e, h1, h2⟩ := h0
    obtain ⟨r', sh', e', h3, h4⟩ := h
    have := hs _ _ h1; rw [this] at h3; cases h3
    exact ⟨r, sh, e, h1, h4⟩
  | .slice none _ _ _, _, _, _, h => h
  | .slice (some (i, o)) len cap opn, x0, x, h0, h => by
    obtain ⟨r, sh, e, ad, h1, h2⟩ := h0
    obtain ⟨r', sh', e', ad', h3, h4⟩ := h
    have := hs _ _ h1; rw [this] at h3; cases h3
    exact ⟨r, sh, e, ad', h1, h4⟩
  | .map none, _, _, _, h => h
  | .map (some i), x0, x, h0, h => by
    obtain ⟨r, sh, e, h1, h2⟩ := h0
    obtain ⟨r', sh', e', h3, h4⟩ := h
    have := hs _ _ h1; rw [this] at h3; cases h3
    exact ⟨r, sh, e, h1, h4⟩
  | .func f fs cs, x0, x, h0, h => by
    obtain ⟨xs, ys, h1, h2, h3⟩ := h0
    obtain ⟨xs', ys', h1', h2', h3'⟩ := h
    exact ⟨xs', ys', VRL.down hs _ _ _ h1 h1', VRL.down hs _ _ _ h2 h2', h3'⟩
  | .yield l, x0, x, h0, h => by
    obtain ⟨r, sh, e, h1, h2⟩ := h0
    obtain ⟨r', sh', e', h3, h4⟩ := h
    have := hs _ _ h1; rw [this] at h3; cases h3
    exact ⟨r, sh, e, h1, h4⟩
  | .nilFunc, _, _, _, h => h
  | .iface t v, x0, x, h0, h => by
    obtain ⟨y, h1, h2⟩ := h0
    obtain ⟨y', h3, h4⟩ := h
    exact ⟨y', VR.down hs _ _ _ h1 h3, h4⟩
  | .nilIface, _, _, _, h => h
  | .agg cs, x0, x, h0, h => by
    obtain ⟨y, h1, h2⟩ := h0
    obtain ⟨y', h3, h4⟩ := h
    exact ⟨y', VRL.down hs _ _ _ h1 h3, h4⟩
  | .tup cs, x0, x, h0, h => by
    obtain ⟨y, h1, h2⟩ := h0
    obtain ⟨y', h3, h4⟩ := h
    exact ⟨y', VRL.down hs _ _ _ h1 h3, h4⟩
  | .junk, _, _, _, h => h
theorem VRL.down {m m' : Mp} (hs : Sub m m') : ∀ (v : List V) (x0 x : List Value), VRL m v x0 → VRL m' v x → VRL m v x
  | [], _, _, _, h => h
  | v :: vs, x0, x, h0, h => by
    obtain ⟨y, ys, h1, h2, h3⟩ := h0
    obtain ⟨y', ys', h1', h2', h3'⟩ := h
    exact ⟨y', ys', VR.down hs _ _ _ h1 h1', VRL.down hs _ _ _ h2 h2', h3'⟩
end
theorem ER.down {m m' : Mp} (hs : Sub m m') : ∀ {es : List (V × V × Nat)} {y0 ys : List MapEntry}, ER m es y0 → ER m' es ys → ER m es ys
  | [], _, _, _, h => h
  | _ :: _, _, _, h0, h => by
    obtain ⟨y, ys, h1, h2, h3, h4, h5⟩ := h0
    obtain ⟨y', ys', h1', h2', h3', h4', h5'⟩ := h
    exact ⟨y', ys', VR.down hs _ _ _ h1 h1', VR.down hs _ _ _ h2 h2', h3', ER.down hs h4 h4', h5'⟩
theorem OR.down {m m' : Mp} (hs : Sub m m') {ob0 ob : Go.Obj} {sh e : Nat} : ∀ {o : Obj}, OR P m ob0 sh e o → OR P m' ob sh e o → OR P m ob sh e o
  | .cells .., h0, h => by
    obtain ⟨c0, f0, h1, h2, h3⟩ := h0
    obtain ⟨c, fzr, h1', h2', h3'⟩ := h
    exact ⟨c, fzr, h1', VRL.down hs _ _ _ h2 h2', h3'⟩
  | .map .., h0, h => by
    obtain ⟨c0, h1, h2⟩ := h0
    obtain ⟨es', h1', h2'⟩ := h
    exact ⟨es', h1', h2.down hs h2'⟩
  | .mapIter mm _ _ _, h0, h => by
    obtain ⟨z0, r, h1, h2⟩ := h0
    obtain ⟨z0', r', h1', h2'⟩ := h
    refine ⟨z0', r', h1', ?_⟩
    cases mm with
    | none => exact h2'
    | some i =>
      obtain ⟨b, sh, e, h3, h4⟩ := h2
      obtain ⟨b', sh', e', h3', h4'⟩ := h2'
      have := hs _ _ h3; rw [this] at h3'; cases h3'
      exact ⟨b, sh, e, h3, h4'⟩
  | .strIter .., _, h => h
  | .loop .., h0, h => by
    obtain ⟨L0, a1, a2, a3, a4, a5⟩ := h0
    obtain ⟨L, h1, h2, h3, h4, h5⟩ := h
    exact ⟨L, h1, h2, h3, VRL.down hs _ _ _ a4 h4, h5⟩
  | .dead, _, h => h
/-- What was made is left: the old heap stands as it stood. -/
theorem HR.shrink {m m' : Mp} {h h' : H} {w w' : World} (hr : HR P m h w) (hr' : HR P m' h' w') (hx : Ext m h w m' h' w') (hk : Kp h h') : HR P m h w' ∧ Ext m h w m h w' := by
  refine ⟨⟨hr.ok, hr.dom, hr.glob, fun i r sh e hm => Nat.lt_of_lt_of_le (hr.blk i r sh e hm) hx.wsize, fun i o hg hl => ?_, hr.inj⟩, ⟨Sub.refl m, Nat.le_refl _, hx.wsize, hx.frame, fun _ _ h => h, hx.os, hx.output, hx.tape, fun _ _ h => h⟩⟩
  obtain ⟨r, sh, e, ob0, q1, q2, q3⟩ := hr.obj i o hg hl
  obtain ⟨r', sh', e', ob', p1, p2, p3⟩ := hr'.obj i o (hk.of hg) hl
  have := hx.sub _ _ q1; rw [this] at p1; cases p1
  exact ⟨r, sh, e, ob', q1, p2, q3.down hx.sub p3⟩

/-- A function's every run. -/
def NSp (P : Program) (E : Env) (f : Fn) (args : List V) (h : H) (Q : V → H → Prop) : Prop :=
  args.length ≤ f.ntmps ∧ NC P E none f.body (toL f.ntmps (argF args), h) fun ex s' => Fin f.results Q ex s'.1 s'.2

theorem NSp_sound (hmix : P.follows .mixedOrders = true) {prim : Nat → Option (List V → H → Option (V × H))} (hp : PrimOK P prim) {g : Nat} {fn : Func} {f : Fn} (hg : P.funcs[g]? = some fn) (hc : cFn P fn = some f) {args : List V} {h : H} {R : V → H → Prop} (he : NSp P (envOf P prim) f args h R)
    {m : Mp} {w : World} {xs : List Value} (hr : HR P m h w) (hx : VRL m args xs) (n : Nat) : CallsIn (FF none) n P g xs.toArray w fun e w' => ∃ v h', R v h' ∧ Post P m h w v h' e w' := by
  obtain ⟨hnm, b, c, rs, h1, h2, h3, rfl⟩ := cFn_spec hc
  obtain ⟨hlen, he⟩ := he
  rw [← toL_args hlen] at he
  refine callsIn_of_wp_marks hg h1 trivial ?_
  have cx : Cx P m h w (args ++ List.replicate (fn.ntmps - args.length) undefV) { tmps := xs.toArray ++ Array.replicate (fn.ntmps - xs.toArray.size) undef, defers := [] } := by
    refine ⟨?_, hr⟩
    simp only [TR, Array.toList_append, Array.toList_replicate, List.size_toArray, hx.length]
    exact hx.append (VRL.replicate VR.undef _)
  have hd : DefOK w.heap.size m h w [] := ⟨Nat.le_refl _, [], rfl, List.nodup_nil, by simp⟩
  refine (NC_sound (R' := none) hmix hp he).1 b h2 cx trivial hd fun ex s' m' w' a' hp hat => ?_
  obtain ⟨hex, hp⟩ := hp
  simp only at hp
  split at hp
  · rename_i vs hrv
    have post : LeavesInM (FF none) n P fn a'.tmps (fun e w' => ∃ v h', R v h' ∧ Post P m h w v h' e w') a'.defers .returning w' := by
      obtain ⟨rs0, e1, e2, e3⟩ := hat.dfr.marks
      refine leaves_marks rs0 a'.defers w' e1 e2 (fun r hr => ⟨(e3 r hr).1, (e3 r hr).2.1⟩) hat.cx.hr hat.ext fun w2 k1 k2 => ?_
      obtain ⟨x, j1, j2⟩ := run_results k1 hat.cx.tr h3 hrv
      exact ⟨x, j1, _, _, hp, m', x, rfl, j2, k1, k2⟩
    cases ex with
    | nrm => exact post
    | ret => exact post
    | exit _ => exact hex.elim
  · exact hp.elim

/-- A call of which every run answers alike, and keeps what was there: as a primitive. -/
theorem nsp_prim (hmix : P.follows .mixedOrders = true) {prim : Nat → Option (List V → H → Option (V × H))} (hp : PrimOK P prim) {g : Nat} {fn : Func} {f : Fn} (hg : P.funcs[g]? = some fn) (hc : cFn P fn = some f) {args : List V} {h : H} {u : V}
    (he : NSp P (envOf P prim) f args h fun v h' => Kp h h' ∧ ∀ m m' x, VR m v x → VR m' u x)
    {m : Mp} {w : World} {xs : List Value} (hr : HR P m h w) (hx : VRL m args xs) (n : Nat) : CallsIn (FF none) n P g xs.toArray w (Post P m h w u h) := by
  refine CallsIn.mono (NSp_sound hmix hp hg hc he hr hx n) fun e w' ⟨v, h', ⟨hk, hv⟩, m', x, h1, h2, h3, h4⟩ => ?_
  obtain ⟨a, b⟩ := hr.shrink h3 h4 hk
  exact ⟨m, x, h1, hv _ _ _ h2, a, b⟩

/-! ### rules -/
theorem NC.weak {P : Program} {E : Env} {ro : Option Nat} {c : C} {s : St} {R R' : Ex → St → Prop} (h : NC P E ro c s R) (hm : ∀ ex s, R ex s → R' ex s) : NC P E ro c s R' := by
  induction h generalizing R' with
  | det h1 h2 h3 => exact .det h1 h2 (hm _ _ h3)
  | seq h1 h2 h3 ih1 ih2 => exact .seq h1 (fun s' hs => ih2 s' hs hm) (fun ex s' hn hs => hm _ _ (h3 ex s' hn hs))
  | condT h1 h2 ih => exact .condT h1 (ih hm)
  | condF h1 h2 ih => exact .condF h1 (ih hm)
  | block h1 h2 h3 h4 ih =>
    refine .block h1 (fun s' hs => hm _ _ (h2 s' hs)) (fun s' hs => hm _ _ (h3 s' hs)) fun i s' hs => ?_
    have := h4 i s' hs
    split
    · rename_i hid; rw [if_pos hid] at this; exact hm _ _ this
    · rename_i hid; rw [if_neg hid] at this; exact hm _ _ this
  | loop h1 h2 h3 ih1 ih2 => exact .loop h1 (fun s' hs => ih2 s' hs hm) (fun ex s' hn hs => hm _ _ (h3 ex s' hn hs))
  | next h1 h2 h3 h4 => exact .next h1 h2 h3 fun p hp => by obtain ⟨s', a, b⟩ := h4 p hp; exact ⟨s', a, hm _ _ b⟩
theorem NSp.mono {E : Env} {f : Fn} {args : List V} {h : H} {Q Q' : V → H → Prop} (s : NSp P E f args h Q) (hq : ∀ v h', Q v h' → Q' v h') : NSp P E f args h Q' := by
  refine ⟨s.1, NC.weak s.2 fun ex s' hs => ?_⟩
  obtain ⟨a, b⟩ := hs
  refine ⟨a, ?_⟩
  split at b
  · exact hq _ _ b
  · exact b
section
variable {E : Env} {ro : Option Nat} {L : Nat} {ρ : Nat → V} {h : H} {R R' : Ex → St → Prop} {c : C}
/-- A piece without choice, run. -/
theorem NC.run {Q : Ex → List V → H → Prop} (hnl : ∀ b, c ≠ .loop b) (hx : X P E ro L [.c c] ρ h Q) (hq : ∀ ex T h', Q ex T h' → R ex (T, h')) : NC P E ro c (toL L ρ, h) R := by
  obtain ⟨ex', T', h', e, q⟩ := hx
  simp only [EK] at e
  cases hc : EC P E ro c (toL L ρ, h) with
  | none => rw [hc] at e; simp at e
  | some r =>
    obtain ⟨ex, s⟩ := r
    rw [hc] at e
    simp only [Option.bind_some, Option.some.injEq, Prod.mk.injEq] at e
    obtain ⟨rfl, rfl⟩ := e
    exact .det hnl hc (hq _ _ _ q)
end
end Go.AM
/-! Maps that only grow, and loops over them in any order. -/
namespace Go.AM
variable {P : Program} {E : Env} {ro : Option Nat}

def mos : List (V × V) → Nat → List (V × V × Nat)
  | [], _ => []
  | x :: r, i => (x.1, x.2, i) :: mos r (i + 1)
/-- A map into which these were laid, in this order. -/
def mo (l : List (V × V)) : Obj := .map (mos l 0) l.length

theorem mos_length : ∀ (l : List (V × V)) (k : Nat), (mos l k).length = l.length
  | [], _ => rfl
  | _ :: r, k => by simp [mos, mos_length r]
theorem mos_append : ∀ (l : List (V × V)) (x : V × V) (k : Nat), mos (l ++ [x]) k = mos l k ++ [(x.1, x.2, k + l.length)]
  | [], _, _ => rfl
  | _ :: r, x, k => by simp [mos, mos_append r, Nat.add_assoc, Nat.add_comm 1]
theorem mos_mem : ∀ {l : List (V × V)} {k : Nat} {e : V × V × Nat}, e ∈ mos l k → ∃ i, l[i]? = some (e.1, e.2.1) ∧ e.2.2 = k + i
  | [], _, _, h => by cases h
  | x :: r, k, e, h => by
    rcases List.mem_cons.1 h with rfl | h
    · exact ⟨0, rfl, rfl⟩
    · obtain ⟨i, h1, h2⟩ := mos_mem h
      exact ⟨i + 1, by simpa using h1, by omega⟩
theorem mem_mos : ∀ {l : List (V × V)} {k i : Nat} {x : V × V}, l[i]? = some x → (x.1, x.2, k + i) ∈ mos l k
  | [], _, _, _, h => by simp at h
  | y :: r, k, 0, x, h => by simp at h; subst h; exact List.mem_cons_self
  | y :: r, k, i + 1, x, h => by
    have := mem_mos (l := r) (k := k + 1) (i := i) (x := x) (by simpa using h)
    rw [show k + (i + 1) = k + 1 + i by omega]
    exact List.mem_cons_of_mem _ this
theorem mos_find : ∀ {l : List (V × V)} {k i : Nat} {x : V × V}, l[i]? = some x → (mos l k).find? (fun e => e.2.2 == k + i) = some (x.1, x.2, k + i)
  | [], _, _, _, h => by simp at h
  | y :: r, k, 0, x, h => by simp at h; subst h; simp [mos]
  | y :: r, k, i + 1, x, h => by
    have := mos_find (l := r) (k := k + 1) (i := i) (x := x) (by simpa using h)
    rw [show k + (i + 1) = k + 1 + i by omega]
    simp only [mos, List.find?_cons]
    rw [show (k == k + 1 + i) = false by simp; omega]
    exact this

/-- A loop over such a map. -/
structure It (h : H) (mp it : Nat) (l : List (V × V)) (seen : List Nat) : Prop where
  map : h.get mp = some (mo l)
  itr : h.get it = some (.mapIter (some mp) l.length seen l.length)

theorem It.parts {h : H} {mp it : Nat} {l : List (V × V)} {seen : List Nat} (_ : It h mp it l seen) :
    (!seen.isEmpty && !(mos l 0).isEmpty && (mos l 0).all (fun e => decide (e.2.2 ≥ l.length))) = false ∧
    ((mos l 0).filter fun e => !seen.contains e.2.2).filter (fun e => decide (e.2.2 < l.length)) = (mos l 0).filter (fun e => !seen.contains e.2.2) ∧
    ((mos l 0).filter fun e => !seen.contains e.2.2).filter (fun e => decide (e.2.2 ≥ l.length)) = [] := by
  have hlt : ∀ e ∈ mos l 0, e.2.2 < l.length := fun e he => by
    obtain ⟨i, h1, h2⟩ := mos_mem he
    have := (List.getElem?_eq_some_iff.1 h1).1
    omega
  refine ⟨?_, ?_, ?_⟩
  · cases l with
    | nil => simp [mos]
    | cons x r =>
      have := hlt (x.1, x.2, 0) (by simp [mos])
      simp only [Bool.and_eq_false_iff]
      exact .inr (by simp [mos])
  · refine List.filter_eq_self.2 fun e he => ?_
    simpa using hlt e (List.mem_filter.1 he).1
  · refine List.filter_eq_nil_iff.2 fun e he => ?_
    have := hlt e (List.mem_filter.1 he).1
    simpa using this

variable {L : Nat} {ρ : Nat → V} {h : H} {R : Ex → St → Prop}

/-- One step of a loop over a map. -/
theorem NC.nextR {d e x mp it : Nat} {l : List (V × V)} {seen : List Nat} {pre pre' : Nat} {ns ns' : List Nat} (hd : d < L) (hx : x < L) (hv : ρ x = .ptr (some (it, 0))) (hi : It h mp it l seen)
    (hend : (∀ i, i < l.length → i ∈ seen) → R .nrm (toL L (up (up ρ d (.tup [.bool false])) e (.bool false)), h))
    (hstep : ∀ i k v, l[i]? = some (k, v) → i ∉ seen → R .nrm (toL L (up (up ρ d (.tup [.bool true, k, v])) e (.bool true)), h.set it (.mapIter (some mp) l.length (seen ++ [i]) l.length))) :
    NC P E ro (.region [⟨some d, .next false (.t x), none, pre, ns⟩, ⟨some e, .extract (.t d) 0, none, pre', ns'⟩]) (toL L ρ, h) R := by
  obtain ⟨p1, p2, p3⟩ := hi.parts
  have hlen := mos_length l 0
  cases hl : (mos l 0).filter fun e => !seen.contains e.2.2 with
  | nil =>
    have hall : ∀ i, i < l.length → i ∈ seen := by
      intro i hlt
      have := List.filter_eq_nil_iff.1 hl _ (mem_mos (k := 0) (List.getElem?_eq_getElem hlt))
      simpa using this
    refine .det (by intro b e; cases e) (s' := (toL L (up (up ρ d (.tup [.bool false])) e (.bool false)), h)) ?_ (hend hall)
    rw [EC_region]
    have e1 : evK P (toL L ρ) h (.next false (.t x)) = some (.eff (.tup [.bool false]) h) := by
      simp only [evK, ev_t hx, hv, hi.itr, hi.map, mo, p1]
      simp only [Bool.false_eq_true, if_false, hl, List.filter_nil]
    have e2 : evK P (toL L (up ρ d (.tup [.bool false]))) h (.extract (.t d) 0) = some (.pur (.bool false)) := by
      simp only [evK, ev_t hd, up_app, if_true]; rfl
    simp only [evOs_cons, evO_step, wantV_none, if_true, e1, stepR, putV_some, Option.bind_some, e2, evOs_nil, Option.map_some]
  | cons e0 r0 =>
    refine .next (x := .t x) (l := (e0 :: r0).map fun e => (.tup [.bool true, e.1, e.2.1], h.set it (.mapIter (some mp) l.length (seen ++ [e.2.2]) l.length))) rfl rfl ?_ ?_
    · unfold nexts
      simp only [ev_t hx, hv, hi.itr, hi.map, mo, p1]
      simp only [Bool.false_eq_true, if_false]
      rw [p2, p3, hl]
      simp
    · intro p hp
      obtain ⟨e', he', rfl⟩ := List.mem_map.1 hp
      rw [← hl] at he'
      obtain ⟨hm, hns⟩ := List.mem_filter.1 he'
      obtain ⟨i, h1, h2⟩ := mos_mem hm
      rw [Nat.zero_add] at h2
      refine ⟨(toL L (up (up ρ d (.tup [.bool true, e'.1, e'.2.1])) e (.bool true)), h.set it (.mapIter (some mp) l.length (seen ++ [e'.2.2]) l.length)), ?_, ?_⟩
      · have e2 : ∀ h', evK P (toL L (up ρ d (.tup [.bool true, e'.1, e'.2.1]))) h' (.extract (.t d) 0) = some (.pur (.bool true)) := by
          intro h'
          simp only [evK, ev_t hd, up_app, if_true]; rfl
        simp only [evOs_cons, evO_step, wantV_none, if_true, putV_some, e2, stepR, evOs_nil, Option.bind_some]
      · rw [h2]
        exact hstep i _ _ h1 (by rw [h2] at hns; simpa using hns)

/-- A loop over a map that stays as it is. -/
theorem NC.maps {d e x q mp it : Nat} {l : List (V × V)} {pre pre' : Nat} {ns ns' : List Nat} {B : C} (hd : d < L) (he : e < L) (hx : x < L)
    (Inv : List Nat → (Nat → V) → H → Prop)
    (hI : ∀ {seen ρ h}, Inv seen ρ h → ρ x = .ptr (some (it, 0)) ∧ It h mp it l seen)
    (hend : ∀ {seen ρ h}, Inv seen ρ h → (∀ i, i < l.length → i ∈ seen) → R (.exit q) (toL L (up (up ρ d (.tup [.bool false])) e (.bool false)), h))
    (hstep : ∀ {seen ρ h}, Inv seen ρ h → seen.Nodup → (∀ i ∈ seen, i < l.length) → ∀ i k v, l[i]? = some (k, v) → i ∉ seen →
      NC P E ro B (toL L (up (up ρ d (.tup [.bool true, k, v])) e (.bool true)), h.set it (.mapIter (some mp) l.length (seen ++ [i]) l.length))
        fun ex s => match ex with
          | .nrm => ∃ ρ' h', s = (toL L ρ', h') ∧ Inv (seen ++ [i]) ρ' h'
          | ex => R ex s) :
    ∀ (n : Nat) {seen ρ h}, Inv seen ρ h → seen.Nodup → (∀ i ∈ seen, i < l.length) → seen.length + n = l.length →
      NC P E ro (.loop (.seq (.region [⟨some d, .next false (.t x), none, pre, ns⟩, ⟨some e, .extract (.t d) 0, none, pre', ns'⟩]) (.seq (.cond (.t e) .skip (.exit q)) B))) (toL L ρ, h) R := by
  intro n
  induction n with
  | zero =>
    intro seen ρ h inv nd lt hn
    obtain ⟨h1, h2⟩ := hI inv
    have hfull : ∀ i k v, l[i]? = some (k, v) → i ∉ seen → False := by
      intro i k v hi hns
      have hi' := (List.getElem?_eq_some_iff.1 hi).1
      have hsub : (i :: seen) ⊆ List.range l.length := by
        intro j hj
        rcases List.mem_cons.1 hj with rfl | hj
        · simpa using hi'
        · simpa using lt j hj
      have := (List.nodup_cons.2 ⟨hns, nd⟩).length_le_of_subset hsub
      simp at this; omega
    refine .loop (M := fun ex s => ex = .exit q ∧ R ex s) (.seq (M := fun ex s => ex = .nrm ∧ s = (toL L (up (up ρ d (.tup [.bool false])) e (.bool false)), h) ∧ ∀ i, i < l.length → i ∈ seen) (NC.nextR hd hx h1 h2 (fun ha => ⟨rfl, rfl, ha⟩) fun i k v hi hns => (hfull i k v hi hns).elim) ?_ ?_) ?_ ?_
    · rintro s' ⟨_, rfl, ha⟩
      refine .seq (M := fun ex s => ex = .exit q ∧ R ex s) (.condF (by simp only [ev_t he, up_app, if_true]) (.det (by intro b e; cases e) (EC_exit q _) ⟨rfl, hend inv ha⟩)) ?_ ?_
      · rintro s' ⟨h, _⟩; cases h
      · rintro ex s' _ h; exact h
    · rintro ex s' hne ⟨h, _⟩; exact (hne h).elim
    · rintro s' ⟨h, _⟩; cases h
    · rintro ex s' _ ⟨_, h⟩; exact h
  | succ n ih =>
    intro seen ρ h inv nd lt hn
    obtain ⟨h1, h2⟩ := hI inv
    refine .loop (M := fun ex s => match ex with
        | .nrm => ∃ i ρ' h', i ∉ seen ∧ i < l.length ∧ s = (toL L ρ', h') ∧ Inv (seen ++ [i]) ρ' h'
        | ex => R ex s)
      (.seq (M := fun ex s => ex = .nrm ∧ ((s = (toL L (up (up ρ d (.tup [.bool false])) e (.bool false)), h) ∧ ∀ i, i < l.length → i ∈ seen) ∨
        ∃ i k v, l[i]? = some (k, v) ∧ i ∉ seen ∧ s = (toL L (up (up ρ d (.tup [.bool true, k, v])) e (.bool true)), h.set it (.mapIter (some mp) l.length (seen ++ [i]) l.length))))
        (NC.nextR hd hx h1 h2 (fun ha => ⟨rfl, .inl ⟨rfl, ha⟩⟩) fun i k v hi hns => ⟨rfl, .inr ⟨i, k, v, hi, hns, rfl⟩⟩) ?_ ?_) ?_ ?_
    · rintro s' ⟨_, ⟨rfl, ha⟩ | ⟨i, k, v, hi, hns, rfl⟩⟩
      · refine .seq (M := fun ex s => ex = .exit q ∧ R ex s) (.condF (by simp only [ev_t he, up_app, if_true]) (.det (by intro b e; cases e) (EC_exit q _) ⟨rfl, hend inv ha⟩)) ?_ ?_
        · rintro s' ⟨h, _⟩; cases h
        · rintro ex s' _ ⟨rfl, h⟩; exact h
      · refine .seq (M := fun ex s => ex = .nrm ∧ s = (toL L (up (up ρ d (.tup [.bool true, k, v])) e (.bool true)), h.set it (.mapIter (some mp) l.length (seen ++ [i]) l.length))) (.condT (by simp only [ev_t he, up_app, if_true]) (.det (by intro b e; cases e) (EC_skip _) ⟨rfl, rfl⟩)) ?_ ?_
        · rintro s' ⟨_, rfl⟩
          have hs := hstep inv nd lt i k v hi hns
          refine NC.weak hs fun ex s => ?_
          cases ex with
          | nrm => rintro ⟨ρ', h', hh, hi'⟩; exact ⟨i, ρ', h', hns, (List.getElem?_eq_some_iff.1 hi).1, hh, hi'⟩
          | ret => exact id
          | exit _ => exact id
        · rintro ex s' hne ⟨h, _⟩; exact (hne h).elim
    · rintro ex s' hne ⟨h, _⟩; exact (hne h).elim
    · rintro s' ⟨i, ρ', h', hns, hlt, rfl, inv'⟩
      refine ih inv' ?_ ?_ ?_
      · exact List.nodup_append.2 ⟨nd, by simp, by intro a ha b hb; simp at hb; subst hb; intro e; subst e; exact hns ha⟩
      · intro j hj
        rcases List.mem_append.1 hj with hj | hj
        · exact lt j hj
        · simp at hj; subst hj; exact hlt
      · simp; omega
    · intro ex s' hne hm
      cases ex with
      | nrm => exact (hne rfl).elim
      | ret => exact hm
      | exit _ => exact hm
/-- Pieces without choice, then one with. -/
theorem NC.preK : ∀ (as : List C) (c : C) (s : St) (ex : Ex) (s' : St) (R : Ex → St → Prop), (∀ a ∈ as, ∀ b, a ≠ .loop b) → EK P E ro (as.map .c) .nrm s = some (ex, s') → (ex = .nrm → NC P E ro c s' R) → (ex ≠ .nrm → R ex s') → NC P E ro (as.foldr .seq c) s R
  | [], c, s, ex, s', R, _, he, h1, _ => by
    simp only [List.map_nil, EK, Option.some.injEq, Prod.mk.injEq] at he
    obtain ⟨rfl, rfl⟩ := he
    exact h1 rfl
  | a :: as, c, s, ex, s', R, hl, he, h1, h2 => by
    simp only [List.map_cons, EK] at he
    cases ha : EC P E ro a s with
    | none => rw [ha] at he; simp at he
    | some r =>
      obtain ⟨e1, s1⟩ := r
      rw [ha] at he
      simp only [Option.bind_some] at he
      have hnl := hl a List.mem_cons_self
      cases e1 with
      | nrm =>
        refine .seq (M := fun ex s => ex = .nrm ∧ s = s1) (.det hnl ha ⟨rfl, rfl⟩) ?_ ?_
        · rintro s2 ⟨_, rfl⟩
          exact NC.preK as c _ ex s' R (fun a h => hl a (List.mem_cons_of_mem _ h)) he h1 h2
        · rintro ex s2 hne ⟨h, _⟩; exact (hne h).elim
      | exit id =>
        have : EK P E ro (as.map .c) (.exit id) s1 = some (.exit id, s1) := by
          clear he hl
          induction as with
          | nil => rfl
          | cons b bs ih => simpa only [List.map_cons, EK] using ih
        rw [this] at he; cases he
        refine .seq (M := fun ex s => ex = .exit id ∧ s = s') (.det hnl ha ⟨rfl, rfl⟩) ?_ ?_
        · rintro s2 ⟨h, _⟩; cases h
        · rintro ex s2 hne ⟨rfl, rfl⟩; exact h2 (by simp)
      | ret =>
        have : EK P E ro (as.map .c) .ret s1 = some (.ret, s1) := by
          clear he hl
          induction as with
          | nil => rfl
          | cons b bs ih => simpa only [List.map_cons, EK] using ih
        rw [this] at he; cases he
        refine .seq (M := fun ex s => ex = .ret ∧ s = s') (.det hnl ha ⟨rfl, rfl⟩) ?_ ?_
        · rintro s2 ⟨h, _⟩; cases h
        · rintro ex s2 hne ⟨rfl, rfl⟩; exact h2 (by simp)
theorem NC.pre {as : List C} {c : C} {L : Nat} {ρ : Nat → V} {h : H} {R : Ex → St → Prop} (hl : ∀ a ∈ as, ∀ b, a ≠ .loop b)
    (hx : X P E ro L (as.map .c) ρ h fun ex T h' => match ex with | .nrm => NC P E ro c (T, h') R | ex => R ex (T, h')) : NC P E ro (as.foldr .seq c) (toL L ρ, h) R := by
  obtain ⟨ex, T', h', e, q⟩ := hx
  refine NC.preK as c _ ex (T', h') R hl e ?_ ?_
  · rintro rfl; exact q
  · intro hne
    cases ex with
    | nrm => exact (hne rfl).elim
    | ret => exact q
    | exit _ => exact q
theorem NC.blk {id : Nat} {b : C} {s : St} {R : Ex → St → Prop} (h : NC P E ro b s fun ex s' => match ex with | .exit i => if i = id then R .nrm s' else R (.exit i) s' | ex => R ex s') : NC P E ro (.block id b) s R :=
  .block h (fun _ h => h) (fun _ h => h) (fun _ _ h => h)
/-- One round of a loop, then the loop. -/
theorem NC.rnd {b : C} {s : St} {R : Ex → St → Prop} (h : NC P E ro b s fun ex s' => match ex with | .nrm => NC P E ro (.loop b) s' R | ex => R ex s') : NC P E ro (.loop b) s R :=
  .loop h (fun _ h => h) (fun ex s' hne hm => by cases ex with
    | nrm => exact (hne rfl).elim
    | ret => exact hm
    | exit _ => exact hm)
theorem NC.sq {a b : C} {s : St} {R : Ex → St → Prop} (h : NC P E ro a s fun ex s' => match ex with | .nrm => NC P E ro b s' R | ex => R ex s') : NC P E ro (.seq a b) s R :=
  .seq h (fun _ h => h) (fun ex s' hne hm => by cases ex with
    | nrm => exact (hne rfl).elim
    | ret => exact hm
    | exit _ => exact hm)
end Go.AM
/-! How many bytes all files have: a loop over a map in any order. -/
namespace Go.AM.Wc
open Go.AM
variable {P : Program} {E : Env} {T : H → Prop}
abbrev FU := List UInt8 × Nat × Nat
def entU (u : FU) : V × V := (.str u.1, .ptr (some (u.2.1, 0)))
def totU (us : List FU) : Nat := (us.map (·.2.2)).sum
structure US (h : H) (bm : Nat) (us : List FU) : Prop where
  map : h.get bm = some (mo (us.map entU))
  at_ : ∀ u ∈ us, ∃ p c o s ty op ro fz, h.get u.2.1 = some (.cells [.slice p u.2.2 c o, s] ty op ro fz)
  small : totU us ≤ 1099511627776
def sumS (us : List FU) (S : List Nat) : Nat := (S.map fun i => ((us[i]?).map (·.2.2)).getD 0).sum
theorem sumS_app (us : List FU) (S : List Nat) {i : Nat} {u : FU} (h : us[i]? = some u) : sumS us (S ++ [i]) = sumS us S + u.2.2 := by
  unfold sumS
  rw [List.map_append, List.sum_append]; simp [h]
theorem sum_perm : ∀ {a b : List Nat}, a.Perm b → a.sum = b.sum := by
  intro a b p
  induction p with
  | nil => rfl
  | cons x _ ih => simp [ih]
  | swap x y l => simp; omega
  | trans _ _ h1 h2 => exact h1.trans h2
theorem perm_range {n : Nat} {S : List Nat} (nd : S.Nodup) (lt : ∀ i ∈ S, i < n) (all : ∀ i, i < n → i ∈ S) : S.Perm (List.range n) :=
  (List.perm_ext_iff_of_nodup nd List.nodup_range).2 fun i => ⟨fun h => List.mem_range.2 (lt i h), fun h => all i (List.mem_range.1 h)⟩
theorem sumS_all (us : List FU) {S : List Nat} (nd : S.Nodup) (lt : ∀ i ∈ S, i < us.length) (all : ∀ i, i < us.length → i ∈ S) : sumS us S = totU us := by
  unfold sumS totU
  rw [sum_perm ((perm_range nd lt all).map _)]
  congr 1
  refine List.ext_getElem (by simp) fun i h1 h2 => ?_
  simp at h1
  simp [h1]
theorem sumS_le (us : List FU) {S : List Nat} (nd : S.Nodup) (lt : ∀ i ∈ S, i < us.length) : sumS us S ≤ totU us := by
  have h := sumS_all us (S := S ++ (List.range us.length).filter fun i => !S.contains i) ?_ ?_ ?_
  · rw [← h]; unfold sumS; rw [List.map_append, List.sum_append]; omega
  · refine List.nodup_append.2 ⟨nd, List.nodup_range.filter _, ?_⟩
    rintro a ha b hb rfl
    have := (List.mem_filter.1 hb).2
    simp at this
    exact this ha
  · intro i hi
    rcases List.mem_append.1 hi with hi | hi
    · exact lt i hi
    · exact List.mem_range.1 (List.mem_filter.1 hi).1
  · intro i hi
    by_cases hs : i ∈ S
    · exact List.mem_append_left _ hs
    · exact List.mem_append_right _ (List.mem_filter.2 ⟨List.mem_range.2 hi, by simpa using hs⟩)
theorem used105 {h0 : H} {bm : Nat} {us : List FU} (a : US h0 bm us) : NSp P E fn105 [.map (some bm)] h0 fun v h' => v = .int .i64 (totU us) ∧ Kp h0 h' := by
  refine ⟨(by decide : (1 : Nat) ≤ 20), ?_⟩
  show NC P E none c105 (toL 20 (argF [.map (some bm)]), h0) fun ex s' => Fin [.t 2] (fun v h' => v = .int .i64 (totU us) ∧ Kp h0 h') ex s'.1 s'.2
  have gm : h0.get bm = some (.map (mos (us.map entU) 0) (us.map entU).length) := a.map
  have kit : Kp h0 (h0.psh (.mapIter (some bm) (us.map entU).length [] (us.map entU).length)) := Keeps.psh (Nat.le_refl _) _
  refine NC.pre (as := [.region [⟨some 2, .mv (.k (.int .i64 0)), none, 0, [2]⟩], .region [⟨some 3, .mv (.k (.int .i64 0)), none, 0, [3]⟩]]) (c := .seq (.seq (.region r105_0) (.block 0 (.loop b105_4))) (.seq (.region r105_5) (.ret))) (by intro a ha b e; simp at ha; rcases ha with rfl | rfl <;> cases e) ?_
  simp (maxSteps := 2000000) only [GO, GO2, evK, fillV, setR, binV, intOp, strOp, shOp, unV, getR, lenV, partV, V.nj, V.njL, V.cells, Nat.reduceLT, Nat.reduceEqDiff, Nat.reduceAdd, ↓reduceIte, Nat.reduceLeDiff, reduceCtorEq, List.map_cons, List.map_nil]
  refine NC.sq (NC.pre (as := [.region r105_0]) (c := .block 0 (.loop b105_4)) (by intro a ha b e; simp at ha; subst ha; cases e) ?_)
  simp (maxSteps := 2000000) only [GO, GO2, evK, fillV, setR, binV, intOp, strOp, shOp, unV, getR, lenV, partV, V.nj, V.njL, V.cells, Nat.reduceLT, Nat.reduceEqDiff, Nat.reduceAdd, ↓reduceIte, Nat.reduceLeDiff, reduceCtorEq, List.map_cons, List.map_nil, r105_0, gm]
  refine NC.blk (NC.maps (d := 8) (e := 9) (x := 7) (q := 0) (mp := bm) (it := h0.size) (l := us.map entU) (by decide) (by decide) (by decide)
    (fun seen ρ h => seen.Nodup ∧ (∀ i ∈ seen, i < us.length) ∧ ρ 7 = .ptr (some (h0.size, 0)) ∧ It h bm h0.size (us.map entU) seen ∧ ρ 3 = .int .i64 (sumS us seen) ∧ (∀ j o, h0.get j = some o → h.get j = some o) ∧ Kp h0 h)
    (fun {seen ρ h2} inv => ⟨inv.2.2.1, inv.2.2.2.1⟩) ?_ ?_ us.length ⟨List.nodup_nil, by simp, rfl, ⟨kit.of gm, psh_same _ _⟩, rfl, fun j o hg => kit.of hg, kit⟩ List.nodup_nil (by simp) (by simp))
  · rintro seen ρ h2 ⟨nd, lt, w7, hi2, w3, old, k2⟩ hall
    simp only [if_true]
    have hs := sumS_all us nd lt (by simpa using hall)
    refine NC.run (Q := fun ex T h' => Fin [.t 2] (fun v h' => v = .int .i64 (totU us) ∧ Kp h0 h') ex T h') (by intro b e; cases e) ?_ (fun _ _ _ h => h)
    simp (maxSteps := 2000000) only [GO, GO2, evK, fillV, setR, binV, intOp, strOp, shOp, unV, getR, lenV, partV, V.nj, V.njL, V.cells, Nat.reduceLT, Nat.reduceEqDiff, Nat.reduceAdd, ↓reduceIte, Nat.reduceLeDiff, reduceCtorEq, r105_5, w3]
    exact ⟨by rw [hs], k2⟩
  · rintro seen ρ h2 ⟨nd, lt, w7, hi2, w3, old, k2⟩ _ _ i k u hik hns
    rw [List.getElem?_map] at hik
    cases hr1 : us[i]? with
    | none => rw [hr1] at hik; cases hik
    | some r1 =>
    rw [hr1] at hik
    simp only [Option.map_some, entU, Option.some.injEq, Prod.mk.injEq] at hik
    obtain ⟨rfl, rfl⟩ := hik
    have hm1 := List.mem_of_getElem? hr1
    have hits := H.get_lt hi2.itr
    have hlast : (seen ++ [i]).getLast? = some i := by simp
    have hfind := mos_find (l := us.map entU) (k := 0) (i := i) (x := entU r1) (by simp [hr1])
    rw [Nat.zero_add] at hfind
    simp only [entU] at hfind
    have gi := hset_same hits (.mapIter (some bm) (us.map entU).length (seen ++ [i]) (us.map entU).length)
    have hold : ∀ j o, h0.get j = some o → (h2.set h0.size (.mapIter (some bm) (us.map entU).length (seen ++ [i]) (us.map entU).length)).get j = some o := by
      intro j o hg
      have := H.get_lt hg
      rw [hset_other hits (by omega)]; exact old j o hg
    have k3 : Kp h0 (h2.set h0.size (.mapIter (some bm) (us.map entU).length (seen ++ [i]) (us.map entU).length)) := Keeps.trans (n := h0.size) k2 (Keeps.set hits (Nat.le_refl _) _)
    have hnd : (seen ++ [i]).Nodup := List.nodup_append.2 ⟨nd, by simp, by intro a ha b hb; simp at hb; subst hb; intro e; subst e; exact hns ha⟩
    have hlt : ∀ j ∈ seen ++ [i], j < us.length := by
      intro j hj
      rcases List.mem_append.1 hj with hj | hj
      · exact lt j hj
      · rw [List.mem_singleton.1 hj]; exact (List.getElem?_eq_some_iff.1 hr1).1
    have hsa := sumS_app us seen hr1
    have hsl := sumS_le us hnd hlt
    have hsm := a.small
    generalize h2.set h0.size (.mapIter (some bm) (us.map entU).length (seen ++ [i]) (us.map entU).length) = h3 at *
    have gm3 := hold _ _ gm
    obtain ⟨p, c, o, s, ty, op, ro, fz, hg1⟩ := a.at_ r1 hm1
    have hg3 := hold _ _ hg1
    have hw : IntKind.i64.wrap ((sumS us seen : Int) + (r1.2.2 : Int)) = ((sumS us (seen ++ [i]) : Nat) : Int) := by rw [hsa]; exact wrap_nat (by omega)
    refine NC.run (Q := fun ex T h' => ∃ ρ', ex = .nrm ∧ T = toL 20 ρ' ∧ h3 = h' ∧ ρ' 7 = .ptr (some (h0.size, 0)) ∧ ρ' 3 = .int .i64 (sumS us (seen ++ [i]))) (by intro b e; cases e) ?_ ?_
    · simp (maxSteps := 2000000) only [GO, GO2, evK, fillV, setR, binV, intOp, strOp, shOp, unV, getR, lenV, partV, V.nj, V.njL, V.cells, Nat.reduceLT, Nat.reduceEqDiff, Nat.reduceAdd, ↓reduceIte, Nat.reduceLeDiff, reduceCtorEq, r105_2, w7, gi, gm3, hlast, hfind, r105_3, w3, hg3, hw]
      refine ⟨_, rfl, ?_, ?_⟩
      · exact w7
      · rfl
    · rintro ex T h' ⟨ρ', rfl, rfl, rfl, y7, y3⟩
      exact ⟨ρ', h3, rfl, hnd, hlt, y7, ⟨gm3, gi⟩, y3, hold, k3⟩
end Go.AM.Wc
/-! used as a primitive. -/
namespace Go.AM.Wc
open Go.AM
variable {P : Program} {E : Env}
theorem mos_inj : ∀ {l l' : List (V × V)} {k : Nat}, mos l k = mos l' k → l = l'
  | [], [], _, _ => rfl
  | [], _ :: _, _, h => by cases h
  | _ :: _, [], _, h => by cases h
  | x :: l, y :: l', k, h => by
    simp only [mos, List.cons.injEq, Prod.mk.injEq, and_true] at h
    obtain ⟨⟨h1, h2⟩, h3⟩ := h
    rw [mos_inj h3, Prod.ext h1 h2]
theorem us_eq : ∀ {us us' : List FU}, us.map entU = us'.map entU → (∀ u ∈ us, ∀ u' ∈ us', u.2.1 = u'.2.1 → u.2.2 = u'.2.2) → totU us = totU us'
  | [], [], _, _ => rfl
  | [], _ :: _, h, _ => by cases h
  | _ :: _, [], h, _ => by cases h
  | u :: us, u' :: us', h, hn => by
    simp only [List.map_cons, List.cons.injEq, entU, Prod.mk.injEq, V.ptr.injEq, Option.some.injEq, and_true] at h
    have ih := us_eq (us := us) (us' := us') h.2 fun a ha b hb => hn a (List.mem_cons_of_mem _ ha) b (List.mem_cons_of_mem _ hb)
    have h1 := hn u List.mem_cons_self u' List.mem_cons_self h.1.2
    simp only [totU, List.map_cons, List.sum_cons] at ih ⊢
    omega
theorem US.uniq {h : H} {bm : Nat} {us us' : List FU} (a : US h bm us) (b : US h bm us') : totU us = totU us' := by
  have e : some (mo (us.map entU)) = some (mo (us'.map entU)) := a.map.symm.trans b.map
  unfold mo at e
  simp only [Option.some.injEq, Obj.map.injEq] at e
  refine us_eq (mos_inj e.1) fun u hu u' hu' hb => ?_
  obtain ⟨p, c, o, s, ty, op, ro, fz, h1⟩ := a.at_ u hu
  obtain ⟨p', c', o', s', ty', op', ro', fz', h2⟩ := b.at_ u' hu'
  rw [hb, h2] at h1
  simp only [Option.some.injEq, Obj.cells.injEq, List.cons.injEq, V.slice.injEq] at h1
  exact h1.1.1.2.1.symm
open Classical in
noncomputable def usedG : List V → H → Option (V × H) := fun args h => match args with
  | [.map (some bm)] => if he : ∃ us, US h bm us then some (.int .i64 (totU he.choose), h) else none
  | _ => none
theorem usedG_eq {h : H} {bm : Nat} {us : List FU} (a : US h bm us) : usedG [.map (some bm)] h = some (.int .i64 (totU us), h) := by
  unfold usedG
  have he : ∃ us, US h bm us := ⟨us, a⟩
  simp only [dif_pos he]
  rw [US.uniq he.choose_spec a]
theorem used_of {E : Env} (hp : E.prim 105 = some usedG) {h : H} {bm : Nat} {us : List FU} (a : US h bm us) : Sp P E (.func 105 [] []) [.map (some bm)] h fun v h' => v = .int .i64 (totU us) ∧ h' = h :=
  ⟨_, _, by rw [AP_prim hp]; exact usedG_eq a, rfl, rfl⟩
theorem used_ok (hmix : P.follows .mixedOrders = true) {fn : Func} (hg : P.funcs[105]? = some fn) (hc : cFn P fn = some fn105) {args : List V} {h h' : H} {v : V} {m : Mp} {w : World} {xs : List Value} (he : usedG args h = some (v, h')) (hr : HR P m h w) (hx : VRL m args xs) (n : Nat) :
    CallsIn (FF none) n P 105 xs.toArray w (Post P m h w v h') := by
  unfold usedG at he
  split at he
  · rename_i bm
    split at he
    · rename_i hex
      cases he
      refine nsp_prim hmix noPrim hg hc (NSp.mono (used105 (E := envOf P fun _ => none) hex.choose_spec) ?_) hr hx n
      rintro v h' ⟨rfl, k⟩
      exact ⟨k, fun m m' x hx => hx⟩
    · cases he
  · cases he
end Go.AM.Wc
/-! The disk: what its functions need to be fit. -/
namespace Go.AM.Wc
open Go.AM
variable {P : Program} {E : Env} {T : H → Prop}
/-- A file. -/
structure Fl where
  name : List UInt8
  blk : Nat
  b : Option Nat
  cs : List V
  syn : Int
def Fl.foot (f : Fl) : List Cell := (f.blk, .cells [vl f.b f.cs.length, .int .i64 f.syn] 105 false false none) :: fpt f.b 5 f.cs
def Fl.fu (f : Fl) : FU := (f.name, f.blk, f.cs.length)
def diskC (bm : Nat) : List V := [.map (some bm), .int .i64 0, .int .i64 0, .int .i64 1048576, .bool false]
/-- What a disk holds. -/
def dkF (bd bm : Nat) (fs : List Fl) : List Cell := (bd, .cells (diskC bm) 63 false false none) :: (bm, mo (fs.map fun f => entU f.fu)) :: fs.flatMap Fl.foot
structure DkOK (fs : List Fl) : Prop where
  emp : ∀ f ∈ fs, f.b = none → f.cs = []
  room : totU (fs.map Fl.fu) ≤ 1048576
  byt : ∀ f ∈ fs, Bs f.cs
theorem vl_shape (b : Option Nat) (n : Nat) (hb : b = none → n = 0) : ∃ p c o, vl b n = .slice p n c o := by
  cases b with
  | none => rw [hb rfl]; exact ⟨_, _, _, rfl⟩
  | some b => exact ⟨_, _, _, rfl⟩
theorem foot_mem {fs : List Fl} {f : Fl} (hf : f ∈ fs) : (f.blk, Obj.cells [vl f.b f.cs.length, .int .i64 f.syn] 105 false false none) ∈ fs.flatMap Fl.foot := List.mem_flatMap.2 ⟨f, hf, List.mem_cons_self⟩
theorem us_of {lo : Nat} {h : H} {bd bm : Nat} {fs : List Fl} {m1 m2 : List Cell} (a : Ow lo h (m1 ++ (dkF bd bm fs ++ m2))) (ok : DkOK fs) : US h bm (fs.map Fl.fu) where
  map := by
    have := a.at (i := bm) (o := mo (fs.map fun f => entU f.fu)) (by simp [dkF])
    rw [List.map_map]; exact this
  at_ := by
    intro u hu
    obtain ⟨f, hf, rfl⟩ := List.mem_map.1 hu
    have hg := a.at (i := f.blk) (o := .cells [vl f.b f.cs.length, .int .i64 f.syn] 105 false false none) (by
      have := foot_mem hf
      simp only [dkF, List.mem_append, List.mem_cons]
      exact .inr (.inl (.inr (.inr this))))
    obtain ⟨p, c, o, e⟩ := vl_shape f.b f.cs.length (fun h => by rw [ok.emp f hf h]; rfl)
    rw [e] at hg
    exact ⟨p, c, o, _, _, _, _, _, hg⟩
  small := Nat.le_trans ok.room (by decide)
end Go.AM.Wc
/-! The disk's functions. -/
namespace Go.AM.Wc
open Go.AM
variable {P : Program} {E : Env} {T : H → Prop}
theorem find_none {n : List UInt8} : ∀ {fs : List Fl} {k j : Nat}, (∀ f ∈ fs, f.name ≠ n) → findK .str (.str n) (mos (fs.map fun f => entU f.fu) k) j = some none
  | [], _, _, _ => rfl
  | f :: fs, k, j, h => by
    have h1 : (n == f.name) = false := by
      have := h f List.mem_cons_self
      cases hq : n == f.name with
      | false => rfl
      | true => exact (this (beq_iff_eq.1 hq).symm).elim
    have ih := find_none (n := n) (fs := fs) (k := k + 1) (j := j + 1) fun g hg => h g (List.mem_cons_of_mem _ hg)
    simp only [List.map_cons, mos, entU, Fl.fu, findK, sameK, h1] at ih ⊢
    exact ih
theorem find_some {n : List UInt8} {f : Fl} {fs2 : List Fl} : ∀ {fs1 : List Fl} {k j : Nat}, (∀ g ∈ fs1, g.name ≠ n) → f.name = n → findK .str (.str n) (mos ((fs1 ++ f :: fs2).map fun f => entU f.fu) k) j = some (some (j + fs1.length, .ptr (some (f.blk, 0))))
  | [], k, j, _, hf => by
    have h1 : (n == f.name) = true := beq_iff_eq.2 hf.symm
    simp only [List.nil_append, List.map_cons, mos, entU, Fl.fu, findK, sameK, h1]; rfl
  | g :: fs1, k, j, h, hf => by
    have h1 : (n == g.name) = false := by
      have := h g List.mem_cons_self
      cases hq : n == g.name with
      | false => rfl
      | true => exact (this (beq_iff_eq.1 hq).symm).elim
    have ih := find_some (n := n) (f := f) (fs2 := fs2) (fs1 := fs1) (k := k + 1) (j := j + 1) (fun x hx => h x (List.mem_cons_of_mem _ hx)) hf
    simp only [List.cons_append, List.map_cons, mos, entU, Fl.fu, findK, sameK, h1, List.length_cons] at ih ⊢
    rw [ih]
    congr 3; omega
theorem split_name (n : List UInt8) : ∀ fs : List Fl, (∀ f ∈ fs, f.name ≠ n) ∨ ∃ fs1 f fs2, fs = fs1 ++ f :: fs2 ∧ f.name = n ∧ ∀ g ∈ fs1, g.name ≠ n
  | [] => .inl (by simp)
  | f :: fs => by
    by_cases hf : f.name = n
    · exact .inr ⟨[], f, fs, rfl, hf, by simp⟩
    · rcases split_name n fs with h | ⟨a, g, b, h1, h2, h3⟩
      · exact .inl fun x hx => by
          rcases List.mem_cons.1 hx with rfl | hx
          · exact hf
          · exact h x hx
      · exact .inr ⟨f :: a, g, b, by rw [h1]; rfl, h2, fun x hx => by
          rcases List.mem_cons.1 hx with rfl | hx
          · exact hf
          · exact h3 x hx⟩
theorem eq_pn (h : H) (a : Nat × Nat) : eqV h .ptr (.ptr (some a)) (.ptr none) = some false := by simp [eqV]
theorem eq_nn (h : H) : eqV h .ptr (.ptr none) (.ptr none) = some true := by simp [eqV]
theorem eq_mn (h : H) (a : Nat) : eqV h .mp (.map (some a)) (.map none) = some false := by simp [eqV]
theorem none55 (F : Fw P E T) {h : H} {bd bm : Nat} (gd : h.get bd = some (.cells (diskC bm) 63 false false none)) : Sp P E (.func 55 [] []) [.ptr (some (bd, 0))] h fun v h' => v = .bool false ∧ h' = h := by
  unfold diskC at gd
  refine Sp_fn F.f55 F.p55 (by simp [fn55]) ?_
  simp (maxSteps := 2000000) only [GO, GO2, evK, fillV, setR, binV, intOp, strOp, shOp, unV, getR, lenV, partV, V.nj, V.njL, V.cells, Nat.reduceLT, Nat.reduceEqDiff, Nat.reduceAdd, ↓reduceIte, Nat.reduceLeDiff, reduceCtorEq, fn55, c55, r55_0, eq_pn, gd, eq_mn]
theorem wrong100 (F : Fw P E T) {h : H} {bd bm b : Nat} {n : List UInt8} (gd : h.get bd = some (.cells (diskC bm) 63 false false none)) (gb : h.get b = some (.cells [.str n] 9 false false none)) (h1 : 1 ≤ n.length) (h2 : n.length ≤ 64) : Sp P E (.func 100 [] []) [.ptr (some (bd, 0)), .slice (some (b, 0)) 1 1 false] h fun v h' => v = .int .i64 0 ∧ h' = h := by
  have c0 : (0 : Int) < ((1 : Nat) : Int) := by decide
  have c00 : (0 : Int) ≤ 0 := Int.le_refl _
  have t00 : Int.toNat 0 = 0 := rfl
  have c1 : ((n.length : Int) == 0) = false := by
    cases hq : ((n.length : Int) == 0) with
    | false => rfl
    | true => rw [beq_iff_eq] at hq; omega
  have c2 : ¬ (n.length : Int) > 64 := by omega
  have hw : IntKind.i64.wrap ((0 : Int) + 1) = 1 := by decide
  have c3 : ¬ (1 : Int) < ((1 : Nat) : Int) := by decide
  refine Sp_fn F.f100 F.p100 (by simp [fn100]) ?_
  simp (maxSteps := 2000000) only [GO, GO2, evK, fillV, setR, binV, intOp, strOp, shOp, unV, getR, lenV, partV, V.nj, V.njL, V.cells, Nat.reduceLT, Nat.reduceEqDiff, Nat.reduceAdd, ↓reduceIte, Nat.reduceLeDiff, reduceCtorEq, fn100, c100, r100_0]
  refine XC_of (none55 F gd) ?_
  rintro _ hx ⟨rfl, e2⟩
  rw [e2]
  clear e2 hx
  have gd' := gd
  unfold diskC at gd'
  simp (maxSteps := 2000000) only [GO, GO2, evK, fillV, setR, binV, intOp, strOp, shOp, unV, getR, lenV, partV, V.nj, V.njL, V.cells, Nat.reduceLT, Nat.reduceEqDiff, Nat.reduceAdd, ↓reduceIte, Nat.reduceLeDiff, reduceCtorEq, r100_1, gd', r100_2]
  rw [u100_6]
  simp (maxSteps := 2000000) only [GO, GO2, evK, fillV, setR, binV, intOp, strOp, shOp, unV, getR, lenV, partV, V.nj, V.njL, V.cells, Nat.reduceLT, Nat.reduceEqDiff, Nat.reduceAdd, ↓reduceIte, Nat.reduceLeDiff, reduceCtorEq, c0, r100_3, c00, t00, Nat.zero_mul, gb, r100_4, c1, c2, r100_5, hw]
  rw [u100_6]
  simp (maxSteps := 2000000) only [GO, GO2, evK, fillV, setR, binV, intOp, strOp, shOp, unV, getR, lenV, partV, V.nj, V.njL, V.cells, Nat.reduceLT, Nat.reduceEqDiff, Nat.reduceAdd, ↓reduceIte, Nat.reduceLeDiff, reduceCtorEq, c3]
/-- A name that has a file, whatever else the disk has. -/
theorem there63 (F : Fw P E T) {h : H} {bd bm b i blk cl : Nat} {es : List (V × V × Nat)} {n : List UInt8} (gd : h.get bd = some (.cells (diskC bm) 63 false false none)) (gm : h.get bm = some (.map es cl)) (hf : findK .str (.str n) es 0 = some (some (i, .ptr (some (blk, 0))))) (gb : h.get b = some (.cells [.str n] 9 false false none)) (h1 : 1 ≤ n.length) (h2 : n.length ≤ 64) :
    Sp P E (.func 63 [] []) [.ptr (some (bd, 0)), .slice (some (b, 0)) 1 1 false] h fun v h' => v = .int .i64 0 ∧ h' = h := by
  have c0 : (0 : Int) < ((1 : Nat) : Int) := by decide
  have c00 : (0 : Int) ≤ 0 := Int.le_refl _
  have t00 : Int.toNat 0 = 0 := rfl
  have c4 : ((0 : Int) != 0) = false := rfl
  refine Sp_fn F.f63 F.p63 (by simp [fn63]) ?_
  simp (maxSteps := 2000000) only [GO, GO2, evK, fillV, setR, binV, intOp, strOp, shOp, unV, getR, lenV, partV, V.nj, V.njL, V.cells, Nat.reduceLT, Nat.reduceEqDiff, Nat.reduceAdd, ↓reduceIte, Nat.reduceLeDiff, reduceCtorEq, fn63, c63, r63_0]
  refine XC_of (wrong100 F gd gb h1 h2) ?_
  rintro _ hx ⟨rfl, e2⟩
  rw [e2]
  clear e2 hx
  have gd' := gd
  unfold diskC at gd'
  simp (maxSteps := 2000000) only [GO, GO2, evK, fillV, setR, binV, intOp, strOp, shOp, unV, getR, lenV, partV, V.nj, V.njL, V.cells, Nat.reduceLT, Nat.reduceEqDiff, Nat.reduceAdd, ↓reduceIte, Nat.reduceLeDiff, reduceCtorEq, r63_1, c4]
  rw [X_draw, d63_3]
  simp (maxSteps := 2000000) only [GO, GO2, evK, fillV, setR, binV, intOp, strOp, shOp, unV, getR, lenV, partV, V.nj, V.njL, V.cells, Nat.reduceLT, Nat.reduceEqDiff, Nat.reduceAdd, ↓reduceIte, Nat.reduceLeDiff, reduceCtorEq, r63_3, gd', c0, c00, t00, Nat.zero_mul, gb, gm, hf, eq_pn]
theorem burns106 (F : Fw P E T) {h : H} {bd bm : Nat} (gd : h.get bd = some (.cells (diskC bm) 63 false false none)) : Sp P E (.func 106 [] []) [.ptr (some (bd, 1))] h fun v h' => v = .bool false ∧ h' = h := by
  have c4 : ((0 : Int) == 0) = true := rfl
  unfold diskC at gd
  refine Sp_fn F.f106 F.p106 (by simp [fn106]) ?_
  simp (maxSteps := 2000000) only [GO, GO2, evK, fillV, setR, binV, intOp, strOp, shOp, unV, getR, lenV, partV, V.nj, V.njL, V.cells, Nat.reduceLT, Nat.reduceEqDiff, Nat.reduceAdd, ↓reduceIte, Nat.reduceLeDiff, reduceCtorEq, fn106, c106, r106_0, gd, c4]
theorem changes67 (F : Fw P E T) {h : H} {bd bm : Nat} (gd : h.get bd = some (.cells (diskC bm) 63 false false none)) : Sp P E (.func 67 [] []) [.ptr (some (bd, 0))] h fun v h' => v = .int .i64 0 ∧ h' = h := by
  have gd' := gd
  unfold diskC at gd'
  refine Sp_fn F.f67 F.p67 (by simp [fn67]) ?_
  simp (maxSteps := 2000000) only [GO, GO2, evK, fillV, setR, binV, intOp, strOp, shOp, unV, getR, lenV, partV, V.nj, V.njL, V.cells, Nat.reduceLT, Nat.reduceEqDiff, Nat.reduceAdd, ↓reduceIte, Nat.reduceLeDiff, reduceCtorEq, fn67, c67, r67_0, gd', r67_1]
  refine XC_of (burns106 F gd) ?_
  rintro _ hx ⟨rfl, e2⟩
  rw [e2]
  clear e2 hx
  simp (maxSteps := 2000000) only [GO, GO2, evK, fillV, setR, binV, intOp, strOp, shOp, unV, getR, lenV, partV, V.nj, V.njL, V.cells, Nat.reduceLT, Nat.reduceEqDiff, Nat.reduceAdd, ↓reduceIte, Nat.reduceLeDiff, reduceCtorEq]
end Go.AM.Wc
/-! Sync and Append of the disk. -/
namespace Go.AM.Wc
open Go.AM
variable {P : Program} {E : Env} {T : H → Prop}
theorem dk_mid (m1 : List Cell) (bd bm : Nat) (fs1 : List Fl) (f : Fl) (fs2 : List Fl) (m2 : List Cell) (d : Obj) (hd : d = mo ((fs1 ++ f :: fs2).map fun f => entU f.fu)) :
    m1 ++ (dkF bd bm (fs1 ++ f :: fs2) ++ m2) = (m1 ++ (bd, .cells (diskC bm) 63 false false none) :: (bm, d) :: fs1.flatMap Fl.foot) ++ (f.blk, .cells [vl f.b f.cs.length, .int .i64 f.syn] 105 false false none) :: (fpt f.b 5 f.cs ++ (fs2.flatMap Fl.foot ++ m2)) := by
  subst hd
  simp [dkF, List.flatMap_append, List.flatMap_cons, Fl.foot]
theorem ow_disk {lo : Nat} {h : H} {bd bm : Nat} {fs : List Fl} {m1 m2 : List Cell} (a : Ow lo h (m1 ++ (dkF bd bm fs ++ m2))) : h.get bd = some (.cells (diskC bm) 63 false false none) ∧ h.get bm = some (.map (mos (fs.map fun f => entU f.fu) 0) (fs.map fun f => entU f.fu).length) :=
  ⟨a.at (by simp [dkF]), show h.get bm = some (mo (fs.map fun f => entU f.fu)) from a.at (i := bm) (o := mo (fs.map fun f => entU f.fu)) (by simp [dkF])⟩
set_option maxHeartbeats 1000000 in
theorem sync33 (F : Fw P E T) {lo : Nat} {h : H} {bd bm : Nat} {m1 m2 : List Cell} {fs1 : List Fl} {f : Fl} {fs2 : List Fl} {n : List UInt8} (ow : Ow lo h (m1 ++ (dkF bd bm (fs1 ++ f :: fs2) ++ m2))) (hlo : lo ≤ h.size) (hb : f.b = none → f.cs = []) (hf : f.name = n) (hn : ∀ g ∈ fs1, g.name ≠ n) (l1 : 1 ≤ n.length) (l2 : n.length ≤ 64) :
    Sp P E (.func 33 [] []) [.ptr (some (bd, 0)), .str n] h fun r h' => r = .int .i64 0 ∧ Ow lo h' (m1 ++ (dkF bd bm (fs1 ++ { f with syn := f.cs.length } :: fs2) ++ m2)) ∧ Keeps lo h h' := by
  have k1 : Kp h (h.psh (.cells [.str n] 9 false false none)) := Keeps.psh (Nat.le_refl _) _
  have gb := psh_same h (.cells [.str n] 9 false false none)
  have ow1 := ow.kp k1
  obtain ⟨gd, gm⟩ := ow_disk ow1
  have hfk := find_some (f := f) (fs2 := fs2) (k := 0) (j := 0) hn hf
  have c4 : ((0 : Int) != 0) = false := rfl
  have hd0 : List.drop 1 [V.str []] = [] := rfl
  refine Sp_fn F.f33 F.p33 (by simp [fn33]) ?_
  simp (maxSteps := 2000000) only [GO, GO2, evK, fillV, setR, binV, intOp, strOp, shOp, unV, getR, lenV, partV, V.nj, V.njL, V.cells, Nat.reduceLT, Nat.reduceEqDiff, Nat.reduceAdd, ↓reduceIte, Nat.reduceLeDiff, reduceCtorEq, fn33, c33, r33_0, hd0]
  refine XC_of (there63 F gd gm hfk gb l1 l2) ?_
  rintro _ hx ⟨rfl, e2⟩
  rw [e2]
  clear e2 hx
  simp (maxSteps := 2000000) only [GO, GO2, evK, fillV, setR, binV, intOp, strOp, shOp, unV, getR, lenV, partV, V.nj, V.njL, V.cells, Nat.reduceLT, Nat.reduceEqDiff, Nat.reduceAdd, ↓reduceIte, Nat.reduceLeDiff, reduceCtorEq, r33_1, c4, r33_3]
  refine XC_of (changes67 F gd) ?_
  rintro _ hx ⟨rfl, e2⟩
  rw [e2]
  clear e2 hx
  rw [dk_mid m1 bd bm fs1 f fs2 m2 _ rfl] at ow1
  have gf := ow1.at (i := f.blk) (o := .cells [vl f.b f.cs.length, .int .i64 f.syn] 105 false false none) (by simp)
  obtain ⟨p, c, o, hv⟩ := vl_shape f.b f.cs.length (fun h => by rw [hb h]; rfl)
  obtain ⟨ow2, k2⟩ := ow1.setM (.cells [vl f.b f.cs.length, .int .i64 f.cs.length] 105 false false none)
  have e4 := put_at (ws := [.int .i64 f.cs.length]) (o := 1) gf (by simp) rfl rfl
  have hset : setR [vl f.b f.cs.length, .int .i64 f.syn] 1 [.int .i64 f.cs.length] = [vl f.b f.cs.length, .int .i64 f.cs.length] := rfl
  rw [hset] at e4
  have njm : ∀ m, (V.map m).nj = true := fun _ => rfl
  unfold diskC at gd
  rw [hv] at gf e4 ow2 k2
  simp (maxSteps := 2000000) only [GO, GO2, evK, fillV, setR, binV, intOp, strOp, shOp, unV, getR, lenV, partV, V.nj, V.njL, V.cells, Nat.reduceLT, Nat.reduceEqDiff, Nat.reduceAdd, ↓reduceIte, Nat.reduceLeDiff, reduceCtorEq, r33_4, c4]
  rw [X_draw]
  refine d33_6 ?_
  simp (maxSteps := 2000000) only [GO, GO2, evK, fillV, setR, binV, intOp, strOp, shOp, unV, getR, lenV, partV, V.nj, V.njL, V.cells, Nat.reduceLT, Nat.reduceEqDiff, Nat.reduceAdd, ↓reduceIte, Nat.reduceLeDiff, reduceCtorEq, r33_6, gd, gm, hfk, gf, e4]
  have ow3 := ow2
  rw [← hv] at ow3
  refine ⟨?_, Keeps.trans (k1.mono hlo) k2⟩
  rw [dk_mid m1 bd bm fs1 { f with syn := f.cs.length } fs2 m2 (mo ((fs1 ++ f :: fs2).map fun f => entU f.fu)) (by simp [Fl.fu])]
  rw [← hv]
  exact ow3
theorem totU_mid (fs1 : List Fl) (f : Fl) (fs2 : List Fl) : totU ((fs1 ++ f :: fs2).map Fl.fu) = totU ((fs1 ++ fs2).map Fl.fu) + f.cs.length := by
  simp [totU, Fl.fu]; omega
theorem DkOK.put {fs1 : List Fl} {f : Fl} {fs2 : List Fl} {b' : Option Nat} {cs' : List V} (ok : DkOK (fs1 ++ f :: fs2)) (he : b' = none → cs' = []) (hb : Bs cs') (hr : totU ((fs1 ++ f :: fs2).map Fl.fu) + cs'.length ≤ 1048576 + f.cs.length) : DkOK (fs1 ++ { f with b := b', cs := cs' } :: fs2) where
  emp := by
    intro g hg
    rcases List.mem_append.1 hg with h | h
    · exact ok.emp g (List.mem_append_left _ h)
    · rcases List.mem_cons.1 h with rfl | h
      · exact he
      · exact ok.emp g (List.mem_append_right _ (List.mem_cons_of_mem _ h))
  room := by
    rw [totU_mid] at hr ⊢
    simp only
    omega
  byt := by
    intro g hg
    rcases List.mem_append.1 hg with h | h
    · exact ok.byt g (List.mem_append_left _ h)
    · rcases List.mem_cons.1 h with rfl | h
      · exact hb
      · exact ok.byt g (List.mem_append_right _ (List.mem_cons_of_mem _ h))
theorem DkOK.add {fs : List Fl} (ok : DkOK fs) (n : List UInt8) (b : Nat) : DkOK (fs ++ [⟨n, b, none, [], 0⟩]) where
  emp := by
    intro g hg
    rcases List.mem_append.1 hg with h | h
    · exact ok.emp g h
    · rw [List.mem_singleton.1 h]; exact fun _ => rfl
  room := by
    rw [totU_mid]
    simpa using ok.room
  byt := by
    intro g hg
    rcases List.mem_append.1 hg with h | h
    · exact ok.byt g h
    · rw [List.mem_singleton.1 h]; intro x hx; simp at hx
theorem ow_file {lo : Nat} {h : H} {bd bm : Nat} {fs : List Fl} {m1 m2 : List Cell} (a : Ow lo h (m1 ++ (dkF bd bm fs ++ m2))) (hlo : lo ≤ h.size) (n : List UInt8) :
    Ow lo ((h.psh (.cells [.slice none 0 0 false, .int .i64 0] 105 false false none)).set bm (.map (mos (fs.map fun f => entU f.fu) 0 ++ [(.str n, .ptr (some (h.size, 0)), (fs.map fun f => entU f.fu).length)]) ((fs.map fun f => entU f.fu).length + 1))) (m1 ++ (dkF bd bm (fs ++ [⟨n, h.size, none, [], 0⟩]) ++ m2)) ∧
    Keeps lo h ((h.psh (.cells [.slice none 0 0 false, .int .i64 0] 105 false false none)).set bm (.map (mos (fs.map fun f => entU f.fu) 0 ++ [(.str n, .ptr (some (h.size, 0)), (fs.map fun f => entU f.fu).length)]) ((fs.map fun f => entU f.fu).length + 1))) := by
  have a1 : Ow lo h ((m1 ++ (bd, .cells (diskC bm) 63 false false none) :: (bm, mo (fs.map fun f => entU f.fu)) :: fs.flatMap Fl.foot) ++ m2) := by simpa [dkF] using a
  have a2 := a1.pushM hlo (.cells [.slice none 0 0 false, .int .i64 0] 105 false false none)
  have a3 : Ow lo (h.psh (.cells [.slice none 0 0 false, .int .i64 0] 105 false false none)) ((m1 ++ [(bd, .cells (diskC bm) 63 false false none)]) ++ (bm, mo (fs.map fun f => entU f.fu)) :: (fs.flatMap Fl.foot ++ (h.size, .cells [.slice none 0 0 false, .int .i64 0] 105 false false none) :: m2)) := by simpa using a2
  obtain ⟨a4, k4⟩ := a3.setM (.map (mos (fs.map fun f => entU f.fu) 0 ++ [(.str n, .ptr (some (h.size, 0)), (fs.map fun f => entU f.fu).length)]) ((fs.map fun f => entU f.fu).length + 1))
  have k1 : Kp h (h.psh (.cells [.slice none 0 0 false, .int .i64 0] 105 false false none)) := Keeps.psh (Nat.le_refl _) _
  refine ⟨?_, Keeps.trans (k1.mono hlo) k4⟩
  have em : mo ((fs ++ [(⟨n, h.size, none, [], 0⟩ : Fl)]).map fun f => entU f.fu) = .map (mos (fs.map fun f => entU f.fu) 0 ++ [(.str n, .ptr (some (h.size, 0)), (fs.map fun f => entU f.fu).length)]) ((fs.map fun f => entU f.fu).length + 1) := by
    unfold mo
    rw [List.map_append, List.map_cons, List.map_nil, mos_append, List.length_append, Nat.zero_add]
    rfl
  unfold dkF
  rw [em]
  simpa [Fl.foot, fpt, vl] using a4
theorem elems_set {h : H} {i sz n : Nat} {es : List (V × V × Nat)} {c : Nat} (hi : h.get i = some (.map es c)) (o : Obj) {v : V} {r : List V} (he : elemsV h sz n v = some r) : elemsV (h.set i o) sz n v = some r := by
  cases v with
  | slice p l c q =>
    cases p with
    | none => exact he
    | some a =>
      obtain ⟨j, u⟩ := a
      unfold elemsV at he ⊢
      simp only at he ⊢
      by_cases hn : n * sz = 0
      · simpa [hn] using he
      · rw [if_neg hn] at he ⊢
        by_cases hij : i = j
        · rw [← hij, hi] at he; cases he
        · rw [hset_other (H.get_lt hi) hij]; exact he
  | _ => exact he
set_option maxHeartbeats 2000000 in
theorem append65 (F : Fw P E T) (hu : E.prim 105 = some usedG) {lo : Nat} {h : H} {bd bm : Nat} {m1 m2 : List Cell} {fs : List Fl} {n : List UInt8} {v : V} {k : Nat} (ow : Ow lo h (m1 ++ (dkF bd bm fs ++ m2))) (hlo : lo ≤ h.size) (ok : DkOK fs) (hv : Rb h v k) (hk : k ≤ 4194304) (l1 : 1 ≤ n.length) (l2 : n.length ≤ 64) :
    Sp P E (.func 65 [] []) [.ptr (some (bd, 0)), .str n, v] h fun r h' => ∃ e fs', r = .int .i64 e ∧ Ow lo h' (m1 ++ (dkF bd bm fs' ++ m2)) ∧ DkOK fs' ∧ (∀ x ∈ fs.map Fl.name, x ∈ fs'.map Fl.name) ∧ (e = 0 → n ∈ fs'.map Fl.name) ∧ Keeps lo h h' := by
  have k1 : Kp h (h.psh (.cells [.str n] 9 false false none)) := Keeps.psh (Nat.le_refl _) _
  have gb := psh_same h (.cells [.str n] 9 false false none)
  have ow1 := ow.kp k1
  have hv1 := hv.kp k1
  have hl1 : lo ≤ (h.psh (.cells [.str n] 9 false false none)).size := Nat.le_trans hlo k1.size
  obtain ⟨gd, gm⟩ := ow_disk ow1
  have us := us_of ow1 ok
  have c4 : ((0 : Int) != 0) = false := rfl
  have hd0 : List.drop 1 [V.str []] = [] := rfl
  obtain ⟨pv, cv, ov, ds, hvv, he, hdl, hbs⟩ := hv1
  refine Sp_fn F.f65 F.p65 (by simp [fn65]) ?_
  simp (maxSteps := 2000000) only [GO, GO2, evK, fillV, setR, binV, intOp, strOp, shOp, unV, getR, lenV, partV, V.nj, V.njL, V.cells, Nat.reduceLT, Nat.reduceEqDiff, Nat.reduceAdd, ↓reduceIte, Nat.reduceLeDiff, reduceCtorEq, fn65, c65, r65_0, hd0]
  refine XC_of (wrong100 F gd gb l1 l2) ?_
  rintro _ hx ⟨rfl, e2⟩
  rw [e2]
  clear e2 hx
  have gd0 := gd
  unfold diskC at gd
  generalize h.psh (.cells [.str n] 9 false false none) = h1 at *
  have hroom := ok.room
  have hw : IntKind.i64.wrap ((1048576 : Int) - (totU (fs.map Fl.fu) : Int)) = 1048576 - (totU (fs.map Fl.fu) : Int) := wrap_le (by omega) (by omega)
  have fail : ∀ e : Int, e ≠ 0 → ∃ e' fs', V.int .i64 e = .int .i64 e' ∧ Ow lo h1 (m1 ++ (dkF bd bm fs' ++ m2)) ∧ DkOK fs' ∧ (∀ x ∈ fs.map Fl.name, x ∈ fs'.map Fl.name) ∧ (e' = 0 → n ∈ fs'.map Fl.name) ∧ Keeps lo h h1 :=
    fun e he => ⟨e, fs, rfl, ow1, ok, fun x hx => hx, fun h0 => (he h0).elim, k1.mono hlo⟩
  -- behind the looks: the bytes are put to a file's end
  have put : ∀ (ρ : Nat → V) (h2 : H) (fs1 : List Fl) (f : Fl) (fs2 : List Fl), ρ 0 = .ptr (some (bd, 0)) → ρ 2 = v → ρ 8 = .ptr (some (f.blk, 0)) → f.name = n → Ow lo h2 (m1 ++ (dkF bd bm (fs1 ++ f :: fs2) ++ m2)) → lo ≤ h2.size → (f.b = none → f.cs = []) → elemsV h2 1 k v = some ds →
      (∀ b' cs', (b' = none → cs' = []) → cs' = f.cs ++ ds → DkOK (fs1 ++ { f with b := b', cs := cs' } :: fs2)) → f.cs.length ≤ 1048576 → (∀ x ∈ fs.map Fl.name, x ∈ (fs1 ++ f :: fs2).map Fl.name) → Keeps lo h h2 →
      XO P E none 66 r65_9 [.c (.seq (.region r65_10) (.ret))] ρ h2 (Fin [.t 6] fun r h' => ∃ e fs', r = .int .i64 e ∧ Ow lo h' (m1 ++ (dkF bd bm fs' ++ m2)) ∧ DkOK fs' ∧ (∀ x ∈ fs.map Fl.name, x ∈ fs'.map Fl.name) ∧ (e = 0 → n ∈ fs'.map Fl.name) ∧ Keeps lo h h') := by
    intro ρ h2 fs1 f fs2 q0 q2 q8 hfn ow2 hl2 hfb he2 hok hfl hnm kk
    rw [dk_mid m1 bd bm fs1 f fs2 m2 _ rfl] at ow2
    have gf := ow2.at (i := f.blk) (o := .cells [vl f.b f.cs.length, .int .i64 f.syn] 105 false false none) (by simp)
    obtain ⟨b', h3, e1, ow3, hb3, k3, fr3⟩ := Ow.appc (bytes := 1) (x := v) (ds := ds) (m1 := (m1 ++ (bd, .cells (diskC bm) 63 false false none) :: (bm, mo ((fs1 ++ f :: fs2).map fun f => entU f.fu)) :: fs1.flatMap Fl.foot) ++ [(f.blk, .cells [vl f.b f.cs.length, .int .i64 f.syn] 105 false false none)]) (m2 := fs2.flatMap Fl.foot ++ m2) (by simpa using ow2) hfb hl2 (by rw [hvv, hdl]; rfl) (by rw [hdl]; exact he2) hbs.one (by omega)
    have gf3 := ow3.at (i := f.blk) (o := .cells [vl f.b f.cs.length, .int .i64 f.syn] 105 false false none) (by simp)
    obtain ⟨ow4, k4⟩ := Ow.setM (m1 := m1 ++ (bd, .cells (diskC bm) 63 false false none) :: (bm, mo ((fs1 ++ f :: fs2).map fun f => entU f.fu)) :: fs1.flatMap Fl.foot) (i := f.blk) (by simpa using ow3) (.cells [vl b' (f.cs ++ ds).length, .int .i64 f.syn] 105 false false none)
    have e4 := put_at (ws := [vl b' (f.cs ++ ds).length]) (o := 0) gf3 (by simp) (vl_one _ _) rfl
    have hset : setR [vl f.b f.cs.length, .int .i64 f.syn] 0 [vl b' (f.cs ++ ds).length] = [vl b' (f.cs ++ ds).length, .int .i64 f.syn] := rfl
    rw [hset] at e4
    obtain ⟨p, c, o, hvs⟩ := vl_shape f.b f.cs.length (fun h => by rw [hfb h]; rfl)
    obtain ⟨p', c', o', hvs'⟩ := vl_shape b' (f.cs ++ ds).length (fun h => by rw [hb3 h]; rfl)
    have own : Ow lo (h3.set f.blk (.cells [vl b' (f.cs ++ ds).length, .int .i64 f.syn] 105 false false none)) (m1 ++ (dkF bd bm (fs1 ++ { f with b := b', cs := f.cs ++ ds } :: fs2) ++ m2)) := by
      rw [dk_mid m1 bd bm fs1 { f with b := b', cs := f.cs ++ ds } fs2 m2 _ rfl]
      have hmm : mo ((fs1 ++ ({ f with b := b', cs := f.cs ++ ds } : Fl) :: fs2).map fun f => entU f.fu) = mo ((fs1 ++ f :: fs2).map fun f => entU f.fu) := by simp [Fl.fu, entU]
      rw [hmm]
      exact ow4
    have gd4 := (ow_disk own).1
    rw [hvs] at gf e1
    rw [hvs'] at e1 e4 gd4
    simp (maxSteps := 2000000) only [GO, GO2, evK, fillV, setR, binV, intOp, strOp, shOp, unV, getR, lenV, partV, V.nj, V.njL, V.cells, Nat.reduceLT, Nat.reduceEqDiff, Nat.reduceAdd, ↓reduceIte, Nat.reduceLeDiff, reduceCtorEq, r65_9, q8, gf, q2, e1, e4, r65_10, q0]
    rw [hvs'] at own k4
    refine XC_of (changes67 F gd4) ?_
    rintro _ hx ⟨rfl, e2⟩
    rw [e2]
    clear e2 hx
    simp (maxSteps := 2000000) only [GO, GO2, evK, fillV, setR, binV, intOp, strOp, shOp, unV, getR, lenV, partV, V.nj, V.njL, V.cells, Nat.reduceLT, Nat.reduceEqDiff, Nat.reduceAdd, ↓reduceIte, Nat.reduceLeDiff, reduceCtorEq]
    refine ⟨0, _, rfl, own, hok b' _ hb3 rfl, ?_, ?_, Keeps.trans kk (Keeps.trans k3 k4)⟩
    · intro x hx
      have := hnm x hx
      simpa using this
    · intro _
      simp [hfn]
  rcases split_name n fs with hno | ⟨fs1, f, fs2, rfl, hfn, hf1⟩
  · have hfk := find_none (k := 0) (j := 0) hno
    by_cases hmf : (((fs.map fun f => entU f.fu).length : Nat) : Int) ≥ 1024

    · simp (maxSteps := 2000000) only [GO, GO2, evK, fillV, setR, binV, intOp, strOp, shOp, unV, getR, lenV, partV, V.nj, V.njL, V.cells, Nat.reduceLT, Nat.reduceEqDiff, Nat.reduceAdd, ↓reduceIte, Nat.reduceLeDiff, reduceCtorEq, r65_1, c4, r65_3, gd, gm, hfk, r65_4, eq_nn, hmf, mos_length]
      exact fail 3 (by decide)
    · simp (maxSteps := 2000000) only [GO, GO2, evK, fillV, setR, binV, intOp, strOp, shOp, unV, getR, lenV, partV, V.nj, V.njL, V.cells, Nat.reduceLT, Nat.reduceEqDiff, Nat.reduceAdd, ↓reduceIte, Nat.reduceLeDiff, reduceCtorEq, r65_1, c4, r65_3, gd, gm, hfk, r65_4, eq_nn, hmf, mos_length]
      rw [X_draw]
      refine d65_5 ?_
      rw [hvv] at put he ⊢
      simp (maxSteps := 2000000) only [GO, GO2, evK, fillV, setR, binV, intOp, strOp, shOp, unV, getR, lenV, partV, V.nj, V.njL, V.cells, Nat.reduceLT, Nat.reduceEqDiff, Nat.reduceAdd, ↓reduceIte, Nat.reduceLeDiff, reduceCtorEq, r65_5, gd]
      refine XCQ_of (used_of hu us) ?_
      rintro _ hx ⟨rfl, e2⟩
      rw [e2]
      clear e2 hx
      refine ⟨Keeps.refl _ _, ?_⟩
      by_cases hfull : (k : Int) > 1048576 - (totU (fs.map Fl.fu) : Int)
      · simp (maxSteps := 2000000) only [GO, GO2, evK, fillV, setR, binV, intOp, strOp, shOp, unV, getR, lenV, partV, V.nj, V.njL, V.cells, Nat.reduceLT, Nat.reduceEqDiff, Nat.reduceAdd, ↓reduceIte, Nat.reduceLeDiff, reduceCtorEq, hw, hfull]
        exact fail 6 (by decide)
      · have gd2 := psh_old gd (.cells [.slice none 0 0 false, .int .i64 0] 105 false false none)
        have gm2 := psh_old gm (.cells [.slice none 0 0 false, .int .i64 0] 105 false false none)
        obtain ⟨ow2, k2⟩ := ow_file ow1 hl1 n
        have ke : Kp h1 (h1.psh (.cells [.slice none 0 0 false, .int .i64 0] 105 false false none)) := Keeps.psh (Nat.le_refl _) _
        simp (maxSteps := 2000000) only [GO, GO2, evK, fillV, setR, binV, intOp, strOp, shOp, unV, getR, lenV, partV, V.nj, V.njL, V.cells, Nat.reduceLT, Nat.reduceEqDiff, Nat.reduceAdd, ↓reduceIte, Nat.reduceLeDiff, reduceCtorEq, hw, hfull, r65_6, eq_nn, r65_7, r65_8, gd2, gm2, hfk]
        refine put _ _ fs ⟨n, h1.size, none, [], 0⟩ [] rfl rfl rfl rfl ow2 (Nat.le_trans hl1 k2.size) (fun _ => rfl) (elems_set gm2 _ (elemsV_keep ke he)) ?_ (Nat.zero_le _) ?_ (Keeps.trans (k1.mono hlo) k2)
        · intro b' cs' hb hc
          refine (ok.add n h1.size).put hb (by rw [hc]; simpa using hbs) ?_
          rw [totU_mid, hc]
          simp only [List.append_nil, List.nil_append, List.length_nil]
          omega
        · intro x hx
          simp only [List.map_append, List.mem_append]
          exact .inl hx
  · have hfk := find_some (f := f) (fs2 := fs2) (k := 0) (j := 0) hf1 hfn
    simp (maxSteps := 2000000) only [GO, GO2, evK, fillV, setR, binV, intOp, strOp, shOp, unV, getR, lenV, partV, V.nj, V.njL, V.cells, Nat.reduceLT, Nat.reduceEqDiff, Nat.reduceAdd, ↓reduceIte, Nat.reduceLeDiff, reduceCtorEq, r65_1, c4, r65_3, gd, gm, hfk, r65_4, eq_pn]
    rw [X_draw]
    refine d65_5 ?_
    rw [hvv] at put he ⊢
    simp (maxSteps := 2000000) only [GO, GO2, evK, fillV, setR, binV, intOp, strOp, shOp, unV, getR, lenV, partV, V.nj, V.njL, V.cells, Nat.reduceLT, Nat.reduceEqDiff, Nat.reduceAdd, ↓reduceIte, Nat.reduceLeDiff, reduceCtorEq, r65_5, gd]
    refine XCQ_of (used_of hu us) ?_
    rintro _ hx ⟨rfl, e2⟩
    rw [e2]
    clear e2 hx
    refine ⟨Keeps.refl _ _, ?_⟩
    by_cases hfull : (k : Int) > 1048576 - (totU ((fs1 ++ f :: fs2).map Fl.fu) : Int)
    · simp (maxSteps := 2000000) only [GO, GO2, evK, fillV, setR, binV, intOp, strOp, shOp, unV, getR, lenV, partV, V.nj, V.njL, V.cells, Nat.reduceLT, Nat.reduceEqDiff, Nat.reduceAdd, ↓reduceIte, Nat.reduceLeDiff, reduceCtorEq, hw, hfull]
      exact fail 6 (by decide)
    · simp (maxSteps := 2000000) only [GO, GO2, evK, fillV, setR, binV, intOp, strOp, shOp, unV, getR, lenV, partV, V.nj, V.njL, V.cells, Nat.reduceLT, Nat.reduceEqDiff, Nat.reduceAdd, ↓reduceIte, Nat.reduceLeDiff, reduceCtorEq, hw, hfull, r65_6, eq_pn]
      refine put _ _ fs1 f fs2 rfl rfl rfl hfn ow1 hl1 (ok.emp f (by simp)) he ?_ ?_ (fun _ hx => hx) (k1.mono hlo)
      · intro b' cs' hb hc
        refine ok.put hb (by rw [hc]; exact (ok.byt f (by simp)).app hbs) ?_
        rw [hc, List.length_append]
        omega
      · have := ok.room
        rw [totU_mid] at this
        omega
end Go.AM.Wc
/-! The log: what it holds; its smaller functions. -/
namespace Go.AM.Wc
open Go.AM
variable {P : Program} {E : Env} {T : H → Prop}
/-- A record that the log holds. -/
structure Rc where
  b : Nat
  cs : List V
def Rc.v (r : Rc) : V := vl (some r.b) r.cs.length
def Rc.cell (r : Rc) : Cell := (r.b, .cells r.cs 5 true false none)
/-- A segment. -/
structure Sg where
  fst : Nat
  rb : Option Nat
  rs : List Rc
  size : Int
  loose : Bool
def Sg.cells (s : Sg) : List V := [.int .i64 s.fst, vl s.rb s.rs.length, .int .i64 s.size, .bool s.loose]
def Sg.foot (s : Sg) : List Cell := fpt s.rb 45 (s.rs.map Rc.v) ++ s.rs.map Rc.cell
def logN : List UInt8 := [108, 111, 103]
def lgC (bd : Nat) (sv : V) (nx sy : Int) (br : Bool) : List V := [.ptr (some (bd, 0)), .str logN, sv, .int .i64 nx, .int .i64 sy, .bool br]
def lgO (bd : Nat) (sv : V) (nx sy : Int) (br : Bool) : Obj := .cells (lgC bd sv nx sy br) 68 false false none
/-- A segment that is whole. -/
structure okS (s : Sg) : Prop where
  ne : s.rs ≠ []
  nn : s.rb = none → s.rs = []
  rc : ∀ c ∈ s.rs, Bs c.cs ∧ 1 ≤ c.cs.length ∧ c.cs.length ≤ 65536
/-- Segments that follow each other from a to z. -/
def chain : List Sg → Nat → Nat → Prop
  | [], a, z => a = z
  | s :: r, a, z => s.fst = a ∧ okS s ∧ chain r (a + s.rs.length) z
theorem chain_snoc {s : Sg} : ∀ {pre : List Sg} {a z : Nat}, chain (pre ++ [s]) a z ↔ chain pre a s.fst ∧ okS s ∧ s.fst + s.rs.length = z
  | [], a, z => by
    simp only [List.nil_append, chain]
    constructor
    · rintro ⟨h1, h2, h3⟩; exact ⟨h1.symm, h2, by omega⟩
    · rintro ⟨h1, h2, h3⟩; exact ⟨h1.symm, h2, by omega⟩
  | p :: pre, a, z => by
    simp only [List.cons_append, chain]
    rw [chain_snoc]
    constructor
    · rintro ⟨h1, h2, h3, h4, h5⟩; exact ⟨⟨h1, h2, h3⟩, h4, h5⟩
    · rintro ⟨⟨h1, h2, h3⟩, h4, h5⟩; exact ⟨h1, h2, h3, h4, h5⟩
theorem chain_len : ∀ {sgs : List Sg} {a z : Nat}, chain sgs a z → a + sgs.length ≤ z
  | [], a, z, h => by simp only [chain] at h; simp; omega
  | s :: r, a, z, h => by
    obtain ⟨h1, h2, h3⟩ := h
    have := chain_len h3
    have : 1 ≤ s.rs.length := by
      rcases hq : s.rs with _ | ⟨x, y⟩
      · exact (h2.ne hq).elim
      · simp
    simp only [List.length_cons]; omega
theorem chain_mem : ∀ {sgs : List Sg} {a z : Nat}, chain sgs a z → ∀ s ∈ sgs, okS s ∧ a ≤ s.fst ∧ s.fst + s.rs.length ≤ z
  | [], _, _, _, s, hs => by cases hs
  | p :: r, a, z, h, s, hs => by
    obtain ⟨h1, h2, h3⟩ := h
    have := chain_len h3
    rcases List.mem_cons.1 hs with rfl | hs
    · exact ⟨h2, by omega, by omega⟩
    · obtain ⟨q1, q2, q3⟩ := chain_mem h3 s hs
      exact ⟨q1, by omega, q3⟩
theorem none34 (F : Fw P E T) {h : H} {lb bd : Nat} {sv : V} {nx sy : Int} {br : Bool} (gl : h.get lb = some (lgO bd sv nx sy br)) : Sp P E (.func 34 [] []) [.ptr (some (lb, 0))] h fun v h' => v = .bool false ∧ h' = h := by
  unfold lgO lgC at gl
  have e1 : (logN == ([] : List UInt8)) = false := by decide
  refine Sp_fn F.f34 F.p34 (by simp [fn34]) ?_
  simp (maxSteps := 2000000) only [GO, GO2, evK, fillV, setR, binV, intOp, strOp, shOp, unV, getR, lenV, partV, V.nj, V.njL, V.cells, Nat.reduceLT, Nat.reduceEqDiff, Nat.reduceAdd, ↓reduceIte, Nat.reduceLeDiff, reduceCtorEq, fn34, c34, r34_0, eq_pn, gl, e1]
theorem next11 (F : Fw P E T) {h : H} {lb bd : Nat} {sv : V} {nx sy : Int} {br : Bool} (gl : h.get lb = some (lgO bd sv nx sy br)) : Sp P E (.func 11 [] []) [.ptr (some (lb, 0))] h fun v h' => v = .int .i64 nx ∧ h' = h := by
  refine Sp_fn F.f11 F.p11 (by simp [fn11]) ?_
  simp (maxSteps := 2000000) only [GO, GO2, evK, fillV, setR, binV, intOp, strOp, shOp, unV, getR, lenV, partV, V.nj, V.njL, V.cells, Nat.reduceLT, Nat.reduceEqDiff, Nat.reduceAdd, ↓reduceIte, Nat.reduceLeDiff, reduceCtorEq, fn11, c11, r11_0]
  refine XC_of (none34 F gl) ?_
  rintro _ hx ⟨rfl, e2⟩
  rw [e2]
  clear e2 hx
  unfold lgO lgC at gl
  simp (maxSteps := 2000000) only [GO, GO2, evK, fillV, setR, binV, intOp, strOp, shOp, unV, getR, lenV, partV, V.nj, V.njL, V.cells, Nat.reduceLT, Nat.reduceEqDiff, Nat.reduceAdd, ↓reduceIte, Nat.reduceLeDiff, reduceCtorEq, r11_1, gl]
theorem segs12 (F : Fw P E T) {h : H} {lb bd : Nat} {p : Option (Nat × Nat)} {n c : Nat} {q : Bool} {nx sy : Int} {br : Bool} (gl : h.get lb = some (lgO bd (.slice p n c q) nx sy br)) : Sp P E (.func 12 [] []) [.ptr (some (lb, 0))] h fun v h' => v = .int .i64 n ∧ h' = h := by
  refine Sp_fn F.f12 F.p12 (by simp [fn12]) ?_
  simp (maxSteps := 2000000) only [GO, GO2, evK, fillV, setR, binV, intOp, strOp, shOp, unV, getR, lenV, partV, V.nj, V.njL, V.cells, Nat.reduceLT, Nat.reduceEqDiff, Nat.reduceAdd, ↓reduceIte, Nat.reduceLeDiff, reduceCtorEq, fn12, c12, r12_0]
  refine XC_of (none34 F gl) ?_
  rintro _ hx ⟨rfl, e2⟩
  rw [e2]
  clear e2 hx
  unfold lgO lgC at gl
  simp (maxSteps := 2000000) only [GO, GO2, evK, fillV, setR, binV, intOp, strOp, shOp, unV, getR, lenV, partV, V.nj, V.njL, V.cells, Nat.reduceLT, Nat.reduceEqDiff, Nat.reduceAdd, ↓reduceIte, Nat.reduceLeDiff, reduceCtorEq, r12_1, gl]
theorem end30 (F : Fw P E T) {h : H} {s : Sg} (hb : s.rb = none → s.rs = []) (hm : s.fst + s.rs.length ≤ 1000000000000) : Sp P E (.func 30 [] []) [.agg s.cells] h fun v h' => v = .int .i64 (s.fst + s.rs.length : Nat) ∧ Kp h h' := by
  obtain ⟨p, c, o, hv⟩ := vl_shape s.rb s.rs.length (fun h => by rw [hb h]; rfl)
  have hw : IntKind.i64.wrap ((s.fst : Int) + (s.rs.length : Int)) = ((s.fst + s.rs.length : Nat) : Int) := by
    rw [wrap_le (by omega) (by omega)]; omega
  have g := psh_same h (.cells s.cells 74 false false none)
  have k1 : Kp h (h.psh (.cells s.cells 74 false false none)) := Keeps.psh (Nat.le_refl _) _
  unfold Sg.cells at *
  rw [hv] at g k1 ⊢
  refine Sp_fn F.f30 F.p30 (by simp [fn30]) ?_
  simp (maxSteps := 2000000) only [GO, GO2, evK, fillV, setR, binV, intOp, strOp, shOp, unV, getR, lenV, partV, V.nj, V.njL, V.cells, Nat.reduceLT, Nat.reduceEqDiff, Nat.reduceAdd, ↓reduceIte, Nat.reduceLeDiff, reduceCtorEq, fn30, c30, r30_0, r30_1, g, hw]
  exact k1
theorem fail37 (F : Fw P E T) {lo : Nat} {h : H} {lb bd : Nat} {sv : V} {nx sy e : Int} {br : Bool} {m1 m2 : List Cell} (ow : Ow lo h (m1 ++ (lb, lgO bd sv nx sy br) :: m2)) : Sp P E (.func 37 [] []) [.ptr (some (lb, 0)), .int .i64 e] h fun v h' => v = .int .i64 e ∧ Ow lo h' (m1 ++ (lb, lgO bd sv nx sy (br || e != 0)) :: m2) ∧ Keeps lo h h' := by
  have gl := ow.at (i := lb) (o := lgO bd sv nx sy br) (by simp)
  obtain ⟨ow2, k2⟩ := ow.setM (lgO bd sv nx sy (br || e != 0))
  unfold lgO at gl ow2 k2
  have e4 := put_at (ws := [.bool (br || e != 0)]) (o := 5) gl (by simp [lgC]) rfl rfl
  have hset : setR (lgC bd sv nx sy br) 5 [.bool (br || e != 0)] = lgC bd sv nx sy (br || e != 0) := rfl
  rw [hset] at e4
  unfold lgC at gl
  refine Sp_fn F.f37 F.p37 (by simp [fn37]) ?_
  cases br with
  | true =>
    have hh : (true || e != 0) = true := rfl
    rw [hh] at e4 ow2 k2
    simp (maxSteps := 2000000) only [GO, GO2, evK, fillV, setR, binV, intOp, strOp, shOp, unV, getR, lenV, partV, V.nj, V.njL, V.cells, Nat.reduceLT, Nat.reduceEqDiff, Nat.reduceAdd, ↓reduceIte, Nat.reduceLeDiff, reduceCtorEq, fn37, c37, r37_0, gl, r37_1, e4]
    exact ⟨ow2, k2⟩
  | false =>
    have hh : (false || e != 0) = (e != 0) := rfl
    rw [hh] at e4 ow2 k2
    simp (maxSteps := 2000000) only [GO, GO2, evK, fillV, setR, binV, intOp, strOp, shOp, unV, getR, lenV, partV, V.nj, V.njL, V.cells, Nat.reduceLT, Nat.reduceEqDiff, Nat.reduceAdd, ↓reduceIte, Nat.reduceLeDiff, reduceCtorEq, fn37, c37, r37_0, gl, r37_1, e4]
    exact ⟨ow2, k2⟩
end Go.AM.Wc
/-! The names of segments: their length; no two are alike. -/
namespace Go.AM.Wc
open Go.Lib
theorem dec_le : ∀ (k u : Nat), u < 10 ^ (k + 1) → (decDigits u).length ≤ k + 1 := by
  intro k
  induction k with
  | zero =>
    intro u h
    rw [decDigits, dif_pos (by simpa using h)]; simp
  | succ k ih =>
    intro u h
    rw [decDigits]
    split
    · simp
    · have h2 : u / 10 < 10 ^ (k + 1) := by
        rw [Nat.div_lt_iff_lt_mul (by decide)]
        rw [Nat.pow_succ] at h; exact h
      have := ih (u / 10) h2
      simp only [List.length_append, List.length_cons, List.length_nil]; omega
theorem itoa_le {n : Int} (h0 : 0 ≤ n) (h1 : n ≤ 999999999999) : (itoa n).length ≤ 12 := by
  unfold itoa
  rw [if_neg (by omega)]
  exact dec_le 11 n.toNat (by omega)
def dval (l : List UInt8) : Nat := l.foldl (fun a c => a * 10 + (c.toNat - 48)) 0
theorem dval_snoc (l : List UInt8) (c : UInt8) : dval (l ++ [c]) = dval l * 10 + (c.toNat - 48) := by simp [dval]
theorem dval_zeros (l : List UInt8) : ∀ k, dval (List.replicate k 48 ++ l) = dval l
  | 0 => rfl
  | k + 1 => by
    have := dval_zeros l k
    rw [List.replicate_succ, List.cons_append]
    exact this
theorem dg_val {u : Nat} (h : u < 10) : (UInt8.ofNat (48 + u)).toNat - 48 = u := by
  rw [UInt8.toNat_ofNat']; omega
theorem dval_dec : ∀ u, dval (decDigits u) = u := by
  intro u
  induction u using Nat.strongRecOn with
  | _ u ih =>
    rw [decDigits]
    split
    · rename_i h
      have : dval [UInt8.ofNat (48 + u)] = (UInt8.ofNat (48 + u)).toNat - 48 := by simp [dval]
      rw [this, dg_val h]
    · rename_i h
      rw [dval_snoc, ih (u / 10) (by omega), dg_val (by omega)]
      omega
def segN (n : Nat) : List UInt8 := segS [108, 111, 103] (n : Int)
theorem segN_eq {n : Nat} (h : n ≤ 999999999999) : segN n = [108, 111, 103, 46] ++ (List.replicate (12 - (decDigits n).length) 48 ++ decDigits n) := by
  unfold segN segS
  rw [if_pos ⟨by decide, by omega, by omega⟩, show itoa (n : Int) = decDigits n by unfold itoa; rw [if_neg (by omega)]; simp]
  rfl
theorem segN_len {n : Nat} (h : n ≤ 999999999999) : (segN n).length = 16 := by
  have : (decDigits n).length ≤ 12 := dec_le 11 n (by omega)
  rw [segN_eq h]
  simp only [List.length_append, List.length_cons, List.length_nil, List.length_replicate]
  omega
theorem segN_inj {n m : Nat} (hn : n ≤ 999999999999) (hm : m ≤ 999999999999) (h : segN n = segN m) : n = m := by
  rw [segN_eq hn, segN_eq hm] at h
  have h2 := List.append_cancel_left h
  have h3 := congrArg dval h2
  rw [dval_zeros, dval_zeros, dval_dec, dval_dec] at h3
  exact h3
end Go.AM.Wc
/-! The look at a batch of records; a file taken away. -/
namespace Go.AM.Wc
open Go.AM
variable {P : Program} {E : Env} {T : H → Prop}
/-- A list of records that can be read. -/
def Rl (h : H) (v : V) (xs : List (V × Nat)) : Prop := ∃ a c o, v = .slice a xs.length c o ∧ elemsV h 1 xs.length v = some (xs.map (·.1)) ∧ ∀ p ∈ xs, Rb h p.1 p.2
theorem Rl.kp {h h' : H} {v : V} {xs : List (V × Nat)} (a : Rl h v xs) (k : Kp h h') : Rl h' v xs := by
  obtain ⟨p, c, o, h1, h2, h3⟩ := a
  exact ⟨p, c, o, h1, elems_kp k h2, fun x hx => (h3 x hx).kp k⟩
theorem Rl.at {h : H} {v : V} {xs : List (V × Nat)} {k : Nat} (a : Rl h v xs) (hk : k < xs.length) : ∃ b o c q cs ty op ro fz, v = .slice (some (b, o)) xs.length c q ∧ h.get b = some (.cells cs ty op ro fz) ∧ cs[o + k]? = some xs[k].1 := by
  obtain ⟨p, c, q, rfl, h2, h3⟩ := a
  cases p with
  | none => simp only [elemsV] at h2; rw [if_neg (by omega)] at h2; cases h2
  | some p =>
    obtain ⟨i, o⟩ := p
    simp only [elemsV] at h2
    rw [if_neg (by omega)] at h2
    split at h2
    · rename_i vs ty op ro fz hg
      split at h2
      · rename_i hle
        simp only [Option.some.injEq] at h2
        refine ⟨i, o, c, q, vs, ty, op, ro, fz, rfl, hg, ?_⟩
        have e : (getR vs o (xs.length * 1))[k]? = (xs.map (·.1))[k]? := by rw [h2]
        unfold getR at e
        rw [List.getElem?_take, if_pos (by omega), List.getElem?_drop] at e
        rw [e]
        simp [hk]
      · cases h2
    · cases h2
theorem bad36 (F : Fw P E T) {h : H} {p : Option (Nat × Nat)} {n c : Nat} {o : Bool} : Sp P E (.func 36 [] []) [.slice p n c o] h fun r h' => r = .bool (decide (n = 0 ∨ 65536 < n)) ∧ h' = h := by
  refine Sp_fn F.f36 F.p36 (by simp [fn36]) ?_
  by_cases h0 : n = 0
  · have c1 : ((n : Int) == 0) = true := by rw [h0]; rfl
    simp (maxSteps := 2000000) only [GO, GO2, evK, fillV, setR, binV, intOp, strOp, shOp, unV, getR, lenV, partV, V.nj, V.njL, V.cells, Nat.reduceLT, Nat.reduceEqDiff, Nat.reduceAdd, ↓reduceIte, Nat.reduceLeDiff, reduceCtorEq, fn36, c36, r36_0, c1]
    simp [h0]
  · have c1 : ((n : Int) == 0) = false := by
      cases hq : ((n : Int) == 0) with
      | false => rfl
      | true => rw [beq_iff_eq] at hq; omega
    by_cases h1 : (n : Int) > 65536
    · simp (maxSteps := 2000000) only [GO, GO2, evK, fillV, setR, binV, intOp, strOp, shOp, unV, getR, lenV, partV, V.nj, V.njL, V.cells, Nat.reduceLT, Nat.reduceEqDiff, Nat.reduceAdd, ↓reduceIte, Nat.reduceLeDiff, reduceCtorEq, fn36, c36, r36_0, c1, h1]
      have : 65536 < n := by omega
      simp [this]
    · simp (maxSteps := 2000000) only [GO, GO2, evK, fillV, setR, binV, intOp, strOp, shOp, unV, getR, lenV, partV, V.nj, V.njL, V.cells, Nat.reduceLT, Nat.reduceEqDiff, Nat.reduceAdd, ↓reduceIte, Nat.reduceLeDiff, reduceCtorEq, fn36, c36, r36_0, c1, h1]
      have : ¬ 65536 < n := by omega
      simp [h0, this]
theorem index68 (F : Fw P E T) {h : H} {v : V} {xs : List (V × Nat)} (hv : Rl h v xs) (hl : xs.length ≤ 1099511627776) : Sp P E (.func 68 [] []) [v, .func 36 [] []] h fun r h' => (∃ i : Int, r = .int .i64 i ∧ (¬ i ≥ 0 → ∀ p ∈ xs, 1 ≤ p.2 ∧ p.2 ≤ 65536)) ∧ h' = h := by
  have loop : ∀ (d k : Nat) (ρ : Nat → V), xs.length - k = d → k ≤ xs.length → (∀ p ∈ xs.take k, 1 ≤ p.2 ∧ p.2 ≤ 65536) → ρ 0 = v → ρ 1 = .func 36 [] [] → ρ 7 = .int .i64 xs.length → ρ 8 = .int .i64 k →
      XL P E none 19 b68_5 [.b 0, .c (.seq (.region [⟨some 4, .mv (.k (.int .i64 (-1))), none, 0, [4]⟩]) (.ret))] ρ h (Fin [.t 4] fun r h' => (∃ i : Int, r = .int .i64 i ∧ (¬ i ≥ 0 → ∀ p ∈ xs, 1 ≤ p.2 ∧ p.2 ≤ 65536)) ∧ h' = h) := by
    intro d
    induction d with
    | zero =>
      intro k ρ hd hk ha q0 q1 q7 q8
      have hke : ¬ k < xs.length := by omega
      rw [List.take_of_length_le (by omega)] at ha
      rw [u68_5]
      simp (maxSteps := 2000000) only [GO, GO2, evK, fillV, setR, binV, intOp, strOp, shOp, unV, getR, lenV, partV, V.nj, V.njL, V.cells, Nat.reduceLT, Nat.reduceEqDiff, Nat.reduceAdd, ↓reduceIte, Nat.reduceLeDiff, reduceCtorEq, q7, q8, Int.ofNat_lt, hke]
      exact ⟨-1, rfl, fun _ => ha⟩
    | succ d ih =>
      intro k ρ hd hk ha q0 q1 q7 q8
      have hke : k < xs.length := by omega
      obtain ⟨b1, o1, c1, p1, cs, ty, op, ro, fz, hv1, hg1, hx⟩ := hv.at hke
      have hrb : Rb h xs[k].1 xs[k].2 := by obtain ⟨_, _, _, _, _, h3⟩ := hv; exact h3 _ (List.getElem_mem hke)
      obtain ⟨rp, rc, ro', hrv⟩ := hrb.len
      have q0' := q0.trans hv1
      have hw : IntKind.i64.wrap ((k : Int) + 1) = ((k + 1 : Nat) : Int) := wrap_nat (n := k + 1) (by omega)
      rw [u68_5]
      rw [hrv] at hx
      simp (maxSteps := 2000000) only [GO, GO2, evK, fillV, setR, binV, intOp, strOp, shOp, unV, getR, lenV, partV, V.nj, V.njL, V.cells, Nat.reduceLT, Nat.reduceEqDiff, Nat.reduceAdd, ↓reduceIte, Nat.reduceLeDiff, reduceCtorEq, q7, q8, Int.ofNat_lt, hke, r68_1, r68_2, q0', q1, Int.natCast_nonneg, Int.toNat_natCast, Nat.mul_one, hg1, hx]
      refine XC_of (bad36 F) ?_
      rintro _ hx ⟨rfl, e2⟩
      rw [e2]
      clear e2 hx
      by_cases hbad : xs[k].2 = 0 ∨ 65536 < xs[k].2
      · have e1 : decide (xs[k].2 = 0 ∨ 65536 < xs[k].2) = true := by simpa using hbad
        simp (maxSteps := 2000000) only [GO, GO2, evK, fillV, setR, binV, intOp, strOp, shOp, unV, getR, lenV, partV, V.nj, V.njL, V.cells, Nat.reduceLT, Nat.reduceEqDiff, Nat.reduceAdd, ↓reduceIte, Nat.reduceLeDiff, reduceCtorEq, e1, r68_3]
        exact ⟨k, rfl, fun hn => (hn (Int.natCast_nonneg k)).elim⟩
      · have e1 : decide (xs[k].2 = 0 ∨ 65536 < xs[k].2) = false := by simpa using hbad
        simp (maxSteps := 2000000) only [GO, GO2, evK, fillV, setR, binV, intOp, strOp, shOp, unV, getR, lenV, partV, V.nj, V.njL, V.cells, Nat.reduceLT, Nat.reduceEqDiff, Nat.reduceAdd, ↓reduceIte, Nat.reduceLeDiff, reduceCtorEq, e1, r68_4, q8, hw]
        refine ih (k + 1) _ (by omega) (by omega) ?_ ?_ ?_ ?_ ?_
        · intro p hp
          rw [List.take_succ_eq_append_getElem hke] at hp
          rcases List.mem_append.1 hp with h | h
          · exact ha p h
          · rw [List.mem_singleton.1 h]; omega
        · exact q0
        · exact q1
        · exact q7
        · rfl
  obtain ⟨p, c, o, hvv, _⟩ := hv
  refine Sp_fn F.f68 F.p68 (by simp [fn68]) ?_
  rw [hvv] at loop ⊢
  simp (maxSteps := 2000000) only [GO, GO2, evK, fillV, setR, binV, intOp, strOp, shOp, unV, getR, lenV, partV, V.nj, V.njL, V.cells, Nat.reduceLT, Nat.reduceEqDiff, Nat.reduceAdd, ↓reduceIte, Nat.reduceLeDiff, reduceCtorEq, fn68, c68, r68_0]
  exact loop xs.length 0 _ rfl (Nat.zero_le _) (by simp) rfl rfl rfl rfl
theorem contains35 (F : Fw P E T) {h : H} {v : V} {xs : List (V × Nat)} (hv : Rl h v xs) (hl : xs.length ≤ 1099511627776) : Sp P E (.func 35 [] []) [v, .func 36 [] []] h fun r h' => (∃ b : Bool, r = .bool b ∧ (b = false → ∀ p ∈ xs, 1 ≤ p.2 ∧ p.2 ≤ 65536)) ∧ h' = h := by
  refine Sp_fn F.f35 F.p35 (by simp [fn35]) ?_
  have hv0 := hv
  obtain ⟨p, c, o, hvv, _⟩ := hv0
  rw [hvv] at hv ⊢
  simp (maxSteps := 2000000) only [GO, GO2, evK, fillV, setR, binV, intOp, strOp, shOp, unV, getR, lenV, partV, V.nj, V.njL, V.cells, Nat.reduceLT, Nat.reduceEqDiff, Nat.reduceAdd, ↓reduceIte, Nat.reduceLeDiff, reduceCtorEq, fn35, c35, r35_0]
  refine XC_of (index68 F hv hl) ?_
  rintro _ hx ⟨⟨i, rfl, hi⟩, e2⟩
  rw [e2]
  clear e2 hx
  by_cases h0 : i ≥ 0
  · simp (maxSteps := 2000000) only [GO, GO2, evK, fillV, setR, binV, intOp, strOp, shOp, unV, getR, lenV, partV, V.nj, V.njL, V.cells, Nat.reduceLT, Nat.reduceEqDiff, Nat.reduceAdd, ↓reduceIte, Nat.reduceLeDiff, reduceCtorEq, h0]
    exact ⟨true, rfl, by simp⟩
  · simp (maxSteps := 2000000) only [GO, GO2, evK, fillV, setR, binV, intOp, strOp, shOp, unV, getR, lenV, partV, V.nj, V.njL, V.cells, Nat.reduceLT, Nat.reduceEqDiff, Nat.reduceAdd, ↓reduceIte, Nat.reduceLeDiff, reduceCtorEq, h0]
    exact ⟨false, rfl, fun _ => hi h0⟩
theorem remove39 (F : Fw P E T) {lo : Nat} {h : H} {bd bm i blk cl : Nat} {es : List (V × V × Nat)} {n : List UInt8} {m1 m2 : List Cell} (ow : Ow lo h (m1 ++ (bd, .cells (diskC bm) 63 false false none) :: (bm, .map es cl) :: m2)) (hlo : lo ≤ h.size) (hf : findK .str (.str n) es 0 = some (some (i, .ptr (some (blk, 0))))) (l1 : 1 ≤ n.length) (l2 : n.length ≤ 64) :
    Sp P E (.func 39 [] []) [.ptr (some (bd, 0)), .str n] h fun r h' => r = .int .i64 0 ∧ Ow lo h' (m1 ++ (bd, .cells (diskC bm) 63 false false none) :: (bm, .map (es.eraseIdx i) cl) :: m2) ∧ Keeps lo h h' := by
  have k1 : Kp h (h.psh (.cells [.str n] 9 false false none)) := Keeps.psh (Nat.le_refl _) _
  have gb := psh_same h (.cells [.str n] 9 false false none)
  have ow1 := ow.kp k1
  have gd := ow1.at (i := bd) (o := .cells (diskC bm) 63 false false none) (by simp)
  have gm := ow1.at (i := bm) (o := .map es cl) (by simp)
  have ow1' : Ow lo (h.psh (.cells [.str n] 9 false false none)) ((m1 ++ [(bd, .cells (diskC bm) 63 false false none)]) ++ (bm, .map es cl) :: m2) := by simpa using ow1
  obtain ⟨ow2, k2⟩ := ow1'.setM (.map (es.eraseIdx i) cl)
  have c4 : ((0 : Int) != 0) = false := rfl
  have hd0 : List.drop 1 [V.str []] = [] := rfl
  refine Sp_fn F.f39 F.p39 (by simp [fn39]) ?_
  simp (maxSteps := 2000000) only [GO, GO2, evK, fillV, setR, binV, intOp, strOp, shOp, unV, getR, lenV, partV, V.nj, V.njL, V.cells, Nat.reduceLT, Nat.reduceEqDiff, Nat.reduceAdd, ↓reduceIte, Nat.reduceLeDiff, reduceCtorEq, fn39, c39, r39_0, hd0]
  refine XC_of (there63 F gd gm hf gb l1 l2) ?_
  rintro _ hx ⟨rfl, e2⟩
  rw [e2]
  clear e2 hx
  simp (maxSteps := 2000000) only [GO, GO2, evK, fillV, setR, binV, intOp, strOp, shOp, unV, getR, lenV, partV, V.nj, V.njL, V.cells, Nat.reduceLT, Nat.reduceEqDiff, Nat.reduceAdd, ↓reduceIte, Nat.reduceLeDiff, reduceCtorEq, r39_1, c4, r39_3]
  refine XC_of (changes67 F gd) ?_
  rintro _ hx ⟨rfl, e2⟩
  rw [e2]
  clear e2 hx
  unfold diskC at gd
  simp (maxSteps := 2000000) only [GO, GO2, evK, fillV, setR, binV, intOp, strOp, shOp, unV, getR, lenV, partV, V.nj, V.njL, V.cells, Nat.reduceLT, Nat.reduceEqDiff, Nat.reduceAdd, ↓reduceIte, Nat.reduceLeDiff, reduceCtorEq, r39_4, c4, r39_6, gd, gm, hf]
  exact ⟨by simpa using ow2, Keeps.trans (k1.mono hlo) k2⟩
end Go.AM.Wc
/-! Draw regions whose readings all feed what acts loudly at the end. -/
namespace Go.AM
/-- Kinds that never read. -/
def K.sure : K → Bool
  | .mv _ | .un .. | .fadr .. | .nilck _ | .call .. | .app .. | .store .. | .bslice .. | .box .. | .build .. | .lenL _ => true
  | _ => false
theorem sure_rd {P : Program} {T : List V} {h : H} {k : K} {v : V} (hr : evK P T h k = some (.rd v)) : k.sure = false := by
  cases hs : k.sure with
  | false => rfl
  | true =>
    exfalso
    cases k with
    | app ty size bytes s x =>
      simp only [evK] at hr
      split at hr
      · obtain ⟨v', h1, e⟩ := appV_eff hr; cases e
      · cases hr
    | mv | un | fadr | nilck | call | store | bslice | box | build | lenL =>
      simp only [evK] at hr
      repeat' split at hr
      all_goals first
        | (cases hr; done)
        | (obtain ⟨v', _, e⟩ := Option.map_eq_some_iff.1 hr; cases e; done)
    | _ => simp [K.sure] at hs
/-- Whatever may act in B waits for whatever may read in A. -/
def pinB (A B : List O) : Bool := B.all fun b => b.op.sure && (b.op.still || A.zipIdx.all fun a => a.1.op.sure || b.pre.testBit a.2)
theorem evDr_of {P : Program} {ap : Ap} : ∀ (ops : List O) (T : List V) (h : H) (T' : List V) (h' : H), evOs P ap ops T h = some (T', h') → ∃ es, evDr P ap ops T h = some (es, T', h')
  | [], T, h, T', h', he => by simp only [evOs_nil, Option.some.injEq, Prod.mk.injEq] at he; exact ⟨[], by simp [evDr, he]⟩
  | ⟨dst, k, g, pre, ns⟩ :: ops, T, h, T', h', he => by
    rw [evOs_cons, evO_step] at he
    simp only [evDr]
    split at he
    · rename_i hw
      rw [if_pos hw]
      cases hk : evK P T h k with
      | none => rw [hk] at he; simp [stepR] at he
      | some x =>
        rw [hk] at he
        cases x with
        | pur v =>
          simp only [stepR, Option.bind_some] at he
          obtain ⟨es, e⟩ := evDr_of ops _ _ _ _ he
          simp only [e, Option.map_some]; exact ⟨_, rfl⟩
        | rd v =>
          simp only [stepR, Option.bind_some] at he
          obtain ⟨es, e⟩ := evDr_of ops _ _ _ _ he
          simp only [e, Option.map_some]; exact ⟨_, rfl⟩
        | eff v h1 =>
          simp only [stepR, Option.bind_some] at he
          obtain ⟨es, e⟩ := evDr_of ops _ _ _ _ he
          simp only [e, Option.map_some]; exact ⟨_, rfl⟩
        | call f args =>
          simp only [stepR] at he
          cases ha : ap f args h with
          | none => rw [ha] at he; simp at he
          | some r =>
            obtain ⟨v, h1⟩ := r
            rw [ha] at he
            simp only [Option.map_some, Option.bind_some] at he
            obtain ⟨es, e⟩ := evDr_of ops _ _ _ _ he
            simp only [ha, e, Option.map_some]; exact ⟨_, rfl⟩
    · rename_i hw
      rw [if_neg hw]
      simp only [Option.bind_some] at he
      obtain ⟨es, e⟩ := evDr_of ops _ _ _ _ he
      simp only [e, Option.map_some]; exact ⟨_, rfl⟩
theorem evDr_append {P : Program} {ap : Ap} : ∀ (A B : List O) (T : List V) (h : H) (es : List Ent) (T1 : List V) (h1 : H) (es2 : List Ent) (T2 : List V) (h2 : H), evDr P ap A T h = some (es, T1, h1) → evDr P ap B T1 h1 = some (es2, T2, h2) → evDr P ap (A ++ B) T h = some (es ++ es2, T2, h2)
  | [], B, T, h, es, T1, h1, es2, T2, h2, ha, hb => by cases ha; exact hb
  | o :: A, B, T, h, es, T1, h1, es2, T2, h2, ha, hb => by
    have one : ∀ (ent : Ent) (T0 : List V) (h0 : H), (evDr P ap A T0 h0).map (fun x => (ent :: x.1, x.2)) = some (es, T1, h1) → (evDr P ap (A ++ B) T0 h0).map (fun x => (ent :: x.1, x.2)) = some (es ++ es2, T2, h2) := by
      intro ent T0 h0 hm
      obtain ⟨⟨es0, T3, h3⟩, m1, m2⟩ := Option.map_eq_some_iff.1 hm
      simp only [Prod.mk.injEq] at m2
      obtain ⟨rfl, rfl, rfl⟩ := m2
      rw [evDr_append A B T0 h0 es0 _ _ es2 T2 h2 m1 hb]
      rfl
    simp only [evDr, List.cons_append] at ha ⊢
    split at ha
    · rename_i hw
      rw [if_pos hw]
      cases hk : evK P T h o.op with
      | none => rw [hk] at ha; simp at ha
      | some x =>
        rw [hk] at ha
        cases x with
        | pur v => exact one _ _ _ ha
        | rd v => exact one _ _ _ ha
        | eff v h1 => exact one _ _ _ ha
        | call f args =>
          simp only at ha ⊢
          cases hap : ap f args h with
          | none => rw [hap] at ha; simp at ha
          | some r => rw [hap] at ha; exact one _ _ _ ha
    · rename_i hw
      rw [if_neg hw]
      exact one _ _ _ ha
theorem readsM {P : Program} {h0 : H} {o : O} {e : Ent} {i : Nat} (hpre : (∀ h, Kp h0 h → sameAt P o e h = true) ∨ (∀ h, Kp e.h h → sameAt P o e h = true)) (hna : e.act = false) : ∀ (ops : List O) (es : List Ent) (j : Nat) (h : H),
    (∀ e0, es[0]? = some e0 → e0.h = h) → (∀ (k : Nat) a b, es[k]? = some a → es[k + 1]? = some b → b.h = a.h') → (∀ (k : Nat) a, es[k]? = some a → a.act = false → a.h' = a.h) →
    (∀ (k : Nat) a q, es[k]? = some a → ops[k]? = some q → a.act = true → Kp a.h a.h' ∨ q.pre.testBit i = true) → es.length = ops.length →
    Kp h0 h → (j ≤ i → es[i - j]? = some e) → (i < j → Kp e.h h) →
    ((∀ h, Kp h0 h → sameAt P o e h = true) ∨ ∀ (k : Nat) a, es[k]? = some a → a.act = true → j + k < i → o.pre.testBit (j + k) = true) →
    readsOk P o e i h (actsOf ops es j) = true
  | [], [], j, h, _, _, _, _, _, hk, h4, h5, _ => by
    have hji : i < j := by
      rcases Nat.lt_or_ge i j with h | h
      · exact h
      · have := h4 h; simp at this
    simp only [actsOf, readsOk]
    rcases hpre with hp | hp
    · exact hp h hk
    · exact hp h (h5 hji)
  | [], _ :: _, _, _, _, _, _, _, hl, _, _, _, _ => by simp at hl
  | _ :: _, [], _, _, _, _, _, _, hl, _, _, _, _ => by simp at hl
  | o1 :: ops, e1 :: es, j, h, h1, h2, h3, h3', hl, hk, h4, h5, h6 => by
    have e1h := h1 e1 rfl
    have nxt : ∀ h', e1.h' = h' → Kp h0 h' → (i < j + 1 → Kp e.h h') → readsOk P o e i h' (actsOf ops es (j + 1)) = true := by
      intro h' hh hk' hlast
      refine readsM hpre hna ops es (j + 1) h' (fun e0 he0 => ?_) (fun k a b ha hb => h2 (k + 1) a b (by simpa using ha) (by simpa using hb)) (fun k a ha => h3 (k + 1) a (by simpa using ha)) (fun k a q ha hq => h3' (k + 1) a q (by simpa using ha) (by simpa using hq)) (by simpa using hl) hk'
        (fun hj => ?_) hlast ?_
      · rw [← hh]; exact h2 0 e1 e0 rfl (by simpa using he0)
      · have := h4 (by omega)
        rw [show i - j = (i - (j + 1)) + 1 by omega] at this
        simpa using this
      · rcases h6 with h6 | h6
        · exact .inl h6
        · refine .inr fun k a ha hact hlt => ?_
          have := h6 (k + 1) a (by simpa using ha) hact (by omega)
          rwa [show j + (k + 1) = j + 1 + k by omega] at this
    unfold actsOf
    by_cases ha : e1.act = true
    · simp only [ha, if_true, readsOk]
      have hne : j ≠ i := by
        intro hji
        have := h4 (by omega)
        rw [hji, Nat.sub_self] at this
        simp at this; subst this
        rw [hna] at ha; cases ha
      have hc : ((o.pre.testBit j || (actsOf ops es (j + 1)).any fun b => o.pre.testBit b.1) || sameAt P o e h) = true := by
        simp only [Bool.or_eq_true]
        rcases h6 with h6 | h6
        · exact .inr (h6 h hk)
        · rcases Nat.lt_or_ge j i with hlt | hge
          · exact .inl (.inl (by simpa using h6 0 e1 rfl ha (by omega)))
          · rcases hpre with hp | hp
            · exact .inr (hp h hk)
            · exact .inr (hp h (h5 (by omega)))
      rw [hc, Bool.true_and, Bool.or_eq_true]
      rcases h3' 0 e1 o1 rfl rfl ha with hkk | hpin
      · rw [e1h] at hkk
        exact .inr (nxt e1.h' rfl (hk.trans hkk) (fun hh => (h5 (by omega)).trans hkk))
      · exact .inl hpin
    · have ha' : e1.act = false := by simpa using ha
      simp only [ha', Bool.false_eq_true, if_false]
      have hh := h3 0 e1 rfl ha'
      refine nxt h (hh.trans e1h) hk fun hji => ?_
      rcases Nat.lt_or_ge i j with hlt | hge
      · exact h5 hlt
      · have hij : i = j := by omega
        have := h4 hge
        rw [hij, Nat.sub_self] at this
        simp at this; subst this
        rw [e1h]; exact Keeps.refl _ _
variable {P : Program} {E : Env} {ro : Option Nat} {L : Nat} {S : List Fr} {Q : Po} {h0 : H}
theorem XD_last {A B : List O} {fs : List Bool} {ρ : Nat → V} (hf : flagsFrom [] A 0 = fs) (hc : (chained (flagsFrom [] (A ++ B) 0) (A ++ B) && fstat (A ++ B) && pinB A B) = true) (hx : XDQ P E ro L (.c (.region B) :: S) Q h0 fs A ρ h0) : XD P E ro L (A ++ B) S ρ h0 Q := by
  have flen : ∀ (ops : List O) (acts : List Nat) (j : Nat), (flagsFrom acts ops j).length = ops.length := by
    intro ops
    induction ops with
    | nil => intro _ _; rfl
    | cons o r ih => intro _ _; simp [flagsFrom, ih]
  have hlen : fs.length = A.length := by rw [← hf]; exact flen _ _ _
  obtain ⟨esA, T1, h1, heA, hq, hX⟩ := XDQ_ents fs A ρ h0 hlen (Keeps.refl _ _) hx
  simp only [XX, EK, EC_region] at hX
  obtain ⟨ex', T3, h3, hX1, hX2⟩ := hX
  cases hB : evOs P (AP P E) B T1 h1 with
  | none => rw [hB] at hX1; simp at hX1
  | some r =>
  obtain ⟨T2, h2⟩ := r
  rw [hB] at hX1
  simp only [Option.map_some] at hX1
  obtain ⟨esB, heB⟩ := evDr_of B T1 h1 T2 h2 hB
  have he := evDr_append A B _ _ esA T1 h1 esB T2 h2 heA heB
  refine ⟨T2, h2, ?_, ex', T3, h3, by simpa using hX1, hX2⟩
  obtain ⟨a1, a2, a3, a4, a5⟩ := evDr_ents A (toL L ρ) h0 esA T1 h1 heA
  obtain ⟨b1, b2, b3, b4, b5⟩ := evDr_ents B T1 h1 esB T2 h2 heB
  obtain ⟨e1, e2, e3, e4, e5⟩ := evDr_ents (A ++ B) (toL L ρ) h0 (esA ++ esB) T2 h2 he
  rw [Bool.and_eq_true, Bool.and_eq_true] at hc
  obtain ⟨⟨hc, hfs⟩, hpin⟩ := hc
  have fget : ∀ (i : Nat) o, (A ++ B)[i]? = some o → ∃ f, (flagsFrom [] (A ++ B) 0)[i]? = some f ∧ (f = true → ∀ (k : Nat) o', k < i → (A ++ B)[k]? = some o' → o'.op.still = false → o.pre.testBit k = true) := fun i o hi => by
    obtain ⟨f, h1, h2⟩ := flags_get (A ++ B) [] 0 i o hi
    refine ⟨f, h1, fun hft k o' hk ho' hs => ?_⟩
    have := (h2 hft).2 k o' hk ho' hs
    simpa using this
  have fgetA : ∀ (i : Nat) o, A[i]? = some o → ∃ f, fs[i]? = some f ∧ (f = true → ∀ (k : Nat) o', k < i → A[k]? = some o' → o'.op.still = false → o.pre.testBit k = true) := fun i o hi => by
    obtain ⟨f, h1, h2⟩ := flags_get A [] 0 i o hi
    rw [hf] at h1
    refine ⟨f, h1, fun hft k o' hk ho' hs => ?_⟩
    have := (h2 hft).2 k o' hk ho' hs
    simpa using this
  have hfl : floatOk (actsF (A ++ B) (esA ++ esB) 0) (A ++ B) = true := fstat_ok hfs fun k o e a1 a2 a3 => (e2 k e o a2 a1).1 a3
  have hch : chainF (actsF (A ++ B) (esA ++ esB) 0) = true := chain_ok (A ++ B) (esA ++ esB) 0 fun k l o o' a b a1 a2 a3 a4 a5 a6 a7 => by
    have hs := (e2 k a o a3 a1).1 a5
    have hs' := (e2 l b o' a4 a2).1 a6
    obtain ⟨f, hf1, hf2⟩ := fget l o' a2
    rw [Nat.zero_add]
    exact (chained_get _ (A ++ B) hc l f o' hf1 a2 hs').elim (fun hft => .inr (hf2 hft k o a7 a1 hs)) .inl
  have hrd : rdsOk P (actsOf (A ++ B) (esA ++ esB) 0) h0 (A ++ B) (esA ++ esB) 0 = true := rds_ok (A ++ B) (esA ++ esB) 0 fun k o e q1 q2 q3 => by
    rw [Nat.zero_add]
    obtain ⟨w1, w2⟩ := (e2 k e o q2 q1).2 q3
    have hns := sure_rd w1
    rcases Nat.lt_or_ge k A.length with hkA | hkB
    rotate_left
    · exfalso
      have hb : B[k - A.length]? = some o := by rw [List.getElem?_append_right hkB] at q1; exact q1
      have hmem := List.mem_of_getElem? hb
      have := List.all_eq_true.1 hpin o hmem
      rw [hns] at this
      simp at this
    have q1A : A[k]? = some o := by rw [List.getElem?_append_left hkA] at q1; exact q1
    have q2A : esA[k]? = some e := by rw [List.getElem?_append_left (by omega)] at q2; exact q2
    obtain ⟨f, hf1, hf2⟩ := fgetA k o q1A
    obtain ⟨hnj, hor⟩ := (EntsQ_get fs A esA hq k f o e hf1 q1A q2A).2 q3
    have hsame : ∀ hh, evK P e.T hh o.op = some (.rd e.v) → sameAt P o e hh = true := fun hh hv => by
      unfold sameAt; rw [hv]; exact V.beq_refl _ hnj
    have hacts : ∀ (l : Nat) a q, (esA ++ esB)[l]? = some a → (A ++ B)[l]? = some q → a.act = true → Kp a.h a.h' ∨ q.pre.testBit k = true := fun l a q c1 c2 c3 => by
      rcases Nat.lt_or_ge l A.length with hlA | hlB
      · rw [List.getElem?_append_left (by omega)] at c1
        rw [List.getElem?_append_left hlA] at c2
        obtain ⟨f', hf1', _⟩ := fgetA l q c2
        exact .inl ((EntsQ_get fs A esA hq l f' q a hf1' c2 c1).1 c3)
      · rw [List.getElem?_append_right (by omega)] at c1
        rw [List.getElem?_append_right hlB] at c2
        rw [a1] at c1
        have hs := (b2 _ a q c1 c2).1 c3
        have hp := List.all_eq_true.1 hpin q (List.mem_of_getElem? c2)
        simp only [Bool.and_eq_true, hs, Bool.false_or] at hp
        have hz : (o, k) ∈ A.zipIdx := by
          rw [List.mem_zipIdx_iff_getElem?]; exact q1A
        have := List.all_eq_true.1 hp.2 _ hz
        simp only [hns, Bool.false_or] at this
        exact .inr this
    have hget : (esA ++ esB)[k - 0]? = some e := by simpa using q2
    rcases hor with hft | hv0
    · refine readsM (h0 := h0) (.inr fun hh hk => hsame hh (evK_rd hk w1)) w2 (A ++ B) (esA ++ esB) 0 h0 e3 e4 e5 hacts e1 (Keeps.refl _ _) (fun _ => hget) (fun hh => by omega) (.inr fun l a b1 b3 b4 => ?_)
      rw [Nat.zero_add] at b4 ⊢
      have hll : l < A.length := by omega
      have b1' : esA[l]? = some a := by rw [List.getElem?_append_left (by omega)] at b1; exact b1
      exact hf2 hft l A[l] b4 (List.getElem?_eq_getElem hll) ((a2 l a A[l] b1' (List.getElem?_eq_getElem hll)).1 b3)
    · have hall : ∀ hh, Kp h0 hh → sameAt P o e hh = true := fun hh hk => hsame hh (evK_rd hk hv0)
      exact readsM (.inl hall) w2 (A ++ B) (esA ++ esB) 0 h0 e3 e4 e5 hacts e1 (Keeps.refl _ _) (fun _ => hget) (fun hh => by omega) (.inl hall)
  unfold evDraw
  rw [he]
  simp only [hch, hrd, hfl, Bool.and_self, Bool.or_true, if_true]
end Go.AM
