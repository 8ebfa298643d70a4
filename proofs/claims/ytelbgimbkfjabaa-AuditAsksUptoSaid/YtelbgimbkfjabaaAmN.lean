/- My own texts of the evaluator, its soundness and its symbolic runs, laid for this claim. -/
import Derived.Test.YtelbgimbkfjabaaAmMAmM2
import Derived.Laws.BytesString
import Derived.Laws.Externs
import Derived.Lib.MakeNoZero
import Derived.Lib.UnsafeStr
set_option linter.unusedSimpArgs false
set_option linter.unusedVariables false
/-! Soundness, X: maps, iterators, bytes and texts, the other builtins. -/
namespace Go.AM
variable {P : Program} {m : Mp} {h : H} {w : World} {T : List V} {a : Act} {o : Oper} {k : K}

/-! ### blocks that are no cells -/
theorem run_getObj {r : Nat} {ob : Go.Obj} (hb : w.heap[r]? = some ob) (hn : ∀ c t f, ob ≠ .cells c t f) : (getObj r).run P w = .ok ob w := by
  cases ob <;> first | (simp only [getObj, Sem.run, hb]; done) | exact absurd rfl (hn _ _ _)
theorem run_setObj {r : Nat} {ob ob' : Go.Obj} (hb : w.heap[r]? = some ob) (hn : ∀ c t f, ob ≠ .cells c t f) : (setObj r ob').run P w = .ok () { w with heap := w.heap.setIfInBounds r ob' } := by
  cases ob <;> first | (simp only [setObj, Sem.run, hb]; done) | exact absurd rfl (hn _ _ _)
theorem Upd.setObj {r : Nat} {ob ob' : Go.Obj} (hb : w.heap[r]? = some ob) : Upd w r ob' { w with heap := w.heap.setIfInBounds r ob' } := by
  have hr : r < w.heap.size := by
    rcases Nat.lt_or_ge r w.heap.size with h | h
    · exact h
    · simp [Array.getElem?_eq_none h] at hb
  refine ⟨by simp, by simp [hr], fun b hb => ?_, rfl, rfl, rfl, Nat.le_refl _⟩
  simp [Ne.symm hb]

theorem HR.map {i r sh e : Nat} {es : List (V × V × Nat)} {cl : Nat} (hr : HR P m h w) (hg : h.get i = some (.map es cl)) (hm : m i = some (r, sh, e)) :
    ∃ es', w.heap[r]? = some (.map es' cl) ∧ ER m es es'.toList := by
  obtain ⟨r', sh', e', ob, h1, h2, es', rfl, h3⟩ := hr.obj i _ hg rfl
  rw [hm] at h1; cases h1
  exact ⟨es', h2, h3⟩

theorem ER.length : ∀ {es : List (V × V × Nat)} {ys : List MapEntry}, ER m es ys → ys.length = es.length
  | [], _, h => by cases h; rfl
  | _ :: _, _, h => by obtain ⟨y, ys, _, _, _, h4, rfl⟩ := h; simp [ER.length h4]
theorem ER.get : ∀ {es : List (V × V × Nat)} {ys : List MapEntry}, ER m es ys → ∀ {i : Nat} {e : V × V × Nat}, es[i]? = some e → ∃ y, ys[i]? = some y ∧ VR m e.1 y.key ∧ VR m e.2.1 y.val ∧ y.born = e.2.2
  | [], _, _, i, e, hi => by simp at hi
  | _ :: _, _, h, i, e, hi => by
    obtain ⟨y, ys, h1, h2, h3, h4, rfl⟩ := h
    cases i with
    | zero => simp at hi; subst hi; exact ⟨y, rfl, h1, h2, h3⟩
    | succ i => simpa using ER.get h4 (by simpa using hi)
theorem ER.of_get : ∀ {es : List (V × V × Nat)} {ys : List MapEntry}, ys.length = es.length → (∀ (i : Nat) (e : V × V × Nat), es[i]? = some e → ∃ y, ys[i]? = some y ∧ VR m e.1 y.key ∧ VR m e.2.1 y.val ∧ y.born = e.2.2) → ER m es ys
  | [], ys, hl, _ => by cases ys with | nil => rfl | cons a b => simp at hl
  | e :: es, [], hl, _ => by simp at hl
  | e :: es, y :: ys, hl, h => by
    obtain ⟨z, hz, h1, h2, h3⟩ := h 0 e rfl
    simp at hz; subst hz
    exact ⟨y, ys, h1, h2, h3, ER.of_get (by simpa using hl) fun i u hu => by simpa using h (i + 1) u (by simpa using hu), rfl⟩

theorem run_checkKey {t : TypeId} {d : TypeDesc} (hu : P.underlying t = some d) (hd : d = .bool ∨ (∀ k, d = .int k ∨ True) ∧ (∃ k, d = .int k) ∨ d = .string) (b : Bool) (n : Nat) (v : Value) (w : World) :
    (Instr.checkKey b (n + 1) t v).run P w = .ok () w := by
  simp only [Instr.checkKey, Sem.run_bind, run_underlying hu, Result.andThen_ok]
  rcases hd with rfl | ⟨_, k, rfl⟩ | rfl <;> rfl

theorem keyT_spec {t : TypeId} {q : EqT} (b : Bool) (hq : keyT P t = some q) : ∃ d, P.underlying t = some d ∧ (∀ v w, (Instr.checkKey b 10000 t v).run P w = .ok () w) ∧
    (∀ (x y : V) (X Y : Value) (c : Bool), VR m x X → VR m y Y → sameK q x y = some c → Instr.sameNow d X Y = some c) := by
  unfold keyT at hq
  split at hq <;> cases hq
  · rename_i hu
    refine ⟨_, hu, fun v w => run_checkKey hu (.inl rfl) b 9999 v w, fun x y X Y c hx hy hs => ?_⟩
    unfold sameK at hs
    split at hs <;> first | cases hs; done | (cases hx; cases hy; simp_all [Instr.sameNow])
  · rename_i kd hu
    refine ⟨_, hu, fun v w => run_checkKey hu (.inr (.inl ⟨fun _ => .inr trivial, kd, rfl⟩)) b 9999 v w, fun x y X Y c hx hy hs => ?_⟩
    unfold sameK at hs
    split at hs <;> first | cases hs; done | (cases hx; cases hy; simp_all [Instr.sameNow])
  · rename_i hu
    refine ⟨_, hu, fun v w => run_checkKey hu (.inr (.inr rfl)) b 9999 v w, fun x y X Y c hx hy hs => ?_⟩
    unfold sameK at hs
    split at hs <;> first | cases hs; done | (cases hx; cases hy; simp_all [Instr.sameNow, byteArray_beq])

theorem findNow_of {d : TypeDesc} {q : EqT} {x : V} {X : Value} (hx : VR m x X) (hs : ∀ (x y : V) (X Y : Value) (c : Bool), VR m x X → VR m y Y → sameK q x y = some c → Instr.sameNow d X Y = some c) :
    ∀ {es : List (V × V × Nat)} {ys : List MapEntry} {i : Nat} {res : Option (Nat × V)}, ER m es ys → findK q x es i = some res →
      ∃ res', Instr.findNow d X ys i = some res' ∧ (match res with
        | none => res' = none
        | some (j, v) => ∃ V', res' = some (j, V') ∧ VR m v V' ∧ i ≤ j ∧ ∃ e, es[j - i]? = some e ∧ e.2.1 = v ∧ sameK q x e.1 = some true)
  | [], _, i, res, h, hf => by cases h; simp [findK] at hf; subst hf; exact ⟨none, rfl, rfl⟩
  | e :: es, _, i, res, h, hf => by
    obtain ⟨y, ys, h1, h2, h3, h4, rfl⟩ := h
    simp only [findK] at hf
    split at hf
    · rename_i hk
      cases hf
      exact ⟨some (i, y.val), by simp [Instr.findNow, hs _ _ _ _ _ hx h1 hk], y.val, rfl, h2, Nat.le_refl _, e, by simp, rfl, hk⟩
    · rename_i hk
      obtain ⟨res', r1, r2⟩ := findNow_of hx hs h4 hf
      refine ⟨res', by simp [Instr.findNow, hs _ _ _ _ _ hx h1 hk, r1], ?_⟩
      cases res with
      | none => exact r2
      | some p =>
        obtain ⟨V', e1, e2, e3, e', e4, e5, e6⟩ := r2
        refine ⟨V', e1, e2, by omega, e', ?_, e5, e6⟩
        rw [show p.1 - i = (p.1 - (i + 1)) + 1 by omega, List.getElem?_cons_succ]; exact e4
    · cases hf

theorem snd_lookup (cx : Cx P m h w T a) {t : TypeId} {mp ky : Operand} {ok : Bool} (ho : o.op = .lookup t mp ky ok) (hc : cK P (.lookup t mp ky ok) = some k) : Snd P m h w T a o k := by
  intro r hr
  have he : execOp a.eval o = (do pure (Next.value (← Instr.lookup t (a.eval mp) (a.eval ky) ok))) := by simp [execOp, ho]
  simp only [cK] at hc
  split at hc
  · rename_i kt et mp' ky' h1 h2 h3
    split at hc <;> cases hc
    rename_i q z h4 h5
    obtain ⟨zv, hz, hrz⟩ := zeroT_spec (m := m) h5
    simp only [evK] at hr
    split at hr
    · -- a nil map
      rename_i kv e1 e2
      split at hr <;> cases hr
      have hx : a.eval mp = .map none := cx.av h2 e1
      obtain ⟨d, hd, hck, hsm⟩ := keyT_spec (m := m) true h4
      refine rd_val (x := if ok then .tuple #[zv, .bool false] else zv) ?_ ?_ he
      · rw [hx]
        have hfk : (Instr.findKey kt (a.eval ky) []).run P w = .ok none w := by simp [Instr.findKey, run_underlying hd, Instr.findNow]
        simp [Instr.lookup, run_underlying h1, hck, hfk, hrz]
      · cases ok
        · exact hz
        · exact ⟨[zv, .bool false], .cons hz (.one rfl), rfl⟩
    · rename_i R kv e1 e2
      obtain ⟨r', sh, ex, hm, hx⟩ := cx.av h2 e1
      split at hr
      · rename_i es cl hg
        obtain ⟨es', g1, g2⟩ := cx.hr.map hg hm
        obtain ⟨d, hd, hck, hsm⟩ := keyT_spec (m := m) es'.isEmpty h4
        have hob : (getObj r').run P w = .ok (.map es' cl) w := run_getObj g1 (by intros; simp)
        split at hr <;> cases hr
        · rename_i j v hf
          obtain ⟨res', f1, V', rfl, f2, _⟩ := findNow_of (cx.av h3 e2) hsm g2 hf
          have hfk : (Instr.findKey kt (a.eval ky) es'.toList).run P w = .ok (some (j, V')) w := by simp [Instr.findKey, run_underlying hd, f1]
          refine rd_val (x := if ok then .tuple #[V', .bool true] else V') ?_ ?_ he
          · rw [hx]
            simp [Instr.lookup, run_underlying h1, hck, hfk, hob]
          · cases ok
            · exact f2
            · exact ⟨[V', .bool true], .cons f2 (.one rfl), rfl⟩
        · rename_i hf
          obtain ⟨res', f1, rfl⟩ := findNow_of (cx.av h3 e2) hsm g2 hf
          have hfk : (Instr.findKey kt (a.eval ky) es'.toList).run P w = .ok none w := by simp [Instr.findKey, run_underlying hd, f1]
          refine rd_val (x := if ok then .tuple #[zv, .bool false] else zv) ?_ ?_ he
          · rw [hx]
            simp [Instr.lookup, run_underlying h1, hck, hfk, hob, hrz]
          · cases ok
            · exact hz
            · exact ⟨[zv, .bool false], .cons hz (.one rfl), rfl⟩
      · cases hr
    · cases hr
  · cases hc

theorem ER.append {es fs : List (V × V × Nat)} {xs ys : List MapEntry} (h1 : ER m es xs) (h2 : ER m fs ys) : ER m (es ++ fs) (xs ++ ys) := by
  induction es generalizing xs with
  | nil => cases h1; exact h2
  | cons e es ih => obtain ⟨y, ys', a1, a2, a3, a4, rfl⟩ := h1; exact ⟨y, ys' ++ ys, a1, a2, a3, ih a4, rfl⟩

theorem HR.setMap {i r sh e : Nat} {es fs : List (V × V × Nat)} {cl cl' : Nat} {es' fs' : Array MapEntry} (hr : HR P m h w) (hg : h.get i = some (.map es cl)) (hm : m i = some (r, sh, e))
    (hb : w.heap[r]? = some (.map es' cl)) (hf : ER m fs fs'.toList) :
    HR P m (h.set i (.map fs cl')) { w with heap := w.heap.setIfInBounds r (.map fs' cl') } ∧ Ext m h w m (h.set i (.map fs cl')) { w with heap := w.heap.setIfInBounds r (.map fs' cl') } :=
  hr.set hg rfl hm (Upd.setObj hb) ⟨fs', rfl, hf⟩

theorem sameK_bits {q : EqT} {x y : V} {X Y : Value} (hx : VR m x X) (hy : VR m y Y) (hs : sameK q x y = some true) : Instr.sameBits 10000 Y X = true := by
  unfold sameK at hs
  split at hs
  · split at hs <;> simp at hs
    rename_i hk; subst hk; subst hs; cases hx; cases hy
    show (_ == _ && _ == _) = true
    simp
  · simp at hs; subst hs; cases hx; cases hy
    show ((_ : ByteArray) == _) = true
    simp [byteArray_beq]
  · simp at hs; subst hs; cases hx; cases hy
    show (_ == _) = true
    simp
  · cases hs

theorem snd_mapUpdate (cx : Cx P m h w T a) {t : TypeId} {mp ky vl : Operand} (ho : o.op = .mapUpdate t mp ky vl ∨ o.op = .insert t mp ky vl) (hc : cK P (.mapUpdate t mp ky vl) = some k) : Snd P m h w T a o k := by
  intro r hr
  have he : execOp a.eval o = (do Instr.mapUpdate t (a.eval mp) (a.eval ky) (a.eval vl); pure Next.skip) := by rcases ho with ho | ho <;> simp [execOp, ho]
  simp only [cK] at hc
  split at hc
  · rename_i kt et mp' ky' vl' h1 h2 h3 h4
    cases h5 : keyT P kt with
    | none => simp [h5] at hc
    | some q =>
      simp [h5] at hc; subst hc
      simp only [evK] at hr
      split at hr
      · rename_i R kv vv e1 e2 e3
        obtain ⟨r', sh, ex, hm, hx⟩ := cx.av h2 e1
        have hk := cx.av h3 e2
        have hv := cx.av h4 e3
        split at hr
        · rename_i es cl hg
          obtain ⟨es', g1, g2⟩ := cx.hr.map hg hm
          obtain ⟨d, hd, hck, hsm⟩ := keyT_spec (m := m) false h5
          have hob : (getObj r').run P w = .ok (.map es' cl) w := run_getObj g1 (by intros; simp)
          have hso : ∀ ob, (setObj r' ob).run P w = .ok () { w with heap := w.heap.setIfInBounds r' ob } := fun ob => run_setObj g1 (by intros; simp)
          split at hr <;> cases hr
          · rename_i j v hf
            obtain ⟨res', f1, V', rfl, f2, _, e, f3, f4, f5⟩ := findNow_of hk hsm g2 hf
            have hfk : (Instr.findKey kt (a.eval ky) es'.toList).run P w = .ok (some (j, V')) w := by simp [Instr.findKey, run_underlying hd, f1]
            simp only [Nat.sub_zero] at f3
            obtain ⟨y, y1, y2, y3, y4⟩ := g2.get f3
            have hbits := sameK_bits hk y2 f5
            have hy1 : es'[j]? = some y := by simpa using y1
            have hER : ER m (es.modify j fun e => (kv, vv, e.2.2)) (es'.modify j fun e => { e with key := a.eval ky, val := a.eval vl }).toList := by
              refine ER.of_get (by simp [g2.length]) fun i u hu => ?_
              rw [List.getElem?_modify] at hu
              rw [Array.toList_modify, List.getElem?_modify]
              cases hi : es[i]? with
              | none => simp [hi] at hu
              | some u0 =>
                obtain ⟨y0, z1, z2, z3, z4⟩ := g2.get hi
                rw [hi] at hu
                simp only [Option.map_eq_map, Option.map_some, Option.some.injEq] at hu
                by_cases hji : j = i
                · rw [if_pos hji] at hu
                  subst hu
                  refine ⟨{ y0 with key := a.eval ky, val := a.eval vl }, ?_, hk, hv, z4⟩
                  rw [z1]; simp [hji]
                · rw [if_neg hji] at hu
                  subst hu
                  refine ⟨y0, ?_, z2, z3, z4⟩
                  rw [z1]; simp [hji]
            obtain ⟨k1, k2⟩ := cx.hr.setMap (cl' := cl) hg hm g1 hER
            refine ⟨m, _, undef, k1, k2, ⟨[], rfl, rfl⟩, .inr ⟨?_, rfl⟩⟩
            rw [he, hx]
            simp [Instr.mapUpdate, run_underlying h1, hob, hck, hfk, Instr.keyThatStays, hy1, hbits, hso]
          · rename_i hf
            obtain ⟨res', f1, rfl⟩ := findNow_of hk hsm g2 hf
            have hfk : (Instr.findKey kt (a.eval ky) es'.toList).run P w = .ok none w := by simp [Instr.findKey, run_underlying hd, f1]
            have hER : ER m (es ++ [(kv, vv, cl)]) (es'.push { key := a.eval ky, val := a.eval vl, born := cl }).toList := by
              rw [Array.toList_push]
              exact g2.append ⟨_, [], hk, hv, rfl, rfl, rfl⟩
            obtain ⟨k1, k2⟩ := cx.hr.setMap (cl' := cl + 1) hg hm g1 hER
            refine ⟨m, _, undef, k1, k2, ⟨[], rfl, rfl⟩, .inr ⟨?_, rfl⟩⟩
            rw [he, hx]
            simp [Instr.mapUpdate, run_underlying h1, hob, hck, hfk, hso]
        · cases hr
      · cases hr
  · cases hc

/-! ### iterators -/
theorem snd_range (cx : Cx P m h w T a) {t : TypeId} {x : Operand} (ho : o.op = .range t x) (hc : cK P (.range t x) = some k) : Snd P m h w T a o k := by
  intro r hr
  have he : execOp a.eval o = (do pure (Next.value (← Instr.range t (a.eval x)))) := by simp [execOp, ho]
  have key : ∀ (ob : Obj) (rob : Go.Obj) (h' : H), h.push ob = some h' → OR P m rob 0 0 ob →
      (Instr.range t (a.eval x)).run P w = .ok (.pointer (some ⟨w.heap.size, 0, none⟩)) { w with heap := w.heap.push rob } → ResOK P m h w ((execOp a.eval o).run P w) (.eff (.ptr (some (h.size, 0))) h') := fun ob rob h' hp hor hrun => by
    obtain ⟨h1, h2⟩ := cx.hr.push (e := 0) hp (New.alloc w rob) hor
    exact ⟨_, _, .pointer (some ⟨w.heap.size, 0, none⟩), h1, h2, ⟨_, _, _, upd_self _ _ _, rfl⟩, .inl (by rw [he]; simp [hrun])⟩
  simp only [cK] at hc
  split at hc
  · rename_i y hu hy
    cases hc
    simp only [evK] at hr
    split at hr
    · rename_i s e1 _
      split at hr
      · rename_i h' hp
        cases hr
        have hx : a.eval x = .string ⟨s.toArray⟩ := cx.av hy e1
        refine key (.strIter s 0) (.stringIter ⟨s.toArray⟩ 0) h' hp ⟨rfl, rfl⟩ ?_
        rw [hx]; simp [Instr.range, run_underlying hu]
      · cases hr
    all_goals first | (cases hr; done) | simp_all
  · rename_i kt et y hu hy
    cases hc
    simp only [evK] at hr
    split at hr
    · simp_all
    · rename_i e1 _
      split at hr
      · rename_i h' hp
        cases hr
        have hx : a.eval x = .map none := cx.av hy e1
        refine key (.mapIter none 0 [] 0) (.mapIter none 0 #[] 0) h' hp ⟨rfl, none, rfl, rfl⟩ ?_
        rw [hx]; simp [Instr.range, run_underlying hu]
      · cases hr
    · rename_i R e1 _
      obtain ⟨r', sh, ex, hm, hx⟩ := cx.av hy e1
      split at hr
      · rename_i es cl hg
        obtain ⟨es', g1, g2⟩ := cx.hr.map hg hm
        split at hr
        · rename_i h' hp
          cases hr
          refine key (.mapIter (some R) cl [] cl) (.mapIter (some r') cl #[] cl) h' hp ⟨rfl, some r', rfl, r', sh, ex, hm, rfl⟩ ?_
          have hob : (getObj r').run P w = .ok (.map es' cl) w := run_getObj g1 (by intros; simp)
          rw [hx]; simp [Instr.range, run_underlying hu, hob]
        · cases hr
      · cases hr
    all_goals first | (cases hr; done) | simp_all
  · cases hc

theorem HR.iter {i r sh e : Nat} {mm : Option Nat} {since st : Nat} {seen : List Nat} (hr : HR P m h w) (hg : h.get i = some (.mapIter mm since seen st)) (hm : m i = some (r, sh, e)) :
    ∃ q, sh = 0 ∧ w.heap[r]? = some (.mapIter q since seen.toArray st) ∧ IterR m mm q := by
  obtain ⟨r', sh', e', ob, h1, h2, h0, q, rfl, h3⟩ := hr.obj i _ hg rfl
  rw [hm] at h1; cases h1
  exact ⟨q, h0, h2, h3⟩

theorem ER.filter {f : V × V × Nat → Bool} {g : MapEntry → Bool} (hfg : ∀ e y, y.born = e.2.2 → g y = f e) : ∀ {es : List (V × V × Nat)} {ys : List MapEntry}, ER m es ys → ER m (es.filter f) (ys.filter g)
  | [], _, h => by cases h; rfl
  | e :: es, _, h => by
    obtain ⟨y, ys, h1, h2, h3, h4, rfl⟩ := h
    have := hfg e y h3
    simp only [List.filter_cons, this]
    split
    · exact ⟨y, _, h1, h2, h3, ER.filter hfg h4, rfl⟩
    · exact ER.filter hfg h4
theorem ER.all {f : V × V × Nat → Bool} {g : MapEntry → Bool} (hfg : ∀ e y, y.born = e.2.2 → g y = f e) : ∀ {es : List (V × V × Nat)} {ys : List MapEntry}, ER m es ys → ys.all g = es.all f
  | [], _, h => by cases h; rfl
  | e :: es, _, h => by
    obtain ⟨y, ys, h1, h2, h3, h4, rfl⟩ := h
    simp [List.all_cons, hfg e y h3, ER.all hfg h4]

theorem snd_next (cx : Cx P m h w T a) {x : Operand} {s : Bool} (ho : o.op = .next x s) (hc : cK P (.next x s) = some k) : Snd P m h w T a o k := by
  intro r hr
  have he : execOp a.eval o = (do pure (Next.value (← Instr.next (a.eval x) s o.type))) := by simp [execOp, ho]
  simp only [cK] at hc
  cases h1 : cA P x with
  | none => simp [h1] at hc
  | some y =>
    simp [h1] at hc; subst hc
    simp only [evK] at hr
    split at hr
    · rename_i i e1
      obtain ⟨R, sh, ex, hm, hx⟩ := cx.av h1 e1
      split at hr
      · -- a text
        rename_i str pos hg
        obtain ⟨r', sh', e', ob, g1, g2, g3⟩ := cx.hr.obj i _ hg rfl
        rw [hm] at g1; cases g1
        obtain ⟨rfl, rfl⟩ := g3
        have hob : (getObj R).run P w = .ok (.stringIter ⟨str.toArray⟩ pos) w := run_getObj g2 (by intros; simp)
        have hso : ∀ ob, (setObj R ob).run P w = .ok () { w with heap := w.heap.setIfInBounds R ob } := fun ob => run_setObj g2 (by intros; simp)
        have hsz : (⟨str.toArray⟩ : ByteArray).size = str.length := by simp [ByteArray.size]
        split at hr <;> cases hr
        · rename_i hlt
          obtain ⟨k1, k2⟩ := cx.hr.set (o' := .strIter str (pos + (Utf8.decode ⟨str.toArray⟩ pos).2)) hg rfl hm (Upd.setObj (ob' := .stringIter ⟨str.toArray⟩ (pos + (Utf8.decode ⟨str.toArray⟩ pos).2)) g2) ⟨rfl, rfl⟩
          refine ⟨m, _, .tuple #[.bool true, .int .i64 pos, .int .i32 (Utf8.decode ⟨str.toArray⟩ pos).1], k1, k2, ⟨[_, _, _], .cons rfl (.cons rfl (.one rfl)), rfl⟩, .inl ?_⟩
          rw [he, hx]
          simp [Instr.next, hob, hsz, hlt, hso, goInt]
        · rename_i hlt
          refine ⟨m, w, .tuple #[.bool false], cx.hr, Ext.refl _ _ _, ⟨[_], .one rfl, rfl⟩, .inl ?_⟩
          rw [he, hx]
          simp [Instr.next, hob, hsz, hlt]
      · rename_i since seen st hg
        obtain ⟨q, rfl, g1, rfl⟩ := cx.hr.iter hg hm
        cases hr
        have hob : (getObj R).run P w = .ok (.mapIter none since seen.toArray st) w := run_getObj g1 (by intros; simp)
        refine ⟨m, w, .tuple #[.bool false], cx.hr, Ext.refl _ _ _, ⟨[_], .one rfl, rfl⟩, .inl ?_⟩
        rw [he, hx]
        simp [Instr.next, hob]
      · rename_i mi since seen st hg
        obtain ⟨q, rfl, g1, b, sh2, e2, hmi, rfl⟩ := cx.hr.iter hg hm
        have hob : (getObj R).run P w = .ok (.mapIter (some b) since seen.toArray st) w := run_getObj g1 (by intros; simp)
        have hso : ∀ ob, (setObj R ob).run P w = .ok () { w with heap := w.heap.setIfInBounds R ob } := fun ob => run_setObj g1 (by intros; simp)
        split at hr
        · rename_i es cl hg2
          obtain ⟨es', g2, g3⟩ := cx.hr.map hg2 hmi
          have hobm : (getObj b).run P w = .ok (.map es' cl) w := run_getObj g2 (by intros; simp)
          split at hr
          · cases hr
          · rename_i hcond
            have hl := g3.filter (f := fun e => !seen.contains e.2.2) (g := fun y => !seen.toArray.contains y.born) (fun e y hb => by simp [hb])
            have ho1 := hl.filter (f := fun e => decide (e.2.2 < since)) (g := fun y => decide (y.born < since)) (fun e y hb => by simp [hb])
            have hn1 := hl.filter (f := fun e => decide (e.2.2 ≥ since)) (g := fun y => decide (y.born ≥ since)) (fun e y hb => by simp [hb])
            have hco : (!seen.toArray.isEmpty && !es'.isEmpty && es'.all (fun y => decide (y.born ≥ st))) = false := by
              have e1 : seen.toArray.isEmpty = seen.isEmpty := by simp
              have e2 : es'.isEmpty = es.isEmpty := by
                have hlen : es'.size = es.length := by simpa using g3.length
                cases es <;> simp [Array.isEmpty, hlen]
              have e3 : es'.all (fun y => decide (y.born ≥ st)) = es.all (fun e => decide (e.2.2 ≥ st)) := by
                rw [← Array.all_toList]; exact g3.all (fun e y hb => by simp [hb])
              rw [e1, e2, e3]; simpa using hcond
            have harr : ∀ {A : Array MapEntry} {l : List MapEntry}, A.toList = l → A = l.toArray := fun h => Array.ext' (by simpa using h)
            split at hr
            · -- all have been seen
              rename_i hold hnew
              cases hr
              rw [hold] at ho1
              rw [hnew] at hn1
              have a1 : (es'.filter fun y => !seen.toArray.contains y.born).filter (fun y => decide (y.born < since)) = #[] := by
                apply harr; rw [Array.toList_filter, Array.toList_filter]; exact ho1
              have a2 : (es'.filter fun y => !seen.toArray.contains y.born).filter (fun y => decide (y.born ≥ since)) = #[] := by
                apply harr; rw [Array.toList_filter, Array.toList_filter]; exact hn1
              refine ⟨m, w, .tuple #[.bool false], cx.hr, Ext.refl _ _ _, ⟨[_], .one rfl, rfl⟩, .inl ?_⟩
              rw [he, hx]
              simp only [Instr.next, Nat.add_zero, Sem.run_bind, hob, hobm, Result.andThen_ok, hco, Bool.false_eq_true, if_false, a1, a2]
              simp [Question.forced]
            · -- the one that is left
              rename_i e hold hnew
              cases hr
              rw [hold] at ho1
              rw [hnew] at hn1
              obtain ⟨y, l', y1, y2, y3, hl', hly⟩ := ho1
              cases hl'
              have a1 : (es'.filter fun y => !seen.toArray.contains y.born).filter (fun y => decide (y.born < since)) = #[y] := by
                apply harr; rw [Array.toList_filter, Array.toList_filter]; exact hly
              have a2 : (es'.filter fun y => !seen.toArray.contains y.born).filter (fun y => decide (y.born ≥ since)) = #[] := by
                apply harr; rw [Array.toList_filter, Array.toList_filter]; exact hn1
              obtain ⟨k1, k2⟩ := cx.hr.set (o' := .mapIter (some mi) since (seen ++ [e.2.2]) cl) hg rfl hm (Upd.setObj (ob' := .mapIter (some b) since (seen.toArray.push y.born) cl) g1)
                ⟨rfl, some b, by rw [y3]; simp, b, sh2, e2, hmi, rfl⟩
              refine ⟨m, _, .tuple #[.bool true, y.key, y.val], k1, k2, ⟨[_, _, _], .cons rfl (.cons y1 (.one y2)), rfl⟩, .inl ?_⟩
              rw [he, hx]
              simp only [Instr.next, Nat.add_zero, Sem.run_bind, hob, hobm, Result.andThen_ok, hco, Bool.false_eq_true, if_false, a1, a2]
              simp [Question.forced, hso]
            · cases hr
        · cases hr
      · cases hr
    · cases hr

theorem snd_entry (cx : Cx P m h w T a) {x : Operand} (ho : o.op = .entry x) (hc : cK P (.entry x) = some k) : Snd P m h w T a o k := by
  intro r hr
  have he : execOp a.eval o = (do pure (Next.value (← Instr.entry (a.eval x)))) := by simp [execOp, ho]
  simp only [cK] at hc
  cases h1 : cA P x with
  | none => simp [h1] at hc
  | some y =>
    simp [h1] at hc; subst hc
    simp only [evK] at hr
    split at hr
    · rename_i i e1
      obtain ⟨R, sh, ex, hm, hx⟩ := cx.av h1 e1
      split at hr
      · rename_i mi since seen st hg
        obtain ⟨q, rfl, g1, b, sh2, e2, hmi, rfl⟩ := cx.hr.iter hg hm
        have hob : (getObj R).run P w = .ok (.mapIter (some b) since seen.toArray st) w := run_getObj g1 (by intros; simp)
        split at hr
        · rename_i stamp es cl hst hg2
          obtain ⟨es', g2, g3⟩ := cx.hr.map hg2 hmi
          have hobm : (getObj b).run P w = .ok (.map es' cl) w := run_getObj g2 (by intros; simp)
          split at hr
          · rename_i hcl
            cases hf : es.find? (fun e => e.2.2 == stamp) with
            | none => simp [hf] at hr
            | some e =>
              simp [hf] at hr; subst hr
              have hfind : ∀ {es : List (V × V × Nat)} {ys : List MapEntry}, ER m es ys → es.find? (fun e => e.2.2 == stamp) = some e →
                  ∃ y, ys.find? (fun y => y.born == stamp) = some y ∧ VR m e.1 y.key ∧ VR m e.2.1 y.val := by
                intro es
                induction es with
                | nil => intro ys _ hf; simp at hf
                | cons e0 es ih =>
                  intro ys hE hf
                  obtain ⟨y, ys', z1, z2, z3, z4, rfl⟩ := hE
                  rw [List.find?_cons] at hf ⊢
                  rw [z3]
                  split at hf
                  · cases hf; exact ⟨y, rfl, z1, z2⟩
                  · exact ih z4 hf
              obtain ⟨y, z1, z2, z3⟩ := hfind g3 hf
              have z1' : es'.find? (fun y => y.born == stamp) = some y := by rw [← Array.find?_toList]; exact z1
              have hback : seen.toArray.back? = some stamp := by simpa using hst
              refine rd_val (x := .tuple #[y.key, y.val]) ?_ ⟨[_, _], .cons z2 (.one z3), rfl⟩ he
              rw [hx]
              have hcl' : (cl != st) = false := by simp [hcl]
              simp [Instr.entry, hob, hobm, hback, hcl, z1']
          · cases hr
        · cases hr
      · cases hr
    · cases hr
end Go.AM
