/- My own texts of the evaluator, its soundness and its symbolic runs, laid for this claim. -/
import Derived.Test.YtelbgimbkfjabaaAmOAmO2
import Derived.Test.YtelbgimbkfjabaaAmMAmM2
set_option linter.unusedSimpArgs false
set_option linter.unusedVariables false
/-! Soundness, XII: unsafe pointers, the builtins, calls. -/
namespace Go.AM
variable {P : Program} {m : Mp} {h : H} {w : World} {T : List V} {a : Act} {o : Oper} {k : K}

theorem snd_p2u (cx : Cx P m h w T a) {t u : TypeId} {x : Operand} {e : TypeId} {y : A} (ho : o.op = .convert t u x) (h1 : P.underlying t = some (.pointer e)) (h2 : P.underlying u = some .unsafePointer)
    (h3 : (sizeT P e).getD 0 ≠ 0) (h4 : cA P x = some y) : Snd P m h w T a o (.p2u y) := by
  intro r hr
  have he : execOp a.eval o = (do pure (Next.value (← convert t u (a.eval x)))) := by simp [execOp, ho]
  cases hs : sizeT P e with
  | none => simp [hs] at h3
  | some s =>
    simp only [hs, Option.getD_some] at h3
    simp only [evK] at hr
    split at hr
    · rename_i e1
      cases hr
      have hx : a.eval x = .pointer none := cx.av h4 e1
      refine pur_val (x := .pointer none) ?_ rfl he
      rw [hx]; simp [convert, run_underlying h1, run_underlying h2, Conv.unsafePointer]
    · rename_i i q e1
      obtain ⟨R, sh, ex, hm, hx⟩ := cx.av h4 e1
      split at hr
      · rename_i vs ty op ro fz hg
        split at hr <;> cases hr
        rename_i hq
        obtain ⟨c, fzr, g1, g2, g3, g4, g5⟩ := cx.hr.cells hg hm
        refine rd_val (x := .pointer (some ⟨R, sh + q, none⟩)) ?_ ⟨R, sh, ex, hm, rfl⟩ he
        have hsh : w.shape? R = some (ty, c.size) := by simp [World.shape?, g1]
        have hlt : ¬ (c.size ≤ sh + q) := by omega
        rw [hx]
        simp [convert, run_underlying h1, run_underlying h2, Conv.unsafePointer, Conv.seenAt, viewAt, hsh, cellsIn, run_sizeOf hs, h3, hlt]
      · cases hr
    · cases hr

theorem snd_u2p (cx : Cx P m h w T a) {t u : TypeId} {x : Operand} {e : TypeId} {y : A} (ho : o.op = .convert t u x) (h1 : P.underlying t = some .unsafePointer) (h2 : P.underlying u = some (.pointer e))
    (h3 : (sizeT P e).getD 0 ≠ 0) (h4 : cA P x = some y) : Snd P m h w T a o (.u2p e y) := by
  intro r hr
  have he : execOp a.eval o = (do pure (Next.value (← convert t u (a.eval x)))) := by simp [execOp, ho]
  cases hs : sizeT P e with
  | none => simp [hs] at h3
  | some s =>
    simp only [hs, Option.getD_some] at h3
    simp only [evK] at hr
    split at hr
    · rename_i e1
      cases hr
      have hx : a.eval x = .pointer none := cx.av h4 e1
      refine pur_val (x := .pointer none) ?_ rfl he
      rw [hx]; simp [convert, run_underlying h1, run_underlying h2, Conv.unsafePointer]
    · rename_i i q e1
      obtain ⟨R, sh, ex, hm, hx⟩ := cx.av h4 e1
      split at hr
      · rename_i vs ty ro fz hg
        split at hr <;> cases hr
        rename_i hl
        obtain ⟨c, fzr, g1, g2, g3, g4, g5⟩ := cx.hr.cells hg hm
        simp only [Bool.false_eq_true, if_false] at g4
        obtain ⟨rfl, _, hcs⟩ := g4
        refine rd_val (x := .pointer (some ⟨R, 0 + q, none⟩)) ?_ ⟨R, 0, ex, hm, rfl⟩ he
        have hsh : w.shape? R = some (ty, c.size) := by simp [World.shape?, g1]
        rw [hx]
        rw [← hcs] at hl
        simp [convert, run_underlying h1, run_underlying h2, Conv.unsafePointer, Conv.seenAt, viewAt, hsh, variablesAt, run_sizeOf hs, h3, hl]
      · cases hr
    · cases hr

theorem snd_conv (cx : Cx P m h w T a) {t u : TypeId} {x : Operand} (ho : o.op = .convert t u x) (hc : cK P (.convert t u x) = some k) : Snd P m h w T a o k := by
  by_cases hmem : ∀ y, k ≠ .same y ∧ (∀ q, k ≠ .s2b q y) ∧ k ≠ .b2s y ∧ k ≠ .p2u y ∧ (∀ q, k ≠ .u2p q y)
  · exact snd_convert cx ho hmem hc
  · have hc0 := hc
    simp only [cK] at hc
    split at hc
    · cases hc; exact absurd (fun y => by simp) hmem
    · cases hc; exact absurd (fun y => by simp) hmem
    · rename_i e e' y h1 h2 h3
      split at hc
      · rename_i htu
        split at hc
        · rename_i h4; cases hc; exact snd_same cx ho htu.1 h1 h4 h3
        · cases hc
      · cases hc
    · rename_i e y h1 h2 h3
      split at hc
      · cases hc
      · rename_i h4; cases hc; exact snd_p2u cx ho h1 h2 h4 h3
    · rename_i e y h1 h2 h3
      split at hc
      · cases hc
      · rename_i h4; cases hc; exact snd_u2p cx ho h1 h2 h4 h3
    · cases hc; exact absurd (fun y => by simp) hmem
    · rename_i e y h1 h2 h3
      split at hc
      · rename_i h4
        split at hc <;> cases hc
        rename_i h5
        exact snd_s2b cx ho h1 h2 h4 (sizeT_cells h5) h3
      · cases hc
    · rename_i e y h1 h2 h3
      split at hc
      · rename_i h4; cases hc; exact snd_b2s cx ho h1 h2 h4 h3
      · cases hc
    · cases hc

theorem appV_eff {h : H} {ty size bytes : Nat} {s x : V} {r : Res} (hr : appV h ty size bytes s x = some r) : ∃ v h', r = .eff v h' := by
  unfold appV at hr
  split at hr
  · split at hr
    · cases hr
    · simp only at hr
      split at hr
      · split at hr
        · cases hr; exact ⟨_, _, rfl⟩
        · split at hr
          · cases hr; exact ⟨_, _, rfl⟩
          · cases hr
      · split at hr
        · split at hr
          · split at hr
            · split at hr
              · split at hr
                · cases hr; exact ⟨_, _, rfl⟩
                · cases hr
              · cases hr
            · cases hr
          · split at hr
            · cases hr
            · split at hr
              · cases hr; exact ⟨_, _, rfl⟩
              · cases hr
        · cases hr
  · cases hr
theorem ER.eraseIdx {m : Mp} : ∀ {es : List (V × V × Nat)} {ys : List MapEntry}, ER m es ys → ∀ i, ER m (es.eraseIdx i) (ys.eraseIdx i)
  | [], _, h, i => by cases h; exact rfl
  | e :: es, _, h, i => by
    obtain ⟨y, ys, h1, h2, h3, h4, rfl⟩ := h
    cases i with
    | zero => exact h4
    | succ i => exact ⟨y, _, h1, h2, h3, ER.eraseIdx h4 i, rfl⟩
theorem set_same {w : World} {r : Nat} {ob : Go.Obj} (h : w.heap[r]? = some ob) : { w with heap := w.heap.setIfInBounds r ob } = w := by
  have : w.heap.setIfInBounds r ob = w.heap := by
    apply Array.ext_getElem?
    intro i
    rw [Array.getElem?_setIfInBounds]
    split
    · rename_i e; subst e
      split
      · exact h.symm
      · rename_i hn; simp at hn; rw [Array.getElem?_eq_none hn]
    · rfl
  rw [this]

/-! ### the builtins -/
theorem toList_one {α : Type} {xs : Array α} {x : α} (h : xs.toList = [x]) : xs = #[x] := Array.ext' (by simpa using h)
theorem toList_two {α : Type} {xs : Array α} {x y : α} (h : xs.toList = [x, y]) : xs = #[x, y] := Array.ext' (by simpa using h)

theorem blt_pur {c : Call} {b : Builtin} {v : V} {x : Value} (ho : o.op = .call c) (hb : c.callee = .builtin b)
    (hrun : ∀ consts, (builtin b c.argTypes o.type consts (c.args.map a.eval)).run P w = .ok (.value x) w) (hv : VR m v x) : ResOK P m h w ((execOp a.eval o).run P w) (.pur v) := by
  obtain ⟨cs, e⟩ := exec_builtin (P := P) (w := w) (a := a) ho hb
  exact ⟨x, hv, .inl (by rw [e]; exact hrun cs)⟩
theorem blt_rd {c : Call} {b : Builtin} {v : V} {x : Value} (ho : o.op = .call c) (hb : c.callee = .builtin b)
    (hrun : ∀ consts, (builtin b c.argTypes o.type consts (c.args.map a.eval)).run P w = .ok (.value x) w) (hv : VR m v x) : ResOK P m h w ((execOp a.eval o).run P w) (.rd v) := by
  obtain ⟨cs, e⟩ := exec_builtin (P := P) (w := w) (a := a) ho hb
  exact ⟨x, hv, .inl (by rw [e]; exact hrun cs)⟩

theorem run_minmax {mx : Bool} : ∀ {vs : List V} {xs : List Value} {v r : V} {x : Value}, VR m v x → VRL m vs xs → minmaxV mx v vs = some r →
    ∃ y, VR m r y ∧ (xs.foldlM (if mx then Builtin.max2 else Builtin.min2) x).run P w = .ok y w
  | [], _, v, r, x, hv, h, hr => by cases h; simp [minmaxV] at hr; subst hr; exact ⟨x, hv, rfl⟩
  | u :: vs, _, v, r, x, hv, h, hr => by
    obtain ⟨y, ys, h1, h2, rfl⟩ := h
    cases v <;> try (simp [minmaxV] at hr; done)
    cases u <;> try (simp [minmaxV] at hr; done)
    rename_i k p k' q
    simp only [minmaxV] at hr
    cases hv; cases h1
    obtain ⟨z, z1, z2⟩ := run_minmax (v := .int k (if mx then (if q > p then q else p) else (if q < p then q else p))) (x := .int k (if mx then (if q > p then q else p) else (if q < p then q else p))) rfl h2 hr
    refine ⟨z, z1, ?_⟩
    cases mx <;> simpa [List.foldlM_cons, Builtin.min2, Builtin.max2] using z2

theorem snd_builtin (cx : Cx P m h w T a) {c : Call} {b : Builtin} (ho : o.op = .call c) (hb : c.callee = .builtin b) (hc : cBuiltin P b c.args.toList c.argTypes.toList = some k) : Snd P m h w T a o k := by
  intro r hr
  unfold cBuiltin at hc
  split at hc
  · -- len
    rename_i x t hargs htys
    have ha := toList_one hargs
    have ht := toList_one htys
    split at hc
    · rename_i y h1 h2
      cases hc
      simp only [evK] at hr
      split at hr <;> cases hr
      rename_i s e1
      have hx : a.eval x = .string ⟨s.toArray⟩ := cx.av h2 e1
      refine blt_pur ho hb (x := .int .i64 s.length) (fun cs => ?_) rfl
      rw [ha, ht]
      have hsz : (⟨s.toArray⟩ : ByteArray).size = s.length := by simp [ByteArray.size]
      simp [builtin, Builtin.len_, run_underlying h1, hx, goInt, hsz]
    · rename_i e y h1 h2
      cases hc
      simp only [evK] at hr
      split at hr <;> cases hr
      rename_i p n cp q e1
      have hx := cx.av h2 e1
      refine blt_pur ho hb (x := .int .i64 n) (fun cs => ?_) rfl
      rw [ha, ht]
      cases p with
      | none => simp [builtin, Builtin.len_, run_underlying h1, show a.eval x = _ from hx, goInt]
      | some p => obtain ⟨_, _, _, _, _, hx, _⟩ := hx; simp [builtin, Builtin.len_, run_underlying h1, hx, goInt]
    · rename_i kt et y h1 h2
      cases hc
      simp only [evK] at hr
      split at hr
      · rename_i e1
        cases hr
        have hx : a.eval x = .map none := cx.av h2 e1
        refine blt_rd ho hb (x := .int .i64 0) (fun cs => ?_) rfl
        rw [ha, ht]
        simp [builtin, Builtin.len_, run_underlying h1, hx, goInt]
      · rename_i R e1
        obtain ⟨r', sh, ex, hm, hx⟩ := cx.av h2 e1
        split at hr <;> cases hr
        rename_i es cl hg
        obtain ⟨es', g1, g2⟩ := cx.hr.map hg hm
        have hob : (getObj r').run P w = .ok (.map es' cl) w := run_getObj g1 (by intros; simp)
        have hlen : es'.size = es.length := by simpa using g2.length
        refine blt_rd ho hb (x := .int .i64 es.length) (fun cs => ?_) rfl
        rw [ha, ht]
        simp [builtin, Builtin.len_, run_underlying h1, hx, goInt, hob, hlen]
      · cases hr
    · rename_i n e h1
      cases hc
      simp [evK, A.ev] at hr; subst hr
      refine blt_pur ho hb (x := .int .i64 n) (fun cs => ?_) rfl
      rw [ha, ht]
      simp [builtin, Builtin.len_, run_underlying h1, goInt]
    · rename_i arr h1
      split at hc
      · rename_i n e h2
        cases hc
        simp [evK, A.ev] at hr; subst hr
        refine blt_pur ho hb (x := .int .i64 n) (fun cs => ?_) rfl
        rw [ha, ht]
        simp [builtin, Builtin.len_, run_underlying h1, run_underlying h2, goInt]
      · cases hc
    · cases hc
  · -- append
    rename_i s x t u hargs htys
    have ha := toList_two hargs
    have ht := toList_two htys
    split at hc
    · rename_i e d s' x' h1 h2 h3 h4
      split at hc
      · rename_i kd
        split at hc
        · rename_i i z h5 h6
          split at hc <;> cases hc
          rename_i hz
          simp only [evK] at hr
          split at hr
          · rename_i base len cap opn kx n e1 e2
            obtain ⟨v, h', rfl⟩ := appZ_eff hr
            have hxv : a.eval x = .int kx n := cx.av h4 e2
            obtain ⟨m', w', y, k1, k2, k3, k4⟩ := appZ_sound (u := u) (ty := o.type) (kx := kx) cx.hr h1 h2 h5 h6 hz (cx.av h3 e1) hr
            obtain ⟨cs, e3⟩ := exec_builtin (P := P) (w := w) (a := a) ho hb
            refine ⟨m', w', y, k1, k2, k3, .inl ?_⟩
            rw [e3, ha, ht]
            simp only [builtin, Sem.run_bind, List.map_toArray, List.map_cons, List.map_nil, hxv]
            rw [k4]; rfl
          · cases hr
        · cases hc
      · rename_i hd
        split at hc
        · rename_i i z h5 h6
          split at hc <;> cases hc
          rename_i hz
          simp only [evK] at hr
          split at hr
          · rename_i sv xv e1 e2
            obtain ⟨v, h', rfl⟩ := appV_eff hr
            obtain ⟨m', w', y, k1, k2, k3, k4⟩ := appV_sound (u := u) (ty := o.type) cx.hr h1 h2 (fun k => by rintro rfl; exact hd k rfl) h5 h6 hz (cx.av h3 e1) (cx.av h4 e2) hr
            obtain ⟨cs, e3⟩ := exec_builtin (P := P) (w := w) (a := a) ho hb
            refine ⟨m', w', y, k1, k2, k3, .inl ?_⟩
            rw [e3, ha, ht]
            simp only [builtin, Sem.run_bind, List.map_toArray, List.map_cons, List.map_nil]
            rw [k4]; rfl
          · cases hr
        · cases hc
    · cases hc
  · -- copy
    rename_i d s t ts hargs htys
    have ha := toList_two hargs
    have ht : c.argTypes[0]? = some t := by rw [← Array.getElem?_toList, htys]; rfl
    split at hc
    · rename_i e d' s' h1 h2 h3
      cases hs : sizeT P e with
      | none => simp [hs] at hc
      | some z =>
        simp [hs] at hc; subst hc
        simp only [evK] at hr
        split at hr
        · rename_i base dlen dcap dopn sv e1 e2
          have hd := cx.av h2 e1
          have hsv := cx.av h3 e2
          split at hr
          · cases hr
          · rename_i sl hsl
            split at hr
            · cases hr
            · rename_i cs hcs
              have rl := run_lenV (P := P) (w := w) hsv hsl
              obtain ⟨xs, re, hxs⟩ := run_elemsV cx.hr hsv hsl (Nat.min_le_left _ _) hcs
              obtain ⟨cst, e3⟩ := exec_builtin (P := P) (w := w) (a := a) ho hb
              split at hr
              · cases hr
                have hdx : a.eval d = .slice none dlen dcap := hd
                refine ⟨m, w, .int .i64 (Nat.min sl dlen : Nat), cx.hr, Ext.refl _ _ _, rfl, .inl ?_⟩
                rw [e3, ha]
                simp only [builtin, Sem.run_bind, List.map_toArray, List.map_cons, List.map_nil, Builtin.copy_, ht]
                simp [run_underlying h1, hdx, rl, run_sizeOf hs, re, goInt]
              · rename_i i q
                obtain ⟨R, sh, ex, ad, hm, hdx, hz⟩ := hd
                cases hp : putCells h i q cs with
                | none => simp [hp] at hr
                | some h' =>
                  simp [hp] at hr; subst hr
                  have fin : ∀ w', (storeCells ad xs).run P w = .ok () w' → HR P m h' w' → Ext m h w m h' w' →
                      ResOK P m h w ((execOp a.eval o).run P w) (.eff (.int .i64 (Nat.min sl dlen : Nat)) h') := fun w' e4 e5 e6 => by
                    refine ⟨m, w', .int .i64 (Nat.min sl dlen : Nat), e5, e6, rfl, .inl ?_⟩
                    rw [e3, ha]
                    simp only [builtin, Sem.run_bind, List.map_toArray, List.map_cons, List.map_nil, Builtin.copy_, ht]
                    simp [run_underlying h1, hdx, rl, run_sizeOf hs, re, goInt, e4]
                  by_cases had : ad = ⟨R, sh + q, none⟩
                  · subst had
                    obtain ⟨w', e4, e5, e6⟩ := putCells_sound cx.hr hm hxs hp
                    exact fin w' e4 e5 e6
                  · obtain ⟨hl0, _, _⟩ := hz.resolve_left had
                    have hcs0 : cs = [] := List.length_eq_zero_iff.1 (by
                      rw [length_elemsV hsl (Nat.min_le_left _ _) hcs]
                      have : Nat.min sl dlen = 0 := by rw [hl0]; exact Nat.min_zero _
                      rw [show min sl dlen = 0 from this, Nat.zero_mul])
                    subst hcs0
                    cases hxs
                    have hh : h' = h := by simpa [putCells] using hp.symm
                    subst hh
                    exact fin w (by simp [storeCells]) cx.hr (Ext.refl _ _ _)
        · cases hr
    · cases hc
  · -- delete
    rename_i mp ky t ts hargs htys
    have ha := toList_two hargs
    have ht : c.argTypes[0]? = some t := by rw [← Array.getElem?_toList, htys]; rfl
    split at hc
    · rename_i kt et mp' ky' h1 h2 h3
      cases h5 : keyT P kt with
      | none => simp [h5] at hc
      | some q =>
        simp [h5] at hc; subst hc
        simp only [evK] at hr
        split at hr
        · rename_i R kv e1 e2
          obtain ⟨r', sh, ex, hm, hx⟩ := cx.av h2 e1
          have hk := cx.av h3 e2
          split at hr
          · rename_i es cl hg
            obtain ⟨es', g1, g2⟩ := cx.hr.map hg hm
            obtain ⟨d, hd, hck, hsm⟩ := keyT_spec (m := m) es'.isEmpty h5
            have hob : (getObj r').run P w = .ok (.map es' cl) w := run_getObj g1 (by intros; simp)
            have hso : ∀ ob, (setObj r' ob).run P w = .ok () { w with heap := w.heap.setIfInBounds r' ob } := fun ob => run_setObj g1 (by intros; simp)
            obtain ⟨cst, e3⟩ := exec_builtin (P := P) (w := w) (a := a) ho hb
            split at hr <;> cases hr
            · rename_i j v hf
              obtain ⟨res', f1, V', rfl, f2, _, e, f3, f4, f5⟩ := findNow_of hk hsm g2 hf
              have hfk : (Instr.findKey kt (a.eval ky) es'.toList).run P w = .ok (some (j, V')) w := by simp [Instr.findKey, run_underlying hd, f1]
              have hER : ER m (es.eraseIdx j) (es'.eraseIdxIfInBounds j).toList := by
                have := g2.eraseIdx j
                simp only [Array.eraseIdxIfInBounds]
                split
                · simpa using this
                · rename_i hn
                  rw [List.eraseIdx_of_length_le (l := es'.toList) (by simpa using hn)] at this
                  exact this
              obtain ⟨k1, k2⟩ := cx.hr.setMap (cl' := cl) hg hm g1 hER
              refine ⟨m, _, .tuple #[], k1, k2, ⟨[], rfl, rfl⟩, .inl ?_⟩
              rw [e3, ha]
              simp only [builtin, Sem.run_bind, List.map_toArray, List.map_cons, List.map_nil, Builtin.delete_, ht]
              simp [run_underlying h1, hx, hob, hck, hfk, hso]
            · rename_i hf
              obtain ⟨res', f1, rfl⟩ := findNow_of hk hsm g2 hf
              have hfk : (Instr.findKey kt (a.eval ky) es'.toList).run P w = .ok none w := by simp [Instr.findKey, run_underlying hd, f1]
              have hss := hso (.map es' cl)
              rw [set_same g1] at hss
              refine ⟨m, w, .tuple #[], cx.hr, Ext.refl _ _ _, ⟨[], rfl, rfl⟩, .inl ?_⟩
              rw [e3, ha]
              simp only [builtin, Sem.run_bind, List.map_toArray, List.map_cons, List.map_nil, Builtin.delete_, ht]
              simp [run_underlying h1, hx, hob, hck, hfk, hss]
          · cases hr
        · cases hr
    · cases hc
  · -- cap
    rename_i x t hargs htys
    have ha := toList_one hargs
    have ht := toList_one htys
    split at hc
    · rename_i e y h1 h2
      cases hc
      simp only [evK] at hr
      split at hr <;> cases hr
      rename_i p l n e1
      have hx := cx.av h2 e1
      refine blt_pur ho hb (x := .int .i64 n) (fun cs => ?_) rfl
      rw [ha, ht]
      cases p with
      | none => simp [builtin, Builtin.cap_, run_underlying h1, show a.eval x = _ from hx, goInt]
      | some p => obtain ⟨_, _, _, _, _, hx, _⟩ := hx; simp [builtin, Builtin.cap_, run_underlying h1, hx, goInt]
    · cases hc
  · -- unsafe.SliceData
    rename_i ts x hargs
    have ha := toList_one hargs
    cases h1 : cA P x with
    | none => simp [h1] at hc
    | some y =>
      simp [h1] at hc; subst hc
      simp only [evK] at hr
      split at hr <;> cases hr
      · rename_i l c q e1
        have hx : a.eval x = .slice none l c := cx.av h1 e1
        refine blt_pur ho hb (x := .pointer none) (fun cs => ?_) rfl
        rw [ha]
        have hd : ∀ ts ty, Builtin.unsafeSliceData_ ts ty #[.slice none l c] = pure (.pointer none) := fun _ _ => rfl
        simp [builtin, hx, hd]
      · rename_i p l c q e1
        obtain ⟨i, q0⟩ := p
        obtain ⟨R, sh, ex, ad, hm, hx, hz⟩ := cx.av h1 e1
        have had : ad = ⟨R, sh + q0, none⟩ := by
          rcases hz with hz | ⟨_, hz, _⟩
          · exact hz
          · omega
        subst had
        refine blt_pur ho hb (x := .pointer (some ⟨R, sh + q0, none⟩)) (fun cs => ?_) ⟨R, sh, ex, hm, rfl⟩
        rw [ha]
        have hd : ∀ ts ty cc, Builtin.unsafeSliceData_ ts ty #[.slice (some ⟨R, sh + q0, none⟩) l cc] = (do
            if cc ≠ 0 then pure (.pointer (some ⟨R, sh + q0, none⟩))
            else if (← viewAt R).isSome then pure (.pointer (some ⟨R, sh + q0, none⟩))
            else pure (.pointer (some ⟨← newObj (.view ⟨R, sh + q0, none⟩ (← elemOf ty)), 0, none⟩))) := fun _ _ _ => rfl
        simp [builtin, hx, hd]
  · -- unsafe.String
    rename_i x n t ts hargs htys
    have ha := toList_two hargs
    have ht : c.argTypes[0]? = some t := by rw [← Array.getElem?_toList, htys]; rfl
    split at hc
    · rename_i e x' n' h1 h2 h3
      split at hc <;> cases hc
      rename_i h4
      exact snd_ustr cx ho hb ha ht h1 h2 h3 h4 r hr
    · cases hc
  · -- min
    rename_i args ts
    cases h1 : cAs P c.args.toList with
    | none => simp [h1] at hc
    | some ys =>
      simp [h1] at hc; subst hc
      simp only [evK] at hr
      split at hr
      · rename_i v vs e1
        cases hm : minmaxV false v vs with
        | none => simp [hm] at hr
        | some z =>
          simp [hm] at hr; subst hr
          obtain ⟨X, XS, h3, h2, h4⟩ := cx.avs h1 e1
          obtain ⟨y, y1, y2⟩ := run_minmax (P := P) (w := w) (mx := false) h3 h2 hm
          refine blt_pur ho hb (x := y) (fun cs => ?_) y1
          have : (c.args.map a.eval).toList = X :: XS := by rw [Array.toList_map]; exact h4
          simp only [builtin, Sem.run_bind, Builtin.min_, this]
          simp only [Bool.false_eq_true, if_false] at y2
          simp [y2]
      · cases hr
  · rename_i args ts
    cases h1 : cAs P c.args.toList with
    | none => simp [h1] at hc
    | some ys =>
      simp [h1] at hc; subst hc
      simp only [evK] at hr
      split at hr
      · rename_i v vs e1
        cases hm : minmaxV true v vs with
        | none => simp [hm] at hr
        | some z =>
          simp [hm] at hr; subst hr
          obtain ⟨X, XS, h3, h2, h4⟩ := cx.avs h1 e1
          obtain ⟨y, y1, y2⟩ := run_minmax (P := P) (w := w) (mx := true) h3 h2 hm
          refine blt_pur ho hb (x := y) (fun cs => ?_) y1
          have : (c.args.map a.eval).toList = X :: XS := by rw [Array.toList_map]; exact h4
          simp only [builtin, Sem.run_bind, Builtin.max_, this]
          simp only [if_true] at y2
          simp [y2]
      · cases hr
  · cases hc
end Go.AM
