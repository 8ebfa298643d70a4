/- My own texts, laid for this claim. -/
import Derived.Test.YtpfoofcallfjjaaGreatDoorAmMToAmM2
import Derived.LoopNIn
import Derived.TacticsIn
set_option linter.unusedSimpArgs false
set_option linter.unusedVariables false
/-! Soundness, XII: unsafe pointers, the builtins, calls. -/
namespace Go.AM
variable {P : Program} {m : Mp} {h : H} {w : World} {T : List V} {a : Act} {o : Oper} {k : K}

theorem snd_p2u (cx : Cx P m h w T a) {t u : TypeId} {x : Operand} {e : TypeId} {y : A} (ho : o.op = .convert t u x) (h1 : P.underlying t = some (.pointer e)) (h2 : P.underlying u = some .unsafePointer)
    (h3 : (sizeT P e).getD 0 ≠ 0) (h4 : cA P x = some y) : Snd P m h w T a o (.p2u y) := by
  intro r hr
  have he : execOp a.eval o = (do pure (Next.value (← convert t u (a.eval x)))) := by simp [execOp, ho]
  cases hs : sizeT P e with
  | none => simp [hs] at h3
  | some s =>
    simp only [hs, Option.getD_some] at h3
    simp only [evK] at hr
    split at hr
    · rename_i e1
      cases hr
      have hx : a.eval x = .pointer none := cx.av h4 e1
      refine pur_val (x := .pointer none) ?_ rfl he
      rw [hx]; simp [convert, run_underlying h1, run_underlying h2, Conv.unsafePointer]
    · rename_i i q e1
      obtain ⟨R, sh, ex, hm, hx⟩ := cx.av h4 e1
      split at hr
      · rename_i vs ty op ro fz hg
        split at hr <;> cases hr
        rename_i hq
        obtain ⟨c, fzr, g1, g2, g3, g4, g5⟩ := cx.hr.cells hg hm
        refine rd_val (x := .pointer (some ⟨R, sh + q, none⟩)) ?_ ⟨R, sh, ex, hm, rfl⟩ he
        have hsh : w.shape? R = some (ty, c.size) := by simp [World.shape?, g1]
        have hlt : ¬ (c.size ≤ sh + q) := by omega
        rw [hx]
        simp [convert, run_underlying h1, run_underlying h2, Conv.unsafePointer, Conv.seenAt, viewAt, hsh, cellsIn, run_sizeOf hs, h3, hlt]
      · cases hr
    · cases hr

theorem snd_u2p (cx : Cx P m h w T a) {t u : TypeId} {x : Operand} {e : TypeId} {y : A} (ho : o.op = .convert t u x) (h1 : P.underlying t = some .unsafePointer) (h2 : P.underlying u = some (.pointer e))
    (h3 : (sizeT P e).getD 0 ≠ 0) (h4 : cA P x = some y) : Snd P m h w T a o (.u2p e y) := by
  intro r hr
  have he : execOp a.eval o = (do pure (Next.value (← convert t u (a.eval x)))) := by simp [execOp, ho]
  cases hs : sizeT P e with
  | none => simp [hs] at h3
  | some s =>
    simp only [hs, Option.getD_some] at h3
    simp only [evK] at hr
    split at hr
    · rename_i e1
      cases hr
      have hx : a.eval x = .pointer none := cx.av h4 e1
      refine pur_val (x := .pointer none) ?_ rfl he
      rw [hx]; simp [convert, run_underlying h1, run_underlying h2, Conv.unsafePointer]
    · rename_i i q e1
      obtain ⟨R, sh, ex, hm, hx⟩ := cx.av h4 e1
      split at hr
      · rename_i vs ty ro fz hg
        split at hr <;> cases hr
        rename_i hl
        obtain ⟨c, fzr, g1, g2, g3, g4, g5⟩ := cx.hr.cells hg hm
        simp only [Bool.false_eq_true, if_false] at g4
        obtain ⟨rfl, _, hcs⟩ := g4
        refine rd_val (x := .pointer (some ⟨R, 0 + q, none⟩)) ?_ ⟨R, 0, ex, hm, rfl⟩ he
        have hsh : w.shape? R = some (ty, c.size) := by simp [World.shape?, g1]
        rw [hx]
        rw [← hcs] at hl
        simp [convert, run_underlying h1, run_underlying h2, Conv.unsafePointer, Conv.seenAt, viewAt, hsh, variablesAt, run_sizeOf hs, h3, hl]
      · cases hr
    · cases hr

theorem snd_conv (cx : Cx P m h w T a) {t u : TypeId} {x : Operand} (ho : o.op = .convert t u x) (hc : cK P (.convert t u x) = some k) : Snd P m h w T a o k := by
  by_cases hmem : ∀ y, k ≠ .same y ∧ (∀ q, k ≠ .s2b q y) ∧ k ≠ .b2s y ∧ k ≠ .p2u y ∧ (∀ q, k ≠ .u2p q y)
  · exact snd_convert cx ho hmem hc
  · have hc0 := hc
    simp only [cK] at hc
    split at hc
    · cases hc; exact absurd (fun y => by simp) hmem
    · cases hc; exact absurd (fun y => by simp) hmem
    · rename_i e e' y h1 h2 h3
      split at hc
      · rename_i htu
        split at hc
        · rename_i h4; cases hc; exact snd_same cx ho htu.1 h1 h4 h3
        · cases hc
      · cases hc
    · rename_i e y h1 h2 h3
      split at hc
      · cases hc
      · rename_i h4; cases hc; exact snd_p2u cx ho h1 h2 h4 h3
    · rename_i e y h1 h2 h3
      split at hc
      · cases hc
      · rename_i h4; cases hc; exact snd_u2p cx ho h1 h2 h4 h3
    · cases hc; exact absurd (fun y => by simp) hmem
    · rename_i e y h1 h2 h3
      split at hc
      · rename_i h4
        split at hc <;> cases hc
        rename_i h5
        exact snd_s2b cx ho h1 h2 h4 (sizeT_cells h5) h3
      · cases hc
    · rename_i e y h1 h2 h3
      split at hc
      · rename_i h4; cases hc; exact snd_b2s cx ho h1 h2 h4 h3
      · cases hc
    · cases hc

theorem appV_eff {h : H} {ty size bytes : Nat} {s x : V} {r : Res} (hr : appV h ty size bytes s x = some r) : ∃ v h', r = .eff v h' := by
  unfold appV at hr
  split at hr
  · split at hr
    · cases hr
    · simp only at hr
      split at hr
      · split at hr
        · cases hr; exact ⟨_, _, rfl⟩
        · split at hr
          · cases hr; exact ⟨_, _, rfl⟩
          · cases hr
      · split at hr
        · split at hr
          · split at hr
            · split at hr
              · split at hr
                · cases hr; exact ⟨_, _, rfl⟩
                · cases hr
              · cases hr
            · cases hr
          · split at hr
            · cases hr
            · split at hr
              · cases hr; exact ⟨_, _, rfl⟩
              · cases hr
        · cases hr
  · cases hr
theorem ER.eraseIdx {m : Mp} : ∀ {es : List (V × V × Nat)} {ys : List MapEntry}, ER m es ys → ∀ i, ER m (es.eraseIdx i) (ys.eraseIdx i)
  | [], _, h, i => by cases h; exact rfl
  | e :: es, _, h, i => by
    obtain ⟨y, ys, h1, h2, h3, h4, rfl⟩ := h
    cases i with
    | zero => exact h4
    | succ i => exact ⟨y, _, h1, h2, h3, ER.eraseIdx h4 i, rfl⟩
theorem set_same {w : World} {r : Nat} {ob : Go.Obj} (h : w.heap[r]? = some ob) : { w with heap := w.heap.setIfInBounds r ob } = w := by
  have : w.heap.setIfInBounds r ob = w.heap := by
    apply Array.ext_getElem?
    intro i
    rw [Array.getElem?_setIfInBounds]
    split
    · rename_i e; subst e
      split
      · exact h.symm
      · rename_i hn; simp at hn; rw [Array.getElem?_eq_none hn]
    · rfl
  rw [this]

/-! ### the builtins -/
theorem toList_one {α : Type} {xs : Array α} {x : α} (h : xs.toList = [x]) : xs = #[x] := Array.ext' (by simpa using h)
theorem toList_two {α : Type} {xs : Array α} {x y : α} (h : xs.toList = [x, y]) : xs = #[x, y] := Array.ext' (by simpa using h)

theorem blt_pur {c : Call} {b : Builtin} {v : V} {x : Value} (ho : o.op = .call c) (hb : c.callee = .builtin b)
    (hrun : ∀ consts, (builtin b c.argTypes o.type consts (c.args.map a.eval)).run P w = .ok (.value x) w) (hv : VR m v x) : ResOK P m h w ((execOp a.eval o).run P w) (.pur v) := by
  obtain ⟨cs, e⟩ := exec_builtin (P := P) (w := w) (a := a) ho hb
  exact ⟨x, hv, .inl (by rw [e]; exact hrun cs)⟩
theorem blt_rd {c : Call} {b : Builtin} {v : V} {x : Value} (ho : o.op = .call c) (hb : c.callee = .builtin b)
    (hrun : ∀ consts, (builtin b c.argTypes o.type consts (c.args.map a.eval)).run P w = .ok (.value x) w) (hv : VR m v x) : ResOK P m h w ((execOp a.eval o).run P w) (.rd v) := by
  obtain ⟨cs, e⟩ := exec_builtin (P := P) (w := w) (a := a) ho hb
  exact ⟨x, hv, .inl (by rw [e]; exact hrun cs)⟩

theorem run_minmax {mx : Bool} : ∀ {vs : List V} {xs : List Value} {v r : V} {x : Value}, VR m v x → VRL m vs xs → minmaxV mx v vs = some r →
    ∃ y, VR m r y ∧ (xs.foldlM (if mx then Builtin.max2 else Builtin.min2) x).run P w = .ok y w
  | [], _, v, r, x, hv, h, hr => by cases h; simp [minmaxV] at hr; subst hr; exact ⟨x, hv, rfl⟩
  | u :: vs, _, v, r, x, hv, h, hr => by
    obtain ⟨y, ys, h1, h2, rfl⟩ := h
    cases v <;> try (simp [minmaxV] at hr; done)
    cases u <;> try (simp [minmaxV] at hr; done)
    rename_i k p k' q
    simp only [minmaxV] at hr
    cases hv; cases h1
    obtain ⟨z, z1, z2⟩ := run_minmax (v := .int k (if mx then (if q > p then q else p) else (if q < p then q else p))) (x := .int k (if mx then (if q > p then q else p) else (if q < p then q else p))) rfl h2 hr
    refine ⟨z, z1, ?_⟩
    cases mx <;> simpa [List.foldlM_cons, Builtin.min2, Builtin.max2] using z2

theorem snd_builtin (cx : Cx P m h w T a) {c : Call} {b : Builtin} (ho : o.op = .call c) (hb : c.callee = .builtin b) (hc : cBuiltin P b c.args.toList c.argTypes.toList = some k) : Snd P m h w T a o k := by
  intro r hr
  unfold cBuiltin at hc
  split at hc
  · -- len
    rename_i x t hargs htys
    have ha := toList_one hargs
    have ht := toList_one htys
    split at hc
    · rename_i y h1 h2
      cases hc
      simp only [evK] at hr
      split at hr <;> cases hr
      rename_i s e1
      have hx : a.eval x = .string ⟨s.toArray⟩ := cx.av h2 e1
      refine blt_pur ho hb (x := .int .i64 s.length) (fun cs => ?_) rfl
      rw [ha, ht]
      have hsz : (⟨s.toArray⟩ : ByteArray).size = s.length := by simp [ByteArray.size]
      simp [builtin, Builtin.len_, run_underlying h1, hx, goInt, hsz]
    · rename_i e y h1 h2
      cases hc
      simp only [evK] at hr
      split at hr <;> cases hr
      rename_i p n cp q e1
      have hx := cx.av h2 e1
      refine blt_pur ho hb (x := .int .i64 n) (fun cs => ?_) rfl
      rw [ha, ht]
      cases p with
      | none => simp [builtin, Builtin.len_, run_underlying h1, show a.eval x = _ from hx, goInt]
      | some p => obtain ⟨_, _, _, _, _, hx, _⟩ := hx; simp [builtin, Builtin.len_, run_underlying h1, hx, goInt]
    · rename_i kt et y h1 h2
      cases hc
      simp only [evK] at hr
      split at hr
      · rename_i e1
        cases hr
        have hx : a.eval x = .map none := cx.av h2 e1
        refine blt_rd ho hb (x := .int .i64 0) (fun cs => ?_) rfl
        rw [ha, ht]
        simp [builtin, Builtin.len_, run_underlying h1, hx, goInt]
      · rename_i R e1
        obtain ⟨r', sh, ex, hm, hx⟩ := cx.av h2 e1
        split at hr <;> cases hr
        rename_i es cl hg
        obtain ⟨es', g1, g2⟩ := cx.hr.map hg hm
        have hob : (getObj r').run P w = .ok (.map es' cl) w := run_getObj g1 (by intros; simp)
        have hlen : es'.size = es.length := by simpa using g2.length
        refine blt_rd ho hb (x := .int .i64 es.length) (fun cs => ?_) rfl
        rw [ha, ht]
        simp [builtin, Builtin.len_, run_underlying h1, hx, goInt, hob, hlen]
      · cases hr
    · rename_i n e h1
      cases hc
      simp [evK, A.ev] at hr; subst hr
      refine blt_pur ho hb (x := .int .i64 n) (fun cs => ?_) rfl
      rw [ha, ht]
      simp [builtin, Builtin.len_, run_underlying h1, goInt]
    · rename_i arr h1
      split at hc
      · rename_i n e h2
        cases hc
        simp [evK, A.ev] at hr; subst hr
        refine blt_pur ho hb (x := .int .i64 n) (fun cs => ?_) rfl
        rw [ha, ht]
        simp [builtin, Builtin.len_, run_underlying h1, run_underlying h2, goInt]
      · cases hc
    · cases hc
  · -- append
    rename_i s x t u hargs htys
    have ha := toList_two hargs
    have ht := toList_two htys
    split at hc
    · rename_i e d s' x' h1 h2 h3 h4
      split at hc
      · rename_i kd
        split at hc
        · rename_i i z h5 h6
          split at hc <;> cases hc
          rename_i hz
          simp only [evK] at hr
          split at hr
          · rename_i base len cap opn kx n e1 e2
            obtain ⟨v, h', rfl⟩ := appZ_eff hr
            have hxv : a.eval x = .int kx n := cx.av h4 e2
            obtain ⟨m', w', y, k1, k2, k3, k4⟩ := appZ_sound (u := u) (ty := o.type) (kx := kx) cx.hr h1 h2 h5 h6 hz (cx.av h3 e1) hr
            obtain ⟨cs, e3⟩ := exec_builtin (P := P) (w := w) (a := a) ho hb
            refine ⟨m', w', y, k1, k2, k3, .inl ?_⟩
            rw [e3, ha, ht]
            simp only [builtin, Sem.run_bind, List.map_toArray, List.map_cons, List.map_nil, hxv]
            rw [k4]; rfl
          · cases hr
        · cases hc
      · rename_i hd
        split at hc
        · rename_i i z h5 h6
          split at hc <;> cases hc
          rename_i hz
          simp only [evK] at hr
          split at hr
          · rename_i sv xv e1 e2
            obtain ⟨v, h', rfl⟩ := appV_eff hr
            obtain ⟨m', w', y, k1, k2, k3, k4⟩ := appV_sound (u := u) (ty := o.type) cx.hr h1 h2 (fun k => by rintro rfl; exact hd k rfl) h5 h6 hz (cx.av h3 e1) (cx.av h4 e2) hr
            obtain ⟨cs, e3⟩ := exec_builtin (P := P) (w := w) (a := a) ho hb
            refine ⟨m', w', y, k1, k2, k3, .inl ?_⟩
            rw [e3, ha, ht]
            simp only [builtin, Sem.run_bind, List.map_toArray, List.map_cons, List.map_nil]
            rw [k4]; rfl
          · cases hr
        · cases hc
    · cases hc
  · -- copy
    rename_i d s t ts hargs htys
    have ha := toList_two hargs
    have ht : c.argTypes[0]? = some t := by rw [← Array.getElem?_toList, htys]; rfl
    split at hc
    · rename_i e d' s' h1 h2 h3
      cases hs : sizeT P e with
      | none => simp [hs] at hc
      | some z =>
        simp [hs] at hc; subst hc
        simp only [evK] at hr
        split at hr
        · rename_i base dlen dcap dopn sv e1 e2
          have hd := cx.av h2 e1
          have hsv := cx.av h3 e2
          split at hr
          · cases hr
          · rename_i sl hsl
            split at hr
            · cases hr
            · rename_i cs hcs
              have rl := run_lenV (P := P) (w := w) hsv hsl
              obtain ⟨xs, re, hxs⟩ := run_elemsV cx.hr hsv hsl (Nat.min_le_left _ _) hcs
              obtain ⟨cst, e3⟩ := exec_builtin (P := P) (w := w) (a := a) ho hb
              split at hr
              · cases hr
                have hdx : a.eval d = .slice none dlen dcap := hd
                refine ⟨m, w, .int .i64 (Nat.min sl dlen : Nat), cx.hr, Ext.refl _ _ _, rfl, .inl ?_⟩
                rw [e3, ha]
                simp only [builtin, Sem.run_bind, List.map_toArray, List.map_cons, List.map_nil, Builtin.copy_, ht]
                simp [run_underlying h1, hdx, rl, run_sizeOf hs, re, goInt]
              · rename_i i q
                obtain ⟨R, sh, ex, ad, hm, hdx, hz⟩ := hd
                cases hp : putCells h i q cs with
                | none => simp [hp] at hr
                | some h' =>
                  simp [hp] at hr; subst hr
                  have fin : ∀ w', (storeCells ad xs).run P w = .ok () w' → HR P m h' w' → Ext m h w m h' w' →
                      ResOK P m h w ((execOp a.eval o).run P w) (.eff (.int .i64 (Nat.min sl dlen : Nat)) h') := fun w' e4 e5 e6 => by
                    refine ⟨m, w', .int .i64 (Nat.min sl dlen : Nat), e5, e6, rfl, .inl ?_⟩
                    rw [e3, ha]
                    simp only [builtin, Sem.run_bind, List.map_toArray, List.map_cons, List.map_nil, Builtin.copy_, ht]
                    simp [run_underlying h1, hdx, rl, run_sizeOf hs, re, goInt, e4]
                  by_cases had : ad = ⟨R, sh + q, none⟩
                  · subst had
                    obtain ⟨w', e4, e5, e6⟩ := putCells_sound cx.hr hm hxs hp
                    exact fin w' e4 e5 e6
                  · obtain ⟨hl0, _, _⟩ := hz.resolve_left had
                    have hcs0 : cs = [] := List.length_eq_zero_iff.1 (by
                      rw [length_elemsV hsl (Nat.min_le_left _ _) hcs]
                      have : Nat.min sl dlen = 0 := by rw [hl0]; exact Nat.min_zero _
                      rw [show min sl dlen = 0 from this, Nat.zero_mul])
                    subst hcs0
                    cases hxs
                    have hh : h' = h := by simpa [putCells] using hp.symm
                    subst hh
                    exact fin w (by simp [storeCells]) cx.hr (Ext.refl _ _ _)
        · cases hr
    · cases hc
  · -- delete
    rename_i mp ky t ts hargs htys
    have ha := toList_two hargs
    have ht : c.argTypes[0]? = some t := by rw [← Array.getElem?_toList, htys]; rfl
    split at hc
    · rename_i kt et mp' ky' h1 h2 h3
      cases h5 : keyT P kt with
      | none => simp [h5] at hc
      | some q =>
        simp [h5] at hc; subst hc
        simp only [evK] at hr
        split at hr
        · rename_i R kv e1 e2
          obtain ⟨r', sh, ex, hm, hx⟩ := cx.av h2 e1
          have hk := cx.av h3 e2
          split at hr
          · rename_i es cl hg
            obtain ⟨es', g1, g2⟩ := cx.hr.map hg hm
            obtain ⟨d, hd, hck, hsm⟩ := keyT_spec (m := m) es'.isEmpty h5
            have hob : (getObj r').run P w = .ok (.map es' cl) w := run_getObj g1 (by intros; simp)
            have hso : ∀ ob, (setObj r' ob).run P w = .ok () { w with heap := w.heap.setIfInBounds r' ob } := fun ob => run_setObj g1 (by intros; simp)
            obtain ⟨cst, e3⟩ := exec_builtin (P := P) (w := w) (a := a) ho hb
            split at hr <;> cases hr
            · rename_i j v hf
              obtain ⟨res', f1, V', rfl, f2, _, e, f3, f4, f5⟩ := findNow_of hk hsm g2 hf
              have hfk : (Instr.findKey kt (a.eval ky) es'.toList).run P w = .ok (some (j, V')) w := by simp [Instr.findKey, run_underlying hd, f1]
              have hER : ER m (es.eraseIdx j) (es'.eraseIdxIfInBounds j).toList := by
                have := g2.eraseIdx j
                simp only [Array.eraseIdxIfInBounds]
                split
                · simpa using this
                · rename_i hn
                  rw [List.eraseIdx_of_length_le (l := es'.toList) (by simpa using hn)] at this
                  exact this
              obtain ⟨k1, k2⟩ := cx.hr.setMap (cl' := cl) hg hm g1 hER
              refine ⟨m, _, .tuple #[], k1, k2, ⟨[], rfl, rfl⟩, .inl ?_⟩
              rw [e3, ha]
              simp only [builtin, Sem.run_bind, List.map_toArray, List.map_cons, List.map_nil, Builtin.delete_, ht]
              simp [run_underlying h1, hx, hob, hck, hfk, hso]
            · rename_i hf
              obtain ⟨res', f1, rfl⟩ := findNow_of hk hsm g2 hf
              have hfk : (Instr.findKey kt (a.eval ky) es'.toList).run P w = .ok none w := by simp [Instr.findKey, run_underlying hd, f1]
              have hss := hso (.map es' cl)
              rw [set_same g1] at hss
              refine ⟨m, w, .tuple #[], cx.hr, Ext.refl _ _ _, ⟨[], rfl, rfl⟩, .inl ?_⟩
              rw [e3, ha]
              simp only [builtin, Sem.run_bind, List.map_toArray, List.map_cons, List.map_nil, Builtin.delete_, ht]
              simp [run_underlying h1, hx, hob, hck, hfk, hss]
          · cases hr
        · cases hr
    · cases hc
  · -- cap
    rename_i x t hargs htys
    have ha := toList_one hargs
    have ht := toList_one htys
    split at hc
    · rename_i e y h1 h2
      cases hc
      simp only [evK] at hr
      split at hr <;> cases hr
      rename_i p l n e1
      have hx := cx.av h2 e1
      refine blt_pur ho hb (x := .int .i64 n) (fun cs => ?_) rfl
      rw [ha, ht]
      cases p with
      | none => simp [builtin, Builtin.cap_, run_underlying h1, show a.eval x = _ from hx, goInt]
      | some p => obtain ⟨_, _, _, _, _, hx, _⟩ := hx; simp [builtin, Builtin.cap_, run_underlying h1, hx, goInt]
    · cases hc
  · -- unsafe.SliceData
    rename_i ts x hargs
    have ha := toList_one hargs
    cases h1 : cA P x with
    | none => simp [h1] at hc
    | some y =>
      simp [h1] at hc; subst hc
      simp only [evK] at hr
      split at hr <;> cases hr
      · rename_i l c q e1
        have hx : a.eval x = .slice none l c := cx.av h1 e1
        refine blt_pur ho hb (x := .pointer none) (fun cs => ?_) rfl
        rw [ha]
        have hd : ∀ ts ty, Builtin.unsafeSliceData_ ts ty #[.slice none l c] = pure (.pointer none) := fun _ _ => rfl
        simp [builtin, hx, hd]
      · rename_i p l c q e1
        obtain ⟨i, q0⟩ := p
        obtain ⟨R, sh, ex, ad, hm, hx, hz⟩ := cx.av h1 e1
        have had : ad = ⟨R, sh + q0, none⟩ := by
          rcases hz with hz | ⟨_, hz, _⟩
          · exact hz
          · omega
        subst had
        refine blt_pur ho hb (x := .pointer (some ⟨R, sh + q0, none⟩)) (fun cs => ?_) ⟨R, sh, ex, hm, rfl⟩
        rw [ha]
        have hd : ∀ ts ty cc, Builtin.unsafeSliceData_ ts ty #[.slice (some ⟨R, sh + q0, none⟩) l cc] = (do
            if cc ≠ 0 then pure (.pointer (some ⟨R, sh + q0, none⟩))
            else if (← viewAt R).isSome then pure (.pointer (some ⟨R, sh + q0, none⟩))
            else pure (.pointer (some ⟨← newObj (.view ⟨R, sh + q0, none⟩ (← elemOf ty)), 0, none⟩))) := fun _ _ _ => rfl
        simp [builtin, hx, hd]
  · -- unsafe.String
    rename_i x n t ts hargs htys
    have ha := toList_two hargs
    have ht : c.argTypes[0]? = some t := by rw [← Array.getElem?_toList, htys]; rfl
    split at hc
    · rename_i e x' n' h1 h2 h3
      split at hc <;> cases hc
      rename_i h4
      exact snd_ustr cx ho hb ha ht h1 h2 h3 h4 r hr
    · cases hc
  · -- min
    rename_i args ts
    cases h1 : cAs P c.args.toList with
    | none => simp [h1] at hc
    | some ys =>
      simp [h1] at hc; subst hc
      simp only [evK] at hr
      split at hr
      · rename_i v vs e1
        cases hm : minmaxV false v vs with
        | none => simp [hm] at hr
        | some z =>
          simp [hm] at hr; subst hr
          obtain ⟨X, XS, h3, h2, h4⟩ := cx.avs h1 e1
          obtain ⟨y, y1, y2⟩ := run_minmax (P := P) (w := w) (mx := false) h3 h2 hm
          refine blt_pur ho hb (x := y) (fun cs => ?_) y1
          have : (c.args.map a.eval).toList = X :: XS := by rw [Array.toList_map]; exact h4
          simp only [builtin, Sem.run_bind, Builtin.min_, this]
          simp only [Bool.false_eq_true, if_false] at y2
          simp [y2]
      · cases hr
  · rename_i args ts
    cases h1 : cAs P c.args.toList with
    | none => simp [h1] at hc
    | some ys =>
      simp [h1] at hc; subst hc
      simp only [evK] at hr
      split at hr
      · rename_i v vs e1
        cases hm : minmaxV true v vs with
        | none => simp [hm] at hr
        | some z =>
          simp [hm] at hr; subst hr
          obtain ⟨X, XS, h3, h2, h4⟩ := cx.avs h1 e1
          obtain ⟨y, y1, y2⟩ := run_minmax (P := P) (w := w) (mx := true) h3 h2 hm
          refine blt_pur ho hb (x := y) (fun cs => ?_) y1
          have : (c.args.map a.eval).toList = X :: XS := by rw [Array.toList_map]; exact h4
          simp only [builtin, Sem.run_bind, Builtin.max_, this]
          simp only [if_true] at y2
          simp [y2]
      · cases hr
  · cases hc
end Go.AM
/-! Soundness, XIII: calls; every operation. -/
namespace Go.AM
variable {P : Program} {m : Mp} {h : H} {w : World} {T : List V} {a : Act} {o : Oper} {k : K}

theorem find_noEscape {fn : Func} (hn : fn.name = "internal/abi.NoEscape") (ho : fn.origin = "") : Extern.findNext fn = none ∧ Extern.find fn = some Extern.AbiNoEscape.same := by
  have e1 : Extern.allNextRows.lookup "internal/abi.NoEscape" = none := by kernel_rfl
  have e2 : Extern.allNextRows.lookup "" = none := by kernel_rfl
  have e3 : Extern.allGenericRows.lookup "internal/abi.NoEscape" = none := by kernel_rfl
  have e4 : Extern.allTypedRows.lookup "internal/abi.NoEscape" = none := by kernel_rfl
  have e5 : Extern.allRows.lookup "internal/abi.NoEscape" = some Extern.AbiNoEscape.same := by kernel_rfl
  constructor
  · simp [Extern.findNext, hn, ho, e1, e2]
  · simp [Extern.find, hn, ho, e3, e4, e5]
theorem find_makeNoZero {fn : Func} (hn : fn.name = "internal/bytealg.MakeNoZero") (ho : fn.origin = "") : Extern.findNext fn = none ∧ Extern.find fn = some (Extern.BytealgMakeNoZero.makeNoZero fn.params fn.resultTypes) := by
  have e1 : Extern.allNextRows.lookup "internal/bytealg.MakeNoZero" = none := by kernel_rfl
  have e2 : Extern.allNextRows.lookup "" = none := by kernel_rfl
  have e3 : Extern.allGenericRows.lookup "internal/bytealg.MakeNoZero" = none := by kernel_rfl
  have e4 : Extern.allTypedRows.lookup "internal/bytealg.MakeNoZero" = some Extern.BytealgMakeNoZero.makeNoZero := by kernel_rfl
  constructor
  · simp [Extern.findNext, hn, ho, e1, e2]
  · simp [Extern.find, hn, ho, e3, e4]

theorem exec_call {c : Call} {f : Operand} (ho : o.op = .call c) (hb : c.callee = .value f) :
    (execOp a.eval o).run P w = ((Deferred.ofValue (a.eval f) (c.args.map a.eval)).run P w).andThen fun d w' => (invoke d.target d.args).run P w' := by
  simp [execOp, ho, resolve, hb]

theorem callR_of {f : Value} {F : V} {xs : List Value} {args : List V} (hf : VR m F f) (hx : VRL m args xs) :
    CallR P m w (((Deferred.ofValue f xs.toArray).run P w).andThen fun d w' => (invoke d.target d.args).run P w') F args := by
  cases F <;> try trivial
  · obtain ⟨fs, cs, h1, h2, rfl⟩ := hf
    refine ⟨fs ++ xs ++ cs, (h1.append hx).append h2, ?_⟩
    simp [Deferred.ofValue, invoke]
  · obtain ⟨R, sh, ex, hm, rfl⟩ := hf
    exact ⟨R, sh, ex, xs, hm, hx, by simp [Deferred.ofValue, invoke]⟩

theorem length_digits : ∀ (n t : Nat) (acc : Array Value), (∀ v ∈ acc.toList, ∃ k, v = .int .u8 k) → ∀ v ∈ (Extern.BytealgMakeNoZero.digits n t acc).toList, ∃ k, v = .int .u8 k
  | 0, _, _, h => h
  | n + 1, t, acc, h => length_digits n _ _ (by
      intro v hv
      simp only [Array.toList_push, List.mem_append, List.mem_singleton] at hv
      rcases hv with hv | rfl
      · exact h v hv
      · exact ⟨_, rfl⟩)

theorem run_mkNZ (ps : Array TypeId) (rs : Array TypeId) (t e : TypeId) (hrs : rs[0]? = some t) (ht : P.underlying t = some (.slice e)) (n : Nat) (hn : n ≤ 281474976710656) :
    ∃ cs : Array Value, (Extern.BytealgMakeNoZero.makeNoZero ps rs #[.int .i64 n]).run P w = .ok (.slice (some ⟨w.heap.size, 0, none⟩) n cs.size) { w.drew.drew with heap := w.heap.push (.cells cs e) } ∧ n ≤ cs.size ∧
      (∀ v ∈ cs.toList, ∃ k, v = .int .u8 k) := by
  have hdef : Extern.BytealgMakeNoZero.makeNoZero ps rs #[.int .i64 n] =
      (do
        let some t := rs[0]? | stuck "bytealg.MakeNoZero: no result type"
        let .slice elem ← underlying t | stuck "bytealg.MakeNoZero: slice type expected"
        if (n : Int) < 0 || (n : Int) > 2 ^ 48 then runtimePanic (.error "makeslice: len out of range")
        let cap ← choose (.appendCap (n : Int).toNat 0 elem)
        askRoom cap
        let bytes ← choose (.extern "internal/bytealg.MakeNoZero.bytes" 0)
        let a ← newRow elem (Extern.BytealgMakeNoZero.digits cap bytes #[])
        pure (.slice (some a) (n : Int).toNat cap)) := rfl
  refine ⟨Extern.BytealgMakeNoZero.digits (grownCap w n 0 e) ((Question.extern "internal/bytealg.MakeNoZero.bytes" 0).cut (w.tape (w.drawn + 1) (.extern "internal/bytealg.MakeNoZero.bytes" 0))) #[], ?_, ?_, ?_⟩
  · rw [hdef, hrs]
    have h1 : ¬ (n : Int) < 0 := by omega
    have h2 : ¬ (281474976710656 : Int) < (n : Int) := by omega
    simp [run_underlying ht, h1, h2, Question.forced, newRow, Lib.size_digits, grownCap]
    rfl
  · rw [Lib.size_digits]
    simpa using grownCap_ge w n 0 e
  · exact length_digits _ _ _ (by simp)

theorem snd_mv_noEscape (cx : Cx P m h w T a) {c : Call} {g : Nat} {f : Operand} {x : Operand} {y : A} {fn : Func} (ho : o.op = .call c) (hb : c.callee = .value f) (hf : a.eval f = .func (.func g) #[] #[])
    (hx : c.args.toList = [x]) (hy : cA P x = some y) (hg : P.funcs[g]? = some fn) (hbd : fn.body.isNone = true) (hn : fn.name = "internal/abi.NoEscape") (hor : fn.origin = "") : Snd P m h w T a o (.mv y) := by
  intro r hr
  simp only [evK] at hr
  cases e : y.ev T with
  | none => simp [e] at hr
  | some v =>
    simp [e] at hr; subst hr
    refine ⟨a.eval x, cx.av hy e, .inl ?_⟩
    have hargs := toList_one hx
    obtain ⟨e1, e2⟩ := find_noEscape hn hor
    rw [exec_call ho hb, hf, hargs]
    simp only [Deferred.ofValue, Sem.run_pure, Result.andThen_ok, invoke]
    have : (#[] : Array Value) ++ Array.map a.eval #[x] ++ #[] = #[a.eval x] := by simp
    rw [this, run_callFunc_extern hg (by rw [hn]; decide) hbd e1 e2]
    rfl

theorem snd_mkNZ (cx : Cx P m h w T a) {c : Call} {g : Nat} {f : Operand} {x : Operand} {y : A} {fn : Func} {t e : TypeId} (ho : o.op = .call c) (hb : c.callee = .value f) (hf : a.eval f = .func (.func g) #[] #[])
    (hx : c.args.toList = [x]) (hy : cA P x = some y) (hg : P.funcs[g]? = some fn) (hbd : fn.body.isNone = true) (hn : fn.name = "internal/bytealg.MakeNoZero") (hor : fn.origin = "")
    (ht : fn.resultTypes[0]? = some t) (hu : P.underlying t = some (.slice e)) (hs : sizeT P e = some 1) : Snd P m h w T a o (.mkNZ e y) := by
  intro r hr
  simp only [evK] at hr
  split at hr
  · rename_i n e0
    split at hr
    · rename_i hb2
      split at hr <;> cases hr
      rename_i h' hp
      have hxv : a.eval x = .int .i64 n := cx.av hy e0
      have hnn : (n.toNat : Int) = n := by omega
      obtain ⟨cs, k1, k2, k3⟩ := run_mkNZ (P := P) (w := w) fn.params fn.resultTypes t e ht hu n.toNat (by omega)
      rw [hnn] at k1
      have hV : VRL m (List.replicate n.toNat .junk) (cs.toList.take n.toNat) := by
        refine VRL.of_get (by simp; omega) fun i u hu => ?_
        rw [List.getElem?_replicate] at hu
        split at hu <;> cases hu
        rename_i hi
        have hi' : i < cs.size := by omega
        refine ⟨cs[i], by rw [List.getElem?_take_of_lt hi]; simp [hi'], ?_⟩
        obtain ⟨kk, hk⟩ := k3 cs[i] (by simp)
        rw [hk]
        exact ⟨rfl, (fun b hb => by cases hb), (fun hb => by cases hb)⟩
      obtain ⟨g1, g2⟩ := cx.hr.push (e := cs.size - n.toNat) hp (New.of_drew ((Drew.one w).trans (Drew.one w.drew)) (New.alloc w.drew.drew (.cells (cs.toList.take n.toNat ++ cs.toList.drop n.toNat).toArray e)))
        (OR.opened hV (by rw [sizeT_cells hs]; simp) (by simp [FzOK]))
      refine ⟨_, _, .slice (some ⟨w.heap.size, 0, none⟩) n.toNat cs.size, g1, g2, ?_, .inl ?_⟩
      · refine ⟨w.heap.size, 0, cs.size - n.toNat, ⟨w.heap.size, 0, none⟩, upd_self _ _ _, ?_, .inl rfl⟩
        congr 1
        simp; omega
      · obtain ⟨e1, e2⟩ := find_makeNoZero hn hor
        rw [exec_call ho hb, hf, toList_one hx]
        simp only [Deferred.ofValue, Sem.run_pure, Result.andThen_ok, invoke]
        have hargs : (#[] : Array Value) ++ Array.map a.eval #[x] ++ #[] = #[.int .i64 n] := by simp [hxv]
        rw [hargs, run_callFunc_extern hg (by rw [hn]; decide) hbd e1 e2, k1]
        simp
        rfl
    · cases hr
  · cases hr

theorem cAs_one {xs : List Operand} {y : A} (hc : cAs P xs = some [y]) : ∃ x, xs = [x] ∧ cA P x = some y := by
  cases xs with
  | nil => simp [cAs] at hc
  | cons x r =>
    simp only [cAs] at hc
    split at hc <;> cases hc
    rename_i h1 h2
    cases r with
    | nil => exact ⟨x, rfl, h1⟩
    | cons z r => simp only [cAs] at h2; split at h2 <;> cases h2

theorem snd_call (cx : Cx P m h w T a) {c : Call} {f : Operand} (ho : o.op = .call c) (hb : c.callee = .value f) (hc : cK P (.call c) = some k) : Snd P m h w T a o k := by
  have key : ∀ (fa : A) (l : List A), cA P f = some fa → cAs P c.args.toList = some l → Snd P m h w T a o (.call fa l) := by
    intro fa l h1 h2 r hr
    simp only [evK] at hr
    split at hr <;> cases hr
    rename_i fv av e1 e2
    simp only [ResOK]
    rw [exec_call ho hb]
    have := callR_of (P := P) (w := w) (cx.av h1 e1) (cx.avs h2 e2)
    rwa [← Array.toList_map, Array.toArray_toList] at this
  simp only [cK, hb] at hc
  split at hc
  · rename_i fa l h1 h2
    split at hc
    · rename_i g
      split at hc
      · rename_i fn hg
        split at hc
        · rename_i hbd
          split at hc
          · cases hc
          · rename_i hor
            have hor : fn.origin = "" := Classical.not_not.1 hor
            have hfv : a.eval f = .func (.func g) #[] #[] := by
              obtain ⟨xs, ys, q1, q2, q3⟩ := cx.av (v := .func g [] []) h1 rfl
              cases q1; cases q2; exact q3
            split at hc
            · rename_i hn
              split at hc
              · rename_i y
                cases hc
                obtain ⟨x, hx, hy⟩ := cAs_one h2
                exact snd_mv_noEscape cx ho hb hfv hx hy hg hbd hn hor
              · cases hc
            · split at hc
              · rename_i hn
                split at hc
                · rename_i y t ht
                  split at hc
                  · rename_i e hu
                    split at hc <;> cases hc
                    rename_i hs
                    obtain ⟨x, hx, hy⟩ := cAs_one h2
                    exact snd_mkNZ cx ho hb hfv hx hy hg hbd hn hor ht hu hs
                  · cases hc
                · cases hc
              · cases hc
        · cases hc; exact key _ _ h1 h2
      · cases hc
    · cases hc; exact key _ _ h1 h2
  · cases hc

theorem snd_tass (cx : Cx P m h w T a) {x : Operand} {t t' : TypeId} {ok : Bool} (ho : o.op = .typeAssert x t' t ok) (hc : cK P (.typeAssert x t' t ok) = some k) : Snd P m h w T a o k := by
  intro r hr
  simp only [cK] at hc
  split at hc
  · cases hc
  · rename_i d y z n h1 h2 h3
    cases hc
    obtain ⟨zx, hz, hzr⟩ := zeroT_spec (m := m) h3
    have he : execOp a.eval o = (do pure (Next.value (← Instr.typeAssert (a.eval x) t' t ok))) := by simp [execOp, ho]
    have hni : ∀ ms, d ≠ .interface ms := fun ms hd => n ms (by rw [hd])
    simp only [evK] at hr
    split at hr
    · rename_i u v e1
      obtain ⟨y', hy, hx⟩ := cx.av h2 e1
      split at hr
      · rename_i hut
        subst hut
        cases hr
        refine pur_val (x := if ok then .tuple #[y', .bool true] else y') ?_ ?_ he
        · rw [hx]
          simp only [Instr.typeAssert, Sem.run_bind, run_underlying h1, Result.andThen_ok]
          cases d <;> first | (simp; done) | exact absurd rfl (hni _)
        · cases ok
          · exact hy
          · exact ⟨_, VRL.cons hy (VRL.one (v := .bool true) (x := .bool true) rfl), rfl⟩
      · rename_i hut
        split at hr <;> cases hr
        rename_i hok
        subst hok
        refine pur_val (x := .tuple #[zx, .bool false]) ?_ ⟨_, VRL.cons hz (VRL.one (v := .bool false) (x := .bool false) rfl), rfl⟩ he
        rw [hx]
        simp only [Instr.typeAssert, Sem.run_bind, run_underlying h1, Result.andThen_ok]
        cases d <;> first | (simp [hut, hzr]; done) | exact absurd rfl (hni _)
    · rename_i e1
      split at hr <;> cases hr
      rename_i hok
      subst hok
      have hx : a.eval x = .nilIface := cx.av h2 e1
      refine pur_val (x := .tuple #[zx, .bool false]) ?_ ⟨_, VRL.cons hz (VRL.one (v := .bool false) (x := .bool false) rfl), rfl⟩ he
      rw [hx]
      simp only [Instr.typeAssert, Sem.run_bind, run_underlying h1, Result.andThen_ok]
      cases d <;> first | (simp [hzr]; done) | exact absurd rfl (hni _)
    · cases hr
  · cases hc

theorem run_method {t : TypeId} {v : Value} {name : String} {f : FuncId} (hf : methOf P t name = some f) (n : Nat) : (method (n + 1) t v name).run P w = .ok (f, v) w := by
  unfold methOf at hf
  split at hf
  · rename_i i hi
    split at hf
    · rename_i md hm
      split at hf
      · rename_i hp
        have hp' : md.path.toList = [] := by simpa using hp
        split at hf <;> cases hf
        · rename_i e h2 h1
          simp [method, run_typeInfo hi, hm, hp', follow, h1, receiverAt, run_underlying h2, Place.get]
        · rename_i d h3 h2 h1
          simp only [method, Sem.run_bind, run_typeInfo hi, Result.andThen_ok, hm, hp', follow, Sem.run_pure, h1, receiverAt, run_underlying h2]
          cases d <;> first | rfl | exact absurd h1 (h3 _ _ · h2)
      · cases hf
    · cases hf
  · cases hf

theorem snd_inv (cx : Cx P m h w T a) {c : Call} {f : Operand} {name : String} (ho : o.op = .call c) (hb : c.callee = .invoke f name) (hc : cK P (.call c) = some k) : Snd P m h w T a o k := by
  intro r hr
  simp only [cK, hb] at hc
  split at hc <;> cases hc
  rename_i x l h1 h2
  simp only [evK] at hr
  split at hr
  · rename_i t v vs e1 e2
    split at hr <;> cases hr
    rename_i g hg
    obtain ⟨y, hy, hx⟩ := cx.av h1 e1
    have hxs := cx.avs h2 e2
    refine ⟨y :: c.args.toList.map a.eval, ?_, ?_⟩
    · simpa using VRL.cons hy hxs
    · have hrm := run_method (P := P) (w := w) (v := y) hg (P.types.size + Made.depth - 1)
      have hn : P.types.size + Made.depth - 1 + 1 = P.types.size + Made.depth := by
        have : 0 < Made.depth := by decide
        omega
      rw [hn] at hrm
      have hargs : (#[Value.iface t y] ++ c.args.map a.eval).extract 1 (#[Value.iface t y] ++ c.args.map a.eval).size = c.args.map a.eval := by
        apply Array.ext'
        simp [List.take_of_length_le]
      have e0 : (#[Value.iface t y] ++ c.args.map a.eval)[0]? = some (.iface t y) := by rw [Array.getElem?_append_left (by simp)]; rfl
      simp only [execOp, ho, resolve, hb, Sem.run_bind, Sem.run_pure, Result.andThen_ok, hx, invoke, e0, hargs, callMethod, run_program, hrm]
      congr 2
      apply Array.ext'
      simp
  · cases hr

theorem opSound (cx : Cx P m h w T a) (hc : cK P o.op = some k) : Snd P m h w T a o k := by
  cases ho : o.op with
  | move x => rw [ho] at hc; exact snd_move cx (.inl ho) hc
  | assign x => rw [ho] at hc; exact snd_move cx (.inr ho) hc
  | pick c x y => rw [ho] at hc; exact snd_pick cx ho hc
  | alloc e => rw [ho] at hc; exact snd_alloc cx ho hc
  | box e x => rw [ho] at hc; exact snd_box cx ho hc
  | build t ps => rw [ho] at hc; exact snd_build cx ho hc
  | buildSlice t l ps => rw [ho] at hc; exact snd_bslice cx ho hc
  | load t x => rw [ho] at hc; exact snd_load cx ho hc
  | store t x y => rw [ho] at hc; exact snd_store cx ho hc
  | nilCheck x => rw [ho] at hc; exact snd_nilck cx ho hc
  | binOp op t x y z => rw [ho] at hc; exact snd_bin cx ho hc
  | unOp op t x => rw [ho] at hc; exact snd_un cx ho hc
  | convert t u x => rw [ho] at hc; exact snd_conv cx ho hc
  | makeInterface t x => rw [ho] at hc; exact snd_mkI cx ho hc
  | makeFunc f fs cs =>
    rw [ho] at hc
    cases f <;> first | exact snd_mkF cx ho hc | (simp [cK] at hc)
  | makeMap t r => rw [ho] at hc; exact snd_makeMap cx ho hc
  | makeSlice t l c => rw [ho] at hc; exact snd_makeSlice cx ho hc
  | slice t x lo hi mx => rw [ho] at hc; exact snd_slice cx ho hc
  | fieldAddr t x f => rw [ho] at hc; exact snd_fieldAddr cx ho hc
  | indexAddr t x i => rw [ho] at hc; exact snd_indexAddr cx ho hc
  | field t x f => rw [ho] at hc; exact snd_fld cx ho hc
  | index t x i => rw [ho] at hc; exact snd_index cx ho hc
  | lookup t x y ok => rw [ho] at hc; exact snd_lookup cx ho hc
  | mapUpdate t x y z => rw [ho] at hc; exact snd_mapUpdate cx (.inl ho) hc
  | insert t x y z => rw [ho] at hc; exact snd_mapUpdate cx (.inr ho) hc
  | range t x => rw [ho] at hc; exact snd_range cx ho hc
  | next x s => rw [ho] at hc; exact snd_next cx ho hc
  | entry x => rw [ho] at hc; exact snd_entry cx ho hc
  | extract x i => rw [ho] at hc; exact snd_extract cx ho hc
  | call c =>
    rw [ho] at hc
    cases hb : c.callee with
    | builtin b => exact snd_builtin cx ho hb (by simpa [cK, hb] using hc)
    | value f => exact snd_call cx ho hb hc
    | invoke f n => exact snd_inv cx ho hb hc
  | typeAssert x t' t ok => rw [ho] at hc; exact snd_tass cx ho hc
  | panic x =>
    rw [ho] at hc
    simp only [cK] at hc
    cases hc
    intro r hr; simp [evK] at hr
  | _ => rw [ho] at hc; simp [cK] at hc
end Go.AM
/-! Soundness, XIV: regions in the order of the text. -/
namespace Go.AM

def FF (ro : Option Nat) : Fence := { Fence.wide with round := ro }

def Post (P : Program) (m : Mp) (h : H) (w : World) (v : V) (h' : H) : Ending → World → Prop :=
  fun e w' => ∃ m' x, e = .returned x ∧ VR m' v x ∧ HR P m' h' w' ∧ Ext m h w m' h' w'

structure ApOK (P : Program) (ap : Ap) : Prop where
  fn : ∀ {g : Nat} {fs cs args : List V} {h : H} {v : V} {h' : H} {m : Mp} {w : World} {xs : List Value}, ap (.func g fs cs) args h = some (v, h') → HR P m h w → VRL m (fs ++ args ++ cs) xs →
    (∃ fn, P.funcs[g]? = some fn ∧ fn.body.isNone = false ∧ fn.name ≠ "runtime.NumGoroutine") ∧ ∀ n, CallsIn (FF none) n P g xs.toArray w (Post P m h w v h')
  rnd : ∀ {l : Nat} {args : List V} {h : H} {v : V} {h' : H} {m : Mp} {w : World} {xs : List Value} {R sh e : Nat}, ap (.yield l) args h = some (v, h') → HR P m h w → m l = some (R, sh, e) → VRL m args xs →
    ∃ L : Loop, w.heap[R]? = some (.loop L) ∧ xs.length = L.params.size ∧
      ∀ n, RoundIn (FF none) n P R L.fn ((L.params.zip xs.toArray).foldl (fun tmps (t, a) => tmps.setIfInBounds t a) L.tmps) L.assign L.body w (Post P m h w v h')
  oth : ∀ {f : V} {args : List V} {h : H} {r : V × H}, ap f args h = some r → (∃ g fs cs, f = .func g fs cs) ∨ ∃ l, f = .yield l

variable {P : Program} {m : Mp} {h : H} {w : World} {T : List V} {a : Act} {o : Oper} {k : K} {ap : Ap}

theorem callsIn_FF {ro : Option Nat} {n : Nat} {f : FuncId} {args : Array Value} {R : Ending → World → Prop} (hc : CallsIn (FF none) n P f args w R) : CallsIn (FF ro) n P f args w R := hc
theorem roundIn_FF {ro : Option Nat} {n : Nat} {l : Nat} {f : FuncId} {t : Array Value} {x y : Code} {R : Ending → World → Prop} (hc : RoundIn (FF none) n P l f t x y w R) : RoundIn (FF ro) n P l f t x y w R := hc

/-- What an operation comes to, calls and all. -/
def evR (P : Program) (ap : Ap) (T : List V) (h : H) (k : K) : Option (V × H) :=
  match evK P T h k with
  | some (.pur v) => some (v, h)
  | some (.rd v) => some (v, h)
  | some (.eff v h') => some (v, h')
  | some (.call f args) => ap f args h
  | none => none

theorem run_callFunc_enter {g : Nat} {fn : Func} {args : Array Value} (hf : P.funcs[g]? = some fn) (hb : fn.body.isNone = false) (hn : fn.name ≠ "runtime.NumGoroutine") :
    (callFunc g args).run P w = .ok (.enter g args) w := by
  have h1 : fn.body ≠ none := by intro h; simp [h] at hb
  simp [callFunc, hf, hn, h1]

theorem cK_noDefer (hc : cK P o.op = some k) : ∀ c, o.op ≠ .defer c := by
  intro c e; rw [e] at hc; simp [cK] at hc

theorem op_step (ha : ApOK P ap) (cx : Cx P m h w T a) (hc : cK P o.op = some k) {v : V} {h' : H} (he : evR P ap T h k = some (v, h')) {ro : Option Nat} {n : Nat} {K : Act → World → Prop} {Q : Exit → Act → World → Prop}
    (hK : ∀ m' w' x, VR m' v x → HR P m' h' w' → Ext m h w m' h' w' → K (a.put o.dst x) w') : o.wpIn (FF ro) n P a w K Q := by
  have hs := opSound cx hc
  unfold Snd at hs
  have yld : ∀ r x w' m', Yld r x w' → VR m' v x → HR P m' h' w' → Ext m h w m' h' w' → o.uponIn (FF ro) n P a K Q r := by
    intro r x w' m' hy h1 h2 h3
    rcases hy with rfl | ⟨rfl, rfl⟩
    · exact hK m' w' x h1 h2 h3
    · exact hK m' w' undef h1 h2 h3
  refine ⟨fun _ _ => trivial, ?_⟩
  rw [Oper.semAt_eq _ _ _ (cK_noDefer hc)]
  unfold evR at he
  split at he
  · rename_i v' hk
    cases he
    obtain ⟨x, h1, h2⟩ := hs _ hk
    exact yld _ x w m h2 h1 cx.hr (Ext.refl _ _ _)
  · rename_i v' hk
    cases he
    obtain ⟨x, h1, h2⟩ := hs _ hk
    exact yld _ x w m h2 h1 cx.hr (Ext.refl _ _ _)
  · rename_i v' h'' hk
    cases he
    obtain ⟨m', w', x, h1, h2, h3, h4⟩ := hs _ hk
    exact yld _ x w' m' h4 h3 h1 h2
  · rename_i f args hk
    have hr := hs _ hk
    simp only [ResOK] at hr
    rcases ha.oth he with ⟨g, fs, cs, rfl⟩ | ⟨l, rfl⟩
    · obtain ⟨xs, h1, h2⟩ := hr
      obtain ⟨⟨fn, f1, f2, f3⟩, f4⟩ := ha.fn he cx.hr h1
      rw [h2, run_callFunc_enter f1 f2 f3, Oper.uponIn_enter]
      refine ⟨(fun h => nomatch h), ?_⟩
      refine CallsIn.mono (callsIn_FF (f4 (n - 1))) fun e w' hp => ?_
      obtain ⟨m', x, rfl, p2, p3, p4⟩ := hp
      exact hK m' w' x p2 p3 p4
    · obtain ⟨R, sh, e, xs, h1, h2, h3⟩ := hr
      obtain ⟨L, f1, f2, f4⟩ := ha.rnd he cx.hr h1 h2
      have hrun : (Instr.yield R xs.toArray).run P w = .ok (.round R L.fn ((L.params.zip xs.toArray).foldl (fun tmps (t, a) => tmps.setIfInBounds t a) L.tmps) L.assign L.body) w := by
        have : (Instr.getLoop R).run P w = .ok L w := by
          simp [Instr.getLoop, run_getObj (P := P) f1 (by intros; simp)]
        simp [Instr.yield, this, f2]
      rw [h3, hrun, Oper.uponIn_round]
      refine ⟨(fun h => nomatch h), ?_⟩
      refine RoundIn.mono (roundIn_FF (f4 (n - 1))) fun e w' hp => ?_
      obtain ⟨m', x, rfl, p2, p3, p4⟩ := hp
      exact hK m' w' x p2 p3 p4
  · cases he

theorem VR.bool_inv {v : V} {b : Bool} (hv : VR m v (.bool b)) : v = .bool b := by
  cases v with
  | bool c => cases hv; rfl
  | int k n => cases hv
  | str s => cases hv
  | ptr p => cases p with
    | none => cases hv
    | some p => obtain ⟨_, _, _, _, h⟩ := hv; cases h
  | slice p l c q => cases p with
    | none => cases hv
    | some p => obtain ⟨_, _, _, _, _, h, _⟩ := hv; cases h
  | map p => cases p with
    | none => cases hv
    | some p => obtain ⟨_, _, _, _, h⟩ := hv; cases h
  | func f fs cs => obtain ⟨_, _, _, _, h⟩ := hv; cases h
  | yield l => obtain ⟨_, _, _, _, h⟩ := hv; cases h
  | nilFunc => cases hv
  | iface t u => obtain ⟨_, _, h⟩ := hv; cases h
  | nilIface => cases hv
  | agg cs => obtain ⟨_, _, h⟩ := hv; cases h
  | tup cs => obtain ⟨_, _, h⟩ := hv; cases h
  | junk => exact absurd rfl (hv.2.1 b)

theorem VRL.get_none {vs : List V} {xs : List Value} (hv : VRL m vs xs) {i : Nat} (h : vs[i]? = none) : xs[i]? = none := by
  rw [List.getElem?_eq_none_iff] at h ⊢
  rw [hv.length]; exact h

theorem wanted_sound {T : List V} {tmps : Array Value} (ht : TR m T tmps) {ops : Array Oper} {o : Oper} {g : Option (Nat × Bool)} (hg : cGuard (ops.toList.map (·.dst)) o.guard = some g) :
    Region.wanted o (yielded ops tmps) = wantV T g := by
  unfold Region.wanted
  cases hgd : o.guard with
  | none => rw [hgd] at hg; cases hg; rfl
  | some jw =>
    obtain ⟨j, wt⟩ := jw
    rw [hgd] at hg
    simp only [cGuard] at hg
    split at hg <;> cases hg
    rename_i t hd
    have hd' : (ops[j]?).bind (·.dst) = some t := by
      rw [List.getElem?_map] at hd
      cases ho : ops[j]? with
      | none => rw [Array.getElem?_toList, ho] at hd; cases hd
      | some o' => rw [Array.getElem?_toList, ho] at hd; simpa using hd
    simp only [yielded, hd', Option.bind_some, wantV]
    cases hT : T[t]? with
    | none =>
      have := VRL.get_none ht hT
      rw [Array.getElem?_toList] at this
      simp [this]
    | some v =>
      obtain ⟨x, hx, hv⟩ := VRL.get ht hT
      rw [Array.getElem?_toList] at hx
      simp only [hx]
      cases v with
      | bool b =>
        cases hv
        cases b <;> cases wt <;> rfl
      | _ =>
        cases x <;> first | (have := VR.bool_inv hv; cases this; done) | rfl

theorem TR.put {T : List V} {a : Act} (ht : TR m T a.tmps) {v : V} {x : Value} (hv : VR m v x) (dst : Option Nat) : TR m (putV T dst v) (a.put dst x).tmps := by
  cases dst with
  | none => exact ht
  | some d =>
    simp only [putV, Act.put, TR]
    rw [Array.toList_setIfInBounds]
    exact VRL.set ht hv d

theorem put_defers (a : Act) (dst : Option Nat) (x : Value) : (a.put dst x).defers = a.defers := by cases dst <;> rfl

theorem evO_eq (o : O) (T : List V) (h : H) : evO P ap o T h = if wantV T o.guard then (evR P ap T h o.op).map fun r => (putV T o.dst r.1, r.2) else some (putV T o.dst undefV, h) := by
  unfold evO evR
  split
  · cases evK P T h o.op with
    | none => rfl
    | some r =>
      cases r with
      | call f args => simp only; cases ap f args h <;> rfl
      | _ => rfl
  · rfl

theorem VR.undef : VR m undefV undef := ⟨[], rfl, rfl⟩

/-- The operations of a region, compiled. -/
def OpsOK (P : Program) (dsts : List (Option Nat)) : List Oper → List O → Prop
  | [], l => l = []
  | o :: os, l => ∃ k g oo l', cK P o.op = some k ∧ cGuard dsts o.guard = some g ∧ oo.op = k ∧ oo.guard = g ∧ oo.dst = o.dst ∧ OpsOK P dsts os l' ∧ l = oo :: l'

theorem cOsFrom_ok {dsts : List (Option Nat)} : ∀ (os : List Oper) (acc : List Nat) (l : List O), cOsFrom P dsts os acc = some l → OpsOK P dsts os l
  | [], _, l, h => by cases h; rfl
  | o :: os, acc, l, h => by
    simp only [cOsFrom] at h
    split at h <;> cases h
    rename_i x l' h1 h2
    unfold cO at h1
    split at h1 <;> cases h1
    rename_i k g h3 h4
    exact ⟨k, g, _, l', h3, h4, rfl, rfl, rfl, cOsFrom_ok os _ l' h2, rfl⟩

/-- What is held of an activation between operations. -/
structure Mid (P : Program) (m0 : Mp) (h0 : H) (w0 : World) (m : Mp) (h : H) (w : World) (T : List V) (ds : List Deferred) (a : Act) : Prop where
  cx : Cx P m h w T a
  ext : Ext m0 h0 w0 m h w
  defers : a.defers = ds

theorem Mid.put {m0 m : Mp} {h0 h : H} {w0 w : World} {T : List V} {ds : List Deferred} {a : Act} (md : Mid P m0 h0 w0 m h w T ds a) {m' : Mp} {h' : H} {w' : World} {v : V} {x : Value} (h1 : VR m' v x) (h2 : HR P m' h' w')
    (h3 : Ext m h w m' h' w') (dst : Option Nat) : Mid P m0 h0 w0 m' h' w' (putV T dst v) ds (a.put dst x) :=
  ⟨⟨TR.put (VRL.mono h3.sub _ _ md.cx.tr) h1 dst, h2⟩, md.ext.trans h3, (put_defers a dst x).trans md.defers⟩

theorem ops_sound (ha : ApOK P ap) {ops : Array Oper} {m0 : Mp} {h0 : H} {w0 : World} {ds : List Deferred} {ro : Option Nat} {n : Nat} {Q : Exit → Act → World → Prop} {T' : List V} {h' : H}
    (hQ : ∀ m' w' a', Mid P m0 h0 w0 m' h' w' T' ds a' → Q .normal a' w') :
    ∀ (os : List Oper) (l : List O), OpsOK P (ops.toList.map (·.dst)) os l → ∀ (T : List V) (h : H), evOs P ap l T h = some (T', h') → ∀ (m : Mp) (w : World) (a : Act), Mid P m0 h0 w0 m h w T ds a →
      wpListIn (FF ro) n P ops Q os a w
  | [], l, hl, T, h, he, m, w, a, md => by
    cases hl
    simp only [evOs] at he
    cases he
    exact hQ m w a md
  | o :: os, l, hl, T, h, he, m, w, a, md => by
    obtain ⟨k, g, oo, l', h1, h2, h3, h4, h5, h6, rfl⟩ := hl
    simp only [evOs] at he
    split at he
    · rename_i T1 h1' he1
      rw [evO_eq, h3, h4, h5] at he1
      simp only [wpListIn]
      rw [wanted_sound md.cx.tr h2]
      split
      · rename_i hw
        rw [if_pos hw] at he1
        cases hr : evR P ap T h k with
        | none => simp [hr] at he1
        | some r =>
          obtain ⟨v, h''⟩ := r
          simp [hr] at he1
          obtain ⟨rfl, rfl⟩ := he1
          exact op_step ha md.cx h1 hr fun m' w' x e1 e2 e3 => ops_sound ha hQ os l' h6 _ _ he m' w' _ (md.put e1 e2 e3 o.dst)
      · rename_i hw
        rw [if_neg hw] at he1
        cases he1
        exact ⟨fun _ _ => trivial, ops_sound ha hQ os l' h6 _ _ he m w _ (md.put VR.undef md.cx.hr (Ext.refl _ _ _) o.dst)⟩
    · cases he
end Go.AM
/-! What an operation's answer depends on. -/
namespace Go.AM
variable {P : Program}

def Agree (T U : List V) (ts : List Nat) : Prop := ∀ t ∈ ts, T[t]? = U[t]?

theorem A.ev_congr {T U : List V} {a : A} (h : Agree T U a.tm) : a.ev T = a.ev U := by
  cases a with
  | t i => exact h i (by simp [A.tm])
  | k v => rfl

theorem evs_congr {T U : List V} : ∀ {as : List A}, (∀ a ∈ as, a.ev T = a.ev U) → evs T as = evs U as
  | [], _ => rfl
  | a :: as, h => by
    simp only [evs]
    rw [h a (by simp), evs_congr (as := as) fun b hb => h b (by simp [hb])]

theorem evo_congr {T U : List V} {a : Option A} (h : ∀ x ∈ a.toList, x.ev T = x.ev U) : evo T a = evo U a := by
  cases a with
  | none => rfl
  | some a => simp only [evo]; rw [h a (by simp)]

theorem fillV_congr {T U : List V} : ∀ {ps : List (Nat × Nat × A)} (z : List V), (∀ p ∈ ps, p.2.2.ev T = p.2.2.ev U) → fillV T z ps = fillV U z ps
  | [], _, _ => rfl
  | (o, s, a) :: ps, z, h => by
    simp only [fillV]
    rw [h (o, s, a) (by simp)]
    cases a.ev U with
    | none => rfl
    | some v =>
      simp only
      split
      · exact fillV_congr _ fun p hp => h p (by simp [hp])
      · rfl

theorem evK_congr {T U : List V} {h : H} {k : K} (hk : Agree T U k.tms) : evK P T h k = evK P U h k := by
  have h1 : ∀ a ∈ k.as, a.ev T = a.ev U := fun a ha => A.ev_congr fun t ht => hk t (List.mem_flatMap.2 ⟨a, ha, ht⟩)
  clear hk
  cases k <;> simp only [K.as, List.mem_cons, List.mem_append, List.not_mem_nil, or_false, forall_eq_or_imp, forall_eq, List.mem_map, forall_exists_index, and_imp] at h1 <;> simp only [evK]
  all_goals first
    | rfl
    | rw [h1]
    | rw [h1.1, h1.2]
    | rw [h1.1, h1.2.1, h1.2.2]
    | skip
  case build => rw [fillV_congr _ fun p hp => h1 _ p hp rfl]
  case bslice => rw [fillV_congr _ fun p hp => h1 _ p hp rfl]
  case mkF => rw [evs_congr fun a ha => h1 a (.inl ha), evs_congr fun a ha => h1 a (.inr ha)]
  case slS => rw [h1.1, evo_congr fun a ha => h1.2 a (.inl ha), evo_congr fun a ha => h1.2 a (.inr ha)]
  case slL => rw [h1.1, evo_congr fun a ha => h1.2 a (.inl (.inl ha)), evo_congr fun a ha => h1.2 a (.inl (.inr ha)), evo_congr fun a ha => h1.2 a (.inr ha)]
  case slA => rw [h1.1, evo_congr fun a ha => h1.2 a (.inl (.inl ha)), evo_congr fun a ha => h1.2 a (.inl (.inr ha)), evo_congr fun a ha => h1.2 a (.inr ha)]
  case minmax => rw [evs_congr h1]
  case call => rw [h1.1, evs_congr h1.2]
  case inv => rw [h1.1, evs_congr h1.2]

theorem binV_pur {h h' : H} {op : BinOp} {eq : Option EqT} {lit : Bool} {x y v : V} (he : binV h op eq lit x y = some (.pur v)) : binV h' op eq lit x y = some (.pur v) := by
  unfold binV at he ⊢
  split at he
  · exact he
  · exact he
  · exfalso
    split at he
    · cases he
    · split at he
      · cases he
      · split at he <;> cases he

theorem evK_pur {T : List V} {h h' : H} {k : K} {v : V} (he : evK P T h k = some (.pur v)) : evK P T h' k = some (.pur v) := by
  cases k <;> simp only [evK] at he ⊢
  case bin => 
    split at he
    · exact binV_pur he
    · cases he
  case p2u =>
    split at he
    · exact he
    · split at he
      · split at he <;> cases he
      · cases he
    · cases he
  case u2p =>
    split at he
    · exact he
    · split at he
      · split at he <;> cases he
      · cases he
    · cases he
  case ustr =>
    split at he
    · split at he
      · rename_i h0; rw [if_pos h0]; exact he
      · exfalso
        repeat' (split at he)
        all_goals first | (cases he; done) | (simp at he; done)
    · cases he
  case app =>
    split at he
    · obtain ⟨v, h'', e⟩ := appV_eff he; cases e
    · cases he
  all_goals first
    | exact he
    | (exfalso; repeat' (split at he)
       all_goals first | (cases he; done) | (simp at he; done) | skip)
end Go.AM
/-! Soundness, XIV b: regions that draw their order: the abstract part. -/
namespace Go.AM

abbrev XE := O × Ent

def tS (L : Nat → Bool) : List XE → Nat → List V → List V
  | [], _, T => T
  | (o, e) :: X, k, T => tS L X (k + 1) (if L k then putV T o.dst e.v else T)

def hS (L : Nat → Bool) : List XE → Nat → H → H
  | [], _, h => h
  | (_, e) :: X, k, h => hS L X (k + 1) (if L k && e.act then e.h' else h)

theorem length_putV (T : List V) (d : Option Nat) (v : V) : (putV T d v).length = T.length := by cases d <;> simp [putV]
theorem get_putV (T : List V) (d : Option Nat) (v : V) (t : Nat) : (putV T d v)[t]? = if d = some t then (if t < T.length then some v else none) else T[t]? := by
  cases d with
  | none => simp [putV]
  | some d =>
    simp only [putV, List.getElem?_set, Option.some.injEq]
    by_cases h : d = t
    · subst h; simp
    · simp [h]

theorem length_tS (L : Nat → Bool) : ∀ (X : List XE) (k : Nat) (T : List V), (tS L X k T).length = T.length
  | [], _, _ => rfl
  | (o, e) :: X, k, T => by
    simp only [tS]
    rw [length_tS L X]
    split
    · exact length_putV _ _ _
    · rfl

theorem tS_congr {L M : Nat → Bool} {t : Nat} : ∀ (X : List XE) (k : Nat) (T U : List V), T.length = U.length → T[t]? = U[t]? →
    (∀ j x, X[j]? = some x → x.1.dst = some t → L (k + j) = M (k + j)) → (tS L X k T)[t]? = (tS M X k U)[t]?
  | [], _, T, U, _, h, _ => h
  | (o, e) :: X, k, T, U, hl, h, hd => by
    simp only [tS]
    refine tS_congr X (k + 1) _ _ ?_ ?_ fun j x hx hxt => ?_
    · split <;> split <;> simp [length_putV, hl]
    · by_cases hdst : o.dst = some t
      · have := hd 0 (o, e) rfl hdst
        simp only [Nat.add_zero] at this
        rw [this]
        split
        · rw [get_putV, get_putV, hl, h]
        · exact h
      · split <;> split <;> simp [get_putV, hdst, h]
    · have := hd (j + 1) x (by simpa using hx) hxt
      rw [Nat.add_assoc, Nat.add_comm 1 j]; exact this

/-- Nobody who is in writes it. -/
theorem tS_none {L : Nat → Bool} {t : Nat} (X : List XE) (k : Nat) (T : List V) (h : ∀ j x, X[j]? = some x → x.1.dst = some t → L (k + j) = false) : (tS L X k T)[t]? = T[t]? := by
  have h0 : ∀ (X : List XE) (k : Nat) (T : List V), tS (fun _ => false) X k T = T := by
    intro X
    induction X with
    | nil => intros; rfl
    | cons x X ih => intro k T; obtain ⟨o, e⟩ := x; simp [tS, ih]
  rw [tS_congr (M := fun _ => false) X k T T rfl rfl h, h0]

theorem hS_congr {L M : Nat → Bool} : ∀ (X : List XE) (k : Nat) (h : H), (∀ j x, X[j]? = some x → x.2.act = true → L (k + j) = M (k + j)) → hS L X k h = hS M X k h
  | [], _, _, _ => rfl
  | (o, e) :: X, k, h, hd => by
    simp only [hS]
    have h0 : (L k && e.act) = (M k && e.act) := by
      cases ha : e.act with
      | false => simp
      | true => have := hd 0 (o, e) rfl ha; simp only [Nat.add_zero] at this; rw [this]
    rw [h0]
    exact hS_congr X (k + 1) _ fun j x hx hxa => by
      have := hd (j + 1) x (by simpa using hx) hxa
      rw [Nat.add_assoc, Nat.add_comm 1 j]; exact this

theorem hS_none {L : Nat → Bool} (X : List XE) (k : Nat) (h : H) (hd : ∀ j x, X[j]? = some x → x.2.act = true → L (k + j) = false) : hS L X k h = h := by
  have h0 : ∀ (X : List XE) (k : Nat) (h : H), hS (fun _ => false) X k h = h := by
    intro X
    induction X with
    | nil => intros; rfl
    | cons x X ih => intro k T; obtain ⟨o, e⟩ := x; simp [hS, ih]
  rw [hS_congr (M := fun _ => false) X k h hd, h0]

theorem hS_add {M : Nat → Bool} : ∀ (X : List XE) (k i : Nat) (h : H) (x : XE), X[i]? = some x → x.2.act = true → M (k + i) = true → (∀ j y, i < j → X[j]? = some y → y.2.act = true → M (k + j) = false) → hS M X k h = x.2.h'
  | [], _, _, _, _, h, _, _, _ => by simp at h
  | (o, e) :: X, k, 0, h, x, hx, h1, h2, h3 => by
    simp at hx; subst hx
    simp only [Nat.add_zero] at h2
    have h1' : e.act = true := h1
    simp only [hS, h1', h2, Bool.and_self, if_true]
    exact hS_none X _ _ fun j y hy hya => by
      have := h3 (j + 1) y (by omega) (by simpa using hy) hya
      rw [Nat.add_assoc, Nat.add_comm 1 j]; exact this
  | (o, e) :: X, k, i + 1, h, x, hx, h1, h2, h3 => by
    simp only [hS]
    refine hS_add X (k + 1) i _ x (by simpa using hx) h1 (by rw [Nat.add_assoc, Nat.add_comm 1 i]; exact h2) fun j y hj hy hya => ?_
    have := h3 (j + 1) y (by omega) (by simpa using hy) hya
    rw [Nat.add_assoc, Nat.add_comm 1 j]; exact this

/-! ### what the evaluation in the order of the text says -/
def EntOK (P : Program) (ap : Ap) (o : O) (e : Ent) : Prop :=
  if wantV e.T o.guard then
    match evK P e.T e.h o.op with
    | some (.pur v) => e.v = v ∧ e.h' = e.h ∧ e.act = false ∧ e.rd = false
    | some (.rd v) => e.v = v ∧ e.h' = e.h ∧ e.act = false ∧ e.rd = true
    | some (.eff v h') => e.v = v ∧ e.h' = h' ∧ e.act = true
    | some (.call f args) => ap f args e.h = some (e.v, e.h') ∧ e.act = true
    | none => False
  else e.v = undefV ∧ e.h' = e.h ∧ e.act = false ∧ e.rd = false

def DrL (P : Program) (ap : Ap) : List XE → List V → H → List V → H → Prop
  | [], T, h, T', h' => T = T' ∧ h = h'
  | (o, e) :: X, T, h, T', h' => e.T = T ∧ e.h = h ∧ EntOK P ap o e ∧ DrL P ap X (putV T o.dst e.v) e.h' T' h'

theorem evDr_ok {P : Program} {ap : Ap} : ∀ (l : List O) (T : List V) (h : H) (es : List Ent) (T' : List V) (h' : H), evDr P ap l T h = some (es, T', h') → es.length = l.length ∧ DrL P ap (l.zip es) T h T' h'
  | [], T, h, es, T', h', he => by simp only [evDr] at he; cases he; exact ⟨rfl, rfl, rfl⟩
  | o :: l, T, h, es, T', h', he => by
    have fin : ∀ (e : Ent), e.T = T → e.h = h → EntOK P ap o e → ((evDr P ap l (putV T o.dst e.v) e.h').map fun (es, x) => (e :: es, x)) = some (es, T', h') → es.length = (o :: l).length ∧ DrL P ap ((o :: l).zip es) T h T' h' := by
      intro e e1 e2 e3 e4
      cases h5 : evDr P ap l (putV T o.dst e.v) e.h' with
      | none => simp [h5] at e4
      | some s =>
        obtain ⟨es', T1, h1⟩ := s
        simp [h5] at e4
        obtain ⟨rfl, rfl, rfl⟩ := e4
        obtain ⟨k1, k2⟩ := evDr_ok l _ _ _ _ _ h5
        exact ⟨by simp [k1], e1, e2, e3, k2⟩
    simp only [evDr] at he
    split at he
    · rename_i hw
      split at he
      · rename_i v hk; exact fin ⟨T, h, h, v, false, false⟩ rfl rfl (by simp [EntOK, hw, hk]) he
      · rename_i v hk; exact fin ⟨T, h, h, v, false, true⟩ rfl rfl (by simp [EntOK, hw, hk]) he
      · rename_i v h1 hk; exact fin ⟨T, h, h1, v, true, false⟩ rfl rfl (by simp [EntOK, hw, hk]) he
      · rename_i f args hk
        split at he
        · rename_i v h1 hap; exact fin ⟨T, h, h1, v, true, false⟩ rfl rfl (by simp [EntOK, hw, hk, hap]) he
        · cases he
      · cases he
    · rename_i hw; exact fin ⟨T, h, h, undefV, false, false⟩ rfl rfl (by simp [EntOK, hw]) he

theorem EntOK.same {P : Program} {ap : Ap} {o : O} {e : Ent} (h : EntOK P ap o e) (ha : e.act = false) : e.h' = e.h := by
  unfold EntOK at h
  split at h
  · split at h
    · exact h.2.1
    · exact h.2.1
    · rw [ha] at h; exact absurd h.2.2 (by simp)
    · rw [ha] at h; exact absurd h.2 (by simp)
    · exact h.elim
  · exact h.2.1

theorem DrL.at {P : Program} {ap : Ap} : ∀ (X : List XE) (k : Nat) (T : List V) (h : H) (T' : List V) (h' : H), DrL P ap X T h T' h' → ∀ i x, X[i]? = some x →
    x.2.T = tS (fun j => decide (j < k + i)) X k T ∧ x.2.h = hS (fun j => decide (j < k + i)) X k h ∧ EntOK P ap x.1 x.2
  | [], _, _, _, _, _, _, i, x, hx => by simp at hx
  | (o, e) :: X, k, T, h, T', h', hd, 0, x, hx => by
    simp at hx; subst hx
    obtain ⟨h1, h2, h3, h4⟩ := hd
    refine ⟨?_, ?_, h3⟩
    · refine h1.trans (List.ext_getElem? fun t => ?_)
      rw [tS_none]
      intro j x _ _; simp
    · refine h2.trans ?_
      rw [hS_none]
      intro j x _ _; simp
  | (o, e) :: X, k, T, h, T', h', hd, i + 1, x, hx => by
    obtain ⟨h1, h2, h3, h4⟩ := hd
    obtain ⟨k1, k2, k3⟩ := DrL.at X (k + 1) _ _ _ _ h4 i x (by simpa using hx)
    have e1 : k + 1 + i = k + (i + 1) := by omega
    rw [e1] at k1 k2
    refine ⟨?_, ?_, k3⟩
    · simp only [tS]
      rw [if_pos (by simp)]
      exact k1
    · simp only [hS]
      rw [k2]
      congr 1
      cases ha : e.act with
      | true => simp
      | false => rw [h3.same ha, h2]; simp

theorem DrL.last {P : Program} {ap : Ap} : ∀ (X : List XE) (k : Nat) (T : List V) (h : H) (T' : List V) (h' : H) (L : Nat → Bool), DrL P ap X T h T' h' → (∀ i, i < X.length → L (k + i) = true) → tS L X k T = T' ∧ hS L X k h = h'
  | [], _, _, _, _, _, _, hd, _ => hd
  | (o, e) :: X, k, T, h, T', h', L, hd, hL => by
    obtain ⟨h1, h2, h3, h4⟩ := hd
    have h0 := hL 0 (by simp)
    simp only [Nat.add_zero] at h0
    have := DrL.last X (k + 1) _ _ _ _ L h4 fun i hi => by
      have := hL (i + 1) (by simpa using hi)
      rw [Nat.add_assoc, Nat.add_comm 1 i]; exact this
    simp only [tS, hS, h0, if_true, Bool.true_and]
    refine ⟨this.1, ?_⟩
    have hh : (if e.act = true then e.h' else h) = e.h' := by
      cases ha : e.act with
      | true => rfl
      | false => rw [h3.same ha, h2]; rfl
    rw [hh]; exact this.2

/-! ### acting operations -/
theorem actsOf_mem : ∀ (l : List O) (es : List Ent) (k : Nat) (a : Nat × Nat × H), a ∈ actsOf l es k ↔ ∃ i x, (l.zip es)[i]? = some x ∧ x.2.act = true ∧ a = (k + i, x.1.pre, x.2.h')
  | [], es, k, a => by simp [actsOf]
  | o :: l, [], k, a => by simp [actsOf]
  | o :: l, e :: es, k, a => by
    have ih := actsOf_mem l es (k + 1) a
    have key : (∃ i x, ((o :: l).zip (e :: es))[i]? = some x ∧ x.2.act = true ∧ a = (k + i, x.1.pre, x.2.h')) ↔ (e.act = true ∧ a = (k, o.pre, e.h')) ∨ ∃ i x, (l.zip es)[i]? = some x ∧ x.2.act = true ∧ a = (k + 1 + i, x.1.pre, x.2.h') := by
      constructor
      · rintro ⟨i, x, h1, h2, h3⟩
        cases i with
        | zero => simp at h1; subst h1; exact .inl ⟨h2, h3⟩
        | succ i => exact .inr ⟨i, x, by simpa using h1, h2, by rw [h3]; congr 1; omega⟩
      · rintro (⟨h1, h2⟩ | ⟨i, x, h1, h2, h3⟩)
        · exact ⟨0, (o, e), rfl, h1, h2⟩
        · exact ⟨i + 1, x, by simpa using h1, h2, by rw [h3]; congr 1; omega⟩
    rw [key]
    simp only [actsOf]
    cases ha : e.act with
    | true => simp [ih]
    | false => simp [ih]

theorem readsOk_spec {P : Program} {o : O} {e : Ent} {i : Nat} {L : Nat → Bool} : ∀ (l : List O) (es : List Ent) (k : Nat) (h : H), readsOk P o e i h (actsOf l es k) = true →
    (∀ j x, (l.zip es)[j]? = some x → x.2.act = true → L (k + j) = true → x.1.pre.testBit i = false) → (∀ j x, (l.zip es)[j]? = some x → x.2.act = true → L (k + j) = false → o.pre.testBit (k + j) = false) →
    (∀ j j' x y, j < j' → (l.zip es)[j]? = some x → (l.zip es)[j']? = some y → x.2.act = true → y.2.act = true → L (k + j') = true → L (k + j) = true) → sameAt P o e (hS L (l.zip es) k h) = true
  | [], es, k, h, hr, _, _, _ => by simpa [actsOf, readsOk, hS] using hr
  | o0 :: l, [], k, h, hr, _, _, _ => by simpa [actsOf, readsOk, hS] using hr
  | o0 :: l, e0 :: es, k, h, hr, h1, h2, h3 => by
    have s1 : ∀ j x, (l.zip es)[j]? = some x → x.2.act = true → L (k + 1 + j) = true → x.1.pre.testBit i = false := fun j x hx ha hL => h1 (j + 1) x (by simpa using hx) ha (by rw [← hL]; congr 1; omega)
    have s2 : ∀ j x, (l.zip es)[j]? = some x → x.2.act = true → L (k + 1 + j) = false → o.pre.testBit (k + 1 + j) = false := fun j x hx ha hL => by
      have := h2 (j + 1) x (by simpa using hx) ha (by rw [← hL]; congr 1; omega)
      rw [show k + 1 + j = k + (j + 1) by omega]; exact this
    have s3 : ∀ j j' x y, j < j' → (l.zip es)[j]? = some x → (l.zip es)[j']? = some y → x.2.act = true → y.2.act = true → L (k + 1 + j') = true → L (k + 1 + j) = true := fun j j' x y hj hx hy ha hb hL => by
      have := h3 (j + 1) (j' + 1) x y (by omega) (by simpa using hx) (by simpa using hy) ha hb (by rw [← hL]; congr 1; omega)
      rw [show k + 1 + j = k + (j + 1) by omega]; exact this
    simp only [List.zip_cons_cons, hS]
    cases ha : e0.act with
    | false =>
      simp only [actsOf, ha, Bool.false_eq_true, if_false] at hr
      rw [Bool.and_false, if_neg (by simp)]
      exact readsOk_spec l es (k + 1) h hr s1 s2 s3
    | true =>
      simp only [actsOf, ha, if_true, readsOk, Bool.and_eq_true, Bool.or_eq_true] at hr
      obtain ⟨hr1, hr2⟩ := hr
      cases hL : L k with
      | true =>
        simp only [Bool.and_self, if_true]
        have := h1 0 (o0, e0) rfl ha (by simpa using hL)
        rw [this] at hr2
        exact readsOk_spec l es (k + 1) _ (hr2.resolve_left (by simp)) s1 s2 s3
      | false =>
        simp only [Bool.false_and, Bool.false_eq_true, if_false]
        have hno : ∀ j x, (l.zip es)[j]? = some x → x.2.act = true → L (k + 1 + j) = false := fun j x hx hxa => by
          cases hLj : L (k + 1 + j) with
          | false => rfl
          | true =>
            have := h3 0 (j + 1) (o0, e0) x (by omega) rfl (by simpa using hx) ha hxa (by rw [← hLj]; congr 1; omega)
            simp [hL] at this
        rw [hS_none _ _ _ hno]
        refine hr1.resolve_left ?_
        rintro (hp | hp)
        · have := h2 0 (o0, e0) rfl ha (by simpa using hL)
          simp only [Nat.add_zero] at this
          rw [this] at hp; cases hp
        · rw [List.any_eq_true] at hp
          obtain ⟨a, hmem, hbit⟩ := hp
          obtain ⟨j, x, hx, hxa, rfl⟩ := (actsOf_mem l es (k + 1) a).1 hmem
          have := s2 j x hx hxa (hno j x hx hxa)
          simp only at hbit
          rw [this] at hbit; cases hbit

theorem rdsOk_spec {P : Program} {acts : List (Nat × Nat × H)} {h0 : H} : ∀ (l : List O) (es : List Ent) (k : Nat), rdsOk P acts h0 l es k = true → ∀ i x, (l.zip es)[i]? = some x → x.2.rd = true → readsOk P x.1 x.2 (k + i) h0 acts = true
  | [], _, _, _, i, x, hx, _ => by simp at hx
  | _ :: _, [], _, _, i, x, hx, _ => by simp at hx
  | o :: l, e :: es, k, h, 0, x, hx, hrd => by
    simp at hx; subst hx
    simp only [rdsOk, Bool.and_eq_true, Bool.or_eq_true] at h
    exact h.1.resolve_left (by simp only at hrd; simp [hrd])
  | o :: l, e :: es, k, h, i + 1, x, hx, hrd => by
    simp only [rdsOk, Bool.and_eq_true] at h
    have := rdsOk_spec l es (k + 1) h.2 i x (by simpa using hx) hrd
    rw [show k + (i + 1) = k + 1 + i by omega]; exact this
end Go.AM
/-! Soundness, XIV c: regions that draw their order. -/
namespace Go.AM
variable {P : Program} {ap : Ap}

theorem preOf_spec {acc : List Nat} {j : Nat} {es : List Edge} (h : (preOf acc es).testBit j = true) : ∃ e ∈ es, Region.binds .any e = true ∧ (e.on = j ∨ (acc.getD e.on 0).testBit j = true) := by
  have key : ∀ (es : List Edge) (s : Nat), (es.foldl (fun s e => if Region.binds .any e then s ||| 2 ^ e.on ||| acc.getD e.on 0 else s) s).testBit j = true →
      s.testBit j = true ∨ ∃ e ∈ es, Region.binds .any e = true ∧ (e.on = j ∨ (acc.getD e.on 0).testBit j = true) := by
    intro es
    induction es with
    | nil => intro s h; exact .inl h
    | cons e es ih =>
      intro s h
      simp only [List.foldl_cons] at h
      rcases ih _ h with h1 | ⟨e', h1, h2⟩
      · split at h1
        · rename_i hb
          rw [Nat.testBit_or, Nat.testBit_or, Bool.or_eq_true, Bool.or_eq_true] at h1
          rcases h1 with (h1 | h1) | h1
          · exact .inl h1
          · rw [Nat.testBit_two_pow] at h1
            exact .inr ⟨e, by simp, hb, .inl (by simpa using h1)⟩
          · exact .inr ⟨e, by simp, hb, .inr h1⟩
        · exact .inl h1
      · exact .inr ⟨e', by simp [h1], h2⟩
  rcases key es 0 h with h | h
  · simp at h
  · exact h

theorem cOsFrom_at {dsts : List (Option Nat)} : ∀ (os : List Oper) (acc : List Nat) (l : List O), cOsFrom P dsts os acc = some l → l.length = os.length ∧
    ∀ i o, os[i]? = some o → ∃ oo, l[i]? = some oo ∧ cO P dsts (preOf (acc ++ (l.take i).map (·.pre)) o.after.toList) o = some oo
  | [], acc, l, h => by cases h; exact ⟨rfl, fun i o ho => by simp at ho⟩
  | o :: os, acc, l, h => by
    simp only [cOsFrom] at h
    split at h <;> cases h
    rename_i x l' h1 h2
    obtain ⟨k1, k2⟩ := cOsFrom_at os _ l' h2
    have hpre : x.pre = preOf acc o.after.toList := by
      unfold cO at h1
      split at h1 <;> cases h1
      rfl
    refine ⟨by simp [k1], fun i o' ho => ?_⟩
    cases i with
    | zero => simp at ho; subst ho; exact ⟨x, rfl, by simpa using h1⟩
    | succ i =>
      obtain ⟨oo, j1, j2⟩ := k2 i o' (by simpa using ho)
      refine ⟨oo, by simpa using j1, ?_⟩
      rw [← hpre] at j2
      simpa using j2

theorem cO_spec {dsts : List (Option Nat)} {pre : Nat} {o : Oper} {oo : O} (h : cO P dsts pre o = some oo) : cK P o.op = some oo.op ∧ cGuard dsts o.guard = some oo.guard ∧ oo.dst = o.dst ∧ oo.pre = pre ∧
    (∀ d, oo.dst = some d → d ∈ oo.names) ∧ (∀ t w, oo.guard = some (t, w) → t ∈ oo.names) ∧ (∀ t ∈ oo.op.tms, t ∈ oo.names) := by
  unfold cO at h
  split at h <;> cases h
  rename_i k g h1 h2
  refine ⟨h1, h2, rfl, rfl, ?_, ?_, ?_⟩
  · intro d hd; simp only at hd ⊢; simp [hd]
  · intro t w hg; simp only at hg ⊢; subst hg; simp
  · intro t ht; simp only at ht ⊢; simp [ht]

theorem edgesBelow_spec : ∀ (os : List Oper) (k : Nat), edgesBelow os k = true → ∀ i o, os[i]? = some o → ∀ e ∈ o.after.toList, Region.binds .any e = true → e.on < k + i
  | [], _, _, i, o, ho, _, _, _ => by simp at ho
  | o :: os, k, h, 0, o', ho, e, he, hb => by
    simp at ho; subst ho
    simp only [edgesBelow, Bool.and_eq_true, List.all_eq_true, Bool.or_eq_true, Bool.not_eq_true', decide_eq_true_eq] at h
    exact (h.1 e he).resolve_left (by simp [hb])
  | o :: os, k, h, i + 1, o', ho, e, he, hb => by
    simp only [edgesBelow, Bool.and_eq_true] at h
    have := edgesBelow_spec os (k + 1) h.2 i o' (by simpa using ho) e he hb
    omega

theorem namesOk_spec : ∀ (l : List O) (k : Nat), namesOk l k = true → ∀ (i j : Nat) (x y : O), i < j → l[i]? = some x → l[j]? = some y →
    y.pre.testBit (k + i) = true ∨ ((∀ d, x.dst = some d → d ∉ y.names) ∧ (∀ d, y.dst = some d → d ∉ x.names))
  | [], _, _, i, j, x, y, _, h1, _ => by simp at h1
  | o :: l, k, h, 0, j, x, y, hij, h1, h2 => by
    simp at h1; subst h1
    obtain ⟨j', rfl⟩ : ∃ j', j = j' + 1 := ⟨j - 1, by omega⟩
    simp only [namesOk, Bool.and_eq_true, List.all_eq_true, Bool.or_eq_true] at h
    have hy : y ∈ l := List.mem_of_getElem? (by simpa using h2)
    rcases h.1 y hy with h3 | ⟨h3, h4⟩
    · exact .inl h3
    · refine .inr ⟨fun d hd => ?_, fun d hd => ?_⟩
      · rw [hd] at h3; simpa using h3
      · rw [hd] at h4; simpa using h4
  | o :: l, k, h, i + 1, j, x, y, hij, h1, h2 => by
    obtain ⟨j', rfl⟩ : ∃ j', j = j' + 1 := ⟨j - 1, by omega⟩
    simp only [namesOk, Bool.and_eq_true] at h
    have := namesOk_spec l (k + 1) h.2 i j' x y (by omega) (by simpa using h1) (by simpa using h2)
    rw [show k + (i + 1) = k + 1 + i by omega]; exact this

end Go.AM
/-! Soundness, XIV d: blocks that the evaluator's heap doesn't know yet. -/
namespace Go.AM
variable {P : Program}

theorem psh_same (h : H) (o : Obj) : (h.psh o).get h.size = some o := by rw [H.get_psh, if_pos rfl]

mutual
theorem VR.restrict {m m' : Mp} (hs : Sub m m') : ∀ (v : V) (x0 x : Value), VR m v x0 → VR m' v x → VR m v x
  | .bool _, _, _, _, h => h
  | .int _ _, _, _, _, h => h
  | .str _, _, _, _, h => h
  | .ptr none, _, _, _, h => h
  | .ptr (some (i, o)), x0, x, h0, h => by
    obtain ⟨r, sh, e, a1, _⟩ := h0
    obtain ⟨r', sh', e', b1, b2⟩ := h
    have := hs _ _ a1
    rw [b1] at this; cases this
    exact ⟨r, sh, e, a1, b2⟩
  | .slice none _ _ _, _, _, _, h => h
  | .slice (some (i, o)) len cap opn, x0, x, h0, h => by
    obtain ⟨r, sh, e, ad, a1, _⟩ := h0
    obtain ⟨r', sh', e', ad', b1, b2⟩ := h
    have := hs _ _ a1
    rw [b1] at this; cases this
    exact ⟨r, sh, e, ad', a1, b2⟩
  | .map none, _, _, _, h => h
  | .map (some i), x0, x, h0, h => by
    obtain ⟨r, sh, e, a1, _⟩ := h0
    obtain ⟨r', sh', e', b1, b2⟩ := h
    have := hs _ _ a1
    rw [b1] at this; cases this
    exact ⟨r, sh, e, a1, b2⟩
  | .func f fs cs, x0, x, h0, h => by
    obtain ⟨xs, ys, a1, a2, _⟩ := h0
    obtain ⟨xs', ys', b1, b2, b3⟩ := h
    exact ⟨xs', ys', VRL.restrict hs _ _ _ a1 b1, VRL.restrict hs _ _ _ a2 b2, b3⟩
  | .yield l, x0, x, h0, h => by
    obtain ⟨r, sh, e, a1, _⟩ := h0
    obtain ⟨r', sh', e', b1, b2⟩ := h
    have := hs _ _ a1
    rw [b1] at this; cases this
    exact ⟨r, sh, e, a1, b2⟩
  | .nilFunc, _, _, _, h => h
  | .iface t v, x0, x, h0, h => by
    obtain ⟨y, a1, _⟩ := h0
    obtain ⟨y', b1, b2⟩ := h
    exact ⟨y', VR.restrict hs _ _ _ a1 b1, b2⟩
  | .nilIface, _, _, _, h => h
  | .agg cs, x0, x, h0, h => by
    obtain ⟨y, a1, _⟩ := h0
    obtain ⟨y', b1, b2⟩ := h
    exact ⟨y', VRL.restrict hs _ _ _ a1 b1, b2⟩
  | .tup cs, x0, x, h0, h => by
    obtain ⟨y, a1, _⟩ := h0
    obtain ⟨y', b1, b2⟩ := h
    exact ⟨y', VRL.restrict hs _ _ _ a1 b1, b2⟩
  | .junk, _, _, _, h => h
theorem VRL.restrict {m m' : Mp} (hs : Sub m m') : ∀ (v : List V) (x0 x : List Value), VRL m v x0 → VRL m' v x → VRL m v x
  | [], _, _, _, h => h
  | v :: vs, x0, x, h0, h => by
    obtain ⟨y, ys, a1, a2, _⟩ := h0
    obtain ⟨y', ys', b1, b2, b3⟩ := h
    exact ⟨y', ys', VR.restrict hs _ _ _ a1 b1, VRL.restrict hs _ _ _ a2 b2, b3⟩
end

theorem ER.restrict {m m' : Mp} (hs : Sub m m') : ∀ {es : List (V × V × Nat)} {y0 y : List MapEntry}, ER m es y0 → ER m' es y → ER m es y
  | [], _, _, _, h => h
  | e :: es, y0, y, h0, h => by
    obtain ⟨a, as, a1, a2, _, a3, _⟩ := h0
    obtain ⟨b, bs, b1, b2, b3, b4, b5⟩ := h
    exact ⟨b, bs, VR.restrict hs _ _ _ a1 b1, VR.restrict hs _ _ _ a2 b2, b3, ER.restrict hs a3 b4, b5⟩

theorem OR.restrict {m m' : Mp} (hs : Sub m m') {ob0 ob : Go.Obj} {sh e : Nat} : ∀ {o : Obj}, OR P m ob0 sh e o → OR P m' ob sh e o → OR P m ob sh e o
  | .cells .., h0, h => by
    obtain ⟨c0, f0, _, a2, _⟩ := h0
    obtain ⟨c, fz, b1, b2, b3⟩ := h
    exact ⟨c, fz, b1, VRL.restrict hs _ _ _ a2 b2, b3⟩
  | .map .., h0, h => by
    obtain ⟨e0, _, a2⟩ := h0
    obtain ⟨e1, b1, b2⟩ := h
    exact ⟨e1, b1, ER.restrict hs a2 b2⟩
  | .mapIter mm _ _ _, h0, h => by
    obtain ⟨_, r0, _, a3⟩ := h0
    obtain ⟨b0, r, b2, b3⟩ := h
    refine ⟨b0, r, b2, ?_⟩
    cases mm with
    | none => exact b3
    | some i =>
      obtain ⟨x, y, z, c1, _⟩ := a3
      obtain ⟨x', y', z', d1, d2⟩ := b3
      have := hs _ _ c1
      rw [d1] at this; cases this
      exact ⟨x, y, z, c1, d2⟩
  | .strIter .., _, h => h
  | .loop .., h0, h => by
    obtain ⟨L0, _, _, _, a4, _⟩ := h0
    obtain ⟨L, b1, b2, b3, b4, b5⟩ := h
    exact ⟨L, b1, b2, b3, VRL.restrict hs _ _ _ a4 b4, b5⟩
  | .dead, _, h => h

/-- What came last is forgotten. -/
theorem HR.drop {m m' : Mp} {h h1 : H} {w0 w' : World} (hr : HR P m h w0) (hr' : HR P m' h1 w') (hs : Sub m m') (hget : ∀ i, i < h.size → h1.get i = h.get i) (hw : w0.heap.size ≤ w'.heap.size) : HR P m h w' where
  ok := hr.ok
  dom := hr.dom
  glob := hr.glob
  blk := fun i r sh e hm => Nat.lt_of_lt_of_le (hr.blk i r sh e hm) hw
  obj := fun i o hg hl => by
    obtain ⟨r, sh, e, ob0, a1, _, a3⟩ := hr.obj i o hg hl
    obtain ⟨r', sh', e', ob, b1, b2, b3⟩ := hr'.obj i o (by rw [hget i (H.get_lt hg)]; exact hg) hl
    have := hs _ _ a1
    rw [b1] at this; cases this
    exact ⟨r, sh, e, ob, a1, b2, a3.restrict hs b3⟩
  inj := hr.inj
theorem Ext.drop {m m' : Mp} {h h1 : H} {w w' : World} (x : Ext m h w m' h1 w') : Ext m h w m h w' where
  sub := Sub.refl m
  hsize := Nat.le_refl _
  wsize := x.wsize
  frame := x.frame
  own := fun _ _ h => h
  os := x.os
  output := x.output
  tape := x.tape
  rng := fun _ _ h => h

/-- A block that the evaluator's heap knows nothing of. -/
structure Pend (m0 : Nat) (m : Mp) (w : World) (r : Nat) (ob : Go.Obj) : Prop where
  new : m0 ≤ r
  here : w.heap[r]? = some ob
  out : ∀ i y, m i ≠ some (r, y)
theorem Pend.lt {m0 : Nat} {m : Mp} {w : World} {r : Nat} {ob : Go.Obj} (p : Pend m0 m w r ob) : r < w.heap.size := by
  rcases Nat.lt_or_ge r w.heap.size with h | h
  · exact h
  · have := p.here; simp [Array.getElem?_eq_none h] at this
theorem Pend.ext {m0 : Nat} {m m' : Mp} {h h' : H} {w w' : World} {r : Nat} {ob : Go.Obj} (p : Pend m0 m w r ob) (x : Ext m h w m' h' w') : Pend m0 m' w' r ob where
  new := p.new
  here := by
    rw [x.frame r p.lt ?_]
    · exact p.here
    · rintro ⟨i, o, sh, e, _, _, hm⟩
      exact p.out _ _ hm
  out := fun i y hm => by
    obtain ⟨j, z, hj⟩ := x.rng r p.lt ⟨i, y, hm⟩
    exact p.out _ _ hj

/-- The evaluator's heap takes a block over. -/
theorem HR.adopt {m : Mp} {h : H} {w : World} {o : Obj} {ob : Go.Obj} {r sh e k : Nat} (hr : HR P m h w) (p : Pend k m w r ob) (hor : OR P m ob sh e o) : HR P (upd m h.size (r, sh, e)) (h.psh o) w := by
  have hs := sub_upd (x := (r, sh, e)) hr.fresh
  have hup : ∀ i x, i ≠ h.size → upd m h.size (r, sh, e) i = some x → m i = some x := fun i x hi hx => by simpa [upd, hi] using hx
  constructor
  · trivial
  · intro i x hx
    by_cases hi : i = h.size
    · subst hi; exact Nat.lt_succ_self _
    · exact Nat.lt_succ_of_lt (hr.dom _ _ (hup i x hi hx))
  · intro g hg; exact hs _ _ (hr.glob g hg)
  · intro i r' sh' e' hx
    by_cases hi : i = h.size
    · subst hi; rw [upd_self] at hx; cases hx; exact p.lt
    · exact hr.blk _ _ _ _ (hup i _ hi hx)
  · intro i o' hg hl
    rw [H.get_psh] at hg
    by_cases hi : i = h.size
    · subst hi
      rw [if_pos rfl] at hg; cases hg
      exact ⟨_, _, _, ob, upd_self _ _ _, p.here, hor.mono hs⟩
    · rw [if_neg hi] at hg
      obtain ⟨r', sh', e', ob', h1, h2, h3⟩ := hr.obj i o' hg hl
      exact ⟨r', sh', e', ob', hs _ _ h1, h2, h3.mono hs⟩
  · intro i j o1 o2 r' sh1 e1 sh2 e2 hi hj hm1 hl2 g1 g2
    rw [H.get_psh] at hi hj
    by_cases hi' : i = h.size <;> by_cases hj' : j = h.size
    · omega
    · subst hi'; rw [upd_self] at g1; cases g1
      exact absurd (hup j _ hj' g2) (p.out _ _)
    · subst hj'; rw [upd_self] at g2; cases g2
      exact absurd (hup i _ hi' g1) (p.out _ _)
    · rw [if_neg hi'] at hi; rw [if_neg hj'] at hj
      exact hr.inj i j o1 o2 r' sh1 e1 sh2 e2 hi hj hm1 hl2 (hup i _ hi' g1) (hup j _ hj' g2)
theorem Ext.adopt {m0 m : Mp} {h0 h : H} {w0 w : World} {o : Obj} {ob : Go.Obj} {r sh e : Nat} (x : Ext m0 h0 w0 m h w) (hf : m h.size = none) (p : Pend w0.heap.size m w r ob) : Ext m0 h0 w0 (upd m h.size (r, sh, e)) (h.psh o) w where
  sub := x.sub.trans (sub_upd hf)
  hsize := Nat.le_succ_of_le x.hsize
  wsize := x.wsize
  frame := x.frame
  own := by
    rintro b hb ⟨i, o', sh', e', hg, hm, hi⟩
    by_cases his : i = h.size
    · subst his; rw [upd_self] at hi; cases hi
      exact absurd hb (Nat.not_lt.2 p.new)
    · rw [H.get_psh, if_neg his] at hg
      exact x.own b hb ⟨i, o', sh', e', hg, hm, by simpa [upd, his] using hi⟩
  os := x.os
  output := x.output
  tape := x.tape
  rng := by
    rintro b hb ⟨i, y, hi⟩
    by_cases his : i = h.size
    · subst his; rw [upd_self] at hi; cases hi
      exact absurd hb (Nat.not_lt.2 p.new)
    · exact x.rng b hb ⟨i, y, by simpa [upd, his] using hi⟩
theorem Pend.adopt {k : Nat} {m : Mp} {w : World} {r r' sh e i : Nat} {ob : Go.Obj} (p : Pend k m w r ob) (hne : r' ≠ r) : Pend k (upd m i (r', sh, e)) w r ob where
  new := p.new
  here := p.here
  out := fun j y hj => by
    unfold upd at hj; split at hj
    · cases hj; exact hne rfl
    · exact p.out _ _ hj
end Go.AM
/-! Soundness, XIV e: regions that draw their order, the abstract part. -/
namespace Go.AM
variable {P : Program} {ap : Ap}

/-! ### map literals -/
def mlG (g : Option Grp) (i : Nat) (o : O) : O := match g with
  | some g => mlO g i o
  | none => o
theorem mlG_same (g : Option Grp) (i : Nat) (o : O) : (mlG g i o).pre = o.pre ∧ (mlG g i o).dst = o.dst ∧ (mlG g i o).guard = o.guard ∧ (mlG g i o).names = o.names := by
  cases g with
  | none => exact ⟨rfl, rfl, rfl, rfl⟩
  | some g =>
    simp only [mlG, mlO]
    split
    · exact ⟨rfl, rfl, rfl, rfl⟩
    · split
      · exact ⟨rfl, rfl, rfl, rfl⟩
      · split
        · exact ⟨rfl, rfl, rfl, rfl⟩
        · split <;> exact ⟨rfl, rfl, rfl, rfl⟩
theorem mlAll_get (g : Grp) : ∀ (l : List O) (k i : Nat), (mlAll g l k)[i]? = (l[i]?).map (mlO g (k + i))
  | [], _, _ => by simp [mlAll]
  | o :: l, k, 0 => by simp [mlAll]
  | o :: l, k, i + 1 => by
    have := mlAll_get g l (k + 1) i
    simp only [mlAll, List.getElem?_cons_succ]
    rw [this, show k + 1 + i = k + (i + 1) by omega]
theorem mlAll_length (g : Grp) : ∀ (l : List O) (k : Nat), (mlAll g l k).length = l.length
  | [], _ => rfl
  | o :: l, k => by simp [mlAll, mlAll_length g l]

theorem allIdx_get {f : Nat → O → Bool} : ∀ (l : List O) (k i : Nat) (o : O), allIdx f l k = true → l[i]? = some o → f (k + i) o = true
  | [], _, _, _, _, h => by simp at h
  | o1 :: l, k, 0, o, ha, h => by
    simp at h; subst h
    simp only [allIdx, Bool.and_eq_true] at ha
    exact ha.1
  | o1 :: l, k, i + 1, o, ha, h => by
    simp only [allIdx, Bool.and_eq_true] at ha
    have := allIdx_get l (k + 1) i o ha.2 (by simpa using h)
    rwa [show k + 1 + i = k + (i + 1) by omega] at this
theorem mlHead_spec : ∀ (l : List O) (k i0 d : Nat), mlHead l k = some (i0, d) → ∃ i o, i0 = k + i ∧ l[i]? = some o ∧ o.op = .mkMap ∧ o.dst = some d ∧ o.guard = none
  | [], _, _, _, h => by simp [mlHead] at h
  | o :: l, k, i0, d, h => by
    unfold mlHead at h
    split at h
    · rename_i d' h1 h2 h3
      cases h
      exact ⟨0, o, by simp, rfl, h1, h2, h3⟩
    · obtain ⟨i, o', q1, q2⟩ := mlHead_spec l (k + 1) i0 d h
      exact ⟨i + 1, o', by omega, by simpa using q2⟩
theorem mlIns_mem {d : Nat} : ∀ (l : List O) (k : Nat) (x : Nat × V × V), x ∈ mlIns d l k → ∃ i o, x.1 = k + i ∧ l[i]? = some o ∧ mlInsOf d o.op = some x.2
  | [], _, _, h => by simp [mlIns] at h
  | o :: l, k, x, h => by
    unfold mlIns at h
    have rec_ : x ∈ mlIns d l (k + 1) → ∃ i o', x.1 = k + i ∧ (o :: l)[i]? = some o' ∧ mlInsOf d o'.op = some x.2 := fun h => by
      obtain ⟨i, o', q1, q2, q3⟩ := mlIns_mem l (k + 1) x h
      exact ⟨i + 1, o', by omega, by simpa using q2, q3⟩
    split at h
    · rename_i kk vv hq
      rcases List.mem_cons.1 h with rfl | h
      · exact ⟨0, o, by simp, rfl, hq⟩
      · exact rec_ h
    · exact rec_ h
theorem mlIns_of {d : Nat} : ∀ (l : List O) (k i : Nat) (o : O) (y : V × V), l[i]? = some o → mlInsOf d o.op = some y → (k + i, y) ∈ mlIns d l k
  | [], _, _, _, _, h, _ => by simp at h
  | o1 :: l, k, 0, o, y, h, hy => by
    simp at h; subst h
    unfold mlIns
    rw [hy]; simp
  | o1 :: l, k, i + 1, o, y, h, hy => by
    have := mlIns_of l (k + 1) i o y (by simpa using h) hy
    rw [show k + 1 + i = k + (i + 1) by omega] at this
    unfold mlIns
    split
    · exact List.mem_cons_of_mem _ this
    · exact this
theorem mlCps_mem {d : Nat} : ∀ (l : List O) (k : Nat) (x : Nat × Nat), x ∈ mlCps d l k → ∃ i o, x.1 = k + i ∧ l[i]? = some o ∧ mlCpOf d o = some x.2
  | [], _, _, h => by simp [mlCps] at h
  | o :: l, k, x, h => by
    unfold mlCps at h
    have rec_ : x ∈ mlCps d l (k + 1) → ∃ i o', x.1 = k + i ∧ (o :: l)[i]? = some o' ∧ mlCpOf d o' = some x.2 := fun h => by
      obtain ⟨i, o', q1, q2, q3⟩ := mlCps_mem l (k + 1) x h
      exact ⟨i + 1, o', by omega, by simpa using q2, q3⟩
    split at h
    · rename_i t hq
      rcases List.mem_cons.1 h with rfl | h
      · exact ⟨0, o, by simp, rfl, hq⟩
      · exact rec_ h
    · exact rec_ h
theorem mlCps_of {d : Nat} : ∀ (l : List O) (k i : Nat) (o : O) (t : Nat), l[i]? = some o → mlCpOf d o = some t → (k + i, t) ∈ mlCps d l k
  | [], _, _, _, _, h, _ => by simp at h
  | o1 :: l, k, 0, o, t, h, hy => by
    simp at h; subst h
    unfold mlCps
    rw [hy]; simp
  | o1 :: l, k, i + 1, o, t, h, hy => by
    have := mlCps_of l (k + 1) i o t (by simpa using h) hy
    rw [show k + 1 + i = k + (i + 1) by omega] at this
    unfold mlCps
    split
    · exact List.mem_cons_of_mem _ this
    · exact this

structure GrpOK (g : Grp) (l : List O) : Prop where
  cps : g.cp = mlCps g.d l 0
  head : ∃ o, l[g.i0]? = some o ∧ o.op = .mkMap ∧ o.dst = some g.d ∧ o.guard = none
  ins : g.ins = mlIns g.d l 0
  some_ : g.ins ≠ []
  keys : distinctKeys g.ins = true
  one : ∀ (i : Nat) o, l[i]? = some o → mlOne g i o = true
theorem mlGrp_ok {l : List O} {g : Grp} (h : mlGrp l = some g) : GrpOK g l := by
  unfold mlGrp at h
  split at h
  · rename_i i0 d hh
    split at h
    · rename_i hc
      simp only [Bool.and_eq_true] at hc
      cases h
      obtain ⟨i, o, q1, q2, q3, q4, q5⟩ := mlHead_spec l 0 i0 d hh
      rw [Nat.zero_add] at q1; subst q1
      exact ⟨rfl, ⟨o, q2, q3, q4, q5⟩, rfl, fun he => by simp only at he; have := hc.1.1; rw [he] at this; simp at this, hc.1.2, fun i o ho => by have := allIdx_get l 0 i o hc.2 ho; rwa [Nat.zero_add] at this⟩
    · cases h
  · cases h

theorem mlInsOf_spec {d : Nat} {k : K} {y : V × V} (h : mlInsOf d k = some y) : k = .mapUpd .int (.t d) (.k y.1) (.k y.2) := by
  unfold mlInsOf at h
  split at h
  · rename_i t a b
    split at h
    · rename_i ht; subst ht; cases h; rfl
    · cases h
  · cases h
theorem mlCpOf_spec {d : Nat} {o : O} {t : Nat} (h : mlCpOf d o = some t) : o.op = .mv (.t d) ∧ o.guard = none ∧ o.dst = some t := by
  unfold mlCpOf at h
  split at h
  · rename_i t' h1 h2
    split at h
    · rename_i ht; subst ht; exact ⟨h1, h2, h⟩
    · cases h
  · cases h
theorem mlLookOf_spec {g : Grp} {o : O} {y : Nat × V × Bool × A} (h : mlLookOf g o = some y) : o.op = .lookup .int y.2.1 y.2.2.1 (.t y.1) y.2.2.2 ∧ (y.1 = g.d ∨ ∃ x ∈ g.cp, x.2 = y.1 ∧ o.pre.testBit x.1 = true) := by
  unfold mlLookOf at h
  split at h
  · rename_i z ok t a he
    split at h
    · rename_i ht
      cases h
      refine ⟨he, ?_⟩
      unfold mlHold at ht
      rw [Bool.or_eq_true, List.any_eq_true] at ht
      rcases ht with ht | ⟨x, h1, h2⟩
      · exact .inl (by simpa using ht)
      · rw [Bool.and_eq_true] at h2
        exact .inr ⟨x, h1, by simpa using h2.1, h2.2⟩
    · cases h
  · cases h
theorem mlTmp_no {g : Grp} {t : Nat} (h : mlTmp g t = false) : t ≠ g.d ∧ ∀ x ∈ g.cp, t ≠ x.2 := by
  unfold mlTmp at h
  rw [Bool.or_eq_false_iff, List.any_eq_false] at h
  refine ⟨by simpa using h.1, fun x hx he => h.2 x hx (by rw [he]; simp)⟩

/-! ### looking up in a list whose order is open -/
theorem findK_some {kt : EqT} {k : V} : ∀ {es : List (V × V × Nat)} {i : Nat} {r : Nat × V}, findK kt k es i = some (some r) → ∃ e ∈ es, sameK kt k e.1 = some true ∧ e.2.1 = r.2
  | [], _, _, h => by simp [findK] at h
  | e :: es, i, r, h => by
    unfold findK at h
    split at h
    · rename_i hs; cases h; exact ⟨e, List.mem_cons_self, hs, rfl⟩
    · obtain ⟨e', h1, h2⟩ := findK_some h
      exact ⟨e', List.mem_cons_of_mem _ h1, h2⟩
    · cases h
theorem findK_none {kt : EqT} {k : V} : ∀ {es : List (V × V × Nat)} {i : Nat}, findK kt k es i = some none → ∀ e ∈ es, sameK kt k e.1 = some false
  | [], _, _, e, he => by simp at he
  | e1 :: es, i, h, e, he => by
    unfold findK at h
    split at h
    · cases h
    · rename_i hs
      rcases List.mem_cons.1 he with rfl | he
      · exact hs
      · exact findK_none h e he
    · cases h
theorem findK_none_of {kt : EqT} {k : V} : ∀ {es : List (V × V × Nat)} {i : Nat}, (∀ e ∈ es, sameK kt k e.1 = some false) → findK kt k es i = some none
  | [], _, _ => rfl
  | e1 :: es, i, h => by
    unfold findK
    rw [h e1 List.mem_cons_self]
    exact findK_none_of fun e he => h e (List.mem_cons_of_mem _ he)
theorem findK_some_of {kt : EqT} {k : V} : ∀ {es : List (V × V × Nat)} {i : Nat} {e : V × V × Nat}, e ∈ es → sameK kt k e.1 = some true → (∀ e' ∈ es, e'.1 = e.1 ∧ e'.2.1 = e.2.1 ∨ sameK kt k e'.1 = some false) → ∃ j, findK kt k es i = some (some (j, e.2.1))
  | [], _, _, he, _, _ => by simp at he
  | e1 :: es, i, e, he, hs, ha => by
    unfold findK
    rcases ha e1 List.mem_cons_self with ⟨h1, h2⟩ | h
    · rw [h1, hs, ← h2]; exact ⟨_, rfl⟩
    · rw [h]
      simp only
      rcases List.mem_cons.1 he with rfl | he
      · rw [hs] at h; cases h
      · exact findK_some_of he hs fun e' he' => ha e' (List.mem_cons_of_mem _ he')

theorem distinct_spec : ∀ {l : List (Nat × V × V)}, distinctKeys l = true → ∀ x ∈ l, ∀ y ∈ l, x = y ∨ (sameK .int x.2.1 y.2.1 = some false)
  | [], _, x, hx, _, _ => by simp at hx
  | a :: l, h, x, hx, y, hy => by
    simp only [distinctKeys, Bool.and_eq_true, List.all_eq_true] at h
    have one : ∀ z ∈ l, sameK .int a.2.1 z.2.1 = some false ∧ sameK .int z.2.1 a.2.1 = some false := fun z hz => by
      obtain ⟨h1, h2⟩ := h.1 z hz
      refine ⟨?_, ?_⟩
      · split at h1
        · assumption
        · cases h1
      · split at h2
        · assumption
        · cases h2
    rcases List.mem_cons.1 hx with e1 | hx' <;> rcases List.mem_cons.1 hy with e2 | hy'
    · exact .inl (e1.trans e2.symm)
    · rw [e1]; exact .inr (one y hy').1
    · rw [e2]; exact .inr (one x hx').2
    · exact distinct_spec h.2 x hx' y hy'
theorem sameK_int {k a b : V} {r : Bool} (h1 : sameK .int k a = some true) (h2 : sameK .int a b = some r) : sameK .int k b = some r := by
  unfold sameK at h1 h2 ⊢
  split at h1
  · rename_i κ x κ' y
    split at h1
    · rename_i he; subst he
      cases b with
      | int κ2 z =>
        simp only at h2 ⊢
        split at h2
        · rename_i he2; subst he2
          simp only [Option.some.injEq, beq_iff_eq] at h1
          subst h1
          simpa using h2
        · cases h2
      | _ => simp at h2
    · cases h1
  all_goals simp_all
end Go.AM
