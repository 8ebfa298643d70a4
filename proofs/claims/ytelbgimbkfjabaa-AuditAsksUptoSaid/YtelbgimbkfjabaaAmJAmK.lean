/- My own texts of the evaluator, its soundness and its symbolic runs, laid for this claim. -/
import Derived.Test.YtelbgimbkfjabaaAmHAmI
set_option linter.unusedSimpArgs false
set_option linter.unusedVariables false
/-! Soundness, VI: conversions without memory, slices, addresses, lengths. -/
namespace Go.AM
variable {P : Program} {m : Mp} {h : H} {w : World} {T : List V} {a : Act} {o : Oper} {k : K}

theorem snd_fieldAddr (cx : Cx P m h w T a) {t : TypeId} {x : Operand} {f : Nat} (ho : o.op = .fieldAddr t x f) (hc : cK P (.fieldAddr t x f) = some k) : Snd P m h w T a o k := by
  intro r hr
  simp only [cK] at hc
  split at hc
  · rename_i fs y h1 h2
    split at hc
    · rename_i fd h3
      split at hc
      · rename_i s hs
        cases hc
        simp only [evK] at hr
        split at hr <;> cases hr
        rename_i i q e
        obtain ⟨R, sh, ex, hm, hx⟩ := cx.av h2 e
        refine pur_val (s := Instr.fieldAt t (a.eval x) f) (x := .pointer (some ⟨R, sh + (q + fd.offset), none⟩)) ?_ ⟨R, sh, ex, hm, rfl⟩ (by simp [execOp, ho])
        rw [hx]
        simp [Instr.fieldAt, run_underlying h1, h3, Instr.sureAddr, fieldPlace, run_sizeOf hs, Addr.add]
        split <;> simp_all <;> omega
      · cases hc
    · cases hc
  · cases hc

theorem add_at (r o n : Nat) : (⟨r, o, none⟩ : Addr).add n = ⟨r, o + n, none⟩ := by
  unfold Addr.add; split <;> simp_all

theorem snd_indexAddr (cx : Cx P m h w T a) {t : TypeId} {x i : Operand} (ho : o.op = .indexAddr t x i) (hc : cK P (.indexAddr t x i) = some k) : Snd P m h w T a o k := by
  intro r hr
  simp only [cK] at hc
  split at hc
  · rename_i e y j h1 h2 h3
    cases h4 : sizeT P e with
    | none => simp [h4] at hc
    | some s =>
      simp [h4] at hc; subst hc
      simp only [evK] at hr
      split at hr
      · rename_i b q len c op kd n e1 e2
        split at hr <;> cases hr
        rename_i hn
        obtain ⟨R, sh, ex, ad, hm, hx, hz⟩ := cx.av h2 e1
        have hi : a.eval i = .int kd n := cx.av h3 e2
        refine pur_val (s := Instr.indexAt t (a.eval x) (a.eval i)) (x := .pointer (some ⟨R, sh + (q + n.toNat * s), none⟩)) ?_ ⟨R, sh, ex, hm, rfl⟩ (by simp [execOp, ho])
        have had : ad = ⟨R, sh + q, none⟩ := by
          rcases hz with hz | ⟨hz, _⟩
          · exact hz
          · omega
        subst had
        rw [hx, hi]
        simp [Instr.indexAt, asIntOf, run_underlying h1, hn, run_sizeOf h4, add_at, Nat.add_assoc]
      · cases hr
  · rename_i len e y j h1 h2 h3
    cases h4 : sizeT P e with
    | none => simp [h4] at hc
    | some s =>
      simp [h4] at hc; subst hc
      simp only [evK] at hr
      split at hr
      · rename_i b q kd n e1 e2
        split at hr <;> cases hr
        rename_i hn
        obtain ⟨R, sh, ex, hm, hx⟩ := cx.av h2 e1
        have hi : a.eval i = .int kd n := cx.av h3 e2
        refine pur_val (s := Instr.indexAt t (a.eval x) (a.eval i)) (x := .pointer (some ⟨R, sh + (q + n.toNat * s), none⟩)) ?_ ⟨R, sh, ex, hm, rfl⟩ (by simp [execOp, ho])
        rw [hx, hi]
        simp [Instr.indexAt, asIntOf, run_underlying h1, Instr.sureAddr, hn, run_sizeOf h4, add_at, Nat.add_assoc]
      · cases hr
  · cases hc

/-! ### conversions -/
theorem snd_convert (cx : Cx P m h w T a) {t u : TypeId} {x : Operand} (ho : o.op = .convert t u x)
    (hmem : ∀ y, k ≠ .same y ∧ (∀ q, k ≠ .s2b q y) ∧ k ≠ .b2s y ∧ k ≠ .p2u y ∧ (∀ q, k ≠ .u2p q y)) (hc : cK P (.convert t u x) = some k) : Snd P m h w T a o k := by
  intro r hr
  simp only [cK] at hc
  split at hc
  · rename_i k1 k2 y h1 h2 h3
    cases hc
    simp only [evK] at hr
    split at hr <;> cases hr
    rename_i kd n e
    have hx : a.eval x = .int kd n := cx.av h3 e
    refine pur_val (s := convert t u (a.eval x)) (x := .int k2 (k2.wrap n)) ?_ rfl (by simp [execOp, ho])
    rw [hx]; simp [convert, run_underlying h1, run_underlying h2, Conv.intToInt]
  · rename_i k1 y h1 h2 h3
    cases hc
    simp only [evK] at hr
    split at hr <;> cases hr
    rename_i kd n e
    have hx : a.eval x = .int kd n := cx.av h3 e
    refine pur_val (s := convert t u (a.eval x)) (x := .string (Utf8.encode n)) ?_ ?_ (by simp [execOp, ho])
    · rw [hx]; simp [convert, run_underlying h1, run_underlying h2, Conv.intToString]
    · simp [VR]
  · split at hc
    · split at hc
      · cases hc; exact absurd rfl (hmem _).1
      · cases hc
    · cases hc
  · split at hc
    · cases hc
    · cases hc; exact absurd rfl (hmem _).2.2.2.1
  · split at hc
    · cases hc
    · cases hc; exact absurd rfl ((hmem _).2.2.2.2 _)
  · rename_i y h1 h2 h3
    cases hc
    simp only [evK] at hr
    split at hr <;> cases hr
    rename_i s e
    have hx : a.eval x = .string ⟨s.toArray⟩ := cx.av h3 e
    refine pur_val (s := convert t u (a.eval x)) (x := .string ⟨s.toArray⟩) ?_ rfl (by simp [execOp, ho])
    rw [hx]; simp [convert, run_underlying h1, run_underlying h2]
  · split at hc
    · split at hc <;> cases hc
      exact absurd rfl ((hmem _).2.1 _)
    · cases hc
  · split at hc
    · cases hc; exact absurd rfl (hmem _).2.2.1
    · cases hc
  · cases hc

/-! ### slices -/
theorem run_boundV {y y' : Nat} {v : V} {x : Value} {n : Nat} {code : BoundsCode} (hv : VR m v x) (hb : boundV y v = some n) (hy : y ≤ y') : (Instr.sliceBound x y' code).run P w = .ok n w ∧ n ≤ y := by
  cases v <;> simp only [boundV] at hb <;> try cases hb
  rename_i kd q
  split at hb <;> cases hb
  rename_i hq
  cases hv
  refine ⟨?_, by omega⟩
  have : 0 ≤ q ∧ q ≤ (y' : Int) := ⟨hq.1, by omega⟩
  simp [Instr.sliceBound, asIntOf, this]

theorem Cx.ao (cx : Cx P m h w T a) {x : Option Operand} {y : Option A} {v : Option V} (hc : cAo P x = some y) (hv : evo T y = some v) : OptR m v (x.map a.eval) :=
  evAo cx.tr cx.hr.glob hc hv

theorem run_boundsV {b : Bool} {len cap e : Nat} {lo hi mx : Option V} {rlo rhi rmx : Option Value} {l hh mm : Nat}
    (h1 : OptR m lo rlo) (h2 : OptR m hi rhi) (h3 : OptR m mx rmx) (hlen : len ≤ cap) (hb : boundsV len cap lo hi mx = some (l, hh, mm)) :
    (Instr.sliceBounds b len (cap + e) rlo rhi rmx).run P w = .ok (l, hh, mm + if mx.isNone then e else 0) w ∧ l ≤ hh ∧ hh ≤ mm ∧ mm ≤ cap := by
  unfold boundsV at hb
  split at hb
  · cases hb
  · rename_i m' hm'
    split at hb
    · cases hb
    · rename_i h' hh'
      split at hb
      · cases hb
      · rename_i l' hl'
        simp only [Option.some.injEq, Prod.mk.injEq] at hb
        obtain ⟨rfl, rfl, rfl⟩ := hb
        have hlo : ∀ code, (match rlo with | some v => Instr.sliceBound v h' code | none => pure 0).run P w = .ok l' w ∧ l' ≤ h' := fun code => by
          cases lo with
          | none => cases h1; cases hl'; exact ⟨rfl, Nat.zero_le _⟩
          | some u => obtain ⟨z, rfl, hz⟩ := h1; exact run_boundV hz hl' (Nat.le_refl _)
        cases mx with
        | none =>
          cases h3
          cases hm'
          simp only [Option.isNone_none, if_true]
          cases hi with
          | none =>
            cases h2
            cases hh'
            refine ⟨?_, (hlo .sliceB).2, hlen, Nat.le_refl _⟩
            have := (hlo .sliceB).1
            simp only [Instr.sliceBounds, Sem.run_bind, Sem.run_pure, Result.andThen_ok, Option.isSome_none, Bool.false_eq_true, if_false]
            cases rlo <;> simp_all
          | some u =>
            obtain ⟨z, rfl, hz⟩ := h2
            have e1 := run_boundV (P := P) (w := w) (code := if b then .sliceAcap else .sliceAlen) hz hh' (Nat.le_add_right cap e)
            refine ⟨?_, (hlo .sliceB).2, e1.2, Nat.le_refl _⟩
            have := (hlo .sliceB).1
            simp only [Instr.sliceBounds, Sem.run_bind, Sem.run_pure, Result.andThen_ok, Option.isSome_none, Bool.false_eq_true, if_false, e1.1]
            cases rlo <;> simp_all
        | some um =>
          obtain ⟨zm, rfl, hzm⟩ := h3
          have e0 := run_boundV (P := P) (w := w) (code := if b then .slice3Acap else .slice3Alen) hzm hm' (Nat.le_add_right cap e)
          simp only [Option.isNone_some, Bool.false_eq_true, if_false, Nat.add_zero]
          cases hi with
          | none => cases hh'
          | some u =>
            obtain ⟨z, rfl, hz⟩ := h2
            have e1 := run_boundV (P := P) (w := w) (code := .slice3B) hz hh' (Nat.le_refl _)
            refine ⟨?_, (hlo .slice3C).2, e1.2, e0.2⟩
            have := (hlo .slice3C).1
            simp only [Instr.sliceBounds, Sem.run_bind, Result.andThen_ok, Option.isSome_some, if_true, e0.1, e1.1]
            cases rlo <;> simp_all

theorem snd_slice (cx : Cx P m h w T a) {t : TypeId} {x : Operand} {lo hi mx : Option Operand} (ho : o.op = .slice t x lo hi mx) (hc : cK P (.slice t x lo hi mx) = some k) : Snd P m h w T a o k := by
  intro r hr
  have he : execOp a.eval o = (do pure (Next.value (← Instr.sliceAt t (a.eval x) (lo.map a.eval) (hi.map a.eval) (mx.map a.eval)))) := by simp [execOp, ho]
  simp only [cK] at hc
  split at hc
  · rename_i x' lo' hi' h1 h2 h3 h4 h5
    cases hc
    simp only [evK] at hr
    split at hr
    · rename_i s vlo vhi e1 e2 e3
      split at hr <;> cases hr
      rename_i l hh mm hb
      have hx : a.eval x = .string ⟨s.toArray⟩ := cx.av h2 e1
      have hmx : mx = none := by
        cases mx with
        | none => rfl
        | some q => simp only [cAo] at h5; cases h6 : cA P q <;> simp [h6] at h5
      subst hmx
      obtain ⟨e4, e5, e6, e7⟩ := run_boundsV (P := P) (w := w) (m := m) (b := false) (e := 0) (mx := none) (rmx := none) (cx.ao h3 e2) (cx.ao h4 e3) (show OptR m none none from rfl) (Nat.le_refl _) hb
      refine pur_val (x := .string ((⟨s.toArray⟩ : ByteArray).extract l hh)) ?_ ?_ he
      · rw [hx]
        have hsz : (⟨s.toArray⟩ : ByteArray).size = s.length := by simp [ByteArray.size]
        simp only [Nat.add_zero] at e4
        simp [Instr.sliceAt, run_underlying h1, Instr.slice, hsz, e4]
      · simp only [VR]
        congr 1
        apply ByteArray.ext
        apply Array.ext'
        simp [ByteArray.extract, ByteArray.copySlice, List.extract_eq_take_drop]
    · cases hr
  · rename_i e x' lo' hi' mx' h1 h2 h3 h4 h5
    cases h6 : sizeT P e with
    | none => simp [h6] at hc
    | some s =>
      simp [h6] at hc; subst hc
      simp only [evK] at hr
      split at hr
      · rename_i p len cap opn vlo vhi vmx e1 e2 e3 e4
        split at hr
        · rename_i hlc
          split at hr <;> cases hr
          rename_i l hh mm hb
          have hxv := cx.av h2 e1
          cases p with
          | none =>
            have hx : a.eval x = .slice none len cap := hxv
            obtain ⟨e5, e6, e7, e8⟩ := run_boundsV (P := P) (w := w) (m := m) (b := true) (e := 0) (cx.ao h3 e2) (cx.ao h4 e3) (cx.ao h5 e4) hlc hb
            refine pur_val (x := .slice none (hh - l) (mm - l)) ?_ rfl he
            rw [hx]
            simp only [Nat.add_zero, ite_self] at e5
            simp [Instr.sliceAt, run_underlying h1, Instr.slice, e5, run_sizeOf h6]
          | some p =>
            obtain ⟨i, q⟩ := p
            obtain ⟨R, sh, ex, ad, hm, hx, hz⟩ := hxv
            obtain ⟨e5, e6, e7, e8⟩ := run_boundsV (P := P) (w := w) (m := m) (b := true) (e := if opn then ex else 0) (cx.ao h3 e2) (cx.ao h4 e3) (cx.ao h5 e4) hlc hb
            generalize hM : mm + (if vmx.isNone then (if opn then ex else 0) else 0) = M at e5
            refine pur_val (x := .slice (some (if M = l then ad else ad.add (l * s))) (hh - l) (M - l)) ?_ ?_ he
            · rw [hx]
              simp [Instr.sliceAt, run_underlying h1, Instr.slice, e5, run_sizeOf h6]
              split <;> rfl
            · refine ⟨R, sh, ex, (if M = l then ad else ad.add (l * s)), hm, ?_, ?_⟩
              · congr 1
                subst hM
                cases vmx <;> cases opn <;> simp <;> omega
              · have hMl : M - l = mm - l + if (opn && vmx.isNone) = true then ex else 0 := by
                  subst hM
                  cases vmx <;> cases opn <;> simp <;> omega
                by_cases hml : M = l
                · right
                  rw [← hMl]
                  have : mm ≤ M := by rw [← hM]; exact Nat.le_add_right _ _
                  refine ⟨by omega, by omega, ?_⟩
                  rw [if_pos hml]
                  rcases hz with hz | ⟨_, _, hz⟩
                  · rw [hz]; exact fun _ => rfl
                  · intro ho2
                    simp only [Bool.and_eq_true] at ho2
                    exact hz ho2.1
                · left
                  rw [if_neg hml]
                  rcases hz with hz | ⟨_, hz, _⟩
                  · subst hz; rw [add_at, Nat.add_assoc]
                  · exfalso
                    have : M ≤ cap + if opn then ex else 0 := by
                      rw [← hM]
                      cases vmx <;> simp <;> omega
                    omega
        · cases hr
      · cases hr
  · rename_i n e x' lo' hi' mx' h1 h2 h3 h4 h5
    cases h6 : sizeT P e with
    | none => simp [h6] at hc
    | some s =>
      simp [h6] at hc; subst hc
      simp only [evK] at hr
      split at hr
      · rename_i i q vlo vhi vmx e1 e2 e3 e4
        split at hr <;> cases hr
        rename_i l hh mm hb
        obtain ⟨R, sh, ex, hm, hx⟩ := cx.av h2 e1
        obtain ⟨e5, e6, e7, e8⟩ := run_boundsV (P := P) (w := w) (m := m) (b := false) (e := 0) (cx.ao h3 e2) (cx.ao h4 e3) (cx.ao h5 e4) (Nat.le_refl n) hb
        simp only [Nat.add_zero, ite_self] at e5
        refine pur_val (x := .slice (some (if mm = l then ⟨R, sh + q, none⟩ else ⟨R, sh + (q + l * s), none⟩)) (hh - l) (mm - l)) ?_ ?_ he
        · rw [hx]
          simp [Instr.sliceAt, run_underlying h1, Instr.sureAddr, e5, run_sizeOf h6, add_at, Nat.add_assoc]
        · refine ⟨R, sh, ex, (if mm = l then ⟨R, sh + q, none⟩ else ⟨R, sh + (q + l * s), none⟩), hm, by simp, ?_⟩
          by_cases hml : mm = l
          · right; simp [hml]; omega
          · left; simp [hml]
      · cases hr
  · cases hc
end Go.AM
/-! Soundness, VII: the builtins; cells read and written. -/
namespace Go.AM
variable {P : Program} {m : Mp} {h : H} {w : World} {T : List V} {a : Act} {o : Oper} {k : K}

theorem exec_builtin {c : Call} {b : Builtin} (ho : o.op = .call c) (hb : c.callee = .builtin b) :
    ∃ consts, (execOp a.eval o).run P w = (builtin b c.argTypes o.type consts (c.args.map a.eval)).run P w := by
  simp only [execOp, ho, resolve, hb, invoke, Sem.run_bind, Sem.run_pure, Result.andThen_ok]
  exact ⟨_, rfl⟩

/-! ### reading a block -/
theorem HR.cells {i r sh e : Nat} {vs : List V} {ty : Nat} {opn ro : Bool} {fz : Option Nat} (hr : HR P m h w) (hg : h.get i = some (.cells vs ty opn ro fz)) (hm : m i = some (r, sh, e)) :
    ∃ c fzr, w.heap[r]? = some (.cells c ty fzr) ∧ VRL m vs ((c.toList.drop sh).take vs.length) ∧ sh + vs.length ≤ c.size ∧
      (if opn then sh + vs.length + e * P.cellsOf ty ≤ c.size else sh = 0 ∧ e = 0 ∧ c.size = vs.length) ∧
      (ro = false → FzOK fz sh c.size fzr) := by
  obtain ⟨r', sh', e', ob, h1, h2, c, fzr, rfl, h3, h4, h5⟩ := hr.obj i _ hg rfl
  rw [hm] at h1; cases h1
  refine ⟨c, fzr, h2, h3, ?_, h4, h5⟩
  cases opn with
  | true => simp only [if_true] at h4; omega
  | false => simp only [Bool.false_eq_true, if_false] at h4; omega

theorem HR.load1 {i r sh e o : Nat} {vs : List V} {ty : Nat} {opn ro : Bool} {fz : Option Nat} {v : V} (hr : HR P m h w) (hg : h.get i = some (.cells vs ty opn ro fz)) (hm : m i = some (r, sh, e))
    (hv : vs[o]? = some v) : ∃ x, w.cell? ⟨r, sh + o, none⟩ = some x ∧ VR m v x := by
  obtain ⟨c, fzr, h1, h2, h3, _⟩ := hr.cells hg hm
  obtain ⟨x, hx, hvr⟩ := h2.get hv
  have ho : o < vs.length := by
    rcases Nat.lt_or_ge o vs.length with h' | h'
    · exact h'
    · simp [List.getElem?_eq_none h'] at hv
  refine ⟨x, ?_, hvr⟩
  rw [cell_at h1]
  rw [List.getElem?_take, if_pos ho, List.getElem?_drop] at hx
  simpa using hx

theorem HR.loadN {i r sh e o n : Nat} {vs : List V} {ty : Nat} {opn ro : Bool} {fz : Option Nat} (hr : HR P m h w) (hg : h.get i = some (.cells vs ty opn ro fz)) (hm : m i = some (r, sh, e))
    (hn : o + n ≤ vs.length) : ∃ xs : List Value, (loadCells ⟨r, sh + o, none⟩ n).run P w = .ok xs.toArray w ∧ VRL m (getR vs o n) xs := by
  obtain ⟨c, fzr, h1, h2, h3, _⟩ := hr.cells hg hm
  refine ⟨_, run_loadCells h1 (by omega), ?_⟩
  have := h2.range o n
  rw [List.drop_take, List.drop_drop, List.take_take, Nat.min_eq_left (by omega)] at this
  exact this

/-! ### loads -/
theorem run_load1 {x : Value} {ad : Addr} (hc : w.cell? ad = some x) : (load ad).run P w = .ok x w := by simp [hc]

theorem snd_load (cx : Cx P m h w T a) {t : TypeId} {x : Operand} (ho : o.op = .load t x) (hc : cK P (.load t x) = some k) : Snd P m h w T a o k := by
  intro r hr
  have he : execOp a.eval o = (do pure (Next.value (← Instr.loadAt t (a.eval x)))) := by simp [execOp, ho]
  simp only [cK] at hc
  split at hc
  · rename_i y s h1 h2
    split at hc
    · rename_i hag
      cases hc
      simp only [evK] at hr
      split at hr
      · rename_i i q e
        obtain ⟨R, sh, ex, hm, hx⟩ := cx.av h1 e
        split at hr
        · rename_i vs ty opn ro fz hg
          split at hr <;> cases hr
          rename_i hn
          obtain ⟨xs, h3, h4⟩ := cx.hr.loadN hg hm hn
          refine rd_val (x := .agg xs.toArray) ?_ ⟨xs, h4, rfl⟩ he
          rw [hx]
          simp [Instr.loadAt, Instr.sureAddr, loadVar, run_isAgg' h2, hag, run_sizeOf h2, h3]
        · cases hr
      · cases hr
    · rename_i hag
      cases hc
      simp only [evK] at hr
      split at hr
      · rename_i i q e
        obtain ⟨R, sh, ex, hm, hx⟩ := cx.av h1 e
        split at hr
        · rename_i vs ty opn ro fz hg
          cases hv : vs[q]? with
          | none => simp [hv] at hr
          | some v =>
            simp [hv] at hr; subst hr
            obtain ⟨z, h3, h4⟩ := cx.hr.load1 hg hm hv
            refine rd_val (x := z) ?_ h4 he
            rw [hx]
            simp [Instr.loadAt, Instr.sureAddr, loadVar, run_isAgg' h2, hag, h3]
        · cases hr
      · cases hr
  · cases hc

/-! ### stores -/
theorem getElem?_setR (vs ws : List V) (o j : Nat) (ho : o + ws.length ≤ vs.length) : (setR vs o ws)[j]? = if j < o then vs[j]? else if j < o + ws.length then ws[j - o]? else vs[j]? :=
  getElem?_splice vs ws o j ho
theorem length_setR (vs ws : List V) (o : Nat) (ho : o + ws.length ≤ vs.length) : (setR vs o ws).length = vs.length := by
  simp [setR]; omega

theorem VRL.splice {vs ws : List V} {xs ys : List Value} {o : Nat} (h1 : VRL m vs xs) (h2 : VRL m ws ys) :
    VRL m (setR vs o ws) (xs.take o ++ ys ++ xs.drop (o + ys.length)) := by
  unfold setR
  rw [h2.length]
  exact ((h1.take o).append h2).append (h1.drop _)

theorem HR.put {i r sh e q : Nat} {vs ws : List V} {ys : List Value} {ty : Nat} {opn : Bool} {fz : Option Nat} (hr : HR P m h w) (hg : h.get i = some (.cells vs ty opn false fz)) (hm : m i = some (r, sh, e))
    (hq : q + ws.length ≤ vs.length) (hw : VRL m ws ys) (h1 : ws.all V.one = true) (hf : fzFree fz q = true) :
    ∃ w', (storeCells ⟨r, sh + q, none⟩ ys).run P w = .ok () w' ∧ HR P m (h.set i (.cells (setR vs q ws) ty opn false fz)) w' ∧ Ext m h w m (h.set i (.cells (setR vs q ws) ty opn false fz)) w' := by
  obtain ⟨c, fzr, g1, g2, g3, g4, g5⟩ := hr.cells hg hm
  have g5 := g5 rfl
  have hone : ∀ y ∈ ys, y.oneCell' = true := by
    intro y hy
    obtain ⟨j, hj, rfl⟩ := List.getElem_of_mem hy
    have hjw : j < ws.length := by rw [← hw.length]; exact hj
    obtain ⟨z, hz, hzr⟩ := hw.get (i := j) (v := ws[j]) (by simp [hjw])
    have : ys[j] = z := by simpa [hj] using hz
    rw [this]
    exact VR.one hzr (List.all_eq_true.1 h1 _ (List.getElem_mem hjw))
  have hfree : ∀ j, sh + q + 0 ≤ j → j < sh + q + 0 + ys.length → ¬ (fzr.1 ≤ j ∧ j < fzr.2) := by
    intro j hj1 hj2 ⟨hj3, hj4⟩
    rw [hw.length] at hj2
    cases fz with
    | none => simp only [FzOK] at g5; subst g5; simp at hj4
    | some f =>
      simp only [fzFree, decide_eq_true_eq] at hf
      simp only [FzOK] at g5
      have g6 := g5.2 j hj3 hj4
      split at g6 <;> omega
  obtain ⟨w', c', e1, e2, e3⟩ := run_storeCells (P := P) ys 0 c w g1 hone (by rw [hw.length]; omega) hfree
  refine ⟨w', e1, ?_⟩
  have hlen : (c'.toList).length = c.toList.length := by
    rw [e3]; simp; rw [hw.length]; omega
  refine hr.set hg rfl hm e2 ?_
  refine ⟨c', fzr, rfl, ?_, ?_, ?_⟩
  · rw [length_setR _ _ _ hq, e3]
    have hl := hw.length
    have : ((c.toList.take (sh + q + 0) ++ ys ++ c.toList.drop (sh + q + 0 + ys.length)).drop sh).take vs.length = ((c.toList.drop sh).take vs.length).take q ++ ys ++ ((c.toList.drop sh).take vs.length).drop (q + ys.length) := by
      refine List.ext_getElem? fun j => ?_
      rw [List.getElem?_take]
      rw [getElem?_splice _ _ q j (by simp; omega)]
      by_cases hj : j < vs.length
      · rw [if_pos hj, List.getElem?_drop, getElem?_splice c.toList ys (sh + q + 0) (sh + j) (by simp; omega)]
        simp only [List.getElem?_take, List.getElem?_drop, hj, if_true, Nat.add_zero]
        by_cases a1 : j < q
        · rw [if_pos (by omega), if_pos a1]
        · rw [if_neg (by omega), if_neg a1]
          by_cases a2 : j < q + ys.length
          · rw [if_pos (by omega), if_pos a2]; congr 1; omega
          · rw [if_neg (by omega), if_neg a2]
      · rw [if_neg hj, if_neg (by omega), if_neg (by omega), List.getElem?_take, if_neg hj]
    rw [this]
    exact g2.splice hw
  · rw [length_setR _ _ _ hq]
    have : c'.size = c.size := by simpa using hlen
    rw [this]; exact g4
  · have : c'.size = c.size := by simpa using hlen
    rw [this]; exact fun _ => g5

theorem putCells_sound {i r sh e q : Nat} {ws : List V} {ys : List Value} {h' : H} (hr : HR P m h w) (hm : m i = some (r, sh, e)) (hw : VRL m ws ys) (hp : putCells h i q ws = some h') :
    ∃ w', (storeCells ⟨r, sh + q, none⟩ ys).run P w = .ok () w' ∧ HR P m h' w' ∧ Ext m h w m h' w' := by
  unfold putCells at hp
  split at hp
  · rename_i he
    cases hp
    have : ws = [] := by simpa using he
    subst this
    cases hw
    exact ⟨w, by simp [storeCells], hr, Ext.refl _ _ _⟩
  · split at hp
    · rename_i vs ty opn fz hg
      split at hp <;> cases hp
      rename_i hc
      exact hr.put hg hm hc.1 hw hc.2.1 hc.2.2
    · cases hp

theorem snd_store (cx : Cx P m h w T a) {t : TypeId} {x y : Operand} (ho : o.op = .store t x y) (hc : cK P (.store t x y) = some k) : Snd P m h w T a o k := by
  intro r hr
  simp only [cK] at hc
  split at hc <;> cases hc
  rename_i x' y' s h1 h2 h3
  simp only [evK] at hr
  split at hr
  · rename_i i q v e1 e2
    obtain ⟨R, sh, ex, hm, hx⟩ := cx.av h1 e1
    have hv := cx.av h2 e2
    split at hr
    · rename_i hs
      cases hp : putCells h i q v.cells with
      | none => simp [hp] at hr
      | some h' =>
        simp [hp] at hr; subst hr
        have hcs := VR.cells hv
        obtain ⟨w', e3, e4, e5⟩ := putCells_sound cx.hr hm hcs hp
        refine ⟨m, w', undef, e4, e5, ⟨[], rfl, rfl⟩, .inr ⟨?_, rfl⟩⟩
        have hsz : (a.eval y).cells.size = s := by rw [← Array.length_toList, hcs.length]; exact hs
        rw [show execOp a.eval o = (do Instr.storeAt t (a.eval x) (a.eval y); pure Next.skip) by simp [execOp, ho], hx]
        simp [Instr.storeAt, Instr.sureAddr, storeVar, hsz, run_sizeOf h3, e3]
    · cases hr
  · cases hr
end Go.AM
