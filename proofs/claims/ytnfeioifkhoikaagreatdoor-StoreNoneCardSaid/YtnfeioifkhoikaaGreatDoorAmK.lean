/- My own text of the evaluator and its soundness (abstract machine), laid for this claim. -/
import Derived.Test.YtnfeioifkhoikaaGreatDoorAmJ
/-! Soundness, VII: the builtins; cells read and written. -/
namespace Go.AM
variable {P : Program} {m : Mp} {h : H} {w : World} {T : List V} {a : Act} {o : Oper} {k : K}

theorem exec_builtin {c : Call} {b : Builtin} (ho : o.op = .call c) (hb : c.callee = .builtin b) :
    ∃ consts, (execOp a.eval o).run P w = (builtin b c.argTypes o.type consts (c.args.map a.eval)).run P w := by
  simp only [execOp, ho, resolve, hb, invoke, Sem.run_bind, Sem.run_pure, Result.andThen_ok]
  exact ⟨_, rfl⟩

/-! ### reading a block -/
theorem HR.cells {i r sh e : Nat} {vs : List V} {ty : Nat} {opn ro : Bool} {fz : Option Nat} (hr : HR P m h w) (hg : h.get i = some (.cells vs ty opn ro fz)) (hm : m i = some (r, sh, e)) :
    ∃ c fzr, w.heap[r]? = some (.cells c ty fzr) ∧ VRL m vs ((c.toList.drop sh).take vs.length) ∧ sh + vs.length ≤ c.size ∧
      (if opn then sh + vs.length + e * P.cellsOf ty ≤ c.size else sh = 0 ∧ e = 0 ∧ c.size = vs.length) ∧
      FzOK fz sh c.size fzr := by
  obtain ⟨r', sh', e', ob, h1, h2, c, fzr, rfl, h3, h4, h5⟩ := hr.obj i _ hg rfl
  rw [hm] at h1; cases h1
  refine ⟨c, fzr, h2, h3, ?_, h4, h5⟩
  cases opn with
  | true => simp only [if_true] at h4; omega
  | false => simp only [Bool.false_eq_true, if_false] at h4; omega

theorem HR.load1 {i r sh e o : Nat} {vs : List V} {ty : Nat} {opn ro : Bool} {fz : Option Nat} {v : V} (hr : HR P m h w) (hg : h.get i = some (.cells vs ty opn ro fz)) (hm : m i = some (r, sh, e))
    (hv : vs[o]? = some v) : ∃ x, w.cell? ⟨r, sh + o, none⟩ = some x ∧ VR m v x := by
  obtain ⟨c, fzr, h1, h2, h3, _⟩ := hr.cells hg hm
  obtain ⟨x, hx, hvr⟩ := h2.get hv
  have ho : o < vs.length := by
    rcases Nat.lt_or_ge o vs.length with h' | h'
    · exact h'
    · simp [List.getElem?_eq_none h'] at hv
  refine ⟨x, ?_, hvr⟩
  rw [cell_at h1]
  rw [List.getElem?_take, if_pos ho, List.getElem?_drop] at hx
  simpa using hx

theorem HR.loadN {i r sh e o n : Nat} {vs : List V} {ty : Nat} {opn ro : Bool} {fz : Option Nat} (hr : HR P m h w) (hg : h.get i = some (.cells vs ty opn ro fz)) (hm : m i = some (r, sh, e))
    (hn : o + n ≤ vs.length) : ∃ xs : List Value, (loadCells ⟨r, sh + o, none⟩ n).run P w = .ok xs.toArray w ∧ VRL m (getR vs o n) xs := by
  obtain ⟨c, fzr, h1, h2, h3, _⟩ := hr.cells hg hm
  refine ⟨_, run_loadCells h1 (by omega), ?_⟩
  have := h2.range o n
  rw [List.drop_take, List.drop_drop, List.take_take, Nat.min_eq_left (by omega)] at this
  exact this

/-! ### loads -/
theorem run_load1 {x : Value} {ad : Addr} (hc : w.cell? ad = some x) : (load ad).run P w = .ok x w := by simp [hc]

theorem snd_load (cx : Cx P m h w T a) {t : TypeId} {x : Operand} (ho : o.op = .load t x) (hc : cK P (.load t x) = some k) : Snd P m h w T a o k := by
  intro r hr
  have he : execOp a.eval o = (do pure (Next.value (← Instr.loadAt t (a.eval x)))) := by simp [execOp, ho]
  simp only [cK] at hc
  split at hc
  · rename_i y s h1 h2
    split at hc
    · rename_i hag
      cases hc
      simp only [evK] at hr
      split at hr
      · rename_i i q e
        obtain ⟨R, sh, ex, hm, hx⟩ := cx.av h1 e
        split at hr
        · rename_i vs ty opn ro fz hg
          split at hr <;> cases hr
          rename_i hn
          obtain ⟨xs, h3, h4⟩ := cx.hr.loadN hg hm hn
          refine rd_val (x := .agg xs.toArray) ?_ ⟨xs, h4, rfl⟩ he
          rw [hx]
          simp [Instr.loadAt, Instr.sureAddr, loadVar, run_isAgg' h2, hag, run_sizeOf h2, h3]
        · cases hr
      · cases hr
    · rename_i hag
      cases hc
      simp only [evK] at hr
      split at hr
      · rename_i i q e
        obtain ⟨R, sh, ex, hm, hx⟩ := cx.av h1 e
        split at hr
        · rename_i vs ty opn ro fz hg
          cases hv : vs[q]? with
          | none => simp [hv] at hr
          | some v =>
            simp [hv] at hr; subst hr
            obtain ⟨z, h3, h4⟩ := cx.hr.load1 hg hm hv
            refine rd_val (x := z) ?_ h4 he
            rw [hx]
            simp [Instr.loadAt, Instr.sureAddr, loadVar, run_isAgg' h2, hag, h3]
        · cases hr
      · cases hr
  · cases hc

/-! ### stores -/
theorem getElem?_setR (vs ws : List V) (o j : Nat) (ho : o + ws.length ≤ vs.length) : (setR vs o ws)[j]? = if j < o then vs[j]? else if j < o + ws.length then ws[j - o]? else vs[j]? :=
  getElem?_splice vs ws o j ho
theorem length_setR (vs ws : List V) (o : Nat) (ho : o + ws.length ≤ vs.length) : (setR vs o ws).length = vs.length := by
  simp [setR]; omega

theorem VRL.splice {vs ws : List V} {xs ys : List Value} {o : Nat} (h1 : VRL m vs xs) (h2 : VRL m ws ys) :
    VRL m (setR vs o ws) (xs.take o ++ ys ++ xs.drop (o + ys.length)) := by
  unfold setR
  rw [h2.length]
  exact ((h1.take o).append h2).append (h1.drop _)

/-- What a store of cells does to the real block, and to the abstract one. -/
theorem HR.put {i r sh e q : Nat} {vs ws : List V} {ys : List Value} {ty : Nat} {opn : Bool} {fz : Option Nat} (hr : HR P m h w) (hg : h.get i = some (.cells vs ty opn false fz)) (hm : m i = some (r, sh, e))
    (hq : q + ws.length ≤ vs.length) (hw : VRL m ws ys) (h1 : ws.all V.one = true) (hf : fzFree fz q = true) :
    ∃ w', (storeCells ⟨r, sh + q, none⟩ ys).run P w = .ok () w' ∧ HR P m (h.set i (.cells (setR vs q ws) ty opn false fz)) w' ∧ Ext m h w m (h.set i (.cells (setR vs q ws) ty opn false fz)) w' := by
  obtain ⟨c, fzr, g1, g2, g3, g4, g5⟩ := hr.cells hg hm
  have hone : ∀ y ∈ ys, y.oneCell' = true := by
    intro y hy
    obtain ⟨j, hj, rfl⟩ := List.getElem_of_mem hy
    have hjw : j < ws.length := by rw [← hw.length]; exact hj
    obtain ⟨z, hz, hzr⟩ := hw.get (i := j) (v := ws[j]) (by simp [hjw])
    have : ys[j] = z := by simpa [hj] using hz
    rw [this]
    exact VR.one hzr (List.all_eq_true.1 h1 _ (List.getElem_mem hjw))
  have hfree : ∀ j, sh + q + 0 ≤ j → j < sh + q + 0 + ys.length → ¬ (fzr.1 ≤ j ∧ j < fzr.2) := by
    intro j hj1 hj2 ⟨hj3, hj4⟩
    rw [hw.length] at hj2
    cases fz with
    | none => simp only [FzOK] at g5; subst g5; simp at hj4
    | some f =>
      simp only [fzFree, decide_eq_true_eq] at hf
      simp only [FzOK] at g5
      have g6 := g5.2 j hj3 hj4
      split at g6 <;> omega
  obtain ⟨w', c', e1, e2, e3⟩ := run_storeCells (P := P) ys 0 c w g1 hone (by rw [hw.length]; omega) hfree
  refine ⟨w', e1, ?_⟩
  have hlen : (c'.toList).length = c.toList.length := by
    rw [e3]; simp; rw [hw.length]; omega
  refine hr.set hg rfl hm e2 ?_
  refine ⟨c', fzr, rfl, ?_, ?_, ?_⟩
  · rw [length_setR _ _ _ hq, e3]
    have hl := hw.length
    have : ((c.toList.take (sh + q + 0) ++ ys ++ c.toList.drop (sh + q + 0 + ys.length)).drop sh).take vs.length = ((c.toList.drop sh).take vs.length).take q ++ ys ++ ((c.toList.drop sh).take vs.length).drop (q + ys.length) := by
      refine List.ext_getElem? fun j => ?_
      rw [List.getElem?_take]
      rw [getElem?_splice _ _ q j (by simp; omega)]
      by_cases hj : j < vs.length
      · rw [if_pos hj, List.getElem?_drop, getElem?_splice c.toList ys (sh + q + 0) (sh + j) (by simp; omega)]
        simp only [List.getElem?_take, List.getElem?_drop, hj, if_true, Nat.add_zero]
        by_cases a1 : j < q
        · rw [if_pos (by omega), if_pos a1]
        · rw [if_neg (by omega), if_neg a1]
          by_cases a2 : j < q + ys.length
          · rw [if_pos (by omega), if_pos a2]; congr 1; omega
          · rw [if_neg (by omega), if_neg a2]
      · rw [if_neg hj, if_neg (by omega), if_neg (by omega), List.getElem?_take, if_neg hj]
    rw [this]
    exact g2.splice hw
  · rw [length_setR _ _ _ hq]
    have : c'.size = c.size := by simpa using hlen
    rw [this]; exact g4
  · have : c'.size = c.size := by simpa using hlen
    rw [this]; exact g5

theorem putCells_sound {i r sh e q : Nat} {ws : List V} {ys : List Value} {h' : H} (hr : HR P m h w) (hm : m i = some (r, sh, e)) (hw : VRL m ws ys) (hp : putCells h i q ws = some h') :
    ∃ w', (storeCells ⟨r, sh + q, none⟩ ys).run P w = .ok () w' ∧ HR P m h' w' ∧ Ext m h w m h' w' := by
  unfold putCells at hp
  split at hp
  · rename_i he
    cases hp
    have : ws = [] := by simpa using he
    subst this
    cases hw
    exact ⟨w, by simp [storeCells], hr, Ext.refl _ _ _⟩
  · split at hp
    · rename_i vs ty opn fz hg
      split at hp <;> cases hp
      rename_i hc
      exact hr.put hg hm hc.1 hw hc.2.1 hc.2.2
    · cases hp

theorem snd_store (cx : Cx P m h w T a) {t : TypeId} {x y : Operand} (ho : o.op = .store t x y) (hc : cK P (.store t x y) = some k) : Snd P m h w T a o k := by
  intro r hr
  simp only [cK] at hc
  split at hc <;> cases hc
  rename_i x' y' s h1 h2 h3
  simp only [evK] at hr
  split at hr
  · rename_i i q v e1 e2
    obtain ⟨R, sh, ex, hm, hx⟩ := cx.av h1 e1
    have hv := cx.av h2 e2
    split at hr
    · rename_i hs
      cases hp : putCells h i q v.cells with
      | none => simp [hp] at hr
      | some h' =>
        simp [hp] at hr; subst hr
        have hcs := VR.cells hv
        obtain ⟨w', e3, e4, e5⟩ := putCells_sound cx.hr hm hcs hp
        refine ⟨m, w', undef, e4, e5, ⟨[], rfl, rfl⟩, .inr ⟨?_, rfl⟩⟩
        have hsz : (a.eval y).cells.size = s := by rw [← Array.length_toList, hcs.length]; exact hs
        rw [show execOp a.eval o = (do Instr.storeAt t (a.eval x) (a.eval y); pure Next.skip) by simp [execOp, ho], hx]
        simp [Instr.storeAt, Instr.sureAddr, storeVar, hsz, run_sizeOf h3, e3]
    · cases hr
  · cases hr
end Go.AM
