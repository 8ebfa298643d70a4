/- My own texts of the evaluator, its soundness and its symbolic runs, laid for this claim. -/
import Derived.Test.YtelbgimbkfjabaaAmE
import Derived.Laws.StructEq
import Derived.ChangeKeysEq
set_option linter.unusedSimpArgs false
set_option linter.unusedVariables false
/-! Soundness, II: what the machine's small words come to. -/
namespace Go.AM
variable {P : Program} {m : Mp} {h : H} {w : World}

theorem run_underlying {t : TypeId} {d : TypeDesc} (hd : P.underlying t = some d) (w : World) : (underlying t).run P w = .ok d w := by
  simp [underlying, hd]
theorem run_typeInfo {t : TypeId} {i : TypeInfo} (hi : P.info? t = some i) (w : World) : (typeInfo t).run P w = .ok i w := by
  simp [typeInfo, hi]
theorem sizeT_spec {t : TypeId} {s : Nat} (hs : sizeT P t = some s) : ∃ i d, P.info? t = some i ∧ P.underlying t = some d ∧ i.size = s := by
  unfold sizeT at hs
  split at hs
  · rename_i i d h1 h2; cases hs; exact ⟨i, d, h1, h2, rfl⟩
  · cases hs
theorem sizeT_cells {t : TypeId} {s : Nat} (hs : sizeT P t = some s) : P.cellsOf t = s := by
  obtain ⟨i, d, h1, _, h3⟩ := sizeT_spec hs
  simp [Program.cellsOf, h1, h3]
theorem run_sizeOf {t : TypeId} {s : Nat} (hs : sizeT P t = some s) (w : World) : (sizeOf t).run P w = .ok s w := by
  obtain ⟨i, d, h1, h2, h3⟩ := sizeT_spec hs
  simp [sizeOf, run_typeInfo h1, h3]
theorem run_isAgg {t : TypeId} {d : TypeDesc} (hd : P.underlying t = some d) (w : World) : (isAgg t).run P w = .ok (aggT P t) w := by
  simp only [isAgg, Sem.run_bind, run_underlying hd, Result.andThen_ok, aggT, hd]
  cases d <;> rfl
theorem run_isAgg' {t : TypeId} {s : Nat} (hs : sizeT P t = some s) (w : World) : (isAgg t).run P w = .ok (aggT P t) w := by
  obtain ⟨i, d, h1, h2, h3⟩ := sizeT_spec hs
  exact run_isAgg h2 w

/-! ### constants -/
theorem mapM_VRL {d : Nat} (ih : ∀ (x : Value) (v : V), vOf d x = some v → VR m v x) : ∀ (xs : List Value) (vs : List V), xs.mapM (vOf d) = some vs → VRL m vs xs
  | [], vs, h => by simp at h; subst h; rfl
  | x :: xs, vs, h => by
    rw [List.mapM_cons] at h
    cases hx : vOf d x with
    | none => simp [hx] at h
    | some v =>
      cases hxs : xs.mapM (vOf d) with
      | none => simp [hx, hxs] at h
      | some vs' =>
        simp [hx, hxs] at h
        subst h
        exact VRL.cons (ih x v hx) (mapM_VRL ih xs vs' hxs)

theorem vOf_sound : ∀ (d : Nat) (x : Value) (v : V), vOf d x = some v → VR m v x
  | 0, _, _, h => by simp [vOf] at h
  | d + 1, x, v, h => by
    unfold vOf at h
    split at h
    case h_1 => cases h; rfl
    case h_2 => cases h; rfl
    case h_3 s => cases h; cases s; simp [VR]
    case h_4 => cases h; rfl
    case h_5 => cases h; simp [VR]
    case h_6 => cases h; rfl
    case h_7 => cases h; rfl
    case h_8 => cases h; rfl
    case h_9 t y =>
      cases hy : vOf d y with
      | none => simp [hy] at h
      | some u => simp [hy] at h; subst h; exact ⟨y, vOf_sound d y u hy, rfl⟩
    case h_10 cs =>
      cases hy : cs.toList.mapM (vOf d) with
      | none => rw [hy] at h; cases h
      | some u => rw [hy] at h; cases h; exact ⟨cs.toList, mapM_VRL (vOf_sound d) _ _ hy, rfl⟩
    case h_11 cs =>
      cases hy : cs.toList.mapM (vOf d) with
      | none => rw [hy] at h; cases h
      | some u => rw [hy] at h; cases h; exact ⟨cs.toList, mapM_VRL (vOf_sound d) _ _ hy, rfl⟩
    case h_12 f fs cs =>
      split at h
      · rename_i a b ha hb
        cases h
        exact ⟨fs.toList, cs.toList, mapM_VRL (vOf_sound d) _ _ ha, mapM_VRL (vOf_sound d) _ _ hb, rfl⟩
      · cases h
    case h_13 => cases h

theorem evA {T : List V} {a : Act} {x : Operand} {y : A} {v : V} (hT : TR m T a.tmps) (hg : ∀ g, g < P.globals.size → m g = some (g, 0, 0))
    (hc : cA P x = some y) (hv : y.ev T = some v) : VR m v (a.eval x) := by
  cases x with
  | tmp t =>
    simp [cA] at hc; subst hc
    obtain ⟨z, h1, h2⟩ := VRL.get hT hv
    simp only [Act.eval]
    have : a.tmps.getD t undef = z := by
      rw [Array.getElem?_toList] at h1
      simp [Array.getD_eq_getD_getElem?, h1]
    rw [this]; exact h2
  | const c =>
    simp only [cA] at hc
    cases hy : vOf 64 c with
    | none => simp [hy] at hc
    | some u =>
      simp [hy] at hc; subst hc
      simp [A.ev] at hv; subst hv
      exact vOf_sound 64 c u hy
  | global g =>
    simp only [cA] at hc
    split at hc
    · rename_i hlt
      cases hc
      simp [A.ev] at hv; subst hv
      exact ⟨g, 0, 0, hg g hlt, rfl⟩
    · cases hc
  | func f =>
    simp [cA] at hc; subst hc
    simp [A.ev] at hv; subst hv
    exact ⟨[], [], rfl, rfl, rfl⟩

theorem evAs {T : List V} {a : Act} (hT : TR m T a.tmps) (hg : ∀ g, g < P.globals.size → m g = some (g, 0, 0)) : ∀ {xs : List Operand} {ys : List A} {vs : List V},
    cAs P xs = some ys → evs T ys = some vs → VRL m vs (xs.map a.eval)
  | [], ys, vs, hc, hv => by simp [cAs] at hc; subst hc; simp [evs] at hv; subst hv; rfl
  | x :: xs, ys, vs, hc, hv => by
    simp only [cAs] at hc
    split at hc
    · rename_i y l h1 h2
      cases hc
      simp only [evs] at hv
      split at hv
      · rename_i v vs' h3 h4
        cases hv
        exact VRL.cons (evA hT hg h1 h3) (evAs hT hg h2 h4)
      · cases hv
    · cases hc

def OptR (m : Mp) (v : Option V) (x : Option Value) : Prop :=
  match v with
  | none => x = none
  | some u => ∃ z, x = some z ∧ VR m u z

theorem evAo {T : List V} {a : Act} (hT : TR m T a.tmps) (hg : ∀ g, g < P.globals.size → m g = some (g, 0, 0)) {x : Option Operand} {y : Option A} {v : Option V}
    (hc : cAo P x = some y) (hv : evo T y = some v) : OptR m v (x.map a.eval) := by
  cases x with
  | none => simp [cAo] at hc; subst hc; simp [evo] at hv; subst hv; rfl
  | some x =>
    simp only [cAo] at hc
    cases h1 : cA P x with
    | none => simp [h1] at hc
    | some z =>
      simp [h1] at hc; subst hc
      simp only [evo] at hv
      split at hv
      · rename_i u hu; cases hv; exact ⟨a.eval x, rfl, evA hT hg h1 hu⟩
      · cases hv

/-! ### cells -/
theorem VR.one {v : V} {x : Value} (h : VR m v x) (ho : v.one = true) : x.oneCell' = true := by
  cases v with
  | bool b => cases h; rfl
  | int k n => cases h; rfl
  | str s => cases h; rfl
  | ptr a => cases a with
    | none => cases h; rfl
    | some a => obtain ⟨r, sh, e, _, rfl⟩ := h; rfl
  | slice a l c o => cases a with
    | none => cases h; rfl
    | some a => obtain ⟨r, sh, e, ad, _, rfl, _⟩ := h; rfl
  | map a => cases a with
    | none => cases h; rfl
    | some a => obtain ⟨r, sh, e, _, rfl⟩ := h; rfl
  | func f fs cs => obtain ⟨xs, ys, _, _, rfl⟩ := h; rfl
  | yield l => obtain ⟨r, sh, e, _, rfl⟩ := h; rfl
  | nilFunc => cases h; rfl
  | iface t v => obtain ⟨y, _, rfl⟩ := h; rfl
  | nilIface => cases h; rfl
  | agg cs => simp [V.one] at ho
  | tup cs => simp [V.one] at ho
  | junk => exact h.1

theorem VR.cells {v : V} {x : Value} (h : VR m v x) : VRL m v.cells x.cells.toList := by
  cases v with
  | agg cs => obtain ⟨ys, h1, rfl⟩ := h; simpa [V.cells, Value.cells] using h1
  | tup cs =>
    have h0 := h
    obtain ⟨ys, h1, rfl⟩ := h
    exact VRL.one h0
  | _ =>
    have h0 := h
    have ho := VR.one h rfl
    have hx : x.cells = #[x] := by cases x <;> first | rfl | simp [Value.oneCell'] at ho
    rw [hx]
    exact VRL.one h0

theorem cell_at {r o : Nat} {c : Array Value} {ty : TypeId} {fz : Nat × Nat} (hb : w.heap[r]? = some (.cells c ty fz)) : w.cell? ⟨r, o, none⟩ = c[o]? := by
  simp [World.cell?, hb]

theorem run_loadCellsFrom {r o : Nat} {c : Array Value} {ty : TypeId} {fz : Nat × Nat} (hb : w.heap[r]? = some (.cells c ty fz)) :
    ∀ (n i : Nat) (acc : Array Value), o + i + n ≤ c.size → (loadCellsFrom ⟨r, o, none⟩ i n acc).run P w = .ok (acc ++ ((c.toList.drop (o + i)).take n).toArray) w
  | 0, i, acc, _ => by simp [loadCellsFrom]
  | n + 1, i, acc, hn => by
    have hlt : o + i < c.size := by omega
    have hadd : Addr.add ⟨r, o, none⟩ i = ⟨r, o + i, none⟩ := by unfold Addr.add; split <;> simp_all
    have hc : w.cell? ⟨r, o + i, none⟩ = some c[o + i] := by rw [cell_at hb]; simp [hlt]
    simp only [loadCellsFrom, Sem.run_bind, run_load, hadd, hc, Result.andThen_ok]
    rw [run_loadCellsFrom hb n (i + 1) _ (by omega)]
    congr 1
    have hd : c.toList.drop (o + i) = c[o + i] :: c.toList.drop (o + (i + 1)) := by
      rw [← Array.getElem_toList hlt, show o + (i + 1) = (o + i) + 1 by omega]; exact List.drop_eq_getElem_cons (by simpa using hlt)
    rw [hd, List.take_succ_cons]
    simp
theorem run_loadCells {r o n : Nat} {c : Array Value} {ty : TypeId} {fz : Nat × Nat} (hb : w.heap[r]? = some (.cells c ty fz)) (hn : o + n ≤ c.size) :
    (loadCells ⟨r, o, none⟩ n).run P w = .ok ((c.toList.drop o).take n).toArray w := by
  simp only [loadCells]
  rw [run_loadCellsFrom hb n 0 #[] (by omega)]
  simp
theorem run_loadCells_zero (a : Addr) (w : World) : (loadCells a 0).run P w = .ok #[] w := by simp [loadCells, loadCellsFrom]

theorem getElem?_splice {α : Type} (l xs : List α) (k j : Nat) (hk : k + xs.length ≤ l.length) :
    (l.take k ++ xs ++ l.drop (k + xs.length))[j]? = if j < k then l[j]? else if j < k + xs.length then xs[j - k]? else l[j]? := by
  have h1 : (l.take k).length = k := by simp; omega
  by_cases hj : j < k
  · rw [if_pos hj, List.append_assoc, List.getElem?_append_left (by omega)]
    rw [List.getElem?_take, if_pos hj]
  · rw [if_neg hj, List.append_assoc, List.getElem?_append_right (by omega), h1]
    by_cases hj2 : j < k + xs.length
    · rw [if_pos hj2, List.getElem?_append_left (by omega)]
    · rw [if_neg hj2, List.getElem?_append_right (by omega), List.getElem?_drop]
      congr 1; omega

theorem run_storeCells {r o : Nat} {ty : TypeId} {fz : Nat × Nat} : ∀ (xs : List Value) (i : Nat) (c : Array Value) (w : World),
    w.heap[r]? = some (.cells c ty fz) → (∀ x ∈ xs, x.oneCell' = true) → o + i + xs.length ≤ c.size → (∀ j, o + i ≤ j → j < o + i + xs.length → ¬ (fz.1 ≤ j ∧ j < fz.2)) →
    ∃ w' c', (storeCells ⟨r, o, none⟩ xs i).run P w = .ok () w' ∧ Upd w r (.cells c' ty fz) w' ∧ c'.toList = c.toList.take (o + i) ++ xs ++ c.toList.drop (o + i + xs.length)
  | [], i, c, w, hb, _, _, _ => by
    refine ⟨w, c, by simp [storeCells], ⟨rfl, hb, fun _ _ => rfl, rfl, rfl, rfl, Nat.le_refl _⟩, ?_⟩
    simp
  | x :: xs, i, c, w, hb, h1, h2, h3 => by
    simp only [List.length_cons] at h2 h3
    have hlt : o + i < c.size := by omega
    have hadd : Addr.add ⟨r, o, none⟩ i = ⟨r, o + i, none⟩ := by unfold Addr.add; split <;> simp_all
    have hc : w.cell? ⟨r, o + i, none⟩ = some c[o + i] := by rw [cell_at hb]; simp [hlt]
    have hf : w.frozen? ⟨r, o + i, none⟩ = false := by
      have := h3 (o + i) (by omega) (by omega)
      simp only [World.frozen?, hb]
      obtain ⟨lo, hi⟩ := fz
      simp only at this ⊢
      simp; omega
    have hrs : r < w.heap.size := by
      rcases Nat.lt_or_ge r w.heap.size with h | h
      · exact h
      · simp [Array.getElem?_eq_none h] at hb
    have hset : (w.setCell ⟨r, o + i, none⟩ x).heap[r]? = some (.cells (c.setIfInBounds (o + i) x) ty fz) := by
      simp [World.setCell, Array.getElem?_modify, hb]
    have h4 : ∀ j, o + (i + 1) ≤ j → j < o + (i + 1) + xs.length → ¬ (fz.1 ≤ j ∧ j < fz.2) := fun j hj1 hj2 => h3 j (by omega) (by omega)
    obtain ⟨w', c', hr, hu, hl⟩ := run_storeCells xs (i + 1) (c.setIfInBounds (o + i) x) (w.setCell ⟨r, o + i, none⟩ x) hset (fun y hy => h1 y (List.mem_cons_of_mem _ hy))
      (by rw [Array.size_setIfInBounds]; omega) h4
    refine ⟨w', c', ?_, ?_, ?_⟩
    · simp only [storeCells, Sem.run_bind, hadd, run_store P w _ _ _ (h1 x (List.mem_cons_self ..)), hc, hf, Bool.false_eq_true, if_false, Result.andThen_ok]
      exact hr
    · refine ⟨hu.size.trans (World.size_setCell _ _ _), hu.here, fun b hb' => ?_, hu.os, hu.output, hu.tape, hu.drawn⟩
      rw [hu.there b hb']
      simp [World.setCell, Array.getElem?_modify, Ne.symm hb']
    · rw [hl]
      refine List.ext_getElem? fun j => ?_
      have e1 : o + (i + 1) = o + i + 1 := by omega
      rw [e1]
      rw [getElem?_splice (c.setIfInBounds (o + i) x).toList xs (o + i + 1) j (by simp; omega)]
      rw [getElem?_splice c.toList (x :: xs) (o + i) j (by simp; omega)]
      simp only [Array.toList_setIfInBounds, List.getElem?_set, Array.length_toList]
      have e2 : (x :: xs).length = xs.length + 1 := rfl
      by_cases a1 : j < o + i
      · rw [if_pos (by omega), if_pos a1, if_neg (by omega)]
      · rw [if_neg a1]
        by_cases a2 : j = o + i
        · subst a2
          rw [if_pos (by omega), if_pos rfl, if_pos hlt, if_pos (by omega)]; simp
        · rw [if_neg (by omega)]
          by_cases a3 : j < o + i + 1 + xs.length
          · rw [if_pos a3, if_pos (by omega), show j - (o + i) = (j - (o + i + 1)) + 1 by omega, List.getElem?_cons_succ]
          · rw [if_neg a3, if_neg (by omega), if_neg (by omega)]
end Go.AM
/-! Soundness, III: operations that look at no memory. -/
namespace Go.AM

def Yld (r : Result Next) (x : Value) (w' : World) : Prop := r = .ok (.value x) w' ∨ (r = .ok .skip w' ∧ x = undef)

def CallR (P : Program) (m : Mp) (w : World) (r : Result Next) (f : V) (args : List V) : Prop :=
  match f with
  | .func g fs cs => ∃ xs : List Value, VRL m (fs ++ args ++ cs) xs ∧ r = (callFunc g xs.toArray).run P w
  | .yield l => ∃ R sh e, ∃ xs : List Value, m l = some (R, sh, e) ∧ VRL m args xs ∧ r = (Instr.yield R xs.toArray).run P w
  | _ => True

def ResOK (P : Program) (m : Mp) (h : H) (w : World) (r : Result Next) : Res → Prop
  | .pur v => ∃ x, VR m v x ∧ Yld r x w
  | .rd v => ∃ x, VR m v x ∧ Yld r x w
  | .eff v h' => ∃ m' w' x, HR P m' h' w' ∧ Ext m h w m' h' w' ∧ VR m' v x ∧ Yld r x w'
  | .call f args => CallR P m w r f args

structure Cx (P : Program) (m : Mp) (h : H) (w : World) (T : List V) (a : Act) : Prop where
  tr : TR m T a.tmps
  hr : HR P m h w

def Snd (P : Program) (m : Mp) (h : H) (w : World) (T : List V) (a : Act) (o : Oper) (k : K) : Prop :=
  ∀ r, evK P T h k = some r → ResOK P m h w ((execOp a.eval o).run P w) r

variable {P : Program} {m : Mp} {h : H} {w : World} {T : List V} {a : Act} {o : Oper} {k : K}

theorem Cx.av (cx : Cx P m h w T a) {x : Operand} {y : A} {v : V} (hc : cA P x = some y) (hv : y.ev T = some v) : VR m v (a.eval x) := evA cx.tr cx.hr.glob hc hv
theorem Cx.avs (cx : Cx P m h w T a) {xs : List Operand} {ys : List A} {vs : List V} (hc : cAs P xs = some ys) (hv : evs T ys = some vs) : VRL m vs (xs.map a.eval) := evAs cx.tr cx.hr.glob hc hv

theorem pur_val {s : Sem Value} {v : V} {x : Value} (h1 : s.run P w = .ok x w) (hv : VR m v x) (he : execOp a.eval o = (do pure (Next.value (← s)))) :
    ResOK P m h w ((execOp a.eval o).run P w) (.pur v) := ⟨x, hv, .inl (by rw [he]; simp [h1])⟩
theorem rd_val {s : Sem Value} {v : V} {x : Value} (h1 : s.run P w = .ok x w) (hv : VR m v x) (he : execOp a.eval o = (do pure (Next.value (← s)))) :
    ResOK P m h w ((execOp a.eval o).run P w) (.rd v) := ⟨x, hv, .inl (by rw [he]; simp [h1])⟩

theorem snd_move (cx : Cx P m h w T a) {x : Operand} (ho : o.op = .move x ∨ o.op = .assign x) (hc : (cA P x).map K.mv = some k) : Snd P m h w T a o k := by
  intro r hr
  cases h1 : cA P x with
  | none => simp [h1] at hc
  | some y =>
    simp [h1] at hc; subst hc
    simp only [evK] at hr
    cases h2 : y.ev T with
    | none => simp [h2] at hr
    | some v =>
      simp [h2] at hr; subst hr
      refine ⟨a.eval x, cx.av h1 h2, .inl ?_⟩
      rcases ho with ho | ho <;> simp [execOp, ho]

theorem snd_pick (cx : Cx P m h w T a) {c x y : Operand} (ho : o.op = .pick c x y) (hc : cK P (.pick c x y) = some k) : Snd P m h w T a o k := by
  intro r hr
  simp only [cK] at hc
  split at hc <;> cases hc
  rename_i c' x' y' h1 h2 h3
  simp only [evK] at hr
  split at hr <;> cases hr
  rename_i b v u e1 e2 e3
  have hb : a.eval c = .bool b := cx.av h1 e1
  refine ⟨if b then a.eval x else a.eval y, ?_, .inl ?_⟩
  · cases b
    · exact cx.av h3 e3
    · exact cx.av h2 e2
  · simp [execOp, ho, hb, asBool]

theorem snd_nilck (cx : Cx P m h w T a) {x : Operand} (ho : o.op = .nilCheck x) (hc : cK P (.nilCheck x) = some k) : Snd P m h w T a o k := by
  intro r hr
  simp only [cK] at hc
  cases h1 : cA P x with
  | none => simp [h1] at hc
  | some y =>
    simp [h1] at hc; subst hc
    simp only [evK] at hr
    split at hr <;> cases hr
    rename_i v n1 n2 n3 n4 e
    have hv := cx.av h1 e
    refine ⟨a.eval x, hv, .inl ?_⟩
    have : (execOp a.eval o) = pure (.value (a.eval x)) := by
      simp only [execOp, ho]
      cases v with
      | ptr p => cases p with
        | none => exact absurd rfl (n1 · )
        | some p => obtain ⟨r, sh, e, _, hx⟩ := hv; rw [hx]
      | nilFunc => exact absurd rfl (n3 ·)
      | nilIface => exact absurd rfl (n2 ·)
      | bool b => rw [show a.eval x = _ from hv]
      | int k n => rw [show a.eval x = _ from hv]
      | str s => rw [show a.eval x = _ from hv]
      | slice p l c q => cases p with
        | none => rw [show a.eval x = _ from hv]
        | some p => obtain ⟨r, sh, e, ad, _, hx, _⟩ := hv; rw [hx]
      | map p => cases p with
        | none => rw [show a.eval x = _ from hv]
        | some p => obtain ⟨r, sh, e, _, hx⟩ := hv; rw [hx]
      | func f fs cs => obtain ⟨xs, ys, _, _, hx⟩ := hv; rw [hx]
      | yield l => obtain ⟨r, sh, e, _, hx⟩ := hv; rw [hx]
      | iface t u => obtain ⟨y, _, hx⟩ := hv; rw [hx]
      | agg cs => obtain ⟨ys, _, hx⟩ := hv; rw [hx]
      | tup cs => obtain ⟨ys, _, hx⟩ := hv; rw [hx]
      | junk => exact absurd rfl (n4 ·)
    rw [this]; rfl

theorem snd_un (cx : Cx P m h w T a) {op : UnOp} {t : TypeId} {x : Operand} (ho : o.op = .unOp op t x) (hc : cK P (.unOp op t x) = some k) : Snd P m h w T a o k := by
  intro r hr
  simp only [cK] at hc
  cases h1 : cA P x with
  | none => simp [h1] at hc
  | some y =>
    simp [h1] at hc; subst hc
    simp only [evK] at hr
    split at hr
    · rename_i v e
      have hv := cx.av h1 e
      cases hu : unV op v with
      | none => simp [hu] at hr
      | some u =>
        simp [hu] at hr; subst hr
        unfold unV at hu
        split at hu <;> cases hu
        · refine pur_val (s := Op.unary .neg (a.eval x)) ?_ rfl (by simp [execOp, ho])
          rw [show a.eval x = _ from hv]; simp [Op.unary, Op.intArith]
        · rename_i kd n
          refine pur_val (s := Op.unary .xor (a.eval x)) ?_ rfl (by simp [execOp, ho])
          rw [show a.eval x = _ from hv]; simp [Op.unary, Op.intBits]
        · refine pur_val (s := Op.unary .not (a.eval x)) ?_ rfl (by simp [execOp, ho])
          rw [show a.eval x = _ from hv]; simp [Op.unary]
    · cases hr

theorem snd_mkF (cx : Cx P m h w T a) {f : FuncId} {fs cs : Array Operand} (ho : o.op = .makeFunc (.func f) fs cs) (hc : cK P (.makeFunc (.func f) fs cs) = some k) : Snd P m h w T a o k := by
  intro r hr
  simp only [cK] at hc
  split at hc <;> cases hc
  rename_i fs' cs' h1 h2
  simp only [evK] at hr
  split at hr <;> cases hr
  rename_i vs us e1 e2
  refine pur_val (s := Instr.makeFunc (.func f) (fs.map a.eval) (cs.map a.eval)) (x := .func (.func f) (fs.map a.eval) (cs.map a.eval)) (by simp [Instr.makeFunc]) ?_ (by simp [execOp, ho])
  exact ⟨_, _, cx.avs h1 e1, cx.avs h2 e2, by rw [← Array.toList_map, ← Array.toList_map]⟩

theorem snd_mkI (cx : Cx P m h w T a) {t : TypeId} {x : Operand} (ho : o.op = .makeInterface t x) (hc : cK P (.makeInterface t x) = some k) : Snd P m h w T a o k := by
  intro r hr
  simp only [cK] at hc
  split at hc
  · cases hc
  · rename_i d y n h1 h2
    cases hc
    simp only [evK] at hr
    cases e : y.ev T with
    | none => simp [e] at hr
    | some v =>
      simp [e] at hr; subst hr
      refine pur_val (s := Instr.makeInterface t (a.eval x)) (x := .iface t (a.eval x)) ?_ ⟨_, cx.av h2 e, rfl⟩ (by simp [execOp, ho])
      simp only [Instr.makeInterface, Sem.run_bind, run_underlying h1, Result.andThen_ok]
      cases d <;> first | rfl | exact (n _ rfl).elim
  · cases hc

theorem snd_extract (cx : Cx P m h w T a) {x : Operand} {i : Nat} (ho : o.op = .extract x i) (hc : cK P (.extract x i) = some k) : Snd P m h w T a o k := by
  intro r hr
  simp only [cK] at hc
  cases h1 : cA P x with
  | none => simp [h1] at hc
  | some y =>
    simp [h1] at hc; subst hc
    simp only [evK] at hr
    split at hr
    · rename_i vs e
      obtain ⟨ys, hys, hx⟩ := cx.av h1 e
      cases hv : vs[i]? with
      | none => simp [hv] at hr
      | some v =>
        simp [hv] at hr; subst hr
        obtain ⟨z, hz, hr⟩ := hys.get hv
        exact pur_val (s := Instr.extract (a.eval x) i) (x := z) (by rw [hx]; simp [Instr.extract, hz]) hr (by simp [execOp, ho])
    · cases hr

/-! ### parts -/
theorem run_part {t : TypeId} {s : Nat} (hs : sizeT P t = some s) {cs : List V} {xs : List Value} (hc : VRL m cs xs) {off : Nat} {v : V} (hv : partV cs off s (aggT P t) = some v) :
    ∃ x, (part t xs.toArray off).run P w = .ok x w ∧ VR m v x := by
  simp only [part, Sem.run_bind, run_isAgg' hs, Result.andThen_ok, partV] at hv ⊢
  cases ha : aggT P t with
  | true =>
    simp only [ha, if_true] at hv ⊢
    cases hv
    refine ⟨.agg (xs.toArray.extract off (off + s)), by simp [run_sizeOf hs], ?_⟩
    refine ⟨(xs.drop off).take s, hc.range off s, ?_⟩
    congr 1
    apply Array.ext'
    simp [List.extract_eq_take_drop]
  | false =>
    simp only [ha, Bool.false_eq_true, if_false] at hv ⊢
    obtain ⟨x, hx, hr⟩ := hc.get hv
    exact ⟨x, by simp [hx], hr⟩

theorem snd_fld (cx : Cx P m h w T a) {t : TypeId} {x : Operand} {f : Nat} (ho : o.op = .field t x f) (hc : cK P (.field t x f) = some k) : Snd P m h w T a o k := by
  intro r hr
  simp only [cK] at hc
  split at hc
  · rename_i fs y h1 h2
    split at hc
    · rename_i fd h3
      cases h4 : sizeT P fd.type with
      | none => simp [h4] at hc
      | some s =>
        simp [h4] at hc; subst hc
        simp only [evK] at hr
        split at hr
        · rename_i cs e
          obtain ⟨ys, hys, hx⟩ := cx.av h2 e
          cases hv : partV cs fd.offset s (aggT P fd.type) with
          | none => simp [hv] at hr
          | some v =>
            simp [hv] at hr; subst hr
            obtain ⟨z, hz, hzr⟩ := run_part (w := w) h4 hys hv
            exact pur_val (s := Instr.field t (a.eval x) f) (x := z) (by rw [hx]; simp [Instr.field, run_underlying h1, h3, asAgg, hz]) hzr (by simp [execOp, ho])
        · cases hr
    · cases hc
  · cases hc

theorem snd_index (cx : Cx P m h w T a) {t : TypeId} {x i : Operand} (ho : o.op = .index t x i) (hc : cK P (.index t x i) = some k) : Snd P m h w T a o k := by
  intro r hr
  simp only [cK] at hc
  split at hc
  · rename_i n e y j h1 h2 h3
    cases h4 : sizeT P e with
    | none => simp [h4] at hc
    | some s =>
      simp [h4] at hc; subst hc
      simp only [evK] at hr
      split at hr
      · rename_i cs kd q e1 e2
        obtain ⟨ys, hys, hx⟩ := cx.av h2 e1
        have hi : a.eval i = .int kd q := cx.av h3 e2
        split at hr
        · rename_i hq
          cases hv : partV cs (q.toNat * s) s (aggT P e) with
          | none => simp [hv] at hr
          | some v =>
            simp [hv] at hr; subst hr
            obtain ⟨z, hz, hzr⟩ := run_part (w := w) h4 hys hv
            exact pur_val (s := Instr.index t (a.eval x) (a.eval i)) (x := z) (by rw [hx, hi]; simp [Instr.index, asIntOf, run_underlying h1, hq, run_sizeOf h4, hz]) hzr (by simp [execOp, ho])
        · cases hr
      · cases hr
  · rename_i y j h1 h2 h3
    cases hc
    simp only [evK] at hr
    split at hr
    · rename_i s kd q e1 e2
      have hx : a.eval x = .string ⟨s.toArray⟩ := cx.av h2 e1
      have hi : a.eval i = .int kd q := cx.av h3 e2
      split at hr
      · rename_i hq
        cases hv : s[q.toNat]? with
        | none => simp [hv] at hr
        | some b =>
          simp [hv] at hr; subst hr
          refine pur_val (s := Instr.index t (a.eval x) (a.eval i)) (x := .int .u8 b.toNat) ?_ rfl (by simp [execOp, ho])
          have hlt : q.toNat < s.length := by
            rcases Nat.lt_or_ge q.toNat s.length with h' | h'
            · exact h'
            · simp [List.getElem?_eq_none h'] at hv
          have hb : (⟨s.toArray⟩ : ByteArray)[q.toNat]? = some b := by
            rw [ByteArray.getElem?_lt' _ _ (by simpa [ByteArray.size] using hlt)]
            have : s[q.toNat]? = some s[q.toNat] := by simp [hlt]
            rw [this] at hv; cases hv; rfl
          rw [hx, hi]; simp [Instr.index, asIntOf, run_underlying h1, hq, hb]
      · cases hr
    · cases hr
  · cases hc
end Go.AM
