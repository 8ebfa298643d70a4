/- My own text of the evaluator and its soundness (abstract machine), laid for this claim. -/
import Derived.Test.YtnfeioifkhoikaaGreatDoorAmE
/-! Soundness, II: what the machine's small words come to. -/
namespace Go.AM
variable {P : Program} {m : Mp} {h : H} {w : World}

theorem run_underlying {t : TypeId} {d : TypeDesc} (hd : P.underlying t = some d) (w : World) : (underlying t).run P w = .ok d w := by
  simp [underlying, hd]
theorem run_typeInfo {t : TypeId} {i : TypeInfo} (hi : P.info? t = some i) (w : World) : (typeInfo t).run P w = .ok i w := by
  simp [typeInfo, hi]
theorem sizeT_spec {t : TypeId} {s : Nat} (hs : sizeT P t = some s) : ∃ i d, P.info? t = some i ∧ P.underlying t = some d ∧ i.size = s := by
  unfold sizeT at hs
  split at hs
  · rename_i i d h1 h2; cases hs; exact ⟨i, d, h1, h2, rfl⟩
  · cases hs
theorem sizeT_cells {t : TypeId} {s : Nat} (hs : sizeT P t = some s) : P.cellsOf t = s := by
  obtain ⟨i, d, h1, _, h3⟩ := sizeT_spec hs
  simp [Program.cellsOf, h1, h3]
theorem run_sizeOf {t : TypeId} {s : Nat} (hs : sizeT P t = some s) (w : World) : (sizeOf t).run P w = .ok s w := by
  obtain ⟨i, d, h1, h2, h3⟩ := sizeT_spec hs
  simp [sizeOf, run_typeInfo h1, h3]
theorem run_isAgg {t : TypeId} {d : TypeDesc} (hd : P.underlying t = some d) (w : World) : (isAgg t).run P w = .ok (aggT P t) w := by
  simp only [isAgg, Sem.run_bind, run_underlying hd, Result.andThen_ok, aggT, hd]
  cases d <;> rfl
theorem run_isAgg' {t : TypeId} {s : Nat} (hs : sizeT P t = some s) (w : World) : (isAgg t).run P w = .ok (aggT P t) w := by
  obtain ⟨i, d, h1, h2, h3⟩ := sizeT_spec hs
  exact run_isAgg h2 w

/-! ### constants -/
theorem mapM_VRL {d : Nat} (ih : ∀ (x : Value) (v : V), vOf d x = some v → VR m v x) : ∀ (xs : List Value) (vs : List V), xs.mapM (vOf d) = some vs → VRL m vs xs
  | [], vs, h => by simp at h; subst h; rfl
  | x :: xs, vs, h => by
    rw [List.mapM_cons] at h
    cases hx : vOf d x with
    | none => simp [hx] at h
    | some v =>
      cases hxs : xs.mapM (vOf d) with
      | none => simp [hx, hxs] at h
      | some vs' =>
        simp [hx, hxs] at h
        subst h
        exact VRL.cons (ih x v hx) (mapM_VRL ih xs vs' hxs)

theorem vOf_sound : ∀ (d : Nat) (x : Value) (v : V), vOf d x = some v → VR m v x
  | 0, _, _, h => by simp [vOf] at h
  | d + 1, x, v, h => by
    unfold vOf at h
    split at h
    case h_1 => cases h; rfl
    case h_2 => cases h; rfl
    case h_3 s => cases h; cases s; simp [VR]
    case h_4 => cases h; rfl
    case h_5 => cases h; simp [VR]
    case h_6 => cases h; rfl
    case h_7 => cases h; rfl
    case h_8 => cases h; rfl
    case h_9 t y =>
      cases hy : vOf d y with
      | none => simp [hy] at h
      | some u => simp [hy] at h; subst h; exact ⟨y, vOf_sound d y u hy, rfl⟩
    case h_10 cs =>
      cases hy : cs.toList.mapM (vOf d) with
      | none => rw [hy] at h; cases h
      | some u => rw [hy] at h; cases h; exact ⟨cs.toList, mapM_VRL (vOf_sound d) _ _ hy, rfl⟩
    case h_11 cs =>
      cases hy : cs.toList.mapM (vOf d) with
      | none => rw [hy] at h; cases h
      | some u => rw [hy] at h; cases h; exact ⟨cs.toList, mapM_VRL (vOf_sound d) _ _ hy, rfl⟩
    case h_12 f fs cs =>
      split at h
      · rename_i a b ha hb
        cases h
        exact ⟨fs.toList, cs.toList, mapM_VRL (vOf_sound d) _ _ ha, mapM_VRL (vOf_sound d) _ _ hb, rfl⟩
      · cases h
    case h_13 => cases h

theorem evA {T : List V} {a : Act} {x : Operand} {y : A} {v : V} (hT : TR m T a.tmps) (hg : ∀ g, g < P.globals.size → m g = some (g, 0, 0))
    (hc : cA P x = some y) (hv : y.ev T = some v) : VR m v (a.eval x) := by
  cases x with
  | tmp t =>
    simp [cA] at hc; subst hc
    obtain ⟨z, h1, h2⟩ := VRL.get hT hv
    simp only [Act.eval]
    have : a.tmps.getD t undef = z := by
      rw [Array.getElem?_toList] at h1
      simp [Array.getD_eq_getD_getElem?, h1]
    rw [this]; exact h2
  | const c =>
    simp only [cA] at hc
    cases hy : vOf 64 c with
    | none => simp [hy] at hc
    | some u =>
      simp [hy] at hc; subst hc
      simp [A.ev] at hv; subst hv
      exact vOf_sound 64 c u hy
  | global g =>
    simp only [cA] at hc
    split at hc
    · rename_i hlt
      cases hc
      simp [A.ev] at hv; subst hv
      exact ⟨g, 0, 0, hg g hlt, rfl⟩
    · cases hc
  | func f =>
    simp [cA] at hc; subst hc
    simp [A.ev] at hv; subst hv
    exact ⟨[], [], rfl, rfl, rfl⟩

theorem evAs {T : List V} {a : Act} (hT : TR m T a.tmps) (hg : ∀ g, g < P.globals.size → m g = some (g, 0, 0)) : ∀ {xs : List Operand} {ys : List A} {vs : List V},
    cAs P xs = some ys → evs T ys = some vs → VRL m vs (xs.map a.eval)
  | [], ys, vs, hc, hv => by simp [cAs] at hc; subst hc; simp [evs] at hv; subst hv; rfl
  | x :: xs, ys, vs, hc, hv => by
    simp only [cAs] at hc
    split at hc
    · rename_i y l h1 h2
      cases hc
      simp only [evs] at hv
      split at hv
      · rename_i v vs' h3 h4
        cases hv
        exact VRL.cons (evA hT hg h1 h3) (evAs hT hg h2 h4)
      · cases hv
    · cases hc

/-- What an optional operand comes to. -/
def OptR (m : Mp) (v : Option V) (x : Option Value) : Prop :=
  match v with
  | none => x = none
  | some u => ∃ z, x = some z ∧ VR m u z

theorem evAo {T : List V} {a : Act} (hT : TR m T a.tmps) (hg : ∀ g, g < P.globals.size → m g = some (g, 0, 0)) {x : Option Operand} {y : Option A} {v : Option V}
    (hc : cAo P x = some y) (hv : evo T y = some v) : OptR m v (x.map a.eval) := by
  cases x with
  | none => simp [cAo] at hc; subst hc; simp [evo] at hv; subst hv; rfl
  | some x =>
    simp only [cAo] at hc
    cases h1 : cA P x with
    | none => simp [h1] at hc
    | some z =>
      simp [h1] at hc; subst hc
      simp only [evo] at hv
      split at hv
      · rename_i u hu; cases hv; exact ⟨a.eval x, rfl, evA hT hg h1 hu⟩
      · cases hv

/-! ### cells -/
theorem VR.one {v : V} {x : Value} (h : VR m v x) (ho : v.one = true) : x.oneCell' = true := by
  cases v with
  | bool b => cases h; rfl
  | int k n => cases h; rfl
  | str s => cases h; rfl
  | ptr a => cases a with
    | none => cases h; rfl
    | some a => obtain ⟨r, sh, e, _, rfl⟩ := h; rfl
  | slice a l c o => cases a with
    | none => cases h; rfl
    | some a => obtain ⟨r, sh, e, ad, _, rfl, _⟩ := h; rfl
  | map a => cases a with
    | none => cases h; rfl
    | some a => obtain ⟨r, sh, e, _, rfl⟩ := h; rfl
  | func f fs cs => obtain ⟨xs, ys, _, _, rfl⟩ := h; rfl
  | yield l => obtain ⟨r, sh, e, _, rfl⟩ := h; rfl
  | nilFunc => cases h; rfl
  | iface t v => obtain ⟨y, _, rfl⟩ := h; rfl
  | nilIface => cases h; rfl
  | agg cs => simp [V.one] at ho
  | tup cs => simp [V.one] at ho
  | junk => exact h.1

theorem VR.cells {v : V} {x : Value} (h : VR m v x) : VRL m v.cells x.cells.toList := by
  cases v with
  | agg cs => obtain ⟨ys, h1, rfl⟩ := h; simpa [V.cells, Value.cells] using h1
  | tup cs =>
    have h0 := h
    obtain ⟨ys, h1, rfl⟩ := h
    exact VRL.one h0
  | _ =>
    have h0 := h
    have ho := VR.one h rfl
    have hx : x.cells = #[x] := by cases x <;> first | rfl | simp [Value.oneCell'] at ho
    rw [hx]
    exact VRL.one h0

theorem cell_at {r o : Nat} {c : Array Value} {ty : TypeId} {fz : Nat × Nat} (hb : w.heap[r]? = some (.cells c ty fz)) : w.cell? ⟨r, o, none⟩ = c[o]? := by
  simp [World.cell?, hb]

theorem run_loadCellsFrom {r o : Nat} {c : Array Value} {ty : TypeId} {fz : Nat × Nat} (hb : w.heap[r]? = some (.cells c ty fz)) :
    ∀ (n i : Nat) (acc : Array Value), o + i + n ≤ c.size → (loadCellsFrom ⟨r, o, none⟩ i n acc).run P w = .ok (acc ++ ((c.toList.drop (o + i)).take n).toArray) w
  | 0, i, acc, _ => by simp [loadCellsFrom]
  | n + 1, i, acc, hn => by
    have hlt : o + i < c.size := by omega
    have hadd : Addr.add ⟨r, o, none⟩ i = ⟨r, o + i, none⟩ := by unfold Addr.add; split <;> simp_all
    have hc : w.cell? ⟨r, o + i, none⟩ = some c[o + i] := by rw [cell_at hb]; simp [hlt]
    simp only [loadCellsFrom, Sem.run_bind, run_load, hadd, hc, Result.andThen_ok]
    rw [run_loadCellsFrom hb n (i + 1) _ (by omega)]
    congr 1
    have hd : c.toList.drop (o + i) = c[o + i] :: c.toList.drop (o + (i + 1)) := by
      rw [← Array.getElem_toList hlt, show o + (i + 1) = (o + i) + 1 by omega]; exact List.drop_eq_getElem_cons (by simpa using hlt)
    rw [hd, List.take_succ_cons]
    simp
theorem run_loadCells {r o n : Nat} {c : Array Value} {ty : TypeId} {fz : Nat × Nat} (hb : w.heap[r]? = some (.cells c ty fz)) (hn : o + n ≤ c.size) :
    (loadCells ⟨r, o, none⟩ n).run P w = .ok ((c.toList.drop o).take n).toArray w := by
  simp only [loadCells]
  rw [run_loadCellsFrom hb n 0 #[] (by omega)]
  simp
theorem run_loadCells_zero (a : Addr) (w : World) : (loadCells a 0).run P w = .ok #[] w := by simp [loadCells, loadCellsFrom]

theorem getElem?_splice {α : Type} (l xs : List α) (k j : Nat) (hk : k + xs.length ≤ l.length) :
    (l.take k ++ xs ++ l.drop (k + xs.length))[j]? = if j < k then l[j]? else if j < k + xs.length then xs[j - k]? else l[j]? := by
  have h1 : (l.take k).length = k := by simp; omega
  by_cases hj : j < k
  · rw [if_pos hj, List.append_assoc, List.getElem?_append_left (by omega)]
    rw [List.getElem?_take, if_pos hj]
  · rw [if_neg hj, List.append_assoc, List.getElem?_append_right (by omega), h1]
    by_cases hj2 : j < k + xs.length
    · rw [if_pos hj2, List.getElem?_append_left (by omega)]
    · rw [if_neg hj2, List.getElem?_append_right (by omega), List.getElem?_drop]
      congr 1; omega

theorem run_storeCells {r o : Nat} {ty : TypeId} {fz : Nat × Nat} : ∀ (xs : List Value) (i : Nat) (c : Array Value) (w : World),
    w.heap[r]? = some (.cells c ty fz) → (∀ x ∈ xs, x.oneCell' = true) → o + i + xs.length ≤ c.size → (∀ j, o + i ≤ j → j < o + i + xs.length → ¬ (fz.1 ≤ j ∧ j < fz.2)) →
    ∃ w' c', (storeCells ⟨r, o, none⟩ xs i).run P w = .ok () w' ∧ Upd w r (.cells c' ty fz) w' ∧ c'.toList = c.toList.take (o + i) ++ xs ++ c.toList.drop (o + i + xs.length)
  | [], i, c, w, hb, _, _, _ => by
    refine ⟨w, c, by simp [storeCells], ⟨rfl, hb, fun _ _ => rfl, rfl, rfl, rfl, Nat.le_refl _⟩, ?_⟩
    simp
  | x :: xs, i, c, w, hb, h1, h2, h3 => by
    simp only [List.length_cons] at h2 h3
    have hlt : o + i < c.size := by omega
    have hadd : Addr.add ⟨r, o, none⟩ i = ⟨r, o + i, none⟩ := by unfold Addr.add; split <;> simp_all
    have hc : w.cell? ⟨r, o + i, none⟩ = some c[o + i] := by rw [cell_at hb]; simp [hlt]
    have hf : w.frozen? ⟨r, o + i, none⟩ = false := by
      have := h3 (o + i) (by omega) (by omega)
      simp only [World.frozen?, hb]
      obtain ⟨lo, hi⟩ := fz
      simp only at this ⊢
      simp; omega
    have hrs : r < w.heap.size := by
      rcases Nat.lt_or_ge r w.heap.size with h | h
      · exact h
      · simp [Array.getElem?_eq_none h] at hb
    have hset : (w.setCell ⟨r, o + i, none⟩ x).heap[r]? = some (.cells (c.setIfInBounds (o + i) x) ty fz) := by
      simp [World.setCell, Array.getElem?_modify, hb]
    have h4 : ∀ j, o + (i + 1) ≤ j → j < o + (i + 1) + xs.length → ¬ (fz.1 ≤ j ∧ j < fz.2) := fun j hj1 hj2 => h3 j (by omega) (by omega)
    obtain ⟨w', c', hr, hu, hl⟩ := run_storeCells xs (i + 1) (c.setIfInBounds (o + i) x) (w.setCell ⟨r, o + i, none⟩ x) hset (fun y hy => h1 y (List.mem_cons_of_mem _ hy))
      (by rw [Array.size_setIfInBounds]; omega) h4
    refine ⟨w', c', ?_, ?_, ?_⟩
    · simp only [storeCells, Sem.run_bind, hadd, run_store P w _ _ _ (h1 x (List.mem_cons_self ..)), hc, hf, Bool.false_eq_true, if_false, Result.andThen_ok]
      exact hr
    · refine ⟨hu.size.trans (World.size_setCell _ _ _), hu.here, fun b hb' => ?_, hu.os, hu.output, hu.tape, hu.drawn⟩
      rw [hu.there b hb']
      simp [World.setCell, Array.getElem?_modify, Ne.symm hb']
    · rw [hl]
      refine List.ext_getElem? fun j => ?_
      have e1 : o + (i + 1) = o + i + 1 := by omega
      rw [e1]
      rw [getElem?_splice (c.setIfInBounds (o + i) x).toList xs (o + i + 1) j (by simp; omega)]
      rw [getElem?_splice c.toList (x :: xs) (o + i) j (by simp; omega)]
      simp only [Array.toList_setIfInBounds, List.getElem?_set, Array.length_toList]
      have e2 : (x :: xs).length = xs.length + 1 := rfl
      by_cases a1 : j < o + i
      · rw [if_pos (by omega), if_pos a1, if_neg (by omega)]
      · rw [if_neg a1]
        by_cases a2 : j = o + i
        · subst a2
          rw [if_pos (by omega), if_pos rfl, if_pos hlt, if_pos (by omega)]; simp
        · rw [if_neg (by omega)]
          by_cases a3 : j < o + i + 1 + xs.length
          · rw [if_pos a3, if_pos (by omega), show j - (o + i) = (j - (o + i + 1)) + 1 by omega, List.getElem?_cons_succ]
          · rw [if_neg a3, if_neg (by omega), if_neg (by omega)]
end Go.AM
