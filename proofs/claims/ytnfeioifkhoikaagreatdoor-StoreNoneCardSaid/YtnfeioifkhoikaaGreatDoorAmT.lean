/- My own text of the evaluator and its soundness (abstract machine), laid for this claim. -/
import Derived.Test.YtnfeioifkhoikaaGreatDoorAmS
/-! Soundness, XVI: functions, rounds. -/
namespace Go.AM
variable {P : Program} {ap : Ap}

theorem HR.off {m : Mp} {h : H} {w : World} {r : Nat} {ds : Option (List Deferred)} {ob : Go.Obj} (hr : HR P m h w) (hb : w.heap[r]? = some (.deferred ds)) : HR P m h { w with heap := w.heap.setIfInBounds r ob } := by
  refine ⟨hr.ok, hr.dom, hr.glob, fun i R sh e hm => by simpa using hr.blk i R sh e hm, fun i o hg hl => ?_, hr.inj⟩
  obtain ⟨R, sh, e, ob', h1, h2, h3⟩ := hr.obj i o hg hl
  refine ⟨R, sh, e, ob', h1, ?_, h3⟩
  have hne : r ≠ R := by
    rintro rfl
    rw [hb] at h2
    cases h2
    cases o with
    | cells vs ty op ro fz => obtain ⟨c, fzr, hx, _⟩ := h3; cases hx
    | map es cl => obtain ⟨es', hx, _⟩ := h3; cases hx
    | mapIter a b c d => obtain ⟨_, q, hx, _⟩ := h3; cases hx
    | strIter s p => obtain ⟨_, hx⟩ := h3; cases hx
    | loop st pd T ps as b => obtain ⟨L, hx, _⟩ := h3; cases hx
    | dead => cases hl
  simp only
  rw [Array.getElem?_setIfInBounds_ne hne]
  exact h2

theorem leaves_marks {fn : Func} {tmps : Array Value} {R : Ending → World → Prop} {n : Nat} {m0 m : Mp} {h0 h : H} {w0 : World} : ∀ (rs : List Nat) (ds : List Deferred) (w : World), ds.map (·.target) = rs.map Target.collected → rs.Nodup →
    (∀ r ∈ rs, w0.heap.size ≤ r ∧ w.heap[r]? = some (.deferred (some []))) → HR P m h w → Ext m0 h0 w0 m h w →
    (∀ w', HR P m h w' → Ext m0 h0 w0 m h w' → LeavesIn (FF none) n P fn tmps R [] .returning w') → LeavesInM (FF none) n P fn tmps R ds .returning w
  | [], ds, w, h1, _, _, h4, h5, h6 => by
    cases ds with
    | nil => exact h6 w h4 h5
    | cons d ds => simp at h1
  | r :: rs, ds, w, h1, h2, h3, h4, h5, h6 => by
    cases ds with
    | nil => simp at h1
    | cons d ds =>
      simp only [List.map_cons, List.cons.injEq] at h1
      obtain ⟨h1a, h1b⟩ := h1
      obtain ⟨hnm, hnd⟩ := List.nodup_cons.1 h2
      obtain ⟨k1, k2⟩ := h3 r (List.mem_cons_self)
      refine ⟨by simp, .inl ⟨r, { w with heap := w.heap.setIfInBounds r (.deferred none) }, h1a, ?_, ?_⟩⟩
      · simp [Instr.takeDeferred, run_getObj (P := P) k2 (by intros; simp), run_setObj (P := P) k2 (ob' := .deferred none) (by intros; simp)]
      · refine leaves_marks rs ds _ h1b hnd (fun r' hr' => ?_) (h4.off k2) ?_ h6
        · obtain ⟨q1, q2⟩ := h3 r' (List.mem_cons_of_mem _ hr')
          refine ⟨q1, ?_⟩
          simp only
          rw [Array.getElem?_setIfInBounds_ne (by rintro rfl; exact hnm hr')]
          exact q2
        · refine ⟨h5.sub, h5.hsize, by simpa using h5.wsize, fun b hb hn => ?_, h5.own, h5.os, h5.output, h5.tape, h5.drawn⟩
          simp only
          rw [Array.getElem?_setIfInBounds_ne (by omega)]
          exact h5.frame b hb hn

def resOne (tmps : Array Value) : ResultVar → Sem Value
  | .tmp t => pure (tmps.getD t undef)
  | .cell a t => do loadVar t (← asAddr (tmps.getD a undef))

theorem run_resV {m : Mp} {h : H} {w : World} (hr : HR P m h w) {T : List V} {tmps : Array Value} (ht : TR m T tmps) : ∀ (rvs : List ResultVar) (rs : List RV) (vs : List V), cRV P rvs = some rs → resVs T h rs = some vs →
    ∃ xs, (rvs.mapM (resOne tmps)).run P w = .ok xs w ∧ VRL m vs xs
  | [], rs, vs, h1, h2 => by
    cases h1; cases h2
    exact ⟨[], rfl, rfl⟩
  | .tmp t :: r, rs, vs, h1, h2 => by
    simp only [cRV] at h1
    cases h3 : cRV P r with
    | none => simp [h3] at h1
    | some rs' =>
      simp [h3] at h1; subst h1
      simp only [resVs] at h2
      split at h2 <;> cases h2
      rename_i v vs' e1 e2
      obtain ⟨xs, k1, k2⟩ := run_resV hr ht r rs' vs' h3 e2
      simp only [resV] at e1
      obtain ⟨x, hx, hv⟩ := VRL.get ht e1
      rw [Array.getElem?_toList] at hx
      have hx' : tmps.getD t undef = x := by simp [Array.getD_eq_getD_getElem?, hx]
      refine ⟨x :: xs, ?_, VRL.cons hv k2⟩
      simp only [List.mapM_cons, resOne, Sem.run_bind, hx', Sem.run_pure, Result.andThen_ok]
      rw [k1]
      simp
  | .cell a t :: r, rs, vs, h1, h2 => by
    simp only [cRV] at h1
    split at h1 <;> cases h1
    rename_i s rs' h4 h3
    simp only [resVs] at h2
    split at h2 <;> cases h2
    rename_i v vs' e1 e2
    obtain ⟨xs, k1, k2⟩ := run_resV hr ht r rs' vs' h3 e2
    simp only [resV] at e1
    split at e1
    · rename_i i q hT
      obtain ⟨x, hx, hv⟩ := VRL.get ht hT
      obtain ⟨R, sh, ex, hm, rfl⟩ := hv
      rw [Array.getElem?_toList] at hx
      have hx' : tmps.getD a undef = .pointer (some ⟨R, sh + q, none⟩) := by simp [Array.getD_eq_getD_getElem?, hx]
      split at e1
      · rename_i cs ty op ro fz hg
        have hload : ∃ y, (loadVar t ⟨R, sh + q, none⟩).run P w = .ok y w ∧ VR m v y := by
          cases hagg : aggT P t with
          | true =>
            simp only [hagg, if_true] at e1
            split at e1 <;> cases e1
            rename_i hle
            obtain ⟨ys, y1, y2⟩ := hr.loadN hg hm hle
            exact ⟨.agg ys.toArray, by simp [loadVar, run_isAgg' h4, hagg, run_sizeOf h4, y1], ys, y2, rfl⟩
          | false =>
            simp only [hagg, Bool.false_eq_true, if_false] at e1
            obtain ⟨y, y1, y2⟩ := hr.load1 hg hm e1
            exact ⟨y, by simp [loadVar, run_isAgg' h4, hagg, y1], y2⟩
        obtain ⟨y, y1, y2⟩ := hload
        refine ⟨y :: xs, ?_, VRL.cons y2 k2⟩
        simp only [List.mapM_cons, resOne, Sem.run_bind, hx', asAddr, Sem.run_pure, Result.andThen_ok, y1]
        rw [k1]
        simp
      · cases e1
    · cases e1

theorem run_results {m : Mp} {h : H} {w : World} (hr : HR P m h w) {T : List V} {tmps : Array Value} (ht : TR m T tmps) {fn : Func} {rs : List RV} {vs : List V} (h1 : cRV P fn.results.toList = some rs) (h2 : resVs T h rs = some vs) :
    ∃ x, (results fn tmps).run P w = .ok x w ∧ VR m (oneOr vs) x := by
  obtain ⟨xs, k1, k2⟩ := run_resV hr ht _ _ _ h1 h2
  refine ⟨if h : xs.toArray.size = 1 then xs.toArray[0] else .tuple xs.toArray, ?_, ?_⟩
  · have hd : results fn tmps = (do
        let vs ← fn.results.mapM (resOne tmps)
        pure (if h : vs.size = 1 then vs[0] else .tuple vs)) := rfl
    rw [hd, Array.mapM_eq_mapM_toList]
    simp only [Sem.run_bind, Sem.run_map, k1, Result.andThen_ok]
    rfl
  · cases vs with
    | nil => cases k2; exact ⟨[], rfl, rfl⟩
    | cons v vs =>
      obtain ⟨y, ys, j1, j2, rfl⟩ := k2
      cases vs with
      | nil => cases j2; exact j1
      | cons u us =>
        obtain ⟨z, zs, i1, i2, rfl⟩ := j2
        exact ⟨_, VRL.cons j1 (VRL.cons i1 i2), by simp⟩
end Go.AM
