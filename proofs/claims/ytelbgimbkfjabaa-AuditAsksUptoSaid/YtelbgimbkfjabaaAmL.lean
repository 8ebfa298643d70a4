/- My own texts of the evaluator, its soundness and its symbolic runs, laid for this claim. -/
import Derived.Test.YtelbgimbkfjabaaAmJAmK
set_option linter.unusedSimpArgs false
set_option linter.unusedVariables false
/-! Soundness, VIII: new blocks. -/
namespace Go.AM
variable {P : Program} {m : Mp} {h : H} {w : World} {T : List V} {a : Act} {o : Oper} {k : K}

theorem OR.closed {vs : List V} {xs : List Value} {ty : TypeId} {ro : Bool} (hx : VRL m vs xs) : OR P m (.cells xs.toArray ty) 0 0 (.cells vs ty false ro none) := by
  refine ⟨xs.toArray, (0, 0), rfl, ?_, ?_, fun _ => rfl⟩
  · rw [List.drop_zero, ← hx.length]; simpa using hx
  · simp [hx.length]

theorem OR.opened {vs : List V} {xs rest : List Value} {ty : TypeId} {ro : Bool} {e : Nat} {fz : Option Nat} {fzr : Nat × Nat} (hx : VRL m vs xs) (he : e * P.cellsOf ty ≤ rest.length)
    (hf : FzOK fz 0 (xs ++ rest).length fzr) : OR P m (.cells (xs ++ rest).toArray ty fzr) 0 e (.cells vs ty true ro fz) := by
  refine ⟨(xs ++ rest).toArray, fzr, rfl, ?_, ?_, ?_⟩
  · rw [List.drop_zero, ← hx.length]; simpa using hx
  · simp [hx.length]; omega
  · intro _; simpa using hf

theorem zeroT_spec {t : TypeId} {z : V} (hz : zeroT P t = some z) : ∃ x, VR m z x ∧ ∀ w, (zeroValue t).run P w = .ok x w := by
  unfold zeroT at hz
  cases hi : P.info? t with
  | none => simp [hi] at hz
  | some i =>
    cases hx : i.zero with
    | none => simp [hi, hx] at hz
    | some x =>
      simp [hi, hx] at hz
      exact ⟨x, vOf_sound 64 x z hz, fun w => by simp [zeroValue, run_typeInfo hi, hx]⟩

theorem eff_new {vs : List V} {xs : List Value} {ty : TypeId} {h' : H} {v : V} {x : Value} {r : Result Next} (hr : HR P m h w) (hx : VRL m vs xs) (hp : h.push (.cells vs ty false false none) = some h')
    (hv : VR (upd m h.size (w.heap.size, 0, 0)) v x) (hrun : Yld r x { w with heap := w.heap.push (.cells xs.toArray ty) }) : ResOK P m h w r (.eff v h') := by
  obtain ⟨h1, h2⟩ := hr.push hp (New.alloc w (.cells xs.toArray ty)) (OR.closed hx)
  exact ⟨_, _, x, h1, h2, hv, hrun⟩

theorem snd_alloc (cx : Cx P m h w T a) {e : TypeId} (ho : o.op = .alloc e) (hc : cK P (.alloc e) = some k) : Snd P m h w T a o k := by
  intro r hr
  simp only [cK] at hc
  cases hz : zeroT P e with
  | none => simp [hz] at hc
  | some z =>
    simp [hz] at hc; subst hc
    simp only [evK] at hr
    split at hr <;> cases hr
    rename_i h' hp
    obtain ⟨x, hx, hrun⟩ := zeroT_spec (m := m) hz
    have hcs := VR.cells hx
    refine eff_new cx.hr hcs hp (x := .pointer (some ⟨w.heap.size, 0, none⟩)) ⟨_, _, _, upd_self _ _ _, rfl⟩ (.inl ?_)
    rw [show execOp a.eval o = (do pure (Next.value (← Instr.alloc e true (.tuple #[])))) by simp [execOp, ho]]
    simp [Instr.alloc, hrun, newVar, newRow]

theorem snd_box (cx : Cx P m h w T a) {e : TypeId} {x : Operand} (ho : o.op = .box e x) (hc : cK P (.box e x) = some k) : Snd P m h w T a o k := by
  intro r hr
  simp only [cK] at hc
  cases h1 : cA P x with
  | none => simp [h1] at hc
  | some y =>
    simp [h1] at hc; subst hc
    simp only [evK] at hr
    split at hr
    · rename_i v e1
      split at hr <;> cases hr
      rename_i h' hp
      have hcs := VR.cells (cx.av h1 e1)
      refine eff_new cx.hr hcs hp (x := .pointer (some ⟨w.heap.size, 0, none⟩)) ⟨_, _, _, upd_self _ _ _, rfl⟩ (.inl ?_)
      rw [show execOp a.eval o = (do pure (Next.value (← Instr.box e (a.eval x)))) by simp [execOp, ho]]
      simp [Instr.box, newVar, newRow]
    · cases hr

/-! ### literals -/
theorem foldl_set : ∀ (xs : List Value) (i off : Nat) (c : Array Value), off + i + xs.length ≤ c.size →
    ((xs.zipIdx i).foldl (fun (cs : Array Value) (x, j) => cs.setIfInBounds (off + j) x) c).toList = c.toList.take (off + i) ++ xs ++ c.toList.drop (off + i + xs.length)
  | [], i, off, c, _ => by simp
  | x :: xs, i, off, c, hn => by
    simp only [List.length_cons] at hn
    rw [List.zipIdx_cons, List.foldl_cons, foldl_set xs (i + 1) off _ (by rw [Array.size_setIfInBounds]; omega)]
    refine List.ext_getElem? fun j => ?_
    rw [show off + (i + 1) = off + i + 1 from by omega]
    rw [getElem?_splice (c.setIfInBounds (off + i) x).toList xs (off + i + 1) j (by simp; omega)]
    rw [getElem?_splice c.toList (x :: xs) (off + i) j (by simp; omega)]
    simp only [Array.toList_setIfInBounds, List.getElem?_set, Array.length_toList]
    have e2 : (x :: xs).length = xs.length + 1 := rfl
    by_cases a1 : j < off + i
    · rw [if_pos (by omega), if_pos a1, if_neg (by omega)]
    · rw [if_neg a1]
      by_cases a2 : j = off + i
      · subst a2
        rw [if_pos (by omega), if_pos rfl, if_pos (by omega), if_pos (by omega)]; simp
      · rw [if_neg (by omega)]
        by_cases a3 : j < off + i + 1 + xs.length
        · rw [if_pos a3, if_pos (by omega), show j - (off + i) = (j - (off + i + 1)) + 1 by omega, List.getElem?_cons_succ]
        · rw [if_neg a3, if_neg (by omega), if_neg (by omega)]

theorem fill_sound (cx : Cx P m h w T a) {f g : Nat → Option (Nat × Nat)} : ∀ (ps : List (Nat × Operand)) (qs : List (Nat × Nat × A)) (z cs : List V) (c : Array Value),
    (∀ i q, f i = some q → g i = some q) → cParts P f ps = some qs → VRL m z c.toList → fillV T z qs = some cs →
    ∃ c', Instr.fill g c (ps.map fun (i, x) => (i, a.eval x)) = some c' ∧ VRL m cs c'.toList
  | [], qs, z, cs, c, _, hc, hz, hf => by
    simp [cParts] at hc; subst hc
    simp [fillV] at hf; subst hf
    exact ⟨c, rfl, hz⟩
  | (i, x) :: ps, qs, z, cs, c, hfg, hc, hz, hf => by
    simp only [cParts] at hc
    split at hc <;> cases hc
    rename_i off s y l h1 h2 h3
    simp only [fillV] at hf
    split at hf
    · rename_i v e1
      split at hf
      · rename_i hs
        have hv := cx.av h2 e1
        have hcs := VR.cells hv
        have hsz : (a.eval x).cells.size = s := by rw [← Array.length_toList, hcs.length]; exact hs.1
        have hzl : c.size = z.length := by rw [← Array.length_toList, hz.length]
        simp only [List.map_cons, Instr.fill, hfg i _ h1]
        have hcond : ((a.eval x).cells.size ≠ s || off + (a.eval x).cells.size > c.size) = false := by
          simp [hsz]; omega
        simp only [hcond, Bool.false_eq_true, if_false]
        refine fill_sound cx ps l _ cs _ hfg h3 ?_ hf
        have hfold := foldl_set (a.eval x).cells.toList 0 off c (by simp; omega)
        simp only [← Array.foldl_toList, Array.toList_zipIdx]
        rw [hfold]
        exact hz.splice hcs
      · cases hf
    · cases hf

theorem run_places (fs : Array Field) (hall : fs.toList.all (fun f => (sizeT P f.type).isSome) = true) (w : World) :
    (fs.mapM fun f => (do pure (f.offset, ← sizeOf f.type) : Sem (Nat × Nat))).run P w = .ok (fs.map fun f => (f.offset, (sizeT P f.type).getD 0)) w := by
  rw [Array.mapM_eq_mapM_toList]
  have : ∀ l : List Field, l.all (fun f => (sizeT P f.type).isSome) = true →
      (l.mapM fun f => (do pure (f.offset, ← sizeOf f.type) : Sem (Nat × Nat))).run P w = .ok (l.map fun f => (f.offset, (sizeT P f.type).getD 0)) w := by
    intro l
    induction l with
    | nil => intro _; rfl
    | cons f l ih =>
      intro hl
      simp only [List.all_cons, Bool.and_eq_true] at hl
      cases hs : sizeT P f.type with
      | none => simp [hs] at hl
      | some s =>
        have ih' := ih hl.2
        simp only [List.mapM_cons, Sem.run_bind, run_sizeOf hs, Result.andThen_ok, Sem.run_pure, ih', List.map_cons, hs, Option.getD_some]
  simp only [Sem.run_map, this _ hall, Result.andThen_ok]
  congr 1
  apply Array.ext'
  simp

theorem snd_build (cx : Cx P m h w T a) {t : TypeId} {parts : Array (Nat × Operand)} (ho : o.op = .build t parts) (hc : cK P (.build t parts) = some k) : Snd P m h w T a o k := by
  intro r hr
  have he : execOp a.eval o = (do pure (Next.value (← Instr.build t (parts.map fun (i, x) => (i, a.eval x))))) := by simp [execOp, ho]
  simp only [cK] at hc
  split at hc
  · rename_i fs z h1 h2
    split at hc
    · rename_i hall
      cases hps : cParts P (fun i => (fs[i]?).bind fun f => (sizeT P f.type).map fun s => (f.offset, s)) parts.toList with
      | none => simp [hps] at hc
      | some qs =>
        simp [hps] at hc; subst hc
        simp only [evK] at hr
        cases hf : fillV T z.cells qs with
        | none => simp [hf] at hr
        | some cs =>
          simp [hf] at hr; subst hr
          obtain ⟨x, hx, hrun⟩ := zeroT_spec (m := m) h2
          obtain ⟨c', e1, e2⟩ := fill_sound cx (g := fun i => (fs.map fun f => (f.offset, (sizeT P f.type).getD 0))[i]?) _ _ _ _ _ (fun i q hq => by
            cases hfi : fs[i]? with
            | none => simp [hfi] at hq
            | some f =>
              cases hs : sizeT P f.type with
              | none => simp [hfi, hs] at hq
              | some s => simp [hfi, hs] at hq; simp [hfi, hs, hq]) hps (VR.cells hx) hf
          refine pur_val (x := .agg c') ?_ ⟨_, e2, rfl⟩ he
          simp only [Instr.build, Sem.run_bind, hrun, Result.andThen_ok, run_underlying h1, run_places fs hall w]
          rw [Array.toList_map, e1]
          rfl
    · cases hc
  · rename_i n e z h1 h2
    split at hc
    · rename_i s hs
      cases hps : cParts P (fun i => some (i * s, s)) parts.toList with
      | none => simp [hps] at hc
      | some qs =>
        simp [hps] at hc; subst hc
        simp only [evK] at hr
        cases hf : fillV T z.cells qs with
        | none => simp [hf] at hr
        | some cs =>
          simp [hf] at hr; subst hr
          obtain ⟨x, hx, hrun⟩ := zeroT_spec (m := m) h2
          obtain ⟨c', e1, e2⟩ := fill_sound cx (g := fun i => some (i * s, s)) _ _ _ _ _ (fun i q hq => hq) hps (VR.cells hx) hf
          refine pur_val (x := .agg c') ?_ ⟨_, e2, rfl⟩ he
          simp only [Instr.build, Sem.run_bind, hrun, Result.andThen_ok, run_underlying h1, run_sizeOf hs]
          rw [Array.toList_map, e1]
          rfl
    · cases hc
  · cases hc

theorem VRL.flatten {zs : List V} {xs : List Value} (h : VRL m zs xs) : ∀ n, VRL m (List.replicate n zs).flatten (List.replicate n xs).flatten
  | 0 => VRL.nil
  | n + 1 => by simp only [List.replicate_succ, List.flatten_cons]; exact h.append (VRL.flatten h n)

theorem range_mod (xs : Array Value) : ∀ n, ((Array.range (n * xs.size)).map (fun i => xs[i % xs.size]!)).toList = (List.replicate n xs.toList).flatten := by
  intro n
  rw [Array.toList_map, Array.toList_range]
  induction n with
  | zero => simp
  | succ n ih =>
    rw [show (n + 1) * xs.size = n * xs.size + xs.size from by rw [Nat.succ_mul], List.range_add, List.map_append, ih, List.replicate_succ', List.flatten_append]
    congr 1
    rw [List.map_map]
    simp only [List.flatten_cons, List.flatten_nil, List.append_nil]
    refine List.ext_getElem (by simp) fun i h1 h2 => ?_
    have hi : i < xs.size := by simpa using h1
    have hmod : (n * xs.size + i) % xs.size = i := by
      rw [Nat.add_comm, Nat.add_mul_mod_self_right, Nat.mod_eq_of_lt hi]
    simp [hmod, hi]

theorem snd_bslice (cx : Cx P m h w T a) {t : TypeId} {len : Nat} {parts : Array (Nat × Operand)} (ho : o.op = .buildSlice t len parts) (hc : cK P (.buildSlice t len parts) = some k) : Snd P m h w T a o k := by
  intro r hr
  simp only [cK] at hc
  split at hc
  · rename_i e h1
    split at hc
    · rename_i s z h2 h3
      split at hc
      · rename_i hl
        cases hps : cParts P (fun i => some (i * s, s)) parts.toList with
        | none => simp [hps] at hc
        | some qs =>
          simp [hps] at hc; subst hc
          simp only [evK] at hr
          split at hr
          · rename_i cs hf
            split at hr <;> cases hr
            rename_i h' hp
            obtain ⟨x, hx, hrun⟩ := zeroT_spec (m := m) h3
            have hcs := VR.cells hx
            have hxs : x.cells.size = s := by rw [← Array.length_toList, hcs.length]; exact hl.2
            have hz : VRL m (List.replicate len z.cells).flatten ((Array.range (len * s)).map (fun i => (if len * s = 0 then #[] else x.cells)[i % (if len * s = 0 then #[] else x.cells).size]!)).toList := by
              by_cases h0 : len * s = 0
              · rw [h0]
                have : (List.replicate len z.cells).flatten = [] := by
                  rcases Nat.mul_eq_zero.1 h0 with h' | h'
                  · simp [h']
                  · have : z.cells = [] := by rw [h'] at hl; exact List.length_eq_zero_iff.1 hl.2
                    simp [this]
                rw [this]; simp [VRL.nil]
              · simp only [if_neg h0]
                rw [← hxs, range_mod]
                exact VRL.flatten hcs len
            obtain ⟨c', e1, e2⟩ := fill_sound cx (g := fun i => some (i * s, s)) _ _ _ _ _ (fun i q hq => hq) hps hz hf
            refine eff_new cx.hr e2 hp (x := .slice (some ⟨w.heap.size, 0, none⟩) len len) ⟨_, _, _, _, upd_self _ _ _, rfl, .inl rfl⟩ (.inl ?_)
            rw [show execOp a.eval o = (do pure (Next.value (← Instr.buildSlice t len (parts.map fun (i, x) => (i, a.eval x))))) by simp [execOp, ho]]
            have hbig : ¬ (len * s > 2 ^ 24) := by omega
            simp only [Instr.buildSlice, Sem.run_bind, run_underlying h1, Result.andThen_ok, run_sizeOf h2, Sem.run_ite, hbig, if_false, Sem.run_pure]
            by_cases h0 : len * s = 0
            · simp only [h0, if_true] at e1 ⊢
              rw [Array.toList_map, e1]
              simp [newRow]
            · simp only [h0, if_false] at e1 ⊢
              simp only [hrun, Result.andThen_ok]
              rw [Array.toList_map, e1]
              simp [newRow]
          · cases hr
      · cases hc
    · cases hc
  · cases hc

theorem snd_makeMap (cx : Cx P m h w T a) {t : TypeId} {res : Option Operand} (ho : o.op = .makeMap t res) (hc : cK P (.makeMap t res) = some k) : Snd P m h w T a o k := by
  intro r hr
  have key : ∀ h', h.push (.map [] 0) = some h' → (execOp a.eval o).run P w = .ok (.value (.map (some w.heap.size))) { w with heap := w.heap.push (.map #[] 0) } →
      ResOK P m h w ((execOp a.eval o).run P w) (.eff (.map (some h.size)) h') := fun h' hp hrun => by
    obtain ⟨h1, h2⟩ := cx.hr.push (e := 0) hp (New.alloc w (.map #[] 0)) ⟨#[], rfl, rfl⟩
    exact ⟨_, _, _, h1, h2, ⟨_, _, _, upd_self _ _ _, rfl⟩, .inl hrun⟩
  have he : execOp a.eval o = (do pure (Next.value (← Instr.makeMap t (res.map a.eval)))) := by simp [execOp, ho]
  simp only [cK] at hc
  split at hc
  · cases hc
    simp only [evK] at hr
    split at hr <;> cases hr
    rename_i hp
    exact key _ hp (by rw [he]; simp [Instr.makeMap])
  · rename_i kd n kt et h1
    cases hc
    simp only [evK] at hr
    split at hr <;> cases hr
    rename_i hp
    exact key _ hp (by rw [he]; simp [Instr.makeMap, Act.eval, run_underlying h1, asInt, asIntOf])
  · cases hc

theorem snd_makeSlice (cx : Cx P m h w T a) {t : TypeId} {l c : Operand} (ho : o.op = .makeSlice t l c) (hc : cK P (.makeSlice t l c) = some k) : Snd P m h w T a o k := by
  intro r hr
  simp only [cK] at hc
  split at hc
  · rename_i e l' c' h1 h2 h3
    split at hc
    · rename_i i z h4 h5
      split at hc <;> cases hc
      rename_i hzs
      simp only [evK] at hr
      split at hr
      · rename_i kl nl kc nc e1 e2
        split at hr
        · rename_i hb
          split at hr <;> cases hr
          rename_i h' hp
          have hl : a.eval l = .int kl nl := cx.av h2 e1
          have hcv : a.eval c = .int kc nc := cx.av h3 e2
          obtain ⟨x, hx, hrun⟩ := zeroT_spec (m := m) h5
          have hcs := VR.cells hx
          have hxs : x.cells.size = i.size := by rw [← Array.length_toList, hcs.length]; exact hzs
          have hi : P.info? e = some i := h4
          have hsz : (sizeOf e).run P w = .ok i.size w := by simp [sizeOf, run_typeInfo hi]
          obtain ⟨b0, b1, b2, b3⟩ := hb
          have hw : ∀ n : Int, 0 ≤ n → n ≤ 1099511627776 → IntKind.i64.wrap n = n := fun n h0 h1 => by
            have h2 : n % 18446744073709551616 = n := Int.emod_eq_of_lt h0 (by omega)
            simp [IntKind.wrap, IntKind.bits, IntKind.signed, h2]
            omega
          have hwl := hw nl b0 (by omega)
          have hwc := hw nc (by omega) b2
          have hbytes : (i.bytes : Int) * nc ≤ 281474976710656 := by rw [Int.mul_comm]; exact b3
          have hbytes' : (i.bytes : Int) * nl ≤ 281474976710656 := Int.le_trans (Int.mul_le_mul_of_nonneg_left b1 (Int.natCast_nonneg _)) hbytes
          refine eff_new cx.hr (xs := (List.replicate nc.toNat x.cells.toList).flatten) (VRL.flatten hcs _) hp (x := .slice (some ⟨w.heap.size, 0, none⟩) nl.toNat nc.toNat) ⟨_, _, _, _, upd_self _ _ _, rfl, .inl rfl⟩ (.inl ?_)
          rw [show execOp a.eval o = (do pure (Next.value (← Instr.makeSlice t (a.eval l) (a.eval c)))) by simp [execOp, ho], hl, hcv]
          have t1 : ¬ (nc < 0) := by omega
          have t2 : ¬ ((i.bytes : Int) * nc > 281474976710656) := by omega
          have t3 : ¬ (nl < 0) := by omega
          have t4 : ¬ (nl > nc) := by omega
          have hcond : (decide (nc < 0) || decide ((i.bytes : Int) * nc > 2 ^ 48) || decide (nl < 0) || decide (nl > nc)) = false := by simp [t1, t3, t4]; omega
          simp only [Instr.makeSlice, Sem.run_bind, run_underlying h1, Result.andThen_ok, asInt, asIntOf, Sem.run_pure, run_typeInfo hi, hwl, hwc]
          simp only [hcond, Bool.false_eq_true, if_false, Sem.run_bind, run_askRoom, Result.andThen_ok, hsz, Sem.run_ite]
          have harr : ∀ zs : Array Value, (nc.toNat * i.size = 0 → zs = #[]) → (nc.toNat * i.size ≠ 0 → zs = x.cells) →
              Array.map (fun j => zs[j % zs.size]!) (Array.range (nc.toNat * i.size)) = (List.replicate nc.toNat x.cells.toList).flatten.toArray := fun zs z1 z2 => by
            by_cases h0 : nc.toNat * i.size = 0
            · rw [h0]
              have : (List.replicate nc.toNat x.cells.toList).flatten = [] := by
                rcases Nat.mul_eq_zero.1 h0 with h' | h'
                · simp [h']
                · have : x.cells.toList = [] := by rw [← List.length_eq_zero_iff, Array.length_toList]; omega
                  simp [this]
              rw [this]; simp
            · rw [z2 h0, ← hxs]
              apply Array.ext'
              rw [range_mod]
          by_cases h0 : nc.toNat * i.size = 0
          · simp only [h0, if_true, Sem.run_pure, Result.andThen_ok, newRow, Sem.run_bind, run_newObj]
            rw [← h0, harr #[] (fun _ => rfl) (fun hn => absurd h0 hn)]
          · simp only [h0, if_false, hrun, Sem.run_pure, Result.andThen_ok, newRow, Sem.run_bind, run_newObj]
            rw [harr x.cells (fun hz => absurd hz h0) (fun _ => rfl)]
        · cases hr
      · cases hr
    · cases hc
  · cases hc
end Go.AM
