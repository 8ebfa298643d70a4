/- My own texts of the evaluator, its soundness and its symbolic runs, laid for this claim. -/
import Derived.Test.YtelbgimbkfjabaaAmFAmG
import Derived.Laws.Slices
set_option linter.unusedSimpArgs false
set_option linter.unusedVariables false
/-! Soundness, IV: numbers, texts, comparisons, addresses, slices. -/
namespace Go.AM
variable {P : Program} {m : Mp} {h : H} {w : World} {T : List V} {a : Act} {o : Oper} {k : K}

/-! ### equality -/
theorem run_eqFields_of {D : Nat} {h : H} (hr : HR P m h w) : ∀ (fs : List Field) (e : EqT) (xs ys : List V) (rx ry : List Value) (b : Bool) (f : TypeId → Option EqT),
    (∀ t q (x y : V) (X Y : Value) (b : Bool), f t = some q → VR m x X → VR m y Y → eqV h q x y = some b → (Op.equalIn D t X Y).run P w = .ok b w) →
    eqFields P f fs = some e → VRL m xs rx → VRL m ys ry → eqV h e (.agg xs) (.agg ys) = some b → (Op.eqFields D rx.toArray ry.toArray fs).run P w = .ok b w
  | [], e, xs, ys, rx, ry, b, f, _, he, _, _, hb => by
    simp [eqFields] at he; subst he
    simp [eqV] at hb; subst hb
    rfl
  | fd :: fs, e, xs, ys, rx, ry, b, f, ih, he, hx, hy, hb => by
    simp only [eqFields] at he
    split at he
    · cases he
    · rename_i rest h1
      split at he
      · rename_i hn
        cases he
        have := run_eqFields_of hr fs e xs ys rx ry b f ih h1 hx hy hb
        simp only [Op.eqFields, hn]; simpa using this
      · rename_i hn
        split at he
        · rename_i q s h2 h3
          cases he
          simp only [eqV] at hb
          split at hb
          · rename_i u v e1 e2
            obtain ⟨U, hU, rU⟩ := run_part (w := w) h3 hx e1
            obtain ⟨W, hW, rW⟩ := run_part (w := w) h3 hy e2
            simp only [Op.eqFields, ne_eq, hn, not_false_eq_true, if_true, Sem.run_bind, hU, hW, Result.andThen_ok]
            split at hb
            · rename_i e3
              rw [ih _ q u v U W true h2 rU rW e3]
              simp only [Result.andThen_ok, Bool.not_true, Bool.false_eq_true, if_false]
              exact run_eqFields_of hr fs rest xs ys rx ry b f ih h1 hx hy hb
            · rename_i r e3
              cases b with
              | true => exact absurd hb (e3 ·)
              | false => rw [ih _ q u v U W false h2 rU rW hb]; simp
          · cases hb
        · cases he

theorem run_eqItems_of {D e s : Nat} {h : H} {q : EqT} (hs : sizeT P e = some s) {xs ys : List V} {rx ry : List Value} (hx : VRL m xs rx) (hy : VRL m ys ry)
    (ih : ∀ (x y : V) (X Y : Value) (b : Bool), VR m x X → VR m y Y → eqV h q x y = some b → (Op.equalIn D e X Y).run P w = .ok b w) : ∀ (n i : Nat) (b : Bool),
    allM (fun i => match partV xs (i * s) s (aggT P e), partV ys (i * s) s (aggT P e) with
      | some x, some y => eqV h q x y
      | _, _ => none) n i = some b → (Op.eqItems D e s rx.toArray ry.toArray (List.range' i n)).run P w = .ok b w
  | 0, i, b, hb => by simp [allM] at hb; subst hb; rfl
  | n + 1, i, b, hb => by
    simp only [allM] at hb
    rw [List.range'_succ]
    cases e1 : partV xs (i * s) s (aggT P e) with
    | none => simp [e1] at hb
    | some u =>
      cases e2 : partV ys (i * s) s (aggT P e) with
      | none => simp [e1, e2] at hb
      | some v =>
        simp only [e1, e2] at hb
        obtain ⟨U, hU, rU⟩ := run_part (w := w) hs hx e1
        obtain ⟨W, hW, rW⟩ := run_part (w := w) hs hy e2
        simp only [Op.eqItems, Sem.run_bind, hU, hW, Result.andThen_ok]
        split at hb
        · rename_i e3
          rw [ih u v U W true rU rW e3]
          simp only [Result.andThen_ok, Bool.not_true, Bool.false_eq_true, if_false]
          exact run_eqItems_of hs hx hy ih n (i + 1) b hb
        · rename_i r e3
          cases b with
          | true => exact absurd hb (e3 ·)
          | false => rw [ih u v U W false rU rW hb]; simp

theorem byteArray_beq (s t : List UInt8) : ((⟨s.toArray⟩ : ByteArray) == ⟨t.toArray⟩) = (s == t) := by
  rw [beq_toListBytes]; simp [ByteArray.toList_eq]

theorem frozen_zero {r o : Nat} {c : Array Value} {ty : TypeId} (hb : w.heap[r]? = some (.cells c ty (0, 0))) : w.frozen? ⟨r, o, none⟩ = false := by
  simp [World.frozen?, hb]

theorem run_sameAddr {i j oi oj : Nat} {r sh e r' sh' e' : Nat} {b : Bool} (hr : HR P m h w) (h1 : m i = some (r, sh, e)) (h2 : m j = some (r', sh', e'))
    (hb : ptrEq h (i, oi) (j, oj) = some b) : (sameAddr ⟨r, sh + oi, none⟩ ⟨r', sh' + oj, none⟩).run P w = .ok b w := by
  unfold ptrEq at hb
  simp only at hb
  split at hb
  · rename_i hij
    subst hij
    rw [h1] at h2; cases h2
    cases hb
    simp only [sameAddr, beq_self_eq_true, if_true, Sem.run_pure]
    congr 1
    rw [Bool.eq_iff_iff]; simp
  · rename_i hij
    split at hb
    · rename_i vs ty op vs' ty' op' g1 g2
      cases hb
      obtain ⟨a1, b1, c1, d1, e1, f1, c, fz, rfl, _, _, hz⟩ := hr.obj i _ g1 rfl
      obtain ⟨a2, b2, c2, d2, e2, f2, c', fz', rfl, _, _, hz'⟩ := hr.obj j _ g2 rfl
      have hz := hz rfl
      have hz' := hz' rfl
      simp only [FzOK] at hz hz'
      subst hz; subst hz'
      rw [h1] at e1; cases e1
      rw [h2] at e2; cases e2
      have hne : r ≠ r' := fun he => by
        subst he
        exact hij (hr.inj i j _ _ r sh e sh' e' g1 g2 rfl rfl h1 h2)
      have hs1 : w.shape? r = some (ty, c.size) := by simp [World.shape?, f1]
      have hs2 : w.shape? r' = some (ty', c'.size) := by simp [World.shape?, f2]
      simp [sameAddr, hne, frozen_zero f1, frozen_zero f2, noView, viewAt, hs1, hs2, mayBeOne, stringish]
    · cases hb

theorem eqV_fnil {x y : V} {b : Bool} (hb : eqV h .fnil x y = some b) : ∃ xs ys, x = .agg xs ∧ y = .agg ys := by
  unfold eqV at hb; split at hb <;> simp_all
theorem eqV_fcons {p q : Nat} {g : Bool} {e r : EqT} {x y : V} {b : Bool} (hb : eqV h (.fcons p q g e r) x y = some b) : ∃ xs ys, x = .agg xs ∧ y = .agg ys := by
  unfold eqV at hb; split at hb <;> simp_all
theorem eqV_bool {x y : V} {b : Bool} (hb : eqV h .bool x y = some b) : ∃ p q, x = .bool p ∧ y = .bool q := by
  unfold eqV at hb; split at hb <;> simp_all
theorem eqV_int {x y : V} {b : Bool} (hb : eqV h .int x y = some b) : ∃ k p k' q, x = .int k p ∧ y = .int k' q := by
  unfold eqV at hb; split at hb <;> simp_all
theorem eqV_str {x y : V} {b : Bool} (hb : eqV h .str x y = some b) : ∃ p q, x = .str p ∧ y = .str q := by
  unfold eqV at hb; split at hb <;> simp_all
theorem eqV_ar {p q : Nat} {g : Bool} {e : EqT} {x y : V} {b : Bool} (hb : eqV h (.ar p q g e) x y = some b) : ∃ xs ys, x = .agg xs ∧ y = .agg ys := by
  unfold eqV at hb; split at hb <;> simp_all

set_option maxHeartbeats 1000000 in
theorem eqV_sound (hr : HR P m h w) : ∀ (d : Nat) (t : TypeId) (q : EqT) (x y : V) (X Y : Value) (b : Bool) (D : Nat), d ≤ D → eqT P d t = some q → VR m x X → VR m y Y →
    eqV h q x y = some b → (Op.equalIn D t X Y).run P w = .ok b w
  | 0, _, _, _, _, _, _, _, _, _, hq, _, _, _ => by simp [eqT] at hq
  | d + 1, t, q, x, y, X, Y, b, D, hD, hq, hx, hy, hb => by
    obtain ⟨D, rfl⟩ : ∃ D', D = D' + 1 := ⟨D - 1, by omega⟩
    have hD' : d ≤ D := by omega
    have ih := eqV_sound hr d
    simp only [eqT] at hq
    split at hq
    · -- bool
      rename_i hu; cases hq
      obtain ⟨p, q, rfl, rfl⟩ := eqV_bool hb
      simp only [eqV] at hb; cases hb
      cases hx; cases hy
      exact run_equalIn_bool w D t _ _ hu
    · rename_i hu; cases hq
      obtain ⟨k1, p, k2, q, rfl, rfl⟩ := eqV_int hb
      simp only [eqV] at hb
      cases hx; cases hy
      split at hb
      · rename_i hk; subst hk; cases hb
        simp [Op.equalIn, run_underlying hu]
      · cases hb
    · rename_i hu; cases hq
      obtain ⟨p, q, rfl, rfl⟩ := eqV_str hb
      simp only [eqV] at hb; cases hb
      cases hx; cases hy
      simp [Op.equalIn, run_underlying hu, byteArray_beq]
    · -- pointers
      rename_i e hu
      split at hq
      · rename_i s hs
        cases hq
        cases x with
        | ptr p => cases y with
          | ptr q => cases p with
            | none =>
              simp only [eqV] at hb; cases hb
              cases hx
              cases q with
              | none => cases hy; simp [Op.equalIn, run_underlying hu]
              | some q => obtain ⟨r, sh, e, _, rfl⟩ := hy; simp [Op.equalIn, run_underlying hu]
            | some p => cases q with
              | none =>
                simp only [eqV] at hb; cases hb
                cases hy
                obtain ⟨r, sh, e, _, rfl⟩ := hx; simp [Op.equalIn, run_underlying hu]
              | some q =>
                simp only [eqV] at hb
                obtain ⟨i, oi⟩ := p
                obtain ⟨j, oj⟩ := q
                obtain ⟨r, sh, e, h1, rfl⟩ := hx
                obtain ⟨r', sh', e', h2, rfl⟩ := hy
                have := run_sameAddr hr h1 h2 hb
                simp [Op.equalIn, run_underlying hu, run_sizeOf hs, this]
          | _ => simp [eqV] at hb
        | _ => cases y <;> simp [eqV] at hb
      · cases hq
    · -- slices
      rename_i e hu; cases hq
      cases x with
      | slice p l c op => cases y with
        | slice q l' c' op' => cases p with
          | none =>
            simp only [eqV] at hb; cases hb
            cases hx
            cases q with
            | none => cases hy; simp [Op.equalIn, run_underlying hu]
            | some q => obtain ⟨r, sh, e, ad, _, rfl, _⟩ := hy; simp [Op.equalIn, run_underlying hu]
          | some p => cases q with
            | none =>
              simp only [eqV] at hb; cases hb
              cases hy
              obtain ⟨r, sh, e, ad, _, rfl, _⟩ := hx; simp [Op.equalIn, run_underlying hu]
            | some q => simp [eqV] at hb
        | _ => simp [eqV] at hb
      | _ => cases y <;> simp [eqV] at hb
    · -- maps
      rename_i kt et hu; cases hq
      cases x with
      | map p => cases y with
        | map q => cases p with
          | none =>
            simp only [eqV] at hb; cases hb
            cases hx
            cases q with
            | none => cases hy; simp [Op.equalIn, run_underlying hu]
            | some q => obtain ⟨r, sh, e, _, rfl⟩ := hy; simp [Op.equalIn, run_underlying hu]
          | some p => cases q with
            | none =>
              simp only [eqV] at hb; cases hb
              cases hy
              obtain ⟨r, sh, e, _, rfl⟩ := hx; simp [Op.equalIn, run_underlying hu]
            | some q => simp [eqV] at hb
        | _ => simp [eqV] at hb
      | _ => cases y <;> simp [eqV] at hb
    · -- functions
      rename_i u1 u2 u3 hu; cases hq
      cases x with
      | nilFunc => cases y with
        | nilFunc => simp only [eqV] at hb; cases hb; cases hx; cases hy; simp [Op.equalIn, run_underlying hu]
        | func f fs cs => simp only [eqV] at hb; cases hb; cases hx; obtain ⟨_, _, _, _, rfl⟩ := hy; simp [Op.equalIn, run_underlying hu]
        | yield l => simp only [eqV] at hb; cases hb; cases hx; obtain ⟨_, _, _, _, rfl⟩ := hy; simp [Op.equalIn, run_underlying hu]
        | _ => simp [eqV] at hb
      | func f fs cs => cases y with
        | nilFunc => simp only [eqV] at hb; cases hb; cases hy; obtain ⟨_, _, _, _, rfl⟩ := hx; simp [Op.equalIn, run_underlying hu]
        | _ => simp [eqV] at hb
      | yield l => cases y with
        | nilFunc => simp only [eqV] at hb; cases hb; cases hy; obtain ⟨_, _, _, _, rfl⟩ := hx; simp [Op.equalIn, run_underlying hu]
        | _ => simp [eqV] at hb
      | _ => cases y <;> simp [eqV] at hb
    · -- interfaces
      rename_i ms hu; cases hq
      cases x with
      | nilIface => cases y with
        | nilIface => simp only [eqV] at hb; cases hb; cases hx; cases hy; simp [Op.equalIn, run_underlying hu]
        | iface t u => simp only [eqV] at hb; cases hb; cases hx; obtain ⟨_, _, rfl⟩ := hy; simp [Op.equalIn, run_underlying hu]
        | _ => simp [eqV] at hb
      | iface t u => cases y with
        | nilIface => simp only [eqV] at hb; cases hb; cases hy; obtain ⟨_, _, rfl⟩ := hx; simp [Op.equalIn, run_underlying hu]
        | iface t' u' =>
          simp only [eqV] at hb
          split at hb
          · rename_i hne; cases hb; obtain ⟨_, _, rfl⟩ := hy; obtain ⟨_, _, rfl⟩ := hx; simp [Op.equalIn, run_underlying hu, hne]
          · cases hb
        | _ => simp [eqV] at hb
      | _ => cases y <;> simp [eqV] at hb
    · -- structs
      rename_i fs hu
      split at hq
      · cases hq
      · rename_i hst
        have hpf : P.fieldsOf t = fs := by simp [Program.fieldsOf, hu]
        have key : ∀ xs ys : List V, x = .agg xs → y = .agg ys → (Op.equalIn (D + 1) t X Y).run P w = .ok b w := by
          rintro xs ys rfl rfl
          obtain ⟨rx, hrx, rfl⟩ := hx
          obtain ⟨ry, hry, rfl⟩ := hy
          rw [run_equalIn_struct w D t _ _ (by rw [hpf]; exact hu) (by simpa using hst), hpf]
          exact run_eqFields_of hr fs.toList q xs ys rx ry b (eqT P d) (fun t q x y X Y b h1 h2 h3 h4 => ih t q x y X Y b D hD' h1 h2 h3 h4) hq hrx hry hb
        have hq2 : q = .fnil ∨ ∃ a b c d e, q = .fcons a b c d e := by
          clear hb key
          generalize fs.toList = l at hq
          induction l generalizing q with
          | nil => simp [eqFields] at hq; exact .inl hq.symm
          | cons f l ihl =>
            simp only [eqFields] at hq
            split at hq
            · cases hq
            · split at hq
              · cases hq; rename_i h1 _ ; first | exact ihl _ h1 | exact ihl _ ‹_›
              · split at hq
                · cases hq; exact .inr ⟨_, _, _, _, _, rfl⟩
                · cases hq
        rcases hq2 with rfl | ⟨_, _, _, _, _, rfl⟩
        · obtain ⟨xs, ys, e1, e2⟩ := eqV_fnil hb; exact key xs ys e1 e2
        · obtain ⟨xs, ys, e1, e2⟩ := eqV_fcons hb; exact key xs ys e1 e2
    · -- arrays
      rename_i n e hu
      split at hq
      · rename_i q' s h1 h2
        cases hq
        obtain ⟨ie, de, i1, i2, i3⟩ := sizeT_spec h2
        obtain ⟨xs, ys, rfl, rfl⟩ := eqV_ar hb
        simp only [eqV] at hb
        obtain ⟨rx, hrx, rfl⟩ := hx
        obtain ⟨ry, hry, rfl⟩ := hy
        rw [run_equalIn_array w D rx.toArray ry.toArray hu i1, sizeT_cells h2, List.range_eq_range']
        exact run_eqItems_of h2 hrx hry (fun x y X Y b a1 a2 a3 => ih e q' x y X Y b D hD' h1 a1 a2 a3) n 0 b hb
      · cases hq
    · cases hq
end Go.AM
/-! Soundness, V: binary operations, conversions, slices, addresses, lengths. -/
namespace Go.AM
variable {P : Program} {m : Mp} {h : H} {w : World} {T : List V} {a : Act} {o : Oper} {k : K}

/-! ### binary operations -/
theorem run_eqGuard_ok {op : BinOp} {t : TypeId} {x y : Operand} {X Y : Value} (h1 : (X = .nilIface ∧ Y = .nilIface) → (isLit x || isLit y) = true)
    (h2 : ∀ c d, X = .agg c → Y = .agg d → P.eqGuardType P.depth t = false) (w : World) : (eqGuard op t x y X Y).run P w = .ok () w := by
  by_cases hn : X = .nilIface ∧ Y = .nilIface
  · obtain ⟨rfl, rfl⟩ := hn
    have hl := h1 ⟨rfl, rfl⟩
    clear h1 h2
    cases op <;> first
      | rfl
      | (cases x <;> cases y <;> first | rfl | (simp [isLit] at hl))
  · have hg : op = .eql ∨ op = .neq → (eqGuard op t x y X Y).run P w = .ok () w := fun hop => by
      cases X with
      | agg c => cases Y with
        | agg d => have := h2 c d rfl rfl; rcases hop with rfl | rfl <;> simp [eqGuard, this]
        | _ => rcases hop with rfl | rfl <;> rfl
      | nilIface => cases Y with
        | nilIface => exact absurd ⟨rfl, rfl⟩ hn
        | _ => rcases hop with rfl | rfl <;> rfl
      | _ => rcases hop with rfl | rfl <;> rfl
    cases op <;> first | exact hg (.inl rfl) | exact hg (.inr rfl) | rfl

theorem intOp_sound {op : BinOp} {kd : IntKind} {p q : Int} {v : V} (t : TypeId) (hv : intOp op kd p q = some v) (hs : op ≠ .shl ∧ op ≠ .shr) :
    ∃ x, (binOp op t (.int kd p) (.int kd q)).run P w = .ok x w ∧ VR m v x := by
  unfold intOp at hv
  split at hv <;> first
    | (cases hv; refine ⟨_, ?_, rfl⟩; simp [binOp, Op.intArith, Op.intCmp, Op.intBits]; done)
    | (split at hv
       · cases hv
       · rename_i hq; cases hv; refine ⟨_, ?_, rfl⟩; simp [binOp, Op.intDiv, hq])
    | cases hv

theorem shOp_sound {op : BinOp} {kd k' : IntKind} {p q : Int} {v : V} (t : TypeId) (hv : shOp op kd p q = some v) :
    ∃ x, (binOp op t (.int kd p) (.int k' q)).run P w = .ok x w ∧ VR m v x := by
  unfold shOp at hv
  split at hv
  · cases hv
  · rename_i hq
    split at hv <;> cases hv <;> exact ⟨_, by simp [binOp, Op.shift, hq], rfl⟩

theorem strOp_sound {op : BinOp} {p q : List UInt8} {v : V} (t : TypeId) (hv : strOp op p q = some v) :
    ∃ x, (binOp op t (.string ⟨p.toArray⟩) (.string ⟨q.toArray⟩)).run P w = .ok x w ∧ VR m v x := by
  unfold strOp at hv
  split at hv
  · split at hv
    · rename_i hl
      cases hv
      refine ⟨.string ⟨(p ++ q).toArray⟩, ?_, rfl⟩
      have h1 : ¬ ((((⟨p.toArray⟩ : ByteArray).size + (⟨q.toArray⟩ : ByteArray).size : Nat) : Int) > IntKind.i64.max) := by
        simp [ByteArray.size, IntKind.max, IntKind.signed, IntKind.bits]; omega
      simp only [binOp, Op.stringOp, h1, if_false, Sem.run_pure]
      congr 2
    · cases hv
  all_goals first
    | (cases hv; refine ⟨_, ?_, rfl⟩; simp [binOp, Op.stringOp, ByteArray.toList_eq]; done)
    | cases hv

theorem run_equalOp {u v : V} {X Y : Value} {q : EqT} {b : Bool} {t : TypeId} (hx : VR m u X) (hy : VR m v Y) (hb : eqV h q u v = some b)
    (n1 : ∀ k a k' b, u = .int k a → v = .int k' b → False) (n2 : ∀ a b, u = .str a → v = .str b → False) (hE : (Op.equal t X Y).run P w = .ok b w) :
    (binOp .eql t X Y).run P w = .ok (.bool b) w ∧ (binOp .neq t X Y).run P w = .ok (.bool !b) w := by
  have key : (binOp .eql t X Y = do pure (.bool (← Op.equal t X Y))) ∧ (binOp .neq t X Y = do pure (.bool (!(← Op.equal t X Y)))) := by
    cases u with
    | bool p => cases hx; exact ⟨rfl, rfl⟩
    | int k p =>
      exfalso
      clear hx hy hE
      unfold eqV at hb
      split at hb <;> first | exact n1 _ _ _ _ rfl rfl | simp_all
    | str p =>
      exfalso
      clear hx hy hE
      unfold eqV at hb
      split at hb <;> first | exact n2 _ _ rfl rfl | simp_all
    | ptr p => cases p with
      | none => cases hx; exact ⟨rfl, rfl⟩
      | some p => obtain ⟨_, _, _, _, rfl⟩ := hx; exact ⟨rfl, rfl⟩
    | slice p _ _ _ => cases p with
      | none => cases hx; exact ⟨rfl, rfl⟩
      | some p => obtain ⟨_, _, _, _, _, rfl, _⟩ := hx; exact ⟨rfl, rfl⟩
    | map p => cases p with
      | none => cases hx; exact ⟨rfl, rfl⟩
      | some p => obtain ⟨_, _, _, _, rfl⟩ := hx; exact ⟨rfl, rfl⟩
    | func f fs cs => obtain ⟨_, _, _, _, rfl⟩ := hx; exact ⟨rfl, rfl⟩
    | yield l => obtain ⟨_, _, _, _, rfl⟩ := hx; exact ⟨rfl, rfl⟩
    | nilFunc => cases hx; exact ⟨rfl, rfl⟩
    | iface t' z => obtain ⟨_, _, rfl⟩ := hx; exact ⟨rfl, rfl⟩
    | nilIface => cases hx; exact ⟨rfl, rfl⟩
    | agg cs => obtain ⟨_, _, rfl⟩ := hx; exact ⟨rfl, rfl⟩
    | tup cs => exfalso; unfold eqV at hb; split at hb <;> simp_all
    | junk => exfalso; unfold eqV at hb; split at hb <;> simp_all
  rw [key.1, key.2]
  simp [hE]

theorem VR.of_nilIface {v : V} (hv : VR m v .nilIface) : v = .nilIface := by
  cases v with
  | ptr p => cases p <;> simp [VR] at hv
  | slice p _ _ _ => cases p <;> simp [VR] at hv
  | map p => cases p <;> simp [VR] at hv
  | nilIface => rfl
  | _ => simp [VR] at hv
theorem VR.of_agg {v : V} {c : Array Value} (hv : VR m v (.agg c)) : ∃ xs, v = .agg xs := by
  cases v with
  | ptr p => cases p <;> simp [VR] at hv
  | slice p _ _ _ => cases p <;> simp [VR] at hv
  | map p => cases p <;> simp [VR] at hv
  | agg xs => exact ⟨xs, rfl⟩
  | junk => simp [VR, Value.oneCell'] at hv
  | _ => simp [VR] at hv

theorem eqT_agg {d : Nat} {t : TypeId} {q : EqT} {xs : List V} {v : V} {b : Bool} (hq : eqT P (d + 1) t = some q) (hb : eqV h q (.agg xs) v = some b) : aggT P t = true := by
  simp only [eqT] at hq
  unfold aggT
  split at hq
  case h_9 => rename_i hu; simp [hu]
  case h_10 => rename_i hu; simp [hu]
  case h_11 => cases hq
  case h_4 => split at hq <;> first | cases hq; done | (cases hq; exfalso; unfold eqV at hb; first | cases hb; done | (split at hb <;> simp_all))
  all_goals (cases hq; exfalso; unfold eqV at hb; first | cases hb; done | (split at hb <;> simp_all))

theorem snd_bin (cx : Cx P m h w T a) {op : BinOp} {t t' : TypeId} {x y : Operand} (ho : o.op = .binOp op t x y t') (hc : cK P (.binOp op t x y t') = some k) : Snd P m h w T a o k := by
  intro r hr
  simp only [cK] at hc
  split at hc <;> cases hc
  rename_i x' y' h1 h2
  simp only [evK] at hr
  split at hr
  · rename_i u v e1 e2
    have hx := cx.av h1 e1
    have hy := cx.av h2 e2
    have he : execOp a.eval o = (do pure (Next.value (← (do eqGuard op t x y (a.eval x) (a.eval y); binOp op t (a.eval x) (a.eval y))))) := by simp [execOp, ho]
    unfold binV at hr
    split at hr
    · rename_i kd p k' q
      rw [show a.eval x = _ from hx, show a.eval y = _ from hy] at he
      have hg : (eqGuard op t x y (.int kd p) (.int k' q)).run P w = .ok () w := run_eqGuard_ok (by simp) (by simp) w
      have sh : ∀ r, (shOp op kd p q).map Res.pur = some r → ResOK P m h w ((execOp a.eval o).run P w) r := fun r hr => by
        cases hv : shOp op kd p q with
        | none => simp [hv] at hr
        | some z =>
          simp [hv] at hr; subst hr
          obtain ⟨X, h3, h4⟩ := shOp_sound (P := P) (w := w) (m := m) (k' := k') t hv
          exact pur_val (x := X) (by simp [hg, h3]) h4 he
      split at hr
      · exact sh r hr
      · exact sh r hr
      · rename_i s1 s2
        split at hr
        · rename_i hk
          subst hk
          cases hv : intOp op kd p q with
          | none => simp [hv] at hr
          | some z =>
            simp [hv] at hr; subst hr
            obtain ⟨X, h3, h4⟩ := intOp_sound (P := P) (w := w) (m := m) t hv ⟨s1, s2⟩
            exact pur_val (x := X) (by simp [hg, h3]) h4 he
        · cases hr
    · rename_i p q
      rw [show a.eval x = _ from hx, show a.eval y = _ from hy] at he
      have hg : (eqGuard op t x y (.string ⟨p.toArray⟩) (.string ⟨q.toArray⟩)).run P w = .ok () w := run_eqGuard_ok (by simp) (by simp) w
      cases hv : strOp op p q with
      | none => simp [hv] at hr
      | some z =>
        simp [hv] at hr; subst hr
        obtain ⟨X, h3, h4⟩ := strOp_sound (P := P) (w := w) (m := m) t hv
        exact pur_val (x := X) (by simp [hg, h3]) h4 he
    · rename_i n1 n2
      split at hr
      · cases hr
      · rename_i q hq
        have hq' : eqT P 40 t = some q := by
          unfold eqTop at hq; split at hq
          · cases hq
          · exact hq
        have fin : ∀ b, eqV h q u v = some b → (u = .nilIface → v = .nilIface → (isLit x || isLit y) = true) →
            ((eqGuard op t x y (a.eval x) (a.eval y)).run P w = .ok () w ∧ (binOp .eql t (a.eval x) (a.eval y)).run P w = .ok (.bool b) w ∧ (binOp .neq t (a.eval x) (a.eval y)).run P w = .ok (.bool !b) w) := fun b hb hn => by
          have hE : (Op.equal t (a.eval x) (a.eval y)).run P w = .ok b w := eqV_sound cx.hr 40 t q u v _ _ b 10000 (by omega) hq' hx hy hb
          refine ⟨run_eqGuard_ok ?_ ?_ w, run_equalOp hx hy hb n1 n2 hE⟩
          · rintro ⟨ex, ey⟩
            exact hn (VR.of_nilIface (ex ▸ hx)) (VR.of_nilIface (ey ▸ hy))
          · intro c d ec _
            obtain ⟨xs, rfl⟩ := VR.of_agg (ec ▸ hx)
            have hag := eqT_agg hq' hb
            unfold eqTop at hq
            rw [hag] at hq
            simp only [Bool.true_and] at hq
            split at hq
            · cases hq
            · rename_i hgt; simpa using hgt
        split at hr
        · cases hr
        · rename_i u v _ _ _ nn
          have hn : u = .nilIface → v = .nilIface → (isLit x || isLit y) = true := fun e1 e2 => by
            cases hl : (isLit x || isLit y) with
            | true => rfl
            | false => exact (nn e1 e2 hl).elim
          split at hr <;> cases hr
          · rename_i b hb
            obtain ⟨f1, f2, f3⟩ := fin b hb hn
            exact rd_val (x := .bool b) (by simp [f1, f2]) rfl he
          · rename_i b hb
            obtain ⟨f1, f2, f3⟩ := fin b hb hn
            exact rd_val (x := .bool !b) (by simp [f1, f3]) rfl he
  · cases hr
end Go.AM
