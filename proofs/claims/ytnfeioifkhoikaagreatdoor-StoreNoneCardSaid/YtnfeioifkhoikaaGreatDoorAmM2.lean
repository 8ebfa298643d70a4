/- My own text of the evaluator and its soundness (abstract machine), laid for this claim. -/
import Derived.Test.YtnfeioifkhoikaaGreatDoorAmM
/-! Soundness, IX b: append of so many zeros. -/
namespace Go.AM
variable {P : Program} {m : Mp} {h : H} {w : World} {T : List V} {a : Act} {o : Oper} {k : K}

/-- What 'append(s, make([]E, n)...)' comes to. -/
def appZV (h : H) (ty size bytes : Nat) (z : List V) (base : Option (Nat × Nat)) (len cap : Nat) (opn : Bool) (n : Int) : Option Res :=
      if 0 ≤ n ∧ n ≤ 1099511627776 ∧ n.toNat * bytes ≤ 281474976710656 then
        if len + n.toNat ≤ cap then
          match base with
          | none => some (.eff (.slice none (len + n.toNat) cap opn) h)
          | some (i, o) => match putCells h i (o + len * size) (List.replicate n.toNat z).flatten with
            | some h' => some (.eff (.slice base (len + n.toNat) cap opn) h')
            | none => none
        else if len + n.toNat ≤ 1099511627776 ∧ (2 * (len + n.toNat) + 1024) * bytes ≤ 281474976710656 ∧ opn = false then
          match elemsV h size len (.slice base len cap opn) with
          | none => none
          | some old => match h.push (.cells (old ++ (List.replicate n.toNat z).flatten) ty true false none) with
            | some h' => some (.eff (.slice (some (h.size, 0)) (len + n.toNat) (len + n.toNat) true) h')
            | none => none
        else none
      else none

theorem appZ_eff {h : H} {ty size bytes : Nat} {z : List V} {base : Option (Nat × Nat)} {len cap : Nat} {opn : Bool} {n : Int} {r : Res} (hr : appZV h ty size bytes z base len cap opn n = some r) : ∃ v h', r = .eff v h' := by
  unfold appZV at hr
  split at hr
  · split at hr
    · split at hr
      · cases hr; exact ⟨_, _, rfl⟩
      · split at hr <;> cases hr; exact ⟨_, _, rfl⟩
    · split at hr
      · split at hr
        · cases hr
        · split at hr <;> cases hr; exact ⟨_, _, rfl⟩
      · cases hr
  · cases hr

theorem wrap_small (n : Int) (h0 : 0 ≤ n) (h1 : n ≤ 1099511627776) : IntKind.i64.wrap n = n := by
  have h2 : n % 18446744073709551616 = n := Int.emod_eq_of_lt h0 (by omega)
  simp [IntKind.wrap, IntKind.bits, IntKind.signed, h2]
  omega

section run
variable {t u e : TypeId} {i : TypeInfo} {z : Value} {k' kx : IntKind}

theorem run_appendZ_fits (ty : TypeId) {base : Option Addr} {sLen sCap : Nat} {n : Int} {w' : World} (h1 : P.underlying t = some (.slice e)) (h2 : P.underlying u = some (.int k'))
    (h3 : P.info? e = some i) (h4 : ∀ w, (zeroValue e).run P w = .ok z w) (hz : z.cells.size = i.size) (n0 : 0 ≤ n) (n1 : n ≤ 1099511627776) (n2 : n.toNat * i.bytes ≤ 281474976710656) (hfit : sLen + n.toNat ≤ sCap)
    (hs : match base with | none => w' = w | some a => (storeCells (a.add (sLen * i.size)) (Builtin.zeroCells z.cells n.toNat).toList).run P w = .ok () w') :
    (Builtin.append_ #[t, u] ty #[.slice base sLen sCap, .int kx n]).run P w = .ok (.slice base (sLen + n.toNat) sCap) w' := by
  have hsz : (sizeOf e).run P w = .ok i.size w := by simp [sizeOf, run_typeInfo h3]
  have q0 : (#[t, u] : Array TypeId)[0]? = some t := rfl
  have q1 : (#[t, u] : Array TypeId)[1]? = some u := rfl
  have q2 : (#[Value.slice base sLen sCap, .int kx n] : Array Value)[0]? = some (.slice base sLen sCap) := rfl
  have q3 : (#[Value.slice base sLen sCap, .int kx n] : Array Value)[1]? = some (.int kx n) := rfl
  have hw := wrap_small n n0 n1
  have c0 : ¬ (n < 0) := by omega
  have c1 : ¬ (n * (i.bytes : Int) > 2 ^ 48) := by
    have : n * (i.bytes : Int) = ((n.toNat * i.bytes : Nat) : Int) := by rw [Int.natCast_mul]; congr 1; omega
    rw [this]; omega
  have happ : (if n.toNat * i.size = 0 then (pure #[] : Sem (Array Value)) else do pure (Builtin.zeroCells (← zeroValue e).cells n.toNat)).run P w = .ok (Builtin.zeroCells z.cells n.toNat) w := by
    by_cases h0 : n.toNat * i.size = 0
    · rw [if_pos h0]
      have : (Builtin.zeroCells z.cells n.toNat) = #[] := by
        apply Array.eq_empty_of_size_eq_zero
        rw [length_zeroCells, hz]; exact h0
      rw [this]; rfl
    · rw [if_neg h0]; simp [h4]
  simp only [Builtin.append_, q0, q1, q2, q3, Sem.run_bind, run_underlying h1, Result.andThen_ok, hsz, run_underlying h2]
  simp only [Sem.run_pure, Result.andThen_ok, if_true, Sem.run_bind, asInt, asIntOf, hw, c0, if_false, run_typeInfo h3, c1, Sem.run_ite, hfit, Bool.not_true, Bool.false_eq_true]
  simp only [Sem.run_ite, Sem.run_bind, Sem.run_pure] at happ
  rw [happ]
  cases base with
  | none => subst hs; rfl
  | some a => simp only at hs; simp [hs]

theorem run_appendZ_grows (ty : TypeId) {base : Option Addr} {sLen sCap : Nat} {n : Int} {old : List Value} (h1 : P.underlying t = some (.slice e)) (h2 : P.underlying u = some (.int k'))
    (h3 : P.info? e = some i) (h4 : ∀ w, (zeroValue e).run P w = .ok z w) (hz : z.cells.size = i.size) (n0 : 0 ≤ n) (n1 : n ≤ 1099511627776) (n2 : n.toNat * i.bytes ≤ 281474976710656)
    (ho : (Builtin.firstCells i.size sLen (.slice base sLen sCap)).run P w.drew = .ok old.toArray w.drew) (hfit : ¬ sLen + n.toNat ≤ sCap)
    (hb1 : sLen + n.toNat ≤ 1099511627776) (hb2 : (2 * (sLen + n.toNat) + 1024) * i.bytes ≤ 281474976710656) :
    (Builtin.append_ #[t, u] ty #[.slice base sLen sCap, .int kx n]).run P w =
      .ok (.slice (some ⟨w.heap.size, 0, none⟩) (sLen + n.toNat) (drawnCap w (sLen + n.toNat) sCap e))
        { w.drew with heap := w.heap.push (.cells (old.toArray ++ Builtin.zeroCells z.cells n.toNat ++ Builtin.zeroCells z.cells (drawnCap w (sLen + n.toNat) sCap e - (sLen + n.toNat))) e) } := by
  have hsz : ∀ w, (sizeOf e).run P w = .ok i.size w := fun w => by simp [sizeOf, run_typeInfo h3]
  have q0 : (#[t, u] : Array TypeId)[0]? = some t := rfl
  have q1 : (#[t, u] : Array TypeId)[1]? = some u := rfl
  have q2 : (#[Value.slice base sLen sCap, .int kx n] : Array Value)[0]? = some (.slice base sLen sCap) := rfl
  have q3 : (#[Value.slice base sLen sCap, .int kx n] : Array Value)[1]? = some (.int kx n) := rfl
  have hw := wrap_small n n0 n1
  have c0 : ¬ (n < 0) := by omega
  have c1 : ¬ (n * (i.bytes : Int) > 2 ^ 48) := by
    have : n * (i.bytes : Int) = ((n.toNat * i.bytes : Nat) : Int) := by rw [Int.natCast_mul]; congr 1; omega
    rw [this]; omega
  have happ : (if n.toNat * i.size = 0 then (pure #[] : Sem (Array Value)) else do pure (Builtin.zeroCells (← zeroValue e).cells n.toNat)).run P w.drew = .ok (Builtin.zeroCells z.cells n.toNat) w.drew := by
    by_cases h0 : n.toNat * i.size = 0
    · rw [if_pos h0]
      have : (Builtin.zeroCells z.cells n.toNat) = #[] := by
        apply Array.eq_empty_of_size_eq_zero
        rw [length_zeroCells, hz]; exact h0
      rw [this]; rfl
    · rw [if_neg h0]; simp [h4]
  have d1 : ¬ (((sLen + n.toNat : Nat) : Int) > IntKind.i64.max) := by simp [IntKind.max, IntKind.signed, IntKind.bits]; omega
  have d2 : ¬ (Builtin.nextslicecap (sLen + n.toNat) sCap * i.bytes > 2 ^ 48) := by
    have := Nat.mul_le_mul_right i.bytes (nextslicecap_le (need := sLen + n.toNat) (cap := sCap) (by omega))
    omega
  simp only [Builtin.append_, q0, q1, q2, q3, Sem.run_bind, run_underlying h1, Result.andThen_ok, hsz, run_underlying h2]
  simp only [Sem.run_pure, Result.andThen_ok, if_true, Sem.run_bind, asInt, asIntOf, hw, c0, if_false, run_typeInfo h3, c1, Sem.run_ite, hfit, Bool.not_true, Bool.false_eq_true, d1, false_and, d2,
    run_choose, Question.forced, run_askRoom]
  simp only [Sem.run_ite, Sem.run_bind, Sem.run_pure] at happ
  simp [ho, h4, newRow, drawnCap]
  by_cases h0 : n.toNat * i.size = 0
  · have hemp : Builtin.zeroCells z.cells n.toNat = #[] := by
      apply Array.eq_empty_of_size_eq_zero
      rw [length_zeroCells, hz]; exact h0
    rw [if_pos h0, hemp, Array.empty_append]
    rfl
  · rw [if_neg h0]
    rfl
end run

theorem appZ_sound {t u e ty : TypeId} {i : TypeInfo} {zv : V} {k' kx : IntKind} {base : Option (Nat × Nat)} {len cap : Nat} {opn : Bool} {n : Int} {S : Value} {h' : H} {v : V} (hr : HR P m h w) (h1 : P.underlying t = some (.slice e)) (h2 : P.underlying u = some (.int k'))
    (h3 : P.info? e = some i) (h4 : zeroT P e = some zv) (h5 : zv.cells.length = i.size) (hs : VR m (.slice base len cap opn) S) (ha : appZV h e i.size i.bytes zv.cells base len cap opn n = some (.eff v h')) :
    ∃ m' w' y, HR P m' h' w' ∧ Ext m h w m' h' w' ∧ VR m' v y ∧ (Builtin.append_ #[t, u] ty #[S, .int kx n]).run P w = .ok y w' := by
  obtain ⟨z, hz, hrz⟩ := zeroT_spec (m := m) h4
  have hzs : z.cells.size = i.size := by rw [← Array.length_toList, (VR.cells hz).length]; exact h5
  have hcell : P.cellsOf e = i.size := by simp [Program.cellsOf, h3]
  have hzc : (Builtin.zeroCells z.cells n.toNat).toList = (List.replicate n.toNat z.cells.toList).flatten := by
    unfold Builtin.zeroCells; exact range_mod _ _
  have hnew : VRL m (List.replicate n.toNat zv.cells).flatten (Builtin.zeroCells z.cells n.toNat).toList := by rw [hzc]; exact VRL.flatten (VR.cells hz) _
  unfold appZV at ha
  split at ha
  · rename_i hn
    obtain ⟨n0, n1, n2⟩ := hn
    split at ha
    · rename_i hfit
      split at ha
      · cases ha
        cases hs
        exact ⟨m, w, _, hr, Ext.refl _ _ _, rfl, run_appendZ_fits ty h1 h2 h3 hrz hzs n0 n1 n2 hfit rfl⟩
      · rename_i b q
        split at ha <;> cases ha
        rename_i hp
        obtain ⟨R, sh, ex, ad, hm, rfl, hzz⟩ := hs
        by_cases had : ad = ⟨R, sh + q, none⟩
        · subst had
          obtain ⟨w', e1, e2, e3⟩ := putCells_sound hr hm hnew hp
          refine ⟨m, w', _, e2, e3, ⟨R, sh, ex, _, hm, rfl, .inl rfl⟩, run_appendZ_fits ty h1 h2 h3 hrz hzs n0 n1 n2 (by omega) ?_⟩
          simp only [add_at]
          rw [Nat.add_assoc] at *
          exact e1
        · obtain ⟨hl0, hc0, hb0⟩ := hzz.resolve_left had
          have hn0 : n.toNat = 0 := by omega
          have hh : h' = h := by simpa [putCells, hn0] using hp.symm
          subst hh
          refine ⟨m, w, _, hr, Ext.refl _ _ _, ⟨R, sh, ex, ad, hm, rfl, .inr ⟨by omega, hc0, hb0⟩⟩, run_appendZ_fits ty h1 h2 h3 hrz hzs n0 n1 n2 (by omega) ?_⟩
          simp [hn0, Builtin.zeroCells, storeCells]
    · rename_i hfit
      split at ha
      · rename_i hbig
        obtain ⟨b1, b2, rfl⟩ := hbig
        split at ha
        · cases ha
        · rename_i old hold
          split at ha <;> cases ha
          rename_i hp
          have hrd := hr.drew (Drew.one w)
          obtain ⟨os, ro, hos⟩ := run_elemsV hrd hs rfl (Nat.le_refl _) hold
          have grow : ∀ base', S = .slice base' len cap → ∃ m' w' y, HR P m' h' w' ∧ Ext m h w m' h' w' ∧ VR m' (.slice (some (h.size, 0)) (len + n.toNat) (len + n.toNat) true) y ∧ (Builtin.append_ #[t, u] ty #[S, .int kx n]).run P w = .ok y w' := by
            rintro base' rfl
            have hge := drawnCap_ge w (len + n.toNat) cap e
            obtain ⟨g1, g2⟩ := hr.push (e := drawnCap w (len + n.toNat) cap e - (len + n.toNat)) hp
              (New.of_drew (Drew.one w) (New.alloc w.drew (.cells ((os ++ (Builtin.zeroCells z.cells n.toNat).toList) ++ (Builtin.zeroCells z.cells (drawnCap w (len + n.toNat) cap e - (len + n.toNat))).toList).toArray e)))
              (OR.opened (hos.append hnew) (by rw [Array.length_toList, length_zeroCells, hzs, hcell]; exact Nat.le_refl _) (by simp [FzOK]))
            refine ⟨_, _, .slice (some ⟨w.heap.size, 0, none⟩) (len + n.toNat) (drawnCap w (len + n.toNat) cap e), g1, g2, ?_, ?_⟩
            · refine ⟨w.heap.size, 0, drawnCap w (len + n.toNat) cap e - (len + n.toNat), ⟨w.heap.size, 0, none⟩, upd_self _ _ _, ?_, .inl rfl⟩
              congr 1
              simp; omega
            · rw [run_appendZ_grows ty h1 h2 h3 hrz hzs n0 n1 n2 ro hfit b1 b2]
              congr 1
              refine congrArg (fun hp => ({ heap := w.heap.push (.cells hp e), tape := w.tape, drawn := w.drawn + 1, os := w.os, output := w.output } : World)) ?_
              apply Array.ext'
              simp
          cases base with
          | none => cases hs; exact grow none rfl
          | some b =>
            obtain ⟨bi, bo⟩ := b
            obtain ⟨R, sh, ex, ad, hm, rfl, hzz⟩ := hs
            exact grow (some ad) (by simp)
      · cases ha
  · cases ha
end Go.AM
