/- My own texts of the evaluator, its soundness and its symbolic runs, laid for this claim. -/
import Derived.Test.YtelbgimbkfjabaaAmL
set_option linter.unusedSimpArgs false
set_option linter.unusedVariables false
/-! Soundness, IX: append and copy. -/
namespace Go.AM
variable {P : Program} {m : Mp} {h : H} {w : World} {T : List V} {a : Act} {o : Oper} {k : K}

theorem run_lenV {v : V} {x : Value} {n : Nat} (hv : VR m v x) (hn : lenV v = some n) : (Builtin.lenOf x).run P w = .ok n w := by
  cases v <;> simp only [lenV] at hn <;> try cases hn
  · cases hv; simp [Builtin.lenOf, ByteArray.size]
  · rename_i p c q
    cases p with
    | none => cases hv; rfl
    | some p => obtain ⟨_, _, _, _, _, rfl, _⟩ := hv; rfl

theorem run_elemsV (hr : HR P m h w) {v : V} {x : Value} {size n n0 : Nat} {cs : List V} (hv : VR m v x) (hl : lenV v = some n0) (hn : n ≤ n0) (hc : elemsV h size n v = some cs) :
    ∃ xs : List Value, (Builtin.firstCells size n x).run P w = .ok xs.toArray w ∧ VRL m cs xs := by
  cases v <;> simp only [lenV] at hl <;> try cases hl
  · rename_i s
    cases hv
    simp only [elemsV] at hc
    split at hc <;> cases hc
    refine ⟨(s.take n).map fun b => .int .u8 b.toNat, ?_, ?_⟩
    · simp only [Builtin.firstCells, Sem.run_pure]
      congr 1
      apply Array.ext'
      simp [ByteArray.extract, ByteArray.copySlice, List.extract_eq_take_drop]
    · refine VRL.of_get (by simp) fun i u hu => ?_
      simp only [List.getElem?_map, Option.map_eq_some_iff] at hu ⊢
      obtain ⟨b, hb, rfl⟩ := hu
      exact ⟨_, ⟨b, hb, rfl⟩, rfl⟩
  · rename_i p c q
    cases p with
    | none =>
      cases hv
      simp only [elemsV] at hc
      split at hc <;> cases hc
      exact ⟨[], rfl, rfl⟩
    | some p =>
      obtain ⟨i, of⟩ := p
      obtain ⟨R, sh, ex, ad, hm, rfl, hz⟩ := hv
      simp only [elemsV] at hc
      split at hc
      · rename_i h0
        cases hc
        exact ⟨[], by simp [Builtin.firstCells, h0, run_loadCells_zero], rfl⟩
      · rename_i h0
        split at hc
        · rename_i vs ty op ro fz hg
          split at hc <;> cases hc
          rename_i hle
          have had : ad = ⟨R, sh + of, none⟩ := by
            rcases hz with hz | ⟨hz, _⟩
            · exact hz
            · exfalso; apply h0; have : n = 0 := by omega
              simp [this]
          subst had
          obtain ⟨xs, e1, e2⟩ := hr.loadN hg hm hle
          exact ⟨xs, by simpa [Builtin.firstCells] using e1, e2⟩
        · cases hc

theorem length_elemsV {v : V} {size n n0 : Nat} {cs : List V} (hl : lenV v = some n0) (hn : n ≤ n0) (hc : elemsV h size n v = some cs) : cs.length = n * size := by
  cases v <;> simp only [lenV] at hl <;> try cases hl
  · simp only [elemsV] at hc
    split at hc <;> cases hc
    rename_i hs
    subst hs
    simp; omega
  · rename_i p c q
    cases p with
    | none =>
      simp only [elemsV] at hc
      split at hc <;> cases hc
      rename_i h0; simp [h0]
    | some p =>
      obtain ⟨i, of⟩ := p
      simp only [elemsV] at hc
      split at hc
      · rename_i h0; cases hc; simp [h0]
      · split at hc
        · split at hc <;> cases hc
          rename_i hle
          simp [getR]; omega
        · cases hc

theorem growBy_le (need : Nat) : ∀ (k c : Nat), c < need → Builtin.growBy need k c ≤ need + (need + 768) / 4 + 1
  | 0, c, hc => by simp only [Builtin.growBy]; omega
  | k + 1, c, hc => by
    simp only [Builtin.growBy]
    rw [if_neg (by omega)]
    by_cases h2 : c + (c + 768) / 4 < need
    · exact growBy_le need k _ h2
    · cases k with
      | zero => simp only [Builtin.growBy]; omega
      | succ k => simp only [Builtin.growBy]; rw [if_pos (by omega)]; omega

theorem nextslicecap_le {need cap : Nat} (hc : cap < need) : Builtin.nextslicecap need cap ≤ 2 * need + 1024 := by
  unfold Builtin.nextslicecap
  split
  · omega
  · split
    · omega
    · have := growBy_le need 4 cap hc; omega

def drawnCap (w : World) (need cap : Nat) (e : TypeId) : Nat := (Question.appendCap need cap e).cut (w.tape w.drawn (.appendCap need cap e))
theorem drawnCap_ge (w : World) (need cap : Nat) (e : TypeId) : need ≤ drawnCap w need cap e := by simp [drawnCap, Question.cut]

section run
variable {t u e : TypeId} {i : TypeInfo} {z : Value} {d : TypeDesc}

theorem run_append_fits (ty : TypeId) {base : Option Addr} {sLen sCap n : Nat} {x : Value} {new : List Value} {w' : World} (h1 : P.underlying t = some (.slice e)) (h2 : P.underlying u = some d) (hd : ∀ k, d ≠ .int k)
    (h3 : P.info? e = some i) (hn : (Builtin.lenOf x).run P w = .ok n w) (hx : (Builtin.firstCells i.size n x).run P w = .ok new.toArray w) (hfit : sLen + n ≤ sCap)
    (hs : match base with | none => w' = w | some a => (storeCells (a.add (sLen * i.size)) new).run P w = .ok () w') :
    (Builtin.append_ #[t, u] ty #[.slice base sLen sCap, x]).run P w = .ok (.slice base (sLen + n) sCap) w' := by
  have hsz : (sizeOf e).run P w = .ok i.size w := by simp [sizeOf, run_typeInfo h3]
  have q0 : (#[t, u] : Array TypeId)[0]? = some t := rfl
  have q1 : (#[t, u] : Array TypeId)[1]? = some u := rfl
  have q2 : (#[Value.slice base sLen sCap, x] : Array Value)[0]? = some (.slice base sLen sCap) := rfl
  have q3 : (#[Value.slice base sLen sCap, x] : Array Value)[1]? = some x := rfl
  simp only [Builtin.append_, q0, q1, q2, q3, Sem.run_bind, run_underlying h1, Result.andThen_ok, hsz, run_underlying h2]
  simp only [Sem.run_pure, Result.andThen_ok, Bool.false_eq_true, if_false, hn, Bool.not_false, if_true, Sem.run_ite, hfit, Sem.run_bind, hx]
  cases base with
  | none => subst hs; rfl
  | some a => simp only at hs; simp [hs]

theorem run_append_grows (ty : TypeId) {base : Option Addr} {sLen sCap n : Nat} {x : Value} {old new : List Value} (h1 : P.underlying t = some (.slice e)) (h2 : P.underlying u = some d) (hd : ∀ k, d ≠ .int k)
    (h3 : P.info? e = some i) (h4 : ∀ w, (zeroValue e).run P w = .ok z w) (hn : (Builtin.lenOf x).run P w = .ok n w)
    (hx : (Builtin.firstCells i.size n x).run P w.drew = .ok new.toArray w.drew)
    (ho : (Builtin.firstCells i.size sLen (.slice base sLen sCap)).run P w.drew = .ok old.toArray w.drew) (hfit : ¬ sLen + n ≤ sCap)
    (hb1 : sLen + n ≤ 1099511627776) (hb2 : (2 * (sLen + n) + 1024) * i.bytes ≤ 281474976710656) (hc : sCap < sLen + n) :
    (Builtin.append_ #[t, u] ty #[.slice base sLen sCap, x]).run P w =
      .ok (.slice (some ⟨w.heap.size, 0, none⟩) (sLen + n) (drawnCap w (sLen + n) sCap e))
        { w.drew with heap := w.heap.push (.cells (old.toArray ++ new.toArray ++ Builtin.zeroCells z.cells (drawnCap w (sLen + n) sCap e - (sLen + n))) e) } := by
  have hsz : ∀ w, (sizeOf e).run P w = .ok i.size w := fun w => by simp [sizeOf, run_typeInfo h3]
  have q0 : (#[t, u] : Array TypeId)[0]? = some t := rfl
  have q1 : (#[t, u] : Array TypeId)[1]? = some u := rfl
  have q2 : (#[Value.slice base sLen sCap, x] : Array Value)[0]? = some (.slice base sLen sCap) := rfl
  have q3 : (#[Value.slice base sLen sCap, x] : Array Value)[1]? = some x := rfl
  have c1 : ¬ (((sLen + n : Nat) : Int) > IntKind.i64.max) := by simp [IntKind.max, IntKind.signed, IntKind.bits]; omega
  have c2 : ¬ (Builtin.nextslicecap (sLen + n) sCap * i.bytes > 2 ^ 48) := by
    have := Nat.mul_le_mul_right i.bytes (nextslicecap_le hc)
    omega
  simp only [Builtin.append_, q0, q1, q2, q3, Sem.run_bind, run_underlying h1, Result.andThen_ok, hsz, run_underlying h2]
  simp only [Sem.run_pure, Result.andThen_ok, Bool.false_eq_true, if_false, hn, Bool.not_false, if_true, Sem.run_ite, hfit, Sem.run_bind, run_typeInfo h3, c1, false_and, c2, Sem.run_pure,
    run_choose, Question.forced, run_askRoom]
  simp [ho, hx, h4, newRow, drawnCap]
  refine congrArg (fun hp => ({ heap := hp, tape := w.tape, drawn := w.drawn + 1, os := w.os, output := w.output } : World)) ?_
  simp [← Array.append_assoc]
  rfl
end run

theorem length_zeroCells (z : Array Value) (n : Nat) : (Builtin.zeroCells z n).size = n * z.size := by simp [Builtin.zeroCells]

theorem VRL.all_one {ws : List V} {ys : List Value} (hw : VRL m ws ys) (h1 : ws.all V.one = true) : ∀ y ∈ ys, y.oneCell' = true := by
  intro y hy
  obtain ⟨j, hj, rfl⟩ := List.getElem_of_mem hy
  have hjw : j < ws.length := by rw [← hw.length]; exact hj
  obtain ⟨z, hz, hzr⟩ := hw.get (i := j) (v := ws[j]) (by simp [hjw])
  have : ys[j] = z := by simpa [hj] using hz
  rw [this]
  exact VR.one hzr (List.all_eq_true.1 h1 _ (List.getElem_mem hjw))

set_option maxHeartbeats 1000000 in
theorem appV_sound {t u e ty : TypeId} {i : TypeInfo} {zv : V} {d : TypeDesc} {s x : V} {S X : Value} {h' : H} {v : V} (hr : HR P m h w) (h1 : P.underlying t = some (.slice e)) (h2 : P.underlying u = some d) (hd : ∀ k, d ≠ .int k)
    (h3 : P.info? e = some i) (h4 : zeroT P e = some zv) (h5 : zv.cells.length = i.size) (hs : VR m s S) (hx : VR m x X) (ha : appV h e i.size i.bytes s x = some (.eff v h')) :
    ∃ m' w' y, HR P m' h' w' ∧ Ext m h w m' h' w' ∧ VR m' v y ∧ (Builtin.append_ #[t, u] ty #[S, X]).run P w = .ok y w' := by
  obtain ⟨z, hz, hrz⟩ := zeroT_spec (m := m) h4
  have hzs : z.cells.size = i.size := by rw [← Array.length_toList, (VR.cells hz).length]; exact h5
  have hcell : P.cellsOf e = i.size := by simp [Program.cellsOf, h3]
  unfold appV at ha
  split at ha
  · rename_i base len cap opn n hn
    split at ha
    · cases ha
    · rename_i new hnew
      have rl := run_lenV (P := P) (w := w) hx hn
      obtain ⟨ys, re, hys⟩ := run_elemsV hr hx hn (Nat.le_refl _) hnew
      have hrd := hr.drew (Drew.one w)
      obtain ⟨ys2, re2, hys2⟩ := run_elemsV hrd hx hn (Nat.le_refl _) hnew
      simp only at ha
      split at ha
      · -- there is room
        rename_i hfit
        split at ha
        · -- nil
          cases ha
          cases hs
          exact ⟨m, w, _, hr, Ext.refl _ _ _, rfl, run_append_fits ty h1 h2 hd h3 rl re hfit rfl⟩
        · rename_i b q
          split at ha <;> cases ha
          rename_i hp
          obtain ⟨R, sh, ex, ad, hm, rfl, hz⟩ := hs
          by_cases had : ad = ⟨R, sh + q, none⟩
          · subst had
            obtain ⟨w', e1, e2, e3⟩ := putCells_sound hr hm hys hp
            refine ⟨m, w', _, e2, e3, ⟨R, sh, ex, _, hm, rfl, .inl rfl⟩, run_append_fits ty h1 h2 hd h3 rl re (by omega) ?_⟩
            simp only [add_at]
            rw [Nat.add_assoc] at *
            exact e1
          · -- an empty slice without room
            obtain ⟨hl0, hc0, hb0⟩ := hz.resolve_left had
            have hn0 : n = 0 := by omega
            subst hn0; subst hl0
            have hnew0 : new = [] := List.length_eq_zero_iff.1 (by rw [length_elemsV hn (Nat.le_refl _) hnew]; simp)
            subst hnew0
            cases hys
            have hh : h' = h := by
              simpa [putCells] using hp.symm
            subst hh
            refine ⟨m, w, _, hr, Ext.refl _ _ _, ⟨R, sh, ex, ad, hm, rfl, .inr ⟨by omega, hc0, hb0⟩⟩, run_append_fits ty h1 h2 hd h3 rl re (by omega) ?_⟩
            simp [storeCells]
      · rename_i hfit
        split at ha
        · rename_i hbig
          -- a new real block, whatever the abstract heap then is
          have grow : ∀ (h1' : H) (m1 : Mp) (base' : Option Addr) (cap' : Nat) (old : List V) (os : List Value) (fz : Option Nat), HR P m h1' w → Ext m h w m h1' w → S = .slice base' len cap' → cap' < len + n → VRL m old os →
              (Builtin.firstCells i.size len (.slice base' len cap')).run P w.drew = .ok os.toArray w.drew → h1'.size = h.size → h1'.push (.cells (old ++ new) e true false fz) = some h' → v = .slice (some (h.size, 0)) (len + n) (len + n) true →
              ∃ m' w' y, HR P m' h' w' ∧ Ext m h w m' h' w' ∧ VR m' v y ∧ (Builtin.append_ #[t, u] ty #[S, X]).run P w = .ok y w' := by
            intro h1' m1 base' cap' old os fz hr1 hx1 hS hc hold hos hsz hp hv
            subst hS; subst hv
            have hge := drawnCap_ge w (len + n) cap' e
            obtain ⟨g1, g2⟩ := hr1.push (e := drawnCap w (len + n) cap' e - (len + n)) hp
              (New.of_drew (Drew.one w) (New.alloc w.drew (.cells ((os ++ ys2) ++ (Builtin.zeroCells z.cells (drawnCap w (len + n) cap' e - (len + n))).toList).toArray e)))
              (OR.opened (hold.append hys2) (by rw [Array.length_toList, length_zeroCells, hzs, hcell]; exact Nat.le_refl _) (by cases fz <;> simp [FzOK]))
            refine ⟨_, _, .slice (some ⟨w.heap.size, 0, none⟩) (len + n) (drawnCap w (len + n) cap' e), g1, hx1.trans g2, ?_, ?_⟩
            · refine ⟨w.heap.size, 0, drawnCap w (len + n) cap' e - (len + n), ⟨w.heap.size, 0, none⟩, by rw [hsz]; exact upd_self _ _ _, ?_, .inl rfl⟩
              congr 1
              simp; omega
            · rw [run_append_grows ty h1 h2 hd h3 hrz rl re2 hos (by omega) hbig.1 hbig.2 hc]
              congr 1
              refine congrArg (fun hp => ({ heap := w.heap.push (.cells hp e), tape := w.tape, drawn := w.drawn + 1, os := w.os, output := w.output } : World)) ?_
              apply Array.ext'
              simp
          split at ha
          · -- the slice may have room that is not known
            rename_i b q
            split at ha
            · rename_i vs ty' fz hg
              split at ha
              · rename_i hcond
                obtain ⟨hty, hlc, hend, hone, hfr⟩ := hcond
                subst hty
                split at ha <;> cases ha
                rename_i hp
                obtain ⟨R, sh, ex, ad, hm, rfl, hz⟩ := hs
                obtain ⟨c, fzr, g1, g2, g3, g4, g5⟩ := hr.cells hg hm
                have g5 := g5 rfl
                simp only [if_true] at g4 hz
                rw [hcell] at g4
                have hlcs : len * i.size ≤ cap * i.size := Nat.mul_le_mul_right _ hlc
                have hold : VRL m (getR vs q (len * i.size)) (((c.toList.drop sh).take vs.length).drop q |>.take (len * i.size)) := g2.range q _
                by_cases hroom : len + n ≤ cap + ex
                · -- in place
                  have had : ad = ⟨R, sh + q, none⟩ := by
                    rcases hz with hz | ⟨_, hz, _⟩
                    · exact hz
                    · omega
                  subst had
                  have hmul : (len + n) * i.size ≤ (cap + ex) * i.size := Nat.mul_le_mul_right _ hroom
                  have hlen : new.length = n * i.size := length_elemsV hn (Nat.le_refl _) hnew
                  have hyl : ys.length = n * i.size := by rw [hys.length]; exact hlen
                  have hdist : (len + n) * i.size = len * i.size + n * i.size := Nat.add_mul _ _ _
                  have hdist2 : (cap + ex) * i.size = cap * i.size + ex * i.size := Nat.add_mul _ _ _
                  have hfree : ∀ j, sh + q + len * i.size ≤ j → j < sh + q + len * i.size + ys.length → ¬ (fzr.1 ≤ j ∧ j < fzr.2) := by
                    intro j hj1 hj2 ⟨hj3, hj4⟩
                    cases fz with
                    | none => simp only [FzOK] at g5; subst g5; simp at hj4
                    | some f =>
                      simp only [fzFree, decide_eq_true_eq] at hfr
                      simp only [FzOK] at g5
                      have g6 := g5.2 j hj3 hj4
                      split at g6 <;> omega
                  obtain ⟨w', c', e1, e2, e3⟩ := run_storeCells (P := P) (r := R) (o := sh + q + len * i.size) ys 0 c w g1 (hys.all_one hone) (by omega) (by simpa using hfree)
                  simp only [Nat.add_zero] at e3
                  have hcsz : c'.size = c.size := by
                    have : c'.toList.length = c.toList.length := by rw [e3]; simp; omega
                    simpa using this
                  have hcont : VRL m (getR vs q (len * i.size) ++ new) ((c'.toList.drop (sh + q)).take (len * i.size + n * i.size)) := by
                    have : (c'.toList.drop (sh + q)).take (len * i.size + n * i.size) = (((c.toList.drop sh).take vs.length).drop q).take (len * i.size) ++ ys := by
                      refine List.ext_getElem? fun j => ?_
                      rw [List.getElem?_take, e3, List.getElem?_drop]
                      rw [getElem?_splice c.toList ys (sh + q + len * i.size) (sh + q + j) (by simp; omega)]
                      have hl1 : ((((c.toList.drop sh).take vs.length).drop q).take (len * i.size)).length = len * i.size := by simp; omega
                      by_cases a1 : j < len * i.size
                      · rw [if_pos (by omega), if_pos (by omega), List.getElem?_append_left (by omega), List.getElem?_take, if_pos a1, List.getElem?_drop, List.getElem?_take, if_pos (by omega), List.getElem?_drop]
                        congr 1; omega
                      · rw [List.getElem?_append_right (by omega), hl1]
                        by_cases a2 : j < len * i.size + n * i.size
                        · rw [if_pos a2, if_neg (by omega), if_pos (by omega)]; congr 1; omega
                        · rw [if_neg a2, List.getElem?_eq_none (by omega)]
                    rw [this]
                    exact hold.append hys
                  have hol : (getR vs q (len * i.size)).length = len * i.size := by simp [getR]; omega
                  obtain ⟨k1, k2⟩ := hr.move (sh2 := sh + q) (e2 := cap + ex - (len + n)) hg rfl hm e2 hp (by
                    refine ⟨c', fzr, rfl, ?_, ?_, ?_⟩
                    · rw [List.length_append, hol, hlen]; exact hcont
                    · simp only [if_true]
                      rw [List.length_append, hol, hlen, hcell, hcsz, Nat.sub_mul]
                      omega
                    · intro _
                      rw [hcsz]
                      cases fz with
                      | none => exact g5
                      | some f =>
                        refine ⟨g5.1, fun j hj1 hj2 => ?_⟩
                        have g6 := g5.2 j hj1 hj2
                        by_cases hf0 : f = 0
                        · simp only [hf0, if_true] at g6 ⊢; exact g6
                        · simp only [hf0, if_false] at g6 ⊢
                          rw [if_neg (by omega)]
                          omega)
                  refine ⟨_, w', _, k1, k2, ⟨R, sh + q, cap + ex - (len + n), ⟨R, sh + q, none⟩, upd_self _ _ _, ?_, .inl rfl⟩, run_append_fits ty h1 h2 hd h3 rl re (by simp only [if_true]; exact hroom) ?_⟩
                  · congr 1
                    simp only [if_true]; omega
                  · simp only [add_at]; exact e1
                · -- it grows
                  obtain ⟨q1, q2⟩ := hr.kill hg
                  have hfirst : (Builtin.firstCells i.size len (.slice (some ad) len (cap + ex))).run P w.drew = .ok ((((c.toList.drop sh).take vs.length).drop q).take (len * i.size)).toArray w.drew := by
                    by_cases h0 : len * i.size = 0
                    · simp [Builtin.firstCells, h0, run_loadCells_zero]
                    · have had : ad = ⟨R, sh + q, none⟩ := by
                        rcases hz with hz | ⟨hz, _⟩
                        · exact hz
                        · simp [hz] at h0
                      subst had
                      simp only [Builtin.firstCells]
                      rw [run_loadCells (w := w.drew) g1 (by omega)]
                      congr 2
                      refine List.ext_getElem? fun j => ?_
                      rw [List.getElem?_take, List.getElem?_take, List.getElem?_drop, List.getElem?_drop, List.getElem?_take, List.getElem?_drop]
                      by_cases a1 : j < len * i.size
                      · rw [if_pos a1, if_pos a1, if_pos (by omega)]; congr 1; omega
                      · rw [if_neg a1, if_neg a1]
                  exact grow (h.set b .dead) m (some ad) (cap + ex) _ _ _ q1 q2 rfl (by omega) hold hfirst rfl hp rfl
              · cases ha
            · cases ha
          · rename_i hcase
            split at ha
            · cases ha
            · rename_i old hold
              split at ha <;> cases ha
              rename_i hp
              obtain ⟨os, ro, hos⟩ := run_elemsV hrd hs rfl (Nat.le_refl _) hold
              cases base with
              | none =>
                cases hs
                exact grow h m none cap old os none hr (Ext.refl _ _ _) rfl (by omega) hos ro rfl hp rfl
              | some b =>
                cases opn with
                | true => exact absurd rfl (hcase _ _ rfl ·)
                | false =>
                  obtain ⟨bi, bo⟩ := b
                  obtain ⟨R, sh, ex, ad, hm, rfl, hz⟩ := hs
                  simp only [Bool.false_eq_true, if_false, Nat.add_zero] at ro hz ⊢
                  exact grow h m (some ad) cap old os none hr (Ext.refl _ _ _) rfl (by omega) hos ro rfl hp rfl
        · cases ha
  · cases ha
end Go.AM
/-! Soundness, IX b: append of so many zeros. -/
namespace Go.AM
variable {P : Program} {m : Mp} {h : H} {w : World} {T : List V} {a : Act} {o : Oper} {k : K}

def appZV (h : H) (ty size bytes : Nat) (z : List V) (base : Option (Nat × Nat)) (len cap : Nat) (opn : Bool) (n : Int) : Option Res :=
      if 0 ≤ n ∧ n ≤ 1099511627776 ∧ n.toNat * bytes ≤ 281474976710656 then
        if len + n.toNat ≤ cap then
          match base with
          | none => some (.eff (.slice none (len + n.toNat) cap opn) h)
          | some (i, o) => match putCells h i (o + len * size) (List.replicate n.toNat z).flatten with
            | some h' => some (.eff (.slice base (len + n.toNat) cap opn) h')
            | none => none
        else if len + n.toNat ≤ 1099511627776 ∧ (2 * (len + n.toNat) + 1024) * bytes ≤ 281474976710656 ∧ opn = false then
          match elemsV h size len (.slice base len cap opn) with
          | none => none
          | some old => match h.push (.cells (old ++ (List.replicate n.toNat z).flatten) ty true false none) with
            | some h' => some (.eff (.slice (some (h.size, 0)) (len + n.toNat) (len + n.toNat) true) h')
            | none => none
        else none
      else none

theorem appZ_eff {h : H} {ty size bytes : Nat} {z : List V} {base : Option (Nat × Nat)} {len cap : Nat} {opn : Bool} {n : Int} {r : Res} (hr : appZV h ty size bytes z base len cap opn n = some r) : ∃ v h', r = .eff v h' := by
  unfold appZV at hr
  split at hr
  · split at hr
    · split at hr
      · cases hr; exact ⟨_, _, rfl⟩
      · split at hr <;> cases hr; exact ⟨_, _, rfl⟩
    · split at hr
      · split at hr
        · cases hr
        · split at hr <;> cases hr; exact ⟨_, _, rfl⟩
      · cases hr
  · cases hr

theorem wrap_small (n : Int) (h0 : 0 ≤ n) (h1 : n ≤ 1099511627776) : IntKind.i64.wrap n = n := by
  have h2 : n % 18446744073709551616 = n := Int.emod_eq_of_lt h0 (by omega)
  simp [IntKind.wrap, IntKind.bits, IntKind.signed, h2]
  omega

section run
variable {t u e : TypeId} {i : TypeInfo} {z : Value} {k' kx : IntKind}

theorem run_appendZ_fits (ty : TypeId) {base : Option Addr} {sLen sCap : Nat} {n : Int} {w' : World} (h1 : P.underlying t = some (.slice e)) (h2 : P.underlying u = some (.int k'))
    (h3 : P.info? e = some i) (h4 : ∀ w, (zeroValue e).run P w = .ok z w) (hz : z.cells.size = i.size) (n0 : 0 ≤ n) (n1 : n ≤ 1099511627776) (n2 : n.toNat * i.bytes ≤ 281474976710656) (hfit : sLen + n.toNat ≤ sCap)
    (hs : match base with | none => w' = w | some a => (storeCells (a.add (sLen * i.size)) (Builtin.zeroCells z.cells n.toNat).toList).run P w = .ok () w') :
    (Builtin.append_ #[t, u] ty #[.slice base sLen sCap, .int kx n]).run P w = .ok (.slice base (sLen + n.toNat) sCap) w' := by
  have hsz : (sizeOf e).run P w = .ok i.size w := by simp [sizeOf, run_typeInfo h3]
  have q0 : (#[t, u] : Array TypeId)[0]? = some t := rfl
  have q1 : (#[t, u] : Array TypeId)[1]? = some u := rfl
  have q2 : (#[Value.slice base sLen sCap, .int kx n] : Array Value)[0]? = some (.slice base sLen sCap) := rfl
  have q3 : (#[Value.slice base sLen sCap, .int kx n] : Array Value)[1]? = some (.int kx n) := rfl
  have hw := wrap_small n n0 n1
  have c0 : ¬ (n < 0) := by omega
  have c1 : ¬ (n * (i.bytes : Int) > 2 ^ 48) := by
    have : n * (i.bytes : Int) = ((n.toNat * i.bytes : Nat) : Int) := by rw [Int.natCast_mul]; congr 1; omega
    rw [this]; omega
  have happ : (if n.toNat * i.size = 0 then (pure #[] : Sem (Array Value)) else do pure (Builtin.zeroCells (← zeroValue e).cells n.toNat)).run P w = .ok (Builtin.zeroCells z.cells n.toNat) w := by
    by_cases h0 : n.toNat * i.size = 0
    · rw [if_pos h0]
      have : (Builtin.zeroCells z.cells n.toNat) = #[] := by
        apply Array.eq_empty_of_size_eq_zero
        rw [length_zeroCells, hz]; exact h0
      rw [this]; rfl
    · rw [if_neg h0]; simp [h4]
  simp only [Builtin.append_, q0, q1, q2, q3, Sem.run_bind, run_underlying h1, Result.andThen_ok, hsz, run_underlying h2]
  simp only [Sem.run_pure, Result.andThen_ok, if_true, Sem.run_bind, asInt, asIntOf, hw, c0, if_false, run_typeInfo h3, c1, Sem.run_ite, hfit, Bool.not_true, Bool.false_eq_true]
  simp only [Sem.run_ite, Sem.run_bind, Sem.run_pure] at happ
  rw [happ]
  cases base with
  | none => subst hs; rfl
  | some a => simp only at hs; simp [hs]

theorem run_appendZ_grows (ty : TypeId) {base : Option Addr} {sLen sCap : Nat} {n : Int} {old : List Value} (h1 : P.underlying t = some (.slice e)) (h2 : P.underlying u = some (.int k'))
    (h3 : P.info? e = some i) (h4 : ∀ w, (zeroValue e).run P w = .ok z w) (hz : z.cells.size = i.size) (n0 : 0 ≤ n) (n1 : n ≤ 1099511627776) (n2 : n.toNat * i.bytes ≤ 281474976710656)
    (ho : (Builtin.firstCells i.size sLen (.slice base sLen sCap)).run P w.drew = .ok old.toArray w.drew) (hfit : ¬ sLen + n.toNat ≤ sCap)
    (hb1 : sLen + n.toNat ≤ 1099511627776) (hb2 : (2 * (sLen + n.toNat) + 1024) * i.bytes ≤ 281474976710656) :
    (Builtin.append_ #[t, u] ty #[.slice base sLen sCap, .int kx n]).run P w =
      .ok (.slice (some ⟨w.heap.size, 0, none⟩) (sLen + n.toNat) (drawnCap w (sLen + n.toNat) sCap e))
        { w.drew with heap := w.heap.push (.cells (old.toArray ++ Builtin.zeroCells z.cells n.toNat ++ Builtin.zeroCells z.cells (drawnCap w (sLen + n.toNat) sCap e - (sLen + n.toNat))) e) } := by
  have hsz : ∀ w, (sizeOf e).run P w = .ok i.size w := fun w => by simp [sizeOf, run_typeInfo h3]
  have q0 : (#[t, u] : Array TypeId)[0]? = some t := rfl
  have q1 : (#[t, u] : Array TypeId)[1]? = some u := rfl
  have q2 : (#[Value.slice base sLen sCap, .int kx n] : Array Value)[0]? = some (.slice base sLen sCap) := rfl
  have q3 : (#[Value.slice base sLen sCap, .int kx n] : Array Value)[1]? = some (.int kx n) := rfl
  have hw := wrap_small n n0 n1
  have c0 : ¬ (n < 0) := by omega
  have c1 : ¬ (n * (i.bytes : Int) > 2 ^ 48) := by
    have : n * (i.bytes : Int) = ((n.toNat * i.bytes : Nat) : Int) := by rw [Int.natCast_mul]; congr 1; omega
    rw [this]; omega
  have happ : (if n.toNat * i.size = 0 then (pure #[] : Sem (Array Value)) else do pure (Builtin.zeroCells (← zeroValue e).cells n.toNat)).run P w.drew = .ok (Builtin.zeroCells z.cells n.toNat) w.drew := by
    by_cases h0 : n.toNat * i.size = 0
    · rw [if_pos h0]
      have : (Builtin.zeroCells z.cells n.toNat) = #[] := by
        apply Array.eq_empty_of_size_eq_zero
        rw [length_zeroCells, hz]; exact h0
      rw [this]; rfl
    · rw [if_neg h0]; simp [h4]
  have d1 : ¬ (((sLen + n.toNat : Nat) : Int) > IntKind.i64.max) := by simp [IntKind.max, IntKind.signed, IntKind.bits]; omega
  have d2 : ¬ (Builtin.nextslicecap (sLen + n.toNat) sCap * i.bytes > 2 ^ 48) := by
    have := Nat.mul_le_mul_right i.bytes (nextslicecap_le (need := sLen + n.toNat) (cap := sCap) (by omega))
    omega
  simp only [Builtin.append_, q0, q1, q2, q3, Sem.run_bind, run_underlying h1, Result.andThen_ok, hsz, run_underlying h2]
  simp only [Sem.run_pure, Result.andThen_ok, if_true, Sem.run_bind, asInt, asIntOf, hw, c0, if_false, run_typeInfo h3, c1, Sem.run_ite, hfit, Bool.not_true, Bool.false_eq_true, d1, false_and, d2,
    run_choose, Question.forced, run_askRoom]
  simp only [Sem.run_ite, Sem.run_bind, Sem.run_pure] at happ
  simp [ho, h4, newRow, drawnCap]
  by_cases h0 : n.toNat * i.size = 0
  · have hemp : Builtin.zeroCells z.cells n.toNat = #[] := by
      apply Array.eq_empty_of_size_eq_zero
      rw [length_zeroCells, hz]; exact h0
    rw [if_pos h0, hemp, Array.empty_append]
    rfl
  · rw [if_neg h0]
    rfl
end run

theorem appZ_sound {t u e ty : TypeId} {i : TypeInfo} {zv : V} {k' kx : IntKind} {base : Option (Nat × Nat)} {len cap : Nat} {opn : Bool} {n : Int} {S : Value} {h' : H} {v : V} (hr : HR P m h w) (h1 : P.underlying t = some (.slice e)) (h2 : P.underlying u = some (.int k'))
    (h3 : P.info? e = some i) (h4 : zeroT P e = some zv) (h5 : zv.cells.length = i.size) (hs : VR m (.slice base len cap opn) S) (ha : appZV h e i.size i.bytes zv.cells base len cap opn n = some (.eff v h')) :
    ∃ m' w' y, HR P m' h' w' ∧ Ext m h w m' h' w' ∧ VR m' v y ∧ (Builtin.append_ #[t, u] ty #[S, .int kx n]).run P w = .ok y w' := by
  obtain ⟨z, hz, hrz⟩ := zeroT_spec (m := m) h4
  have hzs : z.cells.size = i.size := by rw [← Array.length_toList, (VR.cells hz).length]; exact h5
  have hcell : P.cellsOf e = i.size := by simp [Program.cellsOf, h3]
  have hzc : (Builtin.zeroCells z.cells n.toNat).toList = (List.replicate n.toNat z.cells.toList).flatten := by
    unfold Builtin.zeroCells; exact range_mod _ _
  have hnew : VRL m (List.replicate n.toNat zv.cells).flatten (Builtin.zeroCells z.cells n.toNat).toList := by rw [hzc]; exact VRL.flatten (VR.cells hz) _
  unfold appZV at ha
  split at ha
  · rename_i hn
    obtain ⟨n0, n1, n2⟩ := hn
    split at ha
    · rename_i hfit
      split at ha
      · cases ha
        cases hs
        exact ⟨m, w, _, hr, Ext.refl _ _ _, rfl, run_appendZ_fits ty h1 h2 h3 hrz hzs n0 n1 n2 hfit rfl⟩
      · rename_i b q
        split at ha <;> cases ha
        rename_i hp
        obtain ⟨R, sh, ex, ad, hm, rfl, hzz⟩ := hs
        by_cases had : ad = ⟨R, sh + q, none⟩
        · subst had
          obtain ⟨w', e1, e2, e3⟩ := putCells_sound hr hm hnew hp
          refine ⟨m, w', _, e2, e3, ⟨R, sh, ex, _, hm, rfl, .inl rfl⟩, run_appendZ_fits ty h1 h2 h3 hrz hzs n0 n1 n2 (by omega) ?_⟩
          simp only [add_at]
          rw [Nat.add_assoc] at *
          exact e1
        · obtain ⟨hl0, hc0, hb0⟩ := hzz.resolve_left had
          have hn0 : n.toNat = 0 := by omega
          have hh : h' = h := by simpa [putCells, hn0] using hp.symm
          subst hh
          refine ⟨m, w, _, hr, Ext.refl _ _ _, ⟨R, sh, ex, ad, hm, rfl, .inr ⟨by omega, hc0, hb0⟩⟩, run_appendZ_fits ty h1 h2 h3 hrz hzs n0 n1 n2 (by omega) ?_⟩
          simp [hn0, Builtin.zeroCells, storeCells]
    · rename_i hfit
      split at ha
      · rename_i hbig
        obtain ⟨b1, b2, rfl⟩ := hbig
        split at ha
        · cases ha
        · rename_i old hold
          split at ha <;> cases ha
          rename_i hp
          have hrd := hr.drew (Drew.one w)
          obtain ⟨os, ro, hos⟩ := run_elemsV hrd hs rfl (Nat.le_refl _) hold
          have grow : ∀ base', S = .slice base' len cap → ∃ m' w' y, HR P m' h' w' ∧ Ext m h w m' h' w' ∧ VR m' (.slice (some (h.size, 0)) (len + n.toNat) (len + n.toNat) true) y ∧ (Builtin.append_ #[t, u] ty #[S, .int kx n]).run P w = .ok y w' := by
            rintro base' rfl
            have hge := drawnCap_ge w (len + n.toNat) cap e
            obtain ⟨g1, g2⟩ := hr.push (e := drawnCap w (len + n.toNat) cap e - (len + n.toNat)) hp
              (New.of_drew (Drew.one w) (New.alloc w.drew (.cells ((os ++ (Builtin.zeroCells z.cells n.toNat).toList) ++ (Builtin.zeroCells z.cells (drawnCap w (len + n.toNat) cap e - (len + n.toNat))).toList).toArray e)))
              (OR.opened (hos.append hnew) (by rw [Array.length_toList, length_zeroCells, hzs, hcell]; exact Nat.le_refl _) (by simp [FzOK]))
            refine ⟨_, _, .slice (some ⟨w.heap.size, 0, none⟩) (len + n.toNat) (drawnCap w (len + n.toNat) cap e), g1, g2, ?_, ?_⟩
            · refine ⟨w.heap.size, 0, drawnCap w (len + n.toNat) cap e - (len + n.toNat), ⟨w.heap.size, 0, none⟩, upd_self _ _ _, ?_, .inl rfl⟩
              congr 1
              simp; omega
            · rw [run_appendZ_grows ty h1 h2 h3 hrz hzs n0 n1 n2 ro hfit b1 b2]
              congr 1
              refine congrArg (fun hp => ({ heap := w.heap.push (.cells hp e), tape := w.tape, drawn := w.drawn + 1, os := w.os, output := w.output } : World)) ?_
              apply Array.ext'
              simp
          cases base with
          | none => cases hs; exact grow none rfl
          | some b =>
            obtain ⟨bi, bo⟩ := b
            obtain ⟨R, sh, ex, ad, hm, rfl, hzz⟩ := hs
            exact grow (some ad) (by simp)
      · cases ha
  · cases ha
end Go.AM
