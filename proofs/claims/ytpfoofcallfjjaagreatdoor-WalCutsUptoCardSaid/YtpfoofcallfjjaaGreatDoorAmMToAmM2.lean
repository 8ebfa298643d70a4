/- My own texts, laid for this claim. -/
import Derived.Test.YtpfoofcallfjjaaGreatDoorAmFToAmL
import Derived.Laws.BytesString
import Derived.Laws.Externs
import Derived.Lib.MakeNoZero
import Derived.Lib.UnsafeStr
set_option linter.unusedSimpArgs false
set_option linter.unusedVariables false
/-! Soundness, IX: append and copy. -/
namespace Go.AM
variable {P : Program} {m : Mp} {h : H} {w : World} {T : List V} {a : Act} {o : Oper} {k : K}

theorem run_lenV {v : V} {x : Value} {n : Nat} (hv : VR m v x) (hn : lenV v = some n) : (Builtin.lenOf x).run P w = .ok n w := by
  cases v <;> simp only [lenV] at hn <;> try cases hn
  · cases hv; simp [Builtin.lenOf, ByteArray.size]
  · rename_i p c q
    cases p with
    | none => cases hv; rfl
    | some p => obtain ⟨_, _, _, _, _, rfl, _⟩ := hv; rfl

theorem run_elemsV (hr : HR P m h w) {v : V} {x : Value} {size n n0 : Nat} {cs : List V} (hv : VR m v x) (hl : lenV v = some n0) (hn : n ≤ n0) (hc : elemsV h size n v = some cs) :
    ∃ xs : List Value, (Builtin.firstCells size n x).run P w = .ok xs.toArray w ∧ VRL m cs xs := by
  cases v <;> simp only [lenV] at hl <;> try cases hl
  · rename_i s
    cases hv
    simp only [elemsV] at hc
    split at hc <;> cases hc
    refine ⟨(s.take n).map fun b => .int .u8 b.toNat, ?_, ?_⟩
    · simp only [Builtin.firstCells, Sem.run_pure]
      congr 1
      apply Array.ext'
      simp [ByteArray.extract, ByteArray.copySlice, List.extract_eq_take_drop]
    · refine VRL.of_get (by simp) fun i u hu => ?_
      simp only [List.getElem?_map, Option.map_eq_some_iff] at hu ⊢
      obtain ⟨b, hb, rfl⟩ := hu
      exact ⟨_, ⟨b, hb, rfl⟩, rfl⟩
  · rename_i p c q
    cases p with
    | none =>
      cases hv
      simp only [elemsV] at hc
      split at hc <;> cases hc
      exact ⟨[], rfl, rfl⟩
    | some p =>
      obtain ⟨i, of⟩ := p
      obtain ⟨R, sh, ex, ad, hm, rfl, hz⟩ := hv
      simp only [elemsV] at hc
      split at hc
      · rename_i h0
        cases hc
        exact ⟨[], by simp [Builtin.firstCells, h0, run_loadCells_zero], rfl⟩
      · rename_i h0
        split at hc
        · rename_i vs ty op ro fz hg
          split at hc <;> cases hc
          rename_i hle
          have had : ad = ⟨R, sh + of, none⟩ := by
            rcases hz with hz | ⟨hz, _⟩
            · exact hz
            · exfalso; apply h0; have : n = 0 := by omega
              simp [this]
          subst had
          obtain ⟨xs, e1, e2⟩ := hr.loadN hg hm hle
          exact ⟨xs, by simpa [Builtin.firstCells] using e1, e2⟩
        · cases hc

theorem length_elemsV {v : V} {size n n0 : Nat} {cs : List V} (hl : lenV v = some n0) (hn : n ≤ n0) (hc : elemsV h size n v = some cs) : cs.length = n * size := by
  cases v <;> simp only [lenV] at hl <;> try cases hl
  · simp only [elemsV] at hc
    split at hc <;> cases hc
    rename_i hs
    subst hs
    simp; omega
  · rename_i p c q
    cases p with
    | none =>
      simp only [elemsV] at hc
      split at hc <;> cases hc
      rename_i h0; simp [h0]
    | some p =>
      obtain ⟨i, of⟩ := p
      simp only [elemsV] at hc
      split at hc
      · rename_i h0; cases hc; simp [h0]
      · split at hc
        · split at hc <;> cases hc
          rename_i hle
          simp [getR]; omega
        · cases hc

theorem growBy_le (need : Nat) : ∀ (k c : Nat), c < need → Builtin.growBy need k c ≤ need + (need + 768) / 4 + 1
  | 0, c, hc => by simp only [Builtin.growBy]; omega
  | k + 1, c, hc => by
    simp only [Builtin.growBy]
    rw [if_neg (by omega)]
    by_cases h2 : c + (c + 768) / 4 < need
    · exact growBy_le need k _ h2
    · cases k with
      | zero => simp only [Builtin.growBy]; omega
      | succ k => simp only [Builtin.growBy]; rw [if_pos (by omega)]; omega

theorem nextslicecap_le {need cap : Nat} (hc : cap < need) : Builtin.nextslicecap need cap ≤ 2 * need + 1024 := by
  unfold Builtin.nextslicecap
  split
  · omega
  · split
    · omega
    · have := growBy_le need 4 cap hc; omega

/-- The new capacity that append draws. -/
def drawnCap (w : World) (need cap : Nat) (e : TypeId) : Nat := (Question.appendCap need cap e).cut (w.tape w.drawn (.appendCap need cap e))
theorem drawnCap_ge (w : World) (need cap : Nat) (e : TypeId) : need ≤ drawnCap w need cap e := by simp [drawnCap, Question.cut]

section run
variable {t u e : TypeId} {i : TypeInfo} {z : Value} {d : TypeDesc}

theorem run_append_fits (ty : TypeId) {base : Option Addr} {sLen sCap n : Nat} {x : Value} {new : List Value} {w' : World} (h1 : P.underlying t = some (.slice e)) (h2 : P.underlying u = some d) (hd : ∀ k, d ≠ .int k)
    (h3 : P.info? e = some i) (hn : (Builtin.lenOf x).run P w = .ok n w) (hx : (Builtin.firstCells i.size n x).run P w = .ok new.toArray w) (hfit : sLen + n ≤ sCap)
    (hs : match base with | none => w' = w | some a => (storeCells (a.add (sLen * i.size)) new).run P w = .ok () w') :
    (Builtin.append_ #[t, u] ty #[.slice base sLen sCap, x]).run P w = .ok (.slice base (sLen + n) sCap) w' := by
  have hsz : (sizeOf e).run P w = .ok i.size w := by simp [sizeOf, run_typeInfo h3]
  have q0 : (#[t, u] : Array TypeId)[0]? = some t := rfl
  have q1 : (#[t, u] : Array TypeId)[1]? = some u := rfl
  have q2 : (#[Value.slice base sLen sCap, x] : Array Value)[0]? = some (.slice base sLen sCap) := rfl
  have q3 : (#[Value.slice base sLen sCap, x] : Array Value)[1]? = some x := rfl
  simp only [Builtin.append_, q0, q1, q2, q3, Sem.run_bind, run_underlying h1, Result.andThen_ok, hsz, run_underlying h2]
  simp only [Sem.run_pure, Result.andThen_ok, Bool.false_eq_true, if_false, hn, Bool.not_false, if_true, Sem.run_ite, hfit, Sem.run_bind, hx]
  cases base with
  | none => subst hs; rfl
  | some a => simp only at hs; simp [hs]

theorem run_append_grows (ty : TypeId) {base : Option Addr} {sLen sCap n : Nat} {x : Value} {old new : List Value} (h1 : P.underlying t = some (.slice e)) (h2 : P.underlying u = some d) (hd : ∀ k, d ≠ .int k)
    (h3 : P.info? e = some i) (h4 : ∀ w, (zeroValue e).run P w = .ok z w) (hn : (Builtin.lenOf x).run P w = .ok n w)
    (hx : (Builtin.firstCells i.size n x).run P w.drew = .ok new.toArray w.drew)
    (ho : (Builtin.firstCells i.size sLen (.slice base sLen sCap)).run P w.drew = .ok old.toArray w.drew) (hfit : ¬ sLen + n ≤ sCap)
    (hb1 : sLen + n ≤ 1099511627776) (hb2 : (2 * (sLen + n) + 1024) * i.bytes ≤ 281474976710656) (hc : sCap < sLen + n) :
    (Builtin.append_ #[t, u] ty #[.slice base sLen sCap, x]).run P w =
      .ok (.slice (some ⟨w.heap.size, 0, none⟩) (sLen + n) (drawnCap w (sLen + n) sCap e))
        { w.drew with heap := w.heap.push (.cells (old.toArray ++ new.toArray ++ Builtin.zeroCells z.cells (drawnCap w (sLen + n) sCap e - (sLen + n))) e) } := by
  have hsz : ∀ w, (sizeOf e).run P w = .ok i.size w := fun w => by simp [sizeOf, run_typeInfo h3]
  have q0 : (#[t, u] : Array TypeId)[0]? = some t := rfl
  have q1 : (#[t, u] : Array TypeId)[1]? = some u := rfl
  have q2 : (#[Value.slice base sLen sCap, x] : Array Value)[0]? = some (.slice base sLen sCap) := rfl
  have q3 : (#[Value.slice base sLen sCap, x] : Array Value)[1]? = some x := rfl
  have c1 : ¬ (((sLen + n : Nat) : Int) > IntKind.i64.max) := by simp [IntKind.max, IntKind.signed, IntKind.bits]; omega
  have c2 : ¬ (Builtin.nextslicecap (sLen + n) sCap * i.bytes > 2 ^ 48) := by
    have := Nat.mul_le_mul_right i.bytes (nextslicecap_le hc)
    omega
  simp only [Builtin.append_, q0, q1, q2, q3, Sem.run_bind, run_underlying h1, Result.andThen_ok, hsz, run_underlying h2]
  simp only [Sem.run_pure, Result.andThen_ok, Bool.false_eq_true, if_false, hn, Bool.not_false, if_true, Sem.run_ite, hfit, Sem.run_bind, run_typeInfo h3, c1, false_and, c2, Sem.run_pure,
    run_choose, Question.forced, run_askRoom]
  simp [ho, hx, h4, newRow, drawnCap]
  refine congrArg (fun hp => ({ heap := hp, tape := w.tape, drawn := w.drawn + 1, os := w.os, output := w.output } : World)) ?_
  simp [← Array.append_assoc]
  rfl
end run

theorem length_zeroCells (z : Array Value) (n : Nat) : (Builtin.zeroCells z n).size = n * z.size := by simp [Builtin.zeroCells]

theorem VRL.all_one {ws : List V} {ys : List Value} (hw : VRL m ws ys) (h1 : ws.all V.one = true) : ∀ y ∈ ys, y.oneCell' = true := by
  intro y hy
  obtain ⟨j, hj, rfl⟩ := List.getElem_of_mem hy
  have hjw : j < ws.length := by rw [← hw.length]; exact hj
  obtain ⟨z, hz, hzr⟩ := hw.get (i := j) (v := ws[j]) (by simp [hjw])
  have : ys[j] = z := by simpa [hj] using hz
  rw [this]
  exact VR.one hzr (List.all_eq_true.1 h1 _ (List.getElem_mem hjw))

set_option maxHeartbeats 1000000 in
theorem appV_sound {t u e ty : TypeId} {i : TypeInfo} {zv : V} {d : TypeDesc} {s x : V} {S X : Value} {h' : H} {v : V} (hr : HR P m h w) (h1 : P.underlying t = some (.slice e)) (h2 : P.underlying u = some d) (hd : ∀ k, d ≠ .int k)
    (h3 : P.info? e = some i) (h4 : zeroT P e = some zv) (h5 : zv.cells.length = i.size) (hs : VR m s S) (hx : VR m x X) (ha : appV h e i.size i.bytes s x = some (.eff v h')) :
    ∃ m' w' y, HR P m' h' w' ∧ Ext m h w m' h' w' ∧ VR m' v y ∧ (Builtin.append_ #[t, u] ty #[S, X]).run P w = .ok y w' := by
  obtain ⟨z, hz, hrz⟩ := zeroT_spec (m := m) h4
  have hzs : z.cells.size = i.size := by rw [← Array.length_toList, (VR.cells hz).length]; exact h5
  have hcell : P.cellsOf e = i.size := by simp [Program.cellsOf, h3]
  unfold appV at ha
  split at ha
  · rename_i base len cap opn n hn
    split at ha
    · cases ha
    · rename_i new hnew
      have rl := run_lenV (P := P) (w := w) hx hn
      obtain ⟨ys, re, hys⟩ := run_elemsV hr hx hn (Nat.le_refl _) hnew
      have hrd := hr.drew (Drew.one w)
      obtain ⟨ys2, re2, hys2⟩ := run_elemsV hrd hx hn (Nat.le_refl _) hnew
      simp only at ha
      split at ha
      · -- there is room
        rename_i hfit
        split at ha
        · -- nil
          cases ha
          cases hs
          exact ⟨m, w, _, hr, Ext.refl _ _ _, rfl, run_append_fits ty h1 h2 hd h3 rl re hfit rfl⟩
        · rename_i b q
          split at ha <;> cases ha
          rename_i hp
          obtain ⟨R, sh, ex, ad, hm, rfl, hz⟩ := hs
          by_cases had : ad = ⟨R, sh + q, none⟩
          · subst had
            obtain ⟨w', e1, e2, e3⟩ := putCells_sound hr hm hys hp
            refine ⟨m, w', _, e2, e3, ⟨R, sh, ex, _, hm, rfl, .inl rfl⟩, run_append_fits ty h1 h2 hd h3 rl re (by omega) ?_⟩
            simp only [add_at]
            rw [Nat.add_assoc] at *
            exact e1
          · -- an empty slice without room
            obtain ⟨hl0, hc0, hb0⟩ := hz.resolve_left had
            have hn0 : n = 0 := by omega
            subst hn0; subst hl0
            have hnew0 : new = [] := List.length_eq_zero_iff.1 (by rw [length_elemsV hn (Nat.le_refl _) hnew]; simp)
            subst hnew0
            cases hys
            have hh : h' = h := by
              simpa [putCells] using hp.symm
            subst hh
            refine ⟨m, w, _, hr, Ext.refl _ _ _, ⟨R, sh, ex, ad, hm, rfl, .inr ⟨by omega, hc0, hb0⟩⟩, run_append_fits ty h1 h2 hd h3 rl re (by omega) ?_⟩
            simp [storeCells]
      · rename_i hfit
        split at ha
        · rename_i hbig
          -- a new real block, whatever the abstract heap then is
          have grow : ∀ (h1' : H) (m1 : Mp) (base' : Option Addr) (cap' : Nat) (old : List V) (os : List Value) (fz : Option Nat), HR P m h1' w → Ext m h w m h1' w → S = .slice base' len cap' → cap' < len + n → VRL m old os →
              (Builtin.firstCells i.size len (.slice base' len cap')).run P w.drew = .ok os.toArray w.drew → h1'.size = h.size → h1'.push (.cells (old ++ new) e true false fz) = some h' → v = .slice (some (h.size, 0)) (len + n) (len + n) true →
              ∃ m' w' y, HR P m' h' w' ∧ Ext m h w m' h' w' ∧ VR m' v y ∧ (Builtin.append_ #[t, u] ty #[S, X]).run P w = .ok y w' := by
            intro h1' m1 base' cap' old os fz hr1 hx1 hS hc hold hos hsz hp hv
            subst hS; subst hv
            have hge := drawnCap_ge w (len + n) cap' e
            obtain ⟨g1, g2⟩ := hr1.push (e := drawnCap w (len + n) cap' e - (len + n)) hp
              (New.of_drew (Drew.one w) (New.alloc w.drew (.cells ((os ++ ys2) ++ (Builtin.zeroCells z.cells (drawnCap w (len + n) cap' e - (len + n))).toList).toArray e)))
              (OR.opened (hold.append hys2) (by rw [Array.length_toList, length_zeroCells, hzs, hcell]; exact Nat.le_refl _) (by cases fz <;> simp [FzOK]))
            refine ⟨_, _, .slice (some ⟨w.heap.size, 0, none⟩) (len + n) (drawnCap w (len + n) cap' e), g1, hx1.trans g2, ?_, ?_⟩
            · refine ⟨w.heap.size, 0, drawnCap w (len + n) cap' e - (len + n), ⟨w.heap.size, 0, none⟩, by rw [hsz]; exact upd_self _ _ _, ?_, .inl rfl⟩
              congr 1
              simp; omega
            · rw [run_append_grows ty h1 h2 hd h3 hrz rl re2 hos (by omega) hbig.1 hbig.2 hc]
              congr 1
              refine congrArg (fun hp => ({ heap := w.heap.push (.cells hp e), tape := w.tape, drawn := w.drawn + 1, os := w.os, output := w.output } : World)) ?_
              apply Array.ext'
              simp
          split at ha
          · -- the slice may have room that is not known
            rename_i b q
            split at ha
            · rename_i vs ty' fz hg
              split at ha
              · rename_i hcond
                obtain ⟨hty, hlc, hend, hone, hfr⟩ := hcond
                subst hty
                split at ha <;> cases ha
                rename_i hp
                obtain ⟨R, sh, ex, ad, hm, rfl, hz⟩ := hs
                obtain ⟨c, fzr, g1, g2, g3, g4, g5⟩ := hr.cells hg hm
                have g5 := g5 rfl
                simp only [if_true] at g4 hz
                rw [hcell] at g4
                have hlcs : len * i.size ≤ cap * i.size := Nat.mul_le_mul_right _ hlc
                have hold : VRL m (getR vs q (len * i.size)) (((c.toList.drop sh).take vs.length).drop q |>.take (len * i.size)) := g2.range q _
                by_cases hroom : len + n ≤ cap + ex
                · -- in place
                  have had : ad = ⟨R, sh + q, none⟩ := by
                    rcases hz with hz | ⟨_, hz, _⟩
                    · exact hz
                    · omega
                  subst had
                  have hmul : (len + n) * i.size ≤ (cap + ex) * i.size := Nat.mul_le_mul_right _ hroom
                  have hlen : new.length = n * i.size := length_elemsV hn (Nat.le_refl _) hnew
                  have hyl : ys.length = n * i.size := by rw [hys.length]; exact hlen
                  have hdist : (len + n) * i.size = len * i.size + n * i.size := Nat.add_mul _ _ _
                  have hdist2 : (cap + ex) * i.size = cap * i.size + ex * i.size := Nat.add_mul _ _ _
                  have hfree : ∀ j, sh + q + len * i.size ≤ j → j < sh + q + len * i.size + ys.length → ¬ (fzr.1 ≤ j ∧ j < fzr.2) := by
                    intro j hj1 hj2 ⟨hj3, hj4⟩
                    cases fz with
                    | none => simp only [FzOK] at g5; subst g5; simp at hj4
                    | some f =>
                      simp only [fzFree, decide_eq_true_eq] at hfr
                      simp only [FzOK] at g5
                      have g6 := g5.2 j hj3 hj4
                      split at g6 <;> omega
                  obtain ⟨w', c', e1, e2, e3⟩ := run_storeCells (P := P) (r := R) (o := sh + q + len * i.size) ys 0 c w g1 (hys.all_one hone) (by omega) (by simpa using hfree)
                  simp only [Nat.add_zero] at e3
                  have hcsz : c'.size = c.size := by
                    have : c'.toList.length = c.toList.length := by rw [e3]; simp; omega
                    simpa using this
                  have hcont : VRL m (getR vs q (len * i.size) ++ new) ((c'.toList.drop (sh + q)).take (len * i.size + n * i.size)) := by
                    have : (c'.toList.drop (sh + q)).take (len * i.size + n * i.size) = (((c.toList.drop sh).take vs.length).drop q).take (len * i.size) ++ ys := by
                      refine List.ext_getElem? fun j => ?_
                      rw [List.getElem?_take, e3, List.getElem?_drop]
                      rw [getElem?_splice c.toList ys (sh + q + len * i.size) (sh + q + j) (by simp; omega)]
                      have hl1 : ((((c.toList.drop sh).take vs.length).drop q).take (len * i.size)).length = len * i.size := by simp; omega
                      by_cases a1 : j < len * i.size
                      · rw [if_pos (by omega), if_pos (by omega), List.getElem?_append_left (by omega), List.getElem?_take, if_pos a1, List.getElem?_drop, List.getElem?_take, if_pos (by omega), List.getElem?_drop]
                        congr 1; omega
                      · rw [List.getElem?_append_right (by omega), hl1]
                        by_cases a2 : j < len * i.size + n * i.size
                        · rw [if_pos a2, if_neg (by omega), if_pos (by omega)]; congr 1; omega
                        · rw [if_neg a2, List.getElem?_eq_none (by omega)]
                    rw [this]
                    exact hold.append hys
                  have hol : (getR vs q (len * i.size)).length = len * i.size := by simp [getR]; omega
                  obtain ⟨k1, k2⟩ := hr.move (sh2 := sh + q) (e2 := cap + ex - (len + n)) hg rfl hm e2 hp (by
                    refine ⟨c', fzr, rfl, ?_, ?_, ?_⟩
                    · rw [List.length_append, hol, hlen]; exact hcont
                    · simp only [if_true]
                      rw [List.length_append, hol, hlen, hcell, hcsz, Nat.sub_mul]
                      omega
                    · intro _
                      rw [hcsz]
                      cases fz with
                      | none => exact g5
                      | some f =>
                        refine ⟨g5.1, fun j hj1 hj2 => ?_⟩
                        have g6 := g5.2 j hj1 hj2
                        by_cases hf0 : f = 0
                        · simp only [hf0, if_true] at g6 ⊢; exact g6
                        · simp only [hf0, if_false] at g6 ⊢
                          rw [if_neg (by omega)]
                          omega)
                  refine ⟨_, w', _, k1, k2, ⟨R, sh + q, cap + ex - (len + n), ⟨R, sh + q, none⟩, upd_self _ _ _, ?_, .inl rfl⟩, run_append_fits ty h1 h2 hd h3 rl re (by simp only [if_true]; exact hroom) ?_⟩
                  · congr 1
                    simp only [if_true]; omega
                  · simp only [add_at]; exact e1
                · -- it grows
                  obtain ⟨q1, q2⟩ := hr.kill hg
                  have hfirst : (Builtin.firstCells i.size len (.slice (some ad) len (cap + ex))).run P w.drew = .ok ((((c.toList.drop sh).take vs.length).drop q).take (len * i.size)).toArray w.drew := by
                    by_cases h0 : len * i.size = 0
                    · simp [Builtin.firstCells, h0, run_loadCells_zero]
                    · have had : ad = ⟨R, sh + q, none⟩ := by
                        rcases hz with hz | ⟨hz, _⟩
                        · exact hz
                        · simp [hz] at h0
                      subst had
                      simp only [Builtin.firstCells]
                      rw [run_loadCells (w := w.drew) g1 (by omega)]
                      congr 2
                      refine List.ext_getElem? fun j => ?_
                      rw [List.getElem?_take, List.getElem?_take, List.getElem?_drop, List.getElem?_drop, List.getElem?_take, List.getElem?_drop]
                      by_cases a1 : j < len * i.size
                      · rw [if_pos a1, if_pos a1, if_pos (by omega)]; congr 1; omega
                      · rw [if_neg a1, if_neg a1]
                  exact grow (h.set b .dead) m (some ad) (cap + ex) _ _ _ q1 q2 rfl (by omega) hold hfirst rfl hp rfl
              · cases ha
            · cases ha
          · rename_i hcase
            split at ha
            · cases ha
            · rename_i old hold
              split at ha <;> cases ha
              rename_i hp
              obtain ⟨os, ro, hos⟩ := run_elemsV hrd hs rfl (Nat.le_refl _) hold
              cases base with
              | none =>
                cases hs
                exact grow h m none cap old os none hr (Ext.refl _ _ _) rfl (by omega) hos ro rfl hp rfl
              | some b =>
                cases opn with
                | true => exact absurd rfl (hcase _ _ rfl ·)
                | false =>
                  obtain ⟨bi, bo⟩ := b
                  obtain ⟨R, sh, ex, ad, hm, rfl, hz⟩ := hs
                  simp only [Bool.false_eq_true, if_false, Nat.add_zero] at ro hz ⊢
                  exact grow h m (some ad) cap old os none hr (Ext.refl _ _ _) rfl (by omega) hos ro rfl hp rfl
        · cases ha
  · cases ha
end Go.AM
/-! Soundness, X: maps, iterators, bytes and texts, the other builtins. -/
namespace Go.AM
variable {P : Program} {m : Mp} {h : H} {w : World} {T : List V} {a : Act} {o : Oper} {k : K}

/-! ### blocks that are no cells -/
theorem run_getObj {r : Nat} {ob : Go.Obj} (hb : w.heap[r]? = some ob) (hn : ∀ c t f, ob ≠ .cells c t f) : (getObj r).run P w = .ok ob w := by
  cases ob <;> first | (simp only [getObj, Sem.run, hb]; done) | exact absurd rfl (hn _ _ _)
theorem run_setObj {r : Nat} {ob ob' : Go.Obj} (hb : w.heap[r]? = some ob) (hn : ∀ c t f, ob ≠ .cells c t f) : (setObj r ob').run P w = .ok () { w with heap := w.heap.setIfInBounds r ob' } := by
  cases ob <;> first | (simp only [setObj, Sem.run, hb]; done) | exact absurd rfl (hn _ _ _)
theorem Upd.setObj {r : Nat} {ob ob' : Go.Obj} (hb : w.heap[r]? = some ob) : Upd w r ob' { w with heap := w.heap.setIfInBounds r ob' } := by
  have hr : r < w.heap.size := by
    rcases Nat.lt_or_ge r w.heap.size with h | h
    · exact h
    · simp [Array.getElem?_eq_none h] at hb
  refine ⟨by simp, by simp [hr], fun b hb => ?_, rfl, rfl, rfl, Nat.le_refl _⟩
  simp [Ne.symm hb]

theorem HR.map {i r sh e : Nat} {es : List (V × V × Nat)} {cl : Nat} (hr : HR P m h w) (hg : h.get i = some (.map es cl)) (hm : m i = some (r, sh, e)) :
    ∃ es', w.heap[r]? = some (.map es' cl) ∧ ER m es es'.toList := by
  obtain ⟨r', sh', e', ob, h1, h2, es', rfl, h3⟩ := hr.obj i _ hg rfl
  rw [hm] at h1; cases h1
  exact ⟨es', h2, h3⟩

theorem ER.length : ∀ {es : List (V × V × Nat)} {ys : List MapEntry}, ER m es ys → ys.length = es.length
  | [], _, h => by cases h; rfl
  | _ :: _, _, h => by obtain ⟨y, ys, _, _, _, h4, rfl⟩ := h; simp [ER.length h4]
theorem ER.get : ∀ {es : List (V × V × Nat)} {ys : List MapEntry}, ER m es ys → ∀ {i : Nat} {e : V × V × Nat}, es[i]? = some e → ∃ y, ys[i]? = some y ∧ VR m e.1 y.key ∧ VR m e.2.1 y.val ∧ y.born = e.2.2
  | [], _, _, i, e, hi => by simp at hi
  | _ :: _, _, h, i, e, hi => by
    obtain ⟨y, ys, h1, h2, h3, h4, rfl⟩ := h
    cases i with
    | zero => simp at hi; subst hi; exact ⟨y, rfl, h1, h2, h3⟩
    | succ i => simpa using ER.get h4 (by simpa using hi)
theorem ER.of_get : ∀ {es : List (V × V × Nat)} {ys : List MapEntry}, ys.length = es.length → (∀ (i : Nat) (e : V × V × Nat), es[i]? = some e → ∃ y, ys[i]? = some y ∧ VR m e.1 y.key ∧ VR m e.2.1 y.val ∧ y.born = e.2.2) → ER m es ys
  | [], ys, hl, _ => by cases ys with | nil => rfl | cons a b => simp at hl
  | e :: es, [], hl, _ => by simp at hl
  | e :: es, y :: ys, hl, h => by
    obtain ⟨z, hz, h1, h2, h3⟩ := h 0 e rfl
    simp at hz; subst hz
    exact ⟨y, ys, h1, h2, h3, ER.of_get (by simpa using hl) fun i u hu => by simpa using h (i + 1) u (by simpa using hu), rfl⟩

theorem run_checkKey {t : TypeId} {d : TypeDesc} (hu : P.underlying t = some d) (hd : d = .bool ∨ (∀ k, d = .int k ∨ True) ∧ (∃ k, d = .int k) ∨ d = .string) (b : Bool) (n : Nat) (v : Value) (w : World) :
    (Instr.checkKey b (n + 1) t v).run P w = .ok () w := by
  simp only [Instr.checkKey, Sem.run_bind, run_underlying hu, Result.andThen_ok]
  rcases hd with rfl | ⟨_, k, rfl⟩ | rfl <;> rfl

theorem keyT_spec {t : TypeId} {q : EqT} (b : Bool) (hq : keyT P t = some q) : ∃ d, P.underlying t = some d ∧ (∀ v w, (Instr.checkKey b 10000 t v).run P w = .ok () w) ∧
    (∀ (x y : V) (X Y : Value) (c : Bool), VR m x X → VR m y Y → sameK q x y = some c → Instr.sameNow d X Y = some c) := by
  unfold keyT at hq
  split at hq <;> cases hq
  · rename_i hu
    refine ⟨_, hu, fun v w => run_checkKey hu (.inl rfl) b 9999 v w, fun x y X Y c hx hy hs => ?_⟩
    unfold sameK at hs
    split at hs <;> first | cases hs; done | (cases hx; cases hy; simp_all [Instr.sameNow])
  · rename_i kd hu
    refine ⟨_, hu, fun v w => run_checkKey hu (.inr (.inl ⟨fun _ => .inr trivial, kd, rfl⟩)) b 9999 v w, fun x y X Y c hx hy hs => ?_⟩
    unfold sameK at hs
    split at hs <;> first | cases hs; done | (cases hx; cases hy; simp_all [Instr.sameNow])
  · rename_i hu
    refine ⟨_, hu, fun v w => run_checkKey hu (.inr (.inr rfl)) b 9999 v w, fun x y X Y c hx hy hs => ?_⟩
    unfold sameK at hs
    split at hs <;> first | cases hs; done | (cases hx; cases hy; simp_all [Instr.sameNow, byteArray_beq])

theorem findNow_of {d : TypeDesc} {q : EqT} {x : V} {X : Value} (hx : VR m x X) (hs : ∀ (x y : V) (X Y : Value) (c : Bool), VR m x X → VR m y Y → sameK q x y = some c → Instr.sameNow d X Y = some c) :
    ∀ {es : List (V × V × Nat)} {ys : List MapEntry} {i : Nat} {res : Option (Nat × V)}, ER m es ys → findK q x es i = some res →
      ∃ res', Instr.findNow d X ys i = some res' ∧ (match res with
        | none => res' = none
        | some (j, v) => ∃ V', res' = some (j, V') ∧ VR m v V' ∧ i ≤ j ∧ ∃ e, es[j - i]? = some e ∧ e.2.1 = v ∧ sameK q x e.1 = some true)
  | [], _, i, res, h, hf => by cases h; simp [findK] at hf; subst hf; exact ⟨none, rfl, rfl⟩
  | e :: es, _, i, res, h, hf => by
    obtain ⟨y, ys, h1, h2, h3, h4, rfl⟩ := h
    simp only [findK] at hf
    split at hf
    · rename_i hk
      cases hf
      exact ⟨some (i, y.val), by simp [Instr.findNow, hs _ _ _ _ _ hx h1 hk], y.val, rfl, h2, Nat.le_refl _, e, by simp, rfl, hk⟩
    · rename_i hk
      obtain ⟨res', r1, r2⟩ := findNow_of hx hs h4 hf
      refine ⟨res', by simp [Instr.findNow, hs _ _ _ _ _ hx h1 hk, r1], ?_⟩
      cases res with
      | none => exact r2
      | some p =>
        obtain ⟨V', e1, e2, e3, e', e4, e5, e6⟩ := r2
        refine ⟨V', e1, e2, by omega, e', ?_, e5, e6⟩
        rw [show p.1 - i = (p.1 - (i + 1)) + 1 by omega, List.getElem?_cons_succ]; exact e4
    · cases hf

theorem snd_lookup (cx : Cx P m h w T a) {t : TypeId} {mp ky : Operand} {ok : Bool} (ho : o.op = .lookup t mp ky ok) (hc : cK P (.lookup t mp ky ok) = some k) : Snd P m h w T a o k := by
  intro r hr
  have he : execOp a.eval o = (do pure (Next.value (← Instr.lookup t (a.eval mp) (a.eval ky) ok))) := by simp [execOp, ho]
  simp only [cK] at hc
  split at hc
  · rename_i kt et mp' ky' h1 h2 h3
    split at hc <;> cases hc
    rename_i q z h4 h5
    obtain ⟨zv, hz, hrz⟩ := zeroT_spec (m := m) h5
    simp only [evK] at hr
    split at hr
    · -- a nil map
      rename_i kv e1 e2
      split at hr <;> cases hr
      have hx : a.eval mp = .map none := cx.av h2 e1
      obtain ⟨d, hd, hck, hsm⟩ := keyT_spec (m := m) true h4
      refine rd_val (x := if ok then .tuple #[zv, .bool false] else zv) ?_ ?_ he
      · rw [hx]
        have hfk : (Instr.findKey kt (a.eval ky) []).run P w = .ok none w := by simp [Instr.findKey, run_underlying hd, Instr.findNow]
        simp [Instr.lookup, run_underlying h1, hck, hfk, hrz]
      · cases ok
        · exact hz
        · exact ⟨[zv, .bool false], .cons hz (.one rfl), rfl⟩
    · rename_i R kv e1 e2
      obtain ⟨r', sh, ex, hm, hx⟩ := cx.av h2 e1
      split at hr
      · rename_i es cl hg
        obtain ⟨es', g1, g2⟩ := cx.hr.map hg hm
        obtain ⟨d, hd, hck, hsm⟩ := keyT_spec (m := m) es'.isEmpty h4
        have hob : (getObj r').run P w = .ok (.map es' cl) w := run_getObj g1 (by intros; simp)
        split at hr <;> cases hr
        · rename_i j v hf
          obtain ⟨res', f1, V', rfl, f2, _⟩ := findNow_of (cx.av h3 e2) hsm g2 hf
          have hfk : (Instr.findKey kt (a.eval ky) es'.toList).run P w = .ok (some (j, V')) w := by simp [Instr.findKey, run_underlying hd, f1]
          refine rd_val (x := if ok then .tuple #[V', .bool true] else V') ?_ ?_ he
          · rw [hx]
            simp [Instr.lookup, run_underlying h1, hck, hfk, hob]
          · cases ok
            · exact f2
            · exact ⟨[V', .bool true], .cons f2 (.one rfl), rfl⟩
        · rename_i hf
          obtain ⟨res', f1, rfl⟩ := findNow_of (cx.av h3 e2) hsm g2 hf
          have hfk : (Instr.findKey kt (a.eval ky) es'.toList).run P w = .ok none w := by simp [Instr.findKey, run_underlying hd, f1]
          refine rd_val (x := if ok then .tuple #[zv, .bool false] else zv) ?_ ?_ he
          · rw [hx]
            simp [Instr.lookup, run_underlying h1, hck, hfk, hob, hrz]
          · cases ok
            · exact hz
            · exact ⟨[zv, .bool false], .cons hz (.one rfl), rfl⟩
      · cases hr
    · cases hr
  · cases hc

theorem ER.append {es fs : List (V × V × Nat)} {xs ys : List MapEntry} (h1 : ER m es xs) (h2 : ER m fs ys) : ER m (es ++ fs) (xs ++ ys) := by
  induction es generalizing xs with
  | nil => cases h1; exact h2
  | cons e es ih => obtain ⟨y, ys', a1, a2, a3, a4, rfl⟩ := h1; exact ⟨y, ys' ++ ys, a1, a2, a3, ih a4, rfl⟩

/-- A map's block has turned. -/
theorem HR.setMap {i r sh e : Nat} {es fs : List (V × V × Nat)} {cl cl' : Nat} {es' fs' : Array MapEntry} (hr : HR P m h w) (hg : h.get i = some (.map es cl)) (hm : m i = some (r, sh, e))
    (hb : w.heap[r]? = some (.map es' cl)) (hf : ER m fs fs'.toList) :
    HR P m (h.set i (.map fs cl')) { w with heap := w.heap.setIfInBounds r (.map fs' cl') } ∧ Ext m h w m (h.set i (.map fs cl')) { w with heap := w.heap.setIfInBounds r (.map fs' cl') } :=
  hr.set hg rfl hm (Upd.setObj hb) ⟨fs', rfl, hf⟩

theorem sameK_bits {q : EqT} {x y : V} {X Y : Value} (hx : VR m x X) (hy : VR m y Y) (hs : sameK q x y = some true) : Instr.sameBits 10000 Y X = true := by
  unfold sameK at hs
  split at hs
  · split at hs <;> simp at hs
    rename_i hk; subst hk; subst hs; cases hx; cases hy
    show (_ == _ && _ == _) = true
    simp
  · simp at hs; subst hs; cases hx; cases hy
    show ((_ : ByteArray) == _) = true
    simp [byteArray_beq]
  · simp at hs; subst hs; cases hx; cases hy
    show (_ == _) = true
    simp
  · cases hs

theorem snd_mapUpdate (cx : Cx P m h w T a) {t : TypeId} {mp ky vl : Operand} (ho : o.op = .mapUpdate t mp ky vl ∨ o.op = .insert t mp ky vl) (hc : cK P (.mapUpdate t mp ky vl) = some k) : Snd P m h w T a o k := by
  intro r hr
  have he : execOp a.eval o = (do Instr.mapUpdate t (a.eval mp) (a.eval ky) (a.eval vl); pure Next.skip) := by rcases ho with ho | ho <;> simp [execOp, ho]
  simp only [cK] at hc
  split at hc
  · rename_i kt et mp' ky' vl' h1 h2 h3 h4
    cases h5 : keyT P kt with
    | none => simp [h5] at hc
    | some q =>
      simp [h5] at hc; subst hc
      simp only [evK] at hr
      split at hr
      · rename_i R kv vv e1 e2 e3
        obtain ⟨r', sh, ex, hm, hx⟩ := cx.av h2 e1
        have hk := cx.av h3 e2
        have hv := cx.av h4 e3
        split at hr
        · rename_i es cl hg
          obtain ⟨es', g1, g2⟩ := cx.hr.map hg hm
          obtain ⟨d, hd, hck, hsm⟩ := keyT_spec (m := m) false h5
          have hob : (getObj r').run P w = .ok (.map es' cl) w := run_getObj g1 (by intros; simp)
          have hso : ∀ ob, (setObj r' ob).run P w = .ok () { w with heap := w.heap.setIfInBounds r' ob } := fun ob => run_setObj g1 (by intros; simp)
          split at hr <;> cases hr
          · rename_i j v hf
            obtain ⟨res', f1, V', rfl, f2, _, e, f3, f4, f5⟩ := findNow_of hk hsm g2 hf
            have hfk : (Instr.findKey kt (a.eval ky) es'.toList).run P w = .ok (some (j, V')) w := by simp [Instr.findKey, run_underlying hd, f1]
            simp only [Nat.sub_zero] at f3
            obtain ⟨y, y1, y2, y3, y4⟩ := g2.get f3
            have hbits := sameK_bits hk y2 f5
            have hy1 : es'[j]? = some y := by simpa using y1
            have hER : ER m (es.modify j fun e => (kv, vv, e.2.2)) (es'.modify j fun e => { e with key := a.eval ky, val := a.eval vl }).toList := by
              refine ER.of_get (by simp [g2.length]) fun i u hu => ?_
              rw [List.getElem?_modify] at hu
              rw [Array.toList_modify, List.getElem?_modify]
              cases hi : es[i]? with
              | none => simp [hi] at hu
              | some u0 =>
                obtain ⟨y0, z1, z2, z3, z4⟩ := g2.get hi
                rw [hi] at hu
                simp only [Option.map_eq_map, Option.map_some, Option.some.injEq] at hu
                by_cases hji : j = i
                · rw [if_pos hji] at hu
                  subst hu
                  refine ⟨{ y0 with key := a.eval ky, val := a.eval vl }, ?_, hk, hv, z4⟩
                  rw [z1]; simp [hji]
                · rw [if_neg hji] at hu
                  subst hu
                  refine ⟨y0, ?_, z2, z3, z4⟩
                  rw [z1]; simp [hji]
            obtain ⟨k1, k2⟩ := cx.hr.setMap (cl' := cl) hg hm g1 hER
            refine ⟨m, _, undef, k1, k2, ⟨[], rfl, rfl⟩, .inr ⟨?_, rfl⟩⟩
            rw [he, hx]
            simp [Instr.mapUpdate, run_underlying h1, hob, hck, hfk, Instr.keyThatStays, hy1, hbits, hso]
          · rename_i hf
            obtain ⟨res', f1, rfl⟩ := findNow_of hk hsm g2 hf
            have hfk : (Instr.findKey kt (a.eval ky) es'.toList).run P w = .ok none w := by simp [Instr.findKey, run_underlying hd, f1]
            have hER : ER m (es ++ [(kv, vv, cl)]) (es'.push { key := a.eval ky, val := a.eval vl, born := cl }).toList := by
              rw [Array.toList_push]
              exact g2.append ⟨_, [], hk, hv, rfl, rfl, rfl⟩
            obtain ⟨k1, k2⟩ := cx.hr.setMap (cl' := cl + 1) hg hm g1 hER
            refine ⟨m, _, undef, k1, k2, ⟨[], rfl, rfl⟩, .inr ⟨?_, rfl⟩⟩
            rw [he, hx]
            simp [Instr.mapUpdate, run_underlying h1, hob, hck, hfk, hso]
        · cases hr
      · cases hr
  · cases hc

/-! ### iterators -/
theorem snd_range (cx : Cx P m h w T a) {t : TypeId} {x : Operand} (ho : o.op = .range t x) (hc : cK P (.range t x) = some k) : Snd P m h w T a o k := by
  intro r hr
  have he : execOp a.eval o = (do pure (Next.value (← Instr.range t (a.eval x)))) := by simp [execOp, ho]
  have key : ∀ (ob : Obj) (rob : Go.Obj) (h' : H), h.push ob = some h' → OR P m rob 0 0 ob →
      (Instr.range t (a.eval x)).run P w = .ok (.pointer (some ⟨w.heap.size, 0, none⟩)) { w with heap := w.heap.push rob } → ResOK P m h w ((execOp a.eval o).run P w) (.eff (.ptr (some (h.size, 0))) h') := fun ob rob h' hp hor hrun => by
    obtain ⟨h1, h2⟩ := cx.hr.push (e := 0) hp (New.alloc w rob) hor
    exact ⟨_, _, .pointer (some ⟨w.heap.size, 0, none⟩), h1, h2, ⟨_, _, _, upd_self _ _ _, rfl⟩, .inl (by rw [he]; simp [hrun])⟩
  simp only [cK] at hc
  split at hc
  · rename_i y hu hy
    cases hc
    simp only [evK] at hr
    split at hr
    · rename_i s e1 _
      split at hr
      · rename_i h' hp
        cases hr
        have hx : a.eval x = .string ⟨s.toArray⟩ := cx.av hy e1
        refine key (.strIter s 0) (.stringIter ⟨s.toArray⟩ 0) h' hp ⟨rfl, rfl⟩ ?_
        rw [hx]; simp [Instr.range, run_underlying hu]
      · cases hr
    all_goals first | (cases hr; done) | simp_all
  · rename_i kt et y hu hy
    cases hc
    simp only [evK] at hr
    split at hr
    · simp_all
    · rename_i e1 _
      split at hr
      · rename_i h' hp
        cases hr
        have hx : a.eval x = .map none := cx.av hy e1
        refine key (.mapIter none 0 [] 0) (.mapIter none 0 #[] 0) h' hp ⟨rfl, none, rfl, rfl⟩ ?_
        rw [hx]; simp [Instr.range, run_underlying hu]
      · cases hr
    · rename_i R e1 _
      obtain ⟨r', sh, ex, hm, hx⟩ := cx.av hy e1
      split at hr
      · rename_i es cl hg
        obtain ⟨es', g1, g2⟩ := cx.hr.map hg hm
        split at hr
        · rename_i h' hp
          cases hr
          refine key (.mapIter (some R) cl [] cl) (.mapIter (some r') cl #[] cl) h' hp ⟨rfl, some r', rfl, r', sh, ex, hm, rfl⟩ ?_
          have hob : (getObj r').run P w = .ok (.map es' cl) w := run_getObj g1 (by intros; simp)
          rw [hx]; simp [Instr.range, run_underlying hu, hob]
        · cases hr
      · cases hr
    all_goals first | (cases hr; done) | simp_all
  · cases hc

theorem HR.iter {i r sh e : Nat} {mm : Option Nat} {since st : Nat} {seen : List Nat} (hr : HR P m h w) (hg : h.get i = some (.mapIter mm since seen st)) (hm : m i = some (r, sh, e)) :
    ∃ q, sh = 0 ∧ w.heap[r]? = some (.mapIter q since seen.toArray st) ∧ IterR m mm q := by
  obtain ⟨r', sh', e', ob, h1, h2, h0, q, rfl, h3⟩ := hr.obj i _ hg rfl
  rw [hm] at h1; cases h1
  exact ⟨q, h0, h2, h3⟩

theorem ER.filter {f : V × V × Nat → Bool} {g : MapEntry → Bool} (hfg : ∀ e y, y.born = e.2.2 → g y = f e) : ∀ {es : List (V × V × Nat)} {ys : List MapEntry}, ER m es ys → ER m (es.filter f) (ys.filter g)
  | [], _, h => by cases h; rfl
  | e :: es, _, h => by
    obtain ⟨y, ys, h1, h2, h3, h4, rfl⟩ := h
    have := hfg e y h3
    simp only [List.filter_cons, this]
    split
    · exact ⟨y, _, h1, h2, h3, ER.filter hfg h4, rfl⟩
    · exact ER.filter hfg h4
theorem ER.all {f : V × V × Nat → Bool} {g : MapEntry → Bool} (hfg : ∀ e y, y.born = e.2.2 → g y = f e) : ∀ {es : List (V × V × Nat)} {ys : List MapEntry}, ER m es ys → ys.all g = es.all f
  | [], _, h => by cases h; rfl
  | e :: es, _, h => by
    obtain ⟨y, ys, h1, h2, h3, h4, rfl⟩ := h
    simp [List.all_cons, hfg e y h3, ER.all hfg h4]

theorem snd_next (cx : Cx P m h w T a) {x : Operand} {s : Bool} (ho : o.op = .next x s) (hc : cK P (.next x s) = some k) : Snd P m h w T a o k := by
  intro r hr
  have he : execOp a.eval o = (do pure (Next.value (← Instr.next (a.eval x) s o.type))) := by simp [execOp, ho]
  simp only [cK] at hc
  cases h1 : cA P x with
  | none => simp [h1] at hc
  | some y =>
    simp [h1] at hc; subst hc
    simp only [evK] at hr
    split at hr
    · rename_i i e1
      obtain ⟨R, sh, ex, hm, hx⟩ := cx.av h1 e1
      split at hr
      · -- a text
        rename_i str pos hg
        obtain ⟨r', sh', e', ob, g1, g2, g3⟩ := cx.hr.obj i _ hg rfl
        rw [hm] at g1; cases g1
        obtain ⟨rfl, rfl⟩ := g3
        have hob : (getObj R).run P w = .ok (.stringIter ⟨str.toArray⟩ pos) w := run_getObj g2 (by intros; simp)
        have hso : ∀ ob, (setObj R ob).run P w = .ok () { w with heap := w.heap.setIfInBounds R ob } := fun ob => run_setObj g2 (by intros; simp)
        have hsz : (⟨str.toArray⟩ : ByteArray).size = str.length := by simp [ByteArray.size]
        split at hr <;> cases hr
        · rename_i hlt
          obtain ⟨k1, k2⟩ := cx.hr.set (o' := .strIter str (pos + (Utf8.decode ⟨str.toArray⟩ pos).2)) hg rfl hm (Upd.setObj (ob' := .stringIter ⟨str.toArray⟩ (pos + (Utf8.decode ⟨str.toArray⟩ pos).2)) g2) ⟨rfl, rfl⟩
          refine ⟨m, _, .tuple #[.bool true, .int .i64 pos, .int .i32 (Utf8.decode ⟨str.toArray⟩ pos).1], k1, k2, ⟨[_, _, _], .cons rfl (.cons rfl (.one rfl)), rfl⟩, .inl ?_⟩
          rw [he, hx]
          simp [Instr.next, hob, hsz, hlt, hso, goInt]
        · rename_i hlt
          refine ⟨m, w, .tuple #[.bool false], cx.hr, Ext.refl _ _ _, ⟨[_], .one rfl, rfl⟩, .inl ?_⟩
          rw [he, hx]
          simp [Instr.next, hob, hsz, hlt]
      · rename_i since seen st hg
        obtain ⟨q, rfl, g1, rfl⟩ := cx.hr.iter hg hm
        cases hr
        have hob : (getObj R).run P w = .ok (.mapIter none since seen.toArray st) w := run_getObj g1 (by intros; simp)
        refine ⟨m, w, .tuple #[.bool false], cx.hr, Ext.refl _ _ _, ⟨[_], .one rfl, rfl⟩, .inl ?_⟩
        rw [he, hx]
        simp [Instr.next, hob]
      · rename_i mi since seen st hg
        obtain ⟨q, rfl, g1, b, sh2, e2, hmi, rfl⟩ := cx.hr.iter hg hm
        have hob : (getObj R).run P w = .ok (.mapIter (some b) since seen.toArray st) w := run_getObj g1 (by intros; simp)
        have hso : ∀ ob, (setObj R ob).run P w = .ok () { w with heap := w.heap.setIfInBounds R ob } := fun ob => run_setObj g1 (by intros; simp)
        split at hr
        · rename_i es cl hg2
          obtain ⟨es', g2, g3⟩ := cx.hr.map hg2 hmi
          have hobm : (getObj b).run P w = .ok (.map es' cl) w := run_getObj g2 (by intros; simp)
          split at hr
          · cases hr
          · rename_i hcond
            have hl := g3.filter (f := fun e => !seen.contains e.2.2) (g := fun y => !seen.toArray.contains y.born) (fun e y hb => by simp [hb])
            have ho1 := hl.filter (f := fun e => decide (e.2.2 < since)) (g := fun y => decide (y.born < since)) (fun e y hb => by simp [hb])
            have hn1 := hl.filter (f := fun e => decide (e.2.2 ≥ since)) (g := fun y => decide (y.born ≥ since)) (fun e y hb => by simp [hb])
            have hco : (!seen.toArray.isEmpty && !es'.isEmpty && es'.all (fun y => decide (y.born ≥ st))) = false := by
              have e1 : seen.toArray.isEmpty = seen.isEmpty := by simp
              have e2 : es'.isEmpty = es.isEmpty := by
                have hlen : es'.size = es.length := by simpa using g3.length
                cases es <;> simp [Array.isEmpty, hlen]
              have e3 : es'.all (fun y => decide (y.born ≥ st)) = es.all (fun e => decide (e.2.2 ≥ st)) := by
                rw [← Array.all_toList]; exact g3.all (fun e y hb => by simp [hb])
              rw [e1, e2, e3]; simpa using hcond
            have harr : ∀ {A : Array MapEntry} {l : List MapEntry}, A.toList = l → A = l.toArray := fun h => Array.ext' (by simpa using h)
            split at hr
            · -- all have been seen
              rename_i hold hnew
              cases hr
              rw [hold] at ho1
              rw [hnew] at hn1
              have a1 : (es'.filter fun y => !seen.toArray.contains y.born).filter (fun y => decide (y.born < since)) = #[] := by
                apply harr; rw [Array.toList_filter, Array.toList_filter]; exact ho1
              have a2 : (es'.filter fun y => !seen.toArray.contains y.born).filter (fun y => decide (y.born ≥ since)) = #[] := by
                apply harr; rw [Array.toList_filter, Array.toList_filter]; exact hn1
              refine ⟨m, w, .tuple #[.bool false], cx.hr, Ext.refl _ _ _, ⟨[_], .one rfl, rfl⟩, .inl ?_⟩
              rw [he, hx]
              simp only [Instr.next, Nat.add_zero, Sem.run_bind, hob, hobm, Result.andThen_ok, hco, Bool.false_eq_true, if_false, a1, a2]
              simp [Question.forced]
            · -- the one that is left
              rename_i e hold hnew
              cases hr
              rw [hold] at ho1
              rw [hnew] at hn1
              obtain ⟨y, l', y1, y2, y3, hl', hly⟩ := ho1
              cases hl'
              have a1 : (es'.filter fun y => !seen.toArray.contains y.born).filter (fun y => decide (y.born < since)) = #[y] := by
                apply harr; rw [Array.toList_filter, Array.toList_filter]; exact hly
              have a2 : (es'.filter fun y => !seen.toArray.contains y.born).filter (fun y => decide (y.born ≥ since)) = #[] := by
                apply harr; rw [Array.toList_filter, Array.toList_filter]; exact hn1
              obtain ⟨k1, k2⟩ := cx.hr.set (o' := .mapIter (some mi) since (seen ++ [e.2.2]) cl) hg rfl hm (Upd.setObj (ob' := .mapIter (some b) since (seen.toArray.push y.born) cl) g1)
                ⟨rfl, some b, by rw [y3]; simp, b, sh2, e2, hmi, rfl⟩
              refine ⟨m, _, .tuple #[.bool true, y.key, y.val], k1, k2, ⟨[_, _, _], .cons rfl (.cons y1 (.one y2)), rfl⟩, .inl ?_⟩
              rw [he, hx]
              simp only [Instr.next, Nat.add_zero, Sem.run_bind, hob, hobm, Result.andThen_ok, hco, Bool.false_eq_true, if_false, a1, a2]
              simp [Question.forced, hso]
            · cases hr
        · cases hr
      · cases hr
    · cases hr

theorem snd_entry (cx : Cx P m h w T a) {x : Operand} (ho : o.op = .entry x) (hc : cK P (.entry x) = some k) : Snd P m h w T a o k := by
  intro r hr
  have he : execOp a.eval o = (do pure (Next.value (← Instr.entry (a.eval x)))) := by simp [execOp, ho]
  simp only [cK] at hc
  cases h1 : cA P x with
  | none => simp [h1] at hc
  | some y =>
    simp [h1] at hc; subst hc
    simp only [evK] at hr
    split at hr
    · rename_i i e1
      obtain ⟨R, sh, ex, hm, hx⟩ := cx.av h1 e1
      split at hr
      · rename_i mi since seen st hg
        obtain ⟨q, rfl, g1, b, sh2, e2, hmi, rfl⟩ := cx.hr.iter hg hm
        have hob : (getObj R).run P w = .ok (.mapIter (some b) since seen.toArray st) w := run_getObj g1 (by intros; simp)
        split at hr
        · rename_i stamp es cl hst hg2
          obtain ⟨es', g2, g3⟩ := cx.hr.map hg2 hmi
          have hobm : (getObj b).run P w = .ok (.map es' cl) w := run_getObj g2 (by intros; simp)
          split at hr
          · rename_i hcl
            cases hf : es.find? (fun e => e.2.2 == stamp) with
            | none => simp [hf] at hr
            | some e =>
              simp [hf] at hr; subst hr
              have hfind : ∀ {es : List (V × V × Nat)} {ys : List MapEntry}, ER m es ys → es.find? (fun e => e.2.2 == stamp) = some e →
                  ∃ y, ys.find? (fun y => y.born == stamp) = some y ∧ VR m e.1 y.key ∧ VR m e.2.1 y.val := by
                intro es
                induction es with
                | nil => intro ys _ hf; simp at hf
                | cons e0 es ih =>
                  intro ys hE hf
                  obtain ⟨y, ys', z1, z2, z3, z4, rfl⟩ := hE
                  rw [List.find?_cons] at hf ⊢
                  rw [z3]
                  split at hf
                  · cases hf; exact ⟨y, rfl, z1, z2⟩
                  · exact ih z4 hf
              obtain ⟨y, z1, z2, z3⟩ := hfind g3 hf
              have z1' : es'.find? (fun y => y.born == stamp) = some y := by rw [← Array.find?_toList]; exact z1
              have hback : seen.toArray.back? = some stamp := by simpa using hst
              refine rd_val (x := .tuple #[y.key, y.val]) ?_ ⟨[_, _], .cons z2 (.one z3), rfl⟩ he
              rw [hx]
              have hcl' : (cl != st) = false := by simp [hcl]
              simp [Instr.entry, hob, hobm, hback, hcl, z1']
          · cases hr
        · cases hr
      · cases hr
    · cases hr
end Go.AM
/-! Soundness, XI: bytes and texts, the other builtins, calls. -/
namespace Go.AM
variable {P : Program} {m : Mp} {h : H} {w : World} {T : List V} {a : Act} {o : Oper} {k : K}

/-! ### bytes -/
theorem bytesV_sound : ∀ {cs : List V} {xs : List Value} {bs : List UInt8}, VRL m cs xs → bytesV cs = some bs →
    ∃ ns : List Int, xs = ns.map (Value.int .u8) ∧ bs = ns.map (fun n => UInt8.ofNat n.toNat)
  | [], _, bs, h, hb => by cases h; simp [bytesV] at hb; subst hb; exact ⟨[], rfl, rfl⟩
  | c :: cs, _, bs, h, hb => by
    obtain ⟨x, xs, h1, h2, rfl⟩ := h
    cases c <;> try (simp [bytesV] at hb; done)
    rename_i kd n
    cases kd <;> simp only [bytesV] at hb <;> try cases hb
    split at hb <;> cases hb
    rename_i bs' hb'
    obtain ⟨ns, rfl, rfl⟩ := bytesV_sound h2 hb'
    cases h1
    exact ⟨n :: ns, rfl, rfl⟩

theorem foldl_push (ns : List Int) : ∀ (acc : ByteArray), (ns.foldl (fun r n => r.push (UInt8.ofNat n.toNat)) acc) = ⟨(acc.data.toList ++ ns.map (fun n => UInt8.ofNat n.toNat)).toArray⟩ := by
  induction ns with
  | nil => intro acc; simp
  | cons n ns ih => intro acc; rw [List.foldl_cons, ih]; simp [ByteArray.push]

theorem snd_b2s (cx : Cx P m h w T a) {t u : TypeId} {x : Operand} {e : TypeId} {y : A} (ho : o.op = .convert t u x) (h1 : P.underlying t = some (.slice e)) (h2 : P.underlying u = some .string)
    (h3 : P.underlying e = some (.int .u8)) (h4 : cA P x = some y) : Snd P m h w T a o (.b2s y) := by
  intro r hr
  have he : execOp a.eval o = (do pure (Next.value (← convert t u (a.eval x)))) := by simp [execOp, ho]
  simp only [evK] at hr
  split at hr
  · rename_i p len c q e1
    split at hr
    · rename_i cs hcs
      have hv := cx.av h4 e1
      split at hr
      · rename_i hp
        cases hr
        cases p with
        | none =>
          have hx : a.eval x = .slice none len c := hv
          refine rd_val (x := .string .empty) ?_ rfl he
          rw [hx, run_convert_bytes_string w t u e _ _ _ h1 h3 h2]; simp [Conv.bytesToString]
        | some p => simp at hp
      · cases hb : bytesV cs with
        | none => simp [hb] at hr
        | some bs =>
          simp [hb] at hr; subst hr
          cases p with
          | none =>
            simp only [elemsV] at hcs
            split at hcs <;> cases hcs
            have hx : a.eval x = .slice none len c := hv
            simp [bytesV] at hb; subst hb
            refine rd_val (x := .string .empty) ?_ rfl he
            rw [hx, run_convert_bytes_string w t u e _ _ _ h1 h3 h2]; simp [Conv.bytesToString]
          | some p =>
            obtain ⟨xs, g1, g2⟩ := run_elemsV cx.hr hv rfl (Nat.le_refl _) hcs
            obtain ⟨i, q0⟩ := p
            obtain ⟨R, sh, ex, ad, hm, hx, hz⟩ := hv
            obtain ⟨ns, rfl, rfl⟩ := bytesV_sound g2 hb
            rw [hx] at g1
            simp only [Builtin.firstCells, Nat.mul_one] at g1
            refine rd_val (x := .string ⟨(ns.map (fun (n : Int) => UInt8.ofNat n.toNat)).toArray⟩) ?_ rfl he
            rw [hx, run_convert_bytes_string w t u e _ _ _ h1 h3 h2, run_bytesToString w ad len _ ns g1, foldl_push]
            rfl
    · cases hr
  · cases hr

theorem New.freeze {w w1 : World} {c : Array Value} {ty : TypeId} (hn : New w (.cells c ty) w1) :
    New w (.cells c ty (c.size, c.size + 1)) (w1.freeze { block := w.heap.size, off := c.size } 1) := by
  refine ⟨?_, hn.os, hn.output, hn.tape, hn.drawn⟩
  simp only [World.freeze, Nat.one_ne_zero, if_false, hn.heap]
  apply Array.ext_getElem?
  intro i
  rw [Array.getElem?_modify, Array.getElem?_push, Array.getElem?_push]
  by_cases hi : i = w.heap.size
  · subst hi; simp
  · simp [hi, Ne.symm hi]

theorem run_stringToBytes (e : TypeId) (s : List UInt8) (w : World) : (Conv.stringToBytes e ⟨s.toArray⟩).run P w =
    .ok (.slice (some ⟨w.heap.size, 0, none⟩) s.length (drawnCap w s.length 0 e))
      (World.freeze { w.drew with heap := w.heap.push (.cells ((s.map fun (b : UInt8) => Value.int .u8 b.toNat) ++ List.replicate (drawnCap w s.length 0 e - s.length) (Value.int .u8 0)).toArray e) }
        { block := w.heap.size, off := ((s.map fun (b : UInt8) => Value.int .u8 b.toNat) ++ List.replicate (drawnCap w s.length 0 e - s.length) (Value.int .u8 0)).toArray.size } 1) := by
  have hsz : (⟨s.toArray⟩ : ByteArray).size = s.length := by simp [ByteArray.size]
  have harr : (s.toArray.map fun (b : UInt8) => Value.int .u8 b.toNat) ++ Array.replicate (drawnCap w s.length 0 e - s.length) (Value.int .u8 0) =
      ((s.map fun (b : UInt8) => Value.int .u8 b.toNat) ++ List.replicate (drawnCap w s.length 0 e - s.length) (Value.int .u8 0)).toArray := by
    apply Array.ext'; simp
  have hch : (choose (.appendCap s.length 0 e)).run P w = .ok (drawnCap w s.length 0 e) w.drew := rfl
  simp only [Conv.stringToBytes, Sem.run_bind, hch, Result.andThen_ok, hsz, newRow, run_newObj, Sem.run_pure, markStringish, run_shape]
  rw [harr]
  have hsh : World.shape? { w.drew with heap := w.drew.heap.push (.cells ((s.map fun (b : UInt8) => Value.int .u8 b.toNat) ++ List.replicate (drawnCap w s.length 0 e - s.length) (Value.int .u8 0)).toArray e) } w.drew.heap.size =
      some (e, ((s.map fun (b : UInt8) => Value.int .u8 b.toNat) ++ List.replicate (drawnCap w s.length 0 e - s.length) (Value.int .u8 0)).toArray.size) := by
    simp only [World.shape?]
    rw [show w.drew.heap.size = w.heap.size from rfl, show w.drew.heap = w.heap from rfl, Array.getElem?_push_size]
  rw [hsh]
  rfl

theorem snd_s2b (cx : Cx P m h w T a) {t u : TypeId} {x : Operand} {e : TypeId} {y : A} (ho : o.op = .convert t u x) (h1 : P.underlying t = some .string) (h2 : P.underlying u = some (.slice e))
    (h3 : P.underlying e = some (.int .u8)) (hs1 : P.cellsOf e = 1) (h4 : cA P x = some y) : Snd P m h w T a o (.s2b e y) := by
  intro r hr
  have he : execOp a.eval o = (do pure (Next.value (← convert t u (a.eval x)))) := by simp [execOp, ho]
  simp only [evK] at hr
  split at hr
  · rename_i s e1
    split at hr <;> cases hr
    rename_i h' hp
    have hx : a.eval x = .string ⟨s.toArray⟩ := cx.av h4 e1
    have hsz : (⟨s.toArray⟩ : ByteArray).size = s.length := by simp [ByteArray.size]
    have hge : s.length ≤ drawnCap w s.length 0 e := drawnCap_ge w s.length 0 e
    have hxs : VRL m (s.map fun b => V.int .u8 b.toNat) (s.map fun b => Value.int .u8 b.toNat) := by
      refine VRL.of_get (by simp) fun i v hv => ?_
      simp only [List.getElem?_map, Option.map_eq_some_iff] at hv ⊢
      obtain ⟨b, hb, rfl⟩ := hv
      exact ⟨_, ⟨b, hb, rfl⟩, rfl⟩
    have hn : New w (.cells ((s.map fun (b : UInt8) => Value.int .u8 b.toNat) ++ List.replicate (drawnCap w s.length 0 e - s.length) (Value.int .u8 0)).toArray e)
        { w.drew with heap := w.heap.push (.cells ((s.map fun (b : UInt8) => Value.int .u8 b.toNat) ++ List.replicate (drawnCap w s.length 0 e - s.length) (Value.int .u8 0)).toArray e) } :=
      New.of_drew (Drew.one w) (New.alloc w.drew _)
    obtain ⟨k1, k2⟩ := cx.hr.push (e := drawnCap w s.length 0 e - s.length) hp (New.freeze hn) (OR.opened hxs (by rw [hs1]; simp) (by
      refine ⟨Nat.le_succ _, fun j hj1 _ => ?_⟩
      simpa using hj1))
    refine ⟨_, _, .slice (some ⟨w.heap.size, 0, none⟩) s.length (drawnCap w s.length 0 e), k1, k2, ⟨_, _, _, _, upd_self _ _ _, ?_, .inl rfl⟩, .inl ?_⟩
    · congr 1; simp only [if_true]; omega
    · rw [he, hx]
      have hrun := run_stringToBytes (P := P) e s w
      simp only [convert, Sem.run_bind, run_underlying h1, run_underlying h2, run_underlying h3, Result.andThen_ok]
      rw [hrun]
      rfl
  · cases hr

/-! ### the other conversions -/
theorem HR.freezeEnd {i r sh e : Nat} {vs : List V} {ty : Nat} {opn : Bool} {fz : Option Nat} (hr : HR P m h w) (hg : h.get i = some (.cells vs ty opn false fz)) (hm : m i = some (r, sh, e)) (hf : fz.getD 0 = 0) :
    ∃ n, w.shape? r = some (ty, n) ∧ HR P m (h.set i (.cells vs ty opn false (some 0))) (w.freeze { block := r, off := n } 1) ∧ Ext m h w m (h.set i (.cells vs ty opn false (some 0))) (w.freeze { block := r, off := n } 1) := by
  obtain ⟨c, fzr, g1, g2, g3, g4, g5⟩ := hr.cells hg hm
  have g5 := g5 rfl
  refine ⟨c.size, by simp [World.shape?, g1], ?_⟩
  have hrs : r < w.heap.size := hr.blk _ _ _ _ hm
  refine hr.set hg rfl hm (ob := .cells c ty (if fzr.1 == fzr.2 then (c.size, c.size + 1) else (min fzr.1 c.size, max fzr.2 (c.size + 1)))) ⟨?_, ?_, fun b hb => ?_, rfl, rfl, rfl, Nat.le_refl _⟩ ⟨c, _, rfl, g2, g4, ?_⟩
  · simp [World.freeze]
  · simp only [World.freeze, Nat.one_ne_zero, if_false, Array.getElem?_modify, if_true, g1, Option.map_some]
  · simp [World.freeze, Array.getElem?_modify, Ne.symm hb]
  · obtain ⟨lo, hi⟩ := fzr
    have hle : lo ≤ hi ∧ (lo < hi → c.size ≤ lo) := by
      cases fz with
      | none => simp only [FzOK, Prod.mk.injEq] at g5; omega
      | some f =>
        simp at hf; subst hf
        refine ⟨g5.1, fun hlt => ?_⟩
        have := g5.2 lo (Nat.le_refl _) hlt
        simpa using this
    intro _
    simp only
    split
    · exact ⟨Nat.le_succ _, fun j hj1 _ => by simpa using hj1⟩
    · rename_i hne
      have hne' : lo ≠ hi := by simpa using hne
      refine ⟨by simp only; omega, fun j hj1 _ => ?_⟩
      simp only [if_true] at *
      omega

theorem snd_same (cx : Cx P m h w T a) {t u : TypeId} {x : Operand} {e : TypeId} {y : A} (ho : o.op = .convert t u x) (htu : t = u) (h1 : P.underlying t = some (.slice e))
    (h3 : P.underlying e = some (.int .u8)) (h4 : cA P x = some y) : Snd P m h w T a o (.same y) := by
  intro r hr
  subst htu
  have he : execOp a.eval o = (do pure (Next.value (← convert t t (a.eval x)))) := by simp [execOp, ho]
  simp only [evK] at hr
  split at hr
  · rename_i i q l c op e1
    obtain ⟨R, sh, ex, ad, hm, hx, hz⟩ := cx.av h4 e1
    split at hr
    · rename_i vs ty op' fz hg
      split at hr <;> cases hr
      rename_i hf
      obtain ⟨hf, hcap⟩ := hf
      obtain ⟨n, k0, k1, k2⟩ := cx.hr.freezeEnd hg hm hf
      have hb : ad.block = R := by
        rcases hz with hz | ⟨_, hz0, hz⟩
        · rw [hz]
        · rcases hcap with hcap | hcap
          · exact hz hcap
          · omega
      refine ⟨m, _, .slice (some ad) l (c + if op then ex else 0), k1, k2, ⟨R, sh, ex, ad, hm, rfl, hz⟩, .inl ?_⟩
      rw [he, hx]
      have : (convert t t (.slice (some ad) l (c + if op then ex else 0))).run P w = .ok (.slice (some ad) l (c + if op then ex else 0)) (w.freeze { block := R, off := n } 1) := by
        simp only [convert, Sem.run_bind, run_underlying h1, run_underlying h3, Result.andThen_ok, beq_self_eq_true, markStringish, run_shape, hb, k0, run_freeze, Sem.run_pure]
      simp [this]
    · cases hr
  · cases hr
end Go.AM
/-! Soundness, XI b: unsafe.String. -/
namespace Go.AM
variable {P : Program} {m : Mp} {h : H} {w : World} {T : List V} {a : Act} {o : Oper} {k : K}

theorem liesAt_off {e : TypeId} (hc : P.cellsOf e = 1) (count off n : Nat) (hn : off + n ≤ count) : liesAt P P.depth e count off e n = true := by
  have hd : P.depth = (2 * (P.types.size + Made.depth) + 1) + 1 := rfl
  rw [hd]
  simp only [liesAt, Bool.or_eq_true]
  left
  rw [hd]
  simp [rowAt, hc, sameLayout, Nat.mod_one]
  omega

theorem run_loadBytes_ints (r : Nat) : ∀ (ns : List Int) (q : Nat) (acc : ByteArray), (∀ j n, ns[j]? = some n → w.cell? (⟨r, q + j, none⟩ : Addr) = some (.int .u8 n)) →
    (loadBytes ⟨r, q, none⟩ acc ns.length).run P w = .ok (ns.foldl (fun r n => r.push (UInt8.ofNat n.toNat)) acc) w
  | [], _, acc, _ => by simp [loadBytes]
  | n :: ns, q, acc, h => by
    have h0 := h 0 n rfl
    rw [Nat.add_zero] at h0
    have ih := run_loadBytes_ints r ns (q + 1) (acc.push (UInt8.ofNat n.toNat)) (fun j y hy => by
      have := h (j + 1) y (by simpa using hy)
      rw [show q + 1 + j = q + (j + 1) by omega]; exact this)
    simp only [List.length_cons, loadBytes, Sem.run_bind, run_load, h0, Result.andThen, add_at, List.foldl_cons]
    exact ih

theorem run_unsafeString_at (pt it ty e : TypeId) (hp : P.underlying pt = some (.pointer e)) (hc : P.cellsOf e = 1) {g off cells : Nat} (hsh : w.shape? g = some (e, cells)) (kd : IntKind) (l : List Int) (h0 : l ≠ []) (hn : off + l.length ≤ cells) (h63 : l.length ≤ 9223372036854775807)
    (hcell : ∀ j x, l[j]? = some x → w.cell? (⟨g, off + j, none⟩ : Addr) = some (.int .u8 x)) :
    (Builtin.unsafeString_ #[pt, it] ty #[.pointer (some ⟨g, off, none⟩), .int kd l.length]).run P w = .ok (.string ⟨(l.map fun n => UInt8.ofNat n.toNat).toArray⟩) (w.freeze ⟨g, off, none⟩ l.length) := by
  have hl : l.length ≠ 0 := by simpa using h0
  have hlb := run_loadBytes_ints (P := P) g l off .empty hcell
  rw [foldl_push] at hlb
  have hlies := liesAt_off (P := P) hc (cells / P.cellsOf e) off l.length (by rw [hc]; simpa using hn)
  have h63' : ¬ (9223372036854775807 : Int) < (l.length : Int) := by omega
  have hdef : Builtin.unsafeString_ #[pt, it] ty #[.pointer (some ⟨g, off, none⟩), .int kd l.length] =
      (do
        let n ← asInt (.int kd l.length)
        if n < 0 then runtimePanic (.error "unsafe.String: len out of range")
        if n > IntKind.i64.max then unsupported (.unsafePointer "String: a length above the largest int")
        if n = 0 then pure (.string .empty)
        else if ← variablesAt ⟨g, off, none⟩ (← elemOf pt) n.toNat then do
          let s ← loadBytes ⟨g, off, none⟩ .empty n.toNat
          freeze ⟨g, off, none⟩ n.toNat
          pure (.string s)
        else unsupported (.unsafePointer "String: not so many bytes at ptr")) := rfl
  rw [hdef]
  have hmax : IntKind.i64.max = 9223372036854775807 := rfl
  have hneg : ¬ (l.length : Int) < 0 := by omega
  simp [asInt, asIntOf, hmax, h63', hneg, hl, variablesAt, hsh, elemOf, run_underlying hp, hlies, hlb]

theorem HR.freeze {i r sh e q n : Nat} {vs : List V} {ty : Nat} {opn : Bool} {fz : Option Nat} (hr : HR P m h w) (hg : h.get i = some (.cells vs ty opn false fz)) (hm : m i = some (r, sh, e)) (hf : fz ≠ some 0) (hn : n ≠ 0) :
    HR P m (h.set i (.cells vs ty opn false (some (max (fz.getD 0) (q + n))))) (w.freeze { block := r, off := sh + q } n) ∧
      Ext m h w m (h.set i (.cells vs ty opn false (some (max (fz.getD 0) (q + n))))) (w.freeze { block := r, off := sh + q } n) := by
  obtain ⟨c, fzr, g1, g2, g3, g4, g5⟩ := hr.cells hg hm
  have g5 := g5 rfl
  refine hr.set hg rfl hm (ob := .cells c ty (if fzr.1 == fzr.2 then (sh + q, sh + q + n) else (min fzr.1 (sh + q), max fzr.2 (sh + q + n)))) ⟨?_, ?_, fun b hb => ?_, ?_, ?_, ?_, ?_⟩ ⟨c, _, rfl, g2, g4, ?_⟩
  · simp [World.freeze, hn]
  · simp only [World.freeze, hn, if_false, Array.getElem?_modify, if_true, g1, Option.map_some]
  · simp [World.freeze, hn, Array.getElem?_modify, Ne.symm hb]
  · simp [World.freeze, hn]
  · simp [World.freeze, hn]
  · simp [World.freeze, hn]
  · simp [World.freeze, hn]
  · obtain ⟨lo, hi⟩ := fzr
    have hle : lo ≤ hi ∧ ∀ j, lo ≤ j → j < hi → j < sh + fz.getD 0 := by
      cases fz with
      | none => simp only [FzOK, Prod.mk.injEq] at g5; exact ⟨by omega, fun j h1 h2 => by omega⟩
      | some f =>
        have hf0 : f ≠ 0 := fun h => hf (by rw [h])
        refine ⟨g5.1, fun j h1 h2 => ?_⟩
        have := g5.2 j h1 h2
        rw [if_neg hf0] at this
        simpa using this
    have hne0 : max (fz.getD 0) (q + n) ≠ 0 := by omega
    intro _
    simp only
    split
    · refine ⟨by simp only; omega, fun j hj1 hj2 => ?_⟩
      simp only at hj1 hj2
      rw [if_neg hne0]; omega
    · rename_i hne
      have hne' : lo ≠ hi := by simpa using hne
      refine ⟨by simp only; omega, fun j hj1 hj2 => ?_⟩
      simp only at hj1 hj2
      rw [if_neg hne0]
      rcases Nat.lt_or_ge j (sh + q + n) with hlt | hge
      · omega
      · have hlohi : lo < hi := by omega
        have h2 := hle.2 (hi - 1) (by omega) (by omega)
        omega

theorem snd_ustr (cx : Cx P m h w T a) {c : Call} (ho : o.op = .call c) (hb : c.callee = .builtin .unsafeString) {x n : Operand} {t e : TypeId} {y z : A} (ha : c.args = #[x, n]) (ht : c.argTypes[0]? = some t)
    (h1 : P.underlying t = some (.pointer e)) (h2 : cA P x = some y) (h3 : cA P n = some z) (h4 : sizeT P e = some 1) : Snd P m h w T a o (.ustr e y z) := by
  intro r hr
  obtain ⟨cst, e3⟩ := exec_builtin (P := P) (w := w) (a := a) ho hb
  simp only [evK] at hr
  split at hr
  · rename_i p kd k e1 e2
    have hxv := cx.av h2 e1
    have hnv : a.eval n = .int kd k := cx.av h3 e2
    have hargs : (#[t] : Array TypeId).size = 1 := rfl
    have hun : ∀ (q : Option Addr) (kk : Int) (w' : World) (y : Value), (∀ it, (Builtin.unsafeString_ #[t, it] o.type #[.pointer q, .int kd kk]).run P w = .ok y w') → (Builtin.unsafeString_ c.argTypes o.type #[.pointer q, .int kd kk]).run P w = .ok y w' := by
      intro q kk w' y hy
      rw [← hy t]
      have : ∀ ats : Array TypeId, ats[0]? = some t → (Builtin.unsafeString_ ats o.type #[.pointer q, .int kd kk]).run P w = (Builtin.unsafeString_ #[t, t] o.type #[.pointer q, .int kd kk]).run P w := by
        intro ats hats
        have e1 : ∀ ats : Array TypeId, Builtin.unsafeString_ ats o.type #[.pointer q, .int kd kk] = (do
          let n ← asInt (.int kd kk)
          let some pt := ats[0]? | stuck "unsafe.String: no argument types"
          if n < 0 then runtimePanic (.error "unsafe.String: len out of range")
          if n > IntKind.i64.max then unsupported (.unsafePointer "String: a length above the largest int")
          match q with
          | none =>
            if n = 0 then pure (.string .empty)
            else runtimePanic (.error "unsafe.String: ptr is nil and len is not zero")
          | some a =>
            if n = 0 then pure (.string .empty)
            else if ← variablesAt a (← elemOf pt) n.toNat then do
              let s ← loadBytes a .empty n.toNat
              freeze a n.toNat
              pure (.string s)
            else unsupported (.unsafePointer "String: not so many bytes at ptr")) := fun _ => rfl
        rw [e1, e1, hats]
        rfl
      exact this _ ht
    split at hr
    · rename_i hk0
      cases hr
      subst hk0
      refine ⟨.string ⟨#[]⟩, rfl, .inl ?_⟩
      rw [e3, ha]
      have hq : ∃ q, a.eval x = .pointer q := by
        cases p with
        | none => exact ⟨none, hxv⟩
        | some p => obtain ⟨R, sh, ex, _, hx⟩ := hxv; exact ⟨_, hx⟩
      obtain ⟨q, hq⟩ := hq
      have := hun q 0 w (.string .empty) (fun it => by
        cases q with
        | none => 
          have hd : Builtin.unsafeString_ #[t, it] o.type #[.pointer none, .int kd 0] = (do
            let n ← asInt (.int kd 0)
            if n < 0 then runtimePanic (.error "unsafe.String: len out of range")
            if n > IntKind.i64.max then unsupported (.unsafePointer "String: a length above the largest int")
            if n = 0 then pure (.string .empty)
            else runtimePanic (.error "unsafe.String: ptr is nil and len is not zero")) := rfl
          have hmax : IntKind.i64.max = 9223372036854775807 := rfl
          rw [hd]; simp [asInt, asIntOf, hmax]
        | some q =>
          have hd : Builtin.unsafeString_ #[t, it] o.type #[.pointer (some q), .int kd 0] = (do
            let n ← asInt (.int kd 0)
            if n < 0 then runtimePanic (.error "unsafe.String: len out of range")
            if n > IntKind.i64.max then unsupported (.unsafePointer "String: a length above the largest int")
            if n = 0 then pure (.string .empty)
            else if ← variablesAt q (← elemOf t) n.toNat then do
              let s ← loadBytes q .empty n.toNat
              freeze q n.toNat
              pure (.string s)
            else unsupported (.unsafePointer "String: not so many bytes at ptr")) := rfl
          have hmax : IntKind.i64.max = 9223372036854775807 := rfl
          rw [hd]; simp [asInt, asIntOf, hmax])
      simp only [builtin, Sem.run_bind, List.map_toArray, List.map_cons, List.map_nil, hq, hnv]
      rw [this]; rfl
    · rename_i hk0
      split at hr
      · cases hr
      · rename_i hrange
        split at hr
        · cases hr
        · rename_i i q
          obtain ⟨R, sh, ex, hm, hx⟩ := hxv
          split at hr
          · rename_i vs ty op fz hg
            split at hr
            · rename_i hcond
              obtain ⟨hty, hle, hfz⟩ := hcond
              subst hty
              split at hr <;> cases hr
              rename_i bs hbs
              obtain ⟨cc, fzr, g1, g2, g3, g4, g5⟩ := cx.hr.cells hg hm
              have hgr := g2.range q k.toNat
              obtain ⟨ns, n1, n2⟩ := bytesV_sound hgr hbs
              have hnl : ns.length = k.toNat := by
                have := congrArg List.length n1
                rw [List.length_map] at this
                rw [← this]
                simp; omega
              have hkk : (ns.length : Int) = k := by omega
              obtain ⟨k1, k2⟩ := cx.hr.freeze hg hm hfz (n := k.toNat) (q := q) (by omega)
              have hsh : w.shape? R = some (ty, cc.size) := by simp [World.shape?, g1]
              refine ⟨m, _, .string ⟨bs.toArray⟩, k1, k2, rfl, .inl ?_⟩
              rw [e3, ha]
              have := hun (some ⟨R, sh + q, none⟩) k (w.freeze ⟨R, sh + q, none⟩ k.toNat) (.string ⟨bs.toArray⟩) (fun it => by
                have hru := run_unsafeString_at (P := P) (w := w) (off := sh + q) t it o.type ty h1 (sizeT_cells h4) hsh kd ns (by intro h; rw [h] at hnl; simp at hnl; omega) (by omega) (by omega) (fun j v hj => by
                  rw [cell_at g1]
                  have hj' : (ns.map (Value.int .u8))[j]? = some (.int .u8 v) := by rw [List.getElem?_map, hj]; rfl
                  rw [← n1, List.getElem?_take] at hj'
                  split at hj'
                  · rw [List.getElem?_drop, List.getElem?_take] at hj'
                    split at hj'
                    · rw [List.getElem?_drop] at hj'
                      rw [← hj', Array.getElem?_toList]; congr 1; omega
                    · cases hj'
                  · cases hj')
                rw [hkk, hnl] at hru
                rw [n2]; exact hru)
              simp only [builtin, Sem.run_bind, List.map_toArray, List.map_cons, List.map_nil, hx, hnv]
              rw [this]; rfl
            · cases hr
          · cases hr
  · cases hr
end Go.AM
/-! Soundness, IX b: append of so many zeros. -/
namespace Go.AM
variable {P : Program} {m : Mp} {h : H} {w : World} {T : List V} {a : Act} {o : Oper} {k : K}

/-- What 'append(s, make([]E, n)...)' comes to. -/
def appZV (h : H) (ty size bytes : Nat) (z : List V) (base : Option (Nat × Nat)) (len cap : Nat) (opn : Bool) (n : Int) : Option Res :=
      if 0 ≤ n ∧ n ≤ 1099511627776 ∧ n.toNat * bytes ≤ 281474976710656 then
        if len + n.toNat ≤ cap then
          match base with
          | none => some (.eff (.slice none (len + n.toNat) cap opn) h)
          | some (i, o) => match putCells h i (o + len * size) (List.replicate n.toNat z).flatten with
            | some h' => some (.eff (.slice base (len + n.toNat) cap opn) h')
            | none => none
        else if len + n.toNat ≤ 1099511627776 ∧ (2 * (len + n.toNat) + 1024) * bytes ≤ 281474976710656 ∧ opn = false then
          match elemsV h size len (.slice base len cap opn) with
          | none => none
          | some old => match h.push (.cells (old ++ (List.replicate n.toNat z).flatten) ty true false none) with
            | some h' => some (.eff (.slice (some (h.size, 0)) (len + n.toNat) (len + n.toNat) true) h')
            | none => none
        else none
      else none

theorem appZ_eff {h : H} {ty size bytes : Nat} {z : List V} {base : Option (Nat × Nat)} {len cap : Nat} {opn : Bool} {n : Int} {r : Res} (hr : appZV h ty size bytes z base len cap opn n = some r) : ∃ v h', r = .eff v h' := by
  unfold appZV at hr
  split at hr
  · split at hr
    · split at hr
      · cases hr; exact ⟨_, _, rfl⟩
      · split at hr <;> cases hr; exact ⟨_, _, rfl⟩
    · split at hr
      · split at hr
        · cases hr
        · split at hr <;> cases hr; exact ⟨_, _, rfl⟩
      · cases hr
  · cases hr

theorem wrap_small (n : Int) (h0 : 0 ≤ n) (h1 : n ≤ 1099511627776) : IntKind.i64.wrap n = n := by
  have h2 : n % 18446744073709551616 = n := Int.emod_eq_of_lt h0 (by omega)
  simp [IntKind.wrap, IntKind.bits, IntKind.signed, h2]
  omega

section run
variable {t u e : TypeId} {i : TypeInfo} {z : Value} {k' kx : IntKind}

theorem run_appendZ_fits (ty : TypeId) {base : Option Addr} {sLen sCap : Nat} {n : Int} {w' : World} (h1 : P.underlying t = some (.slice e)) (h2 : P.underlying u = some (.int k'))
    (h3 : P.info? e = some i) (h4 : ∀ w, (zeroValue e).run P w = .ok z w) (hz : z.cells.size = i.size) (n0 : 0 ≤ n) (n1 : n ≤ 1099511627776) (n2 : n.toNat * i.bytes ≤ 281474976710656) (hfit : sLen + n.toNat ≤ sCap)
    (hs : match base with | none => w' = w | some a => (storeCells (a.add (sLen * i.size)) (Builtin.zeroCells z.cells n.toNat).toList).run P w = .ok () w') :
    (Builtin.append_ #[t, u] ty #[.slice base sLen sCap, .int kx n]).run P w = .ok (.slice base (sLen + n.toNat) sCap) w' := by
  have hsz : (sizeOf e).run P w = .ok i.size w := by simp [sizeOf, run_typeInfo h3]
  have q0 : (#[t, u] : Array TypeId)[0]? = some t := rfl
  have q1 : (#[t, u] : Array TypeId)[1]? = some u := rfl
  have q2 : (#[Value.slice base sLen sCap, .int kx n] : Array Value)[0]? = some (.slice base sLen sCap) := rfl
  have q3 : (#[Value.slice base sLen sCap, .int kx n] : Array Value)[1]? = some (.int kx n) := rfl
  have hw := wrap_small n n0 n1
  have c0 : ¬ (n < 0) := by omega
  have c1 : ¬ (n * (i.bytes : Int) > 2 ^ 48) := by
    have : n * (i.bytes : Int) = ((n.toNat * i.bytes : Nat) : Int) := by rw [Int.natCast_mul]; congr 1; omega
    rw [this]; omega
  have happ : (if n.toNat * i.size = 0 then (pure #[] : Sem (Array Value)) else do pure (Builtin.zeroCells (← zeroValue e).cells n.toNat)).run P w = .ok (Builtin.zeroCells z.cells n.toNat) w := by
    by_cases h0 : n.toNat * i.size = 0
    · rw [if_pos h0]
      have : (Builtin.zeroCells z.cells n.toNat) = #[] := by
        apply Array.eq_empty_of_size_eq_zero
        rw [length_zeroCells, hz]; exact h0
      rw [this]; rfl
    · rw [if_neg h0]; simp [h4]
  simp only [Builtin.append_, q0, q1, q2, q3, Sem.run_bind, run_underlying h1, Result.andThen_ok, hsz, run_underlying h2]
  simp only [Sem.run_pure, Result.andThen_ok, if_true, Sem.run_bind, asInt, asIntOf, hw, c0, if_false, run_typeInfo h3, c1, Sem.run_ite, hfit, Bool.not_true, Bool.false_eq_true]
  simp only [Sem.run_ite, Sem.run_bind, Sem.run_pure] at happ
  rw [happ]
  cases base with
  | none => subst hs; rfl
  | some a => simp only at hs; simp [hs]

theorem run_appendZ_grows (ty : TypeId) {base : Option Addr} {sLen sCap : Nat} {n : Int} {old : List Value} (h1 : P.underlying t = some (.slice e)) (h2 : P.underlying u = some (.int k'))
    (h3 : P.info? e = some i) (h4 : ∀ w, (zeroValue e).run P w = .ok z w) (hz : z.cells.size = i.size) (n0 : 0 ≤ n) (n1 : n ≤ 1099511627776) (n2 : n.toNat * i.bytes ≤ 281474976710656)
    (ho : (Builtin.firstCells i.size sLen (.slice base sLen sCap)).run P w.drew = .ok old.toArray w.drew) (hfit : ¬ sLen + n.toNat ≤ sCap)
    (hb1 : sLen + n.toNat ≤ 1099511627776) (hb2 : (2 * (sLen + n.toNat) + 1024) * i.bytes ≤ 281474976710656) :
    (Builtin.append_ #[t, u] ty #[.slice base sLen sCap, .int kx n]).run P w =
      .ok (.slice (some ⟨w.heap.size, 0, none⟩) (sLen + n.toNat) (drawnCap w (sLen + n.toNat) sCap e))
        { w.drew with heap := w.heap.push (.cells (old.toArray ++ Builtin.zeroCells z.cells n.toNat ++ Builtin.zeroCells z.cells (drawnCap w (sLen + n.toNat) sCap e - (sLen + n.toNat))) e) } := by
  have hsz : ∀ w, (sizeOf e).run P w = .ok i.size w := fun w => by simp [sizeOf, run_typeInfo h3]
  have q0 : (#[t, u] : Array TypeId)[0]? = some t := rfl
  have q1 : (#[t, u] : Array TypeId)[1]? = some u := rfl
  have q2 : (#[Value.slice base sLen sCap, .int kx n] : Array Value)[0]? = some (.slice base sLen sCap) := rfl
  have q3 : (#[Value.slice base sLen sCap, .int kx n] : Array Value)[1]? = some (.int kx n) := rfl
  have hw := wrap_small n n0 n1
  have c0 : ¬ (n < 0) := by omega
  have c1 : ¬ (n * (i.bytes : Int) > 2 ^ 48) := by
    have : n * (i.bytes : Int) = ((n.toNat * i.bytes : Nat) : Int) := by rw [Int.natCast_mul]; congr 1; omega
    rw [this]; omega
  have happ : (if n.toNat * i.size = 0 then (pure #[] : Sem (Array Value)) else do pure (Builtin.zeroCells (← zeroValue e).cells n.toNat)).run P w.drew = .ok (Builtin.zeroCells z.cells n.toNat) w.drew := by
    by_cases h0 : n.toNat * i.size = 0
    · rw [if_pos h0]
      have : (Builtin.zeroCells z.cells n.toNat) = #[] := by
        apply Array.eq_empty_of_size_eq_zero
        rw [length_zeroCells, hz]; exact h0
      rw [this]; rfl
    · rw [if_neg h0]; simp [h4]
  have d1 : ¬ (((sLen + n.toNat : Nat) : Int) > IntKind.i64.max) := by simp [IntKind.max, IntKind.signed, IntKind.bits]; omega
  have d2 : ¬ (Builtin.nextslicecap (sLen + n.toNat) sCap * i.bytes > 2 ^ 48) := by
    have := Nat.mul_le_mul_right i.bytes (nextslicecap_le (need := sLen + n.toNat) (cap := sCap) (by omega))
    omega
  simp only [Builtin.append_, q0, q1, q2, q3, Sem.run_bind, run_underlying h1, Result.andThen_ok, hsz, run_underlying h2]
  simp only [Sem.run_pure, Result.andThen_ok, if_true, Sem.run_bind, asInt, asIntOf, hw, c0, if_false, run_typeInfo h3, c1, Sem.run_ite, hfit, Bool.not_true, Bool.false_eq_true, d1, false_and, d2,
    run_choose, Question.forced, run_askRoom]
  simp only [Sem.run_ite, Sem.run_bind, Sem.run_pure] at happ
  simp [ho, h4, newRow, drawnCap]
  by_cases h0 : n.toNat * i.size = 0
  · have hemp : Builtin.zeroCells z.cells n.toNat = #[] := by
      apply Array.eq_empty_of_size_eq_zero
      rw [length_zeroCells, hz]; exact h0
    rw [if_pos h0, hemp, Array.empty_append]
    rfl
  · rw [if_neg h0]
    rfl
end run

theorem appZ_sound {t u e ty : TypeId} {i : TypeInfo} {zv : V} {k' kx : IntKind} {base : Option (Nat × Nat)} {len cap : Nat} {opn : Bool} {n : Int} {S : Value} {h' : H} {v : V} (hr : HR P m h w) (h1 : P.underlying t = some (.slice e)) (h2 : P.underlying u = some (.int k'))
    (h3 : P.info? e = some i) (h4 : zeroT P e = some zv) (h5 : zv.cells.length = i.size) (hs : VR m (.slice base len cap opn) S) (ha : appZV h e i.size i.bytes zv.cells base len cap opn n = some (.eff v h')) :
    ∃ m' w' y, HR P m' h' w' ∧ Ext m h w m' h' w' ∧ VR m' v y ∧ (Builtin.append_ #[t, u] ty #[S, .int kx n]).run P w = .ok y w' := by
  obtain ⟨z, hz, hrz⟩ := zeroT_spec (m := m) h4
  have hzs : z.cells.size = i.size := by rw [← Array.length_toList, (VR.cells hz).length]; exact h5
  have hcell : P.cellsOf e = i.size := by simp [Program.cellsOf, h3]
  have hzc : (Builtin.zeroCells z.cells n.toNat).toList = (List.replicate n.toNat z.cells.toList).flatten := by
    unfold Builtin.zeroCells; exact range_mod _ _
  have hnew : VRL m (List.replicate n.toNat zv.cells).flatten (Builtin.zeroCells z.cells n.toNat).toList := by rw [hzc]; exact VRL.flatten (VR.cells hz) _
  unfold appZV at ha
  split at ha
  · rename_i hn
    obtain ⟨n0, n1, n2⟩ := hn
    split at ha
    · rename_i hfit
      split at ha
      · cases ha
        cases hs
        exact ⟨m, w, _, hr, Ext.refl _ _ _, rfl, run_appendZ_fits ty h1 h2 h3 hrz hzs n0 n1 n2 hfit rfl⟩
      · rename_i b q
        split at ha <;> cases ha
        rename_i hp
        obtain ⟨R, sh, ex, ad, hm, rfl, hzz⟩ := hs
        by_cases had : ad = ⟨R, sh + q, none⟩
        · subst had
          obtain ⟨w', e1, e2, e3⟩ := putCells_sound hr hm hnew hp
          refine ⟨m, w', _, e2, e3, ⟨R, sh, ex, _, hm, rfl, .inl rfl⟩, run_appendZ_fits ty h1 h2 h3 hrz hzs n0 n1 n2 (by omega) ?_⟩
          simp only [add_at]
          rw [Nat.add_assoc] at *
          exact e1
        · obtain ⟨hl0, hc0, hb0⟩ := hzz.resolve_left had
          have hn0 : n.toNat = 0 := by omega
          have hh : h' = h := by simpa [putCells, hn0] using hp.symm
          subst hh
          refine ⟨m, w, _, hr, Ext.refl _ _ _, ⟨R, sh, ex, ad, hm, rfl, .inr ⟨by omega, hc0, hb0⟩⟩, run_appendZ_fits ty h1 h2 h3 hrz hzs n0 n1 n2 (by omega) ?_⟩
          simp [hn0, Builtin.zeroCells, storeCells]
    · rename_i hfit
      split at ha
      · rename_i hbig
        obtain ⟨b1, b2, rfl⟩ := hbig
        split at ha
        · cases ha
        · rename_i old hold
          split at ha <;> cases ha
          rename_i hp
          have hrd := hr.drew (Drew.one w)
          obtain ⟨os, ro, hos⟩ := run_elemsV hrd hs rfl (Nat.le_refl _) hold
          have grow : ∀ base', S = .slice base' len cap → ∃ m' w' y, HR P m' h' w' ∧ Ext m h w m' h' w' ∧ VR m' (.slice (some (h.size, 0)) (len + n.toNat) (len + n.toNat) true) y ∧ (Builtin.append_ #[t, u] ty #[S, .int kx n]).run P w = .ok y w' := by
            rintro base' rfl
            have hge := drawnCap_ge w (len + n.toNat) cap e
            obtain ⟨g1, g2⟩ := hr.push (e := drawnCap w (len + n.toNat) cap e - (len + n.toNat)) hp
              (New.of_drew (Drew.one w) (New.alloc w.drew (.cells ((os ++ (Builtin.zeroCells z.cells n.toNat).toList) ++ (Builtin.zeroCells z.cells (drawnCap w (len + n.toNat) cap e - (len + n.toNat))).toList).toArray e)))
              (OR.opened (hos.append hnew) (by rw [Array.length_toList, length_zeroCells, hzs, hcell]; exact Nat.le_refl _) (by simp [FzOK]))
            refine ⟨_, _, .slice (some ⟨w.heap.size, 0, none⟩) (len + n.toNat) (drawnCap w (len + n.toNat) cap e), g1, g2, ?_, ?_⟩
            · refine ⟨w.heap.size, 0, drawnCap w (len + n.toNat) cap e - (len + n.toNat), ⟨w.heap.size, 0, none⟩, upd_self _ _ _, ?_, .inl rfl⟩
              congr 1
              simp; omega
            · rw [run_appendZ_grows ty h1 h2 h3 hrz hzs n0 n1 n2 ro hfit b1 b2]
              congr 1
              refine congrArg (fun hp => ({ heap := w.heap.push (.cells hp e), tape := w.tape, drawn := w.drawn + 1, os := w.os, output := w.output } : World)) ?_
              apply Array.ext'
              simp
          cases base with
          | none => cases hs; exact grow none rfl
          | some b =>
            obtain ⟨bi, bo⟩ := b
            obtain ⟨R, sh, ex, ad, hm, rfl, hzz⟩ := hs
            exact grow (some ad) (by simp)
      · cases ha
  · cases ha
end Go.AM
