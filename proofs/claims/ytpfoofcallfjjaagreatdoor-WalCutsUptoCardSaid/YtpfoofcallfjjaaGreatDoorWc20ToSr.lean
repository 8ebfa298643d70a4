/- My own texts, laid for this claim. -/
import Derived.Test.YtpfoofcallfjjaaGreatDoorWcLastToWc19
set_option linter.unusedSimpArgs false
set_option linter.unusedVariables false
/-! Cut. -/
namespace Go.AM.Wc
open Go.AM
variable {P : Program} {E : Env} {T : H → Prop}
theorem findK_shift {kt : EqT} {k : V} : ∀ (es : List (V × V × Nat)) (j : Nat), findK kt k es (j + 1) = (findK kt k es j).map fun o => o.map fun p => (p.1 + 1, p.2)
  | [], _ => rfl
  | e :: es, j => by
    simp only [findK]
    cases sameK kt k e.1 with
    | none => rfl
    | some b => cases b with
      | true => rfl
      | false => exact findK_shift es (j + 1)
theorem findK_erase {n m : List UInt8} (hnm : n ≠ m) : ∀ (es : List (V × V × Nat)) (i i2 : Nat) (v v2 : V), findK .str (.str n) es 0 = some (some (i, v)) → findK .str (.str m) es 0 = some (some (i2, v2)) → ∃ i3, findK .str (.str m) (es.eraseIdx i) 0 = some (some (i3, v2))
  | [], i, i2, v, v2, h, _ => by simp [findK] at h
  | e :: es, i, i2, v, v2, h1, h2 => by
    simp only [findK] at h1 h2
    rw [findK_shift] at h1 h2
    cases hk : e.1 with
    | str s =>
      rw [hk] at h1 h2
      simp only [sameK] at h1 h2
      cases hn : n == s with
      | true =>
        rw [hn] at h1
        have hi : i = 0 := by simp only [Option.some.injEq, Prod.mk.injEq] at h1; exact h1.1.symm
        have hm : (m == s) = false := by
          cases hq : m == s with
          | false => rfl
          | true => exact (hnm ((beq_iff_eq.1 hn).trans (beq_iff_eq.1 hq).symm)).elim
        rw [hm] at h2
        simp only at h2
        cases hf : findK .str (.str m) es 0 with
        | none => rw [hf] at h2; cases h2
        | some o =>
          rw [hf] at h2
          cases o with
          | none => cases h2
          | some p =>
            simp only [Option.map_some, Option.some.injEq, Prod.mk.injEq] at h2
            subst hi
            exact ⟨p.1, by simp only [List.eraseIdx_zero, List.tail_cons, hf, ← h2.2]⟩
      | false =>
        rw [hn] at h1
        simp only at h1
        cases hf1 : findK .str (.str n) es 0 with
        | none => rw [hf1] at h1; cases h1
        | some o1 =>
        rw [hf1] at h1
        cases o1 with
        | none => cases h1
        | some p1 =>
        simp only [Option.map_some, Option.some.injEq, Prod.mk.injEq] at h1
        obtain ⟨hi, _⟩ := h1
        subst hi
        cases hm : m == s with
        | true =>
          rw [hm] at h2
          simp only [Option.some.injEq, Prod.mk.injEq] at h2
          refine ⟨0, ?_⟩
          simp only [List.eraseIdx_cons_succ, findK, hk, sameK, hm, h2.2]
        | false =>
          rw [hm] at h2
          simp only at h2
          cases hf2 : findK .str (.str m) es 0 with
          | none => rw [hf2] at h2; cases h2
          | some o2 =>
          rw [hf2] at h2
          cases o2 with
          | none => cases h2
          | some p2 =>
          simp only [Option.map_some, Option.some.injEq, Prod.mk.injEq] at h2
          obtain ⟨i3, h3⟩ := findK_erase hnm es p1.1 p2.1 p1.2 p2.2 hf1 hf2
          refine ⟨i3 + 1, ?_⟩
          simp only [List.eraseIdx_cons_succ, findK, hk, sameK, hm]
          rw [findK_shift, h3]
          simp only [Option.map_some, h2.2]
    | _ => rw [hk] at h1; simp [sameK] at h1
/-- The log while it is cut: the first j segments are gone. -/
structure CutS (lo : Nat) (h : H) (lb bd bm sbb : Nat) (sgs : List Sg) (j nx : Nat) (br : Bool) : Prop where
  ow : ∃ es cl, Ow lo h ([] ++ (bd, .cells (diskC bm) 63 false false none) :: (bm, .map es cl) :: ((lb, lgO bd (.slice (some (sbb, j * 4)) (sgs.length - j) (sgs.length - j) true) nx 0 br) :: (sbb, .cells (sgs.flatMap Sg.cells) 74 true false none) :: sgs.flatMap Sg.foot)) ∧
    ∀ s ∈ sgs.drop j, ∃ i blk, findK .str (.str (segN s.fst)) es 0 = some (some (i, .ptr (some (blk, 0))))
theorem flat_seg {sgs : List Sg} {k : Nat} (hk : k < sgs.length) : sgs.flatMap Sg.cells = (sgs.take k).flatMap Sg.cells ++ (sgs[k].cells ++ (sgs.drop (k + 1)).flatMap Sg.cells) := by
  have hsp : sgs = sgs.take k ++ sgs[k] :: sgs.drop (k + 1) := by simp
  have := congrArg (List.flatMap Sg.cells) hsp
  rw [List.flatMap_append, List.flatMap_cons] at this
  exact this
theorem flat_take {sgs : List Sg} {k : Nat} (hk : k < sgs.length) : List.take 4 (List.drop (k * 4) (sgs.flatMap Sg.cells)) = sgs[k].cells := by
  have hl : ((sgs.take k).flatMap Sg.cells).length = k * 4 := by rw [seg_len, List.length_take, Nat.min_eq_left (by omega)]
  rw [flat_seg hk, ← hl, List.drop_left]
  have h4 : sgs[k].cells.length = 4 := rfl
  rw [← h4, List.take_left]
theorem flat_fst {sgs : List Sg} {k : Nat} (hk : k < sgs.length) : (sgs.flatMap Sg.cells)[k * 4]? = some (.int .i64 sgs[k].fst) := by
  have hl : ((sgs.take k).flatMap Sg.cells).length = k * 4 := by rw [seg_len, List.length_take, Nat.min_eq_left (by omega)]
  rw [flat_seg hk, ← hl, List.getElem?_append_right (Nat.le_refl _), Nat.sub_self]
  rfl
def CutR (lo lb bd bm sbb : Nat) (sgs : List Sg) (nx : Nat) (br : Bool) (before : Int) (h : H) (r : V) (h' : H) : Prop :=
  r = .int .i64 0 ∧ ∃ j a, CutS lo h' lb bd bm sbb sgs j nx br ∧ j < sgs.length ∧ chain (sgs.drop j) a nx ∧ ((a : Int) ≤ 0 ∨ (a : Int) ≤ before) ∧ Keeps lo h h'
set_option maxHeartbeats 1000000 in
theorem cut13 (F : Fw P E T) {lo : Nat} {h : H} {lb bd bm sbb nx : Nat} {br : Bool} {sgs : List Sg} {before : Int} (c0 : CutS lo h lb bd bm sbb sgs 0 nx br) (hc : chain sgs 0 nx) (hne : 0 < sgs.length) (hm : nx ≤ 1000000000000) (hlo : lo ≤ h.size) (h1lo : 1 ≤ lo) (ht : T h) :
    Sp P E (.func 13 [] []) [.ptr (some (lb, 0)), .int .i64 before] h (CutR lo lb bd bm sbb sgs nx br before h) := by
  have hnl := chain_len hc
  have c4 : ((0 : Int) != 0) = false := rfl
  have loop : ∀ (d j a : Nat) (ρ : Nat → V) (h1 : H), sgs.length - j = d → j < sgs.length → CutS lo h1 lb bd bm sbb sgs j nx br → chain (sgs.drop j) a nx → ((a : Int) ≤ 0 ∨ (a : Int) ≤ before) → Keeps lo h h1 → ρ 0 = .ptr (some (lb, 0)) → ρ 1 = .int .i64 before →
      XL P E none 53 b13_6 [.b 0, .c (.seq (.region [⟨some 4, .mv (.k (.int .i64 0)), none, 0, [4]⟩]) (.ret))] ρ h1 (Fin [.t 4] (CutR lo lb bd bm sbb sgs nx br before h)) := by
    intro d
    induction d with
    | zero => intro j a ρ h1 hd hj; omega
    | succ d ih =>
      intro j a ρ h1 hd hj cs hch ha kk q0 q1
      have cs0 := cs
      obtain ⟨es, cl, ow, hes⟩ := cs
      have gl := ow.at (i := lb) (o := lgO bd (.slice (some (sbb, j * 4)) (sgs.length - j) (sgs.length - j) true) nx 0 br) (by simp)
      have gs := ow.at (i := sbb) (o := .cells (sgs.flatMap Sg.cells) 74 true false none) (by simp)
      unfold lgO lgC at gl
      rw [List.drop_eq_getElem_cons hj] at hch
      obtain ⟨hf, oks, hch2⟩ := hch
      have hnl2 := chain_len hch2
      have hr1 : 1 ≤ sgs[j].rs.length := List.length_pos_iff.2 oks.ne
      by_cases hgt : ((sgs.length - j : Nat) : Int) > 1
      rotate_left
      · rw [u13_6]
        simp (maxSteps := 2000000) only [GO, GO2, evK, fillV, setR, binV, intOp, strOp, shOp, unV, getR, lenV, partV, V.nj, V.njL, V.cells, Nat.reduceLT, Nat.reduceEqDiff, Nat.reduceAdd, ↓reduceIte, Nat.reduceLeDiff, reduceCtorEq, r13_1, q0, gl, hgt]
        exact ⟨rfl, j, a, cs0, hj, by rw [List.drop_eq_getElem_cons hj]; exact ⟨hf, oks, hch2⟩, ha, kk⟩
      have c00 : (0 : Int) ≤ 0 := Int.le_refl _
      have t00 : Int.toNat 0 = 0 := rfl
      have hlt0 : (0 : Int) < ((sgs.length - j : Nat) : Int) := by omega
      have hle : j * 4 + 4 ≤ (sgs.flatMap Sg.cells).length := by rw [seg_len]; omega
      have htk := flat_take hj
      have hfs := flat_fst hj
      rw [u13_6]
      simp (maxSteps := 2000000) only [GO, GO2, evK, fillV, setR, binV, intOp, strOp, shOp, unV, getR, lenV, partV, V.nj, V.njL, V.cells, Nat.reduceLT, Nat.reduceEqDiff, Nat.reduceAdd, ↓reduceIte, Nat.reduceLeDiff, reduceCtorEq, r13_1, q0, gl, hgt, c00, t00, hlt0, Nat.zero_mul, Nat.add_zero, gs, hle, htk]
      refine XC_of (end30 F oks.nn (by omega)) ?_
      rintro _ h2 ⟨rfl, k2⟩
      have hl1 : lo ≤ h1.size := Nat.le_trans hlo kk.size
      have hl2 : lo ≤ h2.size := Nat.le_trans hl1 k2.size
      have kk2 : Keeps lo h h2 := Keeps.trans kk (k2.mono hl1)
      have ow2 := ow.kp k2
      have gl2 := k2.of gl
      have gs2 := k2.of gs
      by_cases hb : ((sgs[j].fst + sgs[j].rs.length : Nat) : Int) ≤ before
      rotate_left
      · simp (maxSteps := 2000000) only [GO, GO2, evK, fillV, setR, binV, intOp, strOp, shOp, unV, getR, lenV, partV, V.nj, V.njL, V.cells, Nat.reduceLT, Nat.reduceEqDiff, Nat.reduceAdd, ↓reduceIte, Nat.reduceLeDiff, reduceCtorEq, q1, hb]
        exact ⟨rfl, j, a, ⟨es, cl, ow2, hes⟩, hj, by rw [List.drop_eq_getElem_cons hj]; exact ⟨hf, oks, hch2⟩, ha, kk2⟩
      simp (maxSteps := 2000000) only [GO, GO2, evK, fillV, setR, binV, intOp, strOp, shOp, unV, getR, lenV, partV, V.nj, V.njL, V.cells, Nat.reduceLT, Nat.reduceEqDiff, Nat.reduceAdd, ↓reduceIte, Nat.reduceLeDiff, reduceCtorEq, q1, hb]
      rw [X_draw]
      refine l13_2 ?_
      simp (maxSteps := 2000000) only [GO, GO2, evK, fillV, setR, binV, intOp, strOp, shOp, unV, getR, lenV, partV, V.nj, V.njL, V.cells, Nat.reduceLT, Nat.reduceEqDiff, Nat.reduceAdd, ↓reduceIte, Nat.reduceLeDiff, reduceCtorEq, r13_2a, q0, gl2, c00, t00, hlt0, Nat.zero_mul, Nat.add_zero, gs2, hfs]
      refine XCQ_of (seg_nx F (F.tlow _ _ _ h1lo ht kk2) (by omega)) ?_
      rintro _ h3 ⟨rfl, k3⟩
      refine ⟨k3, ?_⟩
      obtain ⟨i, blk, hfi⟩ := hes sgs[j] (by rw [List.drop_eq_getElem_cons hj]; exact List.mem_cons_self)
      have hsl := segN_len (n := sgs[j].fst) (by omega)
      simp (maxSteps := 2000000) only [GO, GO2, evK, fillV, setR, binV, intOp, strOp, shOp, unV, getR, lenV, partV, V.nj, V.njL, V.cells, Nat.reduceLT, Nat.reduceEqDiff, Nat.reduceAdd, ↓reduceIte, Nat.reduceLeDiff, reduceCtorEq, r13_2b]
      refine XC_of (remove39 F (m1 := []) (ow2.kp k3) (Nat.le_trans hl2 k3.size) hfi (by omega) (by omega)) ?_
      rintro _ h4 ⟨rfl, ow4, k4⟩
      have gl4 := ow4.at (i := lb) (o := lgO bd (.slice (some (sbb, j * 4)) (sgs.length - j) (sgs.length - j) true) nx 0 br) (by simp)
      have hbo : boundsV (sgs.length - j) (sgs.length - j) (some (.int .i64 1)) none none = some (1, sgs.length - j, sgs.length - j) := by
        have h1 : (1 : Nat) ≤ sgs.length - j := by omega
        have hb1 : boundV (sgs.length - j) (.int .i64 1) = some 1 := by
          unfold boundV
          simp; omega
        unfold boundsV
        simp only [hb1]
      have ow4a : Ow lo h4 (((bd, .cells (diskC bm) 63 false false none) :: [(bm, .map (es.eraseIdx i) cl)]) ++ (lb, lgO bd (.slice (some (sbb, j * 4)) (sgs.length - j) (sgs.length - j) true) nx 0 br) :: ((sbb, .cells (sgs.flatMap Sg.cells) 74 true false none) :: sgs.flatMap Sg.foot)) := ow4
      obtain ⟨ow5, k5⟩ := ow4a.setM (lgO bd (.slice (some (sbb, (j + 1) * 4)) (sgs.length - (j + 1)) (sgs.length - (j + 1)) true) nx 0 br)
      have e4 := put_at (ws := [.slice (some (sbb, (j + 1) * 4)) (sgs.length - (j + 1)) (sgs.length - (j + 1)) true]) (o := 2) (vs := lgC bd (.slice (some (sbb, j * 4)) (sgs.length - j) (sgs.length - j) true) nx 0 br) gl4 (by simp [lgC]) rfl rfl
      have t2 : setR (lgC bd (.slice (some (sbb, j * 4)) (sgs.length - j) (sgs.length - j) true) nx 0 br) 2 [.slice (some (sbb, (j + 1) * 4)) (sgs.length - (j + 1)) (sgs.length - (j + 1)) true] = lgC bd (.slice (some (sbb, (j + 1) * 4)) (sgs.length - (j + 1)) (sgs.length - (j + 1)) true) nx 0 br := rfl
      rw [t2] at e4
      unfold lgO at ow5 k5
      unfold lgO lgC at gl4
      have hs1 : sgs.length - j - 1 = sgs.length - (j + 1) := by omega
      have hs2 : j * 4 + 1 * 4 = (j + 1) * 4 := by omega
      have hcap : sgs.length - j ≤ sgs.length - j := Nat.le_refl _
      generalize h4.set lb (.cells (lgC bd (.slice (some (sbb, (j + 1) * 4)) (sgs.length - (j + 1)) (sgs.length - (j + 1)) true) nx 0 br) 68 false false none) = h5 at *
      simp (maxSteps := 2000000) only [GO, GO2, evK, fillV, setR, binV, intOp, strOp, shOp, unV, getR, lenV, partV, V.nj, V.njL, V.cells, Nat.reduceLT, Nat.reduceEqDiff, Nat.reduceAdd, ↓reduceIte, Nat.reduceLeDiff, reduceCtorEq, r13_3, c4, r13_5, q0, gl4, hcap, hbo, Option.map_some, hs1, hs2, Option.isNone_none, Bool.and_true, e4]
      refine ih (j + 1) (a + sgs[j].rs.length) _ h5 (by omega) (by omega) ⟨es.eraseIdx i, cl, ow5, ?_⟩ hch2 (.inr (by rw [← hf]; exact hb)) (Keeps.trans kk2 (Keeps.trans (k3.mono hl2) (Keeps.trans k4 k5))) ?_ ?_
      · intro s hs
        obtain ⟨i2, blk2, hf2⟩ := hes s (by rw [List.drop_eq_getElem_cons hj]; exact List.mem_cons_of_mem _ hs)
        obtain ⟨q1', q2', q3'⟩ := chain_mem hch2 s hs
        have hs1' : 1 ≤ s.rs.length := List.length_pos_iff.2 q1'.ne
        have hne' : segN sgs[j].fst ≠ segN s.fst := by
          intro he
          have := segN_inj (by omega) (by omega) he
          omega
        obtain ⟨i3, h3'⟩ := findK_erase hne' es i i2 _ _ hfi hf2
        exact ⟨i3, blk2, h3'⟩
      · exact q0
      · exact q1
  obtain ⟨es0, cl0, ow0, _⟩ := c0.ow
  have gl0 := ow0.at (i := lb) (o := lgO bd (.slice (some (sbb, 0 * 4)) (sgs.length - 0) (sgs.length - 0) true) nx 0 br) (by simp)
  refine Sp_fn F.f13 F.p13 (by simp [fn13]) ?_
  simp (maxSteps := 2000000) only [GO, GO2, evK, fillV, setR, binV, intOp, strOp, shOp, unV, getR, lenV, partV, V.nj, V.njL, V.cells, Nat.reduceLT, Nat.reduceEqDiff, Nat.reduceAdd, ↓reduceIte, Nat.reduceLeDiff, reduceCtorEq, fn13, c13, r13_0]
  refine XC_of (none34 F gl0) ?_
  rintro _ hx ⟨rfl, e2⟩
  rw [e2]
  clear e2 hx
  simp (maxSteps := 2000000) only [GO, GO2, evK, fillV, setR, binV, intOp, strOp, shOp, unV, getR, lenV, partV, V.nj, V.njL, V.cells, Nat.reduceLT, Nat.reduceEqDiff, Nat.reduceAdd, ↓reduceIte, Nat.reduceLeDiff, reduceCtorEq]
  refine loop sgs.length 0 0 _ h rfl hne c0 hc (.inl (Int.le_refl _)) (Keeps.refl _ _) ?_ ?_
  · rfl
  · rfl
end Go.AM.Wc
/-! A new disk; a log opened on it. -/
namespace Go.AM.Wc
open Go.AM
variable {P : Program} {E : Env} {T : H → Prop}
theorem new7 (F : Fw P E T) {h : H} : Sp P E (.func 7 [] []) [.int .i64 1048576] h fun r h' => ∃ bd bm, r = .tup [.ptr (some (bd, 0)), .int .i64 0] ∧ Ow h.size h' (dkF bd bm []) ∧ Kp h h' := by
  have c1 : ¬ (1048576 : Int) < 0 := by decide
  have k1 : Kp h (h.psh (.map [] 0)) := Keeps.psh (Nat.le_refl _) _
  have k2 : Kp (h.psh (.map [] 0)) ((h.psh (.map [] 0)).psh (.cells [.map (some h.size), .int .i64 0, .int .i64 0, .int .i64 1048576, .bool false] 63 false false none)) := Keeps.psh (Nat.le_refl _) _
  have a1 := (Ow.nil h.size h).push (Nat.le_refl _) (.map [] 0)
  have a2 := a1.push k1.size (.cells [.map (some h.size), .int .i64 0, .int .i64 0, .int .i64 1048576, .bool false] 63 false false none)
  refine Sp_fn F.f7 F.p7 (by simp [fn7]) ?_
  simp (maxSteps := 2000000) only [GO, GO2, evK, fillV, setR, binV, intOp, strOp, shOp, unV, getR, lenV, partV, V.nj, V.njL, V.cells, Nat.reduceLT, Nat.reduceEqDiff, Nat.reduceAdd, ↓reduceIte, Nat.reduceLeDiff, reduceCtorEq, fn7, c7, r7_0, r7_1, c1, r7_3]
  exact ⟨_, _, rfl, a2, Kp.trans k1 k2⟩
theorem down25 (F : Fw P E T) {h : H} {bd bm : Nat} (gd : h.get bd = some (.cells (diskC bm) 63 false false none)) : Sp P E (.func 25 [] []) [.ptr (some (bd, 0))] h fun v h' => v = .bool false ∧ h' = h := by
  refine Sp_fn F.f25 F.p25 (by simp [fn25]) ?_
  simp (maxSteps := 2000000) only [GO, GO2, evK, fillV, setR, binV, intOp, strOp, shOp, unV, getR, lenV, partV, V.nj, V.njL, V.cells, Nat.reduceLT, Nat.reduceEqDiff, Nat.reduceAdd, ↓reduceIte, Nat.reduceLeDiff, reduceCtorEq, fn25, c25, r25_0]
  refine XC_of (none55 F gd) ?_
  rintro _ hx ⟨rfl, e2⟩
  rw [e2]
  clear e2 hx
  unfold diskC at gd
  simp (maxSteps := 2000000) only [GO, GO2, evK, fillV, setR, binV, intOp, strOp, shOp, unV, getR, lenV, partV, V.nj, V.njL, V.cells, Nat.reduceLT, Nat.reduceEqDiff, Nat.reduceAdd, ↓reduceIte, Nat.reduceLeDiff, reduceCtorEq, Bool.not_false, gd]
theorem clone26 (F : Fw P E T) {h : H} {bd bm : Nat} (gd : h.get bd = some (.cells (diskC bm) 63 false false none)) (gm : h.get bm = some (.map [] 0)) : Sp P E (.func 26 [] []) [.ptr (some (bd, 0))] h fun v h' => (∃ b, v = .ptr (some b)) ∧ Kp h h' := by
  refine Sp_fn F.f26 F.p26 (by simp [fn26]) ?_
  simp (maxSteps := 2000000) only [GO, GO2, evK, fillV, setR, binV, intOp, strOp, shOp, unV, getR, lenV, partV, V.nj, V.njL, V.cells, Nat.reduceLT, Nat.reduceEqDiff, Nat.reduceAdd, ↓reduceIte, Nat.reduceLeDiff, reduceCtorEq, fn26, c26, r26_0]
  refine XC_of (none55 F gd) ?_
  rintro _ hx ⟨rfl, e2⟩
  rw [e2]
  clear e2 hx
  unfold diskC at gd
  simp (maxSteps := 2000000) only [GO, GO2, evK, fillV, setR, binV, intOp, strOp, shOp, unV, getR, lenV, partV, V.nj, V.njL, V.cells, Nat.reduceLT, Nat.reduceEqDiff, Nat.reduceAdd, ↓reduceIte, Nat.reduceLeDiff, reduceCtorEq]
  rw [X_draw]
  refine d26_1 ?_
  simp (maxSteps := 2000000) only [GO, GO2, evK, fillV, setR, binV, intOp, strOp, shOp, unV, getR, lenV, partV, V.nj, V.njL, V.cells, Nat.reduceLT, Nat.reduceEqDiff, Nat.reduceAdd, ↓reduceIte, Nat.reduceLeDiff, reduceCtorEq, r26_1, gd]
  have k1 : Kp h (h.psh (.map [] 0)) := Keeps.psh (Nat.le_refl _) _
  have k2 : Kp (h.psh (.map [] 0)) ((h.psh (.map [] 0)).psh (.cells [.map (some h.size), .int .i64 0, .int .i64 0, .int .i64 1048576, .bool false] 63 false false none)) := Keeps.psh (Nat.le_refl _) _
  refine ⟨k1, rfl, k2, ?_⟩
  have k12 := Kp.trans k1 k2
  have gd2 := k12.of gd
  have gm2 := k12.of gm
  generalize (h.psh (.map [] 0)).psh (.cells [.map (some h.size), .int .i64 0, .int .i64 0, .int .i64 1048576, .bool false] 63 false false none) = h2 at *
  have k3 : Kp h2 (h2.psh (.mapIter (some bm) 0 [] 0)) := Keeps.psh (Nat.le_refl _) _
  have g3 := psh_same h2 (.mapIter (some bm) 0 [] 0)
  have gm3 := k3.of gm2
  simp (maxSteps := 2000000) only [GO, GO2, evK, fillV, setR, binV, intOp, strOp, shOp, unV, getR, lenV, partV, V.nj, V.njL, V.cells, Nat.reduceLT, Nat.reduceEqDiff, Nat.reduceAdd, ↓reduceIte, Nat.reduceLeDiff, reduceCtorEq, r26_2, gd2, gm2]
  generalize h2.psh (.mapIter (some bm) 0 [] 0) = h3 at *
  rw [u26_6]
  simp (maxSteps := 2000000) only [GO, GO2, evK, fillV, setR, binV, intOp, strOp, shOp, unV, getR, lenV, partV, V.nj, V.njL, V.cells, Nat.reduceLT, Nat.reduceEqDiff, Nat.reduceAdd, ↓reduceIte, Nat.reduceLeDiff, reduceCtorEq, r26_3, g3, gm3, List.isEmpty_nil, Bool.not_true, Bool.false_and, List.filter_nil, Bool.false_eq_true, List.getElem?_cons_zero, r26_7]
  exact ⟨⟨_, rfl⟩, Kp.trans k12 k3⟩
theorem cut13e (F : Fw P E T) {h : H} {lb bd : Nat} {p : Option (Nat × Nat)} {c : Nat} {q : Bool} {nx sy before : Int} {br : Bool} (gl : h.get lb = some (lgO bd (.slice p 0 c q) nx sy br)) : Sp P E (.func 13 [] []) [.ptr (some (lb, 0)), .int .i64 before] h fun r h' => r = .int .i64 0 ∧ h' = h := by
  have c1 : ¬ ((0 : Nat) : Int) > 1 := by decide
  refine Sp_fn F.f13 F.p13 (by simp [fn13]) ?_
  simp (maxSteps := 2000000) only [GO, GO2, evK, fillV, setR, binV, intOp, strOp, shOp, unV, getR, lenV, partV, V.nj, V.njL, V.cells, Nat.reduceLT, Nat.reduceEqDiff, Nat.reduceAdd, ↓reduceIte, Nat.reduceLeDiff, reduceCtorEq, fn13, c13, r13_0]
  refine XC_of (none34 F gl) ?_
  rintro _ hx ⟨rfl, e2⟩
  rw [e2]
  clear e2 hx
  unfold lgO lgC at gl
  simp (maxSteps := 2000000) only [GO, GO2, evK, fillV, setR, binV, intOp, strOp, shOp, unV, getR, lenV, partV, V.nj, V.njL, V.cells, Nat.reduceLT, Nat.reduceEqDiff, Nat.reduceAdd, ↓reduceIte, Nat.reduceLeDiff, reduceCtorEq]
  rw [u13_6]
  simp (maxSteps := 2000000) only [GO, GO2, evK, fillV, setR, binV, intOp, strOp, shOp, unV, getR, lenV, partV, V.nj, V.njL, V.cells, Nat.reduceLT, Nat.reduceEqDiff, Nat.reduceAdd, ↓reduceIte, Nat.reduceLeDiff, reduceCtorEq, r13_1, gl, c1]
set_option maxHeartbeats 1000000 in
theorem open8 (F : Fw P E T) (num : ∀ h bd bm, T h → h.get bm = some (.map [] 0) → h.get bd = some (.cells (diskC bm) 63 false false none) → Sp P E (.func 27 [] []) [.ptr (some (bd, 0)), .str logN] h fun v h' => (∃ p c o, v = .slice p 0 c o) ∧ Kp h h')
    {lo : Nat} {h : H} {bd bm : Nat} (ow : Ow lo h (dkF bd bm [])) (hlo : lo ≤ h.size) (ht : T h) : Sp P E (.func 8 [] []) [.ptr (some (bd, 0)), .str logN] h fun r h' => ∃ lb, r = .tup [.ptr (some (lb, 0)), .int .i64 0] ∧ Ow lo h' (dkF bd bm [] ++ lgF lb bd none [] 0 false) ∧ Kp h h' := by
  refine Sp_fn F.f8 F.p8 (by simp [fn8]) ?_
  simp (maxSteps := 2000000) only [GO, GO2, evK, fillV, setR, binV, intOp, strOp, shOp, unV, getR, lenV, partV, V.nj, V.njL, V.cells, Nat.reduceLT, Nat.reduceEqDiff, Nat.reduceAdd, ↓reduceIte, Nat.reduceLeDiff, reduceCtorEq, fn8, c8, r8_0, r8_1]
  refine XC_of (named24 F (by decide)) ?_
  rintro _ h1 ⟨rfl, e1⟩
  have k1 : Kp h h1 := by rw [e1]; exact Keeps.psh (Nat.le_refl _) _
  have hnm : isName logN = true := by decide
  have ow1 := ow.kp k1
  clear e1
  have gd1 := ow1.at (i := bd) (o := .cells (diskC bm) 63 false false none) (by simp [dkF])
  have gm1 : h1.get bm = some (.map [] 0) := ow1.at (i := bm) (o := mo (([] : List Fl).map fun f => entU f.fu)) (by simp [dkF])
  simp (maxSteps := 2000000) only [GO, GO2, evK, fillV, setR, binV, intOp, strOp, shOp, unV, getR, lenV, partV, V.nj, V.njL, V.cells, Nat.reduceLT, Nat.reduceEqDiff, Nat.reduceAdd, ↓reduceIte, Nat.reduceLeDiff, reduceCtorEq, hnm, Bool.not_true, r8_3]
  refine XC_of (down25 F gd1) ?_
  rintro _ hx ⟨rfl, e2⟩
  rw [e2]
  clear e2 hx
  simp (maxSteps := 2000000) only [GO, GO2, evK, fillV, setR, binV, intOp, strOp, shOp, unV, getR, lenV, partV, V.nj, V.njL, V.cells, Nat.reduceLT, Nat.reduceEqDiff, Nat.reduceAdd, ↓reduceIte, Nat.reduceLeDiff, reduceCtorEq, r8_5]
  refine XC_of (clone26 F gd1 gm1) ?_
  rintro _ h2 ⟨⟨b, rfl⟩, k2⟩
  have ow2 := ow1.kp k2
  have k12 := Kp.trans k1 k2
  have hl2 : lo ≤ h2.size := Nat.le_trans hlo k12.size
  have k3 : Kp h2 (h2.psh (lgO bd (.slice none 0 0 false) 0 0 false)) := Keeps.psh (Nat.le_refl _) _
  have g3 := psh_same h2 (lgO bd (.slice none 0 0 false) 0 0 false)
  have ow3 := Ow.pushM (m1 := dkF bd bm []) (m2 := []) (by simpa using ow2) hl2 (lgO bd (.slice none 0 0 false) 0 0 false)
  have k13 := Kp.trans k12 k3
  simp (maxSteps := 2000000) only [GO, GO2, evK, fillV, setR, binV, intOp, strOp, shOp, unV, getR, lenV, partV, V.nj, V.njL, V.cells, Nat.reduceLT, Nat.reduceEqDiff, Nat.reduceAdd, ↓reduceIte, Nat.reduceLeDiff, reduceCtorEq, eq_pn, r8_7]
  unfold lgO lgC at g3
  unfold lgO lgC at ow3 k3 k13
  generalize h2.psh (.cells [.ptr (some (bd, 0)), .str logN, .slice none 0 0 false, .int .i64 0, .int .i64 0, .bool false] 68 false false none) = h3 at *
  simp (maxSteps := 2000000) only [GO, GO2, evK, fillV, setR, binV, intOp, strOp, shOp, unV, getR, lenV, partV, V.nj, V.njL, V.cells, Nat.reduceLT, Nat.reduceEqDiff, Nat.reduceAdd, ↓reduceIte, Nat.reduceLeDiff, reduceCtorEq, r8_8]
  have gd3 := ow3.at (i := bd) (o := .cells (diskC bm) 63 false false none) (by simp [dkF])
  have gm3 : h3.get bm = some (.map [] 0) := ow3.at (i := bm) (o := mo (([] : List Fl).map fun f => entU f.fu)) (by simp [dkF])
  refine XC_of (num h3 bd bm (F.tkeep ht k13) gm3 gd3) ?_
  rintro _ h4 ⟨⟨p, c, o, rfl⟩, k4⟩
  have c0 : ¬ (0 : Int) < ((0 : Nat) : Int) := by decide
  simp (maxSteps := 2000000) only [GO, GO2, evK, fillV, setR, binV, intOp, strOp, shOp, unV, getR, lenV, partV, V.nj, V.njL, V.cells, Nat.reduceLT, Nat.reduceEqDiff, Nat.reduceAdd, ↓reduceIte, Nat.reduceLeDiff, reduceCtorEq, r8_9]
  rw [u8_26]
  have g4 := k4.of g3
  simp (maxSteps := 2000000) only [GO, GO2, evK, fillV, setR, binV, intOp, strOp, shOp, unV, getR, lenV, partV, V.nj, V.njL, V.cells, Nat.reduceLT, Nat.reduceEqDiff, Nat.reduceAdd, ↓reduceIte, Nat.reduceLeDiff, reduceCtorEq, c0, r8_27, g4]
  rw [u8_35]
  have e4 := put_at (ws := [.int .i64 0]) (o := 4) g4 (by simp) rfl rfl
  have hset : setR [V.ptr (some (bd, 0)), V.str logN, V.slice none 0 0 false, V.int .i64 0, V.int .i64 0, V.bool false] 4 [.int .i64 0] = [V.ptr (some (bd, 0)), V.str logN, V.slice none 0 0 false, V.int .i64 0, V.int .i64 0, V.bool false] := rfl
  rw [hset] at e4
  obtain ⟨ow5, k5⟩ := (ow3.kp k4).setM (.cells [V.ptr (some (bd, 0)), V.str logN, V.slice none 0 0 false, V.int .i64 0, V.int .i64 0, V.bool false] 68 false false none)
  have hz : h.size ≤ h2.size := k12.size
  have k6 : Kp h (h4.set h2.size (.cells [V.ptr (some (bd, 0)), V.str logN, V.slice none 0 0 false, V.int .i64 0, V.int .i64 0, V.bool false] 68 false false none)) := Keeps.trans (n := h.size) (Kp.trans k13 k4) (Keeps.set (H.get_lt g4) hz _)
  simp (maxSteps := 2000000) only [GO, GO2, evK, fillV, setR, binV, intOp, strOp, shOp, unV, getR, lenV, partV, V.nj, V.njL, V.cells, Nat.reduceLT, Nat.reduceEqDiff, Nat.reduceAdd, ↓reduceIte, Nat.reduceLeDiff, reduceCtorEq, c0, r8_36, g4, e4, r8_37]
  exact ⟨h2.size, rfl, ow5, k6⟩
end Go.AM.Wc
/-! The law WalCuts: what its last part needs. -/
namespace Go.AM.Wc
open Go.AM
variable {P : Program} {E : Env} {T : H → Prop}
theorem rs_of {h : H} {sbb j : Nat} {sgs : List Sg} {a z : Nat} (gs : h.get sbb = some (.cells (sgs.flatMap Sg.cells) 74 true false none)) (hf : ∀ p ∈ sgs.flatMap Sg.foot, h.get p.1 = some p.2) (hj : j ≤ sgs.length) (hc : chain sgs a z) : Rs h (.slice (some (sbb, j * 4)) (sgs.length - j) (sgs.length - j) true) (sgs.drop j) := by
  have hl : (sgs.drop j).length = sgs.length - j := List.length_drop ..
  have hfl := seg_len sgs
  refine ⟨some (sbb, j * 4), sgs.length - j, true, by rw [hl], ?_, fun s hs => ?_⟩
  · rw [hl]
    simp only [elemsV, gs]
    by_cases h0 : (sgs.length - j) * 4 = 0
    · rw [if_pos h0]
      have : sgs.drop j = [] := List.eq_nil_of_length_eq_zero (by omega)
      rw [this]; rfl
    · rw [if_neg h0, if_pos (by omega)]
      have hsp : sgs.flatMap Sg.cells = (sgs.take j).flatMap Sg.cells ++ (sgs.drop j).flatMap Sg.cells := by
        rw [← List.flatMap_append, List.take_append_drop]
      have hl2 : ((sgs.take j).flatMap Sg.cells).length = j * 4 := by rw [seg_len, List.length_take, Nat.min_eq_left hj]
      unfold getR
      rw [hsp, ← hl2, List.drop_left, List.take_of_length_le (by rw [seg_len, hl]; omega)]
  · have hs' := List.mem_of_mem_drop hs
    obtain ⟨oks, _, _⟩ := chain_mem hc s hs'
    have hmf : ∀ p ∈ s.foot, h.get p.1 = some p.2 := fun p hp => hf p (List.mem_flatMap.2 ⟨s, hs', hp⟩)
    obtain ⟨p, c, o, hsv⟩ := vl_shape s.rb s.rs.length (fun h => by rw [oks.nn h]; rfl)
    have hxl : s.xs.length = s.rs.length := List.length_map ..
    refine ⟨p, c, o, by rw [hxl]; exact hsv, ?_, fun q hq => ?_⟩
    · have hxm : s.xs.map (·.1) = s.rs.map Rc.v := by unfold Sg.xs; rw [List.map_map]; rfl
      rw [hxl, hxm]
      cases hb : s.rb with
      | none => exact (oks.ne (oks.nn hb)).elim
      | some b =>
        have hg := hmf (b, .cells (s.rs.map Rc.v) 45 true false none) (by simp [Sg.foot, hb, fpt])
        have := vl_elems hg
        rw [List.length_map] at this
        exact this
    · obtain ⟨c1, hc1, rfl⟩ := List.mem_map.1 hq
      have hg := hmf c1.cell (by simp only [Sg.foot, List.mem_append]; exact .inr (List.mem_map.2 ⟨c1, hc1, rfl⟩))
      exact Rb.of hg (oks.rc c1 hc1).1
/-- The log behind a cut. -/
def AftC (lo lb bd nx : Nat) (br : Bool) (before : Int) (n : Nat) (h : H) (r : V) (h' : H) : Prop :=
  r = .int .i64 0 ∧ ∃ sv' sgs' a, h'.get lb = some (lgO bd sv' nx 0 br) ∧ Rs h' sv' sgs' ∧ chain sgs' a nx ∧ ((a : Int) ≤ 0 ∨ (a : Int) ≤ before) ∧ (0 < n → 0 < sgs'.length) ∧ Keeps lo h h'
theorem cutS (F : Fw P E T) {lo : Nat} {h : H} {lb bd bm nx : Nat} {br : Bool} {fs : List Fl} {sb : Option Nat} {sgs : List Sg} {before : Int}
    (ow : Ow lo h (dkF bd bm fs ++ lgF lb bd sb sgs nx br)) (lok : LOK fs sb sgs nx) (hlo : lo ≤ h.size) (h1lo : 1 ≤ lo) (ht : T h) :
    Sp P E (.func 13 [] []) [.ptr (some (lb, 0)), .int .i64 before] h (AftC lo lb bd nx br before sgs.length h) := by
  have gl := ow.at (i := lb) (o := lgO bd (vl sb sgs.length) nx 0 br) (by simp [lgF])
  by_cases hne : 0 < sgs.length
  rotate_left
  · have h0 : sgs = [] := List.eq_nil_of_length_eq_zero (by omega)
    subst h0
    obtain ⟨p, c, o, hsv⟩ := vl_shape sb ([] : List Sg).length (fun _ => rfl)
    rw [hsv] at gl
    refine Sp.mono (cut13e F gl) ?_
    rintro r _ ⟨rfl, rfl⟩
    refine ⟨rfl, _, [], 0, gl, ⟨p, c, o, rfl, ?_, by simp⟩, lok.ch, .inl (Int.le_refl _), fun h => h, Keeps.refl _ _⟩
    cases p <;> simp [elemsV]
  · obtain ⟨sbb, rfl⟩ : ∃ sbb, sb = some sbb := by
      cases sb with
      | none => have := lok.sbn rfl; rw [this] at hne; simp at hne
      | some x => exact ⟨x, rfl⟩
    have hwhole : ∀ s ∈ sgs.drop 0, ∃ i blk, findK .str (.str (segN s.fst)) (mos (fs.map fun f => entU f.fu) 0) 0 = some (some (i, .ptr (some (blk, 0)))) := by
      intro s hs
      have hm := lok.fl s (by simpa using hs)
      rcases split_name (segN s.fst) fs with hno | ⟨fs1, g, fs2, rfl, hgn, hg1⟩
      · exfalso
        obtain ⟨y, hy, e⟩ := List.mem_map.1 hm
        exact hno y hy e
      · exact ⟨_, _, find_some hg1 hgn⟩
    have c0 : CutS lo h lb bd bm sbb sgs 0 nx br := by
      refine ⟨_, (fs.map fun f => entU f.fu).length, Ow.sub ow ?_, hwhole⟩
      simp only [dkF, lgF, fpt, vl, List.nil_append, List.cons_append, Nat.zero_mul, Nat.sub_zero]
      exact .cons_cons _ (.cons_cons _ (List.sublist_append_right _ _))
    refine Sp.mono (cut13 F c0 lok.ch hne lok.lim hlo h1lo ht) ?_
    rintro r h' ⟨rfl, j, a, ⟨es, cl, ow', _⟩, hj, hch, ha, kk⟩
    have gl' := ow'.at (i := lb) (o := lgO bd (.slice (some (sbb, j * 4)) (sgs.length - j) (sgs.length - j) true) nx 0 br) (by simp)
    have gs' := ow'.at (i := sbb) (o := .cells (sgs.flatMap Sg.cells) 74 true false none) (by simp)
    refine ⟨rfl, _, _, a, gl', rs_of gs' (fun p hp => ow'.get p (by simp [hp])) (by omega) lok.ch, hch, ha, fun _ => by rw [List.length_drop]; omega, kk⟩
/-- An operation of a script. -/
structure OpC where
  kind : Int
  rv : V
  xs : List (V × Nat)
  x2 : V
  x3 : V
  x4 : V
def OpC.cells (o : OpC) : List V := [.int .i64 o.kind, o.rv, o.x2, o.x3, o.x4]
def Os (h : H) (v : V) (ops : List OpC) : Prop := ∃ p c o, v = .slice p ops.length c o ∧ elemsV h 5 ops.length v = some (ops.flatMap OpC.cells) ∧ ∀ x ∈ ops, Rl h x.rv x.xs ∧ x.xs.length ≤ 1099511627776 ∧ [x.x2, x.x3, x.x4].all V.one = true
theorem op_len (pre : List OpC) : (pre.flatMap OpC.cells).length = pre.length * 5 := by
  induction pre with
  | nil => rfl
  | cons s r ih => simp only [List.flatMap_cons, List.length_append, ih, OpC.cells, List.length_cons, List.length_nil]; omega
theorem Os.at {h : H} {v : V} {ops : List OpC} {k : Nat} (a : Os h v ops) (hk : k < ops.length) : ∃ b o c q cs ty op ro fz, v = .slice (some (b, o)) ops.length c q ∧ h.get b = some (.cells cs ty op ro fz) ∧ o + k * 5 + 5 ≤ cs.length ∧ List.take 5 (List.drop (o + k * 5) cs) = ops[k].cells := by
  obtain ⟨p, c, q, rfl, h2, h3⟩ := a
  cases p with
  | none => simp only [elemsV] at h2; rw [if_neg (by omega)] at h2; cases h2
  | some p =>
    obtain ⟨i, o⟩ := p
    simp only [elemsV] at h2
    rw [if_neg (by omega)] at h2
    split at h2
    · rename_i vs ty op ro fz hg
      split at h2
      · rename_i hle
        simp only [Option.some.injEq] at h2
        refine ⟨i, o, c, q, vs, ty, op, ro, fz, rfl, hg, by omega, ?_⟩
        have hsp : ops = ops.take k ++ ops[k] :: ops.drop (k + 1) := by simp
        have e : List.take 5 (List.drop (k * 5) (getR vs o (ops.length * 5))) = List.take 5 (List.drop (k * 5) (ops.flatMap OpC.cells)) := by rw [h2]
        unfold getR at e
        rw [List.drop_take, List.drop_drop, List.take_take, Nat.min_eq_left (by omega)] at e
        rw [e]
        have hl : ((ops.take k).flatMap OpC.cells).length = k * 5 := by rw [op_len, List.length_take, Nat.min_eq_left (by omega)]
        have : ops.flatMap OpC.cells = (ops.take k).flatMap OpC.cells ++ (ops[k].cells ++ (ops.drop (k + 1)).flatMap OpC.cells) := by
          have := congrArg (List.flatMap OpC.cells) hsp
          rw [List.flatMap_append, List.flatMap_cons] at this
          exact this
        rw [this, ← hl, List.drop_left]
        have h4 : ops[k].cells.length = 5 := rfl
        rw [← h4, List.take_left]
      · cases h2
    · cases h2
theorem Os.kp {h h' : H} {v : V} {ops : List OpC} (a : Os h v ops) (k : Kp h h') : Os h' v ops := by
  obtain ⟨p, c, o, h1, h2, h3⟩ := a
  exact ⟨p, c, o, h1, elems_kp k h2, fun x hx => ⟨(h3 x hx).1.kp k, (h3 x hx).2⟩⟩
end Go.AM.Wc
/-! The law WalCuts: the records are numbered. -/
namespace Go.AM.Wc
open Go.AM
variable {P : Program} {E : Env} {T : H → Prop}
set_option maxHeartbeats 2000000 in
/-- The last range of the law. -/
theorem range3 (F : Fw P E T) {h : H} {sv : V} {a nx : Nat} {sgs : List Sg} {ρ : Nat → V} {K : List Fr} {Q : Po} {h1 : H} {b14 tb : Nat} {sv' : V}
    (hv : Rs h sv sgs) (hc : chain sgs a nx) (hm : nx ≤ 1000000000000) (k1 : Kp h h1) (hb : h.size ≤ b14) (g14 : h1.get b14 = some (.cells [.int .i64 (a : Nat)] 2 false false none)) (gt : h1.get tb = some (.cells [sv'] 66 false false none)) (cl : Cl h1 sv' sgs)
    (w14 : ρ 14 = .ptr (some (b14, 0))) (w93 : ρ 93 = .func 41 [] [.ptr (some (tb, 0))])
    (cont : ∀ h', Kp h h' → h'.get b14 = some (.cells [.int .i64 (nx : Nat)] 2 false false none) → X P E none 104 K ρ h' Q) :
    X P E none 104 (.c (.range (.t 93) [94, 95] a3_14 b3_17) :: .b 2 :: K) ρ h1 Q := by
  have hnl := chain_len hc
  refine X_range (by rw [ev_t (by decide)]; exact congrArg some w93) rfl ?_
  have kL : Kp h1 (h1.psh (.loop .ready none (toL 104 ρ) [94, 95] a3_14 b3_17)) := Keeps.psh (Nat.le_refl _) _
  have glL := psh_same h1 (.loop .ready none (toL 104 ρ) [94, 95] a3_14 b3_17)
  have hl14 : b14 < h1.size := H.get_lt g14
  have htl0 : tb < h1.size := H.get_lt gt
  have hsz : h.size ≤ h1.size := k1.size
  have ht14 : tb ≠ b14 := by rintro rfl; rw [g14] at gt; cases gt
  have noc : ∀ (st : LoopState) (pe : Option C) (vs : List V) (op ro : Bool) (fz : Option Nat), Obj.loop st pe (toL 104 ρ) [94, 95] a3_14 b3_17 ≠ .cells vs 74 op ro fz := by intro _ _ _ _ _ _ e; cases e
  have i0 : I10 h (h1.psh (.loop .ready none (toL 104 ρ) [94, 95] a3_14 b3_17)) b14 h1.size tb sv' sgs (.loop .ready none (toL 104 ρ) [94, 95] a3_14 b3_17) (a : Nat) :=
    ⟨Kp.trans k1 kL, glL, kL.of g14, kL.of gt, cl.fr (F74.kp kL)⟩
  refine Sp.mono (iter41 F (l := h1.size) (tb := tb) (sv := sv') hc hm
    (fun k h' => I10 h h' b14 h1.size tb sv' sgs (.loop .ready none (toL 104 ρ) [94, 95] a3_14 b3_17) (k : Nat))
    (fun _ => False) ?_ ?_ ?_ i0) ?_
  · rintro k h4 h5 i4 k45
    exact i4.keep k45
  · rintro k h4 i4
    exact ⟨i4.gt, hv.cl i4.kp i4.cl⟩
  · rintro k h4 r hk1 hk2 i4
    refine Sp_yield (pend' := none) i4.gl rfl (zip2 _ _ _ _ _ _) ?_
    have gB : h4.get h1.size = some (.loop .ready none (toL 104 ρ) [94, 95] a3_14 b3_17) := i4.gl
    have hlt := H.get_lt gB
    have glB := hset_same hlt (.loop .busy none (toL 104 ρ) [94, 95] a3_14 b3_17)
    have fB := F74.set gB (noc _ _) (.loop .busy none (toL 104 ρ) [94, 95] a3_14 b3_17)
    have kB : Kp h (h4.set h1.size (.loop .busy none (toL 104 ρ) [94, 95] a3_14 b3_17)) := Keeps.trans (n := h.size) i4.kp (Keeps.set hlt (by omega) _)
    have gbB : (h4.set h1.size (.loop .busy none (toL 104 ρ) [94, 95] a3_14 b3_17)).get b14 = some (.cells [.int .i64 (k : Nat)] 2 false false none) := by
      rw [hset_other hlt (by omega)]; exact i4.gb
    have gtB : (h4.set h1.size (.loop .busy none (toL 104 ρ) [94, 95] a3_14 b3_17)).get tb = some (.cells [sv'] 66 false false none) := by
      rw [hset_other hlt (by omega)]; exact i4.gt
    have clB := i4.cl.fr fB
    have nocB := noc .busy none
    clear i0 i4 glL kL noc
    generalize hbz : Obj.loop .busy none (toL 104 ρ) [94, 95] a3_14 b3_17 = bz at *
    generalize hrz : Obj.loop .ready none (toL 104 ρ) [94, 95] a3_14 b3_17 = rz at *
    simp (maxSteps := 2000000) only [GO, GO2, evK, fillV, setR, binV, intOp, strOp, shOp, unV, getR, lenV, partV, V.nj, V.njL, V.cells, Nat.reduceLT, Nat.reduceEqDiff, Nat.reduceAdd, ↓reduceIte, Nat.reduceLeDiff, reduceCtorEq, a3_14]
    refine ⟨gB, _, rfl, ?_⟩
    generalize h4.set h1.size bz = hB at *
    have hw : IntKind.i64.wrap ((k : Int) + 1) = ((k + 1 : Nat) : Int) := wrap_nat (n := k + 1) (by omega)
    have hne : ((k : Int) != (k : Int)) = false := by simp
    have e4 := put_at (ws := [.int .i64 ((k + 1 : Nat) : Int)]) (o := 0) gbB (by simp) rfl rfl
    have hset : setR [V.int .i64 ((k : Nat) : Int)] 0 [.int .i64 ((k + 1 : Nat) : Int)] = [.int .i64 ((k + 1 : Nat) : Int)] := rfl
    rw [hset] at e4
    have hltb := H.get_lt gbB
    have fN := F74.set gbB (by intro _ _ _ _ e; cases e) (.cells [.int .i64 ((k + 1 : Nat) : Int)] 2 false false none)
    have gbN := hset_same hltb (.cells [.int .i64 ((k + 1 : Nat) : Int)] 2 false false none)
    have glN : (hB.set b14 (.cells [.int .i64 ((k + 1 : Nat) : Int)] 2 false false none)).get h1.size = some bz := by
      rw [hset_other hltb (by omega)]; exact glB
    have gtN : (hB.set b14 (.cells [.int .i64 ((k + 1 : Nat) : Int)] 2 false false none)).get tb = some (.cells [sv'] 66 false false none) := by
      rw [hset_other hltb (Ne.symm ht14)]; exact gtB
    have kN : Kp h (hB.set b14 (.cells [.int .i64 ((k + 1 : Nat) : Int)] 2 false false none)) := Keeps.trans (n := h.size) kB (Keeps.set hltb hb _)
    have clN := clB.fr fN
    simp (maxSteps := 2000000) only [GO, GO2, evK, fillV, setR, binV, intOp, strOp, shOp, unV, getR, lenV, partV, V.nj, V.njL, V.cells, Nat.reduceLT, Nat.reduceEqDiff, Nat.reduceAdd, ↓reduceIte, Nat.reduceLeDiff, reduceCtorEq, b3_17, r3_15, w14, gbB, hne, r3_16, hw, e4]
    refine ⟨glN, ?_⟩
    generalize hB.set b14 (.cells [.int .i64 ((k + 1 : Nat) : Int)] 2 false false none) = hN at *
    have hltl := H.get_lt glN
    have fD := F74.set glN nocB rz
    have iD : I10 h (hN.set h1.size rz) b14 h1.size tb sv' sgs rz ((k + 1 : Nat) : Int) := by
      refine ⟨Keeps.trans (n := h.size) kN (Keeps.set hltl (by omega) _), hset_same hltl _, ?_, ?_, clN.fr fD⟩
      · rw [hset_other hltl (by omega)]; exact gbN
      · rw [hset_other hltl (by omega)]; exact gtN
    exact ⟨(fB.trans fN).trans fD, .inl iD⟩
  · rintro _ h4 (i4 | h0)
    · refine ⟨_, _, _, _, _, _, i4.gl, by decide, fun oe hoe => ?_⟩
      have hlt := H.get_lt i4.gl
      have kE : Kp h (h4.set h1.size oe) := Keeps.trans (n := h.size) i4.kp (Keeps.set hlt (by omega) _)
      have gbE : (h4.set h1.size oe).get b14 = some (.cells [.int .i64 (nx : Nat)] 2 false false none) := by
        rw [hset_other hlt (by omega)]; exact i4.gb
      simp only
      simp (maxSteps := 2000000) only [GO, GO2, evK, fillV, setR, binV, intOp, strOp, shOp, unV, getR, lenV, partV, V.nj, V.njL, V.cells, Nat.reduceLT, Nat.reduceEqDiff, Nat.reduceAdd, ↓reduceIte, Nat.reduceLeDiff, reduceCtorEq]
      exact cont _ kE gbE
    · exact h0.elim
end Go.AM.Wc
/-! The law WalCuts. -/
namespace Go.AM.Wc
open Go.AM
variable {P : Program} {E : Env} {T : H → Prop}
theorem rs_log {lo : Nat} {h : H} {lb bd bm nx : Nat} {br : Bool} {fs : List Fl} {sb : Option Nat} {sgs : List Sg} (ow : Ow lo h (dkF bd bm fs ++ lgF lb bd sb sgs nx br)) (lok : LOK fs sb sgs nx) : Rs h (vl sb sgs.length) sgs := by
  cases sb with
  | none =>
    have h0 := lok.sbn rfl
    subst h0
    exact ⟨none, 0, false, rfl, by simp [elemsV, vl], by simp⟩
  | some sbb =>
    have gs := ow.at (i := sbb) (o := .cells (sgs.flatMap Sg.cells) 74 true false none) (by simp [lgF, fpt])
    have := rs_of (j := 0) gs (fun p hp => ow.get p (by simp only [lgF, List.mem_append, List.mem_cons]; exact .inr (.inr (.inr hp)))) (Nat.zero_le _) lok.ch
    simpa [vl] using this
set_option maxHeartbeats 4000000 in
theorem law3 (F : Fw P E T) (hu : E.prim 105 = some usedG) (beg : ∀ h, T h → Sp P E (.func 6 [] []) [] h fun r h' => r = .bool true ∧ h' = h)
    (num : ∀ h bd bm, T h → h.get bm = some (.map [] 0) → h.get bd = some (.cells (diskC bm) 63 false false none) → Sp P E (.func 27 [] []) [.ptr (some (bd, 0)), .str logN] h fun v h' => (∃ p c o, v = .slice p 0 c o) ∧ Kp h h')
    {v : V} {ops : List OpC} {before : Int} {h0 : H} (hv : Os h0 v ops) (hol : ops.length ≤ 1099511627775) (ht : T h0) :
    Sp P E (.func 3 [] []) [v, .int .i64 before] h0 fun r _ => r = .bool true := by
  have h1lo := F.tsize _ ht
  have k1 : Kp h0 (h0.psh (.cells [.bool false] 4 false false none)) := Keeps.psh (Nat.le_refl _) _
  have g1 := psh_same h0 (.cells [.bool false] 4 false false none)
  have c4 : ((0 : Int) != 0) = false := rfl
  refine Sp_fn F.f3 F.p3 (by simp [fn3]) ?_
  simp (maxSteps := 2000000) only [GO, GO2, evK, fillV, setR, binV, intOp, strOp, shOp, unV, getR, lenV, partV, V.nj, V.njL, V.cells, Nat.reduceLT, Nat.reduceEqDiff, Nat.reduceAdd, ↓reduceIte, Nat.reduceLeDiff, reduceCtorEq, fn3, c3]
  generalize h0.psh (.cells [.bool false] 4 false false none) = h1 at *
  have hlo1 : 1 ≤ h1.size := Nat.le_trans h1lo k1.size
  have hr0 : h0.size < h1.size := H.get_lt g1
  have ht1 : T h1 := F.tkeep ht k1
  have hv1 := hv.kp k1
  simp (maxSteps := 2000000) only [GO, GO2, evK, fillV, setR, binV, intOp, strOp, shOp, unV, getR, lenV, partV, V.nj, V.njL, V.cells, Nat.reduceLT, Nat.reduceEqDiff, Nat.reduceAdd, ↓reduceIte, Nat.reduceLeDiff, reduceCtorEq, r3_0]
  refine XC_of (beg h1 ht1) ?_
  rintro _ hx ⟨rfl, e2⟩
  rw [e2]
  clear e2 hx
  simp (maxSteps := 2000000) only [GO, GO2, evK, fillV, setR, binV, intOp, strOp, shOp, unV, getR, lenV, partV, V.nj, V.njL, V.cells, Nat.reduceLT, Nat.reduceEqDiff, Nat.reduceAdd, ↓reduceIte, Nat.reduceLeDiff, reduceCtorEq, Bool.not_true, r3_1]
  refine XC_of (new7 F) ?_
  rintro _ h2 ⟨bd, bm, rfl, ow2, k2⟩
  simp (maxSteps := 2000000) only [GO, GO2, evK, fillV, setR, binV, intOp, strOp, shOp, unV, getR, lenV, partV, V.nj, V.njL, V.cells, Nat.reduceLT, Nat.reduceEqDiff, Nat.reduceAdd, ↓reduceIte, Nat.reduceLeDiff, reduceCtorEq, List.getElem?_cons_zero, List.getElem?_cons_succ, r3_2]
  refine XC_of (open8 F num ow2 k2.size (F.tkeep ht1 k2)) ?_
  rintro _ h3 ⟨lb, rfl, ow3, k3⟩
  have kk3 : Keeps h1.size h1 h3 := Keeps.trans k2 (k3.mono k2.size)
  have lok3 : LOK [] none [] 0 := ⟨rfl, by decide, fun _ => rfl, ⟨by simp, by simp [totU], by simp⟩, by simp⟩
  simp (maxSteps := 2000000) only [GO, GO2, evK, fillV, setR, binV, intOp, strOp, shOp, unV, getR, lenV, partV, V.nj, V.njL, V.cells, Nat.reduceLT, Nat.reduceEqDiff, Nat.reduceAdd, ↓reduceIte, Nat.reduceLeDiff, reduceCtorEq, List.getElem?_cons_zero, List.getElem?_cons_succ, r3_3, c4, eq_pn]
  -- behind the appends
  have post : ∀ (ρ : Nat → V) (h4 : H) (fs : List Fl) (sb : Option Nat) (sgs : List Sg) (nx : Nat) (br : Bool), Ow h1.size h4 (dkF bd bm fs ++ lgF lb bd sb sgs nx br) → LOK fs sb sgs nx → Keeps h1.size h1 h4 →
      ρ 1 = .int .i64 before → ρ 4 = .ptr (some (h0.size, 0)) → ρ 7 = .ptr (some (lb, 0)) →
      XO P E none 104 r3_10 [.c (.seq (.seq (.region r3_11) (.cond (.t 89) (.seq (.region [⟨none, .store 1 (.t 4) (.k (.bool false)), none, 0, [4]⟩]) (.ret)) (.skip))) (.seq (.region r3_12) (.seq (.seq (.region r3_13) (.block 2 (.range (.t 93) [94, 95] a3_14 b3_17))) (.seq (.region r3_18) (.ret)))))] ρ h4 (Fin [.c 4 1 false] fun r _ => r = .bool true) := by
    intro ρ h4 fs sb sgs nx br ow lok kk q1 q4 q7
    have gl := ow.at (i := lb) (o := lgO bd (vl sb sgs.length) nx 0 br) (by simp [lgF])
    have rs := rs_log ow lok
    have hnl := chain_len lok.ch
    have hlim := lok.lim
    obtain ⟨sp, sc, so, hsv⟩ := vl_shape sb sgs.length (fun h => by rw [lok.sbn h]; rfl)
    simp (maxSteps := 2000000) only [GO, GO2, evK, fillV, setR, binV, intOp, strOp, shOp, unV, getR, lenV, partV, V.nj, V.njL, V.cells, Nat.reduceLT, Nat.reduceEqDiff, Nat.reduceAdd, ↓reduceIte, Nat.reduceLeDiff, reduceCtorEq, r3_10, q7]
    refine XC_of (first10 F gl rs lok.ch lok.lim) ?_
    rintro _ h5 ⟨rfl, k5⟩
    have gl5 := k5.of gl
    simp (maxSteps := 2000000) only [GO, GO2, evK, fillV, setR, binV, intOp, strOp, shOp, unV, getR, lenV, partV, V.nj, V.njL, V.cells, Nat.reduceLT, Nat.reduceEqDiff, Nat.reduceAdd, ↓reduceIte, Nat.reduceLeDiff, reduceCtorEq, q7]
    refine XC_of (next11 F gl5) ?_
    rintro _ hx ⟨rfl, e2⟩
    rw [e2]
    clear e2 hx
    simp (maxSteps := 2000000) only [GO, GO2, evK, fillV, setR, binV, intOp, strOp, shOp, unV, getR, lenV, partV, V.nj, V.njL, V.cells, Nat.reduceLT, Nat.reduceEqDiff, Nat.reduceAdd, ↓reduceIte, Nat.reduceLeDiff, reduceCtorEq, q7]
    have gl5' := gl5
    rw [hsv] at gl5'
    refine XC_of (segs12 F gl5') ?_
    rintro _ hx ⟨rfl, e2⟩
    rw [e2]
    clear e2 hx
    have hl4 : h1.size ≤ h4.size := kk.size
    have kk5 : Keeps h1.size h1 h5 := Keeps.trans kk (k5.mono hl4)
    simp (maxSteps := 2000000) only [GO, GO2, evK, fillV, setR, binV, intOp, strOp, shOp, unV, getR, lenV, partV, V.nj, V.njL, V.cells, Nat.reduceLT, Nat.reduceEqDiff, Nat.reduceAdd, ↓reduceIte, Nat.reduceLeDiff, reduceCtorEq, r3_11, q7, q1]
    refine XC_of (cutS F (before := before) (ow.kp k5) lok kk5.size hlo1 (F.tlow _ _ _ hlo1 ht1 kk5)) ?_
    rintro _ h6 ⟨rfl, sv', sgs', a, gl6, rs6, ch6, ha, hpos, k6⟩
    have kk6 := Keeps.trans kk5 k6
    have hne : ((nx : Int) != (nx : Int)) = false := by simp
    simp (maxSteps := 2000000) only [GO, GO2, evK, fillV, setR, binV, intOp, strOp, shOp, unV, getR, lenV, partV, V.nj, V.njL, V.cells, Nat.reduceLT, Nat.reduceEqDiff, Nat.reduceAdd, ↓reduceIte, Nat.reduceLeDiff, reduceCtorEq, c4, q7]
    refine XC_of (next11 F gl6) ?_
    rintro _ hx ⟨rfl, e2⟩
    rw [e2]
    clear e2 hx
    simp (maxSteps := 2000000) only [GO, GO2, evK, fillV, setR, binV, intOp, strOp, shOp, unV, getR, lenV, partV, V.nj, V.njL, V.cells, Nat.reduceLT, Nat.reduceEqDiff, Nat.reduceAdd, ↓reduceIte, Nat.reduceLeDiff, reduceCtorEq, hne, q7]
    refine XC_of (first10 F gl6 rs6 ch6 lok.lim) ?_
    rintro _ h7 ⟨rfl, k7⟩
    have hl6 : h1.size ≤ h6.size := kk6.size
    have kk7 : Keeps h1.size h1 h7 := Keeps.trans kk6 (k7.mono hl6)
    have gl7 := k7.of gl6
    have rs7 := rs6.kp k7
    have c1 : ¬ ((a : Nat) : Int) < ((0 : Nat) : Int) := by omega
    simp (maxSteps := 2000000) only [GO, GO2, evK, fillV, setR, binV, intOp, strOp, shOp, unV, getR, lenV, partV, V.nj, V.njL, V.cells, Nat.reduceLT, Nat.reduceEqDiff, Nat.reduceAdd, ↓reduceIte, Nat.reduceLeDiff, reduceCtorEq, c1, q7]
    refine XC_of (first10 F gl7 rs7 ch6 lok.lim) ?_
    rintro _ h8 ⟨rfl, k8⟩
    have hl7 : h1.size ≤ h7.size := kk7.size
    have kk8 : Keeps h1.size h1 h8 := Keeps.trans kk7 (k8.mono hl7)
    have gl8 := k8.of gl7
    have rs8 := rs7.kp k8
    obtain ⟨M, hM⟩ : ∃ M : Int, M = if before > ((0 : Nat) : Int) then before else ((0 : Nat) : Int) := ⟨_, rfl⟩
    have hmm : minmaxV true (.int .i64 ((0 : Nat) : Int)) [.int .i64 before] = some (.int .i64 M) := by rw [hM]; simp [minmaxV]
    have c2 : ¬ ((a : Nat) : Int) > M := by
      rw [hM]
      split <;> omega
    -- behind the looks
    have last : ∀ (ρ' : Nat → V), ρ' 4 = .ptr (some (h0.size, 0)) → ρ' 7 = .ptr (some (lb, 0)) → ρ' 12 = .int .i64 (nx : Nat) →
        XO P E none 104 r3_12 [.c (.seq (.seq (.region r3_13) (.block 2 (.range (.t 93) [94, 95] a3_14 b3_17))) (.seq (.region r3_18) (.ret)))] ρ' h8 (Fin [.c 4 1 false] fun r _ => r = .bool true) := by
      intro ρ' y4 y7 y12
      simp (maxSteps := 2000000) only [GO, GO2, evK, fillV, setR, binV, intOp, strOp, shOp, unV, getR, lenV, partV, V.nj, V.njL, V.cells, Nat.reduceLT, Nat.reduceEqDiff, Nat.reduceAdd, ↓reduceIte, Nat.reduceLeDiff, reduceCtorEq, r3_12, y7]
      refine XC_of (first10 F gl8 rs8 ch6 lok.lim) ?_
      rintro _ h9 ⟨rfl, k9⟩
      have gl9 := k9.of gl8
      have rs9 := rs8.kp k9
      obtain ⟨h10, e10, g10, k10, z10⟩ := put_fresh h9 (vs := [.int .i64 0]) (ws := [.int .i64 ((a : Nat) : Int)]) (ty := 2) rfl rfl rfl
      simp (maxSteps := 2000000) only [GO, GO2, evK, fillV, setR, binV, intOp, strOp, shOp, unV, getR, lenV, partV, V.nj, V.njL, V.cells, Nat.reduceLT, Nat.reduceEqDiff, Nat.reduceAdd, ↓reduceIte, Nat.reduceLeDiff, reduceCtorEq, e10, r3_13, y7]
      have hnl6 := chain_len ch6
      refine XC_of (records14 F (k10.of gl9) (rs9.kp k10) (by omega)) ?_
      rintro _ h11 ⟨tb, sw, rfl, htb, gt11, cl11, k11⟩
      simp (maxSteps := 2000000) only [GO, GO2, evK, fillV, setR, binV, intOp, strOp, shOp, unV, getR, lenV, partV, V.nj, V.njL, V.cells, Nat.reduceLT, Nat.reduceEqDiff, Nat.reduceAdd, ↓reduceIte, Nat.reduceLeDiff, reduceCtorEq]
      refine range3 F (h := h9) (b14 := h9.size) (tb := tb) (sv' := sw) rs9 ch6 lok.lim (Kp.trans k10 k11) (Nat.le_refl _) (k11.of g10) gt11 cl11 ?_ ?_ ?_
      · rfl
      · rfl
      · intro h12 k12 g12
        have hl8 : h1.size ≤ h8.size := kk8.size
        have kk12 : Keeps h1.size h1 h12 := Keeps.trans kk8 (Keeps.trans (k9.mono hl8) (k12.mono (Nat.le_trans hl8 k9.size)))
        have gr : h12.get h0.size = some (.cells [.bool false] 4 false false none) := by rw [kk12.get _ hr0]; exact g1
        have e13 := put_at (ws := [.bool true]) (o := 0) gr (by simp) rfl rfl
        have hset : setR [V.bool false] 0 [.bool true] = [.bool true] := rfl
        rw [hset] at e13
        have heq : (((nx : Nat) : Int) == ((nx : Nat) : Int)) = true := by simp
        have g13 := hset_same (H.get_lt gr) (.cells [.bool true] 4 false false none)
        simp (maxSteps := 2000000) only [GO, GO2, evK, fillV, setR, binV, intOp, strOp, shOp, unV, getR, lenV, partV, V.nj, V.njL, V.cells, Nat.reduceLT, Nat.reduceEqDiff, Nat.reduceAdd, ↓reduceIte, Nat.reduceLeDiff, reduceCtorEq, r3_18, g12, y12, heq, y4, e13]
        rw [resVs_c (L := 104) (a := 4) (i := h0.size) (o := 0) (by decide) _ ?hp, g13, resVs_nil]
        case hp => exact y4
        exact rfl
    by_cases hs0 : (sgs.length : Int) > 0
    · have hp' := hpos (by omega)
      have gl8' := gl8
      obtain ⟨p8, c8, o8, hs8, _, _⟩ := rs8
      rw [hs8] at gl8'
      have c3 : ¬ ((sgs'.length : Nat) : Int) < 1 := by omega
      simp (maxSteps := 2000000) only [GO, GO2, evK, fillV, setR, binV, intOp, strOp, shOp, unV, getR, lenV, partV, V.nj, V.njL, V.cells, Nat.reduceLT, Nat.reduceEqDiff, Nat.reduceAdd, ↓reduceIte, Nat.reduceLeDiff, reduceCtorEq, q1, hmm, Option.map_some, c2, hs0, q7]
      refine XC_of (segs12 F gl8') ?_
      rintro _ hx ⟨rfl, e2⟩
      rw [e2]
      clear e2 hx
      simp (maxSteps := 2000000) only [GO, GO2, evK, fillV, setR, binV, intOp, strOp, shOp, unV, getR, lenV, partV, V.nj, V.njL, V.cells, Nat.reduceLT, Nat.reduceEqDiff, Nat.reduceAdd, ↓reduceIte, Nat.reduceLeDiff, reduceCtorEq, c3]
      refine last _ ?_ ?_ ?_
      · exact q4
      · exact q7
      · rfl
    · simp (maxSteps := 2000000) only [GO, GO2, evK, fillV, setR, binV, intOp, strOp, shOp, unV, getR, lenV, partV, V.nj, V.njL, V.cells, Nat.reduceLT, Nat.reduceEqDiff, Nat.reduceAdd, ↓reduceIte, Nat.reduceLeDiff, reduceCtorEq, q1, hmm, Option.map_some, c2, hs0]
      refine last _ ?_ ?_ ?_
      · exact q4
      · exact q7
      · rfl
  have loop : ∀ (d k : Nat) (ρ : Nat → V) (h4 : H) (fs : List Fl) (sb : Option Nat) (sgs : List Sg) (nx : Nat) (br : Bool), ops.length - k = d → k ≤ ops.length → Ow h1.size h4 (dkF bd bm fs ++ lgF lb bd sb sgs nx br) → LOK fs sb sgs nx → Keeps h1.size h1 h4 →
      ρ 1 = .int .i64 before → ρ 4 = .ptr (some (h0.size, 0)) → ρ 7 = .ptr (some (lb, 0)) → ρ 37 = v → ρ 38 = .int .i64 ops.length → ρ 39 = .int .i64 k →
      XL P E none 104 b3_9 [.b 0, .c (.seq (.region r3_10) (.seq (.seq (.region r3_11) (.cond (.t 89) (.seq (.region [⟨none, .store 1 (.t 4) (.k (.bool false)), none, 0, [4]⟩]) (.ret)) (.skip))) (.seq (.region r3_12) (.seq (.seq (.region r3_13) (.block 2 (.range (.t 93) [94, 95] a3_14 b3_17))) (.seq (.region r3_18) (.ret))))))] ρ h4 (Fin [.c 4 1 false] fun r _ => r = .bool true) := by
    intro d
    induction d with
    | zero =>
      intro k ρ h4 fs sb sgs nx br hd hk ow lok kk q1 q4 q7 q37 q38 q39
      have hke : ¬ k < ops.length := by omega
      rw [u3_9]
      simp (maxSteps := 2000000) only [GO, GO2, evK, fillV, setR, binV, intOp, strOp, shOp, unV, getR, lenV, partV, V.nj, V.njL, V.cells, Nat.reduceLT, Nat.reduceEqDiff, Nat.reduceAdd, ↓reduceIte, Nat.reduceLeDiff, reduceCtorEq, q38, q39, Int.ofNat_lt, hke]
      exact post _ h4 fs sb sgs nx br ow lok kk q1 q4 q7
    | succ d ih =>
      intro k ρ h4 fs sb sgs nx br hd hk ow lok kk q1 q4 q7 q37 q38 q39
      have hke : k < ops.length := by omega
      have hw : IntKind.i64.wrap ((k : Int) + 1) = ((k + 1 : Nat) : Int) := wrap_nat (n := k + 1) (by omega)
      obtain ⟨b1, o1, c1, p1, cs, ty, op, ro, fz, hvb, hg1, hle, hcs⟩ := (hv1.kp kk).at hke
      have hin : Rl h1 ops[k].rv ops[k].xs ∧ ops[k].xs.length ≤ 1099511627776 ∧ [ops[k].x2, ops[k].x3, ops[k].x4].all V.one = true := by
        obtain ⟨_, _, _, _, _, q⟩ := hv1; exact q _ (List.getElem_mem hke)
      obtain ⟨hrl, hxl, hone⟩ := hin
      obtain ⟨rp, rc, ro', hrv, _⟩ := hrl
      have q37' := q37.trans hvb
      obtain ⟨h5, e5, g5, k5, z5⟩ := put_fresh h4 (vs := [.int .i64 0, .slice none 0 0 false, .int .i64 0, .int .i64 0, .int .i64 0]) (ws := ops[k].cells) (ty := 33) rfl (by unfold OpC.cells; rw [hrv]; simpa [V.one] using hone) rfl
      have hl4 : h1.size ≤ h4.size := kk.size
      have kk5 : Keeps h1.size h1 h5 := Keeps.trans kk (k5.mono hl4)
      have hc5 : ops[k].cells.length = 5 := rfl
      have hx0 : ops[k].cells[0]? = some (.int .i64 ops[k].kind) := rfl
      have hx1 : ops[k].cells[1]? = some ops[k].rv := rfl
      have hrl1 : Rl h1 ops[k].rv ops[k].xs := by obtain ⟨_, _, _, _, _, q⟩ := hv1; exact (q _ (List.getElem_mem hke)).1
      rw [u3_9]
      by_cases hkd : (ops[k].kind == 0) = true
      rotate_left
      · have hkd' : (ops[k].kind == 0) = false := by simpa using hkd
        simp (maxSteps := 2000000) only [GO, GO2, evK, fillV, setR, binV, intOp, strOp, shOp, unV, getR, lenV, partV, V.nj, V.njL, V.cells, Nat.reduceLT, Nat.reduceEqDiff, Nat.reduceAdd, ↓reduceIte, Nat.reduceLeDiff, reduceCtorEq, q38, q39, Int.ofNat_lt, hke, r3_5, q37', Int.natCast_nonneg, Int.toNat_natCast, hg1, hle, hcs, hc5, e5, r3_6, g5, Nat.zero_add, Nat.add_zero, hx0, hkd', r3_8, hw]
        refine ih (k + 1) _ h5 fs sb sgs nx br (by omega) (by omega) (ow.kp k5) lok kk5 ?_ ?_ ?_ ?_ ?_ ?_
        · exact q1
        · exact q4
        · exact q7
        · exact q37
        · exact q38
        · rfl
      · simp (maxSteps := 2000000) only [GO, GO2, evK, fillV, setR, binV, intOp, strOp, shOp, unV, getR, lenV, partV, V.nj, V.njL, V.cells, Nat.reduceLT, Nat.reduceEqDiff, Nat.reduceAdd, ↓reduceIte, Nat.reduceLeDiff, reduceCtorEq, q38, q39, Int.ofNat_lt, hke, r3_5, q37', Int.natCast_nonneg, Int.toNat_natCast, hg1, hle, hcs, hc5, e5, r3_6, g5, Nat.zero_add, Nat.add_zero, hx0, hkd, r3_7, q7, hx1]
        refine XC_of (append9 F hu (v := ops[k].rv) (xs := ops[k].xs) (ow.kp k5) kk5.size hlo1 (F.tlow _ _ _ hlo1 ht1 kk5) lok (fun h' k' => hrl1.kp (Keeps.trans kk5 k')) hxl) ?_
        rintro r h6 ⟨fs', sb', sgs', nx', br', ow6, lok6, k6⟩
        simp (maxSteps := 2000000) only [GO, GO2, evK, fillV, setR, binV, intOp, strOp, shOp, unV, getR, lenV, partV, V.nj, V.njL, V.cells, Nat.reduceLT, Nat.reduceEqDiff, Nat.reduceAdd, ↓reduceIte, Nat.reduceLeDiff, reduceCtorEq, r3_8, q39, hw]
        refine ih (k + 1) _ h6 fs' sb' sgs' nx' br' (by omega) (by omega) ow6 lok6 (Keeps.trans kk5 k6) ?_ ?_ ?_ ?_ ?_ ?_
        · exact q1
        · exact q4
        · exact q7
        · exact q37
        · exact q38
        · rfl
  obtain ⟨p, c, o, hvv, _⟩ := hv
  rw [hvv] at loop ⊢
  simp (maxSteps := 2000000) only [GO, GO2, evK, fillV, setR, binV, intOp, strOp, shOp, unV, getR, lenV, partV, V.nj, V.njL, V.cells, Nat.reduceLT, Nat.reduceEqDiff, Nat.reduceAdd, ↓reduceIte, Nat.reduceLeDiff, reduceCtorEq, r3_4]
  refine loop ops.length 0 _ h3 [] none [] 0 false rfl (Nat.zero_le _) ow3 lok3 kk3 ?_ ?_ ?_ ?_ ?_ ?_
  · rfl
  · rfl
  · rfl
  · rfl
  · rfl
  · rfl
end Go.AM.Wc
/-! A closed call, computed by the kernel, as a call's spec. -/
namespace Go.AM
variable {P : Program} {E : Env}
end Go.AM
/-! strings.Repeat of one digit as a primitive. -/
namespace Go.AM
open Go.RowKit
variable {P : Program}
def repP : List V → H → Option (V × H) := fun args h => match args with
  | [.str [48], .int .i64 c] => if decide (0 ≤ c) && decide (c ≤ 12) then some (.str (List.replicate c.toNat 48), h) else none
  | _ => none
theorem rep_ok {f : FuncId}
    (hc : ∀ (c : Nat) (w : World), c ≤ 12 → Calls P f #[.string ⟨#[48]⟩, .int .i64 c] w fun e w' => e = .returned (.string ⟨(List.replicate c (48 : UInt8)).toArray⟩) ∧ Below w.heap.size w w')
    {args : List V} {h : H} {v : V} {h' : H} {m : Mp} {w : World} {xs : List Value} (he : repP args h = some (v, h')) (hr : HR P m h w) (hx : VRL m args xs) (n : Nat) : CallsIn (FF none) n P f xs.toArray w (Post P m h w v h') := by
  unfold repP at he
  split at he
  · rename_i c
    split at he
    · rename_i hc2
      simp only [Bool.and_eq_true, decide_eq_true_eq] at hc2
      cases he
      obtain ⟨y1, ys1, e1, ⟨y2, ys2, e2, e3, rfl⟩, rfl⟩ := hx
      cases e1; cases e2; cases e3
      have := hc c.toNat w (by omega)
      rw [Int.toNat_of_nonneg hc2.1] at this
      refine callsIn_wide.2 (this.mono fun e w' ⟨q1, q2⟩ => ?_)
      obtain ⟨a, b⟩ := hr.below q2
      exact ⟨m, _, q1, rfl, a, b⟩
    · cases he
  · cases he
end Go.AM
/-! A call that looks at a map without entries and a block of its owner alone: run once, closed, it is a primitive at any heap. -/
namespace Go.AM
open Go.RowKit
variable {P : Program}
def mapB (G : Nat) (x y : Option (Nat × Nat × Nat)) : Mp := fun i => if i < G then some (i, 0, 0) else if i = G then x else if i = G + 1 then y else none
def ownC (r : Nat) (room : Int) : List V := [.map (some r), .int .i64 0, .int .i64 0, .int .i64 room, .bool false]
def hPr (G ty : Nat) (room : Int) : H := H.lay (G + 2) [(G, .map [] 0), (G + 1, .cells (ownC G room) ty false true none)]
theorem hPr_get {G ty : Nat} {room : Int} {i : Nat} {o : Obj} (h : (hPr G ty room).get i = some o) : (i = G ∧ o = .map [] 0) ∨ (i = G + 1 ∧ o = .cells (ownC G room) ty false true none) := by
  have hlt : i < G + 2 := H.get_lt h
  unfold hPr H.lay at h
  simp only [List.foldl_cons, List.foldl_nil] at h
  have s1 : ({ size := G + 2, t := .nil } : H).size = G + 2 := rfl
  by_cases h2 : i = G + 1
  · subst h2
    rw [hset_same (by rw [H.set_size]; omega)] at h
    cases h; exact .inr ⟨rfl, rfl⟩
  · rw [hset_other (by rw [H.set_size]; omega) (by omega)] at h
    by_cases h1 : i = G
    · subst h1
      rw [hset_same (by omega)] at h
      cases h; exact .inl ⟨rfl, rfl⟩
    · rw [hset_other (by omega) (by omega)] at h
      exfalso
      unfold H.get at h
      split at h
      · simp [Tr.get] at h
      · cases h
theorem HR.pair {m : Mp} {h : H} {w : World} (hr : HR P m h w) {G bm bd ty : Nat} {room : Int} (hG : P.globals.size = G) (gm : h.get bm = some (.map [] 0)) (gd : h.get bd = some (.cells (ownC bm room) ty false false none)) : HR P (mapB G (m bm) (m bd)) (hPr G ty room) w where
  ok := trivial
  dom := fun i x hx => by
    show i < G + 2
    unfold mapB at hx
    split at hx
    · omega
    · split at hx
      · omega
      · split at hx
        · omega
        · cases hx
  glob := fun g hg => by simp [mapB, hG ▸ hg]
  blk := fun i r sh e hm => by
    unfold mapB at hm
    split at hm
    · rename_i hi
      cases hm
      exact hr.blk _ _ _ _ (hr.glob i (by omega))
    · split at hm
      · exact hr.blk _ _ _ _ hm
      · split at hm
        · exact hr.blk _ _ _ _ hm
        · cases hm
  obj := fun i o hg hl => by
    rcases hPr_get hg with ⟨rfl, rfl⟩ | ⟨rfl, rfl⟩
    · obtain ⟨r, sh, e, ob, q1, q2, es', rfl, q3⟩ := hr.obj bm _ gm rfl
      exact ⟨r, sh, e, _, by simp [mapB, q1], q2, es', rfl, q3⟩
    · obtain ⟨r, sh, e, ob, q1, q2, c, fzr, rfl, q4, q5, _⟩ := hr.obj bd _ gd rfl
      refine ⟨r, sh, e, _, by unfold mapB; rw [if_neg (by omega), if_neg (by omega), if_pos rfl]; exact q1, q2, c, fzr, rfl, ?_, q5, fun h => (by cases h)⟩
      simp only [ownC] at q4 ⊢
      obtain ⟨y, ys, ⟨r1, s1, e1, h1, h2⟩, h3, h4⟩ := q4
      exact ⟨y, ys, ⟨r1, s1, e1, by simp [mapB, h1], h2⟩, h3, h4⟩
  inj := fun i j o o' r sh e sh' e' h1 h2 hm hl m1 m2 => by
    rcases hPr_get h1 with ⟨rfl, rfl⟩ | ⟨rfl, rfl⟩
    · rcases hPr_get h2 with ⟨rfl, rfl⟩ | ⟨rfl, rfl⟩
      · rfl
      · exfalso
        unfold mapB at m1 m2
        rw [if_neg (by omega), if_pos rfl] at m1
        rw [if_neg (by omega), if_neg (by omega), if_pos rfl] at m2
        have := hr.inj bm bd _ _ _ _ _ _ _ gm gd rfl rfl m1 m2
        subst this
        rw [gm] at gd; cases gd
    · cases hm
theorem pair_run (hmix : P.follows .mixedOrders = true) {prim : Nat → Option (List V → H → Option (V × H))} (hp : PrimOK P prim) {n g G bm bd ty : Nat} {room : Int} {args0 : List V} {xs : List Value} {h1 : H} {v : V} (hG : P.globals.size = G)
    (run : ap P (envOf P prim) n (.func g [] []) args0 (hPr G ty room) = some (v, h1)) (hsame : h1.get G = some (.map [] 0)) {m : Mp} {h : H} {w : World} (hr : HR P m h w) (gm : h.get bm = some (.map [] 0)) (gd : h.get bd = some (.cells (ownC bm room) ty false false none)) (hx : VRL (mapB G (m bm) (m bd)) args0 xs) (j : Nat) :
    CallsIn (FF none) j P g xs.toArray w fun e w' => ∃ m' x, e = .returned x ∧ VR m' v x ∧ Below w.heap.size w w' := by
  have hr0 := hr.pair hG gm gd
  have hA := (ap_sound hmix hp n).fn run hr0 (xs := xs) (by simpa using hx)
  refine CallsIn.mono (hA.2 j) fun e w' ⟨m', x, q1, q2, q3, q4⟩ => ⟨m', x, q1, q2, q4.os, q4.tape, q4.output, q4.wsize, fun k hk => ?_⟩
  by_cases how : Own (mapB G (m bm) (m bd)) (hPr G ty room) k
  · obtain ⟨i, o, sh, e', hg, hm, hmi⟩ := how
    rcases hPr_get hg with ⟨rfl, rfl⟩ | ⟨rfl, rfl⟩
    · obtain ⟨es1, a1, a2⟩ := hr0.map hg hmi
      obtain ⟨es2, b1, b2⟩ := q3.map hsame (q4.sub _ _ hmi)
      have e1 : es1 = #[] := Array.toList_eq_nil_iff.1 a2
      have e2 : es2 = #[] := Array.toList_eq_nil_iff.1 b2
      rw [a1, b1, e1, e2]
    · cases hm
  · exact q4.frame k hk how
end Go.AM
