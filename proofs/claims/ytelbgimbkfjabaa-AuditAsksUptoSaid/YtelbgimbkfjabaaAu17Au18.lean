/- My own texts of the evaluator, its soundness and its symbolic runs, laid for this claim. -/
import Derived.Test.YtelbgimbkfjabaaAu15Au16
set_option linter.unusedSimpArgs false
set_option linter.unusedVariables false
/-! A group's log: the document's answer, continued. -/
namespace Go.AM.Sc
open Go.AM
variable {P : Program} {E : Env}
def nextR (g : Int) (s : Int) (w : WV) : Option (Entry × DEnt) := if isG g w = true then atW w s else none
theorem hitR {g s : Int} : ∀ vs : List WV, vs.findSome? (nextR g s) = hitG (selG g vs) s
  | [] => rfl
  | w :: vs => by
    have ih := hitR (g := g) (s := s) vs
    unfold hitG selG at ih ⊢
    rw [List.findSome?_cons, List.filter_cons]
    unfold nextR at ih ⊢
    cases hw : isG g w with
    | true => simp only [if_true, List.findSome?_cons]; cases atW w s <;> simp [ih]
    | false => simp [ih]
theorem hitR_first {l : List WV} {g s : Int} {k : Nat} (hk : k < l.length) (hn : ∀ w ∈ l.take k, nextR g s w = none) {p : Entry × DEnt} (hp : nextR g s l[k] = some p) : hitG (selG g l) s = some p := by
  rw [← hitR]
  rw [← List.take_append_drop k l, List.findSome?_append, List.findSome?_eq_none_iff.2 hn, List.drop_eq_getElem_cons hk, List.findSome?_cons, hp]
  rfl
theorem hitR_none {l : List WV} {g s : Int} (hn : ∀ w ∈ l, nextR g s w = none) : hitG (selG g l) s = none := by
  rw [← hitR]
  exact List.findSome?_eq_none_iff.2 hn
theorem entR_one {h : H} {w : WV} (hw : VIn h w) (s : Int) : (entOf (atR w s)).cells.all V.one = true := by
  unfold atR
  split
  · exact entOf_one hw s
  · exact zero_one
set_option maxHeartbeats 4000000 in
theorem inner9 (F : Fa E) {v : V} {vs : List WV} {g : Int} {hL : H} (hv : VsIn hL v vs) {s : Int} (hs0 : 0 ≤ s) (hs1 : s ≤ 9223372036854775806)
    {ps : List (Entry × DEnt)} (hpl : ps.length ≤ 1048576) {u u7 : V} {K : List Fr} {Q : Po}
    (contN : ∀ (ρ' : Nat → V) (h' : H) (ov : V), hitG (selG g vs) s = none → ρ' 6 = u → ρ' 9 = ov → ρ' 11 = .bool false → Out h' hL.size ov ps → Kp hL h' → X P E none 109 K ρ' h' Q)
    (contH : ∀ (ρ' : Nat → V) (h' : H) (ov : V) (p : Entry × DEnt) (x : Entry), hitG (selG g vs) s = some p → ρ' 0 = v → ρ' 1 = .int .i64 g → ρ' 6 = u → ρ' 7 = u7 → ρ' 10 = .int .i64 s → ρ' 9 = ov → ρ' 11 = .bool true → Out h' hL.size ov (ps ++ [(x, p.2)]) → Kp hL h' → X P E none 109 K ρ' h' Q) :
    ∀ (d k : Nat) (ρ : Nat → V) (h : H) (ov : V), vs.length - k = d → k ≤ vs.length → ρ 0 = v → ρ 1 = .int .i64 g → ρ 6 = u → ρ 7 = u7 → ρ 9 = ov → ρ 10 = .int .i64 s → ρ 11 = .bool false → ρ 12 = .int .i64 k → (∀ w ∈ vs.take k, nextR g s w = none) → Out h hL.size ov ps → Kp hL h →
      XL P E none 109 b9_12 (.b 4 :: K) ρ h Q := by
  obtain ⟨a1, c1, o1, e1⟩ := hv.sl.len
  rw [List.length_map] at e1
  have hl := hv.len
  intro d
  induction d with
  | zero =>
    intro k ρ h ov hd hk q0 q1 q6 q7 q9 q10 q11 q12 hn ho hkp
    have hke : ¬ k < vs.length := by omega
    rw [List.take_of_length_le (by omega)] at hn
    rw [u9_12]
    simp (maxSteps := 2000000) only [GO,GO2,evK,fillV,setR,binV,intOp,strOp,shOp,unV,getR,lenV,partV,V.nj,V.njL,V.cells,Nat.reduceLT,Nat.reduceEqDiff,Nat.reduceAdd,↓reduceIte,Nat.reduceLeDiff,reduceCtorEq,r9_7,q0,e1,q12,Int.ofNat_lt,hke]
    exact contN _ h ov (hitR_none hn) q6 q9 q11 ho hkp
  | succ d ih =>
    intro k ρ h ov hd hk q0 q1 q6 q7 q9 q10 q11 q12 hn ho hkp
    have hke : k < vs.length := by omega
    obtain ⟨b, o, cap, opn, cs, ty, op, ro, fz, v1, hg, hll, he⟩ := (hv.sl.keep hkp).get (k := k) (x := vs[k].x.cells) (by simp [hke])
    have q0' : ρ 0 = V.slice (some (b, o)) vs.length cap opn := by rw [q0, v1, List.length_map]
    have f0 := cell_get he hll 0 _ (by decide) (View.g0 vs[k].x)
    rw [Nat.add_zero] at f0
    have f2 := cell_get he hll 2 _ (by decide) (View.g2 vs[k].x)
    have he' := he
    unfold getR at he'
    have hmem := List.getElem_mem hke
    have dx := (hv.ins _ hmem).keep hkp
    have hw : IntKind.i64.wrap ((k : Int) + 1) = ((k + 1 : Nat) : Int) := wrap_nat (n := k + 1) (by omega)
    have skip : ∀ (ρ' : Nat → V) (h' : H), nextR g s vs[k] = none → Kp h h' → ρ' 0 = ρ 0 → ρ' 1 = .int .i64 g → ρ' 6 = u → ρ' 7 = u7 → ρ' 9 = ov → ρ' 10 = .int .i64 s → ρ' 11 = .bool false → ρ' 12 = .int .i64 ((k + 1 : Nat) : Int) → XL P E none 109 b9_12 (.b 4 :: K) ρ' h' Q := by
      intro ρ' h' hi k' w0 w1 w6 w7 w9 w10 w11 w12
      refine ih (k + 1) ρ' h' ov (by omega) (by omega) (w0.trans q0) w1 w6 w7 w9 w10 w11 w12 ?_ (ho.keep k') (hkp.trans k')
      rw [List.take_succ_eq_append_getElem hke]
      intro w hw'
      rcases List.mem_append.1 hw' with hw' | hw'
      · exact hn w hw'
      · rw [List.mem_singleton.1 hw']; exact hi
    rw [u9_12]
    cases hu : vs[k].x.up with
    | false =>
      have hi : nextR g s vs[k] = none := by simp [nextR, isG, hu]
      rw [hu] at f2
      simp (maxSteps := 2000000) only [GO,GO2,evK,fillV,setR,binV,intOp,strOp,shOp,unV,getR,lenV,partV,V.nj,V.njL,V.cells,Nat.reduceLT,Nat.reduceEqDiff,Nat.reduceAdd,↓reduceIte,Nat.reduceLeDiff,reduceCtorEq,r9_7,q0',q12,q11,Int.ofNat_lt,hke,Bool.not_false,r9_8,hg,Int.natCast_nonneg,Int.toNat_natCast,f2,r9_11,hw]
      exact skip _ _ hi (Keeps.refl _ _) rfl q1 q6 q7 q9 q10 q11 rfl
    | true =>
      rw [hu] at f2
      by_cases hgr : vs[k].x.at_.group = g
      · have hb : (vs[k].x.at_.group == g) = true := by simp [hgr]
        have hi : nextR g s vs[k] = atR vs[k] s := by simp [nextR, isG, hu, hgr, atR]
        simp (maxSteps := 2000000) only [GO,GO2,evK,fillV,setR,binV,intOp,strOp,shOp,unV,getR,lenV,partV,V.nj,V.njL,V.cells,Nat.reduceLT,Nat.reduceEqDiff,Nat.reduceAdd,↓reduceIte,Nat.reduceLeDiff,reduceCtorEq,r9_7,q0',q12,q11,Int.ofNat_lt,hke,Bool.not_false,r9_8,hg,Int.natCast_nonneg,Int.toNat_natCast,f2,Nat.add_zero,f0,q1,hb,r9_9,hll,he',q10]
        refine XC_of (at28 F dx (by omega) (by omega)) ?_
        rintro _ h4 ⟨rfl, k4⟩
        have fe : ∀ z : Entry, z.cells.length = 56 := fun _ => rfl
        have pe : ∀ z : Entry, List.take 56 z.cells = z.cells := fun _ => rfl
        obtain ⟨h5, e5, g5, k5, z5⟩ := put_ex (o := 0) (ws := (entOf (atR vs[k] s)).cells) (psh_same h4 (.cells Entry.zero.cells 49 false false none)) (by rw [fe, fe]; decide) (entR_one dx s) rfl
        have g5' : h5.get h4.size = some (.cells (entOf (atR vs[k] s)).cells 49 false false none) := g5
        have k5' : Kp h4 h5 := Keeps.trans (Keeps.psh (Nat.le_refl _) _) k5
        have kk := k4.trans k5'
        have fle := fe (entOf (atR vs[k] s))
        have p0e := pe (entOf (atR vs[k] s))
        cases hp : atR vs[k] s with
        | none =>
          rw [hp] at e5 g5' fle p0e hi
          generalize hyc : (entOf none).cells = yc at *
          simp only [Entry.zero, Entry.cells, Opr.cells, Epoch.cells, Vec.cells, Part.cells] at e5
          simp (maxSteps := 2000000) only [GO,GO2,evK,fillV,setR,binV,intOp,strOp,shOp,unV,getR,lenV,partV,V.nj,V.njL,V.cells,Nat.reduceLT,Nat.reduceEqDiff,Nat.reduceAdd,↓reduceIte,Nat.reduceLeDiff,reduceCtorEq,fle,e5,Option.isSome_none,r9_11,q12,hw]
          exact skip _ _ hi kk rfl q1 q6 q7 q9 q10 q11 rfl
        | some p =>
          rw [hp] at e5 g5' fle p0e hi
          have hh := hitR_first hke hn hi
          have hpw : atW vs[k] s = some p := by
            unfold nextR at hi
            split at hi
            · exact hi
            · cases hi
          have ein := (at_in dx hpw).keep kk
          have sp2 := clone29 (P := P) F ein
          have hent : (entOf (some p)).cells = p.1.cells := rfl
          rw [hent] at e5 g5' fle p0e
          generalize hyc : p.1.cells = yc at *
          rw [hent]
          simp only [Entry.zero, Entry.cells, Opr.cells, Epoch.cells, Vec.cells, Part.cells] at e5
          simp (maxSteps := 2000000) only [GO,GO2,evK,fillV,setR,binV,intOp,strOp,shOp,unV,getR,lenV,partV,V.nj,V.njL,V.cells,Nat.reduceLT,Nat.reduceEqDiff,Nat.reduceAdd,↓reduceIte,Nat.reduceLeDiff,reduceCtorEq,hyc,fle,e5,Option.isSome_some,r9_10,g5',p0e]
          refine XC_of sp2 ?_
          rintro _ h6 ⟨⟨x', rfl, hfr⟩, k6⟩
          obtain ⟨v', h8, e8, ho8, k8⟩ := ho.app (kk.trans k6) hkp.size kk.size hfr hpl
          have flx' := fe x'
          have hfill := Entry.hfill x'
          generalize hzc : x'.cells = zc at *
          simp (maxSteps := 2000000) only [GO,GO2,evK,fillV,setR,binV,intOp,strOp,shOp,unV,getR,lenV,partV,V.nj,V.njL,V.cells,Nat.reduceLT,Nat.reduceEqDiff,Nat.reduceAdd,↓reduceIte,Nat.reduceLeDiff,reduceCtorEq,flx',hfill,q9,e8,r9_11,q12,hw]
          rw [u9_12]
          have k08 : Kp hL h8 := Keeps.trans (n := hL.size) (hkp.trans (kk.trans k6)) k8
          by_cases hk2 : k + 1 < vs.length
          · simp (maxSteps := 2000000) only [GO,GO2,evK,fillV,setR,binV,intOp,strOp,shOp,unV,getR,lenV,partV,V.nj,V.njL,V.cells,Nat.reduceLT,Nat.reduceEqDiff,Nat.reduceAdd,↓reduceIte,Nat.reduceLeDiff,reduceCtorEq,r9_7,q0',Int.ofNat_lt,hk2,Bool.not_true]
            exact contH _ h8 v' p x' hh q0 q1 q6 q7 q10 rfl rfl ho8 k08
          · simp (maxSteps := 2000000) only [GO,GO2,evK,fillV,setR,binV,intOp,strOp,shOp,unV,getR,lenV,partV,V.nj,V.njL,V.cells,Nat.reduceLT,Nat.reduceEqDiff,Nat.reduceAdd,↓reduceIte,Nat.reduceLeDiff,reduceCtorEq,r9_7,q0',Int.ofNat_lt,hk2]
            exact contH _ h8 v' p x' hh q0 q1 q6 q7 q10 rfl rfl ho8 k08
      · have hb : (vs[k].x.at_.group == g) = false := by simp [hgr]
        have hi : nextR g s vs[k] = none := by simp [nextR, isG, hgr]
        simp (maxSteps := 2000000) only [GO,GO2,evK,fillV,setR,binV,intOp,strOp,shOp,unV,getR,lenV,partV,V.nj,V.njL,V.cells,Nat.reduceLT,Nat.reduceEqDiff,Nat.reduceAdd,↓reduceIte,Nat.reduceLeDiff,reduceCtorEq,r9_7,q0',q12,q11,Int.ofNat_lt,hke,Bool.not_false,r9_8,hg,Int.natCast_nonneg,Int.toNat_natCast,f2,Nat.add_zero,f0,q1,hb,r9_11,hw]
        exact skip _ _ hi (Keeps.refl _ _) rfl q1 q6 q7 q9 q10 q11 rfl
set_option maxHeartbeats 4000000 in
theorem outer9 (F : Fa E) {v : V} {vs : List WV} {g : Int} {hL : H} (hv : VsIn hL v vs) (htot : totG (selG g vs) ≤ 1048576) {Q : V → H → Prop} (hQ : ∀ r h', LogOut h' (selG g vs) r → Kp hL h' → Q r h') :
    ∀ (n i : Nat) (ps : List (Entry × DEnt)) (ρ : Nat → V) (h : H) (ov : V), fuelG (selG g vs) - i = n → LI (selG g vs) i ps → ρ 0 = v → ρ 1 = .int .i64 g → ρ 6 = .int .i64 (leastG (selG g vs)) → ρ 7 = .bool true → ρ 9 = ov → ρ 10 = .int .i64 (leastG (selG g vs) + i) → Out h hL.size ov ps → Kp hL h →
      XL P E none 109 b9_15 [.b 2, .c (.seq (.region r9_16) (.ret))] ρ h (Fin [.t 4, .t 5] Q) := by
  obtain ⟨lk0, lk1⟩ := least_ok (g := g) (vs := vs)
  intro n
  have stop : ∀ (i : Nat) (ps : List (Entry × DEnt)) (ρ' : Nat → V) (h' : H) (ov' : V), LI (selG g vs) i ps → hitG (selG g vs) (leastG (selG g vs) + i) = none → ρ' 6 = .int .i64 (leastG (selG g vs)) → ρ' 9 = ov' → Out h' hL.size ov' ps → Kp hL h' →
      X P E none 109 [.c (.seq (.region r9_16) (.ret))] ρ' h' (Fin [.t 4, .t 5] Q) := by
    intro i ps ρ' h' ov' hi hno w6 w9 ho' k'
    have hle := hi.le
    simp (maxSteps := 2000000) only [GO,GO2,evK,fillV,setR,binV,intOp,strOp,shOp,unV,getR,lenV,partV,V.nj,V.njL,V.cells,Nat.reduceLT,Nat.reduceEqDiff,Nat.reduceAdd,↓reduceIte,Nat.reduceLeDiff,reduceCtorEq,r9_16,w6,w9]
    exact hQ _ _ ⟨ov', ps, rfl, ho'.acc.sl, fun p hp => (ho'.ins p hp).kc (cut_kc _ _), hi.done hno, by rw [hi.len]; omega⟩ k'
  induction n with
  | zero =>
    intro i ps ρ h ov hn hi q0 q1 q6 q7 q9 q10 ho hkp
    have hle := hi.le
    rw [u9_15]
    simp (maxSteps := 2000000) only [GO,GO2,evK,fillV,setR,binV,intOp,strOp,shOp,unV,getR,lenV,partV,V.nj,V.njL,V.cells,Nat.reduceLT,Nat.reduceEqDiff,Nat.reduceAdd,↓reduceIte,Nat.reduceLeDiff,reduceCtorEq,q7]
    refine inner9 F hv (s := leastG (selG g vs) + i) (by omega) (by omega) (by rw [hi.len]; omega) (u := .int .i64 (leastG (selG g vs))) (u7 := .bool true) (fun ρ' h' ov' hno w6 w9 w11 ho' k' => ?_) (fun ρ' h' ov' p x hh w0 w1 w6 w7 w10 w9 w11 ho' k' => ?_) _ 0 _ h ov rfl (Nat.zero_le _) q0 q1 q6 q7 q9 q10 rfl rfl (by simp) ho hkp
    · simp (maxSteps := 2000000) only [GO,GO2,evK,fillV,setR,binV,intOp,strOp,shOp,unV,getR,lenV,partV,V.nj,V.njL,V.cells,Nat.reduceLT,Nat.reduceEqDiff,Nat.reduceAdd,↓reduceIte,Nat.reduceLeDiff,reduceCtorEq,r9_13,w11,Bool.not_false,r9_16,w6,w9]
      exact hQ _ _ ⟨ov', ps, rfl, ho'.acc.sl, fun p hp => (ho'.ins p hp).kc (cut_kc _ _), hi.done hno, by rw [hi.len]; omega⟩ k'
    · have := hit_top hh
      unfold fuelG at hn
      omega
  | succ n ih =>
    intro i ps ρ h ov hn hi q0 q1 q6 q7 q9 q10 ho hkp
    have hle := hi.le
    rw [u9_15]
    simp (maxSteps := 2000000) only [GO,GO2,evK,fillV,setR,binV,intOp,strOp,shOp,unV,getR,lenV,partV,V.nj,V.njL,V.cells,Nat.reduceLT,Nat.reduceEqDiff,Nat.reduceAdd,↓reduceIte,Nat.reduceLeDiff,reduceCtorEq,q7]
    refine inner9 F hv (s := leastG (selG g vs) + i) (by omega) (by omega) (by rw [hi.len]; omega) (u := .int .i64 (leastG (selG g vs))) (u7 := .bool true) (fun ρ' h' ov' hno w6 w9 w11 ho' k' => ?_) (fun ρ' h' ov' p x hh w0 w1 w6 w7 w10 w9 w11 ho' k' => ?_) _ 0 _ h ov rfl (Nat.zero_le _) q0 q1 q6 q7 q9 q10 rfl rfl (by simp) ho hkp
    · simp (maxSteps := 2000000) only [GO,GO2,evK,fillV,setR,binV,intOp,strOp,shOp,unV,getR,lenV,partV,V.nj,V.njL,V.cells,Nat.reduceLT,Nat.reduceEqDiff,Nat.reduceAdd,↓reduceIte,Nat.reduceLeDiff,reduceCtorEq,r9_13,w11,Bool.not_false,r9_16,w6,w9]
      exact hQ _ _ ⟨ov', ps, rfl, ho'.acc.sl, fun p hp => (ho'.ins p hp).kc (cut_kc _ _), hi.done hno, by rw [hi.len]; omega⟩ k'
    · have hw : IntKind.i64.wrap (leastG (selG g vs) + i + 1) = leastG (selG g vs) + ((i + 1 : Nat) : Int) := by rw [wrapI (by omega) (by omega)]; omega
      simp (maxSteps := 2000000) only [GO,GO2,evK,fillV,setR,binV,intOp,strOp,shOp,unV,getR,lenV,partV,V.nj,V.njL,V.cells,Nat.reduceLT,Nat.reduceEqDiff,Nat.reduceAdd,↓reduceIte,Nat.reduceLeDiff,reduceCtorEq,r9_13,w11,Bool.not_true,r9_14,w10,hw]
      exact ih (i + 1) _ _ h' ov' (by omega) (hi.step hh) w0 w1 w6 w7 w9 rfl ho' k'
set_option maxHeartbeats 4000000 in
theorem log9 (F : Fa E) {v : V} {vs : List WV} {g : Int} {h0 : H} (hv : VsIn h0 v vs) (ht : totG vs ≤ 1048576) : Sp P E (.func 9 [] []) [v, .int .i64 g] h0 fun r h' => LogOut h' (selG g vs) r ∧ Kp h0 h' := by
  have hl := hv.len
  have htot : totG (selG g vs) ≤ 1048576 := Nat.le_trans (tot_filter _ _) ht
  refine Sp_fn F.f9 F.p9 (by simp [fn9]) ?_
  simp (maxSteps := 2000000) only [GO,GO2,evK,fillV,setR,binV,intOp,strOp,shOp,unV,getR,lenV,partV,V.nj,V.njL,V.cells,Nat.reduceLT,Nat.reduceEqDiff,Nat.reduceAdd,↓reduceIte,Nat.reduceLeDiff,reduceCtorEq,fn9,c9,r9_0]
  refine least9 F hv (fun ρ1 h1 w0 w1 w6 w7 k1 => ?_) _ 0 _ h0 rfl (Nat.zero_le _) rfl rfl rfl rfl rfl (Keeps.refl _ _)
  cases hse : (selG g vs).isEmpty with
  | true =>
    rw [hse] at w7
    have hs := List.isEmpty_iff.1 hse
    simp (maxSteps := 2000000) only [GO,GO2,evK,fillV,setR,binV,intOp,strOp,shOp,unV,getR,lenV,partV,V.nj,V.njL,V.cells,Nat.reduceLT,Nat.reduceEqDiff,Nat.reduceAdd,↓reduceIte,Nat.reduceLeDiff,reduceCtorEq,r9_6,w6]
    rw [u9_15]
    simp (maxSteps := 2000000) only [GO,GO2,evK,fillV,setR,binV,intOp,strOp,shOp,unV,getR,lenV,partV,V.nj,V.njL,V.cells,Nat.reduceLT,Nat.reduceEqDiff,Nat.reduceAdd,↓reduceIte,Nat.reduceLeDiff,reduceCtorEq,w7,Bool.not_true,r9_16,w6]
    rw [hs]
    exact ⟨⟨.slice none 0 0 false, [], rfl, .nil _ _ _, by simp, rfl, by simp⟩, k1⟩
  | false =>
    rw [hse] at w7
    have hz : leastG (selG g vs) = leastG (selG g vs) + ((0 : Nat) : Int) := by omega
    simp (maxSteps := 2000000) only [GO,GO2,evK,fillV,setR,binV,intOp,strOp,shOp,unV,getR,lenV,partV,V.nj,V.njL,V.cells,Nat.reduceLT,Nat.reduceEqDiff,Nat.reduceAdd,↓reduceIte,Nat.reduceLeDiff,reduceCtorEq,r9_6,w6]
    exact outer9 F (hv.keep k1) htot (fun r' h' ho hk => ⟨ho, k1.trans hk⟩) _ 0 [] _ h1 _ rfl (LI.zero _) w0 w1 w6 w7 rfl (by rw [← hz]; rfl) (Out.nil _ _) (Keeps.refl _ _)
end Go.AM.Sc
/-! The law AuditAsks. -/
namespace Go.AM.Sc
open Go.AM
variable {P : Program} {E : Env}
theorem eq_bb (h : H) (a b : Bool) : eqV h .bool (.bool a) (.bool b) = some (a == b) := by simp [eqV]
theorem VIn.njA {h : H} {w : WV} (a : VIn h w) : (V.agg w.x.cells).nj = true := a.nj
set_option maxHeartbeats 4000000 in
theorem law5 (F : Fa E) (beg : ∀ h, Sp P E (.func 6 [] []) [] h fun r h' => r = .bool true ∧ h' = h) {v mv : V} {vs : List WV} {ms : List Int} {g : Int} {h0 : H} (hv : VsIn h0 v vs) (hm : MsIn h0 mv ms) (ht : totG vs ≤ 1048576) :
    Sp P E (.func 5 [] []) [v, mv, .int .i64 g] h0 fun r _ => r = .bool true := by
  obtain ⟨a1, c1, o1, e1⟩ := hv.sl.len
  rw [List.length_map] at e1
  have hl := hv.len
  have loop2 : ∀ (d k : Nat) (ρ : Nat → V) (h : H), vs.length - k = d → k ≤ vs.length → ρ 0 = v → ρ 71 = .int .i64 vs.length → ρ 72 = .int .i64 k → Kp h0 h →
      XL P E none 93 b5_13 [.b 2, .c (.seq (.region [⟨some 6, .mv (.k (.bool true)), none, 0, [6]⟩]) (.ret))] ρ h (Fin [.t 6] fun r _ => r = .bool true) := by
    intro d
    induction d with
    | zero =>
      intro k ρ h hd hk q0 q71 q72 hkp
      have hke : ¬ k < vs.length := by omega
      rw [u5_13]
      simp (maxSteps := 2000000) only [GO,GO2,evK,fillV,setR,binV,intOp,strOp,shOp,unV,getR,lenV,partV,V.nj,V.njL,V.cells,Nat.reduceLT,Nat.reduceEqDiff,Nat.reduceAdd,↓reduceIte,Nat.reduceLeDiff,reduceCtorEq,q71,q72,Int.ofNat_lt,hke]
    | succ d ih =>
      intro k ρ h hd hk q0 q71 q72 hkp
      have hke : k < vs.length := by omega
      have h0l : 0 < vs.length := by omega
      obtain ⟨b, o, cap, opn, cs, ty, op, ro, fz, v1, hg, hll, he⟩ := (hv.sl.keep hkp).get (k := k) (x := vs[k].x.cells) (by simp [hke])
      obtain ⟨b2, o2, cap2, opn2, cs2, ty2, op2, ro2, fz2, v2, hg2, hll2, he2⟩ := (hv.sl.keep hkp).get (k := 0) (x := vs[0].x.cells) (by simp [h0l])
      rw [List.length_map] at v1 v2
      have same : V.slice (some (b, o)) vs.length cap opn = V.slice (some (b2, o2)) vs.length cap2 opn2 := v1.symm.trans v2
      simp only [V.slice.injEq, Option.some.injEq, Prod.mk.injEq] at same
      obtain ⟨⟨rfl, rfl⟩, _, _, _⟩ := same
      rw [hg] at hg2
      cases hg2
      have q0' : ρ 0 = V.slice (some (b, o)) vs.length cap opn := q0.trans v1
      have dx := (hv.ins _ (List.getElem_mem hke)).keep hkp
      have d0 := (hv.ins _ (List.getElem_mem h0l)).keep hkp
      unfold getR at he he2
      have hw : IntKind.i64.wrap ((k : Int) + 1) = ((k + 1 : Nat) : Int) := wrap_nat (n := k + 1) (by omega)
      have c00 : (0 : Int) ≤ 0 := Int.le_refl _
      have t00 : Int.toNat 0 = 0 := rfl
      have hn0 : (0 : Int) < ((vs.length : Nat) : Int) := by omega
      have njx := dx.nj
      have nj0 := d0.nj
      have sp1 := same17 (P := P) F d0 dx
      rw [u5_13]
      simp (maxSteps := 2000000) only [GO,GO2,evK,fillV,setR,binV,intOp,strOp,shOp,unV,getR,lenV,partV,V.nj,V.njL,V.cells,Nat.reduceLT,Nat.reduceEqDiff,Nat.reduceAdd,↓reduceIte,Nat.reduceLeDiff,reduceCtorEq,q71,q72,Int.ofNat_lt,hke,r5_10]
      rw [X_draw]
      refine d5_11 ?_
      simp (maxSteps := 2000000) only [GO,GO2,evK,fillV,setR,binV,intOp,strOp,shOp,unV,getR,lenV,partV,V.nj,V.njL,V.cells,Nat.reduceLT,Nat.reduceEqDiff,Nat.reduceAdd,↓reduceIte,Nat.reduceLeDiff,reduceCtorEq,r5_11,q0',hn0,c00,t00,hg,hll2,he2,nj0,q72,Int.ofNat_lt,hke,Int.natCast_nonneg,Int.toNat_natCast,hll,he,njx]
      refine XCQ_of sp1 ?_
      rintro _ h1 ⟨rfl, k1⟩
      refine ⟨k1, ?_⟩
      have hg1 := Kp.of k1 hg
      have sp2 := same18 (P := P) F (d0.keep k1) (dx.keep k1)
      simp (maxSteps := 2000000) only [GO,GO2,evK,fillV,setR,binV,intOp,strOp,shOp,unV,getR,lenV,partV,V.nj,V.njL,V.cells,Nat.reduceLT,Nat.reduceEqDiff,Nat.reduceAdd,↓reduceIte,Nat.reduceLeDiff,reduceCtorEq,q0',hn0,c00,t00,hg,hg1,hll2,he2,nj0,q72,Int.ofNat_lt,hke,Int.natCast_nonneg,Int.toNat_natCast,hll,he,njx]
      refine XCQ_of sp2 ?_
      rintro _ h2 ⟨rfl, k2⟩
      refine ⟨k2, ?_⟩
      have hbb : ∀ a : Bool, (a == a) = true := fun a => by cases a <;> rfl
      simp (maxSteps := 2000000) only [GO,GO2,evK,fillV,setR,binV,intOp,strOp,shOp,unV,getR,lenV,partV,V.nj,V.njL,V.cells,Nat.reduceLT,Nat.reduceEqDiff,Nat.reduceAdd,↓reduceIte,Nat.reduceLeDiff,reduceCtorEq,eq_bb,hbb,Bool.not_true]
      simp (maxSteps := 2000000) only [GO,GO2,evK,fillV,setR,binV,intOp,strOp,shOp,unV,getR,lenV,partV,V.nj,V.njL,V.cells,Nat.reduceLT,Nat.reduceEqDiff,Nat.reduceAdd,↓reduceIte,Nat.reduceLeDiff,reduceCtorEq,r5_12,q72,hw]
      exact ih (k + 1) _ h2 (by omega) (by omega) q0 q71 rfl (hkp.trans (k1.trans k2))
  have loop1 : ∀ (ps qs : List (Entry × DEnt)) (w1 w2 : V) (hA : H), Sl hA 56 w1 (ps.map fun p => p.1.cells) → (∀ p ∈ ps, EIn hA p.1 p.2) → Sl hA 56 w2 (qs.map fun p => p.1.cells) → (∀ p ∈ qs, EIn hA p.1 p.2) → ps.map (·.2) = qs.map (·.2) → ps.length ≤ 1048576 →
      ∀ (d k : Nat) (ρ : Nat → V) (h : H), ps.length - k = d → k ≤ ps.length → ρ 0 = v → ρ 8 = w1 → ρ 10 = w2 → ρ 55 = .int .i64 ps.length → ρ 56 = .int .i64 k → Kp hA h → Kp h0 h →
      XL P E none 93 b5_8 [.b 0, .c (.seq (.seq (.region r5_9) (.block 2 (.loop b5_13))) (.seq (.region [⟨some 6, .mv (.k (.bool true)), none, 0, [6]⟩]) (.ret)))] ρ h (Fin [.t 6] fun r _ => r = .bool true) := by
    intro ps qs w1 w2 hA hs1 hi1 hs2 hi2 heq hpl d
    have hlen : ps.length = qs.length := by simpa using congrArg List.length heq
    induction d with
    | zero =>
      intro k ρ h hd hk q0 q8 q10 q55 q56 kA hkp
      have hke : ¬ k < ps.length := by omega
      rw [u5_8]
      simp (maxSteps := 2000000) only [GO,GO2,evK,fillV,setR,binV,intOp,strOp,shOp,unV,getR,lenV,partV,V.nj,V.njL,V.cells,Nat.reduceLT,Nat.reduceEqDiff,Nat.reduceAdd,↓reduceIte,Nat.reduceLeDiff,reduceCtorEq,q55,q56,Int.ofNat_lt,hke,r5_9,q0,e1]
      exact loop2 _ 0 _ h rfl (Nat.zero_le _) (by first | exact q0 | exact e1.symm) rfl rfl hkp
    | succ d ih =>
      intro k ρ h hd hk q0 q8 q10 q55 q56 kA hkp
      have hke : k < ps.length := by omega
      have hky : k < qs.length := by omega
      obtain ⟨b, o, cap, opn, cs, ty, op, ro, fz, v1, hg, hll, he⟩ := (hs1.keep kA).get (k := k) (x := ps[k].1.cells) (by simp [hke])
      obtain ⟨b2, o2, cap2, opn2, cs2, ty2, op2, ro2, fz2, v2, hg2, hll2, he2⟩ := (hs2.keep kA).get (k := k) (x := qs[k].1.cells) (by simp [hky])
      rw [List.length_map] at v1 v2
      have q8' := q8.trans v1
      have q10' := q10.trans v2
      have dx := (hi1 _ (List.getElem_mem hke)).keep kA
      have dy := (hi2 _ (List.getElem_mem hky)).keep kA
      have hde : ps[k].2 = qs[k].2 := by
        have : (ps.map (·.2))[k]'(by simp [hke]) = (qs.map (·.2))[k]'(by simp [hky]) := by simp only [heq]
        simpa using this
      unfold getR at he he2
      have hw : IntKind.i64.wrap ((k : Int) + 1) = ((k + 1 : Nat) : Int) := wrap_nat (n := k + 1) (by omega)
      have njx := dx.nj
      have njy := dy.nj
      have sp := ent11 (P := P) F dx dy
      rw [decide_eq_true hde] at sp
      generalize hxc : ps[k].1.cells = xc at *
      generalize hyc : qs[k].1.cells = yc at *
      rw [u5_8]
      simp (maxSteps := 2000000) only [GO,GO2,evK,fillV,setR,binV,intOp,strOp,shOp,unV,getR,lenV,partV,V.nj,V.njL,V.cells,Nat.reduceLT,Nat.reduceEqDiff,Nat.reduceAdd,↓reduceIte,Nat.reduceLeDiff,reduceCtorEq,q55,q56,Int.ofNat_lt,hke,r5_5]
      rw [X_draw]
      refine d5_6 ?_
      simp (maxSteps := 2000000) only [GO,GO2,evK,fillV,setR,binV,intOp,strOp,shOp,unV,getR,lenV,partV,V.nj,V.njL,V.cells,Nat.reduceLT,Nat.reduceEqDiff,Nat.reduceAdd,↓reduceIte,Nat.reduceLeDiff,reduceCtorEq,r5_6,q8',q10',q56,Int.ofNat_lt,hke,hky,hg,hg2,hll,hll2,he,he2,Int.natCast_nonneg,Int.toNat_natCast,njx,njy]
      refine XCD_of sp ?_
      rintro _ h1 ⟨rfl, k1⟩
      simp (maxSteps := 2000000) only [GO,GO2,evK,fillV,setR,binV,intOp,strOp,shOp,unV,getR,lenV,partV,V.nj,V.njL,V.cells,Nat.reduceLT,Nat.reduceEqDiff,Nat.reduceAdd,↓reduceIte,Nat.reduceLeDiff,reduceCtorEq,Bool.not_true,r5_7,q56,hw]
      exact ih (k + 1) _ h1 (by omega) (by omega) q0 q8 q10 q55 rfl (kA.trans k1) (hkp.trans k1)
  refine Sp_fn F.f5 F.p5 (by simp [fn5]) ?_
  simp (maxSteps := 2000000) only [GO,GO2,evK,fillV,setR,binV,intOp,strOp,shOp,unV,getR,lenV,partV,V.nj,V.njL,V.cells,Nat.reduceLT,Nat.reduceEqDiff,Nat.reduceAdd,↓reduceIte,Nat.reduceLeDiff,reduceCtorEq,fn5,c5,r5_0]
  refine XC_of (beg h0) ?_
  rintro _ _ ⟨rfl, rfl⟩
  simp (maxSteps := 2000000) only [GO,GO2,evK,fillV,setR,binV,intOp,strOp,shOp,unV,getR,lenV,partV,V.nj,V.njL,V.cells,Nat.reduceLT,Nat.reduceEqDiff,Nat.reduceAdd,↓reduceIte,Nat.reduceLeDiff,reduceCtorEq,Bool.not_true]
  refine XC_of (leaders13 F hv) ?_
  rintro w1 h1 ⟨l1, k1⟩
  simp (maxSteps := 2000000) only [GO,GO2,evK,fillV,setR,binV,intOp,strOp,shOp,unV,getR,lenV,partV,V.nj,V.njL,V.cells,Nat.reduceLT,Nat.reduceEqDiff,Nat.reduceAdd,↓reduceIte,Nat.reduceLeDiff,reduceCtorEq]
  refine XC_of (leaders14 F (hv.keep k1)) ?_
  rintro w2 h2 ⟨l2, k2⟩
  have hll := leaders_len vs
  simp (maxSteps := 2000000) only [GO,GO2,evK,fillV,setR,binV,intOp,strOp,shOp,unV,getR,lenV,partV,V.nj,V.njL,V.cells,Nat.reduceLT,Nat.reduceEqDiff,Nat.reduceAdd,↓reduceIte,Nat.reduceLeDiff,reduceCtorEq]
  refine XC_of (eq12 F (l1.keep k2).sl l2.sl (by omega)) ?_
  rintro _ _ ⟨rfl, rfl⟩
  have kA := k1.trans k2
  have ht1 : decide (leadersOf vs = leadersOf vs) = true := by simp
  simp (maxSteps := 2000000) only [GO,GO2,evK,fillV,setR,binV,intOp,strOp,shOp,unV,getR,lenV,partV,V.nj,V.njL,V.cells,Nat.reduceLT,Nat.reduceEqDiff,Nat.reduceAdd,↓reduceIte,Nat.reduceLeDiff,reduceCtorEq,ht1,Bool.not_true]
  refine XC_of (equal15 F (hv.keep kA) (hm.keep kA)) ?_
  rintro _ h3 ⟨rfl, k3⟩
  simp (maxSteps := 2000000) only [GO,GO2,evK,fillV,setR,binV,intOp,strOp,shOp,unV,getR,lenV,partV,V.nj,V.njL,V.cells,Nat.reduceLT,Nat.reduceEqDiff,Nat.reduceAdd,↓reduceIte,Nat.reduceLeDiff,reduceCtorEq]
  refine XC_of (equal16 F (hv.keep (kA.trans k3)) (hm.keep (kA.trans k3))) ?_
  rintro _ _ ⟨rfl, rfl⟩
  have hbb : ∀ a : Bool, (a == a) = true := fun a => by cases a <;> rfl
  simp (maxSteps := 2000000) only [GO,GO2,evK,fillV,setR,binV,intOp,strOp,shOp,unV,getR,lenV,partV,V.nj,V.njL,V.cells,Nat.reduceLT,Nat.reduceEqDiff,Nat.reduceAdd,↓reduceIte,Nat.reduceLeDiff,reduceCtorEq,eq_bb,hbb,Bool.not_true,r5_1]
  have kB := kA.trans k3
  refine XC_of (log10 F (hv.keep kB) ht) ?_
  rintro _ h4 ⟨⟨u1, ps, rfl, s1, i1, m1, n1⟩, k4⟩
  simp (maxSteps := 2000000) only [GO,GO2,evK,fillV,setR,binV,intOp,strOp,shOp,unV,getR,lenV,partV,V.nj,V.njL,V.cells,Nat.reduceLT,Nat.reduceEqDiff,Nat.reduceAdd,↓reduceIte,Nat.reduceLeDiff,reduceCtorEq,r5_2]
  refine XC_of (log9 F (hv.keep (kB.trans k4)) ht) ?_
  rintro _ h5 ⟨⟨u2, qs, rfl, s2, i2, m2, n2⟩, k5⟩
  have heq : ps.map (·.2) = qs.map (·.2) := m1.trans m2.symm
  have hlen : ps.length = qs.length := by simpa using congrArg List.length heq
  obtain ⟨b1, c2, o2, ew1⟩ := s1.len
  obtain ⟨b2, c3, o3, ew2⟩ := s2.len
  rw [List.length_map] at ew1 ew2
  have hne : (leastG (selG g vs) != leastG (selG g vs)) = false := by simp
  have hld : decide (ps.length = qs.length) = true := decide_eq_true hlen
  simp (maxSteps := 2000000) only [GO,GO2,evK,fillV,setR,binV,intOp,strOp,shOp,unV,getR,lenV,partV,V.nj,V.njL,V.cells,Nat.reduceLT,Nat.reduceEqDiff,Nat.reduceAdd,↓reduceIte,Nat.reduceLeDiff,reduceCtorEq,r5_3,hne,ew1,ew2,eqlens,hld,Bool.not_true,r5_4]
  exact loop1 ps qs u1 u2 h5 (s1.keep k5) (fun p hp => (i1 p hp).keep k5) s2 i2 heq n1 _ 0 _ h5 rfl (Nat.zero_le _) rfl ew1.symm ew2.symm rfl rfl (Keeps.refl _ _) ((kB.trans k4).trans k5)
end Go.AM.Sc
