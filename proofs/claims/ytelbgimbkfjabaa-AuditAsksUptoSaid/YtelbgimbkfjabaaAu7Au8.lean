/- My own texts of the evaluator, its soundness and its symbolic runs, laid for this claim. -/
import Derived.Test.YtelbgimbkfjabaaAu5Au6
set_option linter.unusedSimpArgs false
set_option linter.unusedVariables false
/-! Whose vectors are equal: the program's answer, continued. -/
namespace Go.AM.Sc
open Go.AM
variable {P : Program} {E : Env}
def isE (ms : List Int) (w : WV) : Bool := w.x.up && (w.x.booted && decide (w.x.at_.group ∈ ms))
def selE (ms : List Int) (vs : List WV) : List WV := vs.filter (isE ms)
def allSame : List WV → Bool
  | [] => true
  | f :: r => (f :: r).all fun w => decide (w.x.vector = f.x.vector)
theorem selE_take {ms : List Int} {vs : List WV} {k : Nat} (hk : k < vs.length) : selE ms (vs.take (k + 1)) = selE ms (vs.take k) ++ if isE ms vs[k] then [vs[k]] else [] := by
  unfold selE
  rw [List.take_succ_eq_append_getElem hk, List.filter_append]
  congr 1
  by_cases h : isE ms vs[k] <;> simp [List.filter_cons, h]
theorem selE_len (ms : List Int) (vs : List WV) : (selE ms vs).length ≤ vs.length := List.length_filter_le _ _
theorem not_any {l : List WV} {f : WV} : (!l.any fun w => !decide (w.x.vector = f.x.vector)) = l.all fun w => decide (w.x.vector = f.x.vector) := by
  induction l with
  | nil => rfl
  | cons a l ih => simp only [List.any_cons, List.all_cons, Bool.not_or, Bool.not_not, ih]
structure MsIn (h : H) (v : V) (ms : List Int) : Prop where
  sl : Sl h 1 v (ms.map fun n => [V.int .i64 n])
  len : ms.length ≤ 1048576
theorem MsIn.keep {h h' : H} {v : V} {ms : List Int} (a : MsIn h v ms) (hk : Kp h h') : MsIn h' v ms := ⟨a.sl.keep hk, a.len⟩
theorem _root_.Go.AM.Acc.one {h : H} {lo ty sz : Nat} {v : V} {xs : List (List V)} (a : Acc h lo ty sz v xs) : [v].all V.one = true := by
  rcases a.shape with ⟨_, rfl⟩ | ⟨b, rfl, _, _⟩ <;> rfl
theorem _root_.Go.AM.Acc.slice {h : H} {lo ty sz : Nat} {v : V} {xs : List (List V)} (a : Acc h lo ty sz v xs) : ∃ p n c o, v = .slice p n c o := by
  rcases a.shape with ⟨_, rfl⟩ | ⟨b, rfl, _, _⟩ <;> exact ⟨_, _, _, _, rfl⟩
theorem _root_.Go.AM.Acc.set {h : H} {lo ty sz b : Nat} {v : V} {xs : List (List V)} (a : Acc h lo ty sz v xs) (hb : b < lo) (hlt : b < h.size) (o : Obj) : Acc (h.set b o) lo ty sz v xs := by
  refine ⟨?_, a.elem⟩
  rcases a.shape with h1 | ⟨c, h1, h2, h3⟩
  · exact .inl h1
  · exact .inr ⟨c, h1, h2, by rw [hset_other hlt (by omega)]; exact h3⟩
set_option maxHeartbeats 2000000 in
theorem equal15 (F : Fa E) {v mv : V} {vs : List WV} {ms : List Int} {h0 : H} (hv : VsIn h0 v vs) (hm : MsIn h0 mv ms) : Sp P E (.func 15 [] []) [v, mv] h0 fun r h' => r = .bool (allSame (selE ms vs)) ∧ Kp h0 h' := by
  obtain ⟨a1, c1, o1, e1⟩ := hv.sl.len
  rw [List.length_map] at e1
  have hl := hv.len
  have fin : ∀ (ρ : Nat → V) (h : H) (sv : V), ρ 5 = .ptr (some (h0.size, 0)) → h.get h0.size = some (.cells [sv] 22 false false none) → Acc h (h0.size + 1) 63 21 sv ((selE ms vs).map fun w => w.x.cells) → Kp h0 h →
      XO P E none 36 r15_6 [.c .ret] ρ h (Fin [.t 4] fun r h' => r = .bool (allSame (selE ms vs)) ∧ Kp h0 h') := by
    intro ρ h sv q5 gB ha hkp
    have hsl := selE_len ms vs
    simp (maxSteps := 2000000) only [GO,GO2,evK,fillV,setR,binV,intOp,strOp,shOp,unV,getR,lenV,partV,V.nj,V.njL,V.cells,Nat.reduceLT,Nat.reduceEqDiff,Nat.reduceAdd,↓reduceIte,Nat.reduceLeDiff,reduceCtorEq,r15_6,q5,gB]
    cases hs : selE ms vs with
    | nil =>
      rw [hs] at ha
      refine XC_of (con36 F (vs := []) (p := fun _ => false) ha.sl (by simp) (by simp)) ?_
      rintro _ h1 ⟨rfl, k1⟩
      simp (maxSteps := 2000000) only [GO,GO2,evK,fillV,setR,binV,intOp,strOp,shOp,unV,getR,lenV,partV,V.nj,V.njL,V.cells,Nat.reduceLT,Nat.reduceEqDiff,Nat.reduceAdd,↓reduceIte,Nat.reduceLeDiff,reduceCtorEq]
      exact ⟨rfl, hkp.trans k1⟩
    | cons f r =>
      rw [hs] at ha hsl
      refine XC_of (con36 F (vs := f :: r) (p := fun w => !decide (w.x.vector = f.x.vector)) ha.sl (by omega) fun w hw h' hk' => clo37 F (Kp.of hk' gB) (ha.sl.keep hk')) ?_
      rintro _ h1 ⟨rfl, k1⟩
      simp (maxSteps := 2000000) only [GO,GO2,evK,fillV,setR,binV,intOp,strOp,shOp,unV,getR,lenV,partV,V.nj,V.njL,V.cells,Nat.reduceLT,Nat.reduceEqDiff,Nat.reduceAdd,↓reduceIte,Nat.reduceLeDiff,reduceCtorEq]
      exact ⟨congrArg V.bool not_any, hkp.trans k1⟩
  have loop : ∀ (d k : Nat) (ρ : Nat → V) (h : H) (sv : V), vs.length - k = d → k ≤ vs.length → ρ 1 = mv → ρ 5 = .ptr (some (h0.size, 0)) → ρ 8 = v → ρ 9 = .int .i64 vs.length → ρ 10 = .int .i64 k → h.get h0.size = some (.cells [sv] 22 false false none) → Acc h (h0.size + 1) 63 21 sv ((selE ms (vs.take k)).map fun w => w.x.cells) → Kp h0 h →
      XL P E none 36 b15_5 [.b 0, .c (.seq (.region r15_6) (.ret))] ρ h (Fin [.t 4] fun r h' => r = .bool (allSame (selE ms vs)) ∧ Kp h0 h') := by
    intro d
    induction d with
    | zero =>
      intro k ρ h sv hd hk q1 q5 q8 q9 q10 gB ha hkp
      have hke : ¬ k < vs.length := by omega
      rw [List.take_of_length_le (by omega)] at ha
      rw [u15_5]
      simp (maxSteps := 2000000) only [GO,GO2,evK,fillV,setR,binV,intOp,strOp,shOp,unV,getR,lenV,partV,V.nj,V.njL,V.cells,Nat.reduceLT,Nat.reduceEqDiff,Nat.reduceAdd,↓reduceIte,Nat.reduceLeDiff,reduceCtorEq,q9,q10,Int.ofNat_lt,hke]
      exact fin _ _ sv q5 gB ha hkp
    | succ d ih =>
      intro k ρ h sv hd hk q1 q5 q8 q9 q10 gB ha hkp
      have hke : k < vs.length := by omega
      obtain ⟨b, o, cap, opn, cs, ty, op, ro, fz, v1, hg, hll, he⟩ := (hv.sl.keep hkp).get (k := k) (x := vs[k].x.cells) (by simp [hke])
      rw [v1, List.length_map] at q8
      have dx := (hv.ins _ (List.getElem_mem hke)).keep hkp
      have fl : ∀ z : View, z.cells.length = 21 := fun _ => rfl
      have p0 : ∀ z : View, List.take 21 z.cells = z.cells := fun _ => rfl
      obtain ⟨h3, e3, g3, k3, z3⟩ := put_ex (o := 0) (ws := vs[k].x.cells) (psh_same h (.cells View.zero.cells 63 false false none)) (by rw [fl, fl]; decide) dx.one rfl
      have g3' : h3.get h.size = some (.cells vs[k].x.cells 63 false false none) := g3
      have k3' : Kp h h3 := Keeps.trans (Keeps.psh (Nat.le_refl _) _) k3
      have kk := hkp.trans k3'
      have gB3 := Kp.of k3' gB
      have ha3 := ha.keep k3'
      unfold getR at he
      have hw : IntKind.i64.wrap ((k : Int) + 1) = ((k + 1 : Nat) : Int) := wrap_nat (n := k + 1) (by omega)
      have flx := fl vs[k].x
      have p0x := p0 vs[k].x
      have f0 := View.g0 vs[k].x
      have f2 := View.g2 vs[k].x
      have f4 := View.g4 vs[k].x
      have hls := selE_len ms (vs.take k)
      rw [List.length_take] at hls
      have htk := selE_take (ms := ms) hke
      have done : ∀ (ρ' : Nat → V) (h' : H) (sv' : V), isE ms vs[k] = false → Kp h3 h' → sv' = sv → ρ' 1 = mv → ρ' 5 = .ptr (some (h0.size, 0)) → ρ' 8 = v → ρ' 9 = .int .i64 vs.length → ρ' 10 = .int .i64 ((k + 1 : Nat) : Int) →
          XL P E none 36 b15_5 [.b 0, .c (.seq (.region r15_6) (.ret))] ρ' h' (Fin [.t 4] fun r h' => r = .bool (allSame (selE ms vs)) ∧ Kp h0 h') := by
        intro ρ' h' sv' hi k4 hsv w1 w5 w8 w9 w10
        subst hsv
        rw [hi] at htk
        exact ih (k + 1) ρ' h' sv' (by omega) (by omega) w1 w5 w8 w9 w10 (Kp.of k4 gB3) (by rw [htk]; simpa using ha3.keep k4) (kk.trans k4)
      have hone := dx.one
      have hfill : vs[k].x.cells ++ List.drop 21 [.int .i64 0, .int .i64 0, .bool false, .bool false, .bool false, .int .i64 0, .int .i64 0, .slice none 0 0 false, .int .i64 0, .int .i64 0, .int .i64 0, .int .i64 0, .int .i64 0, .int .i64 0, .int .i64 0, .int .i64 0, .int .i64 0, .int .i64 0, .int .i64 0, .slice none 0 0 false, .slice none 0 0 false] = vs[k].x.cells := by simp
      generalize hxc : vs[k].x.cells = xc at *
      simp only [View.zero, View.cells] at e3
      rw [u15_5]
      cases hu : vs[k].x.up with
      | false =>
        have hi : isE ms vs[k] = false := by simp [isE, hu]
        rw [hu] at f2
        simp (maxSteps := 2000000) only [GO,GO2,evK,fillV,setR,binV,intOp,strOp,shOp,unV,getR,lenV,partV,V.nj,V.njL,V.cells,Nat.reduceLT,Nat.reduceEqDiff,Nat.reduceAdd,↓reduceIte,Nat.reduceLeDiff,reduceCtorEq,q9,q10,Int.ofNat_lt,hke,r15_1,r15_2,q8,hg,hll,he,Int.natCast_nonneg,Int.toNat_natCast,flx,p0x,e3,g3',f2,r15_4,hw]
        exact done _ _ sv hi (Keeps.refl _ _) rfl q1 q5 (by rw [v1, List.length_map]; exact q8) q9 rfl
      | true =>
        rw [hu] at f2
        cases hbo : vs[k].x.booted with
        | false =>
          have hi : isE ms vs[k] = false := by simp [isE, hbo]
          rw [hbo] at f4
          simp (maxSteps := 2000000) only [GO,GO2,evK,fillV,setR,binV,intOp,strOp,shOp,unV,getR,lenV,partV,V.nj,V.njL,V.cells,Nat.reduceLT,Nat.reduceEqDiff,Nat.reduceAdd,↓reduceIte,Nat.reduceLeDiff,reduceCtorEq,q9,q10,Int.ofNat_lt,hke,r15_1,r15_2,q8,hg,hll,he,Int.natCast_nonneg,Int.toNat_natCast,flx,p0x,e3,g3',f2,f4,r15_4,hw]
          exact done _ _ sv hi (Keeps.refl _ _) rfl q1 q5 (by rw [v1, List.length_map]; exact q8) q9 rfl
        | true =>
          rw [hbo] at f4
          have hi : isE ms vs[k] = decide (vs[k].x.at_.group ∈ ms) := by simp [isE, hu, hbo]
          simp (maxSteps := 2000000) only [GO,GO2,evK,fillV,setR,binV,intOp,strOp,shOp,unV,getR,lenV,partV,V.nj,V.njL,V.cells,Nat.reduceLT,Nat.reduceEqDiff,Nat.reduceAdd,↓reduceIte,Nat.reduceLeDiff,reduceCtorEq,q9,q10,Int.ofNat_lt,hke,r15_1,r15_2,q8,hg,hll,he,Int.natCast_nonneg,Int.toNat_natCast,flx,p0x,e3,g3',f2,f4,f0,q1]
          refine XC_of (con35 F (hm.sl.keep kk) hm.len) ?_
          rintro _ h4 ⟨rfl, rfl⟩
          cases hme : decide (vs[k].x.at_.group ∈ ms) with
          | false =>
            rw [hme] at hi
            simp (maxSteps := 2000000) only [GO,GO2,evK,fillV,setR,binV,intOp,strOp,shOp,unV,getR,lenV,partV,V.nj,V.njL,V.cells,Nat.reduceLT,Nat.reduceEqDiff,Nat.reduceAdd,↓reduceIte,Nat.reduceLeDiff,reduceCtorEq,r15_4,q10,hw]
            exact done _ _ sv hi (Keeps.refl _ _) rfl q1 q5 (by rw [v1, List.length_map]; exact q8) q9 rfl
          | true =>
            rw [hme] at hi
            rw [hi, if_pos rfl] at htk
            have kp : Kp h4 (h4.psh (.cells xc 63 false false none)) := Keeps.psh (Nat.le_refl _) _
            have kk4 := kk.trans kp
            have hlt4 : h0.size < h4.size := H.get_lt gB3
            obtain ⟨v', h', e5, e6, e7⟩ := app_acc (x := .slice (some (h4.size, 0)) 1 1 false) (ys := [xc]) (bytes := 200) (ha3.keep kp) (by rw [psh_size]; omega) rfl (elems_psh flx (by decide)) (by intro y hy; rw [List.mem_singleton.1 hy]; exact ⟨flx, hone⟩) (by rw [List.length_map, List.length_singleton]; omega)
            obtain ⟨p', n', c', o', rfl⟩ := e6.slice
            have gB5 : h'.get h0.size = some (.cells [sv] 22 false false none) := by
              rw [e7.get _ (Nat.lt_succ_self _)]; exact Kp.of kp gB3
            obtain ⟨h6, e8, g8, k8, z8⟩ := put_ex (o := 0) (ws := [.slice p' n' c' o']) gB5 (Nat.le_refl _) e6.one rfl
            have k6 : Kp h0 h6 := Keeps.trans (n := h0.size) (Keeps.trans (n := h0.size) kk4 (e7.mono (by omega))) k8
            have ha6 : Acc h6 (h0.size + 1) 63 21 (.slice p' n' c' o') ((selE ms (vs.take (k + 1))).map fun w => w.x.cells) := by
              have e9 := e8
              unfold putCells at e9
              simp only [List.isEmpty_cons, Bool.false_eq_true, if_false, gB5] at e9
              split at e9
              · cases e9
                rw [htk, List.map_append, List.map_cons, List.map_nil, hxc]
                exact e6.set (Nat.lt_succ_self _) (H.get_lt gB5) _
              · cases e9
            simp (maxSteps := 2000000) only [GO,GO2,evK,fillV,setR,binV,intOp,strOp,shOp,unV,getR,lenV,partV,V.nj,V.njL,V.cells,Nat.reduceLT,Nat.reduceEqDiff,Nat.reduceAdd,↓reduceIte,Nat.reduceLeDiff,reduceCtorEq,r15_3,q5,gB3,g3',flx,p0x,hfill,e5,e8,r15_4,q10,hw]
            exact ih (k + 1) _ h6 _ (by omega) (by omega) q1 q5 (by rw [v1, List.length_map]; exact q8) q9 rfl g8 ha6 k6
  refine Sp_fn F.f15 F.p15 (by simp [fn15]) ?_
  simp (maxSteps := 2000000) only [GO,GO2,evK,fillV,setR,binV,intOp,strOp,shOp,unV,getR,lenV,partV,V.nj,V.njL,V.cells,Nat.reduceLT,Nat.reduceEqDiff,Nat.reduceAdd,↓reduceIte,Nat.reduceLeDiff,reduceCtorEq,fn15,c15,r15_0,e1]
  refine loop _ 0 _ _ (.slice none 0 0 false) rfl (Nat.zero_le _) rfl rfl e1.symm rfl rfl (psh_same _ _) ?_ (Keeps.psh (Nat.le_refl _) _)
  exact Acc.nil _ _ _ _
end Go.AM.Sc
/-! Whose vectors are equal: the document's answer. -/
namespace Go.AM.Sc
open Go.AM
variable {P : Program} {E : Env}
theorem inner16 {v mv : V} {vs : List WV} {ms : List Int} {h : H} (hv : VsIn h v vs) (hm : MsIn h mv ms) {k : Nat} (hke : k < vs.length) {u : V} {K : List Fr} {Q : Po}
    (cont : ∀ ρ' : Nat → V, ρ' 0 = v → ρ' 1 = mv → ρ' 5 = u → ρ' 6 = .int .i64 k → ρ' 7 = .bool (decide (vs[k].x.at_.group ∈ ms)) → X P E none 71 K ρ' h Q) :
    ∀ (d j : Nat) (ρ : Nat → V), ms.length - j = d → j ≤ ms.length → ρ 0 = v → ρ 1 = mv → ρ 5 = u → ρ 6 = .int .i64 k → ρ 7 = .bool (decide (vs[k].x.at_.group ∈ ms.take j)) → ρ 8 = .int .i64 j → XL P E none 71 b16_4 (.b 2 :: K) ρ h Q := by
  obtain ⟨a1, c1, o1, e1⟩ := hm.sl.len
  rw [List.length_map] at e1
  have hl := hm.len
  intro d
  induction d with
  | zero =>
    intro j ρ hd hj q0 q1 q5 q6 q7 q8
    have hje : ¬ j < ms.length := by omega
    rw [List.take_of_length_le (by omega)] at q7
    rw [u16_4]
    simp (maxSteps := 2000000) only [GO,GO2,evK,fillV,setR,binV,intOp,strOp,shOp,unV,getR,lenV,partV,V.nj,V.njL,V.cells,Nat.reduceLT,Nat.reduceEqDiff,Nat.reduceAdd,↓reduceIte,Nat.reduceLeDiff,reduceCtorEq,r16_1,q1,e1,q8,Int.ofNat_lt,hje]
    refine cont _ q0 ?_ q5 q6 q7
    first | exact q1 | exact q1.trans e1 | (rw [e1] at q1; exact q1)
  | succ d ih =>
    intro j ρ hd hj q0 q1 q5 q6 q7 q8
    have hje : j < ms.length := by omega
    obtain ⟨b, o, cap, opn, cs, ty, op, ro, fz, v1, hg, hll, he⟩ := hm.sl.get (k := j) (x := [.int .i64 ms[j]]) (by simp [hje])
    have he := getR_one he
    rw [Nat.mul_one] at he
    rw [v1, List.length_map] at q1
    obtain ⟨b', o', cap', opn', cs', ty', op', ro', fz', w1, hg', hll', he'⟩ := hv.sl.get (k := k) (x := vs[k].x.cells) (by simp [hke])
    rw [w1, List.length_map] at q0
    have f0 := cell_get he' hll' 0 _ (by decide) (View.g0 vs[k].x)
    rw [Nat.add_zero] at f0
    have hw : IntKind.i64.wrap ((j : Int) + 1) = ((j + 1 : Nat) : Int) := wrap_nat (n := j + 1) (by omega)
    have htk : (vs[k].x.at_.group ∈ ms.take (j + 1)) ↔ (vs[k].x.at_.group ∈ ms.take j ∨ ms[j] = vs[k].x.at_.group) := by
      rw [List.take_succ_eq_append_getElem hje]
      simp only [List.mem_append, List.mem_singleton]
      constructor <;> rintro (h | h) <;> first | exact .inl h | exact .inr h.symm
    rw [u16_4]
    simp (maxSteps := 2000000) only [GO,GO2,evK,fillV,setR,binV,intOp,strOp,shOp,unV,getR,lenV,partV,V.nj,V.njL,V.cells,Nat.reduceLT,Nat.reduceEqDiff,Nat.reduceAdd,↓reduceIte,Nat.reduceLeDiff,reduceCtorEq,r16_1,q1,q8,Int.ofNat_lt,hje]
    rw [X_draw, d16_2]
    cases hc : decide (vs[k].x.at_.group ∈ ms.take j) with
    | true =>
      rw [hc] at q7
      simp (maxSteps := 2000000) only [GO,GO2,evK,fillV,setR,binV,intOp,strOp,shOp,unV,getR,lenV,partV,V.nj,V.njL,V.cells,Nat.reduceLT,Nat.reduceEqDiff,Nat.reduceAdd,↓reduceIte,Nat.reduceLeDiff,reduceCtorEq,r16_2,q7,r16_3,q8,hw]
      refine ih (j + 1) _ (by omega) (by omega) (by rw [w1, List.length_map]; exact q0) (by rw [v1, List.length_map]; exact q1) q5 q6 ?_ rfl
      rw [decide_eq_true (htk.2 (.inl (of_decide_eq_true hc)))]; rfl
    | false =>
      rw [hc] at q7
      by_cases hq : ms[j] = vs[k].x.at_.group
      · have hb : (ms[j] == vs[k].x.at_.group) = true := by simp [hq]
        simp (maxSteps := 2000000) only [GO,GO2,evK,fillV,setR,binV,intOp,strOp,shOp,unV,getR,lenV,partV,V.nj,V.njL,V.cells,Nat.reduceLT,Nat.reduceEqDiff,Nat.reduceAdd,↓reduceIte,Nat.reduceLeDiff,reduceCtorEq,r16_2,q7,q1,q8,q0,q6,hg,hg',Int.ofNat_lt,hje,hke,Int.natCast_nonneg,Int.toNat_natCast,Nat.mul_one,Nat.add_zero,he,f0,hb,r16_3,hw]
        refine ih (j + 1) _ (by omega) (by omega) (by rw [w1, List.length_map]; exact q0) (by rw [v1, List.length_map]; exact q1) q5 q6 ?_ rfl
        rw [decide_eq_true (htk.2 (.inr hq))]; rfl
      · have hb : (ms[j] == vs[k].x.at_.group) = false := by simp [hq]
        simp (maxSteps := 2000000) only [GO,GO2,evK,fillV,setR,binV,intOp,strOp,shOp,unV,getR,lenV,partV,V.nj,V.njL,V.cells,Nat.reduceLT,Nat.reduceEqDiff,Nat.reduceAdd,↓reduceIte,Nat.reduceLeDiff,reduceCtorEq,r16_2,q7,q1,q8,q0,q6,hg,hg',Int.ofNat_lt,hje,hke,Int.natCast_nonneg,Int.toNat_natCast,Nat.mul_one,Nat.add_zero,he,f0,hb,r16_3,hw]
        refine ih (j + 1) _ (by omega) (by omega) (by rw [w1, List.length_map]; exact q0) (by rw [v1, List.length_map]; exact q1) q5 q6 ?_ rfl
        rw [decide_eq_false (fun h => (htk.1 h).elim (of_decide_eq_false hc) hq)]; rfl
theorem selE_split (ms : List Int) (vs : List WV) (k : Nat) : selE ms vs = selE ms (vs.take k) ++ selE ms (vs.drop k) := by
  unfold selE
  rw [← List.filter_append, List.take_append_drop]
theorem unlike {f a : WV} {r s : List WV} (h : a.x.vector ≠ f.x.vector) : allSame (f :: (r ++ a :: s)) = false := by
  rw [Bool.eq_false_iff]
  intro ht
  have := List.all_eq_true.1 ht a (by simp)
  exact h (by simpa using this)
set_option maxHeartbeats 2000000 in
theorem equal16 (F : Fa E) {v mv : V} {vs : List WV} {ms : List Int} {h : H} (hv : VsIn h v vs) (hm : MsIn h mv ms) : Sp P E (.func 16 [] []) [v, mv] h fun r h' => r = .bool (allSame (selE ms vs)) ∧ h' = h := by
  obtain ⟨a1, c1, o1, e1⟩ := hv.sl.len
  rw [List.length_map] at e1
  have hl := hv.len
  have loop : ∀ (d k : Nat) (ρ : Nat → V), vs.length - k = d → k ≤ vs.length → ρ 0 = v → ρ 1 = mv → ρ 6 = .int .i64 k →
      ((selE ms (vs.take k) = [] ∧ ρ 5 = .int .i64 (-1)) ∨ ∃ (j : Nat) (hj : j < vs.length) (r : List WV), ρ 5 = .int .i64 j ∧ selE ms (vs.take k) = vs[j] :: r ∧ ∀ w ∈ r, w.x.vector = vs[j].x.vector) →
      XL P E none 71 b16_10 [.b 0, .c (.seq (.region [⟨some 4, .mv (.k (.bool true)), none, 0, [4]⟩]) (.ret))] ρ h (Fin [.t 4] fun r h' => r = .bool (allSame (selE ms vs)) ∧ h' = h) := by
    intro d
    induction d with
    | zero =>
      intro k ρ hd hk q0 q1 q6 hi
      have hke : ¬ k < vs.length := by omega
      rw [List.take_of_length_le (by omega)] at hi
      rw [u16_10]
      simp (maxSteps := 2000000) only [GO,GO2,evK,fillV,setR,binV,intOp,strOp,shOp,unV,getR,lenV,partV,V.nj,V.njL,V.cells,Nat.reduceLT,Nat.reduceEqDiff,Nat.reduceAdd,↓reduceIte,Nat.reduceLeDiff,reduceCtorEq,r16_0,q0,e1,q6,Int.ofNat_lt,hke]
      rcases hi with ⟨h1, _⟩ | ⟨j, hj, r, _, h2, h3⟩
      · rw [h1]; rfl
      · rw [h2]
        congr 1
        symm
        exact List.all_eq_true.2 fun w hw => by
          rcases List.mem_cons.1 hw with rfl | hw
          · simp
          · simp [h3 w hw]
    | succ d ih =>
      intro k ρ hd hk q0 q1 q6 hi
      have hke : k < vs.length := by omega
      obtain ⟨b', o', cap', opn', cs', ty', op', ro', fz', v1, hg', hll', he'⟩ := hv.sl.get (k := k) (x := vs[k].x.cells) (by simp [hke])
      rw [v1, List.length_map] at q0
      have f2 := cell_get he' hll' 2 _ (by decide) (View.g2 vs[k].x)
      have f4 := cell_get he' hll' 4 _ (by decide) (View.g4 vs[k].x)
      have pv : ∀ {cs : List V} {o : Nat} {x : View}, getR cs o 21 = x.cells → List.take 8 (List.drop (o + 11) cs) = x.vector.cells := by
        intro cs o x he
        have := congrArg (fun l => List.take 8 (List.drop 11 l)) he
        unfold getR at this
        simp only [List.drop_take, List.drop_drop, List.take_take] at this
        exact this
      have p11 := pv he'
      have hlt11 : o' + k * 21 + 11 + 8 ≤ cs'.length := by omega
      have hw : IntKind.i64.wrap ((k : Int) + 1) = ((k + 1 : Nat) : Int) := wrap_nat (n := k + 1) (by omega)
      have htk := selE_take (ms := ms) hke
      have qe : V.slice (some (b', o')) vs.length cap' opn' = v := by rw [v1, List.length_map]
      rw [u16_10]
      simp (maxSteps := 2000000) only [GO,GO2,evK,fillV,setR,binV,intOp,strOp,shOp,unV,getR,lenV,partV,V.nj,V.njL,V.cells,Nat.reduceLT,Nat.reduceEqDiff,Nat.reduceAdd,↓reduceIte,Nat.reduceLeDiff,reduceCtorEq,r16_0,q0,q6,Int.ofNat_lt,hke]
      refine inner16 hv hm hke (u := ρ 5) (fun ρ' w0 w1 w5 w6 w7 => ?_) _ 0 _ rfl (Nat.zero_le _) (q0.trans qe) q1 rfl q6 (by simp; rfl) rfl
      rw [v1, List.length_map] at w0
      have skip : ∀ ρ'' : Nat → V, isE ms vs[k] = false → ρ'' 0 = v → ρ'' 1 = mv → ρ'' 5 = ρ 5 → ρ'' 6 = .int .i64 ((k + 1 : Nat) : Int) →
          XL P E none 71 b16_10 [.b 0, .c (.seq (.region [⟨some 4, .mv (.k (.bool true)), none, 0, [4]⟩]) (.ret))] ρ'' h (Fin [.t 4] fun r h' => r = .bool (allSame (selE ms vs)) ∧ h' = h) := by
        intro ρ'' hie x0 x1 x5 x6
        rw [hie] at htk
        refine ih (k + 1) ρ'' (by omega) (by omega) x0 x1 x6 ?_
        rw [x5, htk]
        simpa using hi
      cases hu : vs[k].x.up with
      | false =>
        have hie : isE ms vs[k] = false := by simp [isE, hu]
        rw [hu] at f2
        simp (maxSteps := 2000000) only [GO,GO2,evK,fillV,setR,binV,intOp,strOp,shOp,unV,getR,lenV,partV,V.nj,V.njL,V.cells,Nat.reduceLT,Nat.reduceEqDiff,Nat.reduceAdd,↓reduceIte,Nat.reduceLeDiff,reduceCtorEq,r16_5,w0,w6,hg',Int.ofNat_lt,hke,Int.natCast_nonneg,Int.toNat_natCast,f2,Bool.not_false,r16_9,hw]
        exact skip _ hie (w0.trans qe) w1 w5 rfl
      | true =>
        rw [hu] at f2
        cases hbo : vs[k].x.booted with
        | false =>
          have hie : isE ms vs[k] = false := by simp [isE, hbo]
          rw [hbo] at f4
          simp (maxSteps := 2000000) only [GO,GO2,evK,fillV,setR,binV,intOp,strOp,shOp,unV,getR,lenV,partV,V.nj,V.njL,V.cells,Nat.reduceLT,Nat.reduceEqDiff,Nat.reduceAdd,↓reduceIte,Nat.reduceLeDiff,reduceCtorEq,r16_5,w0,w6,hg',Int.ofNat_lt,hke,Int.natCast_nonneg,Int.toNat_natCast,f2,f4,Bool.not_false,Bool.not_true,r16_9,hw]
          exact skip _ hie (w0.trans qe) w1 w5 rfl
        | true =>
          rw [hbo] at f4
          have hie : isE ms vs[k] = decide (vs[k].x.at_.group ∈ ms) := by simp [isE, hu, hbo]
          cases hme : decide (vs[k].x.at_.group ∈ ms) with
          | false =>
            rw [hme] at hie w7
            simp (maxSteps := 2000000) only [GO,GO2,evK,fillV,setR,binV,intOp,strOp,shOp,unV,getR,lenV,partV,V.nj,V.njL,V.cells,Nat.reduceLT,Nat.reduceEqDiff,Nat.reduceAdd,↓reduceIte,Nat.reduceLeDiff,reduceCtorEq,r16_5,w0,w6,w7,hg',Int.ofNat_lt,hke,Int.natCast_nonneg,Int.toNat_natCast,f2,f4,Bool.not_false,Bool.not_true,r16_9,hw]
            exact skip _ hie (w0.trans qe) w1 w5 rfl
          | true =>
            rw [hme] at hie w7
            rw [hie, if_pos rfl] at htk
            simp (maxSteps := 2000000) only [GO,GO2,evK,fillV,setR,binV,intOp,strOp,shOp,unV,getR,lenV,partV,V.nj,V.njL,V.cells,Nat.reduceLT,Nat.reduceEqDiff,Nat.reduceAdd,↓reduceIte,Nat.reduceLeDiff,reduceCtorEq,r16_5,w0,w6,w7,hg',Int.ofNat_lt,hke,Int.natCast_nonneg,Int.toNat_natCast,f2,f4,Bool.not_false,Bool.not_true]
            rw [X_draw, d16_6]
            rcases hi with ⟨h1, h2⟩ | ⟨j, hj, r, h2, h3, h4⟩
            · rw [h2] at w5
              have g0 : ¬ (-1 : Int) ≥ 0 := by decide
              have g1 : (-1 : Int) < 0 := by decide
              simp (maxSteps := 2000000) only [GO,GO2,evK,fillV,setR,binV,intOp,strOp,shOp,unV,getR,lenV,partV,V.nj,V.njL,V.cells,Nat.reduceLT,Nat.reduceEqDiff,Nat.reduceAdd,↓reduceIte,Nat.reduceLeDiff,reduceCtorEq,r16_6,w5,g0,r16_7,g1,r16_8,w6,r16_9,hw]
              refine ih (k + 1) _ (by omega) (by omega) (w0.trans qe) w1 rfl (.inr ⟨k, hke, [], rfl, ?_, by simp⟩)
              rw [htk, h1]; rfl
            · rw [h2] at w5
              obtain ⟨b2, o2, cap2, opn2, cs2, ty2, op2, ro2, fz2, v2, hg2, hll2, he2⟩ := hv.sl.get (k := j) (x := vs[j].x.cells) (by simp [hj])
              rw [List.length_map] at v2
              have same : V.slice (some (b', o')) vs.length cap' opn' = V.slice (some (b2, o2)) vs.length cap2 opn2 := qe.trans v2
              simp only [V.slice.injEq, Option.some.injEq, Prod.mk.injEq] at same
              obtain ⟨⟨rfl, rfl⟩, _, _, _⟩ := same
              rw [hg'] at hg2
              cases hg2
              have p11j := pv he2
              have hlt11j : o' + j * 21 + 11 + 8 ≤ cs'.length := by omega
              have g0 : ((j : Nat) : Int) ≥ 0 := Int.natCast_nonneg _
              have g1 : ¬ ((j : Nat) : Int) < 0 := by omega
              have heq := Vec.eqv h vs[k].x.vector vs[j].x.vector
              cases hd2 : decide (vs[k].x.vector = vs[j].x.vector) with
              | true =>
                rw [hd2] at heq
                simp (maxSteps := 2000000) only [GO,GO2,evK,fillV,setR,binV,intOp,strOp,shOp,unV,getR,lenV,partV,V.nj,V.njL,V.cells,Nat.reduceLT,Nat.reduceEqDiff,Nat.reduceAdd,↓reduceIte,Nat.reduceLeDiff,reduceCtorEq,r16_6,w5,g0,w0,w6,hg',Int.ofNat_lt,hke,hj,Int.natCast_nonneg,Int.toNat_natCast,hlt11,hlt11j,p11,p11j,heq,Bool.not_true,r16_7,g1,r16_9,hw]
                refine ih (k + 1) _ (by omega) (by omega) (w0.trans qe) w1 rfl (.inr ⟨j, hj, r ++ [vs[k]], w5, by rw [htk, h3]; rfl, ?_⟩)
                intro w hw2
                rcases List.mem_append.1 hw2 with hw2 | hw2
                · exact h4 w hw2
                · rw [List.mem_singleton.1 hw2]; exact of_decide_eq_true hd2
              | false =>
                rw [hd2] at heq
                simp (maxSteps := 2000000) only [GO,GO2,evK,fillV,setR,binV,intOp,strOp,shOp,unV,getR,lenV,partV,V.nj,V.njL,V.cells,Nat.reduceLT,Nat.reduceEqDiff,Nat.reduceAdd,↓reduceIte,Nat.reduceLeDiff,reduceCtorEq,r16_6,w5,g0,w0,w6,hg',Int.ofNat_lt,hke,hj,Int.natCast_nonneg,Int.toNat_natCast,hlt11,hlt11j,p11,p11j,heq,Bool.not_false]
                have hs := selE_split ms vs (k + 1)
                rw [htk, h3] at hs
                rw [hs]
                have := unlike (r := r) (s := selE ms (vs.drop (k + 1))) (of_decide_eq_false hd2)
                simp only [List.cons_append, List.append_assoc, List.singleton_append, List.nil_append] at this ⊢
                rw [this]
  refine Sp_fn F.f16 F.p16 (by simp [fn16]) ?_
  simp (maxSteps := 2000000) only [GO,GO2,evK,fillV,setR,binV,intOp,strOp,shOp,unV,getR,lenV,partV,V.nj,V.njL,V.cells,Nat.reduceLT,Nat.reduceEqDiff,Nat.reduceAdd,↓reduceIte,Nat.reduceLeDiff,reduceCtorEq,fn16,c16]
  exact loop _ 0 _ rfl (Nat.zero_le _) rfl rfl rfl (.inl ⟨by simp [selE], rfl⟩)
end Go.AM.Sc
