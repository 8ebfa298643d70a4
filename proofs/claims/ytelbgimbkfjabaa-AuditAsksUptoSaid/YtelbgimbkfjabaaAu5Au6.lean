/- My own texts of the evaluator, its soundness and its symbolic runs, laid for this claim. -/
import Derived.Test.YtelbgimbkfjabaaAu4
set_option linter.unusedSimpArgs false
set_option linter.unusedVariables false
/-! Who leads. -/
namespace Go.AM.Sc
open Go.AM
variable {P : Program} {E : Env}
theorem _root_.Go.AM.Acc.sl {h : H} {lo ty sz : Nat} {v : V} {xs : List (List V)} (a : Acc h lo ty sz v xs) : Sl h sz v xs := by
  rcases a.shape with ⟨rfl, rfl⟩ | ⟨b, rfl, _, h3⟩
  · exact .nil _ _ _
  · refine .at b 0 _ _ xs _ _ _ _ _ h3 (by rw [flatten_length a.elem]; omega) fun k x hk => ?_
    have aux : ∀ (l : List (List V)) (k : Nat) (x : List V), (∀ y ∈ l, y.length = sz) → l[k]? = some x → (l.flatten.drop (k * sz)).take sz = x := by
      intro l
      induction l with
      | nil => intro k x _ hk; simp at hk
      | cons y l ih =>
        intro k x hl hk
        have hy := hl y List.mem_cons_self
        cases k with
        | zero =>
          simp only [List.getElem?_cons_zero, Option.some.injEq] at hk
          subst hk
          rw [Nat.zero_mul, List.drop_zero, List.flatten_cons, ← hy, List.take_left']
          rfl
        | succ k =>
          simp only [List.getElem?_cons_succ] at hk
          have := ih k x (fun z hz => hl z (List.mem_cons_of_mem _ hz)) hk
          rw [List.flatten_cons, show (k + 1) * sz = y.length + k * sz by rw [Nat.add_mul, hy]; omega, ← List.drop_drop, List.drop_left']
          · exact this
          · rfl
    unfold getR
    rw [Nat.zero_add]
    exact aux xs k x (fun y hy => (a.elem y hy).1) hk
theorem elems_psh {h : H} {cs : List V} {ty sz : Nat} (hl : cs.length = sz) (hp : 0 < sz) : elemsV (h.psh (.cells cs ty false false none)) sz [cs].length (.slice (some (h.size, 0)) 1 1 false) = some [cs].flatten := by
  subst hl
  have h1 : ¬ 1 * cs.length = 0 := by omega
  simp only [elemsV, psh_same, getR, List.length_singleton, h1, if_false]
  rw [if_pos (by omega), Nat.one_mul, List.drop_zero, List.take_length]
  simp
theorem cell_get {cs xs : List V} {o n : Nat} (he : getR cs o n = xs) (hl : o + n ≤ cs.length) (i : Nat) (v : V) (hi : i < n) (hx : xs[i]? = some v) : cs[o + i]? = some v := by
  subst he
  unfold getR at hx
  rw [List.getElem?_take, if_pos hi, List.getElem?_drop] at hx
  exact hx
theorem VIn.one {h : H} {w : WV} (a : VIn h w) : w.x.cells.all V.one = true := by
  obtain ⟨b, c, o, e1⟩ := a.chosen.len
  obtain ⟨b', c', o', e2⟩ := a.nodes.len
  obtain ⟨b2, c2, o2, e3⟩ := a.rows.len
  simp only [View.cells, List.all_cons, List.all_nil, V.one, e1, e2, e3, Bool.and_self]
theorem VIn.nj {h : H} {w : WV} (a : VIn h w) : V.njL w.x.cells = true := by
  obtain ⟨b, c, o, e1⟩ := a.chosen.len
  obtain ⟨b', c', o', e2⟩ := a.nodes.len
  obtain ⟨b2, c2, o2, e3⟩ := a.rows.len
  simp only [View.cells, V.njL, V.nj, e1, e2, e3, Bool.and_self]
structure VsIn (h : H) (v : V) (vs : List WV) : Prop where
  sl : Sl h 21 v (vs.map fun w => w.x.cells)
  ins : ∀ w ∈ vs, VIn h w
  len : vs.length ≤ 1048576
theorem VsIn.keep {h h' : H} {v : V} {vs : List WV} (a : VsIn h v vs) (hk : Kp h h') : VsIn h' v vs := ⟨a.sl.keep hk, fun w hw => (a.ins w hw).keep hk, a.len⟩
def isL (w : WV) : Bool := w.x.up && w.x.leads
def leadersOf (vs : List WV) : List Addr := (vs.filter isL).map (·.x.at_)
theorem leaders_len (vs : List WV) : (leadersOf vs).length ≤ vs.length := by
  unfold leadersOf
  rw [List.length_map]
  exact List.length_filter_le _ _
theorem leaders_take {vs : List WV} {k : Nat} (hk : k < vs.length) : leadersOf (vs.take (k + 1)) = leadersOf (vs.take k) ++ if isL vs[k] then [vs[k].x.at_] else [] := by
  unfold leadersOf
  rw [List.take_succ_eq_append_getElem hk, List.filter_append, List.map_append]
  congr 1
  by_cases h : isL vs[k] <;> simp [List.filter_cons, h]
def View.zero : View := ⟨⟨0, 0⟩, false, false, false, 0, 0, .slice none 0 0 false, 0, 0, 0, ⟨0, 0, 0, 0, 0, 0, 0, 0⟩, .slice none 0 0 false, .slice none 0 0 false⟩
set_option maxHeartbeats 1000000 in
theorem leaders13 (F : Fa E) {v : V} {vs : List WV} {h0 : H} (hv : VsIn h0 v vs) : Sp P E (.func 13 [] []) [v] h0 fun r h' => Acc h' h0.size 59 2 r ((leadersOf vs).map Addr.cells) ∧ Kp h0 h' := by
  obtain ⟨a1, c1, o1, e1⟩ := hv.sl.len
  rw [List.length_map] at e1
  have hl := hv.len
  have loop : ∀ (d k : Nat) (ρ : Nat → V) (h : H), vs.length - k = d → k ≤ vs.length → ρ 6 = v → ρ 7 = .int .i64 vs.length → ρ 8 = .int .i64 k → Acc h h0.size 59 2 (ρ 3) ((leadersOf (vs.take k)).map Addr.cells) → Kp h0 h →
      XL P E none 25 b13_5 [.b 0, .c (.seq (.region r13_6) (.ret))] ρ h (Fin [.t 2] fun r h' => Acc h' h0.size 59 2 r ((leadersOf vs).map Addr.cells) ∧ Kp h0 h') := by
    intro d
    induction d with
    | zero =>
      intro k ρ h hd hk q6 q7 q8 ha hkp
      have hke : ¬ k < vs.length := by omega
      rw [List.take_of_length_le (by omega)] at ha
      rw [u13_5]
      simp (maxSteps := 2000000) only [GO,GO2,evK,fillV,setR,binV,intOp,strOp,shOp,unV,getR,lenV,partV,V.nj,V.njL,V.cells,Nat.reduceLT,Nat.reduceEqDiff,Nat.reduceAdd,↓reduceIte,Nat.reduceLeDiff,reduceCtorEq,q7,q8,Int.ofNat_lt,hke,r13_6]
      exact ⟨ha, hkp⟩
    | succ d ih =>
      intro k ρ h hd hk q6 q7 q8 ha hkp
      have hke : k < vs.length := by omega
      obtain ⟨b, o, cap, opn, cs, ty, op, ro, fz, v1, hg, hll, he⟩ := (hv.sl.keep hkp).get (k := k) (x := vs[k].x.cells) (by simp [hke])
      rw [v1, List.length_map] at q6
      have dx := (hv.ins _ (List.getElem_mem hke)).keep hkp
      have fl : ∀ z : View, z.cells.length = 21 := fun _ => rfl
      have p0 : ∀ z : View, List.take 21 z.cells = z.cells := fun _ => rfl
      have p2 : ∀ z : View, List.take 2 z.cells = z.at_.cells := fun _ => rfl
      obtain ⟨h3, e3, g3, k3, z3⟩ := put_ex (o := 0) (ws := vs[k].x.cells) (psh_same h (.cells View.zero.cells 63 false false none)) (by rw [fl, fl]; decide) dx.one rfl
      have g3' : h3.get h.size = some (.cells vs[k].x.cells 63 false false none) := g3
      have k3' : Kp h h3 := Keeps.trans (Keeps.psh (Nat.le_refl _) _) k3
      have kk := hkp.trans k3'
      unfold getR at he
      have hw : IntKind.i64.wrap ((k : Int) + 1) = ((k + 1 : Nat) : Int) := wrap_nat (n := k + 1) (by omega)
      have flx := fl vs[k].x
      have p0x := p0 vs[k].x
      have p2x := p2 vs[k].x
      have f2 := View.g2 vs[k].x
      have f3 := View.g3 vs[k].x
      have hls := leaders_len (vs.take k)
      rw [List.length_take] at hls
      have htk := leaders_take hke
      generalize hxc : vs[k].x.cells = xc at *
      simp only [View.zero, View.cells] at e3
      rw [u13_5]
      cases hi : isL vs[k] with
      | false =>
        rw [hi] at htk
        have hc : (vs[k].x.up = false) ∨ (vs[k].x.up = true ∧ vs[k].x.leads = false) := by
          have hi' : (vs[k].x.up && vs[k].x.leads) = false := hi
          clear hi htk f2 f3
          revert hi'
          cases vs[k].x.up <;> cases vs[k].x.leads <;> simp
        have ha' : Acc h3 h0.size 59 2 (ρ 3) ((leadersOf (vs.take (k + 1))).map Addr.cells) := by
          rw [htk]
          simpa using ha.keep k3'
        rcases hc with hu | ⟨hu, hu2⟩
        · rw [hu] at f2
          simp (maxSteps := 2000000) only [GO,GO2,evK,fillV,setR,binV,intOp,strOp,shOp,unV,getR,lenV,partV,V.nj,V.njL,V.cells,Nat.reduceLT,Nat.reduceEqDiff,Nat.reduceAdd,↓reduceIte,Nat.reduceLeDiff,reduceCtorEq,q7,q8,Int.ofNat_lt,hke,r13_1,r13_2,q6,hg,hll,he,Int.natCast_nonneg,Int.toNat_natCast,flx,p0x,e3,g3',f2,r13_4,hw]
          exact ih (k + 1) _ h3 (by omega) (by omega) (by rw [v1, List.length_map]; exact q6) q7 rfl ha' kk
        · rw [hu] at f2
          rw [hu2] at f3
          simp (maxSteps := 2000000) only [GO,GO2,evK,fillV,setR,binV,intOp,strOp,shOp,unV,getR,lenV,partV,V.nj,V.njL,V.cells,Nat.reduceLT,Nat.reduceEqDiff,Nat.reduceAdd,↓reduceIte,Nat.reduceLeDiff,reduceCtorEq,q7,q8,Int.ofNat_lt,hke,r13_1,r13_2,q6,hg,hll,he,Int.natCast_nonneg,Int.toNat_natCast,flx,p0x,e3,g3',f2,f3,r13_4,hw]
          exact ih (k + 1) _ h3 (by omega) (by omega) (by rw [v1, List.length_map]; exact q6) q7 rfl ha' kk
      | true =>
        rw [hi] at htk
        have hc : vs[k].x.up = true ∧ vs[k].x.leads = true := by
          unfold isL at hi
          simpa using hi
        rw [hc.1] at f2
        rw [hc.2] at f3
        have kp : Kp h3 (h3.psh (.cells vs[k].x.at_.cells 59 false false none)) := Keeps.psh (Nat.le_refl _) _
        have kk4 := kk.trans kp
        obtain ⟨v', h', e5, e6, e7⟩ := app_acc (x := .slice (some (h3.size, 0)) 1 1 false) (ys := [vs[k].x.at_.cells]) (bytes := 16) ((ha.keep k3').keep kp) kk4.size rfl (elems_psh rfl (by decide)) (by intro y hy; rw [List.mem_singleton.1 hy]; exact ⟨rfl, rfl⟩) (by rw [List.length_map, List.length_singleton]; omega)
        have hfill : ∀ z : Addr, z.cells ++ List.drop 2 [V.int .i64 0, V.int .i64 0] = z.cells := fun z => by simp
        have alen := Addr.len vs[k].x.at_
        have hfillk := hfill vs[k].x.at_
        simp (maxSteps := 2000000) only [GO,GO2,evK,fillV,setR,binV,intOp,strOp,shOp,unV,getR,lenV,partV,V.nj,V.njL,V.cells,Nat.reduceLT,Nat.reduceEqDiff,Nat.reduceAdd,↓reduceIte,Nat.reduceLeDiff,reduceCtorEq,q7,q8,Int.ofNat_lt,hke,r13_1,r13_2,q6,hg,hll,he,Int.natCast_nonneg,Int.toNat_natCast,flx,p0x,e3,g3',f2,f3,r13_3,p2x,alen,hfillk,e5,r13_4,hw]
        refine ih (k + 1) _ h' (by omega) (by omega) (by rw [v1, List.length_map]; exact q6) q7 rfl ?_ (Keeps.trans (n := h0.size) kk4 e7)
        rw [htk, if_pos rfl, List.map_append]
        exact e6
  refine Sp_fn F.f13 F.p13 (by simp [fn13]) ?_
  simp (maxSteps := 2000000) only [GO,GO2,evK,fillV,setR,binV,intOp,strOp,shOp,unV,getR,lenV,partV,V.nj,V.njL,V.cells,Nat.reduceLT,Nat.reduceEqDiff,Nat.reduceAdd,↓reduceIte,Nat.reduceLeDiff,reduceCtorEq,fn13,c13,r13_0,e1]
  exact loop _ 0 _ h0 rfl (Nat.zero_le _) e1.symm rfl rfl (Acc.nil h0 h0.size 59 2) (Keeps.refl _ _)
set_option maxHeartbeats 1000000 in
theorem leaders14 (F : Fa E) {v : V} {vs : List WV} {h0 : H} (hv : VsIn h0 v vs) : Sp P E (.func 14 [] []) [v] h0 fun r h' => Acc h' h0.size 59 2 r ((leadersOf vs).map Addr.cells) ∧ Kp h0 h' := by
  obtain ⟨a1, c1, o1, e1⟩ := hv.sl.len
  rw [List.length_map] at e1
  have hl := hv.len
  have loop : ∀ (d k : Nat) (ρ : Nat → V) (h : H), vs.length - k = d → k ≤ vs.length → ρ 0 = v → ρ 4 = .int .i64 k → Acc h h0.size 59 2 (ρ 3) ((leadersOf (vs.take k)).map Addr.cells) → Kp h0 h →
      XL P E none 32 b14_4 [.b 0, .c (.seq (.region r14_5) (.ret))] ρ h (Fin [.t 2] fun r h' => Acc h' h0.size 59 2 r ((leadersOf vs).map Addr.cells) ∧ Kp h0 h') := by
    intro d
    induction d with
    | zero =>
      intro k ρ h hd hk q0 q4 ha hkp
      have hke : ¬ k < vs.length := by omega
      rw [List.take_of_length_le (by omega)] at ha
      rw [u14_4]
      simp (maxSteps := 2000000) only [GO,GO2,evK,fillV,setR,binV,intOp,strOp,shOp,unV,getR,lenV,partV,V.nj,V.njL,V.cells,Nat.reduceLT,Nat.reduceEqDiff,Nat.reduceAdd,↓reduceIte,Nat.reduceLeDiff,reduceCtorEq,r14_0,q0,e1,q4,Int.ofNat_lt,hke,r14_5]
      exact ⟨ha, hkp⟩
    | succ d ih =>
      intro k ρ h hd hk q0 q4 ha hkp
      have hke : k < vs.length := by omega
      obtain ⟨b, o, cap, opn, cs, ty, op, ro, fz, v1, hg, hll, he⟩ := (hv.sl.keep hkp).get (k := k) (x := vs[k].x.cells) (by simp [hke])
      rw [v1, List.length_map] at q0
      have getc := cell_get he hll
      have f2 := getc 2 _ (by decide) (View.g2 vs[k].x)
      have f3 := getc 3 _ (by decide) (View.g3 vs[k].x)
      have p2x : List.take 2 (List.drop (o + k * 21) cs) = vs[k].x.at_.cells := by
        have := congrArg (List.take 2) he
        unfold getR at this
        rw [List.take_take] at this
        exact this
      have hw : IntKind.i64.wrap ((k : Int) + 1) = ((k + 1 : Nat) : Int) := wrap_nat (n := k + 1) (by omega)
      have hls := leaders_len (vs.take k)
      rw [List.length_take] at hls
      have htk := leaders_take hke
      have hlt2 : o + k * 21 + 2 ≤ cs.length := by omega
      rw [u14_4]
      cases hi : isL vs[k] with
      | false =>
        rw [hi] at htk
        have hc : (vs[k].x.up = false) ∨ (vs[k].x.up = true ∧ vs[k].x.leads = false) := by
          have hi' : (vs[k].x.up && vs[k].x.leads) = false := hi
          clear hi htk f2 f3
          revert hi'
          cases vs[k].x.up <;> cases vs[k].x.leads <;> simp
        have ha' : Acc h h0.size 59 2 (ρ 3) ((leadersOf (vs.take (k + 1))).map Addr.cells) := by
          rw [htk]
          simpa using ha
        rcases hc with hu | ⟨hu, hu2⟩
        · rw [hu] at f2
          simp (maxSteps := 2000000) only [GO,GO2,evK,fillV,setR,binV,intOp,strOp,shOp,unV,getR,lenV,partV,V.nj,V.njL,V.cells,Nat.reduceLT,Nat.reduceEqDiff,Nat.reduceAdd,↓reduceIte,Nat.reduceLeDiff,reduceCtorEq,r14_0,q0,q4,Int.ofNat_lt,hke,r14_1,hg,Int.natCast_nonneg,Int.toNat_natCast,f2,r14_3,hw]
          exact ih (k + 1) _ h (by omega) (by omega) (by rw [v1, List.length_map]; exact q0) rfl ha' hkp
        · rw [hu] at f2
          rw [hu2] at f3
          simp (maxSteps := 2000000) only [GO,GO2,evK,fillV,setR,binV,intOp,strOp,shOp,unV,getR,lenV,partV,V.nj,V.njL,V.cells,Nat.reduceLT,Nat.reduceEqDiff,Nat.reduceAdd,↓reduceIte,Nat.reduceLeDiff,reduceCtorEq,r14_0,q0,q4,Int.ofNat_lt,hke,r14_1,hg,Int.natCast_nonneg,Int.toNat_natCast,f2,f3,r14_3,hw]
          exact ih (k + 1) _ h (by omega) (by omega) (by rw [v1, List.length_map]; exact q0) rfl ha' hkp
      | true =>
        rw [hi] at htk
        have hc : vs[k].x.up = true ∧ vs[k].x.leads = true := by
          unfold isL at hi
          simpa using hi
        rw [hc.1] at f2
        rw [hc.2] at f3
        have kp : Kp h (h.psh (.cells vs[k].x.at_.cells 59 false false none)) := Keeps.psh (Nat.le_refl _) _
        have kk4 := hkp.trans kp
        obtain ⟨v', h', e5, e6, e7⟩ := app_acc (x := .slice (some (h.size, 0)) 1 1 false) (ys := [vs[k].x.at_.cells]) (bytes := 16) (ha.keep kp) kk4.size rfl (elems_psh rfl (by decide)) (by intro y hy; rw [List.mem_singleton.1 hy]; exact ⟨rfl, rfl⟩) (by rw [List.length_map, List.length_singleton]; omega)
        have hfill : ∀ z : Addr, z.cells ++ List.drop 2 [V.int .i64 0, V.int .i64 0] = z.cells := fun z => by simp
        have alen := Addr.len vs[k].x.at_
        have hfillk := hfill vs[k].x.at_
        simp (maxSteps := 2000000) only [GO,GO2,evK,fillV,setR,binV,intOp,strOp,shOp,unV,getR,lenV,partV,V.nj,V.njL,V.cells,Nat.reduceLT,Nat.reduceEqDiff,Nat.reduceAdd,↓reduceIte,Nat.reduceLeDiff,reduceCtorEq,r14_0,q0,q4,Int.ofNat_lt,hke,r14_1,hg,Int.natCast_nonneg,Int.toNat_natCast,f2,f3,r14_2,hlt2,p2x,alen,hfillk,e5,r14_3,hw]
        refine ih (k + 1) _ h' (by omega) (by omega) (by rw [v1, List.length_map]; exact q0) rfl ?_ (Keeps.trans (n := h0.size) kk4 e7)
        rw [htk, if_pos rfl, List.map_append]
        exact e6
  refine Sp_fn F.f14 F.p14 (by simp [fn14]) ?_
  simp (maxSteps := 2000000) only [GO,GO2,evK,fillV,setR,binV,intOp,strOp,shOp,unV,getR,lenV,partV,V.nj,V.njL,V.cells,Nat.reduceLT,Nat.reduceEqDiff,Nat.reduceAdd,↓reduceIte,Nat.reduceLeDiff,reduceCtorEq,fn14,c14]
  exact loop _ 0 _ h0 rfl (Nat.zero_le _) rfl rfl (Acc.nil h0 h0.size 59 2) (Keeps.refl _ _)
end Go.AM.Sc
/-! Whose vectors are equal: the program's answer. -/
namespace Go.AM.Sc
open Go.AM
variable {P : Program} {E : Env}
def IdxIs (r : V) (q : Prop) : Prop := ∃ j, r = .int .i64 j ∧ (0 ≤ j ↔ q)
theorem idx58 (F : Fa E) {v : V} {ms : List Int} {n : Int} {h : H} (hm : Sl h 1 v (ms.map fun n => [V.int .i64 n])) (hl : ms.length ≤ 1048576) :
    Sp P E (.func 58 [] []) [v, .int .i64 n] h fun r h' => IdxIs r (n ∈ ms) ∧ h' = h := by
  obtain ⟨a1, c1, o1, e1⟩ := hm.len
  rw [List.length_map] at e1
  have loop : ∀ (d k : Nat) (ρ : Nat → V), ms.length - k = d → k ≤ ms.length → ρ 0 = v → ρ 1 = .int .i64 n → ρ 7 = .int .i64 ms.length → ρ 8 = .int .i64 k → n ∉ ms.take k →
      XL P E none 19 b58_5 [.b 0, .c (.seq (.region [⟨some 4, .mv (.k (.int .i64 (-1))), none, 0, [4]⟩]) (.ret))] ρ h (Fin [.t 4] fun r h' => IdxIs r (n ∈ ms) ∧ h' = h) := by
    intro d
    induction d with
    | zero =>
      intro k ρ hd hk q0 q1 q7 q8 ht
      have hke : ¬ k < ms.length := by omega
      rw [List.take_of_length_le (by omega)] at ht
      rw [u58_5]
      simp (maxSteps := 2000000) only [GO,GO2,evK,fillV,setR,binV,intOp,strOp,shOp,unV,getR,lenV,partV,V.nj,V.njL,V.cells,Nat.reduceLT,Nat.reduceEqDiff,Nat.reduceAdd,↓reduceIte,Nat.reduceLeDiff,reduceCtorEq,q7,q8,Int.ofNat_lt,hke]
      exact ⟨-1, rfl, by simp [ht]⟩
    | succ d ih =>
      intro k ρ hd hk q0 q1 q7 q8 ht
      have hke : k < ms.length := by omega
      obtain ⟨b, o, cap, opn, vs, ty, op, ro, fz, v1, hg, hll, he⟩ := hm.get (k := k) (x := [.int .i64 ms[k]]) (by simp [hke])
      rw [v1, List.length_map] at q0
      have he := getR_one he
      rw [Nat.mul_one] at he
      have hw : IntKind.i64.wrap ((k : Int) + 1) = ((k + 1 : Nat) : Int) := wrap_nat (n := k + 1) (by omega)
      rw [u58_5]
      by_cases hn : n = ms[k]
      · have hb : (n == ms[k]) = true := by simp [hn]
        simp (maxSteps := 2000000) only [GO,GO2,evK,fillV,setR,binV,intOp,strOp,shOp,unV,getR,lenV,partV,V.nj,V.njL,V.cells,Nat.reduceLT,Nat.reduceEqDiff,Nat.reduceAdd,↓reduceIte,Nat.reduceLeDiff,reduceCtorEq,r58_1,r58_2,r58_3,q0,q1,q7,q8,hg,Int.ofNat_lt,hke,Int.natCast_nonneg,Int.toNat_natCast,Nat.mul_one,he,hb]
        refine ⟨_, rfl, ?_⟩
        exact ⟨fun _ => hn ▸ List.getElem_mem hke, fun _ => Int.natCast_nonneg _⟩
      · have hb : (n == ms[k]) = false := by simp [hn]
        simp (maxSteps := 2000000) only [GO,GO2,evK,fillV,setR,binV,intOp,strOp,shOp,unV,getR,lenV,partV,V.nj,V.njL,V.cells,Nat.reduceLT,Nat.reduceEqDiff,Nat.reduceAdd,↓reduceIte,Nat.reduceLeDiff,reduceCtorEq,r58_1,r58_2,q0,q1,q7,q8,hg,Int.ofNat_lt,hke,Int.natCast_nonneg,Int.toNat_natCast,Nat.mul_one,he,hb,r58_4,hw]
        refine ih (k + 1) _ (by omega) (by omega) (by rw [v1, List.length_map]; exact q0) q1 q7 rfl ?_
        rw [List.take_succ_eq_append_getElem hke]
        simp only [List.mem_append, List.mem_singleton, not_or]
        exact ⟨ht, hn⟩
  refine Sp_fn F.f58 F.p58 (by simp [fn58]) ?_
  simp (maxSteps := 2000000) only [GO,GO2,evK,fillV,setR,binV,intOp,strOp,shOp,unV,getR,lenV,partV,V.nj,V.njL,V.cells,Nat.reduceLT,Nat.reduceEqDiff,Nat.reduceAdd,↓reduceIte,Nat.reduceLeDiff,reduceCtorEq,fn58,c58,r58_0,e1]
  exact loop _ 0 _ rfl (Nat.zero_le _) e1.symm rfl rfl rfl (by simp)
theorem con35 (F : Fa E) {v : V} {ms : List Int} {n : Int} {h : H} (hm : Sl h 1 v (ms.map fun n => [V.int .i64 n])) (hl : ms.length ≤ 1048576) :
    Sp P E (.func 35 [] []) [v, .int .i64 n] h fun r h' => r = .bool (decide (n ∈ ms)) ∧ h' = h := by
  refine Sp_fn F.f35 F.p35 (by simp [fn35]) ?_
  simp (maxSteps := 2000000) only [GO,GO2,evK,fillV,setR,binV,intOp,strOp,shOp,unV,getR,lenV,partV,V.nj,V.njL,V.cells,Nat.reduceLT,Nat.reduceEqDiff,Nat.reduceAdd,↓reduceIte,Nat.reduceLeDiff,reduceCtorEq,fn35,c35,r35_0]
  refine XC_of (idx58 F hm hl) ?_
  rintro _ h1 ⟨⟨j, rfl, hj⟩, rfl⟩
  simp (maxSteps := 2000000) only [GO,GO2,evK,fillV,setR,binV,intOp,strOp,shOp,unV,getR,lenV,partV,V.nj,V.njL,V.cells,Nat.reduceLT,Nat.reduceEqDiff,Nat.reduceAdd,↓reduceIte,Nat.reduceLeDiff,reduceCtorEq]
  have : (j ≥ 0) = (n ∈ ms) := propext hj
  simp only [this]
theorem idx59 (F : Fa E) {f v : V} {vs : List WV} {p : WV → Bool} {h0 : H} (hv : Sl h0 21 v (vs.map fun w => w.x.cells)) (hl : vs.length ≤ 1048576)
    (hf : ∀ w ∈ vs, ∀ h, Kp h0 h → Sp P E f [.agg w.x.cells] h fun r h' => r = .bool (p w) ∧ Kp h h') :
    Sp P E (.func 59 [] []) [v, f] h0 fun r h' => IdxIs r (∃ w ∈ vs, p w = true) ∧ Kp h0 h' := by
  obtain ⟨a1, c1, o1, e1⟩ := hv.len
  rw [List.length_map] at e1
  have loop : ∀ (d k : Nat) (ρ : Nat → V) (h : H), vs.length - k = d → k ≤ vs.length → ρ 0 = v → ρ 1 = f → ρ 7 = .int .i64 vs.length → ρ 8 = .int .i64 k → (∀ w ∈ vs.take k, p w = false) → Kp h0 h →
      XL P E none 19 b59_5 [.b 0, .c (.seq (.region [⟨some 4, .mv (.k (.int .i64 (-1))), none, 0, [4]⟩]) (.ret))] ρ h (Fin [.t 4] fun r h' => IdxIs r (∃ w ∈ vs, p w = true) ∧ Kp h0 h') := by
    intro d
    induction d with
    | zero =>
      intro k ρ h hd hk q0 q1 q7 q8 ht hkp
      have hke : ¬ k < vs.length := by omega
      rw [List.take_of_length_le (by omega)] at ht
      rw [u59_5]
      simp (maxSteps := 2000000) only [GO,GO2,evK,fillV,setR,binV,intOp,strOp,shOp,unV,getR,lenV,partV,V.nj,V.njL,V.cells,Nat.reduceLT,Nat.reduceEqDiff,Nat.reduceAdd,↓reduceIte,Nat.reduceLeDiff,reduceCtorEq,q7,q8,Int.ofNat_lt,hke]
      refine ⟨⟨-1, rfl, ?_⟩, hkp⟩
      constructor
      · intro h; omega
      · rintro ⟨w, h1, h2⟩; rw [ht w h1] at h2; cases h2
    | succ d ih =>
      intro k ρ h hd hk q0 q1 q7 q8 ht hkp
      have hke : k < vs.length := by omega
      obtain ⟨b, o, cap, opn, cs, ty, op, ro, fz, v1, hg, hll, he⟩ := (hv.keep hkp).get (k := k) (x := vs[k].x.cells) (by simp [hke])
      rw [v1, List.length_map] at q0
      unfold getR at he
      have hw : IntKind.i64.wrap ((k : Int) + 1) = ((k + 1 : Nat) : Int) := wrap_nat (n := k + 1) (by omega)
      have sp := hf _ (List.getElem_mem hke) h hkp
      rw [u59_5]
      simp (maxSteps := 2000000) only [GO,GO2,evK,fillV,setR,binV,intOp,strOp,shOp,unV,getR,lenV,partV,V.nj,V.njL,V.cells,Nat.reduceLT,Nat.reduceEqDiff,Nat.reduceAdd,↓reduceIte,Nat.reduceLeDiff,reduceCtorEq,r59_1,r59_2,q0,q1,q7,q8,hg,Int.ofNat_lt,hke,Int.natCast_nonneg,Int.toNat_natCast,hll,he]
      refine XC_of sp ?_
      rintro _ h1 ⟨rfl, k1⟩
      cases hp : p vs[k] with
      | true =>
        simp (maxSteps := 2000000) only [GO,GO2,evK,fillV,setR,binV,intOp,strOp,shOp,unV,getR,lenV,partV,V.nj,V.njL,V.cells,Nat.reduceLT,Nat.reduceEqDiff,Nat.reduceAdd,↓reduceIte,Nat.reduceLeDiff,reduceCtorEq,r59_3,q8]
        refine ⟨⟨_, rfl, ?_⟩, hkp.trans k1⟩
        exact ⟨fun _ => ⟨_, List.getElem_mem hke, hp⟩, fun _ => Int.natCast_nonneg _⟩
      | false =>
        simp (maxSteps := 2000000) only [GO,GO2,evK,fillV,setR,binV,intOp,strOp,shOp,unV,getR,lenV,partV,V.nj,V.njL,V.cells,Nat.reduceLT,Nat.reduceEqDiff,Nat.reduceAdd,↓reduceIte,Nat.reduceLeDiff,reduceCtorEq,r59_4,q8,hw]
        refine ih (k + 1) _ h1 (by omega) (by omega) (by rw [v1, List.length_map]; exact q0) q1 q7 rfl ?_ (hkp.trans k1)
        rw [List.take_succ_eq_append_getElem hke]
        intro w hw
        rcases List.mem_append.1 hw with hw | hw
        · exact ht w hw
        · rw [List.mem_singleton.1 hw]; exact hp
  refine Sp_fn F.f59 F.p59 (by simp [fn59]) ?_
  simp (maxSteps := 2000000) only [GO,GO2,evK,fillV,setR,binV,intOp,strOp,shOp,unV,getR,lenV,partV,V.nj,V.njL,V.cells,Nat.reduceLT,Nat.reduceEqDiff,Nat.reduceAdd,↓reduceIte,Nat.reduceLeDiff,reduceCtorEq,fn59,c59,r59_0,e1]
  exact loop _ 0 _ h0 rfl (Nat.zero_le _) e1.symm rfl rfl rfl (by simp) (Keeps.refl _ _)
theorem con36 (F : Fa E) {f v : V} {vs : List WV} {p : WV → Bool} {h0 : H} (hv : Sl h0 21 v (vs.map fun w => w.x.cells)) (hl : vs.length ≤ 1048576)
    (hf : ∀ w ∈ vs, ∀ h, Kp h0 h → Sp P E f [.agg w.x.cells] h fun r h' => r = .bool (p w) ∧ Kp h h') :
    Sp P E (.func 36 [] []) [v, f] h0 fun r h' => r = .bool (vs.any p) ∧ Kp h0 h' := by
  refine Sp_fn F.f36 F.p36 (by simp [fn36]) ?_
  simp (maxSteps := 2000000) only [GO,GO2,evK,fillV,setR,binV,intOp,strOp,shOp,unV,getR,lenV,partV,V.nj,V.njL,V.cells,Nat.reduceLT,Nat.reduceEqDiff,Nat.reduceAdd,↓reduceIte,Nat.reduceLeDiff,reduceCtorEq,fn36,c36,r36_0]
  refine XC_of (idx59 F hv hl hf) ?_
  rintro _ h1 ⟨⟨j, rfl, hj⟩, k1⟩
  simp (maxSteps := 2000000) only [GO,GO2,evK,fillV,setR,binV,intOp,strOp,shOp,unV,getR,lenV,partV,V.nj,V.njL,V.cells,Nat.reduceLT,Nat.reduceEqDiff,Nat.reduceAdd,↓reduceIte,Nat.reduceLeDiff,reduceCtorEq]
  refine ⟨?_, k1⟩
  congr 1
  rw [Bool.eq_iff_iff, List.any_eq_true, decide_eq_true_iff]
  exact hj
theorem clo37 (F : Fa E) {B : Nat} {sv : V} {f : WV} {vs : List WV} {x : View} {h : H} (hB : h.get B = some (.cells [sv] 22 false false none)) (hv : Sl h 21 sv ((f :: vs).map fun w => w.x.cells)) :
    Sp P E (.func 37 [] [.ptr (some (B, 0))]) [.agg x.cells] h fun r h' => r = .bool (!decide (x.vector = f.x.vector)) ∧ Kp h h' := by
  have hk0 : Kp h (h.psh (.cells x.cells 63 false false none)) := Keeps.psh (Nat.le_refl _) _
  have gx := psh_same h (.cells x.cells 63 false false none)
  obtain ⟨b, o, cap, opn, cs, ty, op, ro, fz, v1, hg, hll, he⟩ := (hv.keep hk0).get (k := 0) (x := f.x.cells) (by simp)
  have gB := Kp.of hk0 hB
  have p11 : List.take 8 (List.drop 11 x.cells) = x.vector.cells := rfl
  have q11 : List.take 8 (List.drop (o + 0 * 21 + 11) cs) = f.x.vector.cells := by
    have := congrArg (fun l => List.take 8 (List.drop 11 l)) he
    unfold getR at this
    simp only [List.drop_take, List.drop_drop, List.take_take] at this
    exact this
  have heq := Vec.eqv (h.psh (.cells x.cells 63 false false none)) x.vector f.x.vector
  have c00 : (0 : Int) ≤ 0 := Int.le_refl _
  have t00 : Int.toNat 0 = 0 := rfl
  have hn : (0 : Int) < ((vs.length + 1 : Nat) : Int) := by omega
  have hlt : o + 0 * 21 + 11 + 8 ≤ cs.length := by omega
  refine Sp_fn F.f37 F.p37 (by simp [fn37]) ?_
  simp (maxSteps := 2000000) only [GO,GO2,evK,fillV,setR,binV,intOp,strOp,shOp,unV,getR,lenV,partV,V.nj,V.njL,V.cells,Nat.reduceLT,Nat.reduceEqDiff,Nat.reduceAdd,↓reduceIte,Nat.reduceLeDiff,reduceCtorEq,fn37,c37,r37_0]
  rw [X_draw, d37_1]
  rw [v1, List.length_map, List.length_cons] at gB
  cases hd : decide (x.vector = f.x.vector) with
  | true =>
    rw [hd] at heq
    simp (maxSteps := 2000000) only [GO,GO2,evK,fillV,setR,binV,intOp,strOp,shOp,unV,getR,lenV,partV,V.nj,V.njL,V.cells,Nat.reduceLT,Nat.reduceEqDiff,Nat.reduceAdd,↓reduceIte,Nat.reduceLeDiff,reduceCtorEq,r37_1,gx,View.len,p11,gB,hn,c00,t00,hg,hlt,q11,heq,Bool.not_true]
    exact hk0
  | false =>
    rw [hd] at heq
    simp (maxSteps := 2000000) only [GO,GO2,evK,fillV,setR,binV,intOp,strOp,shOp,unV,getR,lenV,partV,V.nj,V.njL,V.cells,Nat.reduceLT,Nat.reduceEqDiff,Nat.reduceAdd,↓reduceIte,Nat.reduceLeDiff,reduceCtorEq,r37_1,gx,View.len,p11,gB,hn,c00,t00,hg,hlt,q11,heq,Bool.not_false]
    exact hk0
end Go.AM.Sc
