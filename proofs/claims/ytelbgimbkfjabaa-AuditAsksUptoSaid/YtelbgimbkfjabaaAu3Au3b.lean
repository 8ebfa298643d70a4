/- My own texts of the evaluator, its soundness and its symbolic runs, laid for this claim. -/
import Derived.Test.YtelbgimbkfjabaaAu2
set_option linter.unusedSimpArgs false
set_option linter.unusedVariables false
/-! Lists of entries and of nodes, compared. -/
namespace Go.AM.Sc
open Go.AM
variable {P : Program} {E : Env}
theorem put_ex {h : H} {b o : Nat} {vs ws : List V} {ty : Nat} {op : Bool} (hg : h.get b = some (.cells vs ty op false none)) (hw : o + ws.length ≤ vs.length) (h1 : ws.all V.one = true) (hne : ws.isEmpty = false) :
    ∃ h', putCells h b o ws = some h' ∧ h'.get b = some (.cells (setR vs o ws) ty op false none) ∧ Keeps b h h' ∧ h'.size = h.size := by
  have hb := H.get_lt hg
  refine ⟨h.set b (.cells (setR vs o ws) ty op false none), ?_, hset_same hb _, Keeps.set hb (Nat.le_refl _) _, rfl⟩
  unfold putCells
  simp only [hne, Bool.false_eq_true, if_false, hg, hw, h1, fzFree, and_self, if_true]
theorem Str.shape {h : H} {v : V} {s : List UInt8} (a : Str h v s) : ∃ x n c o, v = .slice x n c o := by
  rcases a with ⟨c, o, e, _⟩ | ⟨p, n, c, o, cs, e, _⟩
  · exact ⟨_, _, _, _, e⟩
  · exact ⟨_, _, _, _, e⟩
theorem EIn.one {h : H} {x : Entry} {d : DEnt} (a : EIn h x d) : x.cells.all V.one = true := by
  obtain ⟨b, c, o, e1⟩ := a.ops.len
  obtain ⟨b', n', c', o', e2⟩ := a.dat.shape
  simp only [Entry.cells, List.all_cons, List.all_nil, V.one, e1, e2, Bool.and_self]
theorem EIn.nj {h : H} {x : Entry} {d : DEnt} (a : EIn h x d) : V.njL x.cells = true := by
  obtain ⟨b, c, o, e1⟩ := a.ops.len
  obtain ⟨b', n', c', o', e2⟩ := a.dat.shape
  simp only [Entry.cells, V.njL, V.nj, e1, e2, Bool.and_self]
theorem NIn.one {h : H} {x : TNode} {d : DNode} (a : NIn h x d) : x.cells.all V.one = true := by
  obtain ⟨b, c, o, e1⟩ := a.attrs.len
  simp only [TNode.cells, List.all_cons, List.all_nil, V.one, e1, Bool.and_self]
theorem NIn.nj {h : H} {x : TNode} {d : DNode} (a : NIn h x d) : V.njL x.cells = true := by
  obtain ⟨b, c, o, e1⟩ := a.attrs.len
  simp only [TNode.cells, V.njL, V.nj, e1, Bool.and_self]

set_option maxHeartbeats 1000000 in
theorem eql38 (F : Fa E) {v w : V} {xs ys : List (Entry × DEnt)} {h0 : H} (hx : Sl h0 56 v (xs.map fun p => p.1.cells)) (hxd : ∀ p ∈ xs, EIn h0 p.1 p.2) (hy : Sl h0 56 w (ys.map fun p => p.1.cells)) (hyd : ∀ p ∈ ys, EIn h0 p.1 p.2) (hl : xs.length ≤ 1048576) :
    Sp P E (.func 38 [] []) [v, w, .func 39 [] []] h0 fun r h' => r = .bool (decide (xs.map (·.2) = ys.map (·.2))) ∧ Kp h0 h' := by
  obtain ⟨a1, c1, o1, e1⟩ := hx.len
  obtain ⟨a2, c2, o2, e2⟩ := hy.len
  rw [List.length_map] at e1 e2
  refine Sp_fn F.f38 F.p38 (by simp [fn38]) ?_
  by_cases hlen : xs.length = ys.length
  · have loop : ∀ (d k : Nat) (ρ : Nat → V) (h : H), xs.length - k = d → k ≤ xs.length → ρ 1 = w → ρ 2 = .func 39 [] [] → ρ 15 = v → ρ 16 = .int .i64 xs.length → ρ 17 = .int .i64 k → (xs.map (·.2)).take k = (ys.map (·.2)).take k → Kp h0 h →
        XL P E none 32 b38_6 [.b 0, .c (.seq (.region [⟨some 6, .mv (.k (.bool true)), none, 0, [6]⟩]) (.ret))] ρ h (Fin [.t 6] fun r h' => r = .bool (decide (xs.map (·.2) = ys.map (·.2))) ∧ Kp h0 h') := by
      intro d
      induction d with
      | zero =>
        intro k ρ h hd hk q1 q2 q15 q16 q17 ht hkp
        have hke : ¬ k < xs.length := by omega
        rw [List.take_of_length_le (by rw [List.length_map]; omega), List.take_of_length_le (by rw [List.length_map]; omega)] at ht
        rw [u38_6]
        simp (maxSteps := 2000000) only [GO,GO2,evK,fillV,setR,binV,intOp,strOp,shOp,unV,getR,lenV,partV,V.nj,V.njL,V.cells,Nat.reduceLT,Nat.reduceEqDiff,Nat.reduceAdd,↓reduceIte,Nat.reduceLeDiff,reduceCtorEq,q16,q17,Int.ofNat_lt,hke]
        simp [ht, hkp]
      | succ d ih =>
        intro k ρ h hd hk q1 q2 q15 q16 q17 ht hkp
        have hke : k < xs.length := by omega
        have hky : k < ys.length := by omega
        obtain ⟨b, o, cap, opn, vs, ty, op, ro, fz, v1, hg, hll, he⟩ := (hx.keep hkp).get (k := k) (x := xs[k].1.cells) (by simp [hke])
        rw [v1, List.length_map] at q15
        have dx := (hxd _ (List.getElem_mem hke)).keep hkp
        have dy := (hyd _ (List.getElem_mem hky)).keep hkp
        have fl : ∀ z : Entry, z.cells.length = 56 := fun _ => rfl
        have p0 : ∀ z : Entry, List.take 56 z.cells = z.cells := fun _ => rfl
        obtain ⟨h3, e3, g3, k3, z3⟩ := put_ex (o := 0) (ws := xs[k].1.cells) (psh_same h (.cells [.int .i64 0, .int .i64 0, .int .i64 0, .int .i64 0, .int .i64 0, .int .i64 0, .int .i64 0, .int .i64 0, .str [], .str [], .str [], .int .i64 0, .int .i64 0, .slice none 0 0 false, .int .i64 0, .int .i64 0, .int .i64 0, .int .i64 0, .int .i64 0, .int .i64 0, .int .i64 0, .int .i64 0, .int .i64 0, .int .i64 0, .int .i64 0, .int .i64 0, .int .i64 0, .int .i64 0, .int .i64 0, .int .i64 0, .int .i64 0, .int .i64 0, .int .i64 0, .int .i64 0, .int .i64 0, .int .i64 0, .int .i64 0, .int .i64 0, .int .i64 0, .int .i64 0, .int .i64 0, .int .i64 0, .int .i64 0, .int .i64 0, .int .i64 0, .int .i64 0, .int .i64 0, .int .i64 0, .int .i64 0, .int .i64 0, .int .i64 0, .int .i64 0, .slice none 0 0 false, .int .i64 0, .int .i64 0, .int .i64 0] 49 false false none)) (by rw [fl]; decide) dx.one rfl
        have g3' : h3.get h.size = some (.cells xs[k].1.cells 49 false false none) := g3
        have k3' : Kp h h3 := Keeps.trans (Keeps.psh (Nat.le_refl _) _) k3
        obtain ⟨b', o', cap', opn', vs', ty', op', ro', fz', w1, hg', hll', he'⟩ := (hy.keep (hkp.trans k3')).get (k := k) (x := ys[k].1.cells) (by simp [hky])
        rw [w1, List.length_map] at q1
        obtain ⟨h4, e4, g4, k4, z4⟩ := put_ex (o := 0) (ws := ys[k].1.cells) (psh_same h3 (.cells [.int .i64 0, .int .i64 0, .int .i64 0, .int .i64 0, .int .i64 0, .int .i64 0, .int .i64 0, .int .i64 0, .str [], .str [], .str [], .int .i64 0, .int .i64 0, .slice none 0 0 false, .int .i64 0, .int .i64 0, .int .i64 0, .int .i64 0, .int .i64 0, .int .i64 0, .int .i64 0, .int .i64 0, .int .i64 0, .int .i64 0, .int .i64 0, .int .i64 0, .int .i64 0, .int .i64 0, .int .i64 0, .int .i64 0, .int .i64 0, .int .i64 0, .int .i64 0, .int .i64 0, .int .i64 0, .int .i64 0, .int .i64 0, .int .i64 0, .int .i64 0, .int .i64 0, .int .i64 0, .int .i64 0, .int .i64 0, .int .i64 0, .int .i64 0, .int .i64 0, .int .i64 0, .int .i64 0, .int .i64 0, .int .i64 0, .int .i64 0, .int .i64 0, .slice none 0 0 false, .int .i64 0, .int .i64 0, .int .i64 0] 49 false false none)) (by rw [fl]; decide) dy.one rfl
        have g4' : h4.get h3.size = some (.cells ys[k].1.cells 49 false false none) := g4
        have k4' : Kp h3 h4 := Keeps.trans (Keeps.psh (Nat.le_refl _) _) k4
        have g34 := Kp.of k4' g3'
        have kk := hkp.trans (k3'.trans k4')
        unfold getR at he he'
        have hw : IntKind.i64.wrap ((k : Int) + 1) = ((k + 1 : Nat) : Int) := wrap_nat (n := k + 1) (by omega)
        have flx := fl xs[k].1
        have fly := fl ys[k].1
        have p0x := p0 xs[k].1
        have p0y := p0 ys[k].1
        have sp := ent39 (P := P) F (dx.keep (k3'.trans k4')) (dy.keep (k3'.trans k4'))
        have hres : ∀ b, decide (xs[k].2 = ys[k].2) = b → b = false → xs.map (·.2) ≠ ys.map (·.2) := fun b hb hb2 e => by
          subst hb2
          have : (xs.map (·.2))[k]'(by simp [hke]) = (ys.map (·.2))[k]'(by simp [hky]) := by simp only [e]
          simp at this hb
          exact hb this
        generalize hxc : xs[k].1.cells = xc at *
        generalize hyc : ys[k].1.cells = yc at *
        rw [u38_6]
        simp (maxSteps := 2000000) only [GO,GO2,evK,fillV,setR,binV,intOp,strOp,shOp,unV,getR,lenV,partV,V.nj,V.njL,V.cells,Nat.reduceLT,Nat.reduceEqDiff,Nat.reduceAdd,↓reduceIte,Nat.reduceLeDiff,reduceCtorEq,q16,q17,Int.ofNat_lt,hke,hky,r38_2,r38_3,r38_4,q15,q1,q2,hg,hg',hll,hll',he,he',Int.natCast_nonneg,Int.toNat_natCast,flx,fly,p0x,p0y,e3,e4,g4',g34]
        refine XC_of sp ?_
        rintro _ h5 ⟨rfl, k5⟩
        by_cases hek : xs[k].2 = ys[k].2
        · have hd2 : decide (xs[k].2 = ys[k].2) = true := decide_eq_true hek
          simp (maxSteps := 2000000) only [GO,GO2,evK,fillV,setR,binV,intOp,strOp,shOp,unV,getR,lenV,partV,V.nj,V.njL,V.cells,Nat.reduceLT,Nat.reduceEqDiff,Nat.reduceAdd,↓reduceIte,Nat.reduceLeDiff,reduceCtorEq,hd2,Bool.not_true,r38_5,q17,hw]
          refine ih (k + 1) _ h5 (by omega) (by omega) ?_ q2 ?_ q16 rfl (take_succ (by simp [hke]) (by simp [hky]) ht (by simp [hek])) (kk.trans k5)
          · rw [w1, List.length_map]; exact q1
          · rw [v1, List.length_map]; exact q15
        · have hd2 : decide (xs[k].2 = ys[k].2) = false := decide_eq_false hek
          have hne := hres _ hd2 rfl
          simp (maxSteps := 2000000) only [GO,GO2,evK,fillV,setR,binV,intOp,strOp,shOp,unV,getR,lenV,partV,V.nj,V.njL,V.cells,Nat.reduceLT,Nat.reduceEqDiff,Nat.reduceAdd,↓reduceIte,Nat.reduceLeDiff,reduceCtorEq,hd2,Bool.not_false]
          refine ⟨?_, kk.trans k5⟩
          rw [decide_eq_false hne]
    have hd : decide (xs.length = ys.length) = true := decide_eq_true hlen
    simp (maxSteps := 2000000) only [GO,GO2,evK,fillV,setR,binV,intOp,strOp,shOp,unV,getR,lenV,partV,V.nj,V.njL,V.cells,Nat.reduceLT,Nat.reduceEqDiff,Nat.reduceAdd,↓reduceIte,Nat.reduceLeDiff,reduceCtorEq,fn38,c38,r38_0,r38_1,e1,e2,eqlens,hd,Bool.not_true]
    exact loop _ 0 _ h0 rfl (Nat.zero_le _) e2.symm rfl e1.symm rfl rfl rfl (Keeps.refl _ _)
  · have hne : xs.map (·.2) ≠ ys.map (·.2) := fun e => hlen (by have := congrArg List.length e; simpa using this)
    have hd : decide (xs.length = ys.length) = false := decide_eq_false hlen
    simp (maxSteps := 2000000) only [GO,GO2,evK,fillV,setR,binV,intOp,strOp,shOp,unV,getR,lenV,partV,V.nj,V.njL,V.cells,Nat.reduceLT,Nat.reduceEqDiff,Nat.reduceAdd,↓reduceIte,Nat.reduceLeDiff,reduceCtorEq,fn38,c38,r38_0,e1,e2,eqlens,hd,Bool.not_false]
    exact ⟨by rw [decide_eq_false hne], Keeps.refl _ _⟩

set_option maxHeartbeats 1000000 in
theorem eql41 (F : Fa E) {v w : V} {xs ys : List (Entry × DEnt)} {h0 : H} (hx : Sl h0 56 v (xs.map fun p => p.1.cells)) (hxd : ∀ p ∈ xs, EIn h0 p.1 p.2) (hy : Sl h0 56 w (ys.map fun p => p.1.cells)) (hyd : ∀ p ∈ ys, EIn h0 p.1 p.2) (hl : xs.length ≤ 1048576) :
    Sp P E (.func 41 [] []) [v, w] h0 fun r h' => r = .bool (decide (xs.map (·.2) = ys.map (·.2))) ∧ Kp h0 h' := by
  obtain ⟨a1, c1, o1, e1⟩ := hx.len
  obtain ⟨a2, c2, o2, e2⟩ := hy.len
  rw [List.length_map] at e1 e2
  refine Sp_fn F.f41 F.p41 (by simp [fn41]) ?_
  by_cases hlen : xs.length = ys.length
  · have loop : ∀ (d k : Nat) (ρ : Nat → V) (h : H), xs.length - k = d → k ≤ xs.length → ρ 0 = v → ρ 1 = w → ρ 5 = .int .i64 k → (xs.map (·.2)).take k = (ys.map (·.2)).take k → Kp h0 h →
        XL P E none 27 b41_4 [.b 0, .c (.seq (.region [⟨some 4, .mv (.k (.bool true)), none, 0, [4]⟩]) (.ret))] ρ h (Fin [.t 4] fun r h' => r = .bool (decide (xs.map (·.2) = ys.map (·.2))) ∧ Kp h0 h') := by
      intro d
      induction d with
      | zero =>
        intro k ρ h hd hk q0 q1 q5 ht hkp
        have hke : ¬ k < xs.length := by omega
        rw [List.take_of_length_le (by rw [List.length_map]; omega), List.take_of_length_le (by rw [List.length_map]; omega)] at ht
        rw [u41_4]
        simp (maxSteps := 2000000) only [GO,GO2,evK,fillV,setR,binV,intOp,strOp,shOp,unV,getR,lenV,partV,V.nj,V.njL,V.cells,Nat.reduceLT,Nat.reduceEqDiff,Nat.reduceAdd,↓reduceIte,Nat.reduceLeDiff,reduceCtorEq,r41_1,q0,e1,q5,Int.ofNat_lt,hke]
        simp [ht, hkp]
      | succ d ih =>
        intro k ρ h hd hk q0 q1 q5 ht hkp
        have hke : k < xs.length := by omega
        have hky : k < ys.length := by omega
        obtain ⟨b, o, cap, opn, vs, ty, op, ro, fz, v1, hg, hll, he⟩ := (hx.keep hkp).get (k := k) (x := xs[k].1.cells) (by simp [hke])
        obtain ⟨b', o', cap', opn', vs', ty', op', ro', fz', w1, hg', hll', he'⟩ := (hy.keep hkp).get (k := k) (x := ys[k].1.cells) (by simp [hky])
        rw [v1, List.length_map] at q0
        rw [w1, List.length_map] at q1
        have dx := (hxd _ (List.getElem_mem hke)).keep hkp
        have dy := (hyd _ (List.getElem_mem hky)).keep hkp
        unfold getR at he he'
        have hw : IntKind.i64.wrap ((k : Int) + 1) = ((k + 1 : Nat) : Int) := wrap_nat (n := k + 1) (by omega)
        have sp := ent11 (P := P) F dx dy
        have njx := dx.nj
        have njy := dy.nj
        have hres : ∀ b, decide (xs[k].2 = ys[k].2) = b → b = false → xs.map (·.2) ≠ ys.map (·.2) := fun b hb hb2 e => by
          subst hb2
          have : (xs.map (·.2))[k]'(by simp [hke]) = (ys.map (·.2))[k]'(by simp [hky]) := by simp only [e]
          simp at this hb
          exact hb this
        generalize hxc : xs[k].1.cells = xc at *
        generalize hyc : ys[k].1.cells = yc at *
        rw [u41_4]
        simp (maxSteps := 2000000) only [GO,GO2,evK,fillV,setR,binV,intOp,strOp,shOp,unV,getR,lenV,partV,V.nj,V.njL,V.cells,Nat.reduceLT,Nat.reduceEqDiff,Nat.reduceAdd,↓reduceIte,Nat.reduceLeDiff,reduceCtorEq,r41_1,q5,q0,Int.ofNat_lt,hke]
        rw [X_draw]
        refine d41_2 ?_
        simp (maxSteps := 2000000) only [GO,GO2,evK,fillV,setR,binV,intOp,strOp,shOp,unV,getR,lenV,partV,V.nj,V.njL,V.cells,Nat.reduceLT,Nat.reduceEqDiff,Nat.reduceAdd,↓reduceIte,Nat.reduceLeDiff,reduceCtorEq,q0,q1,Int.ofNat_lt,hke,hky,r41_2,q5,hg,hg',hll,hll',he,he',Int.natCast_nonneg,Int.toNat_natCast,njx,njy]
        refine XCD_of sp ?_
        rintro _ h5 ⟨rfl, k5⟩
        by_cases hek : xs[k].2 = ys[k].2
        · have hd2 : decide (xs[k].2 = ys[k].2) = true := decide_eq_true hek
          simp (maxSteps := 2000000) only [GO,GO2,evK,fillV,setR,binV,intOp,strOp,shOp,unV,getR,lenV,partV,V.nj,V.njL,V.cells,Nat.reduceLT,Nat.reduceEqDiff,Nat.reduceAdd,↓reduceIte,Nat.reduceLeDiff,reduceCtorEq,hd2,Bool.not_true,r41_3,q5,hw]
          refine ih (k + 1) _ h5 (by omega) (by omega) ?_ ?_ rfl (take_succ (by simp [hke]) (by simp [hky]) ht (by simp [hek])) (hkp.trans k5)
          · rw [v1, List.length_map]; exact q0
          · rw [w1, List.length_map]; exact q1
        · have hd2 : decide (xs[k].2 = ys[k].2) = false := decide_eq_false hek
          have hne := hres _ hd2 rfl
          simp (maxSteps := 2000000) only [GO,GO2,evK,fillV,setR,binV,intOp,strOp,shOp,unV,getR,lenV,partV,V.nj,V.njL,V.cells,Nat.reduceLT,Nat.reduceEqDiff,Nat.reduceAdd,↓reduceIte,Nat.reduceLeDiff,reduceCtorEq,hd2,Bool.not_false]
          refine ⟨?_, hkp.trans k5⟩
          rw [decide_eq_false hne]
    have hd : decide (xs.length = ys.length) = true := decide_eq_true hlen
    simp (maxSteps := 2000000) only [GO,GO2,evK,fillV,setR,binV,intOp,strOp,shOp,unV,getR,lenV,partV,V.nj,V.njL,V.cells,Nat.reduceLT,Nat.reduceEqDiff,Nat.reduceAdd,↓reduceIte,Nat.reduceLeDiff,reduceCtorEq,fn41,c41,r41_0,e1,e2,eqlens,hd,Bool.not_true]
    exact loop _ 0 _ h0 rfl (Nat.zero_le _) e1.symm e2.symm rfl rfl (Keeps.refl _ _)
  · have hne : xs.map (·.2) ≠ ys.map (·.2) := fun e => hlen (by have := congrArg List.length e; simpa using this)
    have hd : decide (xs.length = ys.length) = false := decide_eq_false hlen
    simp (maxSteps := 2000000) only [GO,GO2,evK,fillV,setR,binV,intOp,strOp,shOp,unV,getR,lenV,partV,V.nj,V.njL,V.cells,Nat.reduceLT,Nat.reduceEqDiff,Nat.reduceAdd,↓reduceIte,Nat.reduceLeDiff,reduceCtorEq,fn41,c41,r41_0,e1,e2,eqlens,hd,Bool.not_false]
    exact ⟨by rw [decide_eq_false hne], Keeps.refl _ _⟩

theorem dnode_iff {h : H} {x y : TNode} {d d' : DNode} (hx : NIn h x d) (hy : NIn h y d') : d = d' ↔ x.node = y.node ∧ x.parent = y.parent ∧ x.name = y.name ∧ d.attrs = d'.attrs := by
  rw [hx.node, hx.parent, hx.name, hy.node, hy.parent, hy.name]
  cases d; cases d'
  simp only [DNode.mk.injEq]
def a69_0 : List O := [⟨some 5,.fadr 0 (.t 2),none,0,[5,2]⟩,⟨some 6,.load1 (.t 5),none,1,[6,5]⟩,⟨some 7,.fadr 0 (.t 3),none,0,[7,3]⟩,⟨some 8,.load1 (.t 7),none,4,[8,7]⟩,⟨some 9,.bin .eql (some .int) false (.t 6) (.t 8),none,15,[9,6,8]⟩,⟨some 10,.mv (.t 9),none,31,[10,9]⟩]
def a69_1 : List O := [⟨some 11,.fadr 1 (.t 2),some (10,true),63,[11,10,2]⟩,⟨some 12,.load1 (.t 11),some (10,true),127,[12,10,11]⟩,⟨some 13,.fadr 1 (.t 3),some (10,true),63,[13,10,3]⟩,⟨some 14,.load1 (.t 13),some (10,true),319,[14,10,13]⟩,⟨some 15,.bin .eql (some .int) false (.t 12) (.t 14),some (10,true),1023,[15,10,12,14]⟩,⟨some 16,.pick (.t 10) (.t 15) (.k (.bool false)),none,2047,[16,10,15]⟩,⟨some 17,.mv (.t 16),none,4095,[17,16]⟩]
def a69_2 : List O := [⟨some 18,.fadr 2 (.t 2),some (17,true),8191,[18,17,2]⟩,⟨some 19,.load1 (.t 18),some (17,true),16383,[19,17,18]⟩,⟨some 20,.fadr 2 (.t 3),some (17,true),8191,[20,17,3]⟩,⟨some 21,.load1 (.t 20),some (17,true),40959,[21,17,20]⟩,⟨some 22,.bin .eql (some .str) false (.t 19) (.t 21),some (17,true),131071,[22,17,19,21]⟩,⟨some 23,.pick (.t 17) (.t 22) (.k (.bool false)),none,262143,[23,17,22]⟩,⟨some 24,.mv (.t 23),none,524287,[24,23]⟩]
def a69_3 : List O := [⟨some 25,.fadr 3 (.t 2),some (24,true),1048575,[25,24,2]⟩,⟨some 26,.load1 (.t 25),some (24,true),2097151,[26,24,25]⟩,⟨some 27,.fadr 3 (.t 3),some (24,true),1048575,[27,24,3]⟩,⟨some 28,.load1 (.t 27),some (24,true),5242879,[28,24,27]⟩,⟨some 29,.call (.k (.func 70 [] [])) [(.t 26),(.t 28)],some (24,true),16777215,[29,24,26,28]⟩,⟨some 30,.pick (.t 24) (.t 29) (.k (.bool false)),none,33554431,[30,24,29]⟩,⟨some 4,.mv (.t 30),none,67108863,[4,30]⟩]
set_option maxRecDepth 100000 in
theorem e69_all : r69_1 = a69_0 ++ (a69_1 ++ (a69_2 ++ (a69_3))) := rfl
theorem s69_0 {P : Program} {E : Env} {K : List Fr} {Q : Po} {x y : TNode} {ρ : Nat → V} {h : H} {bx bz : Nat} {rest : List O} (hx : h.get bx = some (.cells x.cells 67 false false none)) (hy : h.get bz = some (.cells y.cells 67 false false none)) (h2 : ρ 2 = .ptr (some (bx, 0))) (h3 : ρ 3 = .ptr (some (bz, 0))) (hk : ∀ (ρ' : Nat → V), ρ' 2 = .ptr (some (bx, 0)) → ρ' 3 = .ptr (some (bz, 0)) → ρ' 10 = .bool (decide (x.node = y.node)) → XO P E none 31 rest K ρ' h Q) : XO P E none 31 (a69_0 ++ rest) K ρ h Q := by
  simp (maxSteps := 2000000) only [GO,GO2,evK,fillV,setR,binV,intOp,strOp,shOp,unV,getR,lenV,partV,V.nj,V.njL,V.cells,Nat.reduceLT,Nat.reduceEqDiff,Nat.reduceAdd,↓reduceIte,Nat.reduceLeDiff,reduceCtorEq,a69_0,h2,h3,hx,hy,TNode.len,TNode.g0]
  exact hk _ h2 h3 (by first | rfl | (simp; done) | exact congrArg V.bool (beq_dec _ _))
theorem s69_1 {P : Program} {E : Env} {K : List Fr} {Q : Po} {x y : TNode} {ρ : Nat → V} {h : H} {bx bz : Nat} {rest : List O} {b : Bool} (hx : h.get bx = some (.cells x.cells 67 false false none)) (hy : h.get bz = some (.cells y.cells 67 false false none)) (h2 : ρ 2 = .ptr (some (bx, 0))) (h3 : ρ 3 = .ptr (some (bz, 0))) (hg : ρ 10 = .bool b) (hk : ∀ (ρ' : Nat → V), ρ' 2 = .ptr (some (bx, 0)) → ρ' 3 = .ptr (some (bz, 0)) → ρ' 17 = .bool (b && decide (x.parent = y.parent)) → XO P E none 31 rest K ρ' h Q) : XO P E none 31 (a69_1 ++ rest) K ρ h Q := by
  cases b with
  | false =>
    simp (maxSteps := 2000000) only [GO,GO2,evK,fillV,setR,binV,intOp,strOp,shOp,unV,getR,lenV,partV,V.nj,V.njL,V.cells,Nat.reduceLT,Nat.reduceEqDiff,Nat.reduceAdd,↓reduceIte,Nat.reduceLeDiff,reduceCtorEq,a69_1,hg]
    exact hk _ h2 h3 rfl
  | true =>
    simp (maxSteps := 2000000) only [GO,GO2,evK,fillV,setR,binV,intOp,strOp,shOp,unV,getR,lenV,partV,V.nj,V.njL,V.cells,Nat.reduceLT,Nat.reduceEqDiff,Nat.reduceAdd,↓reduceIte,Nat.reduceLeDiff,reduceCtorEq,a69_1,hg,h2,h3,hx,hy,TNode.len,TNode.g1]
    exact hk _ h2 h3 (by first | rfl | (simp; done) | exact congrArg V.bool (beq_dec _ _))
theorem s69_2 {P : Program} {E : Env} {K : List Fr} {Q : Po} {x y : TNode} {ρ : Nat → V} {h : H} {bx bz : Nat} {rest : List O} {b : Bool} (hx : h.get bx = some (.cells x.cells 67 false false none)) (hy : h.get bz = some (.cells y.cells 67 false false none)) (h2 : ρ 2 = .ptr (some (bx, 0))) (h3 : ρ 3 = .ptr (some (bz, 0))) (hg : ρ 17 = .bool b) (hk : ∀ (ρ' : Nat → V), ρ' 2 = .ptr (some (bx, 0)) → ρ' 3 = .ptr (some (bz, 0)) → ρ' 24 = .bool (b && decide (x.name = y.name)) → XO P E none 31 rest K ρ' h Q) : XO P E none 31 (a69_2 ++ rest) K ρ h Q := by
  cases b with
  | false =>
    simp (maxSteps := 2000000) only [GO,GO2,evK,fillV,setR,binV,intOp,strOp,shOp,unV,getR,lenV,partV,V.nj,V.njL,V.cells,Nat.reduceLT,Nat.reduceEqDiff,Nat.reduceAdd,↓reduceIte,Nat.reduceLeDiff,reduceCtorEq,a69_2,hg]
    exact hk _ h2 h3 rfl
  | true =>
    simp (maxSteps := 2000000) only [GO,GO2,evK,fillV,setR,binV,intOp,strOp,shOp,unV,getR,lenV,partV,V.nj,V.njL,V.cells,Nat.reduceLT,Nat.reduceEqDiff,Nat.reduceAdd,↓reduceIte,Nat.reduceLeDiff,reduceCtorEq,a69_2,hg,h2,h3,hx,hy,TNode.len,TNode.g2]
    exact hk _ h2 h3 (by first | rfl | (simp; done) | exact congrArg V.bool (beq_dec _ _))
theorem s69_3 {P : Program} {E : Env} {K : List Fr} {Q : Po} {x y : TNode} {ρ : Nat → V} {h : H} {bx bz : Nat} {rest : List O} {b : Bool} (hx : h.get bx = some (.cells x.cells 67 false false none)) (hy : h.get bz = some (.cells y.cells 67 false false none)) (h2 : ρ 2 = .ptr (some (bx, 0))) (h3 : ρ 3 = .ptr (some (bz, 0))) (hg : ρ 24 = .bool b) {c : Bool} (hc : Sp P E (.func 70 [] []) [x.attrs, y.attrs] h fun v h' => v = .bool c ∧ Kp h h') (hk : ∀ (ρ' : Nat → V) (h' : H), Kp h h' → ρ' 2 = .ptr (some (bx, 0)) → ρ' 3 = .ptr (some (bz, 0)) → ρ' 4 = .bool (b && c) → XO P E none 31 rest K ρ' h' Q) : XO P E none 31 (a69_3 ++ rest) K ρ h Q := by
  cases b with
  | false =>
    simp (maxSteps := 2000000) only [GO,GO2,evK,fillV,setR,binV,intOp,strOp,shOp,unV,getR,lenV,partV,V.nj,V.njL,V.cells,Nat.reduceLT,Nat.reduceEqDiff,Nat.reduceAdd,↓reduceIte,Nat.reduceLeDiff,reduceCtorEq,a69_3,hg]
    exact hk _ _ (Keeps.refl _ _) h2 h3 rfl
  | true =>
    simp (maxSteps := 2000000) only [GO,GO2,evK,fillV,setR,binV,intOp,strOp,shOp,unV,getR,lenV,partV,V.nj,V.njL,V.cells,Nat.reduceLT,Nat.reduceEqDiff,Nat.reduceAdd,↓reduceIte,Nat.reduceLeDiff,reduceCtorEq,a69_3,hg,h2,h3,hx,hy,TNode.len,TNode.g3]
    refine XC_of hc ?_
    rintro _ h' ⟨rfl, k⟩
    simp (maxSteps := 2000000) only [GO,GO2,evK,fillV,setR,binV,intOp,strOp,shOp,unV,getR,lenV,partV,V.nj,V.njL,V.cells,Nat.reduceLT,Nat.reduceEqDiff,Nat.reduceAdd,↓reduceIte,Nat.reduceLeDiff,reduceCtorEq,hg]
    exact hk _ _ k h2 h3 rfl
set_option maxRecDepth 100000 in
theorem node69 (F : Fa E) {x y : TNode} {h : H} {d d' : DNode} (hx : NIn h x d) (hy : NIn h y d') :
    Sp P E (.func 69 [] []) [.agg x.cells, .agg y.cells] h fun r h' => r = .bool (decide (d = d')) ∧ Kp h h' := by
  have hg0 := psh_same h (.cells x.cells 67 false false none)
  have hk0 : Kp h (h.psh (.cells x.cells 67 false false none)) := Keeps.psh (Nat.le_refl _) _
  have hk1 : Kp (h.psh (.cells x.cells 67 false false none)) ((h.psh (.cells x.cells 67 false false none)).psh (.cells y.cells 67 false false none)) := Keeps.psh (Nat.le_refl _) _
  have gy := psh_same (h.psh (.cells x.cells 67 false false none)) (.cells y.cells 67 false false none)
  have gx := Kp.of hk1 hg0
  have kk := Kp.trans hk0 hk1
  refine Sp_fn F.f69 F.p69 (by simp [fn69]) ?_
  simp (maxSteps := 2000000) only [GO,GO2,evK,fillV,setR,binV,intOp,strOp,shOp,unV,getR,lenV,partV,V.nj,V.njL,V.cells,Nat.reduceLT,Nat.reduceEqDiff,Nat.reduceAdd,↓reduceIte,Nat.reduceLeDiff,reduceCtorEq,fn69,c69,r69_0,e69_all]
  generalize (h.psh (.cells x.cells 67 false false none)).psh (.cells y.cells 67 false false none) = h2 at *
  generalize (h.psh (.cells x.cells 67 false false none)).size = B at *
  refine s69_0 gx gy rfl rfl fun ρ p q r => ?_
  refine s69_1 gx gy p q r fun ρ p q r => ?_
  refine s69_2 gx gy p q r fun ρ p q r => ?_
  rw [← List.append_nil a69_3]
  refine s69_3 gx gy p q r (Sp.kp (eq70 F (hx.attrs.keep kk) (hy.attrs.keep kk) hx.len)) fun ρ h3 k p q r => ?_
  have gx := Kp.of k gx
  have gy := Kp.of k gy
  have kk := Kp.trans kk k
  simp (maxSteps := 2000000) only [GO,GO2,evK,fillV,setR,binV,intOp,strOp,shOp,unV,getR,lenV,partV,V.nj,V.njL,V.cells,Nat.reduceLT,Nat.reduceEqDiff,Nat.reduceAdd,↓reduceIte,Nat.reduceLeDiff,reduceCtorEq,r]
  refine ⟨?_, kk⟩
  congr 1
  rw [Bool.eq_iff_iff]
  refine Iff.trans ?_ decide_eq_true_iff.symm
  simp only [Bool.and_eq_true, decide_eq_true_eq, beq_iff_eq]
  rw [dnode_iff hx hy]
  simp only [and_assoc]

set_option maxHeartbeats 1000000 in
theorem eql68 (F : Fa E) {v w : V} {xs ys : List (TNode × DNode)} {h0 : H} (hx : Sl h0 4 v (xs.map fun p => p.1.cells)) (hxd : ∀ p ∈ xs, NIn h0 p.1 p.2) (hy : Sl h0 4 w (ys.map fun p => p.1.cells)) (hyd : ∀ p ∈ ys, NIn h0 p.1 p.2) (hl : xs.length ≤ 1048576) :
    Sp P E (.func 68 [] []) [v, w, .func 69 [] []] h0 fun r h' => r = .bool (decide (xs.map (·.2) = ys.map (·.2))) ∧ Kp h0 h' := by
  obtain ⟨a1, c1, o1, e1⟩ := hx.len
  obtain ⟨a2, c2, o2, e2⟩ := hy.len
  rw [List.length_map] at e1 e2
  refine Sp_fn F.f68 F.p68 (by simp [fn68]) ?_
  by_cases hlen : xs.length = ys.length
  · have loop : ∀ (d k : Nat) (ρ : Nat → V) (h : H), xs.length - k = d → k ≤ xs.length → ρ 1 = w → ρ 2 = .func 69 [] [] → ρ 15 = v → ρ 16 = .int .i64 xs.length → ρ 17 = .int .i64 k → (xs.map (·.2)).take k = (ys.map (·.2)).take k → Kp h0 h →
        XL P E none 32 b68_6 [.b 0, .c (.seq (.region [⟨some 6, .mv (.k (.bool true)), none, 0, [6]⟩]) (.ret))] ρ h (Fin [.t 6] fun r h' => r = .bool (decide (xs.map (·.2) = ys.map (·.2))) ∧ Kp h0 h') := by
      intro d
      induction d with
      | zero =>
        intro k ρ h hd hk q1 q2 q15 q16 q17 ht hkp
        have hke : ¬ k < xs.length := by omega
        rw [List.take_of_length_le (by rw [List.length_map]; omega), List.take_of_length_le (by rw [List.length_map]; omega)] at ht
        rw [u68_6]
        simp (maxSteps := 2000000) only [GO,GO2,evK,fillV,setR,binV,intOp,strOp,shOp,unV,getR,lenV,partV,V.nj,V.njL,V.cells,Nat.reduceLT,Nat.reduceEqDiff,Nat.reduceAdd,↓reduceIte,Nat.reduceLeDiff,reduceCtorEq,q16,q17,Int.ofNat_lt,hke]
        simp [ht, hkp]
      | succ d ih =>
        intro k ρ h hd hk q1 q2 q15 q16 q17 ht hkp
        have hke : k < xs.length := by omega
        have hky : k < ys.length := by omega
        obtain ⟨b, o, cap, opn, vs, ty, op, ro, fz, v1, hg, hll, he⟩ := (hx.keep hkp).get (k := k) (x := xs[k].1.cells) (by simp [hke])
        rw [v1, List.length_map] at q15
        have dx := (hxd _ (List.getElem_mem hke)).keep hkp
        have dy := (hyd _ (List.getElem_mem hky)).keep hkp
        have fl : ∀ z : TNode, z.cells.length = 4 := fun _ => rfl
        have p0 : ∀ z : TNode, List.take 4 z.cells = z.cells := fun _ => rfl
        obtain ⟨h3, e3, g3, k3, z3⟩ := put_ex (o := 0) (ws := xs[k].1.cells) (psh_same h (.cells [.int .i64 0, .int .i64 0, .str [], .slice none 0 0 false] 67 false false none)) (by rw [fl]; decide) dx.one rfl
        have g3' : h3.get h.size = some (.cells xs[k].1.cells 67 false false none) := g3
        have k3' : Kp h h3 := Keeps.trans (Keeps.psh (Nat.le_refl _) _) k3
        obtain ⟨b', o', cap', opn', vs', ty', op', ro', fz', w1, hg', hll', he'⟩ := (hy.keep (hkp.trans k3')).get (k := k) (x := ys[k].1.cells) (by simp [hky])
        rw [w1, List.length_map] at q1
        obtain ⟨h4, e4, g4, k4, z4⟩ := put_ex (o := 0) (ws := ys[k].1.cells) (psh_same h3 (.cells [.int .i64 0, .int .i64 0, .str [], .slice none 0 0 false] 67 false false none)) (by rw [fl]; decide) dy.one rfl
        have g4' : h4.get h3.size = some (.cells ys[k].1.cells 67 false false none) := g4
        have k4' : Kp h3 h4 := Keeps.trans (Keeps.psh (Nat.le_refl _) _) k4
        have g34 := Kp.of k4' g3'
        have kk := hkp.trans (k3'.trans k4')
        unfold getR at he he'
        have hw : IntKind.i64.wrap ((k : Int) + 1) = ((k + 1 : Nat) : Int) := wrap_nat (n := k + 1) (by omega)
        have flx := fl xs[k].1
        have fly := fl ys[k].1
        have p0x := p0 xs[k].1
        have p0y := p0 ys[k].1
        have sp := node69 (P := P) F (dx.keep (k3'.trans k4')) (dy.keep (k3'.trans k4'))
        have hres : ∀ b, decide (xs[k].2 = ys[k].2) = b → b = false → xs.map (·.2) ≠ ys.map (·.2) := fun b hb hb2 e => by
          subst hb2
          have : (xs.map (·.2))[k]'(by simp [hke]) = (ys.map (·.2))[k]'(by simp [hky]) := by simp only [e]
          simp at this hb
          exact hb this
        generalize hxc : xs[k].1.cells = xc at *
        generalize hyc : ys[k].1.cells = yc at *
        rw [u68_6]
        simp (maxSteps := 2000000) only [GO,GO2,evK,fillV,setR,binV,intOp,strOp,shOp,unV,getR,lenV,partV,V.nj,V.njL,V.cells,Nat.reduceLT,Nat.reduceEqDiff,Nat.reduceAdd,↓reduceIte,Nat.reduceLeDiff,reduceCtorEq,q16,q17,Int.ofNat_lt,hke,hky,r68_2,r68_3,r68_4,q15,q1,q2,hg,hg',hll,hll',he,he',Int.natCast_nonneg,Int.toNat_natCast,flx,fly,p0x,p0y,e3,e4,g4',g34]
        refine XC_of sp ?_
        rintro _ h5 ⟨rfl, k5⟩
        by_cases hek : xs[k].2 = ys[k].2
        · have hd2 : decide (xs[k].2 = ys[k].2) = true := decide_eq_true hek
          simp (maxSteps := 2000000) only [GO,GO2,evK,fillV,setR,binV,intOp,strOp,shOp,unV,getR,lenV,partV,V.nj,V.njL,V.cells,Nat.reduceLT,Nat.reduceEqDiff,Nat.reduceAdd,↓reduceIte,Nat.reduceLeDiff,reduceCtorEq,hd2,Bool.not_true,r68_5,q17,hw]
          refine ih (k + 1) _ h5 (by omega) (by omega) ?_ q2 ?_ q16 rfl (take_succ (by simp [hke]) (by simp [hky]) ht (by simp [hek])) (kk.trans k5)
          · rw [w1, List.length_map]; exact q1
          · rw [v1, List.length_map]; exact q15
        · have hd2 : decide (xs[k].2 = ys[k].2) = false := decide_eq_false hek
          have hne := hres _ hd2 rfl
          simp (maxSteps := 2000000) only [GO,GO2,evK,fillV,setR,binV,intOp,strOp,shOp,unV,getR,lenV,partV,V.nj,V.njL,V.cells,Nat.reduceLT,Nat.reduceEqDiff,Nat.reduceAdd,↓reduceIte,Nat.reduceLeDiff,reduceCtorEq,hd2,Bool.not_false]
          refine ⟨?_, kk.trans k5⟩
          rw [decide_eq_false hne]
    have hd : decide (xs.length = ys.length) = true := decide_eq_true hlen
    simp (maxSteps := 2000000) only [GO,GO2,evK,fillV,setR,binV,intOp,strOp,shOp,unV,getR,lenV,partV,V.nj,V.njL,V.cells,Nat.reduceLT,Nat.reduceEqDiff,Nat.reduceAdd,↓reduceIte,Nat.reduceLeDiff,reduceCtorEq,fn68,c68,r68_0,r68_1,e1,e2,eqlens,hd,Bool.not_true]
    exact loop _ 0 _ h0 rfl (Nat.zero_le _) e2.symm rfl e1.symm rfl rfl rfl (Keeps.refl _ _)
  · have hne : xs.map (·.2) ≠ ys.map (·.2) := fun e => hlen (by have := congrArg List.length e; simpa using this)
    have hd : decide (xs.length = ys.length) = false := decide_eq_false hlen
    simp (maxSteps := 2000000) only [GO,GO2,evK,fillV,setR,binV,intOp,strOp,shOp,unV,getR,lenV,partV,V.nj,V.njL,V.cells,Nat.reduceLT,Nat.reduceEqDiff,Nat.reduceAdd,↓reduceIte,Nat.reduceLeDiff,reduceCtorEq,fn68,c68,r68_0,e1,e2,eqlens,hd,Bool.not_false]
    exact ⟨by rw [decide_eq_false hne], Keeps.refl _ _⟩

theorem nodes62 (F : Fa E) {v w : V} {xs ys : List (TNode × DNode)} {h0 : H} (hx : Sl h0 4 v (xs.map fun p => p.1.cells)) (hxd : ∀ p ∈ xs, NIn h0 p.1 p.2) (hy : Sl h0 4 w (ys.map fun p => p.1.cells)) (hyd : ∀ p ∈ ys, NIn h0 p.1 p.2) (hl : xs.length ≤ 1048576) :
    Sp P E (.func 62 [] []) [v, w] h0 fun r h' => r = .bool (decide (xs.map (·.2) = ys.map (·.2))) ∧ Kp h0 h' := by
  refine Sp_fn F.f62 F.p62 (by simp [fn62]) ?_
  simp (maxSteps := 2000000) only [GO,GO2,evK,fillV,setR,binV,intOp,strOp,shOp,unV,getR,lenV,partV,V.nj,V.njL,V.cells,Nat.reduceLT,Nat.reduceEqDiff,Nat.reduceAdd,↓reduceIte,Nat.reduceLeDiff,reduceCtorEq,fn62,c62,r62_0]
  refine XC_of (eql68 F hx hxd hy hyd hl) ?_
  rintro _ h1 ⟨rfl, k1⟩
  simp (maxSteps := 2000000) only [GO,GO2,evK,fillV,setR,binV,intOp,strOp,shOp,unV,getR,lenV,partV,V.nj,V.njL,V.cells,Nat.reduceLT,Nat.reduceEqDiff,Nat.reduceAdd,↓reduceIte,Nat.reduceLeDiff,reduceCtorEq]
  exact k1
end Go.AM.Sc
/-! The reference's comparison of nodes. -/
namespace Go.AM.Sc
open Go.AM
variable {P : Program} {E : Env}
set_option maxHeartbeats 1000000 in
theorem node43 (F : Fa E) {x y : TNode} {h : H} {d d' : DNode} (hx : NIn h x d) (hy : NIn h y d') :
    Sp P E (.func 43 [] []) [.agg x.cells, .agg y.cells] h fun r h' => r = .bool (decide (d = d')) ∧ Kp h h' := by
  have hg0 := psh_same h (.cells x.cells 67 false false none)
  have hk0 : Kp h (h.psh (.cells x.cells 67 false false none)) := Keeps.psh (Nat.le_refl _) _
  have hk1 : Kp (h.psh (.cells x.cells 67 false false none)) ((h.psh (.cells x.cells 67 false false none)).psh (.cells y.cells 67 false false none)) := Keeps.psh (Nat.le_refl _) _
  have gy := psh_same (h.psh (.cells x.cells 67 false false none)) (.cells y.cells 67 false false none)
  have gx := Kp.of hk1 hg0
  have kk := Kp.trans hk0 hk1
  refine Sp_fn F.f43 F.p43 (by simp [fn43]) ?_
  simp (maxSteps := 2000000) only [GO,GO2,evK,fillV,setR,binV,intOp,strOp,shOp,unV,getR,lenV,partV,V.nj,V.njL,V.cells,Nat.reduceLT,Nat.reduceEqDiff,Nat.reduceAdd,↓reduceIte,Nat.reduceLeDiff,reduceCtorEq,fn43,c43,r43_0]
  generalize (h.psh (.cells x.cells 67 false false none)).psh (.cells y.cells 67 false false none) = h2 at *
  generalize (h.psh (.cells x.cells 67 false false none)).size = B at *
  have sx := hx.attrs.keep kk
  have sy := hy.attrs.keep kk
  obtain ⟨a1, c1, o1, e1⟩ := sx.len
  obtain ⟨a2, c2, o2, e2⟩ := sy.len
  rw [List.length_map] at e1 e2
  have hl := hx.len
  have iff := dnode_iff hx hy
  by_cases n1 : x.node = y.node
  case neg =>
    have m1 : (x.node != y.node) = true := by simp [n1]
    simp (maxSteps := 2000000) only [GO,GO2,evK,fillV,setR,binV,intOp,strOp,shOp,unV,getR,lenV,partV,V.nj,V.njL,V.cells,Nat.reduceLT,Nat.reduceEqDiff,Nat.reduceAdd,↓reduceIte,Nat.reduceLeDiff,reduceCtorEq,r43_1,gx,gy,TNode.len,TNode.g0,TNode.g1,TNode.g2,TNode.g3,m1]
    exact ⟨by rw [decide_eq_false (fun e => n1 (iff.1 e).1)], kk⟩
  have m1 : (x.node != y.node) = false := by simp [n1]
  by_cases n2 : x.parent = y.parent
  case neg =>
    have m2 : (x.parent != y.parent) = true := by simp [n2]
    simp (maxSteps := 2000000) only [GO,GO2,evK,fillV,setR,binV,intOp,strOp,shOp,unV,getR,lenV,partV,V.nj,V.njL,V.cells,Nat.reduceLT,Nat.reduceEqDiff,Nat.reduceAdd,↓reduceIte,Nat.reduceLeDiff,reduceCtorEq,r43_1,gx,gy,TNode.len,TNode.g0,TNode.g1,TNode.g2,TNode.g3,m1,m2]
    exact ⟨by rw [decide_eq_false (fun e => n2 (iff.1 e).2.1)], kk⟩
  have m2 : (x.parent != y.parent) = false := by simp [n2]
  by_cases n3 : x.name = y.name
  case neg =>
    have m3 : (x.name != y.name) = true := by simp [n3]
    have m3' : (x.name == y.name) = false := by simp [n3]
    simp (maxSteps := 2000000) only [GO,GO2,evK,fillV,setR,binV,intOp,strOp,shOp,unV,getR,lenV,partV,V.nj,V.njL,V.cells,Nat.reduceLT,Nat.reduceEqDiff,Nat.reduceAdd,↓reduceIte,Nat.reduceLeDiff,reduceCtorEq,r43_1,gx,gy,TNode.len,TNode.g0,TNode.g1,TNode.g2,TNode.g3,m1,m2,m3,m3',Bool.not_false]
    exact ⟨by rw [decide_eq_false (fun e => n3 (iff.1 e).2.2.1)], kk⟩
  have m3 : (x.name != y.name) = false := by simp [n3]
  have m3' : (x.name == y.name) = true := by simp [n3]
  by_cases hlen : d.attrs.length = d'.attrs.length
  case neg =>
    have hd : decide (d.attrs.length = d'.attrs.length) = false := decide_eq_false hlen
    simp (maxSteps := 2000000) only [GO,GO2,evK,fillV,setR,binV,intOp,strOp,shOp,unV,getR,lenV,partV,V.nj,V.njL,V.cells,Nat.reduceLT,Nat.reduceEqDiff,Nat.reduceAdd,↓reduceIte,Nat.reduceLeDiff,reduceCtorEq,r43_1,gx,gy,TNode.len,TNode.g0,TNode.g1,TNode.g2,TNode.g3,m1,m2,m3,m3',Bool.not_true,e1,e2,eqlens,hd,Bool.not_false]
    exact ⟨by rw [decide_eq_false (fun e => hlen (by rw [e]))], kk⟩
  have hd : decide (d.attrs.length = d'.attrs.length) = true := decide_eq_true hlen
  have loop : ∀ (n k : Nat) (ρ : Nat → V), d.attrs.length - k = n → k ≤ d.attrs.length → ρ 2 = .ptr (some (h.size, 0)) → ρ 3 = .ptr (some (B, 0)) → ρ 5 = .int .i64 k → d.attrs.take k = d'.attrs.take k →
      XL P E none 52 b43_5 [.b 0, .c (.seq (.region [⟨some 4, .mv (.k (.bool true)), none, 0, [4]⟩]) (.ret))] ρ h2 (Fin [.t 4] fun r h' => r = .bool (decide (d = d')) ∧ Kp h h') := by
    intro n
    induction n with
    | zero =>
      intro k ρ hn hk q2 q3 q5 ht
      have hke : ¬ k < d.attrs.length := by omega
      rw [List.take_of_length_le (by omega), List.take_of_length_le (by omega)] at ht
      rw [u43_5]
      simp (maxSteps := 2000000) only [GO,GO2,evK,fillV,setR,binV,intOp,strOp,shOp,unV,getR,lenV,partV,V.nj,V.njL,V.cells,Nat.reduceLT,Nat.reduceEqDiff,Nat.reduceAdd,↓reduceIte,Nat.reduceLeDiff,reduceCtorEq,r43_2,q2,q5,gx,TNode.len,TNode.g3,e1,Int.ofNat_lt,hke]
      exact ⟨by rw [decide_eq_true (iff.2 ⟨n1, n2, n3, ht⟩)], kk⟩
    | succ n ih =>
      intro k ρ hn hk q2 q3 q5 ht
      have hke : k < d.attrs.length := by omega
      have hky : k < d'.attrs.length := by omega
      obtain ⟨b, o, cap, opn, vs, ty, op, ro, fz, v1, hg, hll, he⟩ := sx.get (k := k) (x := d.attrs[k].cells) (by simp [hke])
      obtain ⟨b', o', cap', opn', vs', ty', op', ro', fz', w1, hg', hll', he'⟩ := sy.get (k := k) (x := d'.attrs[k].cells) (by simp [hky])
      rw [List.length_map] at v1 w1
      unfold getR at he he'
      have hw : IntKind.i64.wrap ((k : Int) + 1) = ((k + 1 : Nat) : Int) := wrap_nat (n := k + 1) (by omega)
      have heq := Attr.eqv h2 d.attrs[k] d'.attrs[k]
      by_cases hek : d.attrs[k] = d'.attrs[k]
      · rw [decide_eq_true hek] at heq
        rw [u43_5]
        simp (maxSteps := 2000000) only [GO,GO2,evK,fillV,setR,binV,intOp,strOp,shOp,unV,getR,lenV,partV,V.nj,V.njL,V.cells,Nat.reduceLT,Nat.reduceEqDiff,Nat.reduceAdd,↓reduceIte,Nat.reduceLeDiff,reduceCtorEq,r43_2,q2,q5,gx,TNode.len,TNode.g3,v1,Int.ofNat_lt,hke]
        rw [X_draw, d43_3]
        simp (maxSteps := 2000000) only [GO,GO2,evK,fillV,setR,binV,intOp,strOp,shOp,unV,getR,lenV,partV,V.nj,V.njL,V.cells,Nat.reduceLT,Nat.reduceEqDiff,Nat.reduceAdd,↓reduceIte,Nat.reduceLeDiff,reduceCtorEq,r43_3,q2,q3,gx,gy,TNode.len,TNode.g3,v1,w1,q5,Int.ofNat_lt,hke,hky,hg,hg',hll,hll',he,he',Int.natCast_nonneg,Int.toNat_natCast,heq,Bool.not_true,r43_4,hw]
        exact ih (k + 1) _ (by omega) (by omega) q2 q3 rfl (take_succ hke hky ht hek)
      · rw [decide_eq_false hek] at heq
        rw [u43_5]
        simp (maxSteps := 2000000) only [GO,GO2,evK,fillV,setR,binV,intOp,strOp,shOp,unV,getR,lenV,partV,V.nj,V.njL,V.cells,Nat.reduceLT,Nat.reduceEqDiff,Nat.reduceAdd,↓reduceIte,Nat.reduceLeDiff,reduceCtorEq,r43_2,q2,q5,gx,TNode.len,TNode.g3,v1,Int.ofNat_lt,hke]
        rw [X_draw, d43_3]
        simp (maxSteps := 2000000) only [GO,GO2,evK,fillV,setR,binV,intOp,strOp,shOp,unV,getR,lenV,partV,V.nj,V.njL,V.cells,Nat.reduceLT,Nat.reduceEqDiff,Nat.reduceAdd,↓reduceIte,Nat.reduceLeDiff,reduceCtorEq,r43_3,q2,q3,gx,gy,TNode.len,TNode.g3,v1,w1,q5,Int.ofNat_lt,hke,hky,hg,hg',hll,hll',he,he',Int.natCast_nonneg,Int.toNat_natCast,heq,Bool.not_false]
        exact ⟨by rw [decide_eq_false (fun e => by subst e; exact hek rfl)], kk⟩
  simp (maxSteps := 2000000) only [GO,GO2,evK,fillV,setR,binV,intOp,strOp,shOp,unV,getR,lenV,partV,V.nj,V.njL,V.cells,Nat.reduceLT,Nat.reduceEqDiff,Nat.reduceAdd,↓reduceIte,Nat.reduceLeDiff,reduceCtorEq,r43_1,gx,gy,TNode.len,TNode.g0,TNode.g1,TNode.g2,TNode.g3,m1,m2,m3,m3',Bool.not_true,e1,e2,eqlens,hd]
  exact loop _ 0 _ rfl (Nat.zero_le _) rfl rfl rfl rfl

set_option maxHeartbeats 1000000 in
theorem eql22 (F : Fa E) {v w : V} {xs ys : List (TNode × DNode)} {h0 : H} (hx : Sl h0 4 v (xs.map fun p => p.1.cells)) (hxd : ∀ p ∈ xs, NIn h0 p.1 p.2) (hy : Sl h0 4 w (ys.map fun p => p.1.cells)) (hyd : ∀ p ∈ ys, NIn h0 p.1 p.2) (hl : xs.length ≤ 1048576) :
    Sp P E (.func 22 [] []) [v, w] h0 fun r h' => r = .bool (decide (xs.map (·.2) = ys.map (·.2))) ∧ Kp h0 h' := by
  obtain ⟨a1, c1, o1, e1⟩ := hx.len
  obtain ⟨a2, c2, o2, e2⟩ := hy.len
  rw [List.length_map] at e1 e2
  refine Sp_fn F.f22 F.p22 (by simp [fn22]) ?_
  by_cases hlen : xs.length = ys.length
  · have loop : ∀ (d k : Nat) (ρ : Nat → V) (h : H), xs.length - k = d → k ≤ xs.length → ρ 0 = v → ρ 1 = w → ρ 5 = .int .i64 k → (xs.map (·.2)).take k = (ys.map (·.2)).take k → Kp h0 h →
        XL P E none 27 b22_4 [.b 0, .c (.seq (.region [⟨some 4, .mv (.k (.bool true)), none, 0, [4]⟩]) (.ret))] ρ h (Fin [.t 4] fun r h' => r = .bool (decide (xs.map (·.2) = ys.map (·.2))) ∧ Kp h0 h') := by
      intro d
      induction d with
      | zero =>
        intro k ρ h hd hk q0 q1 q5 ht hkp
        have hke : ¬ k < xs.length := by omega
        rw [List.take_of_length_le (by rw [List.length_map]; omega), List.take_of_length_le (by rw [List.length_map]; omega)] at ht
        rw [u22_4]
        simp (maxSteps := 2000000) only [GO,GO2,evK,fillV,setR,binV,intOp,strOp,shOp,unV,getR,lenV,partV,V.nj,V.njL,V.cells,Nat.reduceLT,Nat.reduceEqDiff,Nat.reduceAdd,↓reduceIte,Nat.reduceLeDiff,reduceCtorEq,r22_1,q0,e1,q5,Int.ofNat_lt,hke]
        simp [ht, hkp]
      | succ d ih =>
        intro k ρ h hd hk q0 q1 q5 ht hkp
        have hke : k < xs.length := by omega
        have hky : k < ys.length := by omega
        obtain ⟨b, o, cap, opn, vs, ty, op, ro, fz, v1, hg, hll, he⟩ := (hx.keep hkp).get (k := k) (x := xs[k].1.cells) (by simp [hke])
        obtain ⟨b', o', cap', opn', vs', ty', op', ro', fz', w1, hg', hll', he'⟩ := (hy.keep hkp).get (k := k) (x := ys[k].1.cells) (by simp [hky])
        rw [v1, List.length_map] at q0
        rw [w1, List.length_map] at q1
        have dx := (hxd _ (List.getElem_mem hke)).keep hkp
        have dy := (hyd _ (List.getElem_mem hky)).keep hkp
        unfold getR at he he'
        have hw : IntKind.i64.wrap ((k : Int) + 1) = ((k + 1 : Nat) : Int) := wrap_nat (n := k + 1) (by omega)
        have sp := node43 (P := P) F dx dy
        have njx := dx.nj
        have njy := dy.nj
        have hres : ∀ b, decide (xs[k].2 = ys[k].2) = b → b = false → xs.map (·.2) ≠ ys.map (·.2) := fun b hb hb2 e => by
          subst hb2
          have : (xs.map (·.2))[k]'(by simp [hke]) = (ys.map (·.2))[k]'(by simp [hky]) := by simp only [e]
          simp at this hb
          exact hb this
        generalize hxc : xs[k].1.cells = xc at *
        generalize hyc : ys[k].1.cells = yc at *
        rw [u22_4]
        simp (maxSteps := 2000000) only [GO,GO2,evK,fillV,setR,binV,intOp,strOp,shOp,unV,getR,lenV,partV,V.nj,V.njL,V.cells,Nat.reduceLT,Nat.reduceEqDiff,Nat.reduceAdd,↓reduceIte,Nat.reduceLeDiff,reduceCtorEq,r22_1,q5,q0,Int.ofNat_lt,hke]
        rw [X_draw]
        refine d22_2 ?_
        simp (maxSteps := 2000000) only [GO,GO2,evK,fillV,setR,binV,intOp,strOp,shOp,unV,getR,lenV,partV,V.nj,V.njL,V.cells,Nat.reduceLT,Nat.reduceEqDiff,Nat.reduceAdd,↓reduceIte,Nat.reduceLeDiff,reduceCtorEq,q0,q1,Int.ofNat_lt,hke,hky,r22_2,q5,hg,hg',hll,hll',he,he',Int.natCast_nonneg,Int.toNat_natCast,njx,njy]
        refine XCD_of sp ?_
        rintro _ h5 ⟨rfl, k5⟩
        by_cases hek : xs[k].2 = ys[k].2
        · have hd2 : decide (xs[k].2 = ys[k].2) = true := decide_eq_true hek
          simp (maxSteps := 2000000) only [GO,GO2,evK,fillV,setR,binV,intOp,strOp,shOp,unV,getR,lenV,partV,V.nj,V.njL,V.cells,Nat.reduceLT,Nat.reduceEqDiff,Nat.reduceAdd,↓reduceIte,Nat.reduceLeDiff,reduceCtorEq,hd2,Bool.not_true,r22_3,q5,hw]
          refine ih (k + 1) _ h5 (by omega) (by omega) ?_ ?_ rfl (take_succ (by simp [hke]) (by simp [hky]) ht (by simp [hek])) (hkp.trans k5)
          · rw [v1, List.length_map]; exact q0
          · rw [w1, List.length_map]; exact q1
        · have hd2 : decide (xs[k].2 = ys[k].2) = false := decide_eq_false hek
          have hne := hres _ hd2 rfl
          simp (maxSteps := 2000000) only [GO,GO2,evK,fillV,setR,binV,intOp,strOp,shOp,unV,getR,lenV,partV,V.nj,V.njL,V.cells,Nat.reduceLT,Nat.reduceEqDiff,Nat.reduceAdd,↓reduceIte,Nat.reduceLeDiff,reduceCtorEq,hd2,Bool.not_false]
          refine ⟨?_, hkp.trans k5⟩
          rw [decide_eq_false hne]
    have hd : decide (xs.length = ys.length) = true := decide_eq_true hlen
    simp (maxSteps := 2000000) only [GO,GO2,evK,fillV,setR,binV,intOp,strOp,shOp,unV,getR,lenV,partV,V.nj,V.njL,V.cells,Nat.reduceLT,Nat.reduceEqDiff,Nat.reduceAdd,↓reduceIte,Nat.reduceLeDiff,reduceCtorEq,fn22,c22,r22_0,e1,e2,eqlens,hd,Bool.not_true]
    exact loop _ 0 _ h0 rfl (Nat.zero_le _) e1.symm e2.symm rfl rfl (Keeps.refl _ _)
  · have hne : xs.map (·.2) ≠ ys.map (·.2) := fun e => hlen (by have := congrArg List.length e; simpa using this)
    have hd : decide (xs.length = ys.length) = false := decide_eq_false hlen
    simp (maxSteps := 2000000) only [GO,GO2,evK,fillV,setR,binV,intOp,strOp,shOp,unV,getR,lenV,partV,V.nj,V.njL,V.cells,Nat.reduceLT,Nat.reduceEqDiff,Nat.reduceAdd,↓reduceIte,Nat.reduceLeDiff,reduceCtorEq,fn22,c22,r22_0,e1,e2,eqlens,hd,Bool.not_false]
    exact ⟨by rw [decide_eq_false hne], Keeps.refl _ _⟩
end Go.AM.Sc
