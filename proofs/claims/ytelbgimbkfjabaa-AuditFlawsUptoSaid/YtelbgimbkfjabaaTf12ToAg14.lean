/- My own texts, laid for this claim. -/
import Derived.Test.YtelbgimbkfjabaaAg6ToAg12
set_option linter.unusedSimpArgs false
set_option linter.unusedVariables false
namespace Go.AM.Sc
open Go.AM
variable {P : Program} {E : Env}
theorem Sl.uniq {h : H} {sz : Nat} {v : V} {xs ys : List (List V)} (a : Sl h sz v xs) (b : Sl h sz v ys) : xs = ys := by
 obtain ⟨p1,c1,o1,e1⟩ := a.len
 obtain ⟨p2,c2,o2,e2⟩ := b.len
 have hl : xs.length = ys.length := by
  rw [e1] at e2; injection e2
 refine List.ext_getElem hl fun i h1 h2 => ?_
 obtain ⟨b1,q1,c1',o1',vs,ty,op,ro,fz,w1,g1,_,r1⟩ := a.get (k := i) (x := xs[i]) (by simp [h1])
 obtain ⟨b2,q2,c2',o2',vs2,ty2,op2,ro2,fz2,w2,g2,_,r2⟩ := b.get (k := i) (x := ys[i]) (by simp [h2])
 have hvv := w1.symm.trans w2
 rw [← hl] at hvv
 cases hvv
 rw [g1] at g2; cases g2
 exact r1.symm.trans r2
theorem attr_inj : ∀ {xs ys : List Attr},xs.map Attr.cells = ys.map Attr.cells → xs = ys
 | [],[],_ => rfl
 | [],y :: ys,h => by cases h
 | x :: xs,[],h => by cases h
 | x :: xs,y :: ys,h => by
  simp only [List.map_cons,List.cons.injEq] at h
  have h1 : x = y := by
   cases x; cases y
   have := h.1
   simp only [Attr.cells,List.cons.injEq,V.str.injEq,and_true] at this
   obtain ⟨rfl,rfl⟩ := this; rfl
  rw [h1,attr_inj h.2]
theorem tnode_inj {x y : TNode} (h : x.cells = y.cells) : x = y := by
 cases x; cases y
 simp only [TNode.cells,List.cons.injEq,V.int.injEq,V.str.injEq,true_and,and_true] at h
 obtain ⟨h1,h2,h3,h4⟩ := h
 simp only [h1,h2,h3,h4]
theorem NIn.uniq {h : H} {x : TNode} {d e : DNode} (a : NIn h x d) (b : NIn h x e) : d = e := by
 have h1 := attr_inj (Sl.uniq a.attrs b.attrs)
 have := a.node; have := b.node; have := a.parent; have := b.parent; have := a.name; have := b.name
 cases d; cases e
 simp_all
theorem nodes_uniq {h : H} : ∀ {xs ys : List (TNode × DNode)},xs.map (fun p => p.1.cells) = ys.map (fun p => p.1.cells) → (∀ p ∈ xs,NIn h p.1 p.2) → (∀ p ∈ ys,NIn h p.1 p.2) → xs.map (·.2) = ys.map (·.2)
 | [],[],_,_,_ => rfl
 | [],y :: ys,h,_,_ => by cases h
 | x :: xs,[],h,_,_ => by cases h
 | x :: xs,y :: ys,he,hx,hy => by
  simp only [List.map_cons,List.cons.injEq] at he ⊢
  have h1 := tnode_inj he.1
  have a := hx x (by simp)
  have b := hy y (by simp)
  rw [h1] at a
  exact ⟨NIn.uniq a b,nodes_uniq he.2 (fun p hp => hx p (by simp [hp])) (fun p hp => hy p (by simp [hp]))⟩
def NodesIn (h : H) (lv : V) (ns : List (TNode × DNode)) : Prop := Sl h 4 lv (ns.map fun p => p.1.cells) ∧ (∀ p ∈ ns,NIn h p.1 p.2) ∧ ns.length ≤ 1048576
open Classical in
noncomputable def fromG : List V → H → Option (V × H) := fun args h => match args with
 | [lv] => if he : ∃ ns,NodesIn h lv ns then some (.tup [.junk,.int .i64 (codeT (he.choose.map (·.2)))],h) else none
 | _ => none
theorem fromG_eq {h : H} {lv : V} {ns : List (TNode × DNode)} (hn : NodesIn h lv ns) : fromG [lv] h = some (.tup [.junk,.int .i64 (codeT (ns.map (·.2)))],h) := by
 unfold fromG
 have he : ∃ ns,NodesIn h lv ns := ⟨ns,hn⟩
 simp only [dif_pos he]
 have hs := he.choose_spec
 rw [nodes_uniq (Sl.uniq hs.1 hn.1) hs.2.1 hn.2.1]
theorem fromE_of {E : Env} (hp : E.prim 67 = some fromG) : FromE P E := by
 intro h lv ns hs hi hl
 exact ⟨_,_,by rw [AP_prim hp]; exact fromG_eq ⟨hs,hi,hl⟩,rfl,rfl⟩
theorem from_ok (hmix : P.follows .mixedOrders = true) {prim : Nat → Option (List V → H → Option (V × H))} (hp : PrimOK P prim) (F : Ft (envOf P prim)) {fn : Func} (hg : P.funcs[67]? = some fn) (hc : cFn P fn = some fn67) {args : List V} {h h' : H} {v : V} {m : Mp} {w : World} {xs : List Value} (he : fromG args h = some (v,h')) (hr : HR P m h w) (hx : VRL m args xs) (n : Nat) :
  CallsIn (FF none) n P 67 xs.toArray w (Post P m h w v h') := by
 unfold fromG at he
 split at he
 ·rename_i lv
  split at he
  ·rename_i hex
   cases he
   obtain ⟨h1,h2,h3⟩ := hex.choose_spec
   refine nsp_prim hmix hp hg hc (NSp.mono (from67 F h1 h2 h3) ?_) hr hx n
   rintro v h' ⟨⟨p,rfl,hp2⟩,k⟩
   refine ⟨k,fun m m' x hx => ?_⟩
   obtain ⟨ys,k1,rfl⟩ := hx
   obtain ⟨y1,ys1,z1,⟨y2,ys2,z2,z3,rfl⟩,rfl⟩ := k1
   cases z2; cases z3
   have hj : VR m' .junk y1 := by
    rcases hp2 with rfl | ⟨i,rfl⟩
    ·cases z1; exact ⟨rfl,(by intro b e; cases e),(by intro e; cases e)⟩
    ·obtain ⟨r,sh,e,_,rfl⟩ := z1; exact ⟨rfl,(by intro b e; cases e),(by intro e; cases e)⟩
   exact ⟨_,⟨_,_,hj,⟨_,_,rfl,rfl,rfl⟩,rfl⟩,rfl⟩
  ·cases he
 ·cases he
end Go.AM.Sc
namespace Go.AM.Sc
open Go.AM
variable {P : Program} {E : Env}
variable {lo : Nat} {al : List Flaw} {bs bw bo br : Nat} {wv ov : V} {stop : Int}
set_option maxHeartbeats 1000000 in
theorem range3 (F : Ff E) {h : H} {b7 bn : Nat} {ρ : Nat → V} {rd : Nat} {K : List Fr} {Q : Po} (hm : al.length ≤ 1099511627775) (w3 : ρ 3 = .ptr (some (bs,0))) (w5 : ρ 5 = .ptr (some (bw,0))) (w7 : ρ 7 = .ptr (some (b7,0))) (w8 : ρ 8 = .ptr (some (bn,0))) (w19 : ρ 19 = .func 26 [] [.ptr (some (bo,0))])
  (c : C3 lo h al bs bw bo br wv ov stop) (g7 : h.get b7 = some (.cells [.int .i64 rd] 3 false false none)) (gn : h.get bn = some (.cells [.int .i64 0] 3 false false none)) (h7 : bn ≠ b7) (hbs : bn ≠ bs)
  (cont : ∀ (h' : H) (n : Int),C3 lo h' al bs bw bo br wv ov stop → h'.get b7 = some (.cells [.int .i64 rd] 3 false false none) → h'.get bn = some (.cells [.int .i64 n] 3 false false none) → (n = al.length ∨ (rd = 0 ∧ n = stop)) → X P E none 56 K ρ h' Q) :
  X P E none 56 (.c (.range (.t 19) [20] a3_7 b3_11) :: .b 2 :: K) ρ h Q := by
 have nol : ∀ (st : LoopState) (pe : Option C) (T : List V) (as bd : C) vs ty op ro fz,Obj.loop st pe T [20] as bd ≠ .cells vs ty op ro fz := by intro _ _ _ _ _ _ _ _ _ _ e; cases e
 have kL : Kp h (h.psh (.loop .ready none (toL 56 ρ) [20] a3_7 b3_11)) := Keeps.psh (Nat.le_refl _) _
 have glL := psh_same h (.loop .ready none (toL 56 ρ) [20] a3_7 b3_11)
 refine X_range (by rw [ev_t (by decide)]; exact congrArg some w19) rfl ?_
 refine Sp.mono (flaws26 F (l := h.size) (bo := bo) (lo := lo) (ov := ov) (all := al) hm
  (Inv := fun r h' => ∃ k : Nat,k ≤ al.length ∧ al.drop k = r ∧ C3 lo h' al bs bw bo br wv ov stop ∧ R3 h' h.size b7 bn (.loop .ready none (toL 56 ρ) [20] a3_7 b3_11) rd k)
  (Stp := fun h' => rd = 0 ∧ C3 lo h' al bs bw bo br wv ov stop ∧ ∃ T as bd,R3 h' h.size b7 bn (.loop .done (some (.exit 2)) T [20] as bd) rd stop) ?_ ?_ ?_ ?_) ?_
 ·rintro r h1 h2 ⟨k,hk,hd,c1,r1⟩ k2
  exact ⟨k,hk,hd,c1.kp k2,r1.kp k2⟩
 ·rintro r h1 ⟨k,hk,hd,c1,r1⟩
  exact ⟨⟨24,c1.go⟩,c1.ao⟩
 ·rintro f r h1 ⟨k,hk,hd,c1,r1⟩
  have hlt : k < al.length := by
   rcases Nat.lt_or_ge k al.length with h | h
   ·exact h
   ·rw [List.drop_eq_nil_of_le h] at hd; cases hd
  rw [List.drop_eq_getElem_cons hlt] at hd
  have hf : al[k] = f := (List.cons.inj hd).1
  have hr : al.drop (k + 1) = r := (List.cons.inj hd).2
  rw [← hf]
  refine yield3 hm w3 w5 w7 w8 c1 r1 hlt h7 hbs ?_ ?_
  ·intro h' c2 r2
   exact .inl ⟨rfl,k + 1,hlt,hr,c2,r2⟩
  ·intro h0 h' T as bd c2 r2
   exact .inr ⟨rfl,h0,c2,T,as,bd,r2⟩
 ·exact ⟨0,Nat.zero_le _,rfl,c.kp kL,⟨glL,kL.of g7,kL.of gn⟩⟩
 ·have mv : ∀ {h' : H} {o : Obj} {n : Int} (oe : Obj),(∀ vs ty op ro fz,o ≠ .cells vs ty op ro fz) → C3 lo h' al bs bw bo br wv ov stop → R3 h' h.size b7 bn o rd n → C3 lo (h'.set h.size oe) al bs bw bo br wv ov stop ∧ (h'.set h.size oe).get b7 = some (.cells [.int .i64 rd] 3 false false none) ∧ (h'.set h.size oe).get bn = some (.cells [.int .i64 n] 3 false false none) := by
   intro h' o n oe hn c2 r2
   have hl := H.get_lt r2.gl
   refine ⟨c2.setL r2.gl hn _,?_,?_⟩
   ·rw [hset_other hl (by have := r2.g7; rintro rfl; rw [r2.gl] at this; cases this; exact hn _ _ _ _ _ rfl)]; exact r2.g7
   ·rw [hset_other hl (by have := r2.gn; rintro rfl; rw [r2.gl] at this; cases this; exact hn _ _ _ _ _ rfl)]; exact r2.gn
  rintro _ h2 (⟨k,hk,hd,c2,r2⟩ | ⟨h0,c2,T,as,bd,r2⟩)
  ·have hke : k = al.length := by
    have := congrArg List.length hd
    rw [List.length_drop,List.length_nil] at this; omega
   refine ⟨_,_,_,_,_,_,r2.gl,by decide,fun oe hoe => ?_⟩
   obtain ⟨c3,g3,g4⟩ := mv oe (nol _ _ _ _ _) c2 r2
   simp only
   simp only [GR,evK,binV,intOp,strOp,shOp,unV,Nat.reduceLT,Nat.reduceEqDiff,Nat.reduceAdd,↓reduceIte,Nat.reduceLeDiff,reduceCtorEq]
   exact cont _ _ c3 g3 g4 (.inl (by rw [hke]))
  ·refine ⟨_,_,_,_,_,_,r2.gl,by decide,fun oe hoe => ?_⟩
   obtain ⟨c3,g3,g4⟩ := mv oe (nol _ _ _ _ _) c2 r2
   simp only
   simp only [GR,evK,binV,intOp,strOp,shOp,unV,Nat.reduceLT,Nat.reduceEqDiff,Nat.reduceAdd,↓reduceIte,Nat.reduceLeDiff,reduceCtorEq]
   exact cont _ _ c3 g3 g4 (.inr ⟨h0,rfl⟩)
set_option maxHeartbeats 1000000 in
theorem rounds3 (F : Ff E) {K : List Fr} {Q : Po} (hm : al.length ≤ 1099511627775)
  (cont : ∀ (ρ' : Nat → V) (h' : H),ρ' 4 = .ptr (some (br,0)) → C3 lo h' al bs bw bo br wv ov stop → X P E none 56 K ρ' h' Q) :
  ∀ (d rd : Nat) (ρ : Nat → V) (h : H),2 - rd = d → rd ≤ 2 → ρ 3 = .ptr (some (bs,0)) → ρ 4 = .ptr (some (br,0)) → ρ 5 = .ptr (some (bw,0)) → ρ 6 = .func 26 [] [.ptr (some (bo,0))] → ρ 16 = .int .i64 rd → C3 lo h al bs bw bo br wv ov stop →
   XL P E none 56 b3_14 (.b 0 :: K) ρ h Q := by
 intro d
 induction d with
 | zero =>
  intro rd ρ h hd hr q3 q4 q5 q6 q16 c
  have hre : ¬ (rd : Int) < 2 := by omega
  rw [u3_14]
  simp only [GR,evK,binV,intOp,strOp,shOp,unV,Nat.reduceLT,Nat.reduceEqDiff,Nat.reduceAdd,↓reduceIte,Nat.reduceLeDiff,reduceCtorEq,q16,hre]
  exact cont _ h q4 c
 | succ d ih =>
  intro rd ρ h hd hr q3 q4 q5 q6 q16 c
  have hre : (rd : Int) < 2 := by omega
  have hw : IntKind.i64.wrap ((rd : Int) + 1) = ((rd + 1 : Nat) : Int) := wrap_nat (n := rd + 1) (by omega)
  obtain ⟨h1,e1,g1,k1,z1⟩ := put_fresh h (vs := [.int .i64 0]) (ws := [.int .i64 rd]) (ty := 3) rfl rfl rfl
  obtain ⟨h2,e2,g2,k2,z2⟩ := put_fresh h1 (vs := [.int .i64 0]) (ws := [.int .i64 0]) (ty := 3) rfl rfl rfl
  have c1 := c.kp (Kp.trans k1 k2)
  have hsz := H.get_lt c.gs
  rw [u3_14]
  simp only [GR,evK,binV,intOp,strOp,shOp,unV,Nat.reduceLT,Nat.reduceEqDiff,Nat.reduceAdd,↓reduceIte,Nat.reduceLeDiff,reduceCtorEq,q16,hre,r3_4,e1,r3_5,e2,q6]
  refine range3 F hm (b7 := h.size) (bn := h1.size) (rd := rd) ?_ ?_ ?_ ?_ ?_ c1 (k2.of g1) g2 (by omega) (by omega) ?_
  ·exact q3
  ·exact q5
  ·rfl
  ·rfl
  ·rfl
  ·intro h3 n c3 g7 gn hn
   obtain ⟨_,p,cc,o,hwv⟩ := acc_elems c3.aw
   rw [List.length_map] at hwv
   have gw := c3.gw
   have gs := c3.gs
   rw [hwv] at gw
   have njw : V.nj (V.slice p al.length cc o) = true := rfl
   have fin : ∀ (ρ2 : Nat → V),ρ2 3 = .ptr (some (bs,0)) → ρ2 4 = .ptr (some (br,0)) → ρ2 5 = .ptr (some (bw,0)) → ρ2 6 = .func 26 [] [.ptr (some (bo,0))] → ρ2 16 = .int .i64 rd → XO P E none 56 r3_13 (.l b3_14 :: .b 0 :: K) ρ2 h3 Q := by
    intro ρ2 y3 y4 y5 y6 y16
    simp only [GR,evK,binV,intOp,strOp,shOp,unV,Nat.reduceLT,Nat.reduceEqDiff,Nat.reduceAdd,↓reduceIte,Nat.reduceLeDiff,reduceCtorEq,r3_13,y16,hw]
    exact ih (rd + 1) _ h3 (by omega) (by omega) y3 y4 y5 y6 rfl c3
   by_cases hnl : n = (al.length : Int)
   ·have hb : (n != (al.length : Int)) = false := by simp [hnl]
    simp only [GR,evK,binV,intOp,strOp,shOp,unV,Nat.reduceLT,Nat.reduceEqDiff,Nat.reduceAdd,↓reduceIte,Nat.reduceLeDiff,reduceCtorEq,r3_12,gn,q5,gw,hb]
    exact fin _ q3 q4 q5 q6 q16
   ·have hb : (n != (al.length : Int)) = true := by simp [hnl]
    rcases hn with hn | ⟨h0,hn⟩
    ·exact (hnl hn).elim
    ·have hr1 : ((rd : Int) == 1) = false := by subst h0; rfl
     have hns : (n != stop) = false := by simp [hn]
     simp only [GR,evK,binV,intOp,strOp,shOp,unV,Nat.reduceLT,Nat.reduceEqDiff,Nat.reduceAdd,↓reduceIte,Nat.reduceLeDiff,reduceCtorEq,r3_12,gn,q5,gw,hb,g7,hr1,q3,gs,hns]
     exact fin _ q3 q4 q5 q6 q16
theorem allF_le {ws : List WV} (hlen : (allF ws).length ≤ 1099511627775) : (F1 ws).length ≤ 1099511627775 ∧ (F2 ws).length ≤ 1099511627775 ∧ (F3 ws).length ≤ 1099511627775 ∧ (F4 ws).length ≤ 1099511627775 ∧ (F5 ws).length ≤ 1099511627775 :=
 ⟨gsF_le hlen 1 (by decide),gsF_le hlen 2 (by decide),gsF_le hlen 3 (by decide),gsF_le hlen 4 (by decide),gsF_le hlen 5 (by decide)⟩
theorem flawsP25 (F : Ff E) (G : Fa E) (hfrom : FromE P E) {h0 : H} {lv : V} {ws : List WV} (hv : VsIn h0 lv ws) (hlen : (allF ws).length ≤ 1099511627775) : Sp P E (.func 25 [] []) [lv] h0 fun v h' => Acc h' h0.size 30 4 v ((allF ws).map Flaw.cells) ∧ Kp h0 h' := by
 obtain ⟨l1,l2,l3,l4,l5⟩ := allF_le hlen
 refine flaws25 F hv hlen fun k hk h hv => ?_
 match k,hk with
 | 0,_ => exact unlike51 F G hv l1
 | 1,_ => exact unlike52 F G hv l2
 | 2,_ => exact noTrees53 F hfrom hv l3
 | 3,_ => exact unlike54 F G hv l4
 | 4,_ => exact ahead55 F hv l5
set_option maxHeartbeats 1000000 in
theorem law3 (F : Ff E) (G : Fa E) (F23 : Fr23 E) (hfrom : FromE P E) (beg : ∀ h,Sp P E (.func 6 [] []) [] h fun r h' => r = .bool true ∧ h' = h) {v : V} {ws : List WV} {stop : Int} {h0 : H} (hv : VsIn h0 v ws) (hlen : (allF ws).length ≤ 1099511627775) :
  Sp P E (.func 3 [] []) [v,.int .i64 stop] h0 fun r _ => r = .bool true := by
 have k1 : Kp h0 (h0.psh (.cells [.int .i64 stop] 3 false false none)) := Keeps.psh (Nat.le_refl _) _
 have g1 := psh_same h0 (.cells [.int .i64 stop] 3 false false none)
 have s1 := psh_size h0 (.cells [.int .i64 stop] 3 false false none)
 refine Sp_fn F.f3 F.p3 (by simp [fn3]) ?_
 simp only [GR,evK,binV,intOp,strOp,shOp,unV,Nat.reduceLT,Nat.reduceEqDiff,Nat.reduceAdd,↓reduceIte,Nat.reduceLeDiff,reduceCtorEq,fn3,c3,r3_0]
 generalize h0.psh (.cells [.int .i64 stop] 3 false false none) = h1 at *
 have k2 : Kp h1 (h1.psh (.cells [.bool false] 4 false false none)) := Keeps.psh (Nat.le_refl _) _
 have g2 := psh_same h1 (.cells [.bool false] 4 false false none)
 have s2 := psh_size h1 (.cells [.bool false] 4 false false none)
 have g12 := k2.of g1
 generalize h1.psh (.cells [.bool false] 4 false false none) = h2 at *
 simp only [GR,evK,binV,intOp,strOp,shOp,unV,Nat.reduceLT,Nat.reduceEqDiff,Nat.reduceAdd,↓reduceIte,Nat.reduceLeDiff,reduceCtorEq,r3_1]
 refine XC_of (beg h2) ?_
 rintro _ hx ⟨rfl,e2⟩
 rw [e2]
 clear e2 hx
 have k12 := Kp.trans k1 k2
 simp only [GR,evK,binV,intOp,strOp,shOp,unV,Nat.reduceLT,Nat.reduceEqDiff,Nat.reduceAdd,↓reduceIte,Nat.reduceLeDiff,reduceCtorEq,Bool.not_true,r3_2]
 refine XC_of (flaws7 (P := P) F G F23 (hv.keep k12) hlen) ?_
 rintro wv h3 ⟨accw,k3⟩
 obtain ⟨_,pw,cw,ow,hwv⟩ := acc_elems accw
 obtain ⟨h4,e4,g4,k4,z4⟩ := put_fresh h3 (vs := [.slice none 0 0 false]) (ws := [wv]) (ty := 24) rfl (by rw [hwv]; rfl) rfl
 have acc4 := accw.keep k4
 have k34 := Kp.trans k3 k4
 rw [hwv] at e4 g4 acc4 ⊢
 simp only [GR,evK,binV,intOp,strOp,shOp,unV,Nat.reduceLT,Nat.reduceEqDiff,Nat.reduceAdd,↓reduceIte,Nat.reduceLeDiff,reduceCtorEq,e4,r3_3]
 have hv4 := hv.keep (Kp.trans k12 k34)
 refine XC_of (flaws8 F (flawsP25 F G hfrom hv4 hlen)) ?_
 rintro _ h5 ⟨bo,ov,rfl,g5,acco,k5⟩
 have k345 := Kp.trans k34 k5
 simp only [GR,evK,binV,intOp,strOp,shOp,unV,Nat.reduceLT,Nat.reduceEqDiff,Nat.reduceAdd,↓reduceIte,Nat.reduceLeDiff,reduceCtorEq]
 have c3 : C3 0 h5 (allF ws) h0.size h3.size bo h1.size (.slice pw (List.map Flaw.cells (allF ws)).length cw ow) ov stop :=
  ⟨k345.of g12,k5.of g4,g5,k345.of g2,(acc4.keep k5).lo (Nat.zero_le _),acco.lo (Nat.zero_le _)⟩
 refine rounds3 F hlen ?_ 2 0 _ h5 rfl (by decide) ?_ ?_ ?_ ?_ ?_ c3
 ·intro ρ' h' y4 c
  have e6 := put_at (ws := [.bool true]) (o := 0) c.gr (by simp) rfl rfl
  have hset : setR [V.bool false] 0 [.bool true] = [.bool true] := rfl
  rw [hset] at e6
  have g6 := hset_same (H.get_lt c.gr) (.cells [.bool true] 4 false false none)
  simp only [GR,evK,binV,intOp,strOp,shOp,unV,Nat.reduceLT,Nat.reduceEqDiff,Nat.reduceAdd,↓reduceIte,Nat.reduceLeDiff,reduceCtorEq,y4,e6]
  rw [resVs_c (L := 56) (a := 4) (by decide) _ y4,g6,resVs_nil]
  exact rfl
 ·rfl
 ·rfl
 ·rfl
 ·rfl
 ·rfl
end Go.AM.Sc
namespace Go.AM.Sc
open Go.AM
theorem flat_le {α β : Type} {f : α → List β} {c : Nat} : ∀ {l : List α},(∀ x ∈ l,(f x).length ≤ c) → (l.flatMap f).length ≤ l.length * c
 | [],_ => by simp
 | x :: r,h => by
  have := flat_le (f := f) (c := c) (l := r) fun y hy => h y (List.mem_cons_of_mem _ hy)
  have h1 := h x List.mem_cons_self
  rw [List.flatMap_cons,List.length_append,List.length_cons,Nat.add_mul]
  omega
theorem innP_len (u : Nat → Bool) (a : Nat) : ∀ d b,(innP u a d b).length ≤ d
 | 0,_ => Nat.le_refl _
 | d + 1,b => by
  have := innP_len u a d (b + 1)
  unfold innP; split
  ·rw [List.length_cons]; omega
  ·omega
theorem innP_fst {u : Nat → Bool} {a : Nat} : ∀ {d b : Nat} {p : Nat × Nat},p ∈ innP u a d b → p.1 = a
 | 0,_,_,h => by cases h
 | d + 1,b,p,h => by
  unfold innP at h; split at h
  ·rcases List.mem_cons.1 h with h | h
   ·rw [h]
   ·exact innP_fst h
  ·exact innP_fst h
theorem outP_flat {u : Nat → Bool} {m : Nat} {f : Nat × Nat → List Flaw} {g : Nat → Nat} (hf : ∀ p,(f p).length ≤ g p.1) : ∀ d a,((outP u m d a).flatMap f).length ≤ m * ((List.range' a d).map g).sum
 | 0,_ => by simp [outP]
 | d + 1,a => by
  have ih := outP_flat hf (u := u) (m := m) d (a + 1)
  have h1 := flat_le (f := f) (c := g a) (l := innP u a (m - (a + 1)) (a + 1)) fun p hp => by rw [← innP_fst hp]; exact hf p
  have h2 := innP_len u a (m - (a + 1)) (a + 1)
  have h3 : (innP u a (m - (a + 1)) (a + 1)).length * g a ≤ m * g a := Nat.mul_le_mul_right _ (by omega)
  rw [outP,List.flatMap_append,List.length_append,List.range'_succ,List.map_cons,List.sum_cons,Nat.mul_add]
  omega
theorem chsL_len (A B : WV) : ∀ d i,(chsL A B d i).length ≤ d
 | 0,_ => Nat.le_refl _
 | d + 1,i => by
  have ih := chsL_len A B d (i + 1)
  unfold chsL; split
  ·split
   ·omega
   ·rw [List.length_cons]; omega
  ·omega
def esN (ws : List WV) (a : Nat) : Nat := ((ws[a]?).map fun w => w.es.length).getD 0
theorem f1_len (ws : List WV) (p : Nat × Nat) : (f1 ws p).length ≤ esN ws p.1 := by
 unfold f1; split
 ·rename_i A B hA hB
  have : esN ws p.1 = A.es.length := by simp [esN,hA]
  rw [this]
  split
  ·rw [List.length_map]; exact chsL_len A B _ _
  ·exact Nat.zero_le _
 ·exact Nat.zero_le _
theorem f2_len (ws : List WV) (p : Nat × Nat) : (f2 ws p).length ≤ 1 := by
 unfold f2; split
 ·split
  ·exact Nat.le_refl _
  ·exact Nat.zero_le _
 ·exact Nat.zero_le _
theorem f4_len (ws : List WV) (p : Nat × Nat) : (f4 ws p).length ≤ 1 := by
 unfold f4; split
 ·split
  ·exact Nat.le_refl _
  ·exact Nat.zero_le _
 ·exact Nat.zero_le _
theorem f3_len (ws : List WV) (a : Nat) : (f3 ws a).length ≤ 1 := by
 unfold f3; split
 ·split
  ·exact Nat.le_refl _
  ·exact Nat.zero_le _
 ·exact Nat.zero_le _
theorem f5R_len (ws : List WV) (a b : Nat) : (f5R ws a b).length ≤ 1 := by
 unfold f5R; split
 ·split
  ·exact Nat.le_refl _
  ·exact Nat.zero_le _
 ·exact Nat.zero_le _
theorem f5_len {ws : List WV} {a : Nat} (ha : a < ws.length) : (f5 ws a).length ≤ ws.length := by
 rw [f5_less ha]
 split
 ·have := flat_le (f := f5R ws a) (c := 1) (l := List.range ws.length) fun b _ => f5R_len ws a b
  rw [List.length_range,Nat.mul_one] at this
  exact this
 ·exact Nat.zero_le _
theorem es_sum : ∀ (ws : List WV),((List.range' 0 ws.length).map (esN ws)).sum = (ws.map fun w => w.es.length).sum := by
 intro ws
 congr 1
 refine List.ext_getElem (by simp) fun i h1 h2 => ?_
 simp at h1
 simp [esN,h1]
theorem ones : ∀ (l : List Nat),(l.map fun _ => 1).sum = l.length
 | [] => rfl
 | x :: r => by simp [ones r]; omega
theorem four_sum : ∀ (ws : List WV),(ws.map fun w => w.es.length + 4).sum = (ws.map fun w => w.es.length).sum + 4 * ws.length
 | [] => rfl
 | x :: r => by have := four_sum r; simp only [List.map_cons,List.sum_cons,List.length_cons]; omega
theorem allF_bound {ws : List WV} (h : (ws.map fun w => w.es.length + 4).sum ≤ 1048576) : (allF ws).length ≤ 1099511627775 := by
 rw [four_sum] at h
 generalize hS : (ws.map fun w => w.es.length).sum = S at h
 have hn : ws.length ≤ 262144 := by omega
 have hS2 : S ≤ 1048576 := by omega
 have h1 : (F1 ws).length ≤ ws.length * S := by
  have := outP_flat (u := upW ws) (m := ws.length) (f1_len ws) ws.length 0
  rw [es_sum,hS] at this; exact this
 have h2 : (F2 ws).length ≤ ws.length * ws.length := by
  have := outP_flat (u := upW ws) (m := ws.length) (g := fun _ => 1) (f2_len ws) ws.length 0
  rw [ones,List.length_range'] at this; exact this
 have h4 : (F4 ws).length ≤ ws.length * ws.length := by
  have := outP_flat (u := upW ws) (m := ws.length) (g := fun _ => 1) (f4_len ws) ws.length 0
  rw [ones,List.length_range'] at this; exact this
 have h3 : (F3 ws).length ≤ ws.length * 1 := by
  have := flat_le (f := f3 ws) (c := 1) (l := List.range ws.length) fun a _ => f3_len ws a
  rw [List.length_range] at this; exact this
 have h5 : (F5 ws).length ≤ ws.length * ws.length := by
  have := flat_le (f := f5 ws) (c := ws.length) (l := List.range ws.length) fun a ha => f5_len (List.mem_range.1 ha)
  rw [List.length_range] at this; exact this
 have m1 : ws.length * S ≤ 262144 * 1048576 := Nat.mul_le_mul hn hS2
 have m2 : ws.length * ws.length ≤ 262144 * 262144 := Nat.mul_le_mul hn hn
 have h := congrArg List.length (gsF_all ws)
 have h6 : List.range' 1 5 = [1,2,3,4,5] := rfl
 rw [h6] at h
 simp only [List.nil_append,List.flatMap_cons,List.flatMap_nil,List.length_append,List.length_nil,gsF] at h
 omega
end Go.AM.Sc
