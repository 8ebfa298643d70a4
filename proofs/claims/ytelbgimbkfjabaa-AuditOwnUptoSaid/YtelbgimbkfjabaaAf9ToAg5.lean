/- My own texts, laid for this claim. -/
import Derived.Test.YtelbgimbkfjabaaRf5ToAf8
set_option linter.unusedSimpArgs false
set_option linter.unusedVariables false
namespace Go.AM.Sc
open Go.AM
variable {P : Program} {E : Env}
def FromE (P : Program) (E : Env) : Prop := ∀ {h : H} {lv : V} {ns : List (TNode × DNode)},Sl h 4 lv (ns.map fun p => p.1.cells) → (∀ p ∈ ns,NIn h p.1 p.2) → ns.length ≤ 1048576 → Sp P E (.func 67 [] []) [lv] h fun v h' => v = .tup [.junk,iI (codeT (ns.map (·.2)))] ∧ h' = h
noncomputable def f3 (ws : List WV) (a : Nat) : List Flaw := match ws[a]? with
 | some A => if A.x.up && !okT (A.ns.map (·.2)) then [⟨3,a,0,0⟩] else []
 | none => []
noncomputable def F3 (ws : List WV) : List Flaw := (List.range ws.length).flatMap (f3 ws)
theorem f3_at {ws : List WV} {a : Nat} (ha : a < ws.length) : f3 ws a = if ws[a].x.up && !okT (ws[a].ns.map (·.2)) then [⟨3,a,0,0⟩] else [] := by simp [f3,ha]
theorem range_step {α : Type} (f : Nat → List α) (k : Nat) : (List.range (k + 1)).flatMap f = (List.range k).flatMap f ++ f k := by
 rw [List.range_succ,List.flatMap_append]; simp
theorem range_pre {α : Type} (f : Nat → List α) (k : Nat) : ∀ m,(List.range k).flatMap f <+: (List.range (k + m)).flatMap f
 | 0 => List.prefix_refl _
 | m + 1 => by
  rw [← Nat.add_assoc,range_step]
  exact (range_pre f k m).trans (List.prefix_append _ _)
theorem Acc.flaw {h : H} {lo : Nat} {ov : V} {fs : List Flaw} (a : Acc h lo 30 4 ov (fs.map Flaw.cells)) (hlo : lo ≤ h.size) (hl : fs.length ≤ 1099511627775) (f : Flaw) :
  ∃ v' h',appV (h.psh (.cells f.cells 30 false false none)) 30 4 32 ov (.slice (some (h.size,0)) 1 1 false) = some (.eff v' h') ∧ Acc h' lo 30 4 v' ((fs ++ [f]).map Flaw.cells) ∧ Keeps lo h h' ∧ (∀ i o,h.get i = some o → (∀ vs,o ≠ .cells vs 30 true false none) → h'.get i = some o) := by
 have k7 : Kp h (h.psh (.cells f.cells 30 false false none)) := Keeps.psh (Nat.le_refl _) _
 have hs7 := psh_size h (.cells f.cells 30 false false none)
 have he := elems_psh (h := h) (cs := f.cells) (ty := 30) (sz := 4) rfl (by decide)
 obtain ⟨v',h1,e1,e2,e3,_,hs1,e4⟩ := app_fr (ys := [f.cells]) (bytes := 32) (x := .slice (some (h.size,0)) 1 1 false) (a.keep k7) (by omega) rfl (by simpa using he) (by intro y hy; rw [List.mem_singleton.1 hy]; exact ⟨rfl,rfl⟩) (by rw [List.length_map]; simp only [List.length_singleton]; omega)
 exact ⟨v',h1,e1,by rw [List.map_append]; exact e2,Keeps.trans (n := lo) (k7.mono hlo) e3,fun i o hg hn => e4 i o (k7.of hg) hn⟩
set_option maxHeartbeats 4000000 in
theorem noTrees53 (F : Ff E) (hfrom : FromE P E) {h0 : H} {lv : V} {ws : List WV} (hv : VsIn h0 lv ws) (hlen : (F3 ws).length ≤ 1099511627775) : Sp P E (.func 53 [] []) [lv] h0 fun v h' => Acc h' h0.size 30 4 v ((F3 ws).map Flaw.cells) ∧ Kp h0 h' := by
 obtain ⟨sa,sc,so,hlv⟩ := hv.sl.len
 rw [List.length_map] at hlv
 have hm := hv.len
 have loop : ∀ (d k : Nat) (ρ : Nat → V) (h : H) (ov : V),ws.length - k = d → k ≤ ws.length → ρ 8 = lv → ρ 9 = iI ws.length → ρ 10 = iI k → ρ 3 = ov → Acc h h0.size 30 4 ov (((List.range k).flatMap (f3 ws)).map Flaw.cells) → Kp h0 h →
   XL P E none 34 b53_6 [.b 0,.c (.seq (.region r53_7) (.ret))] ρ h (Fin [.t 2] fun v h' => Acc h' h0.size 30 4 v ((F3 ws).map Flaw.cells) ∧ Kp h0 h') := by
  intro d
  induction d with
  | zero =>
   intro k ρ h ov hd hk q8 q9 q10 q3 acc kk
   have hke : ¬ k < ws.length := by omega
   have hkk : k = ws.length := by omega
   subst hkk
   rw [u53_6]
   simp only [GR,evK,binV,intOp,strOp,shOp,unV,Nat.reduceLT,Nat.reduceEqDiff,Nat.reduceAdd,↓reduceIte,Nat.reduceLeDiff,reduceCtorEq,q9,q10,Int.ofNat_lt,hke,r53_7,q3]
   exact ⟨acc,kk⟩
  | succ d ih =>
   intro k ρ h ov hd hk q8 q9 q10 q3 acc kk
   have hke : k < ws.length := by omega
   have hvh := hv.keep kk
   obtain ⟨b,o,cap,opn,cs,ty,op,ro,fz,va,hg,hll,he,hn⟩ := view_nth hvh.sl hke
   have q8' : ρ 8 = V.slice (some (b,o)) ws.length cap opn := by rw [q8,va]
   have wA := hvh.ins _ (List.getElem_mem hke)
   have fv : ∀ z : View,z.cells.length = 21 := fun _ => rfl
   obtain ⟨h3,e3,g3,k3,z3⟩ := put_fresh h (vs := View.zero.cells) (ws := ws[k].x.cells) (ty := 63) rfl wA.one rfl
   have w3 := wA.keep k3
   have kk3 := Kp.trans kk k3
   obtain ⟨na,nc,no,hnv⟩ := w3.nodes.len
   have g19 : ws[k].x.cells[19]? = some ws[k].x.nodes := View.g19 _
   have g2 : ws[k].x.cells[2]? = some (.bool ws[k].x.up) := View.g2 _
   have hw : IntKind.i64.wrap ((k : Int) + 1) = ((k + 1 : Nat) : Int) := wrap_nat (n := k + 1) (by omega)
   have hel := fv ws[k].x
   have sp := hfrom w3.nodes w3.nds w3.nlen
   have hf3 := f3_at hke
   have hstep := range_step (f3 ws) k
   unfold getR at he
   generalize hxc : ws[k].x.cells = xc at *
   simp only [View.zero,View.cells] at e3
   rw [u53_6]
   simp only [GR,evK,binV,intOp,strOp,shOp,unV,Nat.reduceLT,Nat.reduceEqDiff,Nat.reduceAdd,↓reduceIte,Nat.reduceLeDiff,reduceCtorEq,q9,q10,Int.ofNat_lt,hke,r53_1,q8',Int.natCast_nonneg,Int.toNat_natCast,hg,hll,he,hel,e3,r53_2,g3,g19]
   refine XC_of sp ?_
   rintro _ hx ⟨rfl,e2⟩
   rw [e2]
   clear e2 hx
   have next : ∀ (ρ2 : Nat → V) (h4 : H) (ov2 : V),ρ2 8 = lv → ρ2 9 = iI ws.length → ρ2 10 = iI k → ρ2 3 = ov2 → Acc h4 h0.size 30 4 ov2 (((List.range (k + 1)).flatMap (f3 ws)).map Flaw.cells) → Kp h0 h4 → XO P E none 34 r53_5 [.l b53_6,.b 0,.c (.seq (.region r53_7) (.ret))] ρ2 h4 (Fin [.t 2] fun v h' => Acc h' h0.size 30 4 v ((F3 ws).map Flaw.cells) ∧ Kp h0 h') := by
    intro ρ2 h4 ov2 y8 y9 y10 y3 acc2 kk2
    simp only [GR,evK,binV,intOp,strOp,shOp,unV,Nat.reduceLT,Nat.reduceEqDiff,Nat.reduceAdd,↓reduceIte,Nat.reduceLeDiff,reduceCtorEq,r53_5,y10,hw]
    refine ih (k + 1) _ h4 ov2 (by omega) (by omega) ?_ ?_ ?_ ?_ acc2 kk2
    ·exact y8
    ·exact y9
    ·rfl
    ·exact y3
   cases hup : ws[k].x.up with
   | false =>
    rw [hup] at g2 hf3
    simp only [Bool.false_and,Bool.false_eq_true,if_false] at hf3
    rw [hf3,List.append_nil] at hstep
    simp only [GR,evK,binV,intOp,strOp,shOp,unV,Nat.reduceLT,Nat.reduceEqDiff,Nat.reduceAdd,↓reduceIte,Nat.reduceLeDiff,reduceCtorEq,r53_3,g3,g2]
    refine next _ h3 ov ?_ ?_ ?_ ?_ (by rw [hstep]; exact acc.keep k3) kk3
    ·exact q8
    ·exact q9
    ·exact q10
    ·exact q3
   | true =>
    rw [hup] at g2 hf3
    cases hok : okT (ws[k].ns.map (·.2)) with
    | true =>
     rw [hok] at hf3
     simp only [Bool.not_true,Bool.and_false,Bool.false_eq_true,if_false] at hf3
     rw [hf3,List.append_nil] at hstep
     have hc : codeT (ws[k].ns.map (·.2)) = 0 := by simp [codeT,hok]
     have hn0 : ((0 : Int) != 0) = false := rfl
     simp only [GR,evK,binV,intOp,strOp,shOp,unV,Nat.reduceLT,Nat.reduceEqDiff,Nat.reduceAdd,↓reduceIte,Nat.reduceLeDiff,reduceCtorEq,r53_3,g3,g2,hc,hn0]
     refine next _ h3 ov ?_ ?_ ?_ ?_ (by rw [hstep]; exact acc.keep k3) kk3
     ·exact q8
     ·exact q9
     ·exact q10
     ·exact q3
    | false =>
     rw [hok] at hf3
     simp only [Bool.not_false,Bool.and_self,if_true] at hf3
     rw [hf3] at hstep
     have hc : codeT (ws[k].ns.map (·.2)) = 121 := by simp [codeT,hok]
     have hn1 : ((121 : Int) != 0) = true := rfl
     have hlenk : ((List.range k).flatMap (f3 ws)).length ≤ 1099511627775 := by
      have : (List.range k).flatMap (f3 ws) <+: F3 ws := by
       have := range_pre (f3 ws) k (ws.length - k)
       rw [show k + (ws.length - k) = ws.length by omega] at this
       exact this
      exact Nat.le_trans this.length_le hlen
     obtain ⟨v',h4,e4,acc4,k4,fr4⟩ := Acc.flaw (acc.keep k3) (by have := kk3.size; omega) hlenk ⟨3,k,0,0⟩
     have hfc : (Flaw.mk 3 k 0 0).cells = [iI 3,iI k,iI 0,iI 0] := rfl
     rw [hfc] at e4
     have hd0 : List.drop 2 [iI 0,iI 0,iI 0,iI 0] = [iI 0,iI 0] := rfl
     have hd1 : List.drop 4 [iI 0,iI 0,iI 0,iI 0] = [] := rfl
     simp only [GR,evK,binV,intOp,strOp,shOp,unV,Nat.reduceLT,Nat.reduceEqDiff,Nat.reduceAdd,↓reduceIte,Nat.reduceLeDiff,reduceCtorEq,r53_3,g3,g2,hc,hn1,r53_4,q3,hd0,hd1,e4]
     refine next _ h4 v' ?_ ?_ ?_ ?_ (by rw [hstep]; exact acc4) (Keeps.trans kk3 k4)
     ·exact q8
     ·exact q9
     ·exact q10
     ·rfl
 refine Sp_fn F.f53 F.p53 (by simp [fn53]) ?_
 simp only [GR,evK,binV,intOp,strOp,shOp,unV,Nat.reduceLT,Nat.reduceEqDiff,Nat.reduceAdd,↓reduceIte,Nat.reduceLeDiff,reduceCtorEq,fn53,c53,r53_0,hlv]
 refine loop ws.length 0 _ h0 _ rfl (Nat.zero_le _) ?_ ?_ ?_ ?_ (Acc.nil _ _ _ _) (Keeps.refl _ _)
 ·exact hlv.symm
 ·rfl
 ·rfl
 ·rfl
def vecAt (v : Vec) (g : Nat) : Int := match g with
 | 0 => v.v0 | 1 => v.v1 | 2 => v.v2 | 3 => v.v3 | 4 => v.v4 | 5 => v.v5 | 6 => v.v6 | _ => v.v7
theorem vec_cell (x : View) {g : Nat} (hg : g < 8) : x.cells[11 + g]? = some (iI (vecAt x.vector g)) := by
 match g,hg with
 | 0,_ => rfl | 1,_ => rfl | 2,_ => rfl | 3,_ => rfl | 4,_ => rfl | 5,_ => rfl | 6,_ => rfl | 7,_ => rfl
theorem siteB_iff {n : Int} : siteB n = true ↔ 0 ≤ n ∧ n < 8 := by simp [siteB]
def yB (A : View) (g : Int) (y : WV) : Bool := y.x.up && y.x.booted && y.x.at_.group == g && decide (vecAt A.vector g.toNat ≤ vecAt y.x.vector g.toNat)
def anyY (ws : List WV) (A : View) (g : Int) : Bool := ws.any (yB A g)
set_option maxHeartbeats 4000000 in
theorem loop11 (F : Ff E) {h0 : H} {lv : V} {ws : List WV} (hv : VsIn h0 lv ws) {A : View} {g : Int} (hg : siteB g = true) {bv : Nat} (gA : cC h0 bv A.cells 63) {ρ0 : Nat → V} (w5 : ρ0 5 = pP bv) (w9 : ρ0 9 = iI g) {K : List Fr} {Q : Po}
  (contN : anyY ws A g = false → ∀ (ρ' : Nat → V) (h' : H),(∀ i,i < 62 → i ≠ 11 → ρ' i = ρ0 i) → Kp h0 h' → X P E none 104 K ρ' h' Q)
  (contY : anyY ws A g = true → ∀ (ρ' : Nat → V) (h' : H),(∀ i,i < 62 → i ≠ 11 → ρ' i = ρ0 i) → Kp h0 h' → XQ P E none 104 (.exit 3) K ρ' h' Q) :
  ∀ (d k : Nat) (ρ : Nat → V) (h : H),ws.length - k = d → k ≤ ws.length → (∀ i,i < 62 → i ≠ 11 → ρ i = ρ0 i) → ρ 62 = lv → ρ 63 = iI ws.length → ρ 64 = iI k → (ws.take k).any (yB A g) = false → Kp h0 h →
   XL P E none 104 b55_11 (.b 4 :: K) ρ h Q := by
 obtain ⟨hg0,hg8⟩ := siteB_iff.1 hg
 obtain ⟨gn,hgn⟩ : ∃ gn : Nat,g = gn := ⟨g.toNat,by omega⟩
 have hgn8 : gn < 8 := by omega
 have hm := hv.len
 intro d
 induction d with
 | zero =>
  intro k ρ h hd hk agr q62 q63 q64 hn kk
  have hke : ¬ k < ws.length := by omega
  rw [List.take_of_length_le (by omega)] at hn
  rw [u55_11]
  simp only [GR,evK,binV,intOp,strOp,unV,Nat.reduceLT,Nat.reduceEqDiff,↓reduceIte,q63,q64,Int.ofNat_lt,hke]
  refine contN hn _ h ?_ kk
  intro i hi h11
  rw [up_app,if_neg (by omega)]; exact agr i hi h11
 | succ d ih =>
  intro k ρ h hd hk agr q62 q63 q64 hn kk
  have hke : k < ws.length := by omega
  have hvh := hv.keep kk
  obtain ⟨b,o,cap,opn,cs,ty,op,ro,fz,va,hgb,hll,he,hnn⟩ := view_nth hvh.sl hke
  have q62' : ρ 62 = V.slice (some (b,o)) ws.length cap opn := by rw [q62,va]
  have wY := hvh.ins _ (List.getElem_mem hke)
  obtain ⟨h3,e3,g3,k3,z3⟩ := put_fresh h (vs := View.zero.cells) (ws := ws[k].x.cells) (ty := 63) rfl wY.one rfl
  have gA3 := (Kp.trans kk k3).of gA
  have kk3 := Kp.trans kk k3
  have c0 : ws[k].x.cells[0]? = some (iI ws[k].x.at_.group) := View.g0 _
  have c2 : ws[k].x.cells[2]? = some (.bool ws[k].x.up) := View.g2 _
  have c4 : ws[k].x.cells[4]? = some (.bool ws[k].x.booted) := View.g4 _
  have cv : ws[k].x.cells[11 + gn]? = some (iI (vecAt ws[k].x.vector gn)) := vec_cell _ hgn8
  have cA : A.cells[11 + gn]? = some (iI (vecAt A.vector gn)) := vec_cell _ hgn8
  have q5 := (agr 5 (by omega) (by omega)).trans w5
  have q9 := (agr 9 (by omega) (by omega)).trans w9
  rw [hgn] at q9
  have hw : IntKind.i64.wrap ((k : Int) + 1) = ((k + 1 : Nat) : Int) := wrap_nat (n := k + 1) (by omega)
  have hel : ws[k].x.cells.length = 21 := rfl
  have hyb : (ws.take (k + 1)).any (yB A g) = yB A g ws[k] := by
   rw [List.take_succ_eq_append_getElem hke,List.any_append,hn]; simp
  have hyd : yB A g ws[k] = (ws[k].x.up && ws[k].x.booted && ws[k].x.at_.group == (gn : Int) && decide (vecAt A.vector gn ≤ vecAt ws[k].x.vector gn)) := by
   rw [hgn]; rfl
  have hgl : ((gn : Int) < 8) = True := by simp; omega
  unfold getR at he
  have next : (ws.take (k + 1)).any (yB A g) = false → ∀ ρ2 : Nat → V,(∀ i,i < 62 → i ≠ 11 → ρ2 i = ρ i) → ρ2 62 = ρ 62 → ρ2 63 = ρ 63 → ρ2 64 = ρ 64 → XO P E none 104 r55_10 (.l b55_11 :: .b 4 :: K) ρ2 h3 Q := by
   intro hn2 ρ2 a2 y62 y63 y64
   have y64' := y64.trans q64
   simp only [GR,evK,binV,intOp,strOp,unV,Nat.reduceLT,Nat.reduceEqDiff,↓reduceIte,r55_10,y64',hw]
   refine ih (k + 1) _ h3 (by omega) (by omega) ?_ ?_ ?_ ?_ hn2 kk3
   ·intro i hi h11
    simp only [up_app]
    rw [if_neg (by omega),if_neg (by omega),a2 i hi h11,agr i hi h11]
   ·exact y62.trans q62
   ·exact y63.trans q63
   ·rfl
  generalize hxc : ws[k].x.cells = xc at *
  simp only [View.zero,View.cells] at e3
  rw [u55_11]
  simp only [GR,evK,binV,intOp,strOp,unV,Nat.reduceLT,Nat.reduceEqDiff,↓reduceIte,q63,q64,Int.ofNat_lt,hke,r55_8,q62',Int.natCast_nonneg,Int.toNat_natCast,hgb,hll,he,hel,e3]
  rw [X_draw,d55_9]
  cases hup : ws[k].x.up with
  | false =>
   rw [hup] at c2 hyd
   simp only [GR,evK,binV,intOp,strOp,unV,Nat.reduceLT,Nat.reduceEqDiff,↓reduceIte,r55_9,g3,c2]
   refine next (by rw [hyb,hyd]; simp) _ ?_ rfl rfl rfl
   intro i hi h11
   simp only [up_app]
   repeat rw [if_neg (by omega)]
  | true =>
  rw [hup] at c2 hyd
  cases hbo : ws[k].x.booted with
  | false =>
   rw [hbo] at c4 hyd
   simp only [GR,evK,binV,intOp,strOp,unV,Nat.reduceLT,Nat.reduceEqDiff,↓reduceIte,r55_9,g3,c2,c4]
   refine next (by rw [hyb,hyd]; simp) _ ?_ rfl rfl rfl
   intro i hi h11
   simp only [up_app]
   repeat rw [if_neg (by omega)]
  | true =>
  rw [hbo] at c4 hyd
  cases hgr : ws[k].x.at_.group == (gn : Int) with
  | false =>
   rw [hgr] at hyd
   simp only [GR,evK,binV,intOp,strOp,unV,Nat.reduceLT,Nat.reduceEqDiff,↓reduceIte,r55_9,g3,c2,c4,c0,q9,hgr]
   refine next (by rw [hyb,hyd]; simp) _ ?_ rfl rfl rfl
   intro i hi h11
   simp only [up_app]
   repeat rw [if_neg (by omega)]
  | true =>
  rw [hgr] at hyd
  by_cases hvc : vecAt A.vector gn ≤ vecAt ws[k].x.vector gn
  ·have hvc' : vecAt ws[k].x.vector gn ≥ vecAt A.vector gn := hvc
   have hany : anyY ws A g = true := by
    unfold anyY
    rw [List.any_eq_true]
    exact ⟨ws[k],List.getElem_mem hke,by rw [hyd]; simp [hvc]⟩
   simp only [GR,evK,binV,intOp,strOp,unV,Nat.reduceLT,Nat.reduceEqDiff,↓reduceIte,r55_9,g3,c2,c4,c0,q9,hgr,Int.natCast_nonneg,Int.ofNat_lt,hgn8,Nat.mul_one,Int.toNat_natCast,q5,gA3,cv,cA,hvc',ge_iff_le,hvc]
   refine contY hany _ h3 ?_ kk3
   intro i hi h11
   simp only [up_app]
   repeat rw [if_neg (by omega)]
   exact agr i hi h11
  ·simp only [GR,evK,binV,intOp,strOp,unV,Nat.reduceLT,Nat.reduceEqDiff,↓reduceIte,r55_9,g3,c2,c4,c0,q9,hgr,Int.natCast_nonneg,Int.ofNat_lt,hgn8,Nat.mul_one,Int.toNat_natCast,q5,gA3,cv,cA,ge_iff_le,hvc]
   refine next (by rw [hyb,hyd]; simp [hvc]) _ ?_ rfl rfl rfl
   intro i hi h11
   simp only [up_app]
   repeat rw [if_neg (by omega)]
def ahL (ws : List WV) (a : Nat) (A : View) : Nat → Nat → List Bool → List Flaw
 | 0,_,_ => []
 | d + 1,b,told => match ws[b]? with
  | none => []
  | some X => if !X.x.up || !X.x.booted || !siteB X.x.at_.group || A.at_.group == X.x.at_.group || told.getD X.x.at_.group.toNat false then ahL ws a A d (b + 1) told
   else if anyY ws A X.x.at_.group then ahL ws a A d (b + 1) told
   else ⟨5,a,b,0⟩ :: ahL ws a A d (b + 1) (told.set X.x.at_.group.toNat true)
theorem Acc.set_o {h : H} {lo : Nat} {ov : V} {xs : List (List V)} (a : Acc h lo 30 4 ov xs) {i : Nat} {o : Obj} (hg : h.get i = some o) (hn : ∀ vs,o ≠ .cells vs 30 true false none) (o' : Obj) : Acc (h.set i o') lo 30 4 ov xs := by
 refine ⟨?_,a.elem⟩
 rcases a.shape with h3 | ⟨b2,e1,e2,e3⟩
 ·exact .inl h3
 ·exact .inr ⟨b2,e1,e2,by show _ = _; rw [hset_other (H.get_lt hg) (by rintro rfl; change _ = _ at e3; rw [hg] at e3; cases e3; exact hn _ rfl)]; exact e3⟩
theorem setR_one : ∀ (l : List V) (g : Nat) (x : V),g < l.length → setR l g [x] = l.set g x
 | [],_,_,h => by simp at h
 | y :: l,0,x,_ => by simp [setR]
 | y :: l,g + 1,x,h => by
  have := setR_one l g x (by simpa using h)
  simp only [setR,List.length_singleton] at this ⊢
  simp only [List.take_succ_cons,List.set_cons_succ,← this]
  rw [show g + 1 + 1 = (g + 1) + 1 from rfl,List.drop_succ_cons]; rfl
set_option maxHeartbeats 8000000 in
theorem loop15 (F : Ff E) {h0 : H} {lv : V} {ws : List WV} (hv : VsIn h0 lv ws) {a : Nat} {A : View} {bv bt : Nat} {full : List Flaw} (hfull : full.length ≤ 1099511627775) (hbt : h0.size ≤ bt) {u12 u13 u14 : V} {K : List Fr} {Q : Po}
  (cont : ∀ (ρ' : Nat → V) (h' : H) (ov : V),ρ' 0 = lv → ρ' 3 = ov → ρ' 12 = u12 → ρ' 13 = u13 → ρ' 14 = u14 → Acc h' h0.size 30 4 ov (full.map Flaw.cells) → Kp h0 h' → X P E none 104 K ρ' h' Q) :
  ∀ (d b : Nat) (told : List Bool) (ov : V) (fs : List Flaw) (ρ : Nat → V) (h : H),ws.length - b = d → b ≤ ws.length → told.length = 8 → ρ 0 = lv → ρ 3 = ov → ρ 4 = iI a → ρ 5 = pP bv → ρ 6 = pP bt → ρ 12 = u12 → ρ 13 = u13 → ρ 14 = u14 → ρ 27 = lv → ρ 28 = iI ws.length → ρ 29 = iI b →
   cC h bv A.cells 63 → cC h bt (told.map V.bool) 125 → Acc h h0.size 30 4 ov (fs.map Flaw.cells) → Kp h0 h → fs ++ ahL ws a A d b told = full →
   XL P E none 104 b55_15 (.b 2 :: K) ρ h Q := by
 have hm := hv.len
 intro d
 induction d with
 | zero =>
  intro b told ov fs ρ h hd hb htl q0 q3 q4 q5 q6 q12 q13 q14 q27 q28 q29 gA gt acc kk hfs
  have hbe : ¬ b < ws.length := by omega
  simp only [ahL,List.append_nil] at hfs
  rw [u55_15]
  simp only [GR,evK,binV,intOp,strOp,shOp,unV,Nat.reduceLT,Nat.reduceEqDiff,Nat.reduceAdd,↓reduceIte,Nat.reduceLeDiff,reduceCtorEq,q28,q29,Int.ofNat_lt,hbe]
  refine cont _ h ov ?_ ?_ ?_ ?_ ?_ (by rw [← hfs]; exact acc) kk
  ·exact q0
  ·exact q3
  ·exact q12
  ·exact q13
  ·exact q14
 | succ d ih =>
  intro b told ov fs ρ h hd hb htl q0 q3 q4 q5 q6 q12 q13 q14 q27 q28 q29 gA gt acc kk hfs
  have hbe : b < ws.length := by omega
  have hvh := hv.keep kk
  obtain ⟨bb,o,cap,opn,cs,ty,op,ro,fz,va,hgb,hll,he,hnn⟩ := view_nth hvh.sl hbe
  have q27' : ρ 27 = V.slice (some (bb,o)) ws.length cap opn := by rw [q27,va]
  have wX := hvh.ins _ (List.getElem_mem hbe)
  obtain ⟨h3,e3,g3,k3,z3⟩ := put_fresh h (vs := View.zero.cells) (ws := ws[b].x.cells) (ty := 63) rfl wX.one rfl
  have kk3 := Kp.trans kk k3
  have gA3 := k3.of gA
  have gt3 := k3.of gt
  have acc3 := acc.keep k3
  have c0 : ws[b].x.cells[0]? = some (iI ws[b].x.at_.group) := View.g0 _
  have c2 : ws[b].x.cells[2]? = some (.bool ws[b].x.up) := View.g2 _
  have c4 : ws[b].x.cells[4]? = some (.bool ws[b].x.booted) := View.g4 _
  have cA0 : A.cells[0]? = some (iI A.at_.group) := View.g0 _
  have hw : IntKind.i64.wrap ((b : Int) + 1) = ((b + 1 : Nat) : Int) := wrap_nat (n := b + 1) (by omega)
  have hel : ws[b].x.cells.length = 21 := rfl
  have hpl : List.take 21 ws[b].x.cells = ws[b].x.cells := rfl
  have sp := isSite66 (P := P) F (x := ws[b].x) (h := h3)
  simp only [ahL,List.getElem?_eq_getElem hbe] at hfs
  generalize hX : ws[b].x = x at *
  unfold getR at he
  -- on to the next one
  have next : ∀ (told2 : List Bool) (ov2 : V) (fs2 : List Flaw) (ρ2 : Nat → V) (h4 : H),told2.length = 8 → ρ2 0 = lv → ρ2 3 = ov2 → ρ2 4 = iI a → ρ2 5 = pP bv → ρ2 6 = pP bt → ρ2 12 = u12 → ρ2 13 = u13 → ρ2 14 = u14 → ρ2 27 = lv → ρ2 28 = iI ws.length → ρ2 29 = iI b →
    cC h4 bv A.cells 63 → cC h4 bt (told2.map V.bool) 125 → Acc h4 h0.size 30 4 ov2 (fs2.map Flaw.cells) → Kp h0 h4 → fs2 ++ ahL ws a A d (b + 1) told2 = full →
    XO P E none 104 r55_14 (.l b55_15 :: .b 2 :: K) ρ2 h4 Q := by
   intro told2 ov2 fs2 ρ2 h4 y y0 y3 y4 y5 y6 y12 y13 y14 y27 y28 y29 ga4 gt4 acc4 kk4 hf4
   simp only [GR,evK,binV,intOp,strOp,shOp,unV,Nat.reduceLT,Nat.reduceEqDiff,Nat.reduceAdd,↓reduceIte,Nat.reduceLeDiff,reduceCtorEq,r55_14,y29,hw]
   refine ih (b + 1) told2 ov2 fs2 _ h4 (by omega) (by omega) y ?_ ?_ ?_ ?_ ?_ ?_ ?_ ?_ ?_ ?_ ?_ ga4 gt4 acc4 kk4 hf4
   ·exact y0
   ·exact y3
   ·exact y4
   ·exact y5
   ·exact y6
   ·exact y12
   ·exact y13
   ·exact y14
   ·exact y27
   ·exact y28
   ·rfl
  have skip : (!x.up || !x.booted || !siteB x.at_.group || A.at_.group == x.at_.group || told.getD x.at_.group.toNat false) = true → ∀ (ρ2 : Nat → V) (h4 : H),(∀ i,i < 30 → i ≠ 7 → i ≠ 8 → i ≠ 9 → ρ2 i = ρ i) → Kp h3 h4 → XO P E none 104 r55_14 (.l b55_15 :: .b 2 :: K) ρ2 h4 Q := by
   intro hs ρ2 h4 agr k4
   rw [if_pos hs] at hfs
   have ag : ∀ {i v},i < 30 → i ≠ 7 → i ≠ 8 → i ≠ 9 → ρ i = v → ρ2 i = v := fun {i v} a1 a2 a3 a4 e => (agr i a1 a2 a3 a4).trans e
   exact next told ov fs ρ2 h4 htl (ag (by omega) (by omega) (by omega) (by omega) q0) (ag (by omega) (by omega) (by omega) (by omega) q3) (ag (by omega) (by omega) (by omega) (by omega) q4) (ag (by omega) (by omega) (by omega) (by omega) q5) (ag (by omega) (by omega) (by omega) (by omega) q6) (ag (by omega) (by omega) (by omega) (by omega) q12) (ag (by omega) (by omega) (by omega) (by omega) q13) (ag (by omega) (by omega) (by omega) (by omega) q14) (ag (by omega) (by omega) (by omega) (by omega) q27) (ag (by omega) (by omega) (by omega) (by omega) q28) (ag (by omega) (by omega) (by omega) (by omega) q29) (k4.of gA3) (k4.of gt3) (acc3.keep k4) (Kp.trans kk3 k4) hfs
  generalize hxc : x.cells = xc at *
  simp only [View.zero,View.cells] at e3
  rw [u55_15]
  simp only [GR,evK,binV,intOp,strOp,shOp,unV,Nat.reduceLT,Nat.reduceEqDiff,Nat.reduceAdd,↓reduceIte,Nat.reduceLeDiff,reduceCtorEq,q28,q29,Int.ofNat_lt,hbe,r55_4,q27',Int.natCast_nonneg,Int.toNat_natCast,hgb,hll,he,hel,e3,r55_5,g3,c0]
  cases hup : x.up with
  | false =>
   rw [hup] at c2
   simp only [GR,evK,binV,intOp,strOp,shOp,unV,Nat.reduceLT,Nat.reduceEqDiff,Nat.reduceAdd,↓reduceIte,Nat.reduceLeDiff,reduceCtorEq,r55_6,g3,c2]
   refine skip (by simp [hup]) _ h3 ?_ (Keeps.refl _ _)
   intro i h1 h2 h3 h4
   simp only [up_app]
   repeat rw [if_neg (by omega)]
  | true =>
  rw [hup] at c2
  cases hbo : x.booted with
  | false =>
   rw [hbo] at c4
   simp only [GR,evK,binV,intOp,strOp,shOp,unV,Nat.reduceLT,Nat.reduceEqDiff,Nat.reduceAdd,↓reduceIte,Nat.reduceLeDiff,reduceCtorEq,r55_6,g3,c2,c4]
   refine skip (by simp [hup,hbo]) _ h3 ?_ (Keeps.refl _ _)
   intro i h1 h2 h3 h4
   simp only [up_app]
   repeat rw [if_neg (by omega)]
  | true =>
  rw [hbo] at c4
  simp only [GR,evK,binV,intOp,strOp,shOp,unV,Nat.reduceLT,Nat.reduceEqDiff,Nat.reduceAdd,↓reduceIte,Nat.reduceLeDiff,reduceCtorEq,r55_6,g3,c2,c4,hel,hpl]
  refine XC_of sp ?_
  rintro _ h4 ⟨rfl,k4⟩
  cases hst : siteB x.at_.group with
  | false =>
   simp only [GR,evK,binV,intOp,strOp,shOp,unV,Nat.reduceLT,Nat.reduceEqDiff,Nat.reduceAdd,↓reduceIte,Nat.reduceLeDiff,reduceCtorEq]
   refine skip (by simp [hup,hbo,hst]) _ h4 ?_ k4
   intro i h1 h2 h3 h4
   simp only [up_app]
   repeat rw [if_neg (by omega)]
  | true =>
  obtain ⟨hg0,hg8⟩ := siteB_iff.1 hst
  obtain ⟨gn,hgn⟩ : ∃ gn : Nat,x.at_.group = gn := ⟨x.at_.group.toNat,by omega⟩
  have hgn8 : gn < 8 := by omega
  cases hgq : A.at_.group == x.at_.group with
  | true =>
   simp only [GR,evK,binV,intOp,strOp,shOp,unV,Nat.reduceLT,Nat.reduceEqDiff,Nat.reduceAdd,↓reduceIte,Nat.reduceLeDiff,reduceCtorEq,q5,k4.of gA3,cA0,hgq]
   refine skip (by simp [hup,hbo,hst,hgq]) _ h4 ?_ k4
   intro i h1 h2 h3 h4
   simp only [up_app]
   repeat rw [if_neg (by omega)]
  | false =>
  have gt4 := k4.of gt3
  have hgq' : (A.at_.group == (gn : Int)) = false := by rw [← hgn]; exact hgq
  have htg : (told.map V.bool)[gn]? = some (.bool (told.getD gn false)) := by
   have : gn < told.length := by omega
   simp [this]
  cases htd : told.getD gn false with
  | true =>
   rw [htd] at htg
   simp only [GR,evK,binV,intOp,strOp,shOp,unV,Nat.reduceLT,Nat.reduceEqDiff,Nat.reduceAdd,↓reduceIte,Nat.reduceLeDiff,reduceCtorEq,q5,k4.of gA3,cA0,hgn,hgq',q6,Int.natCast_nonneg,Int.ofNat_lt,hgn8,Nat.mul_one,Int.toNat_natCast,Nat.zero_add,gt4,htg]
   refine skip (by rw [hgn,Int.toNat_natCast,htd]; simp) _ h4 ?_ k4
   intro i h1 h2 h3 h4
   simp only [up_app]
   repeat rw [if_neg (by omega)]
  | false =>
  rw [htd] at htg
  have hcond : (!x.up || !x.booted || !siteB x.at_.group || A.at_.group == x.at_.group || told.getD x.at_.group.toNat false) = false := by
   rw [hup,hbo,hst,hgq,hgn,Int.toNat_natCast,htd]; rfl
  have kk4 := Kp.trans kk3 k4
  have key : ∀ ρ1 : Nat → V,ρ1 0 = lv → ρ1 3 = ov → ρ1 4 = iI a → ρ1 5 = pP bv → ρ1 6 = pP bt → ρ1 7 = iI b → ρ1 9 = iI gn → ρ1 12 = u12 → ρ1 13 = u13 → ρ1 14 = u14 → ρ1 27 = lv → ρ1 28 = iI ws.length → ρ1 29 = iI b → ρ1 62 = lv → ρ1 63 = iI ws.length → ρ1 64 = iI (0 : Nat) →
    XL P E none 104 b55_11 (.b 4 :: .c (.seq (.region r55_12) (.region r55_13)) :: .b 3 :: .c (.region r55_14) :: .l b55_15 :: .b 2 :: K) ρ1 h4 Q := by
   intro ρ1 x0 x3 x4 x5 x6 x7 x9 x12 x13 x14 x27 x28 x29 x62 x63 x64
   have x9' : ρ1 9 = iI x.at_.group := by rw [hgn]; exact x9
   refine loop11 F (hv.keep kk4) hst (A := A) (k4.of gA3) (ρ0 := ρ1) x5 x9' ?_ ?_ _ 0 ρ1 h4 rfl (Nat.zero_le _) (fun _ _ _ => rfl) x62 x63 x64 (by simp) (Keeps.refl _ _)
   ·intro hany ρ2 h5 agr k5
    rw [if_neg (by rw [hcond]; simp),if_neg (by rw [hany]; simp)] at hfs
    have ag : ∀ {i v},i < 62 → i ≠ 11 → ρ1 i = v → ρ2 i = v := fun {i v} a1 a2 e => (agr i a1 a2).trans e
    have y3 := ag (by omega) (by omega) x3
    have y4 := ag (by omega) (by omega) x4
    have y6 := ag (by omega) (by omega) x6
    have y7 := ag (by omega) (by omega) x7
    have y9 := ag (by omega) (by omega) x9
    have gt5 := k5.of gt4
    have gA5 := k5.of (k4.of gA3)
    have kk5 := Kp.trans kk4 k5
    have acc5 := (acc3.keep k4).keep k5
    have hput : putCells h5 bt gn [.bool true] = some (h5.set bt (.cells ((told.set gn true).map V.bool) 125 false false none)) := by
     rw [put_at gt5 (by simp; omega) rfl rfl,setR_one _ _ _ (by simp; omega),List.map_set]
    have hlt := H.get_lt gt5
    have acc6 := Acc.set_o acc5 gt5 (by intro vs e; simp at e) (.cells ((told.set gn true).map V.bool) 125 false false none)
    have gt6 := hset_same hlt (.cells ((told.set gn true).map V.bool) 125 false false none)
    have hne : bt ≠ bv := by rintro rfl; change _ = _ at gt5; rw [gA5] at gt5; simp at gt5
    have gA6 : cC (h5.set bt (.cells ((told.set gn true).map V.bool) 125 false false none)) bv A.cells 63 := by
     show _ = _; rw [hset_other hlt hne]; exact gA5
    have kk6 : Kp h0 (h5.set bt (.cells ((told.set gn true).map V.bool) 125 false false none)) := Keeps.trans kk5 (Keeps.set hlt hbt _)
    generalize h5.set bt (.cells ((told.set gn true).map V.bool) 125 false false none) = h6 at *
    have hfl : fs.length ≤ 1099511627775 := by
     have := congrArg List.length hfs
     simp only [List.length_append,List.length_cons] at this
     omega
    obtain ⟨v',h7,e7,acc7,k7,fr7⟩ := Acc.flaw acc6 kk6.size hfl ⟨5,a,b,0⟩
    have hfc : (Flaw.mk 5 a b 0).cells = [iI 5,iI a,iI b,iI 0] := rfl
    rw [hfc] at e7
    have hd0 : List.drop 3 [iI 0,iI 0,iI 0,iI 0] = [iI 0] := rfl
    have hd1 : List.drop 4 [iI 0,iI 0,iI 0,iI 0] = [] := rfl
    simp only [GR,evK,binV,intOp,strOp,shOp,unV,Nat.reduceLT,Nat.reduceEqDiff,Nat.reduceAdd,↓reduceIte,Nat.reduceLeDiff,reduceCtorEq,r55_12,y9,y6,Int.natCast_nonneg,Int.ofNat_lt,hgn8,Nat.mul_one,Int.toNat_natCast,Nat.zero_add,hput,r55_13,y3,y4,y7,hd0,hd1,e7]
    refine next (told.set gn true) v' (fs ++ [⟨5,a,b,0⟩]) _ h7 (by simp [htl]) ?_ ?_ ?_ ?_ ?_ ?_ ?_ ?_ ?_ ?_ ?_ (fr7 _ _ gA6 (by intro vs e; simp at e)) (fr7 _ _ gt6 (by intro vs e; simp at e)) acc7 (Keeps.trans kk6 k7) ?_
    ·exact ag (by omega) (by omega) x0
    ·rfl
    ·exact y4
    ·exact ag (by omega) (by omega) x5
    ·exact y6
    ·exact ag (by omega) (by omega) x12
    ·exact ag (by omega) (by omega) x13
    ·exact ag (by omega) (by omega) x14
    ·exact ag (by omega) (by omega) x27
    ·exact ag (by omega) (by omega) x28
    ·exact ag (by omega) (by omega) x29
    ·rw [← hfs,hgn,Int.toNat_natCast]; simp
   ·intro hany ρ2 h5 agr k5
    rw [if_neg (by rw [hcond]; simp),if_pos hany] at hfs
    have ag : ∀ {i v},i < 62 → i ≠ 11 → ρ1 i = v → ρ2 i = v := fun {i v} a1 a2 e => (agr i a1 a2).trans e
    simp only [GR,evK,binV,intOp,strOp,shOp,unV,Nat.reduceLT,Nat.reduceEqDiff,Nat.reduceAdd,↓reduceIte,Nat.reduceLeDiff,reduceCtorEq]
    exact next told ov fs _ h5 htl (ag (by omega) (by omega) x0) (ag (by omega) (by omega) x3) (ag (by omega) (by omega) x4) (ag (by omega) (by omega) x5) (ag (by omega) (by omega) x6) (ag (by omega) (by omega) x12) (ag (by omega) (by omega) x13) (ag (by omega) (by omega) x14) (ag (by omega) (by omega) x27) (ag (by omega) (by omega) x28) (ag (by omega) (by omega) x29) (k5.of (k4.of gA3)) (k5.of gt4) ((acc3.keep k4).keep k5) (Kp.trans kk4 k5) hfs
  obtain ⟨sa,sc,so,hlv⟩ := hv.sl.len
  rw [List.length_map] at hlv
  simp only [GR,evK,binV,intOp,strOp,shOp,unV,Nat.reduceLT,Nat.reduceEqDiff,Nat.reduceAdd,↓reduceIte,Nat.reduceLeDiff,reduceCtorEq,q5,k4.of gA3,cA0,hgn,hgq',q6,Int.natCast_nonneg,Int.ofNat_lt,hgn8,Nat.mul_one,Int.toNat_natCast,Nat.zero_add,gt4,htg,r55_7,q0,hlv]
  refine key _ ?_ ?_ ?_ ?_ ?_ ?_ ?_ ?_ ?_ ?_ ?_ ?_ ?_ ?_ ?_ ?_
  ·exact q0
  ·exact q3
  ·exact q4
  ·exact q5
  ·exact q6
  ·rfl
  ·show iI _ = _; first | rfl | rw [hgn]
  ·exact q12
  ·exact q13
  ·exact q14
  ·exact q27
  ·exact q28
  ·exact q29
  ·exact hlv.symm
  ·rfl
  ·rfl
def f5 (ws : List WV) (a : Nat) : List Flaw := match ws[a]? with
 | some A => if A.x.up && A.x.booted then ahL ws a A.x ws.length 0 (List.replicate 8 false) else []
 | none => []
def F5 (ws : List WV) : List Flaw := (List.range ws.length).flatMap (f5 ws)
theorem f5_at {ws : List WV} {a : Nat} (ha : a < ws.length) : f5 ws a = if ws[a].x.up && ws[a].x.booted then ahL ws a ws[a].x ws.length 0 (List.replicate 8 false) else [] := by simp [f5,ha]
set_option maxHeartbeats 4000000 in
theorem ahead55 (F : Ff E) {h0 : H} {lv : V} {ws : List WV} (hv : VsIn h0 lv ws) (hlen : (F5 ws).length ≤ 1099511627775) : Sp P E (.func 55 [] []) [lv] h0 fun v h' => Acc h' h0.size 30 4 v ((F5 ws).map Flaw.cells) ∧ Kp h0 h' := by
 obtain ⟨sa,sc,so,hlv⟩ := hv.sl.len
 rw [List.length_map] at hlv
 have hm := hv.len
 have loop : ∀ (d k : Nat) (ρ : Nat → V) (h : H) (ov : V),ws.length - k = d → k ≤ ws.length → ρ 0 = lv → ρ 12 = lv → ρ 13 = iI ws.length → ρ 14 = iI k → ρ 3 = ov → Acc h h0.size 30 4 ov (((List.range k).flatMap (f5 ws)).map Flaw.cells) → Kp h0 h →
   XL P E none 104 b55_17 [.b 0,.c (.seq (.region r55_18) (.ret))] ρ h (Fin [.t 2] fun v h' => Acc h' h0.size 30 4 v ((F5 ws).map Flaw.cells) ∧ Kp h0 h') := by
  intro d
  induction d with
  | zero =>
   intro k ρ h ov hd hk q0 q12 q13 q14 q3 acc kk
   have hke : ¬ k < ws.length := by omega
   have hkk : k = ws.length := by omega
   subst hkk
   rw [u55_17]
   simp only [GR,evK,binV,intOp,strOp,unV,Nat.reduceLT,Nat.reduceEqDiff,↓reduceIte,q13,q14,Int.ofNat_lt,hke,r55_18,q3]
   exact ⟨acc,kk⟩
  | succ d ih =>
   intro k ρ h ov hd hk q0 q12 q13 q14 q3 acc kk
   have hke : k < ws.length := by omega
   have hvh := hv.keep kk
   obtain ⟨b,o,cap,opn,cs,ty,op,ro,fz,va,hg,hll,he,hn⟩ := view_nth hvh.sl hke
   have q12' : ρ 12 = V.slice (some (b,o)) ws.length cap opn := by rw [q12,va]
   have wA := hvh.ins _ (List.getElem_mem hke)
   obtain ⟨h3,e3,g3,k3,z3⟩ := put_fresh h (vs := View.zero.cells) (ws := ws[k].x.cells) (ty := 63) rfl wA.one rfl
   have kk3 := Kp.trans kk k3
   have g2 : ws[k].x.cells[2]? = some (.bool ws[k].x.up) := View.g2 _
   have g4 : ws[k].x.cells[4]? = some (.bool ws[k].x.booted) := View.g4 _
   have hw : IntKind.i64.wrap ((k : Int) + 1) = ((k + 1 : Nat) : Int) := wrap_nat (n := k + 1) (by omega)
   have hel : ws[k].x.cells.length = 21 := rfl
   have hf := f5_at hke
   have hstep := range_step (f5 ws) k
   have hlenk : ((List.range (k + 1)).flatMap (f5 ws)).length ≤ 1099511627775 := by
    have := range_pre (f5 ws) (k + 1) (ws.length - (k + 1))
    rw [show k + 1 + (ws.length - (k + 1)) = ws.length by omega] at this
    exact Nat.le_trans this.length_le hlen
   unfold getR at he
   have next : ∀ (ρ2 : Nat → V) (h4 : H) (ov2 : V),ρ2 0 = lv → ρ2 12 = lv → ρ2 13 = iI ws.length → ρ2 14 = iI k → ρ2 3 = ov2 → Acc h4 h0.size 30 4 ov2 (((List.range (k + 1)).flatMap (f5 ws)).map Flaw.cells) → Kp h0 h4 → XO P E none 104 r55_16 [.l b55_17,.b 0,.c (.seq (.region r55_18) (.ret))] ρ2 h4 (Fin [.t 2] fun v h' => Acc h' h0.size 30 4 v ((F5 ws).map Flaw.cells) ∧ Kp h0 h') := by
    intro ρ2 h4 ov2 y0 y12 y13 y14 y3 acc2 kk2
    simp only [GR,evK,binV,intOp,strOp,unV,Nat.reduceLT,Nat.reduceEqDiff,↓reduceIte,r55_16,y14,hw]
    refine ih (k + 1) _ h4 ov2 (by omega) (by omega) ?_ ?_ ?_ ?_ ?_ acc2 kk2
    ·exact y0
    ·exact y12
    ·exact y13
    ·rfl
    ·exact y3
   have gx3 := g3
   generalize hxc : ws[k].x.cells = xc at e3 g2 g4 hel he g3
   simp only [View.zero,View.cells] at e3
   rw [u55_17]
   simp only [GR,evK,binV,intOp,strOp,unV,Nat.reduceLT,Nat.reduceEqDiff,↓reduceIte,q13,q14,Int.ofNat_lt,hke,r55_1,q12',Int.natCast_nonneg,Int.toNat_natCast,hg,hll,he,hel,e3]
   cases hup : ws[k].x.up with
   | false =>
    rw [hup] at g2 hf
    simp only [Bool.false_and,Bool.false_eq_true,if_false] at hf
    rw [hf,List.append_nil] at hstep
    simp only [GR,evK,binV,intOp,strOp,unV,Nat.reduceLT,Nat.reduceEqDiff,↓reduceIte,r55_2,g3,g2]
    refine next _ h3 ov ?_ ?_ ?_ ?_ ?_ (by rw [hstep]; exact acc.keep k3) kk3
    ·exact q0
    ·exact q12
    ·exact q13
    ·exact q14
    ·exact q3
   | true =>
   rw [hup] at g2 hf
   cases hbo : ws[k].x.booted with
   | false =>
    rw [hbo] at g4 hf
    simp only [Bool.and_false,Bool.false_eq_true,if_false] at hf
    rw [hf,List.append_nil] at hstep
    simp only [GR,evK,binV,intOp,strOp,unV,Nat.reduceLT,Nat.reduceEqDiff,↓reduceIte,r55_2,g3,g2,g4]
    refine next _ h3 ov ?_ ?_ ?_ ?_ ?_ (by rw [hstep]; exact acc.keep k3) kk3
    ·exact q0
    ·exact q12
    ·exact q13
    ·exact q14
    ·exact q3
   | true =>
    rw [hbo] at g4 hf
    simp only [Bool.and_self,if_true] at hf
    rw [hf] at hstep
    rw [hstep] at hlenk
    have k4 : Kp h3 (h3.psh (.cells [.bool false,.bool false,.bool false,.bool false,.bool false,.bool false,.bool false,.bool false] 125 false false none)) := Keeps.psh (Nat.le_refl _) _
    have gt := psh_same h3 (.cells [.bool false,.bool false,.bool false,.bool false,.bool false,.bool false,.bool false,.bool false] 125 false false none)
    simp only [GR,evK,binV,intOp,strOp,unV,Nat.reduceLT,Nat.reduceEqDiff,↓reduceIte,r55_2,g3,g2,g4,r55_3,q0,hlv]
    refine loop15 F hv (a := k) (A := ws[k].x) (bv := h.size) (bt := h3.size) hlenk kk3.size (u12 := lv) (u13 := iI ws.length) (u14 := iI k) ?_ _ 0 (List.replicate 8 false) ov ((List.range k).flatMap (f5 ws)) _ _ rfl (Nat.zero_le _) rfl ?_ ?_ ?_ ?_ ?_ ?_ ?_ ?_ ?_ ?_ ?_ (k4.of gx3) gt (acc.keep (Kp.trans k3 k4)) (Kp.trans kk3 k4) rfl
    ·intro ρ2 h5 ov2 y0 y3 y12 y13 y14 acc2 kk2
     simp only [GR,evK,binV,intOp,strOp,unV,Nat.reduceLT,Nat.reduceEqDiff,↓reduceIte]
     exact next _ h5 ov2 y0 y12 y13 y14 y3 (by rw [hstep]; exact acc2) kk2
    ·exact q0
    ·exact q3
    ·rfl
    ·rfl
    ·rfl
    ·exact q12
    ·exact q13
    ·exact q14
    ·exact hlv.symm
    ·rfl
    ·rfl
 refine Sp_fn F.f55 F.p55 (by simp [fn55]) ?_
 simp only [GR,evK,binV,intOp,strOp,unV,Nat.reduceLT,Nat.reduceEqDiff,↓reduceIte,fn55,c55,r55_0,hlv]
 refine loop ws.length 0 _ h0 _ rfl (Nat.zero_le _) ?_ ?_ ?_ ?_ ?_ (Acc.nil _ _ _ _) (Keeps.refl _ _)
 ·exact hlv.symm
 ·exact hlv.symm
 ·rfl
 ·rfl
 ·rfl
noncomputable def ck (ws : List WV) : Nat → List Flaw
 | 0 => F1 ws | 1 => F2 ws | 2 => F3 ws | 3 => F4 ws | _ => F5 ws
noncomputable def allF (ws : List WV) : List Flaw := (List.range 5).flatMap (ck ws)
theorem acc_elems {h : H} {lo ty sz : Nat} {v : V} {xs : List (List V)} (a : Acc h lo ty sz v xs) : elemsV h sz xs.length v = some xs.flatten ∧ ∃ p c o,v = .slice p xs.length c o := by
 have hfl := flatten_length a.elem
 rcases a.shape with ⟨rfl,rfl⟩ | ⟨b,rfl,h2,h3⟩
 ·exact ⟨by simp [elemsV],_,_,_,rfl⟩
 ·refine ⟨?_,_,_,_,rfl⟩
  simp only [elemsV]
  by_cases h0 : xs.length * sz = 0
  ·rw [if_pos h0]
   have : xs.flatten = [] := List.eq_nil_of_length_eq_zero (by rw [hfl]; exact h0)
   rw [this]
  ·rw [if_neg h0]
   simp only [h3,Nat.zero_add,hfl,Nat.le_refl,if_true]
   rw [getR_all hfl]
set_option maxHeartbeats 4000000 in
theorem flaws25 (F : Ff E) {h0 : H} {lv : V} {ws : List WV} (hv : VsIn h0 lv ws) (hlen : (allF ws).length ≤ 1099511627775)
  (hck : ∀ k,k < 5 → ∀ h,VsIn h lv ws → Sp P E (.func (51 + k) [] []) [lv] h fun v h' => Acc h' h.size 30 4 v ((ck ws k).map Flaw.cells) ∧ Kp h h') : Sp P E (.func 25 [] []) [lv] h0 fun v h' => Acc h' h0.size 30 4 v ((allF ws).map Flaw.cells) ∧ Kp h0 h' := by
 have loop : ∀ (d k : Nat) (ρ : Nat → V) (h : H) (ov : V),5 - k = d → k ≤ 5 → ρ 0 = lv → ρ 11 = .slice (some (h0.size,0)) 5 5 false → ρ 12 = iI (5 : Nat) → ρ 13 = iI k → ρ 3 = ov → cC h h0.size ((List.range 5).map fun k => V.func (51 + k) [] []) 102 → Acc h h0.size 30 4 ov (((List.range k).flatMap (ck ws)).map Flaw.cells) → Kp h0 h →
   XL P E none 25 b25_4 [.b 0,.c (.seq (.region r25_5) (.ret))] ρ h (Fin [.t 2] fun v h' => Acc h' h0.size 30 4 v ((allF ws).map Flaw.cells) ∧ Kp h0 h') := by
  intro d
  induction d with
  | zero =>
   intro k ρ h ov hd hk q0 q11 q12 q13 q3 gf acc kk
   have hke : ¬ k < 5 := by omega
   have hkk : k = 5 := by omega
   rw [hkk] at acc
   rw [u25_4]
   simp only [GR,evK,binV,intOp,strOp,shOp,unV,Nat.reduceLT,Nat.reduceEqDiff,Nat.reduceAdd,↓reduceIte,Nat.reduceLeDiff,reduceCtorEq,q12,q13,Int.ofNat_lt,hke,r25_5,q3]
   exact ⟨acc,kk⟩
  | succ d ih =>
   intro k ρ h ov hd hk q0 q11 q12 q13 q3 gf acc kk
   have hke : k < 5 := by omega
   have hvh := hv.keep kk
   have gk : ((List.range 5).map fun k => V.func (51 + k) [] [])[k]? = some (.func (51 + k) [] []) := by simp [hke]
   have gt1 : List.take 1 (List.drop k ((List.range 5).map fun k => V.func (51 + k) [] [])) = [.func (51 + k) [] []] := by
    match k,hke with
    | 0,_ => rfl | 1,_ => rfl | 2,_ => rfl | 3,_ => rfl | 4,_ => rfl
   have hll : k + 1 ≤ ((List.range 5).map fun k => V.func (51 + k) [] []).length := by simp; omega
   obtain ⟨h3,e3,g3,k3,z3⟩ := put_fresh h (vs := [.nilFunc]) (ws := [.func (51 + k) [] []]) (ty := 102) rfl rfl rfl
   have hw : IntKind.i64.wrap ((k : Int) + 1) = ((k + 1 : Nat) : Int) := wrap_nat (n := k + 1) (by omega)
   have hstep := range_step (ck ws) k
   have hlenk : ((List.range (k + 1)).flatMap (ck ws)).length ≤ 1099511627775 := by
    have := range_pre (ck ws) (k + 1) (5 - (k + 1))
    rw [show k + 1 + (5 - (k + 1)) = 5 by omega] at this
    exact Nat.le_trans this.length_le hlen
   have kk3 := Kp.trans kk k3
   generalize hcs : ((List.range 5).map fun k => V.func (51 + k) [] []) = cs at *
   rw [u25_4]
   simp only [GR,evK,binV,intOp,strOp,shOp,unV,Nat.reduceLT,Nat.reduceEqDiff,Nat.reduceAdd,↓reduceIte,Nat.reduceLeDiff,reduceCtorEq,q12,q13,Int.ofNat_lt,hke,r25_1,q11,Int.natCast_nonneg,Int.toNat_natCast,gf,Nat.zero_add,Nat.mul_one,hll,gt1,e3,r25_2,q3,g3,q0]
   refine XC_of (hck k hke h3 (hvh.keep k3)) ?_
   rintro v h4 ⟨accv,k4⟩
   obtain ⟨ev,pv,cv,ov',hvv⟩ := acc_elems accv
   have kk4 := Kp.trans kk3 k4
   obtain ⟨v',h5,e5,acc5,k5,⟨p5,n5,c5,o5,hv5⟩,s5,fr5⟩ := app_fr (bytes := 32) (x := v) (acc.keep (Kp.trans k3 k4)) kk4.size (by rw [hvv]; rfl) ev (fun y hy => by obtain ⟨z,_,rfl⟩ := List.mem_map.1 hy; exact ⟨rfl,rfl⟩) (by rw [hstep,List.length_append] at hlenk; simp only [List.length_map]; omega)
   simp only [GR,evK,binV,intOp,strOp,shOp,unV,Nat.reduceLT,Nat.reduceEqDiff,Nat.reduceAdd,↓reduceIte,Nat.reduceLeDiff,reduceCtorEq,q3,e5,r25_3,q13,hw]
   refine ih (k + 1) _ h5 v' (by omega) (by omega) ?_ ?_ ?_ ?_ ?_ (fr5 _ _ ((Kp.trans k3 k4).of gf) (by intro vs e; simp at e)) (by rw [hstep,List.map_append]; exact acc5) (Keeps.trans kk4 k5)
   ·exact q0
   ·exact q11
   ·exact q12
   ·rfl
   ·rfl
 have kf : Kp h0 (h0.psh (.cells [.func 51 [] [],.func 52 [] [],.func 53 [] [],.func 54 [] [],.func 55 [] []] 102 false false none)) := Keeps.psh (Nat.le_refl _) _
 refine Sp_fn F.f25 F.p25 (by simp [fn25]) ?_
 simp only [GR,evK,binV,intOp,strOp,shOp,unV,Nat.reduceLT,Nat.reduceEqDiff,Nat.reduceAdd,↓reduceIte,Nat.reduceLeDiff,reduceCtorEq,fn25,c25,r25_0]
 refine loop 5 0 _ _ _ rfl (Nat.zero_le _) ?_ ?_ ?_ ?_ ?_ (psh_same _ _) (Acc.nil _ _ _ _) kf
 ·rfl
 ·rfl
 ·rfl
 ·rfl
 ·rfl
theorem fl_len {fs : List Flaw} : ∀ y ∈ fs.map Flaw.cells,y.length = 4 := by
 intro y hy; obtain ⟨x,_,rfl⟩ := List.mem_map.1 hy; rfl
theorem acc_get {h : H} {lo : Nat} {v : V} {fs : List Flaw} (a : Acc h lo 30 4 v (fs.map Flaw.cells)) {k : Nat} (hk : k < fs.length) : ∃ b cs,v = .slice (some (b,0)) fs.length fs.length true ∧ h.get b = some (.cells cs 30 true false none) ∧ k * 4 + 4 ≤ cs.length ∧ List.take 4 (List.drop (k * 4) cs) = fs[k].cells := by
 rcases a.shape with ⟨h0,_⟩ | ⟨b,rfl,h2,h3⟩
 ·have : fs = [] := List.map_eq_nil_iff.1 h0
  subst this; simp at hk
 ·refine ⟨b,_,by simp,h3,?_,flat_get _ k _ fl_len (by simp [hk])⟩
  have := flat_len (fs.map Flaw.cells) fl_len
  rw [this,List.length_map]; omega
set_option maxHeartbeats 1000000 in
theorem flaws26 (F : Ff E) {l bo lo : Nat} {ov : V} {all : List Flaw} (hm : all.length ≤ 1099511627775) {Inv : List Flaw → H → Prop} {Stp : H → Prop} (hK : ∀ r h h',Inv r h → Kp h h' → Inv r h')
  (hI : ∀ r h,Inv r h → (∃ ty,cC h bo [ov] ty) ∧ Acc h lo 30 4 ov (all.map Flaw.cells))
  (hy : ∀ f r h,Inv (f :: r) h → Sp P E (.yield l) [.agg f.cells] h fun v h' => (v = .bool true ∧ Inv r h') ∨ (v = .bool false ∧ Stp h')) {h0 : H} (h00 : Inv all h0) :
  Sp P E (.func 26 [] [pP bo]) [.yield l] h0 fun _ h' => Inv [] h' ∨ Stp h' := by
 have loop : ∀ (d k : Nat) (ρ : Nat → V) (h : H),all.length - k = d → k ≤ all.length → ρ 0 = .yield l → ρ 5 = ov → ρ 6 = iI all.length → ρ 7 = iI k → Inv (all.drop k) h →
   XL P E none 16 b26_4 [.b 0] ρ h (Fin [] fun _ h' => Inv [] h' ∨ Stp h') := by
  intro d
  induction d with
  | zero =>
   intro k ρ h hd hk q0 q5 q6 q7 inv
   have hke : ¬ k < all.length := by omega
   rw [List.drop_eq_nil_of_le (by omega)] at inv
   rw [u26_4]
   simp only [GR,evK,binV,intOp,strOp,unV,Nat.reduceLT,Nat.reduceEqDiff,↓reduceIte,q6,q7,Int.ofNat_lt,hke]
   exact .inl inv
  | succ d ih =>
   intro k ρ h hd hk q0 q5 q6 q7 inv
   have hke : k < all.length := by omega
   obtain ⟨_,acc⟩ := hI _ _ inv
   obtain ⟨b,cs,hov,hg,hll,he⟩ := acc_get acc hke
   have q5' := q5.trans hov
   obtain ⟨h3,e3,g3,k3,z3⟩ := put_fresh h (vs := [iI 0,iI 0,iI 0,iI 0]) (ws := all[k].cells) (ty := 30) rfl rfl rfl
   have inv3 := hK _ _ _ inv k3
   rw [List.drop_eq_getElem_cons hke] at inv3
   have hel : all[k].cells.length = 4 := rfl
   have hpl : List.take 4 all[k].cells = all[k].cells := rfl
   have hw : IntKind.i64.wrap ((k : Int) + 1) = ((k + 1 : Nat) : Int) := wrap_nat (n := k + 1) (by omega)
   have sp := hy _ _ _ inv3
   generalize hxc : all[k].cells = xc at *
   rw [u26_4]
   simp only [GR,evK,binV,intOp,strOp,unV,Nat.reduceLT,Nat.reduceEqDiff,↓reduceIte,q6,q7,Int.ofNat_lt,hke,r26_1,q5',Int.natCast_nonneg,Int.toNat_natCast,hg,Nat.zero_add,hll,he,hel,e3,r26_2,q0,g3,hpl]
   refine XC_of sp ?_
   rintro v h4 (⟨rfl,inv4⟩ | ⟨rfl,st⟩)
   ·simp only [GR,evK,binV,intOp,strOp,unV,Nat.reduceLT,Nat.reduceEqDiff,↓reduceIte,Bool.not_true,r26_3,q7,hw]
    refine ih (k + 1) _ h4 (by omega) (by omega) ?_ ?_ ?_ ?_ inv4
    ·exact q0
    ·exact q5
    ·exact q6
    ·rfl
   ·simp only [GR,evK,binV,intOp,strOp,unV,Nat.reduceLT,Nat.reduceEqDiff,↓reduceIte,Bool.not_false]
    exact .inr st
 obtain ⟨⟨ty,gx⟩,acc⟩ := hI _ _ h00
 obtain ⟨_,p,c,o,hv⟩ := acc_elems acc
 rw [List.length_map] at hv
 rw [hv] at gx
 refine Sp_fn F.f26 F.p26 (by simp [fn26]) ?_
 simp only [GR,evK,binV,intOp,strOp,unV,Nat.reduceLT,Nat.reduceEqDiff,↓reduceIte,fn26,c26,r26_0,gx]
 refine loop all.length 0 _ h0 rfl (Nat.zero_le _) ?_ ?_ ?_ ?_ h00
 ·rfl
 ·exact hv.symm
 ·rfl
 ·rfl
theorem flaws8 (F : Ff E) {h0 : H} {lv : V} {ws : List WV}
  (sp : Sp P E (.func 25 [] []) [lv] h0 fun v h' => Acc h' h0.size 30 4 v ((allF ws).map Flaw.cells) ∧ Kp h0 h') : Sp P E (.func 8 [] []) [lv] h0 fun v h' => ∃ bo ov,v = .func 26 [] [pP bo] ∧ cC h' bo [ov] 24 ∧ Acc h' h0.size 30 4 ov ((allF ws).map Flaw.cells) ∧ Kp h0 h' := by
 refine Sp_fn F.f8 F.p8 (by simp [fn8]) ?_
 simp only [GR,evK,binV,intOp,strOp,unV,Nat.reduceLT,Nat.reduceEqDiff,↓reduceIte,fn8,c8,r8_0]
 refine XC_of sp ?_
 rintro v h1 ⟨acc,k1⟩
 obtain ⟨_,p,c,o,hv⟩ := acc_elems acc
 obtain ⟨h3,e3,g3,k3,z3⟩ := put_fresh h1 (vs := [sN]) (ws := [v]) (ty := 24) rfl (by rw [hv]; rfl) rfl
 have acc3 := acc.keep k3
 rw [hv] at e3 g3 acc3 ⊢
 simp only [GR,evK,binV,intOp,strOp,unV,Nat.reduceLT,Nat.reduceEqDiff,↓reduceIte,e3,r8_1]
 exact ⟨_,_,rfl,g3,acc3,Kp.trans k1 k3⟩
set_option maxHeartbeats 4000000 in
theorem chosen19 (F : Ff E) (G : Fa E) {h0 : H} {lv : V} {ws : List WV} (hv : VsIn h0 lv ws) {a b : Nat} (ha : a < ws.length) (hb : b < ws.length) (hlen : (f1 ws (a,b)).length ≤ 1099511627775) :
  Sp P E (.func 19 [] []) [lv,iI a,iI b] h0 fun v h' => Acc h' h0.size 30 4 v ((f1 ws (a,b)).map Flaw.cells) ∧ Kp h0 h' := by
 have hm := hv.len
 have hfa := f1_at ha hb
 have wA0 := hv.ins _ (List.getElem_mem ha)
 have wB0 := hv.ins _ (List.getElem_mem hb)
 have hael := wA0.elen
 obtain ⟨b0,o0,c0,p0,cs,ty,op,ro,fz,va,hg,hla,hea,hna⟩ := view_nth hv.sl ha
 obtain ⟨b1,o1,c1,p1,cs1,ty1,op1,ro1,fz1,vb,hg1,hlb,heb,hnb⟩ := view_nth hv.sl hb
 have hvv := va.symm.trans vb
 cases hvv
 rw [hg] at hg1; cases hg1
 have ea0 : cs[o0 + a * 21]? = some (iI ws[a].x.at_.group) := by have := hna 0 _ (View.g0 ws[a].x); simpa using this
 have eb0 : cs[o0 + b * 21]? = some (iI ws[b].x.at_.group) := by have := hnb 0 _ (View.g0 ws[b].x); simpa using this
 have ea6 := hna 6 _ (View.g6 ws[a].x)
 have ea7 := hna 7 _ (View.g7 ws[a].x)
 have nja := wA0.nj
 have njb := wB0.nj
 unfold getR at hea heb
 have fe : ∀ z : Entry,z.cells.length = 56 := fun _ => rfl
 have pe : ∀ z : Entry,List.take 56 z.cells = z.cells := fun _ => rfl
 have loop : okF ws[a].x.first = true → ∀ (d i : Nat) (fs : List Flaw) (ρ : Nat → V) (h : H) (ov : V),ws[a].es.length - i = d → i ≤ ws[a].es.length → ρ 0 = lv → ρ 1 = iI a → ρ 2 = iI b → ρ 7 = ov → ρ 8 = iI i → Acc h h0.size 30 4 ov (fs.map Flaw.cells) → Kp h0 h → ws[a].x.at_.group == ws[b].x.at_.group →
   fs ++ ((if okF ws[b].x.first then chsL ws[a] ws[b] d i else []).map fun s => Flaw.mk 1 a b s) = f1 ws (a,b) →
   XL P E none 81 b19_7 [.b 0,.c (.seq (.region r19_8) (.ret))] ρ h (Fin [.t 6] fun v h' => Acc h' h0.size 30 4 v ((f1 ws (a,b)).map Flaw.cells) ∧ Kp h0 h') := by
  intro hok d
  obtain ⟨fa0,fa1⟩ := okF_iff.1 hok
  induction d with
  | zero =>
   intro i fs ρ h ov hd hi q0 q1 q2 q7 q8 acc kk hgr hfs
   have hie : ¬ i < ws[a].es.length := by omega
   have hz : (if okF ws[b].x.first then chsL ws[a] ws[b] 0 i else []) = [] := by split <;> rfl
   rw [hz,List.map_nil,List.append_nil] at hfs
   obtain ⟨sa,sc,so,hsv⟩ := wA0.chosen.len
   rw [List.length_map] at hsv
   have ea7' := ea7
   rw [hsv] at ea7'
   have hgh := kk.of hg
   have q0' := q0.trans va
   rw [u19_7]
   simp only [GR,evK,binV,intOp,strOp,shOp,unV,Nat.reduceLT,Nat.reduceEqDiff,Nat.reduceAdd,↓reduceIte,Nat.reduceLeDiff,reduceCtorEq,r19_1,q8,q0',q1,Int.natCast_nonneg,Int.ofNat_lt,ha,Int.toNat_natCast,hgh,ea7',hie,r19_8,q7]
   exact ⟨by rw [← hfs]; exact acc,kk⟩
  | succ d ih =>
   intro i fs ρ h ov hd hi q0 q1 q2 q7 q8 acc kk hgr hfs
   have hie : i < ws[a].es.length := by omega
   have wA := wA0.keep kk
   have wB := wB0.keep kk
   have hgh := kk.of hg
   have q0' := q0.trans va
   obtain ⟨be,oe,ce,pe',ces,ety,eop,ero,efz,ev1,ehg,ehll,ehe⟩ := wA.chosen.get (k := i) (x := ws[a].es[i].1.cells) (by simp [hie])
   rw [List.length_map] at ev1
   have ea7' := ea7
   rw [ev1] at ea7'
   have hmem := List.getElem_mem hie
   have hw : IntKind.i64.wrap ((i : Int) + 1) = ((i + 1 : Nat) : Int) := wrap_nat (n := i + 1) (by omega)
   have hw2 : IntKind.i64.wrap (ws[a].x.first + (i : Int)) = ws[a].x.first + i := wrapI (by omega) (by omega)
   have sp := at28 (P := P) G (s := ws[a].x.first + i) wB (by omega) (by omega)
   rw [u19_7]
   simp only [GR,evK,binV,intOp,strOp,shOp,unV,Nat.reduceLT,Nat.reduceEqDiff,Nat.reduceAdd,↓reduceIte,Nat.reduceLeDiff,reduceCtorEq,r19_1,q8,q0',q1,Int.natCast_nonneg,Int.ofNat_lt,ha,Int.toNat_natCast,hgh,ea7',hie,r19_2,ea6,hw2,r19_3,q2,hb,hlb,heb]
   refine XC_of sp ?_
   rintro _ h4 ⟨rfl,k4⟩
   have hfl : fs.length ≤ 1099511627775 := by
    have := congrArg List.length hfs
    rw [List.length_append] at this
    omega
   have next : ∀ (fs2 : List Flaw) (ρ2 : Nat → V) (h5 : H) (ov2 : V),ρ2 0 = lv → ρ2 1 = iI a → ρ2 2 = iI b → ρ2 7 = ov2 → ρ2 8 = iI i → Acc h5 h0.size 30 4 ov2 (fs2.map Flaw.cells) → Kp h0 h5 →
     fs2 ++ ((if okF ws[b].x.first then chsL ws[a] ws[b] d (i + 1) else []).map fun s => Flaw.mk 1 a b s) = f1 ws (a,b) →
     XO P E none 81 r19_6 [.l b19_7,.b 0,.c (.seq (.region r19_8) (.ret))] ρ2 h5 (Fin [.t 6] fun v h' => Acc h' h0.size 30 4 v ((f1 ws (a,b)).map Flaw.cells) ∧ Kp h0 h') := by
    intro fs2 ρ2 h5 ov2 y0 y1 y2 y7 y8 acc2 kk2 hf2
    simp only [GR,evK,binV,intOp,strOp,shOp,unV,Nat.reduceLT,Nat.reduceEqDiff,Nat.reduceAdd,↓reduceIte,Nat.reduceLeDiff,reduceCtorEq,r19_6,y8,hw]
    refine ih (i + 1) fs2 _ h5 ov2 (by omega) (by omega) ?_ ?_ ?_ ?_ ?_ acc2 kk2 hgr hf2
    ·exact y0
    ·exact y1
    ·exact y2
    ·exact y7
    ·rfl
   have hz : Entry.zero.cells.all V.one = true := by decide
   cases hp : atR ws[b] (ws[a].x.first + i) with
   | none =>
    have hfs2 : fs ++ ((if okF ws[b].x.first then chsL ws[a] ws[b] d (i + 1) else []).map fun s => Flaw.mk 1 a b s) = f1 ws (a,b) := by
     rw [← hfs]
     unfold atR at hp
     split at hp
     ·rename_i hokb
      rw [if_pos hokb,if_pos hokb]
      simp only [chsL,List.getElem?_eq_getElem hie,hp]
     ·rename_i hokb
      rw [if_neg hokb,if_neg hokb]
    obtain ⟨h5,e5,g5,k5,z5⟩ := put_fresh h4 (vs := Entry.zero.cells) (ws := (entOf none).cells) (ty := 49) rfl hz rfl
    have fle := fe (entOf none)
    have k45 := Kp.trans k4 k5
    generalize hyc : (entOf none).cells = yc at *
    simp only [Entry.zero,Entry.cells,Opr.cells,Epoch.cells,Vec.cells,Part.cells] at e5
    simp only [GR,evK,binV,intOp,strOp,shOp,unV,Nat.reduceLT,Nat.reduceEqDiff,Nat.reduceAdd,↓reduceIte,Nat.reduceLeDiff,reduceCtorEq,fle,e5,Option.isSome_none]
    rw [X_draw]
    refine d19_4 ?_
    simp only [GR,evK,binV,intOp,strOp,shOp,unV,Nat.reduceLT,Nat.reduceEqDiff,Nat.reduceAdd,↓reduceIte,Nat.reduceLeDiff,reduceCtorEq,r19_4]
    refine next fs _ h5 ov ?_ ?_ ?_ ?_ ?_ (acc.keep k45) (Kp.trans kk k45) hfs2
    ·exact q0
    ·exact q1
    ·exact q2
    ·exact q7
    ·exact q8
   | some p =>
    have hokb : okF ws[b].x.first = true := by
     unfold atR at hp; split at hp
     ·assumption
     ·cases hp
    have hpw : atW ws[b] (ws[a].x.first + i) = some p := by
     unfold atR at hp; rw [if_pos hokb] at hp; exact hp
    rw [if_pos hokb] at hfs
    simp only [chsL,List.getElem?_eq_getElem hie,hpw] at hfs
    have hone : p.1.cells.all V.one = true := (wB.ents p (at_mem hpw)).one
    obtain ⟨h5,e5,g5,k5,z5⟩ := put_fresh h4 (vs := Entry.zero.cells) (ws := p.1.cells) (ty := 49) rfl hone rfl
    have k45 := Kp.trans k4 k5
    have hent : entOf (some p) = p.1 := rfl
    rw [hent]
    have fle := fe p.1
    have ple := pe p.1
    have njp : V.njL p.1.cells = true := (wB.ents p (at_mem hpw)).nj
    have nje : V.njL ws[a].es[i].1.cells = true := (wA.ents _ hmem).nj
    have sp2 := ent11 (P := P) G ((wB.keep k45).ents p (at_mem hpw)) ((wA.keep k45).ents _ hmem)
    have hg5 := k45.of hgh
    have ehg5 := k45.of ehg
    unfold getR at ehe
    generalize hyc : p.1.cells = yc at *
    generalize hxc : ws[a].es[i].1.cells = xc at *
    simp only [Entry.zero,Entry.cells,Opr.cells,Epoch.cells,Vec.cells,Part.cells] at e5
    simp only [GR,evK,binV,intOp,strOp,shOp,unV,Nat.reduceLT,Nat.reduceEqDiff,Nat.reduceAdd,↓reduceIte,Nat.reduceLeDiff,reduceCtorEq,fle,e5,Option.isSome_some]
    rw [X_draw]
    refine d19_4 ?_
    simp only [GR,evK,binV,intOp,strOp,shOp,unV,Nat.reduceLT,Nat.reduceEqDiff,Nat.reduceAdd,↓reduceIte,Nat.reduceLeDiff,reduceCtorEq,r19_4,g5,fle,ple,njp,q0',q1,Int.natCast_nonneg,Int.ofNat_lt,ha,Int.toNat_natCast,hg5,ea7',q8,hie,ehg5,ehll,ehe,nje]
    refine XCD_of sp2 ?_
    rintro _ h6 ⟨rfl,k6⟩
    have k456 := Kp.trans k45 k6
    by_cases heq : p.2 = ws[a].es[i].2
    ·have hd1 : decide (p.2 = ws[a].es[i].2) = true := decide_eq_true heq
     rw [if_pos heq.symm] at hfs
     simp only [GR,evK,binV,intOp,strOp,shOp,unV,Nat.reduceLT,Nat.reduceEqDiff,Nat.reduceAdd,↓reduceIte,Nat.reduceLeDiff,reduceCtorEq,hd1,Bool.not_true]
     refine next fs _ h6 ov ?_ ?_ ?_ ?_ ?_ (acc.keep k456) (Kp.trans kk k456) (by rw [if_pos hokb]; exact hfs)
     ·exact q0
     ·exact q1
     ·exact q2
     ·exact q7
     ·exact q8
    ·have hd1 : decide (p.2 = ws[a].es[i].2) = false := decide_eq_false heq
     rw [if_neg (fun e => heq e.symm)] at hfs
     obtain ⟨v',h7,e7,acc7,k7,fr7⟩ := Acc.flaw (acc.keep k456) (Kp.trans kk k456).size hfl ⟨1,a,b,ws[a].x.first + i⟩
     have hfc : (Flaw.mk 1 a b (ws[a].x.first + i)).cells = [iI 1,iI a,iI b,iI (ws[a].x.first + i)] := rfl
     rw [hfc] at e7
     have hdd : List.drop 4 [iI 0,iI 0,iI 0,iI 0] = [] := rfl
     simp only [GR,evK,binV,intOp,strOp,shOp,unV,Nat.reduceLT,Nat.reduceEqDiff,Nat.reduceAdd,↓reduceIte,Nat.reduceLeDiff,reduceCtorEq,hd1,Bool.not_false,r19_5,q7,q1,q2,hdd,e7]
     refine next (fs ++ [⟨1,a,b,ws[a].x.first + i⟩]) _ h7 v' ?_ ?_ ?_ ?_ ?_ acc7 (Keeps.trans (Kp.trans kk k456) k7) (by rw [if_pos hokb,← hfs]; simp)
     ·exact q0
     ·exact q1
     ·exact q2
     ·rfl
     ·exact q8
 refine Sp_fn F.f19 F.p19 (by simp [fn19]) ?_
 rw [va]
 cases c1 : ws[a].x.at_.group == ws[b].x.at_.group with
 | false =>
  have m1 : (ws[a].x.at_.group != ws[b].x.at_.group) = true := by simp only [bne,c1]; rfl
  rw [c1] at hfa
  simp only [GR,evK,binV,intOp,strOp,shOp,unV,Nat.reduceLT,Nat.reduceEqDiff,Nat.reduceAdd,↓reduceIte,Nat.reduceLeDiff,reduceCtorEq,fn19,c19]
  rw [X_draw]
  refine d19_0 ?_
  simp only [GR,evK,binV,intOp,strOp,shOp,unV,Nat.reduceLT,Nat.reduceEqDiff,Nat.reduceAdd,↓reduceIte,Nat.reduceLeDiff,reduceCtorEq,r19_0,Int.natCast_nonneg,Int.ofNat_lt,ha,hb,Int.toNat_natCast,hg,ea0,eb0,m1]
  exact ⟨by rw [hfa]; exact Acc.nil _ _ _ _,Keeps.refl _ _⟩
 | true =>
  have m1 : (ws[a].x.at_.group != ws[b].x.at_.group) = false := by simp only [bne,c1]; rfl
  simp only [GR,evK,binV,intOp,strOp,shOp,unV,Nat.reduceLT,Nat.reduceEqDiff,Nat.reduceAdd,↓reduceIte,Nat.reduceLeDiff,reduceCtorEq,fn19,c19]
  rw [X_draw]
  refine d19_0 ?_
  simp only [GR,evK,binV,intOp,strOp,shOp,unV,Nat.reduceLT,Nat.reduceEqDiff,Nat.reduceAdd,↓reduceIte,Nat.reduceLeDiff,reduceCtorEq,r19_0,Int.natCast_nonneg,Int.ofNat_lt,ha,hb,Int.toNat_natCast,hg,ea0,eb0,m1,hla,hea,nja]
  refine XCD_of (starts27 (P := P) G (x := ws[a].x)) ?_
  rintro _ h1 ⟨rfl,k1⟩
  cases c2 : okF ws[a].x.first with
  | false =>
   rw [c1,c2] at hfa
   simp only [GR,evK,binV,intOp,strOp,shOp,unV,Nat.reduceLT,Nat.reduceEqDiff,Nat.reduceAdd,↓reduceIte,Nat.reduceLeDiff,reduceCtorEq,Bool.not_false]
   exact ⟨by rw [hfa]; exact Acc.nil _ _ _ _,k1⟩
  | true =>
   simp only [GR,evK,binV,intOp,strOp,shOp,unV,Nat.reduceLT,Nat.reduceEqDiff,Nat.reduceAdd,↓reduceIte,Nat.reduceLeDiff,reduceCtorEq,Bool.not_true]
   refine loop c2 _ 0 [] _ h1 _ rfl (Nat.zero_le _) ?_ ?_ ?_ ?_ ?_ (Acc.nil _ _ _ _) k1 c1 ?_
   ·exact va.symm
   ·rfl
   ·rfl
   ·rfl
   ·rfl
   ·rw [hfa,c1,c2]
    simp only [Bool.true_and,List.nil_append]
    cases okF ws[b].x.first <;> simp [chosenS]
def lacksB (x A : View) (g : Int) : Bool := x.up && x.booted && x.at_.group == g && decide (vecAt x.vector g.toNat < vecAt A.vector g.toNat)
set_option maxHeartbeats 1000000 in
theorem lacks50 (F : Ff E) {x A : View} {g : Int} (hg : siteB g = true) {h : H} : Sp P E (.func 50 [] []) [.agg x.cells,.agg A.cells,iI g] h fun r h' => r = .bool (lacksB x A g) ∧ Kp h h' := by
 obtain ⟨hg0,hg8⟩ := siteB_iff.1 hg
 obtain ⟨gn,rfl⟩ : ∃ gn : Nat,g = gn := ⟨g.toNat,by omega⟩
 have hgn8 : gn < 8 := by omega
 have k1 : Kp h (h.psh (.cells x.cells 63 false false none)) := Keeps.psh (Nat.le_refl _) _
 have g1 := psh_same h (.cells x.cells 63 false false none)
 have s1 := psh_size h (.cells x.cells 63 false false none)
 have c0 : x.cells[0]? = some (iI x.at_.group) := View.g0 _
 have c2 : x.cells[2]? = some (.bool x.up) := View.g2 _
 have c4 : x.cells[4]? = some (.bool x.booted) := View.g4 _
 have cx : x.cells[11 + gn]? = some (iI (vecAt x.vector gn)) := vec_cell _ hgn8
 have cA : A.cells[11 + gn]? = some (iI (vecAt A.vector gn)) := vec_cell _ hgn8
 have hl : lacksB x A (gn : Int) = (x.up && x.booted && x.at_.group == (gn : Int) && decide (vecAt x.vector gn < vecAt A.vector gn)) := rfl
 refine Sp_fn F.f50 F.p50 (by simp [fn50]) ?_
 rw [hl]
 generalize hxc : x.cells = xc at *
 generalize hyc : A.cells = yc at *
 simp only [GR,evK,binV,intOp,strOp,unV,Nat.reduceLT,Nat.reduceEqDiff,↓reduceIte,fn50,c50,r50_0]
 generalize h.psh (.cells xc 63 false false none) = h1 at *
 have k2 : Kp h1 (h1.psh (.cells yc 63 false false none)) := Keeps.psh (Nat.le_refl _) _
 have g2 := psh_same h1 (.cells yc 63 false false none)
 have g12 := k2.of g1
 have kk := Kp.trans k1 k2
 generalize h1.psh (.cells yc 63 false false none) = h2 at *
 rw [X_draw,d50_1]
 cases hup : x.up with
 | false =>
  rw [hup] at c2
  simp only [GR,evK,binV,intOp,strOp,unV,Nat.reduceLT,Nat.reduceEqDiff,↓reduceIte,r50_1,g12,c2]
  exact ⟨rfl,kk⟩
 | true =>
 rw [hup] at c2
 cases hbo : x.booted with
 | false =>
  rw [hbo] at c4
  simp only [GR,evK,binV,intOp,strOp,unV,Nat.reduceLT,Nat.reduceEqDiff,↓reduceIte,r50_1,g12,c2,c4]
  exact ⟨rfl,kk⟩
 | true =>
 rw [hbo] at c4
 cases hgr : x.at_.group == (gn : Int) with
 | false =>
  simp only [GR,evK,binV,intOp,strOp,unV,Nat.reduceLT,Nat.reduceEqDiff,↓reduceIte,r50_1,g12,c2,c4,c0,hgr]
  exact ⟨rfl,kk⟩
 | true =>
  simp only [GR,evK,binV,intOp,strOp,unV,Nat.reduceLT,Nat.reduceEqDiff,↓reduceIte,r50_1,g12,c2,c4,c0,hgr,Int.natCast_nonneg,Int.ofNat_lt,hgn8,Nat.mul_one,Int.toNat_natCast,cx,g2,cA]
  exact ⟨rfl,kk⟩
def thereB (x : View) (g : Int) : Bool := x.up && x.booted && x.at_.group == g
def tellB (ws : List WV) (A : View) (g : Int) (b : Nat) : Bool := (List.range ws.length).all fun k => match ws[k]? with
 | some X => !thereB X.x g || (!decide (k < b) && lacksB X.x A g)
 | none => true
def f5R (ws : List WV) (a b : Nat) : List Flaw := match ws[a]?,ws[b]? with
 | some A,some B => if siteB B.x.at_.group && !(B.x.at_.group == A.x.at_.group) && lacksB B.x A.x B.x.at_.group && tellB ws A.x B.x.at_.group b then [⟨5,a,b,0⟩] else []
 | _,_ => []
theorem f5R_at {ws : List WV} {a b : Nat} (ha : a < ws.length) (hb : b < ws.length) : f5R ws a b = if siteB ws[b].x.at_.group && !(ws[b].x.at_.group == ws[a].x.at_.group) && lacksB ws[b].x ws[a].x ws[b].x.at_.group && tellB ws ws[a].x ws[b].x.at_.group b then [⟨5,a,b,0⟩] else [] := by simp [f5R,ha,hb]
def stepT (ws : List WV) (A : View) (g : Int) (b k : Nat) : Bool := match ws[k]? with
 | some X => !thereB X.x g || (!decide (k < b) && lacksB X.x A g)
 | none => true
set_option maxHeartbeats 4000000 in
theorem loop24 (F : Ff E) {h0 : H} {lv : V} {ws : List WV} (hv : VsIn h0 lv ws) {a b : Nat} (ha : a < ws.length) {g : Int} (hg : siteB g = true) {u4 u5 : V} {K : List Fr} {Q : Po}
  (cont : ∀ (ρ' : Nat → V) (h' : H),ρ' 0 = lv → ρ' 1 = iI a → ρ' 4 = u4 → ρ' 5 = u5 → ρ' 6 = iI b → ρ' 7 = iI g → ρ' 8 = .bool (tellB ws ws[a].x g b) → Kp h0 h' → X P E none 104 K ρ' h' Q) :
  ∀ (d k : Nat) (ρ : Nat → V) (h : H) (c : Bool),ws.length - k = d → k ≤ ws.length → ρ 0 = lv → ρ 1 = iI a → ρ 4 = u4 → ρ 5 = u5 → ρ 6 = iI b → ρ 7 = iI g → ρ 8 = .bool c → ρ 9 = iI k → c = (List.range k).all (stepT ws ws[a].x g b) → Kp h0 h →
   XL P E none 104 b24_7 (.b 2 :: K) ρ h Q := by
 have hm := hv.len
 intro d
 induction d with
 | zero =>
  intro k ρ h c hd hk q0 q1 q4 q5 q6 q7 q8 q9 hc kk
  have hke : ¬ k < ws.length := by omega
  have hkk : k = ws.length := by omega
  obtain ⟨sa,sc,so,hlv⟩ := hv.sl.len
  rw [List.length_map] at hlv
  have q0' := q0.trans hlv
  have hc2 : c = tellB ws ws[a].x g b := by rw [hc,hkk]; rfl
  rw [u24_7]
  simp only [GR,evK,binV,intOp,strOp,unV,Nat.reduceLT,Nat.reduceEqDiff,↓reduceIte,r24_3,q9,q0',Int.ofNat_lt,hke]
  refine cont _ h ?_ ?_ ?_ ?_ ?_ ?_ ?_ kk
  ·exact q0
  ·exact q1
  ·exact q4
  ·exact q5
  ·exact q6
  ·exact q7
  ·rw [← hc2]; exact q8
 | succ d ih =>
  intro k ρ h c hd hk q0 q1 q4 q5 q6 q7 q8 q9 hc kk
  have hke : k < ws.length := by omega
  have hvh := hv.keep kk
  obtain ⟨b0,o0,c0,p0,cs,ty,op,ro,fz,va,hgb,hla,hea,hna⟩ := view_nth hvh.sl ha
  obtain ⟨b1,o1,c1,p1,cs1,ty1,op1,ro1,fz1,vb,hg1,hlk,hek,hnk⟩ := view_nth hvh.sl hke
  have hvv := va.symm.trans vb
  cases hvv
  rw [hgb] at hg1; cases hg1
  have q0' := q0.trans va
  have nja := (hvh.ins _ (List.getElem_mem ha)).nj
  have njk := (hvh.ins _ (List.getElem_mem hke)).nj
  have ek0 : cs[o0 + k * 21]? = some (iI ws[k].x.at_.group) := by have := hnk 0 _ (View.g0 ws[k].x); simpa using this
  have ek2 := hnk 2 _ (View.g2 ws[k].x)
  have ek4 := hnk 4 _ (View.g4 ws[k].x)
  have hw : IntKind.i64.wrap ((k : Int) + 1) = ((k + 1 : Nat) : Int) := wrap_nat (n := k + 1) (by omega)
  have hst : (List.range (k + 1)).all (stepT ws ws[a].x g b) = (c && (!thereB ws[k].x g || (!decide (k < b) && lacksB ws[k].x ws[a].x g))) := by
   rw [List.range_succ,List.all_append,← hc]
   simp [stepT,hke]
  unfold getR at hea hek
  have next : ∀ (ρ2 : Nat → V) (h4 : H) (c2 : Bool),ρ2 0 = lv → ρ2 1 = iI a → ρ2 4 = u4 → ρ2 5 = u5 → ρ2 6 = iI b → ρ2 7 = iI g → ρ2 8 = .bool c2 → ρ2 9 = iI k → c2 = (List.range (k + 1)).all (stepT ws ws[a].x g b) → Kp h0 h4 → XO P E none 104 r24_6 (.l b24_7 :: .b 2 :: K) ρ2 h4 Q := by
   intro ρ2 h4 c2 y0 y1 y4 y5 y6 y7 y8 y9 hc2 kk2
   simp only [GR,evK,binV,intOp,strOp,unV,Nat.reduceLT,Nat.reduceEqDiff,↓reduceIte,r24_6,y9,hw]
   refine ih (k + 1) _ h4 c2 (by omega) (by omega) ?_ ?_ ?_ ?_ ?_ ?_ ?_ ?_ hc2 kk2
   ·exact y0
   ·exact y1
   ·exact y4
   ·exact y5
   ·exact y6
   ·exact y7
   ·exact y8
   ·rfl
  have tail : ∀ (th : Bool) (ρ2 : Nat → V),thereB ws[k].x g = th → ρ2 0 = lv → ρ2 1 = iI a → ρ2 4 = u4 → ρ2 5 = u5 → ρ2 6 = iI b → ρ2 7 = iI g → ρ2 8 = .bool c → ρ2 9 = iI k → ρ2 10 = .bool th →
    X P E none 104 (.c (.draw r24_5) :: .c (.cond (.t 95) (.region [⟨some 8,.mv (.k (.bool false)),none,0,[8]⟩]) (.skip)) :: .b 3 :: .c (.region r24_6) :: .l b24_7 :: .b 2 :: K) ρ2 h Q := by
   intro th ρ2 ht y0 y1 y4 y5 y6 y7 y8 y9 y10
   rw [ht] at hst
   have y0' := y0.trans va
   rw [X_draw]
   refine d24_5 ?_
   cases th with
   | false =>
    simp only [GR,evK,binV,intOp,strOp,unV,Nat.reduceLT,Nat.reduceEqDiff,↓reduceIte,r24_5,y10]
    refine next _ h c ?_ ?_ ?_ ?_ ?_ ?_ ?_ ?_ (by rw [hst]; simp) kk
    ·exact y0
    ·exact y1
    ·exact y4
    ·exact y5
    ·exact y6
    ·exact y7
    ·exact y8
    ·exact y9
   | true =>
    by_cases hkb : k < b
    ·have hkb' : ((k : Int) < (b : Int)) = True := by simp; omega
     simp only [GR,evK,binV,intOp,strOp,unV,Nat.reduceLT,Nat.reduceEqDiff,↓reduceIte,r24_5,y10,y9,y6,hkb']
     refine next _ h false ?_ ?_ ?_ ?_ ?_ ?_ ?_ ?_ (by rw [hst]; simp [hkb]) kk
     ·exact y0
     ·exact y1
     ·exact y4
     ·exact y5
     ·exact y6
     ·exact y7
     ·rfl
     ·exact y9
    ·have hkb' : ((k : Int) < (b : Int)) = False := by simp; omega
     simp only [GR,evK,binV,intOp,strOp,unV,Nat.reduceLT,Nat.reduceEqDiff,↓reduceIte,r24_5,y10,y9,y6,hkb',y0',y1,y7,Int.natCast_nonneg,Int.ofNat_lt,hke,ha,Int.toNat_natCast,hgb,hlk,hla,hek,hea,nja,njk]
     refine XCD_of (lacks50 (P := P) F (x := ws[k].x) (A := ws[a].x) hg) ?_
     rintro _ h5 ⟨rfl,k5⟩
     cases hlk2 : lacksB ws[k].x ws[a].x g with
     | true =>
      simp only [GR,evK,binV,intOp,strOp,unV,Nat.reduceLT,Nat.reduceEqDiff,↓reduceIte,Bool.not_true]
      refine next _ h5 c ?_ ?_ ?_ ?_ ?_ ?_ ?_ ?_ (by rw [hst,hlk2]; simp [hkb]) (Kp.trans kk k5)
      ·exact y0
      ·exact y1
      ·exact y4
      ·exact y5
      ·exact y6
      ·exact y7
      ·exact y8
      ·exact y9
     | false =>
      simp only [GR,evK,binV,intOp,strOp,unV,Nat.reduceLT,Nat.reduceEqDiff,↓reduceIte,Bool.not_false]
      refine next _ h5 false ?_ ?_ ?_ ?_ ?_ ?_ ?_ ?_ (by rw [hst,hlk2]; simp) (Kp.trans kk k5)
      ·exact y0
      ·exact y1
      ·exact y4
      ·exact y5
      ·exact y6
      ·exact y7
      ·rfl
      ·exact y9
  rw [u24_7]
  cases hup : ws[k].x.up with
  | false =>
   rw [hup] at ek2
   simp only [GR,evK,binV,intOp,strOp,unV,Nat.reduceLT,Nat.reduceEqDiff,↓reduceIte,r24_3,q9,q0',Int.natCast_nonneg,Int.ofNat_lt,hke,Int.toNat_natCast,r24_4,hgb,ek2]
   refine tail false _ (by simp [thereB,hup]) ?_ ?_ ?_ ?_ ?_ ?_ ?_ ?_ ?_
   ·exact q0
   ·exact q1
   ·exact q4
   ·exact q5
   ·exact q6
   ·exact q7
   ·exact q8
   ·exact q9
   ·rfl
  | true =>
  rw [hup] at ek2
  cases hbo : ws[k].x.booted with
  | false =>
   rw [hbo] at ek4
   simp only [GR,evK,binV,intOp,strOp,unV,Nat.reduceLT,Nat.reduceEqDiff,↓reduceIte,r24_3,q9,q0',Int.natCast_nonneg,Int.ofNat_lt,hke,Int.toNat_natCast,r24_4,hgb,ek2,ek4]
   refine tail false _ (by simp [thereB,hbo]) ?_ ?_ ?_ ?_ ?_ ?_ ?_ ?_ ?_
   ·exact q0
   ·exact q1
   ·exact q4
   ·exact q5
   ·exact q6
   ·exact q7
   ·exact q8
   ·exact q9
   ·rfl
  | true =>
   rw [hbo] at ek4
   cases hgr : ws[k].x.at_.group == g with
   | false =>
    simp only [GR,evK,binV,intOp,strOp,unV,Nat.reduceLT,Nat.reduceEqDiff,↓reduceIte,r24_3,q9,q0',Int.natCast_nonneg,Int.ofNat_lt,hke,Int.toNat_natCast,r24_4,hgb,ek2,ek4,ek0,q7,hgr]
    refine tail false _ (by simp [thereB,hgr]) ?_ ?_ ?_ ?_ ?_ ?_ ?_ ?_ ?_
    ·exact q0
    ·exact q1
    ·exact q4
    ·exact q5
    ·exact q6
    ·exact q7
    ·exact q8
    ·exact q9
    ·rfl
   | true =>
    simp only [GR,evK,binV,intOp,strOp,unV,Nat.reduceLT,Nat.reduceEqDiff,↓reduceIte,r24_3,q9,q0',Int.natCast_nonneg,Int.ofNat_lt,hke,Int.toNat_natCast,r24_4,hgb,ek2,ek4,ek0,q7,hgr]
    refine tail true _ (by simp [thereB,hup,hbo,hgr]) ?_ ?_ ?_ ?_ ?_ ?_ ?_ ?_ ?_
    ·exact q0
    ·exact q1
    ·exact q4
    ·exact q5
    ·exact q6
    ·exact q7
    ·exact q8
    ·exact q9
    ·rfl
def less5 (ws : List WV) (a : Nat) : List Flaw := (List.range ws.length).flatMap (f5R ws a)
set_option maxHeartbeats 4000000 in
theorem less24 (F : Ff E) {h0 : H} {lv : V} {ws : List WV} (hv : VsIn h0 lv ws) {a : Nat} (ha : a < ws.length) (hlen : (less5 ws a).length ≤ 1099511627775) : Sp P E (.func 24 [] []) [lv,iI a] h0 fun v h' => Acc h' h0.size 30 4 v ((less5 ws a).map Flaw.cells) ∧ Kp h0 h' := by
 have hm := hv.len
 have loop : ∀ (d b : Nat) (ρ : Nat → V) (h : H) (ov : V),ws.length - b = d → b ≤ ws.length → ρ 0 = lv → ρ 1 = iI a → ρ 5 = ov → ρ 6 = iI b → Acc h h0.size 30 4 ov (((List.range b).flatMap (f5R ws a)).map Flaw.cells) → Kp h0 h →
   XL P E none 104 b24_10 [.b 0,.c (.seq (.region r24_11) (.ret))] ρ h (Fin [.t 4] fun v h' => Acc h' h0.size 30 4 v ((less5 ws a).map Flaw.cells) ∧ Kp h0 h') := by
  intro d
  induction d with
  | zero =>
   intro b ρ h ov hd hb q0 q1 q5 q6 acc kk
   have hbe : ¬ b < ws.length := by omega
   have hbb : b = ws.length := by omega
   subst hbb
   obtain ⟨sa,sc,so,hlv⟩ := hv.sl.len
   rw [List.length_map] at hlv
   have q0' := q0.trans hlv
   rw [u24_10]
   simp only [GR,evK,binV,intOp,strOp,shOp,unV,Nat.reduceLT,Nat.reduceEqDiff,Nat.reduceAdd,↓reduceIte,Nat.reduceLeDiff,reduceCtorEq,r24_0,q6,q0',Int.ofNat_lt,hbe,r24_11,q5]
   exact ⟨acc,kk⟩
  | succ d ih =>
   intro b ρ h ov hd hb q0 q1 q5 q6 acc kk
   have hbe : b < ws.length := by omega
   have hvh := hv.keep kk
   obtain ⟨b0,o0,c0,p0,cs,ty,op,ro,fz,va,hgb,hla,hea,hna⟩ := view_nth hvh.sl ha
   obtain ⟨b1,o1,c1,p1,cs1,ty1,op1,ro1,fz1,vb,hg1,hlb,heb,hnb⟩ := view_nth hvh.sl hbe
   have hvv := va.symm.trans vb
   cases hvv
   rw [hgb] at hg1; cases hg1
   have q0' := q0.trans va
   have nja := (hvh.ins _ (List.getElem_mem ha)).nj
   have njb := (hvh.ins _ (List.getElem_mem hbe)).nj
   have ea0 : cs[o0 + a * 21]? = some (iI ws[a].x.at_.group) := by have := hna 0 _ (View.g0 ws[a].x); simpa using this
   have eb0 : cs[o0 + b * 21]? = some (iI ws[b].x.at_.group) := by have := hnb 0 _ (View.g0 ws[b].x); simpa using this
   have hw : IntKind.i64.wrap ((b : Int) + 1) = ((b + 1 : Nat) : Int) := wrap_nat (n := b + 1) (by omega)
   have hf := f5R_at ha hbe
   have hstep := range_step (f5R ws a) b
   have hlenk : ((List.range (b + 1)).flatMap (f5R ws a)).length ≤ 1099511627775 := by
    have := range_pre (f5R ws a) (b + 1) (ws.length - (b + 1))
    rw [show b + 1 + (ws.length - (b + 1)) = ws.length by omega] at this
    exact Nat.le_trans this.length_le hlen
   unfold getR at hea heb
   have next : ∀ (ρ2 : Nat → V) (h4 : H) (ov2 : V),ρ2 0 = lv → ρ2 1 = iI a → ρ2 5 = ov2 → ρ2 6 = iI b → Acc h4 h0.size 30 4 ov2 (((List.range (b + 1)).flatMap (f5R ws a)).map Flaw.cells) → Kp h0 h4 → XO P E none 104 r24_9 [.l b24_10,.b 0,.c (.seq (.region r24_11) (.ret))] ρ2 h4 (Fin [.t 4] fun v h' => Acc h' h0.size 30 4 v ((less5 ws a).map Flaw.cells) ∧ Kp h0 h') := by
    intro ρ2 h4 ov2 y0 y1 y5 y6 acc2 kk2
    simp only [GR,evK,binV,intOp,strOp,shOp,unV,Nat.reduceLT,Nat.reduceEqDiff,Nat.reduceAdd,↓reduceIte,Nat.reduceLeDiff,reduceCtorEq,r24_9,y6,hw]
    refine ih (b + 1) _ h4 ov2 (by omega) (by omega) ?_ ?_ ?_ ?_ acc2 kk2
    ·exact y0
    ·exact y1
    ·exact y5
    ·rfl
   have skip : f5R ws a b = [] → ∀ (ρ2 : Nat → V) (h4 : H),ρ2 0 = lv → ρ2 1 = iI a → ρ2 5 = ov → ρ2 6 = iI b → Kp h h4 → XO P E none 104 r24_9 [.l b24_10,.b 0,.c (.seq (.region r24_11) (.ret))] ρ2 h4 (Fin [.t 4] fun v h' => Acc h' h0.size 30 4 v ((less5 ws a).map Flaw.cells) ∧ Kp h0 h') := by
    intro hn ρ2 h4 y0 y1 y5 y6 k4
    rw [hn,List.append_nil] at hstep
    exact next ρ2 h4 ov y0 y1 y5 y6 (by rw [hstep]; exact acc.keep k4) (Kp.trans kk k4)
   rw [u24_10]
   simp only [GR,evK,binV,intOp,strOp,shOp,unV,Nat.reduceLT,Nat.reduceEqDiff,Nat.reduceAdd,↓reduceIte,Nat.reduceLeDiff,reduceCtorEq,r24_0,q6,q0',Int.natCast_nonneg,Int.ofNat_lt,hbe,Int.toNat_natCast,r24_1,hgb,eb0]
   rw [X_draw]
   refine d24_2 ?_
   simp only [GR,evK,binV,intOp,strOp,shOp,unV,Nat.reduceLT,Nat.reduceEqDiff,Nat.reduceAdd,↓reduceIte,Nat.reduceLeDiff,reduceCtorEq,r24_2]
   refine XCD_of (site20 (P := P) F) ?_
   rintro _ hx ⟨rfl,e2⟩
   rw [e2]
   clear e2 hx
   cases hst : siteB ws[b].x.at_.group with
   | false =>
    rw [hst] at hf
    simp only [GR,evK,binV,intOp,strOp,shOp,unV,Nat.reduceLT,Nat.reduceEqDiff,Nat.reduceAdd,↓reduceIte,Nat.reduceLeDiff,reduceCtorEq,Bool.not_false]
    refine skip (by simpa using hf) _ h ?_ ?_ ?_ ?_ (Keeps.refl _ _)
    ·exact q0
    ·exact q1
    ·exact q5
    ·exact q6
   | true =>
   cases hgq : ws[b].x.at_.group == ws[a].x.at_.group with
   | true =>
    rw [hst,hgq] at hf
    simp only [GR,evK,binV,intOp,strOp,shOp,unV,Nat.reduceLT,Nat.reduceEqDiff,Nat.reduceAdd,↓reduceIte,Nat.reduceLeDiff,reduceCtorEq,Bool.not_true,q0',q1,Int.natCast_nonneg,Int.ofNat_lt,ha,Int.toNat_natCast,hgb,ea0,hgq]
    refine skip (by simpa using hf) _ h ?_ ?_ ?_ ?_ (Keeps.refl _ _)
    ·exact q0
    ·exact q1
    ·exact q5
    ·exact q6
   | false =>
   simp only [GR,evK,binV,intOp,strOp,shOp,unV,Nat.reduceLT,Nat.reduceEqDiff,Nat.reduceAdd,↓reduceIte,Nat.reduceLeDiff,reduceCtorEq,Bool.not_true,q0',q1,q6,Int.natCast_nonneg,Int.ofNat_lt,ha,hbe,Int.toNat_natCast,hgb,ea0,hgq,hla,hlb,hea,heb,nja,njb]
   refine XCD_of (lacks50 (P := P) F (x := ws[b].x) (A := ws[a].x) hst) ?_
   rintro _ h4 ⟨rfl,k4⟩
   cases hlk : lacksB ws[b].x ws[a].x ws[b].x.at_.group with
   | false =>
    rw [hst,hgq,hlk] at hf
    simp only [GR,evK,binV,intOp,strOp,shOp,unV,Nat.reduceLT,Nat.reduceEqDiff,Nat.reduceAdd,↓reduceIte,Nat.reduceLeDiff,reduceCtorEq,Bool.not_false]
    refine skip (by simpa using hf) _ h4 ?_ ?_ ?_ ?_ k4
    ·exact q0
    ·exact q1
    ·exact q5
    ·exact q6
   | true =>
   rw [hst,hgq,hlk] at hf
   simp only [Bool.not_false,Bool.and_self,Bool.true_and] at hf
   simp only [GR,evK,binV,intOp,strOp,shOp,unV,Nat.reduceLT,Nat.reduceEqDiff,Nat.reduceAdd,↓reduceIte,Nat.reduceLeDiff,reduceCtorEq,Bool.not_true]
   refine loop24 F (hv.keep (Kp.trans kk k4)) ha hst (b := b) (u4 := ρ 4) (u5 := ov) ?_ _ 0 _ h4 true rfl (Nat.zero_le _) ?_ ?_ ?_ ?_ ?_ ?_ ?_ ?_ (by simp) (Keeps.refl _ _)
   ·intro ρ2 h5 y0 y1 y4 y5 y6 y7 y8 k5
    cases htl : tellB ws ws[a].x ws[b].x.at_.group b with
    | false =>
     rw [htl] at hf y8
     simp only [GR,evK,binV,intOp,strOp,shOp,unV,Nat.reduceLT,Nat.reduceEqDiff,Nat.reduceAdd,↓reduceIte,Nat.reduceLeDiff,reduceCtorEq,y8]
     refine skip (by simpa using hf) _ h5 ?_ ?_ ?_ ?_ (Kp.trans k4 k5)
     ·exact y0
     ·exact y1
     ·exact y5
     ·exact y6
    | true =>
     rw [htl] at hf y8
     simp only [if_true] at hf
     rw [hf] at hstep
     have hfl : ((List.range b).flatMap (f5R ws a)).length ≤ 1099511627775 := by
      rw [hstep,List.length_append] at hlenk; omega
     have kk5 := Kp.trans kk (Kp.trans k4 k5)
     obtain ⟨v',h6,e6,acc6,k6,fr6⟩ := Acc.flaw (acc.keep (Kp.trans k4 k5)) kk5.size hfl ⟨5,a,b,0⟩
     have hfc : (Flaw.mk 5 a b 0).cells = [iI 5,iI a,iI b,iI 0] := rfl
     rw [hfc] at e6
     have hd0 : List.drop 3 [iI 0,iI 0,iI 0,iI 0] = [iI 0] := rfl
     have hd1 : List.drop 4 [iI 0,iI 0,iI 0,iI 0] = [] := rfl
     simp only [GR,evK,binV,intOp,strOp,shOp,unV,Nat.reduceLT,Nat.reduceEqDiff,Nat.reduceAdd,↓reduceIte,Nat.reduceLeDiff,reduceCtorEq,y8,r24_8,y5,y1,y6,hd0,hd1,e6]
     refine next _ h6 v' ?_ ?_ ?_ ?_ (by rw [hstep]; exact acc6) (Keeps.trans kk5 k6)
     ·exact y0
     ·exact y1
     ·rfl
     ·exact y6
   ·exact q0
   ·exact q1
   ·rfl
   ·exact q5
   ·exact q6
   ·rfl
   ·rfl
   ·rfl
 refine Sp_fn F.f24 F.p24 (by simp [fn24]) ?_
 simp only [GR,evK,binV,intOp,strOp,shOp,unV,Nat.reduceLT,Nat.reduceEqDiff,Nat.reduceAdd,↓reduceIte,Nat.reduceLeDiff,reduceCtorEq,fn24,c24]
 refine loop ws.length 0 _ h0 _ rfl (Nat.zero_le _) ?_ ?_ ?_ ?_ (Acc.nil _ _ _ _) (Keeps.refl _ _)
 ·rfl
 ·rfl
 ·rfl
 ·rfl
theorem any_lacks {ws : List WV} {A : View} {g : Int} : anyY ws A g = false ↔ ∀ k (hk : k < ws.length),thereB ws[k].x g = true → lacksB ws[k].x A g = true := by
 unfold anyY
 rw [List.any_eq_false]
 constructor
 ·intro h k hk ht
  have h1 := h _ (List.getElem_mem hk)
  simp only [thereB,Bool.and_eq_true,beq_iff_eq] at ht
  simp only [yB,Bool.and_eq_true,beq_iff_eq,decide_eq_true_eq,not_and] at h1
  simp only [lacksB,Bool.and_eq_true,beq_iff_eq,decide_eq_true_eq]
  refine ⟨ht,?_⟩
  have := h1 ht
  omega
 ·intro h y hy hb
  obtain ⟨k,hk,rfl⟩ := List.mem_iff_getElem.1 hy
  simp only [yB,Bool.and_eq_true,beq_iff_eq,decide_eq_true_eq] at hb
  have h2 := h k hk (by simp only [thereB,Bool.and_eq_true,beq_iff_eq]; exact hb.1)
  simp only [lacksB,Bool.and_eq_true,beq_iff_eq,decide_eq_true_eq] at h2
  omega
theorem tell_iff {ws : List WV} {A : View} {g : Int} {b : Nat} : tellB ws A g b = true ↔ (∀ k (hk : k < ws.length),k < b → thereB ws[k].x g = false) ∧ anyY ws A g = false := by
 rw [any_lacks]
 unfold tellB
 rw [List.all_eq_true]
 constructor
 ·intro h
  have h1 : ∀ k (hk : k < ws.length),thereB ws[k].x g = true → ¬ k < b ∧ lacksB ws[k].x A g = true := by
   intro k hk ht
   have := h k (List.mem_range.2 hk)
   simp only [List.getElem?_eq_getElem hk,ht,Bool.not_true,Bool.false_or,Bool.and_eq_true,Bool.not_eq_true',decide_eq_false_iff_not] at this
   exact this
  refine ⟨fun k hk hkb => ?_,fun k hk ht => (h1 k hk ht).2⟩
  cases ht : thereB ws[k].x g with
  | false => rfl
  | true => exact ((h1 k hk ht).1 hkb).elim
 ·rintro ⟨h1,h2⟩ k hk
  have hk := List.mem_range.1 hk
  simp only [List.getElem?_eq_getElem hk]
  cases ht : thereB ws[k].x g with
  | false => simp
  | true =>
   have : ¬ k < b := fun hkb => by rw [h1 k hk hkb] at ht; cases ht
   simp [this,h2 k hk ht]
def Told (ws : List WV) (A : View) (b : Nat) (told : List Bool) : Prop := told.length = 8 ∧ ∀ g : Nat,g < 8 → (g : Int) ≠ A.at_.group → (told.getD g false = true ↔ (∃ k, ∃ hk : k < ws.length,k < b ∧ thereB ws[k].x g = true) ∧ anyY ws A g = false)
theorem ahL_eq {ws : List WV} {a : Nat} (ha : a < ws.length) : ∀ (d b : Nat) (told : List Bool),ws.length - b = d → b ≤ ws.length → Told ws ws[a].x b told → ahL ws a ws[a].x d b told = (List.range' b d).flatMap (f5R ws a)
 | 0,b,told,_,_,_ => rfl
 | d + 1,b,told,hd,hb,ht => by
  have hbe : b < ws.length := by omega
  have ih := ahL_eq ha d (b + 1)
  have hd1 : ws.length - (b + 1) = d := by omega
  have hb1 : b + 1 ≤ ws.length := by omega
  obtain ⟨hl,hT⟩ := ht
  have hf := f5R_at ha hbe
  rw [List.range'_succ,List.flatMap_cons]
  simp only [ahL,List.getElem?_eq_getElem hbe]
  -- the next told,if there is none of a site here
  have keep : (∀ g : Nat,g < 8 → (g : Int) ≠ ws[a].x.at_.group → thereB ws[b].x g = false) → Told ws ws[a].x (b + 1) told := by
   intro hno
   refine ⟨hl,fun g hg hne => ?_⟩
   rw [hT g hg hne]
   constructor
   ·rintro ⟨⟨k,hk,hkb,h1⟩,h2⟩; exact ⟨⟨k,hk,by omega,h1⟩,h2⟩
   ·rintro ⟨⟨k,hk,hkb,h1⟩,h2⟩
    by_cases hkk : k < b
    ·exact ⟨⟨k,hk,hkk,h1⟩,h2⟩
    ·have : k = b := by omega
     subst this
     rw [hno g hg hne] at h1; cases h1
  by_cases hub : ws[b].x.up = true ∧ ws[b].x.booted = true
  ·obtain ⟨hup,hbo⟩ := hub
   cases hst : siteB ws[b].x.at_.group with
   | false =>
    have e1 : f5R ws a b = [] := by rw [hf,hst]; simp
    rw [e1,List.nil_append]
    simp only [hup,hbo,Bool.not_true,Bool.false_or,Bool.not_false,Bool.true_or,if_true]
    refine ih told hd1 hb1 (keep fun g hg hne => ?_)
    have : (ws[b].x.at_.group == (g : Int)) = false := by
     cases hq : ws[b].x.at_.group == (g : Int) with
     | false => rfl
     | true =>
      rw [beq_iff_eq] at hq
      rw [hq] at hst
      have : siteB (g : Int) = true := siteB_iff.2 ⟨by omega,by omega⟩
      rw [this] at hst; cases hst
    simp [thereB,this]
   | true =>
   obtain ⟨hg0,hg8⟩ := siteB_iff.1 hst
   obtain ⟨gn,hgn⟩ : ∃ gn : Nat,ws[b].x.at_.group = gn := ⟨ws[b].x.at_.group.toNat,by omega⟩
   have hgn8 : gn < 8 := by omega
   by_cases hgq : ws[a].x.at_.group = ws[b].x.at_.group
   ·have e0 : (ws[a].x.at_.group == ws[b].x.at_.group) = true := by rw [beq_iff_eq]; exact hgq
    have e1 : f5R ws a b = [] := by rw [hf,hgq]; simp
    rw [e1,List.nil_append]
    simp only [hup,hbo,e0,Bool.not_true,Bool.false_or,Bool.true_or,if_true,Bool.or_true]
    refine ih told hd1 hb1 (keep fun g hg hne => ?_)
    have : (ws[b].x.at_.group == (g : Int)) = false := by
     cases hq : ws[b].x.at_.group == (g : Int) with
     | false => rfl
     | true => rw [beq_iff_eq] at hq; exact (hne (by rw [hgq,hq])).elim
    simp [thereB,this]
   ·have e0 : (ws[a].x.at_.group == ws[b].x.at_.group) = false := by
     cases hq : ws[a].x.at_.group == ws[b].x.at_.group with
     | false => rfl
     | true => rw [beq_iff_eq] at hq; exact (hgq hq).elim
    have e0' : (ws[b].x.at_.group == ws[a].x.at_.group) = false := by
     cases hq : ws[b].x.at_.group == ws[a].x.at_.group with
     | false => rfl
     | true => rw [beq_iff_eq] at hq; exact (hgq hq.symm).elim
    have hne : (gn : Int) ≠ ws[a].x.at_.group := by rw [← hgn]; exact fun h => hgq h.symm
    have hTg := hT gn hgn8 hne
    have hth : thereB ws[b].x (gn : Int) = true := by simp [thereB,hup,hbo,hgn]
    rw [hgn] at hst e0 e0' hf ⊢
    rw [hst,e0'] at hf
    simp only [hup,hbo,hst,e0,Bool.not_true,Bool.false_or,Int.toNat_natCast]
    -- the sites told do not turn but here
    have other : ∀ told2 : List Bool,told2.length = 8 → (∀ g,g ≠ gn → told2.getD g false = told.getD g false) → (told2.getD gn false = true ↔ anyY ws ws[a].x gn = false) → Told ws ws[a].x (b + 1) told2 := by
     intro told2 h1 h2 h3
     refine ⟨h1,fun g hg hne => ?_⟩
     by_cases hgg : g = gn
     ·subst hgg
      rw [h3]
      constructor
      ·intro h; exact ⟨⟨b,hbe,by omega,hth⟩,h⟩
      ·rintro ⟨_,h⟩; exact h
     ·rw [h2 g hgg,hT g hg hne]
      constructor
      ·rintro ⟨⟨k,hk,hkb,h1⟩,h2⟩; exact ⟨⟨k,hk,by omega,h1⟩,h2⟩
      ·rintro ⟨⟨k,hk,hkb,h1⟩,h2⟩
       by_cases hkk : k < b
       ·exact ⟨⟨k,hk,hkk,h1⟩,h2⟩
       ·have : k = b := by omega
        subst this
        simp only [thereB,hgn,Bool.and_eq_true,beq_iff_eq] at h1
        omega
    cases hany : anyY ws ws[a].x gn with
    | true =>
     have e1 : f5R ws a b = [] := by
      rw [hf]
      have : tellB ws ws[a].x gn b = false := by
       rw [Bool.eq_false_iff,ne_eq,tell_iff]
       rintro ⟨_,h⟩; rw [hany] at h; cases h
      simp [this]
     have h0 : told.getD gn false = false := by
      cases hq : told.getD gn false with
      | false => rfl
      | true => have := (hTg.1 hq).2; rw [hany] at this; cases this
     rw [e1,List.nil_append,h0]
     simp only [Bool.false_eq_true,if_false,if_true]
     exact ih told hd1 hb1 (other told hl (fun _ _ => rfl) (by rw [h0,hany]; simp))
    | false =>
     cases hq : told.getD gn false with
     | true =>
      obtain ⟨⟨k,hk,hkb,hkt⟩,_⟩ := hTg.1 hq
      have e1 : f5R ws a b = [] := by
       rw [hf]
       have : tellB ws ws[a].x gn b = false := by
        rw [Bool.eq_false_iff,ne_eq,tell_iff]
        rintro ⟨h,_⟩; rw [h k hk hkb] at hkt; cases hkt
       simp [this]
      rw [e1,List.nil_append]
      simp only [if_true]
      exact ih told hd1 hb1 (other told hl (fun _ _ => rfl) (by rw [hq,hany]; simp))
     | false =>
      have hfirst : ∀ k (hk : k < ws.length),k < b → thereB ws[k].x gn = false := by
       intro k hk hkb
       cases hkt : thereB ws[k].x gn with
       | false => rfl
       | true => have := hTg.2 ⟨⟨k,hk,hkb,hkt⟩,hany⟩; rw [hq] at this; cases this
      have e1 : f5R ws a b = [⟨5,a,b,0⟩] := by
       rw [hf,tell_iff.2 ⟨hfirst,hany⟩,any_lacks.1 hany b hbe hth]; simp
      rw [e1]
      simp only [Bool.false_eq_true,if_false,List.singleton_append,List.cons_append,List.nil_append]
      congr 1
      refine ih (told.set gn true) hd1 hb1 (other _ (by simp [hl]) (fun g hg => ?_) ?_)
      ·simp only [List.getD_eq_getElem?_getD]
       rw [List.getElem?_set_ne (fun h => hg h.symm)]
      ·simp only [List.getD_eq_getElem?_getD]
       rw [List.getElem?_set_self (by omega),hany]; simp
  ·have hs : (!ws[b].x.up || !ws[b].x.booted) = true := by
    cases h1 : ws[b].x.up <;> cases h2 : ws[b].x.booted <;> simp_all
   have hlk : lacksB ws[b].x ws[a].x ws[b].x.at_.group = false := by
    cases h1 : ws[b].x.up <;> cases h2 : ws[b].x.booted <;> simp_all [lacksB]
   have e1 : f5R ws a b = [] := by rw [hf,hlk]; simp
   rw [e1,List.nil_append,hs]
   simp only [Bool.true_or,if_true]
   refine ih told hd1 hb1 (keep fun g hg hne => ?_)
   cases h1 : ws[b].x.up <;> cases h2 : ws[b].x.booted <;> simp_all [thereB]
theorem f5_less {ws : List WV} {a : Nat} (ha : a < ws.length) : f5 ws a = if ws[a].x.up && ws[a].x.booted then less5 ws a else [] := by
 rw [f5_at ha]
 split
 ·rw [ahL_eq ha ws.length 0 (List.replicate 8 false) (by omega) (Nat.zero_le _) ⟨rfl,fun g hg _ => ?_⟩]
  ·unfold less5; rw [List.range_eq_range']
  ·have : (List.replicate 8 false).getD g false = false := by
    simp only [List.getD_eq_getElem?_getD,List.getElem?_replicate,hg,if_true,Option.getD_some]
   rw [this]
   constructor
   ·intro h; cases h
   ·rintro ⟨⟨k,_,h,_⟩,_⟩; omega
 ·rfl
theorem app_fr2 {h : H} {lo ty sz bytes : Nat} {v x : V} {xs ys : List (List V)} (a : Acc h lo ty sz v xs) (hlo : lo ≤ h.size) (hl : lenV x = some ys.length) (he : elemsV h sz ys.length x = some ys.flatten)
  (hy : ∀ y ∈ ys,y.length = sz ∧ y.all V.one = true) (hb : xs.length + ys.length ≤ 1099511627776 ∧ (2 * (xs.length + ys.length) + 1024) * bytes ≤ 281474976710656) :
  ∃ v' h',appV h ty sz bytes v x = some (.eff v' h') ∧ Acc h' lo ty sz v' (xs ++ ys) ∧ Keeps lo h h' ∧ (∃ p n c o,v' = .slice p n c o) ∧ h.size ≤ h'.size ∧ (∀ i o,h.get i = some o → (∀ p n c q,v ≠ .slice (some (i,p)) n c q) → h'.get i = some o) ∧ (v' = v ∨ ∃ b n c q,v' = .slice (some (b,0)) n c q ∧ h.size ≤ b) := by
 have hall : ∀ z ∈ xs ++ ys,z.length = sz ∧ z.all V.one = true := fun z hz => (List.mem_append.1 hz).elim (a.elem z) (hy z)
 have hyo := flatten_one hy
 rcases a.shape with ⟨rfl,rfl⟩ | ⟨b,rfl,h2,h3⟩
 ·by_cases hn : ys.length = 0
  ·have : ys = [] := List.eq_nil_of_length_eq_zero hn
   subst this
   refine ⟨sN,h,?_,by simpa using Acc.nil h lo ty sz,Keeps.refl _ _,⟨_,_,_,_,rfl⟩,Nat.le_refl _,fun _ _ hg _ => hg,.inl rfl⟩
   simp only [List.length_nil] at hl he
   unfold appV; simp [hl,he]
  ·refine ⟨.slice (some (h.size,0)) ys.length ys.length true,h.psh (.cells ys.flatten ty true false none),?_,⟨.inr ⟨h.size,by simp,hlo,by rw [psh_same]; simp⟩,hall⟩,Keeps.psh hlo _,⟨_,_,_,_,rfl⟩,Nat.le_succ _,fun _ _ hg _ => psh_old hg _,.inr ⟨_,_,_,_,rfl,Nat.le_refl _⟩⟩
   simp only [List.length_nil,Nat.zero_add] at hb
   have : ¬ ys.length ≤ 0 := by omega
   unfold appV
   simp only [hl,he,Nat.zero_add,this,if_false,hb,and_self,if_true,push_eq]
   simp [elemsV]
 ·have hbs := H.get_lt h3
  by_cases hn : ys.length = 0
  ·have : ys = [] := List.eq_nil_of_length_eq_zero hn
   subst this
   refine ⟨.slice (some (b,0)) xs.length xs.length true,h,?_,by simpa using a,Keeps.refl _ _,⟨_,_,_,_,rfl⟩,Nat.le_refl _,fun _ _ hg _ => hg,.inl rfl⟩
   simp only [List.length_nil] at hl he
   unfold appV; simp [hl,he,putCells]
  ·have hfl := flatten_length a.elem
   refine ⟨.slice (some (h.size,0)) (xs.length + ys.length) (xs.length + ys.length) true,(h.set b .dead).psh (.cells (xs.flatten ++ ys.flatten) ty true false none),?_,⟨.inr ⟨h.size,by simp,hlo,?_⟩,hall⟩,?_,⟨_,_,_,_,rfl⟩,Nat.le_succ _,fun i o hg hn2 => ?_,.inr ⟨_,_,_,_,rfl,Nat.le_refl _⟩⟩
   ·have h1 : ¬ xs.length + ys.length ≤ xs.length := by omega
    have h4 : 0 + xs.length * sz = xs.flatten.length := by rw [hfl]; omega
    unfold appV
    simp only [hl,he,h1,if_false,hb,and_self,if_true,h3,Nat.le_refl,h4,hyo,fzFree]
    simp only [push_eq,Option.map_none]
    rw [getR_all (by rw [hfl])]
   ·have := psh_same (h.set b .dead) (.cells (xs.flatten ++ ys.flatten) ty true false none)
    rw [H.set_size] at this
    rw [this]; simp
   ·exact (Keeps.set hbs h2 _).trans (Keeps.psh (by rw [H.set_size]; exact hlo) _)
   ·have hne : b ≠ i := by rintro rfl; exact hn2 _ _ _ _ rfl
    refine psh_old ?_ _
    rw [hset_other hbs hne]; exact hg
structure MA (lo : Nat) (h : H) (t : Nat) (ov : Nat → V) (fs : Nat → List Flaw) : Prop where
 box : cC h t [ov 0,ov 1,ov 2,ov 3,ov 4,ov 5] 68
 acc : ∀ k,k < 6 → Acc h lo 30 4 (ov k) ((fs k).map Flaw.cells)
 dis : ∀ j k,j < 6 → k < 6 → j ≠ k → ∀ b p n c q p' n' c' q',ov j = .slice (some (b,p)) n c q → ov k ≠ .slice (some (b,p')) n' c' q'
 low : lo ≤ t
theorem MA.kp {lo : Nat} {h h' : H} {t : Nat} {ov : Nat → V} {fs : Nat → List Flaw} (a : MA lo h t ov fs) (k : Kp h h') : MA lo h' t ov fs := ⟨k.of a.box,fun j hj => (a.acc j hj).keep k,a.dis,a.low⟩
theorem six_put (ov : Nat → V) {k : Nat} (hk : k < 6) (v : V) : setR [ov 0,ov 1,ov 2,ov 3,ov 4,ov 5] k [v] = [up ov k v 0,up ov k v 1,up ov k v 2,up ov k v 3,up ov k v 4,up ov k v 5] := by
 match k,hk with
 | 0,_ => rfl | 1,_ => rfl | 2,_ => rfl | 3,_ => rfl | 4,_ => rfl | 5,_ => rfl
def upF (fs : Nat → List Flaw) (k : Nat) (ys : List Flaw) : Nat → List Flaw := fun j => if j = k then fs k ++ ys else fs j
theorem MA.app {lo : Nat} {h : H} {t : Nat} {ov : Nat → V} {fs : Nat → List Flaw} (a : MA lo h t ov fs) {k : Nat} (hk : k < 6) (hlo : lo ≤ h.size) {x : V} {ys : List Flaw} (hl : lenV x = some ys.length) (he : elemsV h 4 ys.length x = some (ys.map Flaw.cells).flatten) (hb : (fs k ++ ys).length ≤ 1099511627775) :
  ∃ v' h1 h2,appV h 30 4 32 (ov k) x = some (.eff v' h1) ∧ putCells h1 t k [v'] = some h2 ∧ (∃ p n c o,v' = .slice p n c o) ∧ MA lo h2 t (up ov k v') (upF fs k ys) ∧ Keeps lo h h2 ∧ KB t h h2 := by
 obtain ⟨v',h1,e1,acc1,k1,⟨p1,n1,c1,o1,hv1⟩,s1,fr1,hnew⟩ := app_fr2 (bytes := 32) (ys := ys.map Flaw.cells) (a.acc k hk) hlo (by rw [List.length_map]; exact hl) (by rw [List.length_map]; exact he) (fun y hy => by obtain ⟨z,_,rfl⟩ := List.mem_map.1 hy; exact ⟨rfl,rfl⟩) (by rw [List.length_append] at hb; simp only [List.length_map]; omega)
 have accblk : ∀ j,j < 6 → ∀ b p n c q,ov j = .slice (some (b,p)) n c q → ∃ vs,h.get b = some (.cells vs 30 true false none) := by
  intro j hj b p n c q e
  rcases (a.acc j hj).shape with ⟨_,e0⟩ | ⟨b2,e2,_,g2⟩
  ·rw [e0] at e; cases e
  ·rw [e2] at e; cases e; exact ⟨_,g2⟩
 have gt1 := fr1 _ _ a.box (by intro p n c q e; obtain ⟨vs,g⟩ := accblk k hk _ _ _ _ _ e; rw [a.box] at g; simp at g)
 have hp : putCells h1 t k [v'] = some (h1.set t (.cells [up ov k v' 0,up ov k v' 1,up ov k v' 2,up ov k v' 3,up ov k v' 4,up ov k v' 5] 68 false false none)) := by
  rw [put_at gt1 (by simp only [List.length_singleton,List.length_cons,List.length_nil]; omega) (by rw [hv1]; rfl) rfl,six_put ov hk]
 have hlt := H.get_lt gt1
 have nt : ∀ {b vs},h1.get b = some (.cells vs 30 true false none) → t ≠ b := by
  rintro b vs g rfl; rw [gt1] at g; simp at g
 refine ⟨v',h1,_,e1,hp,⟨_,_,_,_,hv1⟩,⟨hset_same hlt _,fun j hj => ?_,fun i j hi hj hij b p n c q p' n' c' q' ei ej => ?_,a.low⟩,Keeps.trans k1 (Keeps.set hlt a.low _),⟨by rw [H.set_size]; omega,fun i o hg hit hn => ?_⟩⟩
 ·have mv : ∀ {v xs},Acc h1 lo 30 4 v xs → Acc (h1.set t (.cells [up ov k v' 0,up ov k v' 1,up ov k v' 2,up ov k v' 3,up ov k v' 4,up ov k v' 5] 68 false false none)) lo 30 4 v xs := fun ac => Acc.set_o ac gt1 (by intro vs e; simp at e) _
  by_cases hjk : j = k
  ·subst hjk
   simp only [up,upF,if_true,List.map_append]
   exact mv acc1
  ·simp only [up,upF,if_neg hjk]
   refine mv ⟨?_,(a.acc j hj).elem⟩
   rcases (a.acc j hj).shape with h9 | ⟨b2,q1,q2,q3⟩
   ·exact .inl h9
   ·exact .inr ⟨b2,q1,q2,fr1 _ _ q3 (fun p n c q e => a.dis j k hj hk hjk b2 0 _ _ _ p n c q q1 e)⟩
 ·by_cases hik : i = k <;> by_cases hjk : j = k
  ·exact hij (hik.trans hjk.symm)
  ·subst hik
   simp only [up,if_true] at ei
   simp only [up,if_neg hjk] at ej
   rcases hnew with e | ⟨b2,n2,c2,q2,e,hb2⟩
   ·rw [e] at ei; exact a.dis i j hi hj (Ne.symm hjk) _ _ _ _ _ _ _ _ _ ei ej
   ·rw [e] at ei; cases ei
    obtain ⟨vs,g⟩ := accblk j hj _ _ _ _ _ ej
    have := H.get_lt g; omega
  ·subst hjk
   simp only [up,if_true] at ej
   simp only [up,if_neg hik] at ei
   rcases hnew with e | ⟨b2,n2,c2,q2,e,hb2⟩
   ·rw [e] at ej; exact a.dis i j hi hj hik _ _ _ _ _ _ _ _ _ ei ej
   ·rw [e] at ej; cases ej
    obtain ⟨vs,g⟩ := accblk i hi _ _ _ _ _ ei
    have := H.get_lt g; omega
  ·simp only [up,if_neg hik] at ei
   simp only [up,if_neg hjk] at ej
   exact a.dis i j hi hj hij _ _ _ _ _ _ _ _ _ ei ej
 ·rw [hset_other hlt (Ne.symm hit)]
  refine fr1 _ _ hg (fun p n c q e => ?_)
  obtain ⟨vs,g⟩ := accblk k hk _ _ _ _ _ e
  rw [hg] at g; cases g; exact hn _ rfl
end Go.AM.Sc
