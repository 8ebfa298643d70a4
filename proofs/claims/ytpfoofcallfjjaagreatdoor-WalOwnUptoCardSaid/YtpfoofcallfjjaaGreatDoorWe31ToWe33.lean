/- My own texts, laid for this claim. -/
import Derived.Test.YtpfoofcallfjjaaGreatDoorWe20ToWe30
set_option linter.unusedSimpArgs false
set_option linter.unusedVariables false
namespace Go.AM.Wc
open Go.AM Go.AM.Wd Go.AM.We
variable {P : Program} {E : Env} {T : H → Prop}
theorem resVs_c {L t b : Nat} {ρ : Nat → V} {h : H} {v : V} {ty : Nat} (ht : t < L) (h1 : ρ t = .ptr (some (b,0))) (hg : h.get b = some (.cells [v] ty false false none)) : resVs (toL L ρ) h [.c t 1 false] = some [v] := by
 have he : (toL L ρ)[t]? = some (ρ t) := toL_get ht ρ
 simp [resVs,resV,he,h1,hg]
def cntO (k : Nat) : Obj := .cells [.int .i64 (k : Nat)] 3 false false none
set_option maxHeartbeats 2000000 in
theorem loop17 (F : Fw P E T) (D : Fd P E) {h0 : H} {p2 p3 p4 p5 tb bp lr nx : Nat} {bd rd : Nat} {l : V} {sv sv' : V} {sgs : List Sg} {ob qb : Option Nat} {ss : List Sq} {sp : Bool} {N : List (V × List V)}
  (g2 : h0.get p2 = some (.cells [.ptr (some (bp,0))] 42 false false none)) (g3 : h0.get p3 = some (.cells [.int .i64 0] 3 false false none)) (g4 : h0.get p4 = some (.cells [.bool false] 4 false false none))
  (g5 : h0.get p5 = some (.cells [vl ob N.length] 31 false false none)) (gp : h0.get bp = some (prO bd rd l (.ptr (some (lr,0)))))
  (gl : h0.get lr = some (lqO rd (vl qb ss.length) nx sp)) (hqn : qb = none ↔ ss = []) (gs : ∀ b,qb = some b → h0.get b = some (.cells (ss.flatMap Sq.cells) 94 true false none)) (hcA : chA (ss.map Sq.sh) 0 nx)
  (gN : ∀ b,ob = some b → h0.get b = some (.cells (N.map (·.1)) 45 true false none)) (hN0 : ob = none → N = []) (hx : ∀ p ∈ N,Rx h0 p.1 p.2)
  (hrec : recs sgs = N.map (·.2)) (hch : chain sgs 0 nx) (hm : nx ≤ 1000000000000) (rs : Rsx h0 sv sgs) :
  ∀ (d t : Nat) (ρ : Nat → V) (h : H),2 - t = d → t ≤ 2 → Kp h0 h → Ow h0.size h [(tb,boxO sv')] → Cl h sv' sgs → ρ 2 = .ptr (some (p2,0)) → ρ 3 = .ptr (some (p3,0)) → ρ 4 = .ptr (some (p4,0)) → ρ 5 = .ptr (some (p5,0)) → ρ 6 = .func 41 [] [.ptr (some (tb,0))] → ρ 93 = .int .i64 t →
   XL P E none 137 b17_14 [.b 0,.c (.seq (.region [⟨none,.store 1 (.t 4) (.k (.bool true)),none,0,[4]⟩]) (.ret))] ρ h (Fin [.c 4 1 false] fun r _ => r = .bool true) := by
 have hNl : N.length = nx := by
  have := recs_len hch
  have h2 := congrArg List.length hrec
  rw [List.length_map] at h2
  omega
 intro d
 induction d with
 | zero =>
  intro t ρ h hd ht kk ow cl q2 q3 q4 q5 q6 q93
  have hke : ¬ t < 2 := by omega
  have hke' : ¬ ((t : Int) < 2) := by omega
  have gg4 := kk.of g4
  have e4 := put_at (ws := [.bool true]) (o := 0) gg4 (by simp) rfl rfl
  have t4 : setR [V.bool false] 0 [V.bool true] = [V.bool true] := rfl
  rw [t4] at e4
  have g4' : (h.set p4 (.cells [.bool true] 4 false false none)).get p4 = some (.cells [.bool true] 4 false false none) := hset_same (H.get_lt gg4) _
  rw [u17_14]
  simp only [GR,evK,binV,intOp,strOp,shOp,unV,Nat.reduceLT,Nat.reduceEqDiff,Nat.reduceAdd,↓reduceIte,Nat.reduceLeDiff,reduceCtorEq,q93,hke',q4,gg4,e4]
  rw [resVs_c (L := 137) (by decide) (show (up ρ 94 (V.bool false)) 4 = V.ptr (some (p4,0)) from q4) g4']
  rfl
 | succ d ih =>
  intro t ρ h hd ht kk ow cl q2 q3 q4 q5 q6 q93
  have hke : ((t : Int) < 2) := by omega
  have hw : IntKind.i64.wrap ((t : Int) + 1) = ((t + 1 : Nat) : Int) := wrap_nat (n := t + 1) (by omega)
  have ow1 := Ow.push ow kk.size (cntO 0)
  have k1 : Kp h (h.psh (.cells [.int .i64 0] 3 false false none)) := Keeps.psh (Nat.le_refl _) _
  have gc1 := psh_same h (.cells [.int .i64 0] 3 false false none)
  have e0 : .cells [.int .i64 0] 3 false false none = cntO 0 := rfl
  rw [u17_14]
  have ec := put_at (ws := [.int .i64 0]) (o := 0) gc1 (by simp) rfl rfl
  have tc : setR [V.int .i64 0] 0 [V.int .i64 0] = [V.int .i64 0] := rfl
  rw [tc] at ec
  obtain ⟨ow2,k2⟩ := Ow.set ow1 (cntO 0)
  have f2 := F74.set gc1 (by intro vs op ro fz e; cases e) (cntO 0)
  simp only [GR,evK,binV,intOp,strOp,shOp,unV,Nat.reduceLT,Nat.reduceEqDiff,Nat.reduceAdd,↓reduceIte,Nat.reduceLeDiff,reduceCtorEq,q93,hke,r17_6,gc1,ec,q6]
  have kh2 : Keeps h0.size h0 ((h.psh (cntO 0)).set h.size (cntO 0)) := Keeps.trans (n := h0.size) kk (Keeps.trans (k1.mono kk.size) k2)
  have cl2 := cl.fr (F74.trans (F74.kp k1) f2)
  have hsz2 : h0.size ≤ ((h.psh (cntO 0)).set h.size (cntO 0)).size := kh2.size
  obtain ⟨cb,hcb⟩ : ∃ x,x = h.size := ⟨_,rfl⟩
  have e0' : (.cells [.int .i64 0] 3 false false none : Obj) = cntO 0 := rfl
  rw [e0'] at cl2 ⊢
  rw [← hcb] at ow2 kh2 cl2 hsz2 ⊢
  obtain ⟨ha,hha⟩ : ∃ x,x = (h.psh (cntO 0)).set cb (cntO 0) := ⟨_,rfl⟩
  rw [← hha] at ow2 kh2 cl2 hsz2 ⊢
  clear hha f2 k2 ec gc1 k1 ow1
  have hbl0 : bp < h0.size := H.get_lt gp
  refine range_recs F (lo := h0.size) (L := 137) (J := fun k => [(cb,cntO k)]) (asg := fun ρ' => up (up ρ' 8 (ρ' 96)) 9 (ρ' 97)) (a := 0) (nx := nx) (tb := tb) (sv' := sv') (sgs := sgs) (h0 := h0) (by decide) rfl hsz2 ow2 cl2 kh2 (fun _ h' _ k => ⟨sv,rs.kp k⟩) hch hm ?_ ?_ ?_
  ·intro l ρ' h' R hR
   simp only [GR,evK,binV,intOp,strOp,shOp,unV,Nat.reduceLT,Nat.reduceEqDiff,Nat.reduceAdd,↓reduceIte,Nat.reduceLeDiff,reduceCtorEq,a17_7]
   exact hR
  ·intro k l hB br c hk1 hk2 hck hc1 hbs hlB kB0 owB
   have kB : Kp h0 hB := kB0
   obtain ⟨bz,hbz⟩ : ∃ bz : Obj,bz = .loop .busy none (toL 137 (up (up (up ρ 94 (V.bool true)) 7 (V.ptr (some (cb,0)))) 95 (V.func 41 [] [V.ptr (some (tb,0))]))) [96,97] a17_7 b17_11 := ⟨_,rfl⟩
   rw [← hbz] at owB ⊢
   have hvl : vl (some br) c.length = .slice (some (br,0)) c.length c.length true := rfl
   have hkN : k < N.length := by omega
   rw [Nat.sub_zero,hrec,List.getElem?_map,List.getElem?_eq_getElem hkN,Option.map_some,Option.some.injEq] at hck
   obtain ⟨ob',hob⟩ : ∃ x,ob = some x := by
    cases ho : ob with
    | none => have := hN0 ho; rw [this] at hkN; simp at hkN
    | some x => exact ⟨x,rfl⟩
   have hxN := hx N[k] (List.getElem_mem hkN)
   rw [hck] at hxN
   have hvo : vl ob N.length = .slice (some (ob',0)) N.length N.length true := by rw [hob]; rfl
   have g5' := kB.of g5
   rw [hvo] at g5'
   have gN' := kB.of (gN ob' hob)
   have hNk : (N.map (·.1))[k]? = some N[k].1 := by rw [List.getElem?_map,List.getElem?_eq_getElem hkN]; rfl
   have gB := owB.at (i := br) (o := .cells c 5 true false none) (by simp)
   have gC := owB.at (i := cb) (o := cntO k) (by simp)
   have hrb : Rx hB (vl (some br) c.length) c := ⟨_,_,_,rfl,vl_elems gB,hbs⟩
   rw [hvl] at hrb
   have hge : ¬ ((k : Int) ≥ (N.length : Int)) := by omega
   have g2' := kB.of g2
   have gp' := kB.of gp
   have g3' := kB.of g3
   have gl' := kB.of gl
   have gs' := fun b hb => kB.of (gs b hb)
   have hw1 : IntKind.i64.wrap ((0 : Int) + (k : Int)) = ((k : Nat) : Int) := by rw [wrap_le (by omega) (by omega)]; omega
   have hw2 : IntKind.i64.wrap ((k : Int) + 1) = ((k + 1 : Nat) : Int) := wrap_nat (n := k + 1) (by omega)
   have hnn : ((k : Int) != (k : Int)) = false := by simp
   have hke : (((k + 1 : Nat) : Int) == 0) = false := by simp; omega
   unfold prO at gp'
   unfold cntO at gC
   rw [hvl]
   simp only [GR,evK,binV,intOp,strOp,shOp,unV,Nat.reduceLT,Nat.reduceEqDiff,Nat.reduceAdd,↓reduceIte,Nat.reduceLeDiff,reduceCtorEq,b17_11]
   rw [X_draw]
   refine d17_8 ?_
   simp only [GR,evK,binV,intOp,strOp,shOp,unV,Nat.reduceLT,Nat.reduceEqDiff,Nat.reduceAdd,↓reduceIte,Nat.reduceLeDiff,reduceCtorEq,r17_8,gC,q5,g5',hge,q2,g2',gp']
   refine XCQ_of (first51 D gl' hqn gs' hcA hm) ?_
   rintro _ hx ⟨rfl,e2⟩
   rw [e2]
   clear e2 hx
   refine ⟨Keeps.refl _ _,?_⟩
   have hke2 : ¬ k ≥ N.length := by omega
   simp only [GR,evK,binV,intOp,strOp,shOp,unV,Nat.reduceLT,Nat.reduceEqDiff,Nat.reduceAdd,↓reduceIte,Nat.reduceLeDiff,reduceCtorEq,gC,hw1,hnn,q5,g5',Int.natCast_nonneg,Int.ofNat_lt,hkN,Int.toNat_natCast,Nat.mul_one,Nat.zero_add,gN',hNk]
   refine ⟨by obtain ⟨_,_,_,hq⟩ := hxN.shape; rw [hq]; rfl,?_⟩
   refine XCQ_of (equal22 D hrb (hxN.kp kB)) ?_
   rintro _ hx ⟨rfl,e2⟩
   rw [e2]
   clear e2 hx
   refine ⟨Keeps.refl _ _,?_⟩
   have e9 := put_at (ws := [.int .i64 ((k + 1 : Nat) : Int)]) (o := 0) gC (by simp) rfl rfl
   have t9 : setR [V.int .i64 (k : Nat)] 0 [V.int .i64 ((k + 1 : Nat) : Int)] = [V.int .i64 ((k + 1 : Nat) : Int)] := rfl
   rw [t9] at e9
   have owB' : Ow h0.size hB ((cb,cntO k) :: [(tb,boxO sv'),(l,bz),(br,.cells c 5 true false none)]) := by simpa using owB
   obtain ⟨ow3,k3⟩ := Ow.set owB' (cntO (k + 1))
   have f3 := F74.set gC (by intro vs op ro fz e; cases e) (cntO (k + 1))
   have gC3 := ow3.head
   have g3'' := (Keeps.trans (n := h0.size) kB k3).get p3 (H.get_lt g3)
   rw [g3] at g3''
   unfold cntO at gC3 g3''
   simp only [GR,evK,binV,intOp,strOp,shOp,unV,Nat.reduceLT,Nat.reduceEqDiff,Nat.reduceAdd,↓reduceIte,Nat.reduceLeDiff,reduceCtorEq,Bool.not_true,r17_9,gC,hw2,e9,r17_10,gC3,q3,g3'',hke]
   exact ⟨ow3.sub (by simp),f3,k3⟩
  ·intro h' ow' cl' k0'
   have k' : Kp h0 h' := k0'
   obtain ⟨p,c,o,hvo⟩ := vl_shape ob N.length (fun h => by rw [hN0 h]; rfl)
   have g5' := k'.of g5
   rw [hvo] at g5'
   have gC := ow'.at (i := cb) (o := cntO nx) (by simp)
   unfold cntO at gC
   have hnn : ((nx : Int) != (N.length : Int)) = false := by rw [hNl]; simp
   simp only [GR,evK,binV,intOp,strOp,shOp,unV,Nat.reduceLT,Nat.reduceEqDiff,Nat.reduceAdd,↓reduceIte,Nat.reduceLeDiff,reduceCtorEq,r17_12,gC,q5,g5',hnn,r17_13,q93,hw]
   refine ih (t + 1) _ h' (by omega) (by omega) k' ?_ cl' ?_ ?_ ?_ ?_ ?_ ?_
   ·exact ow'.right
   ·exact q2
   ·exact q3
   ·exact q4
   ·exact q5
   ·exact q6
   ·rfl
end Go.AM.Wc
namespace Go.AM.Wc
open Go.AM Go.AM.Wd Go.AM.We
variable {P : Program} {E : Env} {T : H → Prop}
set_option maxHeartbeats 2000000 in
theorem same17 (F : Fw P E T) (D : Fd P E) (hs : E.prim 123 = some (sortedG 153 59)) {lo : Nat} {h : H} {R bd bm lb bp rd lr nx : Nat} {fs : List Fl} {sb : Option Nat} {gc : List V} {sgs : List Sg} {br : Bool} {fb : Option Nat} {qs : List Rq} {qb : Option Nat} {ss : List Sq} {sp : Bool} {m2 : List Cell} {A : List SegA}
  (ow : Ow lo h (allX R bd bm lb bp rd lr fs sb gc sgs nx br fb qs qb ss nx sp m2)) (lok : LOX R fs sb gc sgs 0 nx) (lq : LQX R fb qs qb ss nx) (hA1 : sgs.map Sg.sh = A) (hA2 : ss.map Sq.sh = A)
  (hrx : ∀ s ∈ ss, ∀ p ∈ s.rs,Rx h p.1 p.2) :
  Sp P E (.func 17 [] []) [.ptr (some (bp,0)),.int .i64 0] h fun r _ => r = .bool true := by
 have k1 : Kp h (((h.psh (.cells [.ptr (some (bp,0))] 42 false false none)).psh (.cells [.int .i64 0] 3 false false none)).psh (.cells [.bool false] 4 false false none)) := Kp.trans (Kp.trans (Keeps.psh (Nat.le_refl _) _) (Keeps.psh (Nat.le_refl _) _)) (Keeps.psh (Nat.le_refl _) _)
 have s1 := psh_size h (.cells [.ptr (some (bp,0))] 42 false false none)
 have s2 := psh_size (h.psh (.cells [.ptr (some (bp,0))] 42 false false none)) (.cells [.int .i64 0] 3 false false none)
 have g2 : (((h.psh (.cells [.ptr (some (bp,0))] 42 false false none)).psh (.cells [.int .i64 0] 3 false false none)).psh (.cells [.bool false] 4 false false none)).get h.size = some (.cells [.ptr (some (bp,0))] 42 false false none) := Kp.of (Kp.trans (Keeps.psh (Nat.le_refl _) _) (Keeps.psh (Nat.le_refl _) _)) (psh_same h _)
 have g3 : (((h.psh (.cells [.ptr (some (bp,0))] 42 false false none)).psh (.cells [.int .i64 0] 3 false false none)).psh (.cells [.bool false] 4 false false none)).get (h.size + 1) = some (.cells [.int .i64 0] 3 false false none) := by
  have := Kp.of (Keeps.psh (Nat.le_refl _) (.cells [.bool false] 4 false false none)) (psh_same (h.psh (.cells [.ptr (some (bp,0))] 42 false false none)) (.cells [.int .i64 0] 3 false false none))
  rwa [s1] at this
 have g4 : (((h.psh (.cells [.ptr (some (bp,0))] 42 false false none)).psh (.cells [.int .i64 0] 3 false false none)).psh (.cells [.bool false] 4 false false none)).get (h.size + 1 + 1) = some (.cells [.bool false] 4 false false none) := by
  have := psh_same ((h.psh (.cells [.ptr (some (bp,0))] 42 false false none)).psh (.cells [.int .i64 0] 3 false false none)) (.cells [.bool false] 4 false false none)
  rwa [s2,s1] at this
 have ow1 := ow.kp k1
 have gp := ow1.at (i := bp) (o := prO bd rd (.ptr (some (lb,0))) (.ptr (some (lr,0)))) (by simp [allX])
 refine Sp_fn D.f17 D.p17 (by simp [fn17]) ?_
 simp only [GR,evK,binV,intOp,strOp,shOp,unV,Nat.reduceLT,Nat.reduceEqDiff,Nat.reduceAdd,↓reduceIte,Nat.reduceLeDiff,reduceCtorEq,fn17,c17,r17_0,s1,s2]
 generalize (((h.psh (.cells [.ptr (some (bp,0))] 42 false false none)).psh (.cells [.int .i64 0] 3 false false none)).psh (.cells [.bool false] 4 false false none)) = h1 at *
 have gp' := gp
 unfold prO at gp'
 rw [X_draw]
 refine d17_1 ?_
 have hbb : ∀ h,eqV h .bool (.bool false) (.bool false) = some true := fun h => by simp [eqV]
 simp only [GR,evK,binV,intOp,strOp,shOp,unV,Nat.reduceLT,Nat.reduceEqDiff,Nat.reduceAdd,↓reduceIte,Nat.reduceLeDiff,reduceCtorEq,r17_1,g2,gp',eq_pn,hbb,Bool.not_true]
 refine XCD_of (disks50 F D hs ow1 lok lq hA1 hA2) ?_
 rintro _ h2 ⟨rfl,k2⟩
 have g2' := k2.of g2
 have gp2 := k2.of gp'
 simp only [GR,evK,binV,intOp,strOp,shOp,unV,Nat.reduceLT,Nat.reduceEqDiff,Nat.reduceAdd,↓reduceIte,Nat.reduceLeDiff,reduceCtorEq,Bool.not_true,r17_2,g2',gp2,eq_pn]
 rw [X_draw]
 refine d17_3 ?_
 have kk2 : Kp h h2 := Kp.trans k1 k2
 have ow2 := ow.kp kk2
 have owL : Ow lo h2 (dkX R bd bm 0 fs ++ (lgX lb bd sb gc sgs nx 0 br ++ (((bp,prO bd rd (.ptr (some (lb,0))) (.ptr (some (lr,0)))) :: (rdX R rd fb qs ++ (lqX lr rd qb ss nx sp ++ m2)))))) := ow2
 have rs2 := rsx_log owL lok.sbn lok.ch
 have gl2 := ow2.at (i := lb) (o := lgO bd (vlo sb gc.length sgs.length) nx 0 br) (by simp [allX,lgX])
 have gq2 := ow2.at (i := lr) (o := lqO rd (vl qb ss.length) nx sp) (by simp [allX,lqX])
 have gsq : ∀ b,qb = some b → h2.get b = some (.cells (ss.flatMap Sq.cells) 94 true false none) := fun b hb => ow2.at (by simp [allX,lqX,fpt,hb])
 have hsl : sgs.length = ss.length := by rw [← hA2] at hA1; have := congrArg List.length hA1; simpa using this
 obtain ⟨p,c,o,hv⟩ := vlo_shape sb gc.length sgs.length (fun h => by rw [(lok.sbn h).1]; rfl)
 obtain ⟨p2,c2,o2,hv2⟩ := vl_shape qb ss.length (fun h => by rw [lq.sbn.1 h]; rfl)
 have gq2' := gq2
 unfold lqO lqC at gq2'
 simp only [GR,evK,binV,intOp,strOp,shOp,unV,Nat.reduceLT,Nat.reduceEqDiff,Nat.reduceAdd,↓reduceIte,Nat.reduceLeDiff,reduceCtorEq,r17_3,g2',gp2]
 refine XCQ_of (first10 F gl2 rs2.rs lok.ch lok.lim) ?_
 rintro _ h3 ⟨rfl,k3⟩
 refine ⟨k3,?_⟩
 have g3' := k3.of g2'
 have gp3 := k3.of gp2
 simp only [GR,evK,binV,intOp,strOp,shOp,unV,Nat.reduceLT,Nat.reduceEqDiff,Nat.reduceAdd,↓reduceIte,Nat.reduceLeDiff,reduceCtorEq,g2',gp2,gq2',g3',gp3]
 refine XCQ_of (first51 D (k3.of gq2) lq.sbn (fun b hb => k3.of (gsq b hb)) lq.ch lq.lim) ?_
 rintro _ hx ⟨rfl,e2⟩
 rw [e2]
 clear e2 hx
 refine ⟨Keeps.refl _ _,?_⟩
 have hz : (((0 : Nat) : Int) != 0) = false := rfl
 simp only [GR,evK,binV,intOp,strOp,shOp,unV,Nat.reduceLT,Nat.reduceEqDiff,Nat.reduceAdd,↓reduceIte,Nat.reduceLeDiff,reduceCtorEq,g2',gp2,gq2',g3',gp3,hz]
 refine XCQ_of (next11 F (k3.of gl2)) ?_
 rintro _ hx ⟨rfl,e2⟩
 rw [e2]
 clear e2 hx
 refine ⟨Keeps.refl _ _,?_⟩
 simp only [GR,evK,binV,intOp,strOp,shOp,unV,Nat.reduceLT,Nat.reduceEqDiff,Nat.reduceAdd,↓reduceIte,Nat.reduceLeDiff,reduceCtorEq,g2',gp2,gq2',g3',gp3]
 refine XCQ_of (next52 D (k3.of gq2)) ?_
 rintro _ hx ⟨rfl,e2⟩
 rw [e2]
 clear e2 hx
 refine ⟨Keeps.refl _ _,?_⟩
 have hnn : ((nx : Int) != (nx : Int)) = false := by simp
 simp only [GR,evK,binV,intOp,strOp,shOp,unV,Nat.reduceLT,Nat.reduceEqDiff,Nat.reduceAdd,↓reduceIte,Nat.reduceLeDiff,reduceCtorEq,g2',gp2,gq2',g3',gp3,hnn]
 refine XCQ_of (synced19 F D (k3.of gl2)) ?_
 rintro _ hx ⟨rfl,e2⟩
 rw [e2]
 clear e2 hx
 refine ⟨Keeps.refl _ _,?_⟩
 have gq3 := k3.of gq2
 unfold lqO lqC at gq3
 have hz0 : ((0 : Int) != 0) = false := rfl
 simp only [GR,evK,binV,intOp,strOp,shOp,unV,Nat.reduceLT,Nat.reduceEqDiff,Nat.reduceAdd,↓reduceIte,Nat.reduceLeDiff,reduceCtorEq,g2',gp2,gq2',g3',gp3,gq3,hz0]
 refine XCQ_of (segs12 F (by have := k3.of gl2; rw [hv] at this; exact this)) ?_
 rintro _ hx ⟨rfl,e2⟩
 rw [e2]
 clear e2 hx
 refine ⟨Keeps.refl _ _,?_⟩
 simp only [GR,evK,binV,intOp,strOp,shOp,unV,Nat.reduceLT,Nat.reduceEqDiff,Nat.reduceAdd,↓reduceIte,Nat.reduceLeDiff,reduceCtorEq,g2',gp2,gq2',g3',gp3]
 refine XCQ_of (segs53 D (by have := k3.of gq2; rw [hv2] at this; exact this)) ?_
 rintro _ hx ⟨rfl,e2⟩
 rw [e2]
 clear e2 hx
 refine ⟨Keeps.refl _ _,?_⟩
 have hll : ((sgs.length : Int) != (ss.length : Int)) = false := by rw [hsl]; simp
 have kk3 : Kp h h3 := Kp.trans kk2 k3
 have ow3 : Ow lo h3 ((dkX R bd bm 0 fs ++ (lgX lb bd sb gc sgs nx 0 br ++ ((bp,prO bd rd (.ptr (some (lb,0))) (.ptr (some (lr,0)))) :: rdX R rd fb qs))) ++ (lqX lr rd qb ss nx sp ++ m2)) := by
  have := ow.kp kk3
  simpa [allX] using this
 have hAN : (allR ss).length = nx := by
  have e1 := recs_len lok.ch
  have e2 := recs_sh sgs
  have e3 := allR_sh ss
  rw [hA1] at e2
  rw [hA2] at e3
  have := congrArg List.length (e3.trans e2.symm)
  rw [List.length_map] at this
  omega
 have hsl2 : ss.length ≤ nx := by
  have := chA_len lq.ch
  rw [List.length_map] at this; omega
 have hlim := lok.lim
 have hqfew := lq.dk.few
 have hqsl : qs.length = ss.length := by have := congrArg List.length lq.fil; simpa using this
 have hrec : recs sgs = (allR ss).map (·.2) := by rw [recs_sh,allR_sh,hA1,hA2]
 have hrxN : ∀ p ∈ allR ss,Rx h p.1 p.2 := fun p hp => by
  obtain ⟨s,hs,hps⟩ := List.mem_flatMap.1 hp
  exact hrx s hs p hps
 simp only [GR,evK,binV,intOp,strOp,shOp,unV,Nat.reduceLT,Nat.reduceEqDiff,Nat.reduceAdd,↓reduceIte,Nat.reduceLeDiff,reduceCtorEq,hll,r17_4,g3',gp3]
 refine XC_of (records54 D ow3 (fun h => lq.sbn.1 h) lq.rbn (fun s hs q hq => by obtain ⟨_,_,_,hq⟩ := (hrx s hs q hq).shape; rw [hq]; rfl) (by omega) (by omega)) ?_
 rintro _ h4 ⟨ob,rfl,hob0,owN,k4⟩
 have kk4 : Kp h h4 := Kp.trans kk3 k4
 obtain ⟨vp,vc,vo,hvo⟩ := vl_shape ob (allR ss).length (fun h => by rw [hob0 h]; rfl)
 have k5 : Kp h4 (h4.psh (.cells [.slice none 0 0 false] 31 false false none)) := Keeps.psh (Nat.le_refl _) _
 have g5 := psh_same h4 (.cells [.slice none 0 0 false] 31 false false none)
 have e5 := put_at (ws := [vl ob (allR ss).length]) (o := 0) g5 (by simp) (by rw [hvo]; rfl) rfl
 have t5 : setR [V.slice none 0 0 false] 0 [vl ob (allR ss).length] = [vl ob (allR ss).length] := rfl
 rw [t5] at e5
 have k6 : Kp h4 ((h4.psh (.cells [.slice none 0 0 false] 31 false false none)).set h4.size (.cells [vl ob (allR ss).length] 31 false false none)) := Keeps.trans k5 (Keeps.set (H.get_lt g5) (Nat.le_refl _) _)
 have g6 := hset_same (H.get_lt g5) (.cells [vl ob (allR ss).length] 31 false false none)
 rw [hvo] at e5 k6 g6 ⊢
 simp only [GR,evK,binV,intOp,strOp,shOp,unV,Nat.reduceLT,Nat.reduceEqDiff,Nat.reduceAdd,↓reduceIte,Nat.reduceLeDiff,reduceCtorEq,e5]
 obtain ⟨h0,hh0⟩ : ∃ x,x = (h4.psh (.cells [.slice none 0 0 false] 31 false false none)).set h4.size (.cells [.slice vp (allR ss).length vc vo] 31 false false none) := ⟨_,rfl⟩
 rw [← hh0] at k6 g6 ⊢
 clear hh0 e5 k5 g5
 have kk6 : Kp h h0 := Kp.trans kk4 k6
 have gp6 := (Kp.trans k4 k6).of gp3
 have g26 := (Kp.trans k4 k6).of g3'
 have gl6 := (Kp.trans k3 (Kp.trans k4 k6)).of gl2
 have rs6 := rs2.kp (Kp.trans k3 (Kp.trans k4 k6))
 simp only [GR,evK,binV,intOp,strOp,shOp,unV,Nat.reduceLT,Nat.reduceEqDiff,Nat.reduceAdd,↓reduceIte,Nat.reduceLeDiff,reduceCtorEq,r17_5,g26,gp6]
 refine XC_of (records14 F gl6 rs6.rs (by omega)) ?_
 rintro _ h7 ⟨tb,sv',rfl,htb,gt7,cl7,k7⟩
 have ow7 : Ow h0.size h7 [(tb,boxO sv')] := (Ow.nil h0.size h0).new k7 htb (Nat.le_refl _) gt7
 simp only [GR,evK,binV,intOp,strOp,shOp,unV,Nat.reduceLT,Nat.reduceEqDiff,Nat.reduceAdd,↓reduceIte,Nat.reduceLeDiff,reduceCtorEq]
 refine loop17 F D (h0 := h0) (p2 := h.size) (p3 := h.size + 1) (p4 := h.size + 1 + 1) (p5 := h4.size) (N := allR ss) (ob := ob) (sgs := sgs) (tb := tb) (sv' := sv') g26 ((Kp.trans k2 (Kp.trans k3 (Kp.trans k4 k6))).of g3) ((Kp.trans k2 (Kp.trans k3 (Kp.trans k4 k6))).of g4) (by rw [hvo]; exact g6) gp6 ((Kp.trans k3 (Kp.trans k4 k6)).of gq2) lq.sbn (fun b hb => (Kp.trans k3 (Kp.trans k4 k6)).of (gsq b hb)) lq.ch (fun b hb => k6.of (owN.at (by simp [fpt,hb]))) hob0 (fun p hp => (hrxN p hp).kp kk6) hrec lok.ch hlim rs6 2 0 _ h7 rfl (by omega) k7 ow7 cl7 ?_ ?_ ?_ ?_ ?_ ?_
 ·rfl
 ·rfl
 ·rfl
 ·rfl
 ·rfl
 ·rfl
end Go.AM.Wc
namespace Go.AM.Wc
open Go.AM Go.AM.Wd Go.AM.We
variable {P : Program} {E : Env} {T : H → Prop}
theorem perm5 (A B C D M : List Cell) (p : Cell) : (A ++ (B ++ (p :: (C ++ (D ++ M))))).Perm (C ++ (D ++ (A ++ (B ++ (p :: M))))) := by simpa using perm_mid (A ++ (B ++ [p])) (C ++ D) M
set_option maxHeartbeats 4000000 in
theorem law4 (F : Fw P E T) (D : Fd P E) (f26 : E.fns 26 = some fn26) (p26 : E.prim 26 = none) (f4 : E.fns 4 = some fn4) (p4 : E.prim 4 = none) (hu : E.prim 105 = some usedK) (hs : E.prim 123 = some (sortedG 153 59)) (beg : ∀ h,T h → Sp P E (.func 6 [] []) [] h fun r h' => r = .bool true ∧ h' = h)
  (num : ∀ h bd bm,T h → h.get bm = some (.map [] 0) → h.get bd = some (.cells (diskX 4194304 bm) 63 false false none) → Sp P E (.func 27 [] []) [.ptr (some (bd,0)),.str logN] h fun v h' => (∃ p c o,v = .slice p 0 c o) ∧ Kp h h')
  {v : V} {xs : List (V × List V)} {h : H} (hv : Rlx h v xs) (hxl : xs.length ≤ 1048576) (hsm : ∀ p ∈ xs,p.2.length ≤ 1048576) (ht : T h) :
  Sp P E (.func 4 [] []) [v] h fun r _ => r = .bool true := by
 have h1lo := F.tsize _ ht
 have hvl := hv
 obtain ⟨vp,vc,vo,hvv,_⟩ := hvl
 have lox0 : LOX 4194304 [] none [] [] 0 0 := ⟨rfl,by decide,fun _ => ⟨rfl,rfl⟩,⟨by simp,by simp [totU],by simp,by decide⟩,rfl,by simp,by simp⟩
 have lqx0 : LQX 4194304 none [] none [] 0 := ⟨rfl,by decide,by simp,⟨fun _ => rfl,by simp,by simp [totQ],by simp,by decide,by simp⟩,by simp,rfl,by simp,by simp⟩
 refine Sp_fn f4 p4 (by simp [fn4]) ?_
 simp only [GR,evK,binV,intOp,strOp,shOp,unV,Nat.reduceLT,Nat.reduceEqDiff,Nat.reduceAdd,↓reduceIte,Nat.reduceLeDiff,reduceCtorEq,fn4,c4,r4_0]
 refine XC_of (beg h ht) ?_
 rintro _ hx ⟨rfl,e2⟩
 rw [e2]
 clear e2 hx
 simp only [GR,evK,binV,intOp,strOp,shOp,unV,Nat.reduceLT,Nat.reduceEqDiff,Nat.reduceAdd,↓reduceIte,Nat.reduceLeDiff,reduceCtorEq,Bool.not_true,r4_1]
 refine XC_of (begun15 F D f26 p26 num ht) ?_
 rintro _ h1 ⟨bd,bm,bp,rd,lb,lr,rfl,ow1,k1⟩
 have ht1 : T h1 := F.tkeep ht k1
 simp only [GR,evK,binV,intOp,strOp,shOp,unV,Nat.reduceLT,Nat.reduceEqDiff,Nat.reduceAdd,↓reduceIte,Nat.reduceLeDiff,reduceCtorEq,List.getElem?_cons_zero,List.getElem?_cons_succ,r4_2,Bool.not_true,r4_3,hvv]
 rw [← hvv]
 refine mine7 (lo := h.size) (h0 := h1) (m1 := allX 4194304 bd bm lb bp rd lr [] none [] [] 0 false none [] none [] 0 false []) (v := v) (xs := xs) (ρ0 := _) (fun h' k => hv.kp (Keeps.trans (n := h.size) k1 k)) hxl hsm ?_ xs.length 0 _ h1 none [] (Nat.sub_zero _) (Nat.zero_le _) rfl (fun _ => rfl) (by simp) (by simpa [mnX,fpt] using ow1) k1.size (Keeps.refl _ _) (fun j hj => rfl) ?_ ?_ ?_ ?_
 ·intro ρ2 h2 mb es hr q5 hmb hes hbs ow2 k2
  have q3 : ρ2 3 = .ptr (some (bp,0)) := hr 3 (by decide)
  have q0 : ρ2 0 = v := hr 0 (by decide)
  clear hr
  obtain ⟨xs2,hxs2⟩ : ∃ x,x = es.map fun e => (e.v,e.cs) := ⟨_,rfl⟩
  have hel : es.length = xs.length := by have := congrArg List.length hes; simpa using this
  have hxs2l : xs2.length = xs.length := by rw [hxs2,List.length_map,hel]
  have hxs2c : xs2.map (·.2) = xs.map (·.2) := by rw [hxs2,← hes,List.map_map]; rfl
  have ht2 : T h2 := F.tlow _ _ _ h1lo ht1 k2
  have k12 : Kp h h2 := Keeps.trans (n := h.size) k1 k2
  have ow2X : Ow h.size h2 (dkX 4194304 bd bm 0 [] ++ (lgX lb bd none [] [] 0 0 false ++ ((bp,prO bd rd (.ptr (some (lb,0))) (.ptr (some (lr,0)))) :: (rdX 4194304 rd none [] ++ (lqX lr rd none [] 0 false ++ mnX mb es))))) := by simpa [allX] using ow2
  have gp2 := ow2X.at (i := bp) (o := prO bd rd (.ptr (some (lb,0))) (.ptr (some (lr,0)))) (by simp)
  have gp2' := gp2
  unfold prO at gp2'
  simp only [GR,evK,binV,intOp,strOp,shOp,unV,Nat.reduceLT,Nat.reduceEqDiff,Nat.reduceAdd,↓reduceIte,Nat.reduceLeDiff,reduceCtorEq]
  rw [X_draw]
  refine XD_kb (lo := [bp]) (fs := [true,true,true,true,true,true,false,false,false,false,false,true,true]) rfl rfl ?_
  simp only [GR,evK,binV,intOp,strOp,shOp,unV,Nat.reduceLT,Nat.reduceEqDiff,Nat.reduceAdd,↓reduceIte,Nat.reduceLeDiff,reduceCtorEq,XDB_nil,XDB_cons,XSB_pur,XSB_rd,XAB_eff,XAB_call,r4_8,q3,gp2',q5]
  refine ⟨RdB.load1 (by rw [ev_t (by decide)]; rfl) (by simp) gp2 rfl,?_⟩
  refine XCB_of (append9x F hu ow2X k12.size h1lo ht2 lox0 (xs := xs2) (v := vl mb es.length) (fun h' _ o => ?_) (by omega)) ?_
  ·rw [hxs2]
   refine mn_rlx (mb := mb) (es := es) (lo := h.size) ?_ hmb hbs
   exact (o.tail.right).right
  rintro _ h3 ⟨e,fs,sb,gc,sgs,nx,br,rfl,ow3,lok,he,k3⟩
  have gp3 := ow3.at (i := bp) (o := prO bd rd (.ptr (some (lb,0))) (.ptr (some (lr,0)))) (by simp)
  have hb3 : BK [bp] h2 h3 := fun i hi => by rw [List.mem_singleton.1 hi,gp2,gp3]
  refine ⟨hb3,?_⟩
  have gp3' := gp3
  unfold prO at gp3'
  simp only [GR,evK,binV,intOp,strOp,shOp,unV,Nat.reduceLT,Nat.reduceEqDiff,Nat.reduceAdd,↓reduceIte,Nat.reduceLeDiff,reduceCtorEq,XDB_nil,XDB_cons,XSB_pur,XSB_rd,XAB_eff,XAB_call,q3,gp2',gp3',q0]
  refine ⟨RdB.load1 (by rw [ev_t (by decide)]; rfl) (by simp) gp2 rfl,?_⟩
  have ht3 : T h3 := F.tlow _ _ _ h1lo ht2 k3
  have k13 : Kp h h3 := Keeps.trans (n := h.size) k12 k3
  have ow3R := ow3.perm (perm5 _ _ _ _ _ _)
  refine XCB_of (append16 F D ow3R k13.size h1lo ht3 lqx0 (xs := xs) (v := v) (by simp) (fun h' k => hv.kp (Keeps.trans (n := h.size) k13 k)) (by omega)) ?_
  rintro _ h4 ⟨e',fb,qs,qb,ss,nx',sp,rfl,ow4R,lq,hmem,he',k4⟩
  have hall : (e,sgs.map Sg.sh,nx,br) = (e',ss.map Sq.sh,nx',sp) := by rw [he,he',hxs2c]; rfl
  simp only [Prod.mk.injEq] at hall
  obtain ⟨rfl,hAA,rfl,rfl⟩ := hall
  clear he he'
  have ow4 : Ow h.size h4 (allX 4194304 bd bm lb bp rd lr fs sb gc sgs nx br fb qs qb ss nx br [] ++ mnX mb es) := by
   have := ow4R.perm (perm5 _ _ _ _ _ _).symm
   simpa [allX] using this
  have gp4 := ow4.at (i := bp) (o := prO bd rd (.ptr (some (lb,0))) (.ptr (some (lr,0)))) (by simp [allX])
  refine ⟨fun i hi => by rw [List.mem_singleton.1 hi,gp3,gp4],?_⟩
  have hee : (e != e) = false := by simp
  obtain ⟨mp,mc,mo',hmv⟩ := vl_shape mb es.length (fun h => by rw [hmb h]; rfl)
  rw [hmv] at q5
  have k14 : Kp h h4 := Keeps.trans (n := h.size) k13 k4
  have rxs : ∀ s ∈ ss, ∀ p ∈ s.rs,Rx h p.1 p.2 := fun s hs p hp => by
   obtain ⟨_,_,_,_,_,hq⟩ := hv
   exact hq p (hmem s hs p hp)
  simp only [GR,evK,binV,intOp,strOp,shOp,unV,Nat.reduceLT,Nat.reduceEqDiff,Nat.reduceAdd,↓reduceIte,Nat.reduceLeDiff,reduceCtorEq,XDB_nil,XDB_cons,XSB_pur,XSB_rd,XAB_eff,XAB_call,hee,r4_9,q5]
  refine over17 (lo := h.size) (h0 := h4) (m1 := allX 4194304 bd bm lb bp rd lr fs sb gc sgs nx br fb qs qb ss nx br []) (mb := mb) (N := es.length) (ρ0 := ρ2) (by omega) (fun h => by rw [hmb h]; rfl) ?_ es.length 0 _ h4 es (Nat.sub_zero _) (Nat.zero_le _) rfl (fun e he => ⟨hbs e he,?_⟩) ow4 k14.size (Keeps.refl _ _) (fun j hj => ?_) ?_ ?_ ?_
  ·intro ρ5 h5 hr5 ow5 k5
   have p3 : ρ5 3 = .ptr (some (bp,0)) := (hr5 3 (by decide)).trans q3
   have k15 : Kp h h5 := Keeps.trans (n := h.size) k14 k5
   have ow5X : Ow h.size h5 (dkX 4194304 bd bm 0 fs ++ (lgX lb bd sb gc sgs nx 0 br ++ ((bp,prO bd rd (.ptr (some (lb,0))) (.ptr (some (lr,0)))) :: (rdX 4194304 rd fb qs ++ (lqX lr rd qb ss nx br ++ []))))) := ow5
   have gp5 := ow5X.at (i := bp) (o := prO bd rd (.ptr (some (lb,0))) (.ptr (some (lr,0)))) (by simp)
   have gl5 := ow5X.at (i := lb) (o := lgO bd (vlo sb gc.length sgs.length) nx 0 br) (by simp [lgX])
   have rs5 := rsx_log ow5X lok.sbn lok.ch
   have hsl := chain_len lok.ch
   have hlim := lok.lim
   unfold prO at gp5
   simp only [GR,evK,binV,intOp,strOp,shOp,unV,Nat.reduceLT,Nat.reduceEqDiff,Nat.reduceAdd,↓reduceIte,Nat.reduceLeDiff,reduceCtorEq,r4_18,p3,gp5]
   refine XC_of (records14 F gl5 rs5.rs (by omega)) ?_
   rintro _ h6 ⟨tb,sv',rfl,htb,gt6,cl6,k6⟩
   have ow6 := Ow.newM (m1 := allX 4194304 bd bm lb bp rd lr fs sb gc sgs nx br fb qs qb ss nx br []) (m2 := []) (by simpa using ow5) k6 htb k15.size gt6
   simp only [GR,evK,binV,intOp,strOp,shOp,unV,Nat.reduceLT,Nat.reduceEqDiff,Nat.reduceAdd,↓reduceIte,Nat.reduceLeDiff,reduceCtorEq]
   refine over25 F (lo := h.size) (a := 0) (h0 := h6) (M := allX 4194304 bd bm lb bp rd lr fs sb gc sgs nx br fb qs qb ss nx br []) rfl (Nat.le_trans k15.size k6.size) ow6 cl6 (Keeps.refl _ _) (fun h' o => ⟨_,rsx_log (m1 := dkX 4194304 bd bm 0 fs) o lok.sbn lok.ch⟩) lok.ch lok.lim ?_
   intro h7 ow7 k7
   have k17 : Kp h h7 := Keeps.trans (n := h.size) (Kp.trans k15 k6) k7
   simp only [GR,evK,binV,intOp,strOp,shOp,unV,Nat.reduceLT,Nat.reduceEqDiff,Nat.reduceAdd,↓reduceIte,Nat.reduceLeDiff,reduceCtorEq,r4_26,p3]
   refine XC_of (same17 F D hs ow7 lok lq hAA rfl (fun s hs p hp => (rxs s hs p hp).kp k17)) ?_
   rintro _ h8 rfl
   simp only [GR,evK,binV,intOp,strOp,shOp,unV,Nat.reduceLT,Nat.reduceEqDiff,Nat.reduceAdd,↓reduceIte,Nat.reduceLeDiff,reduceCtorEq]
  ·have : e.cs ∈ es.map Mn.cs := List.mem_map.2 ⟨e,he,rfl⟩
   rw [hes] at this
   obtain ⟨p,hp,hpe⟩ := List.mem_map.1 this
   have := hsm p hp
   rw [← hpe]; omega
  ·simp only [up_app]
   repeat rw [if_neg (by omega)]
  ·exact hmv.symm
  ·rfl
  ·rfl
 ·rfl
 ·rfl
 ·rfl
 ·rfl
end Go.AM.Wc
