/- My own texts, laid for this claim. -/
import Derived.Test.YtpfoofcallfjjaaGreatDoorWdCodeToWe25
import Derived.Sort.Walk0
import Derived.Sort.Row
import Derived.Lib.AtoiErrMem
import Derived.Lib.ParseIntBMem
set_option linter.unusedSimpArgs false
set_option linter.unusedVariables false
namespace Go.AM.Wc
open Go.AM Go.AM.Wd Go.AM.We
variable {P : Program} {E : Env} {T : H → Prop}
def boxO (sv : V) : Obj := .cells [sv] 66 false false none
theorem F74.setO {lo : Nat} {h : H} {i : Nat} {o : Obj} {m : List Cell} (a : Ow lo h m) (hm : (i,o) ∈ m) (hn : ∀ vs op ro fz,o ≠ .cells vs 74 op ro fz) (o' : Obj) : F74 h (h.set i o') := F74.set (a.at hm) hn o'
set_option maxHeartbeats 1000000 in
theorem range_recs (F : Fw P E T) {lo L tf p1 p2 tb a nx : Nat} {h0 h : H} {ca b : C} {asg : (Nat → V) → Nat → V} {ρ : Nat → V} {K : List Fr} {Q : Po} {J : Nat → List Cell} {sv' : V} {sgs : List Sg}
  (htf : tf < L) (hT : ρ tf = .func 41 [] [.ptr (some (tb,0))]) (hlo : lo ≤ h.size) (ow : Ow lo h (J a ++ [(tb,boxO sv')])) (cl : Cl h sv' sgs) (kk : Keeps lo h0 h)
  (hrs : ∀ k h',Ow lo h' (J k) → Keeps lo h0 h' → ∃ sv,Rsx h' sv sgs) (hc : chain sgs a nx) (hm : nx ≤ 1000000000000)
  (hA : ∀ l ρ' h' (R : Po),R .nrm (toL L (asg ρ')) h' → X P E (some l) L [.c ca] ρ' h' R)
  (body : ∀ k l hB br c,a ≤ k → k < nx → (recs sgs)[k - a]? = some c → 1 ≤ c.length → Bs c → lo ≤ hB.size → Keeps lo h0 hB → Ow lo hB (J k ++ ([(tb,boxO sv'),(l,.loop .busy none (toL L ρ) [p1,p2] ca b)] ++ [(br,.cells c 5 true false none)])) →
   X P E (some l) L [.c b] (asg (up (up ρ p1 (.int .i64 (k : Nat))) p2 (vl (some br) c.length))) hB fun ex _ h2 => ex = .nrm ∧ Ow lo h2 (J (k + 1) ++ [(tb,boxO sv'),(l,.loop .busy none (toL L ρ) [p1,p2] ca b)]) ∧ F74 hB h2 ∧ Keeps lo hB h2)
  (cont : ∀ h',Ow lo h' (J nx ++ [(tb,boxO sv')]) → Cl h' sv' sgs → Keeps lo h0 h' → X P E none L K ρ h' Q) :
  X P E none L (.c (.range (.t tf) [p1,p2] ca b) :: K) ρ h Q := by
 refine X_range (by rw [ev_t htf]; exact congrArg some hT) rfl ?_
 obtain ⟨rz,hrz⟩ : ∃ rz : Obj,rz = .loop .ready none (toL L ρ) [p1,p2] ca b := ⟨_,rfl⟩
 obtain ⟨bz,hbz⟩ : ∃ bz : Obj,bz = .loop .busy none (toL L ρ) [p1,p2] ca b := ⟨_,rfl⟩
 have kL : Kp h (h.psh rz) := Keeps.psh (Nat.le_refl _) _
 have owL := Ow.pushM (m1 := J a ++ [(tb,boxO sv')]) (m2 := []) (by simpa using ow) hlo rz
 have nocr : ∀ vs op ro fz,rz ≠ .cells vs 74 op ro fz := by intro vs op ro fz e; rw [hrz] at e; cases e
 have nocb : ∀ vs op ro fz,bz ≠ .cells vs 74 op ro fz := by intro vs op ro fz e; rw [hbz] at e; cases e
 rw [← hrz]
 refine Sp.mono (iter41x F (l := h.size) (tb := tb) (sv := sv') hc hm
  (fun k h' => Ow lo h' (J k ++ [(tb,boxO sv'),(h.size,rz)]) ∧ Cl h' sv' sgs ∧ Keeps lo h0 h' ∧ lo ≤ h'.size)
  (fun _ => False) ?_ ?_ ?_ ⟨by simpa using owL,cl.fr (F74.kp kL),Keeps.trans kk (kL.mono hlo),Nat.le_trans hlo kL.size⟩) ?_
 ·rintro k h4 h5 ⟨i1,i2,i3,i4⟩ k45
  exact ⟨i1.kp k45,i2.fr (F74.kp k45),Keeps.trans i3 (k45.mono i4),Nat.le_trans i4 k45.size⟩
 ·rintro k h4 ⟨i1,i2,i3,i4⟩
  obtain ⟨sv,hr⟩ := hrs k h4 i1.left i3
  exact ⟨i1.at (by simp [boxO]),hr.cl i2⟩
 ·rintro k hP h4 r c hk1 hk2 hck hc1 ⟨i1,i2,i3,i4⟩ ⟨br,rfl,hbs,hbsz,hbg,kN⟩
  have i1' := Ow.newM (m1 := J k ++ [(tb,boxO sv'),(h.size,rz)]) (m2 := []) (by simpa using i1) kN hbsz i4 hbg
  have i2' := i2.fr (F74.kp kN)
  have i4' : lo ≤ h4.size := Nat.le_trans i4 kN.size
  have i3' : Keeps lo h0 h4 := Keeps.trans i3 (kN.mono i4)
  have gB := i1'.at (i := h.size) (o := rz) (by simp)
  rw [hrz] at gB
  refine Sp_yield (pend' := none) gB rfl (zip2 _ _ _ _ _ _) ?_
  refine hA _ _ _ _ ⟨rfl,gB,_,rfl,?_⟩
  have ow1 : Ow lo h4 ((J k ++ [(tb,boxO sv')]) ++ (h.size,rz) :: [(br,.cells c 5 true false none)]) := by simpa using i1'
  obtain ⟨ow2,k2⟩ := ow1.setM bz
  have f2 := F74.setO ow1 (i := h.size) (o := rz) (by simp) nocr bz
  rw [← hbz]
  obtain ⟨ex,T2,h2,e2,rfl,o2,f3,k3⟩ := body k h.size _ br c hk1 hk2 hck hc1 hbs (by rw [H.set_size]; exact i4') (Keeps.trans i3' k2) (by rw [← hbz]; simpa using ow2)
  rw [← hbz] at o2
  refine ⟨.nrm,T2,h2,e2,?_,?_⟩
  ·exact o2.at (by simp)
  ·have o3 : Ow lo h2 ((J (k + 1) ++ [(tb,boxO sv')]) ++ (h.size,bz) :: []) := by simpa using o2
   obtain ⟨o4,k4⟩ := o3.setM rz
   have f4 := F74.setO o3 (i := h.size) (o := bz) (by simp) nocb rz
   rw [← hrz]
   have fall := (f2.trans f3).trans f4
   refine ⟨fall,.inl ⟨rfl,by simpa using o4,i2'.fr fall,Keeps.trans i3' (Keeps.trans k2 (Keeps.trans k3 k4)),?_⟩⟩
   rw [H.set_size]
   have := k3.size
   rw [H.set_size] at this
   omega
 ·rintro _ h4 (⟨i1,i2,i3,i4⟩ | h0')
  ·have gR := i1.at (i := h.size) (o := rz) (by simp)
   rw [hrz] at gR
   refine ⟨_,_,_,_,_,_,gR,by decide,fun oe hoe => ?_⟩
   have o3 : Ow lo h4 ((J nx ++ [(tb,boxO sv')]) ++ (h.size,rz) :: []) := by simpa using i1
   obtain ⟨o4,k4⟩ := o3.setM oe
   have f4 := F74.setO o3 (i := h.size) (o := rz) (by simp) nocr oe
   exact cont _ (by simpa using o4.dropM) (i2.fr f4) (Keeps.trans i3 k4)
  ·exact h0'.elim
end Go.AM.Wc
namespace Go.AM.Wc
open Go.AM Go.AM.Wd Go.AM.We
variable {P : Program} {E : Env} {T : H → Prop}
end Go.AM.Wc
namespace Go.AM.Wc
open Go.AM Go.AM.Wd Go.AM.We
variable {P : Program} {E : Env} {T : H → Prop}
theorem Ow.new2 {lo : Nat} {h h' : H} {m : List Cell} (a : Ow lo h m) (k : Kp h h') {b1 b2 : Nat} {o1 o2 : Obj} (h1 : h.size ≤ b1) (h2 : h.size ≤ b2) (hlo : lo ≤ h.size) (g1 : h'.get b1 = some o1) (g2 : h'.get b2 = some o2) (hne : b1 ≠ b2) : Ow lo h' ((b1,o1) :: (b2,o2) :: m) := by
 have a2 := a.new k h2 hlo g2
 refine ⟨fun p hp => ?_,fun p hp => ?_,?_⟩
 ·rcases List.mem_cons.1 hp with rfl | hp
  ·exact g1
  ·exact a2.get p hp
 ·rcases List.mem_cons.1 hp with rfl | hp
  ·show lo ≤ b1; omega
  ·exact a2.low p hp
 ·rw [List.map_cons,List.nodup_cons]
  refine ⟨fun hm => ?_,a2.nd⟩
  obtain ⟨p,hp,e⟩ := List.mem_map.1 hm
  rcases List.mem_cons.1 hp with rfl | hp
  ·exact hne e.symm
  ·have := H.get_lt (a.get p hp)
   simp only at e
   omega
theorem bytesV_bs : ∀ {cs : List V},Bs cs → ∃ s,bytesV cs = some s
 | [],_ => ⟨[],rfl⟩
 | c :: cs,h => by
  obtain ⟨n,rfl⟩ := h c List.mem_cons_self
  obtain ⟨s,hs⟩ := bytesV_bs (cs := cs) fun x hx => h x (List.mem_cons_of_mem _ hx)
  exact ⟨UInt8.ofNat n.toNat :: s,by simp [bytesV,hs]⟩
theorem equal22 (D : Fd P E) {h : H} {v w : V} {cs : List V} (hv : Rx h v cs) (hw : Rx h w cs) : Sp P E (.func 22 [] []) [v,w] h fun r h' => r = .bool true ∧ h' = h := by
 obtain ⟨p1,c1,o1,rfl,e1,hb⟩ := hv
 obtain ⟨p2,c2,o2,rfl,e2,_⟩ := hw
 obtain ⟨s,hs⟩ := bytesV_bs hb
 have heq : (s == s) = true := by simp
 have nl : ∀ {q : Option (Nat × Nat)} {c : Nat} {o : Bool},elemsV h 1 cs.length (.slice q cs.length c o) = some cs → q = none → s = [] := by
  intro q c o he hq
  subst hq
  have : cs = [] := by
   simp only [elemsV] at he
   split at he
   ·rename_i h0; exact List.eq_nil_of_length_eq_zero (by omega)
   ·cases he
  rw [this] at hs
  simpa [bytesV] using hs.symm
 have n1 := nl e1
 have n2 := nl e2
 refine Sp_fn D.f22 D.p22 (by simp [fn22]) ?_
 cases p1 with
 | none =>
  have hs0 := n1 rfl
  subst hs0
  cases p2 with
  | none => simp only [GR,evK,binV,intOp,strOp,shOp,unV,Nat.reduceLT,Nat.reduceEqDiff,Nat.reduceAdd,↓reduceIte,Nat.reduceLeDiff,reduceCtorEq,fn22,c22,r22_0,e1,e2,hs,heq,Option.isNone_none]
  | some q => simp only [GR,evK,binV,intOp,strOp,shOp,unV,Nat.reduceLT,Nat.reduceEqDiff,Nat.reduceAdd,↓reduceIte,Nat.reduceLeDiff,reduceCtorEq,fn22,c22,r22_0,e1,e2,hs,heq,Option.isNone_none,Option.isNone_some,Bool.false_eq_true]
 | some q1 =>
  cases p2 with
  | none =>
   have hs0 := n2 rfl
   subst hs0
   simp only [GR,evK,binV,intOp,strOp,shOp,unV,Nat.reduceLT,Nat.reduceEqDiff,Nat.reduceAdd,↓reduceIte,Nat.reduceLeDiff,reduceCtorEq,fn22,c22,r22_0,e1,e2,hs,heq,Option.isNone_none,Option.isNone_some,Bool.false_eq_true]
  | some q => simp only [GR,evK,binV,intOp,strOp,shOp,unV,Nat.reduceLT,Nat.reduceEqDiff,Nat.reduceAdd,↓reduceIte,Nat.reduceLeDiff,reduceCtorEq,fn22,c22,r22_0,e1,e2,hs,heq,Option.isNone_some,Bool.false_eq_true]
theorem srt_sorted {ns : List (List UInt8)} (h : ns.Pairwise fun a b => Op.bytesLess a b = true) : srt ns = ns := by
 refine List.mergeSort_of_pairwise (h.imp fun {a b} hab => ?_)
 rw [Go.Proofs.bytesLess_eq,decide_eq_true_eq] at hab
 unfold leS
 rw [decide_eq_true_eq]
 exact List.le_of_lt hab
theorem seg_less {A : List SegA} : ∀ {a z : Nat},chA A a z → z ≤ 1000000000000 → (A.map fun s => segN s.1).Pairwise fun a b => Op.bytesLess a b = true := by
 induction A with
 | nil => intro _ _ _ _; exact List.Pairwise.nil
 | cons s r ih =>
  intro a z hc hz
  obtain ⟨h1,h2,h3⟩ := hc
  rw [List.map_cons,List.pairwise_cons]
  refine ⟨fun n hn => ?_,ih h3 hz⟩
  obtain ⟨t,ht,rfl⟩ := List.mem_map.1 hn
  obtain ⟨q1,q2,q3⟩ := chA_mem h3 t ht
  have : 1 ≤ s.2.length := List.length_pos_iff.2 h2
  have : 1 ≤ t.2.length := List.length_pos_iff.2 q1
  exact segN_less (by omega) (by omega)
theorem chain_chA : ∀ {sgs : List Sg} {a z : Nat},chain sgs a z → chA (sgs.map Sg.sh) a z
 | [],_,_,h => h
 | s :: r,a,z,h => by
  obtain ⟨h1,h2,h3⟩ := h
  refine ⟨h1,by simpa [Sg.sh] using h2.ne,?_⟩
  have := chain_chA h3
  simpa [Sg.sh] using this
theorem less_nodup {ns : List (List UInt8)} (h : ns.Pairwise fun a b => Op.bytesLess a b = true) : ns.Nodup := h.imp fun {a b} hab e => by rw [e,less_self] at hab; cases hab
end Go.AM.Wc
namespace Go.AM.Wc
open Go.AM Go.AM.Wd Go.AM.We
variable {P : Program} {E : Env} {T : H → Prop}
def fA (s : SegA) : List UInt8 × List V := (segN s.1,bytA s)
theorem fs_fA {fs : List Fl} {sgs : List Sg} (h : fs.map (fun f => (f.name,f.cs)) = sgs.map fun s => (segN s.fst,s.byt)) : fs.map (fun f => (f.name,f.cs)) = (sgs.map Sg.sh).map fA := by
 rw [h,List.map_map]
 refine List.map_congr_left fun s _ => ?_
 simp [fA,byt_sh,Sg.sh]
 rw [← byt_sh]; rfl
theorem ahead {A : List SegA} {a z i : Nat} (hc : chA A a z) (hz : z ≤ 1000000000000) (hi : i < A.length) : ∀ n ∈ (A.take i).map fun s => segN s.1,Op.bytesLess n (segN A[i].1) = true := by
 have hp := seg_less hc hz
 have hs : A = A.take i ++ A[i] :: A.drop (i + 1) := by simp
 rw [hs,List.map_append,List.map_cons] at hp
 intro n hn
 have := (List.pairwise_append.1 hp).2.2 n hn (segN A[i].1) List.mem_cons_self
 exact this
theorem byt_pos {s : SegA} (h : s.2 ≠ []) : 1 ≤ (bytA s).length := by
 obtain ⟨n,l⟩ := s
 cases l with
 | nil => exact (h rfl).elim
 | cons c r =>
  have := numF_len c.length
  simp only [bytA,List.flatMap_cons,List.length_append,frameF]
  omega
def nbx (lb : Option Nat) (k : Nat) : Obj := .cells [vl lb k] 136 false false none
end Go.AM.Wc
namespace Go.AM.Wc
open Go.AM Go.AM.Wd Go.AM.We
variable {P : Program} {E : Env} {T : H → Prop}
structure Fy where
 name : List UInt8
 blk : Nat
 v : V
 cs : List V
 syn : Nat
def Fy.ent (f : Fy) : V × V := (.str f.name,.ptr (some (f.blk,0)))
structure DV (h : H) (R bd bm k : Nat) (fs : List Fy) : Prop where
 gd : h.get bd = some (.cells (diskX R bm) 63 false false none)
 gm : h.get bm = some (mok k (fs.map Fy.ent))
 fl : ∀ f ∈ fs,h.get f.blk = some (.cells [f.v,.int .i64 f.syn] 105 false false none) ∧ Rx h f.v f.cs
theorem DV.kp {h h' : H} {R bd bm k : Nat} {fs : List Fy} (a : DV h R bd bm k fs) (x : Kp h h') : DV h' R bd bm k fs :=
 ⟨x.of a.gd,x.of a.gm,fun f hf => ⟨x.of (a.fl f hf).1,(a.fl f hf).2.kp x⟩⟩
def Fy.fl (f : Fy) : Fl := ⟨f.name,f.blk,none,[],0⟩
theorem ent_fl (fs : List Fy) : fs.map Fy.ent = (fs.map Fy.fl).map fun f => entU f.fu := by rw [List.map_map]; rfl
theorem fy_find {fs1 : List Fy} {f : Fy} {fs2 : List Fy} {n : List UInt8} {k : Nat} (hn : ∀ g ∈ fs1,g.name ≠ n) (hf : f.name = n) : findK .str (.str n) (mos ((fs1 ++ f :: fs2).map Fy.ent) k) 0 = some (some (fs1.length,.ptr (some (f.blk,0)))) := by
 have := find_some (fs1 := fs1.map Fy.fl) (f := f.fl) (fs2 := fs2.map Fy.fl) (n := n) (k := k) (j := 0) (fun g hg => by obtain ⟨x,hx,rfl⟩ := List.mem_map.1 hg; exact hn x hx) hf
 rw [ent_fl,List.map_append,List.map_cons]
 simpa [Fy.fl] using this
theorem read28v (F : Fw P E T) (D : Fd P E) {h : H} {R bd bm k : Nat} {fs1 : List Fy} {f : Fy} {fs2 : List Fy} (dv : DV h R bd bm k (fs1 ++ f :: fs2)) (hn : ∀ g ∈ fs1,g.name ≠ f.name) (l1 : 1 ≤ f.name.length) (l2 : f.name.length ≤ 64) (hc : 1 ≤ f.cs.length) (hm : f.cs.length ≤ 4194304) :
  Sp P E (.func 28 [] []) [.ptr (some (bd,0)),.str f.name] h fun r h' => ∃ v,r = .tup [v,.int .i64 0] ∧ Nx h h' v f.cs := by
 have k1 : Kp h (h.psh (.cells [.str f.name] 9 false false none)) := Keeps.psh (Nat.le_refl _) _
 have gb := psh_same h (.cells [.str f.name] 9 false false none)
 have dv1 := dv.kp k1
 have gd := dv1.gd
 have gm := dv1.gm
 unfold mok at gm
 have hfk := fy_find (f := f) (fs2 := fs2) (k := k) hn rfl
 have c4 : ((0 : Int) != 0) = false := rfl
 have hd0 : List.drop 1 [V.str []] = [] := rfl
 obtain ⟨gf,hx⟩ := dv1.fl f (by simp)
 obtain ⟨p,c,o,hvl⟩ := hx.shape
 rw [hvl] at gf hx
 refine Sp_fn D.f28 D.p28 (by simp [fn28]) ?_
 simp only [GR,evK,binV,intOp,strOp,shOp,unV,Nat.reduceLT,Nat.reduceEqDiff,Nat.reduceAdd,↓reduceIte,Nat.reduceLeDiff,reduceCtorEq,fn28,c28,r28_0,r28_1,hd0]
 refine XC_of (there63x F gd gm hfk gb l1 l2) ?_
 rintro _ hx ⟨rfl,e2⟩
 rw [e2]
 clear e2 hx
 unfold diskX at gd
 simp only [GR,evK,binV,intOp,strOp,shOp,unV,Nat.reduceLT,Nat.reduceEqDiff,Nat.reduceAdd,↓reduceIte,Nat.reduceLeDiff,reduceCtorEq,r28_2,c4,r28_4,gd,gm,hfk,gf]
 refine XC_of (clone42x F hx hc hm) ?_
 rintro r h1 ⟨b',q1,q2,q3,q4,q5⟩
 simp only [GR,evK,binV,intOp,strOp,shOp,unV,Nat.reduceLT,Nat.reduceEqDiff,Nat.reduceAdd,↓reduceIte,Nat.reduceLeDiff,reduceCtorEq]
 exact ⟨r,rfl,b',q1,q2,by have := k1.size; omega,q4,Kp.trans k1 q5⟩
theorem size32v (F : Fw P E T) (f32 : E.fns 32 = some fn32) (p32 : E.prim 32 = none) {h : H} {R bd bm k : Nat} {fs1 : List Fy} {f : Fy} {fs2 : List Fy} (dv : DV h R bd bm k (fs1 ++ f :: fs2)) (hn : ∀ g ∈ fs1,g.name ≠ f.name) (l1 : 1 ≤ f.name.length) (l2 : f.name.length ≤ 64) :
  Sp P E (.func 32 [] []) [.ptr (some (bd,0)),.str f.name] h fun r h' => r = .tup [.int .i64 f.cs.length,.int .i64 f.syn,.int .i64 0] ∧ Kp h h' := by
 have k1 : Kp h (h.psh (.cells [.str f.name] 9 false false none)) := Keeps.psh (Nat.le_refl _) _
 have gb := psh_same h (.cells [.str f.name] 9 false false none)
 have dv1 := dv.kp k1
 have gd := dv1.gd
 have gm := dv1.gm
 unfold mok at gm
 have hfk := fy_find (f := f) (fs2 := fs2) (k := k) hn rfl
 have c4 : ((0 : Int) != 0) = false := rfl
 have hd0 : List.drop 1 [V.str []] = [] := rfl
 obtain ⟨gf,hx⟩ := dv1.fl f (by simp)
 obtain ⟨p,c,o,hvl⟩ := hx.shape
 rw [hvl] at gf
 refine Sp_fn f32 p32 (by simp [fn32]) ?_
 simp only [GR,evK,binV,intOp,strOp,shOp,unV,Nat.reduceLT,Nat.reduceEqDiff,Nat.reduceAdd,↓reduceIte,Nat.reduceLeDiff,reduceCtorEq,fn32,c32,r32_0,r32_1,hd0]
 refine XC_of (there63x F gd gm hfk gb l1 l2) ?_
 rintro _ hx ⟨rfl,e2⟩
 rw [e2]
 clear e2 hx
 unfold diskX at gd
 simp only [GR,evK,binV,intOp,strOp,shOp,unV,Nat.reduceLT,Nat.reduceEqDiff,Nat.reduceAdd,↓reduceIte,Nat.reduceLeDiff,reduceCtorEq,r32_2,c4,r32_4,gd,gm,hfk]
 rw [X_draw,d32_5]
 simp only [GR,evK,binV,intOp,strOp,shOp,unV,Nat.reduceLT,Nat.reduceEqDiff,Nat.reduceAdd,↓reduceIte,Nat.reduceLeDiff,reduceCtorEq,r32_5,gf]
 exact k1
end Go.AM.Wc
namespace Go.AM.Wc
open Go.AM Go.AM.Wd
variable {P : Program} {E : Env}
theorem equal102 (f102 : E.fns 102 = some fn102) (p102 : E.prim 102 = none) {h : H} {v w : V} {cs : List V} (hv : Rx h v cs) (hw : Rx h w cs) (hn : cs.length ≤ 1099511627776) : Sp P E (.func 102 [] []) [v,w] h fun r h' => r = .bool true ∧ h' = h := by
 have loop : ∀ (d k : Nat) (ρ : Nat → V),cs.length - k = d → k ≤ cs.length → ρ 0 = v → ρ 1 = w → ρ 12 = .int .i64 cs.length → ρ 13 = .int .i64 k →
   XL P E none 26 b102_5 [.b 0,.c (.seq (.region [⟨some 4,.mv (.k (.bool true)),none,0,[4]⟩]) (.ret))] ρ h (Fin [.t 4] fun r h' => r = .bool true ∧ h' = h) := by
  intro d
  induction d with
  | zero =>
   intro k ρ hd hk q0 q1 q12 q13
   have hke : ¬ k < cs.length := by omega
   rw [u102_5]
   simp only [GR,evK,binV,intOp,strOp,shOp,unV,Nat.reduceLT,Nat.reduceEqDiff,Nat.reduceAdd,↓reduceIte,Nat.reduceLeDiff,reduceCtorEq,q12,q13,Int.ofNat_lt,hke]
  | succ d ih =>
   intro k ρ hd hk q0 q1 q12 q13
   have hke : k < cs.length := by omega
   obtain ⟨b1,o1,c1,p1,vs1,ty1,op1,ro1,fz1,x1,e1,g1,x1',k1⟩ := hv.at hke
   obtain ⟨b2,o2,c2,p2,vs2,ty2,op2,ro2,fz2,x2,e2,g2,x2',k2⟩ := hw.at hke
   have hxx : x1 = x2 := by rw [k1] at k2; cases k2; rfl
   subst hxx
   have hne : (x1 != x1) = false := by simp
   have q0' := q0.trans e1
   have q1' := q1.trans e2
   have hw : IntKind.i64.wrap ((k : Int) + 1) = ((k + 1 : Nat) : Int) := wrap_nat (n := k + 1) (by omega)
   rw [u102_5]
   simp only [GR,evK,binV,intOp,strOp,shOp,unV,Nat.reduceLT,Nat.reduceEqDiff,Nat.reduceAdd,↓reduceIte,Nat.reduceLeDiff,reduceCtorEq,q12,q13,Int.ofNat_lt,hke,r102_2]
   rw [X_draw,d102_3]
   simp only [GR,evK,binV,intOp,strOp,shOp,unV,Nat.reduceLT,Nat.reduceEqDiff,Nat.reduceAdd,↓reduceIte,Nat.reduceLeDiff,reduceCtorEq,r102_3,q0',q1',Int.natCast_nonneg,hke,Int.ofNat_lt,Int.toNat_natCast,Nat.mul_one,g1,x1',g2,x2',hne,r102_4,q13,hw]
   refine ih (k + 1) _ (by omega) (by omega) ?_ ?_ ?_ ?_
   ·exact q0
   ·exact q1
   ·exact q12
   ·rfl
 obtain ⟨a1,c1,o1,e1,_⟩ := hv
 obtain ⟨a2,c2,o2,e2,_⟩ := hw
 have hne : ((cs.length : Int) != (cs.length : Int)) = false := by simp
 refine Sp_fn f102 p102 (by simp [fn102]) ?_
 rw [e1,e2] at loop ⊢
 simp only [GR,evK,binV,intOp,strOp,shOp,unV,Nat.reduceLT,Nat.reduceEqDiff,Nat.reduceAdd,↓reduceIte,Nat.reduceLeDiff,reduceCtorEq,fn102,c102,r102_0,hne,r102_1]
 refine loop cs.length 0 _ rfl (Nat.zero_le _) ?_ ?_ ?_ ?_
 ·rfl
 ·rfl
 ·rfl
 ·rfl
end Go.AM.Wc
namespace Go.AM.Wc
open Go.AM Go.AM.Wd Go.AM.We
variable {P : Program} {E : Env} {T : H → Prop}
set_option maxHeartbeats 1000000 in
theorem parse101 (f101 : E.fns 101 = some fn101) (p101 : E.prim 101 = none) {h : H} {v : V} {n : Nat} {rest : List V} (hn : n ≤ 1048576) (hv : Rx h v (numF n ++ rest)) :
  Sp P E (.func 101 [] []) [v] h fun r h' => r = .tup [.int .i64 n,.int .i64 (numF n).length,.int .i64 0] ∧ h' = h := by
 -- one byte
 have step : ∀ (i x a : Nat) (ρ : Nat → V) (K : List Fr) (Q : Po),i ≤ 3 → x < 256 → (numF n ++ rest)[i]? = some (.int .u8 x) → a < 2 ^ (7 * i) → (0 < i → 0 < x) → ρ 0 = v → ρ 5 = .int .u64 a → ρ 8 = .int .i64 i →
   (∀ ρ' : Nat → V,ρ' 0 = v → ρ' 5 = .int .u64 ((a + x % 128 * 2 ^ (7 * i) : Nat) : Int) → ρ' 6 = .int .i64 i → ρ' 7 = .int .u8 x → ρ' 8 = .int .i64 i → XO P E none 58 r101_8 (.c (.cond (.t 42) (.seq (.seq (.region r101_9) (.cond (.t 45) (.seq (.region r101_10) (.ret)) (.skip))) (.seq (.region r101_11) (.ret))) (.skip)) :: .b 1 :: .c (.region r101_12) :: .l b101_13 :: K) ρ' h Q) →
   XL P E none 58 b101_13 K ρ h Q := by
  intro i x a ρ K Q hi hx hg ha h0 q0 q5 q8 cont
  have hi10 : (i : Int) < 10 := by omega
  have hil : i < (numF n ++ rest).length := by
   rcases Nat.lt_or_ge i (numF n ++ rest).length with h' | h'
   ·exact h'
   ·rw [List.getElem?_eq_none h'] at hg; cases hg
  obtain ⟨b1,o1,c1,p1,vs1,ty1,op1,ro1,fz1,x1,e1,g1,x1',k1⟩ := hv.at hil
  have hx1 : V.int .u8 x1 = V.int .u8 x := by rw [List.getElem?_eq_getElem hil,k1] at hg; exact Option.some.inj hg
  rw [hx1] at x1'
  have q0' := q0.trans e1
  have hge : ¬ ((i : Int) ≥ ((numF n ++ rest).length : Int)) := by omega
  have h9 : ((i : Int) == 9) = false := by simp; omega
  rw [u101_13]
  simp only [GR,evK,binV,intOp,strOp,shOp,unV,Nat.reduceLT,Nat.reduceEqDiff,Nat.reduceAdd,↓reduceIte,Nat.reduceLeDiff,reduceCtorEq,q8,hi10,r101_1,r101_2,q0',hge,r101_4,Int.natCast_nonneg,Int.ofNat_lt,hil,Int.toNat_natCast,Nat.mul_one,g1,x1',r101_5,h9]
  have hx128 : x % 128 < 128 := Nat.mod_lt _ (by decide)
  have hpw : 2 ^ (7 * i) ≤ 2097152 := by
   have : 2 ^ (7 * i) ≤ 2 ^ 21 := Nat.pow_le_pow_right (by decide) (by omega)
   simpa using this
  have hprod : x % 128 * 2 ^ (7 * i) ≤ 128 * 2097152 := Nat.mul_le_mul (by omega) hpw
  have hand : IntKind.u8.wrap ((BitVec.ofInt IntKind.u8.bits (x : Int) &&& BitVec.ofInt IntKind.u8.bits 127).toNat : Int) = ((x % 128 : Nat) : Int) := by
   have := byte_and x hx
   rw [show IntKind.u8.bits = 8 from rfl,this,wrap8,Nat.mod_eq_of_lt (by omega)]
  have hcv : IntKind.u64.wrap ((x % 128 : Nat) : Int) = ((x % 128 : Nat) : Int) := wrap_u64 (by omega)
  have hmul : IntKind.i64.wrap (7 * (i : Int)) = ((7 * i : Nat) : Int) := by rw [wrap_le (by omega) (by omega)]; omega
  have hn7 : ¬ ((7 * i : Nat) : Int) < 0 := by omega
  have hmin : min (7 * i) IntKind.u64.bits = 7 * i := Nat.min_eq_left (by show 7 * i ≤ 64; omega)
  have hshl : IntKind.u64.wrap (((x % 128 : Nat) : Int) * 2 ^ (7 * i)) = ((x % 128 * 2 ^ (7 * i) : Nat) : Int) := by
   have : ((x % 128 : Nat) : Int) * 2 ^ (7 * i) = ((x % 128 * 2 ^ (7 * i) : Nat) : Int) := by rw [Int.natCast_mul,Int.natCast_pow]; rfl
   rw [this]; exact wrap_u64 (by omega)
  have hor : IntKind.u64.wrap ((BitVec.ofInt IntKind.u64.bits (a : Int) ||| BitVec.ofInt IntKind.u64.bits ((x % 128 * 2 ^ (7 * i) : Nat) : Int)).toNat : Int) = ((a + x % 128 * 2 ^ (7 * i) : Nat) : Int) := or_u64 ha (by omega)
  have hgt : ¬ (0 < i) → ¬ (i : Int) > 0 := by omega
  by_cases hx0 : x = 0
  ·have hi0 : ¬ 0 < i := fun h => by have := h0 h; omega
   have hi0' := hgt hi0
   have hxb : ((x : Int) == 0) = true := by subst hx0; rfl
   simp only [GR,evK,binV,intOp,strOp,shOp,unV,Nat.reduceLT,Nat.reduceEqDiff,Nat.reduceAdd,↓reduceIte,Nat.reduceLeDiff,reduceCtorEq,hxb,hi0',r101_7,q5,hand,hcv,hmul,hn7,Int.toNat_natCast,hmin,hshl,hor]
   exact cont _ q0 rfl rfl rfl q8
  ·have hxb : ((x : Int) == 0) = false := by simp; omega
   simp only [GR,evK,binV,intOp,strOp,shOp,unV,Nat.reduceLT,Nat.reduceEqDiff,Nat.reduceAdd,↓reduceIte,Nat.reduceLeDiff,reduceCtorEq,hxb,r101_7,q5,hand,hcv,hmul,hn7,Int.toNat_natCast,hmin,hshl,hor]
   exact cont _ q0 rfl rfl rfl q8
 have fin : ∀ (i u a : Nat) (ρ : Nat → V),i ≤ 3 → u < 128 → (numF n ++ rest)[i]? = some (.int .u8 u) → a < 2 ^ (7 * i) → a + u * 2 ^ (7 * i) = 2 * n → (0 < i → 0 < u) → i + 1 = (numF n).length → ρ 0 = v → ρ 5 = .int .u64 a → ρ 8 = .int .i64 i →
   XL P E none 58 b101_13 [.b 0,.c (.seq (.region r101_14) (.ret))] ρ h (Fin [.t 2,.t 3,.t 4] fun r h' => r = .tup [.int .i64 n,.int .i64 (numF n).length,.int .i64 0] ∧ h' = h) := by
  intro i u a ρ hi hu hg ha hau h0 hln q0 q5 q8
  refine step i u a ρ _ _ hi (by omega) hg ha h0 q0 q5 q8 ?_
  intro ρ' p0 p5 p6 p7 p8
  rw [Nat.mod_eq_of_lt hu,hau] at p5
  have hlt : (u : Int) < 128 := by omega
  have hand : IntKind.u64.wrap ((BitVec.ofInt IntKind.u64.bits ((2 * n : Nat) : Int) &&& BitVec.ofInt IntKind.u64.bits 1).toNat : Int) = 0 := by
   have : (BitVec.ofInt IntKind.u64.bits ((2 * n : Nat) : Int) &&& BitVec.ofInt IntKind.u64.bits 1).toNat = 0 := by
    rw [BitVec.toNat_and,BitVec.toNat_ofInt,BitVec.toNat_ofInt]
    have e1 : (((2 * n : Nat) : Int) % ((2 ^ IntKind.u64.bits : Nat) : Int)).toNat = 2 * n := by
     show (((2 * n : Nat) : Int) % ((2 ^ 64 : Nat) : Int)).toNat = 2 * n
     omega
    have e2 : ((1 : Int) % ((2 ^ IntKind.u64.bits : Nat) : Int)).toNat = 1 := rfl
    rw [e1,e2,Nat.and_one_is_mod]; omega
   rw [this]; rfl
  have h01 : ((0 : Int) == 1) = false := rfl
  have hn1 : ¬ (1 : Int) < 0 := by decide
  have hm1 : min (Int.toNat 1) IntKind.u64.bits = 1 := rfl
  have hfd : (((2 * n : Nat) : Int)).fdiv (2 ^ 1) = ((n : Nat) : Int) := by
   rw [Int.fdiv_eq_ediv_of_nonneg _ (by decide)]; omega
  have hcv : IntKind.i64.wrap ((n : Nat) : Int) = ((n : Nat) : Int) := wrap_le (by omega) (by omega)
  have hw : IntKind.i64.wrap ((i : Int) + 1) = (((numF n).length : Nat) : Int) := by rw [← hln]; exact wrap_nat (n := i + 1) (by omega)
  simp only [GR,evK,binV,intOp,strOp,shOp,unV,Nat.reduceLT,Nat.reduceEqDiff,Nat.reduceAdd,↓reduceIte,Nat.reduceLeDiff,reduceCtorEq,r101_8,p7,hlt,r101_9,p5,hand,h01,r101_11,hn1,hm1,hfd,hcv,p6,hw]
 have loop : ∀ (d i u a : Nat) (ρ : Nat → V),i + d = 3 → u < 128 ^ (d + 1) → (numF n ++ rest).drop i = varF d u ++ rest → a < 2 ^ (7 * i) → a + u * 2 ^ (7 * i) = 2 * n → (0 < i → 0 < u) → i + (varF d u).length = (numF n).length → ρ 0 = v → ρ 5 = .int .u64 a → ρ 8 = .int .i64 i →
   XL P E none 58 b101_13 [.b 0,.c (.seq (.region r101_14) (.ret))] ρ h (Fin [.t 2,.t 3,.t 4] fun r h' => r = .tup [.int .i64 n,.int .i64 (numF n).length,.int .i64 0] ∧ h' = h) := by
  have at_ : ∀ {i : Nat} {c : V} {r : List V},(numF n ++ rest).drop i = c :: r → (numF n ++ rest)[i]? = some c := by
   intro i c r hd
   have := congrArg (fun l => l[0]?) hd
   simpa using this
  intro d
  induction d with
  | zero =>
   intro i u a ρ hd hu hdr ha hau h0u hln q0 q5 q8
   have hu' : u < 128 := by simpa using hu
   have hw : IntKind.u8.wrap (u : Int) = u := by rw [wrap8,Nat.mod_eq_of_lt (by omega)]
   have hg := at_ (c := .int .u8 u) (r := rest) (by rw [hdr]; simp [varF,hw])
   exact fin i u a ρ (by omega) hu' hg ha hau h0u (by simpa [varF] using hln) q0 q5 q8
  | succ d ih =>
   intro i u a ρ hd hu hdr ha hau h0u hln q0 q5 q8
   by_cases hu' : u < 128
   ·have hnu : ¬ (u : Int) ≥ 128 := by omega
    have hw : IntKind.u8.wrap (u : Int) = u := by rw [wrap8,Nat.mod_eq_of_lt (by omega)]
    have hg := at_ (c := .int .u8 u) (r := rest) (by rw [hdr]; simp [varF,hnu,hw])
    exact fin i u a ρ (by omega) hu' hg ha hau h0u (by simpa [varF,hnu] using hln) q0 q5 q8
   ·have hge : (u : Int) ≥ 128 := by omega
    have hv2 : varF (d + 1) (u : Int) = .int .u8 ((u % 128 + 128 : Nat) : Int) :: varF d ((u / 128 : Nat) : Int) := by
     simp only [varF,hge,if_true]
     congr 1
     unfold orB
     have hb : BitVec.ofInt IntKind.u8.bits (IntKind.u8.wrap (u : Int)) = BitVec.ofInt 8 ((u % 256 : Nat) : Int) := by rw [wrap8]; rfl
     have h2 := byte_or (u % 256) (by omega)
     have e2 : (BitVec.ofInt IntKind.u8.bits (IntKind.u8.wrap (u : Int)) ||| BitVec.ofInt IntKind.u8.bits 128).toNat = u % 256 % 128 + 128 := by rw [hb]; exact h2
     rw [e2,wrap8]
     congr 2
     omega
    rw [hv2] at hdr hln
    have hg := at_ hdr
    have hdr2 : (numF n ++ rest).drop (i + 1) = varF d ((u / 128 : Nat) : Int) ++ rest := by
     rw [← List.drop_drop,hdr]; rfl
    have hpw : 2 ^ (7 * (i + 1)) = 128 * 2 ^ (7 * i) := by rw [show 7 * (i + 1) = 7 + 7 * i by omega,Nat.pow_add]
    have hdm := Nat.div_add_mod u 128
    have hmul : u * 2 ^ (7 * i) = u / 128 * (128 * 2 ^ (7 * i)) + u % 128 * 2 ^ (7 * i) := by
     conv => lhs; rw [← hdm]
     rw [Nat.add_mul,Nat.mul_comm 128,Nat.mul_assoc]
    have hx128 : u % 128 < 128 := Nat.mod_lt _ (by decide)
    have hprod : u % 128 * 2 ^ (7 * i) ≤ 127 * 2 ^ (7 * i) := Nat.mul_le_mul_right _ (by omega)
    refine step i (u % 128 + 128) a ρ _ _ (by omega) (by omega) hg ha (fun _ => by omega) q0 q5 q8 ?_
    intro ρ' p0 p5 p6 p7 p8
    have hm : (u % 128 + 128) % 128 = u % 128 := by omega
    rw [hm] at p5
    have hlt : ¬ (((u % 128 + 128 : Nat) : Int) < 128) := by omega
    have hw : IntKind.i64.wrap ((i : Int) + 1) = ((i + 1 : Nat) : Int) := wrap_nat (n := i + 1) (by omega)
    simp only [GR,evK,binV,intOp,strOp,shOp,unV,Nat.reduceLT,Nat.reduceEqDiff,Nat.reduceAdd,↓reduceIte,Nat.reduceLeDiff,reduceCtorEq,r101_8,p7,hlt,r101_12,p8,hw]
    refine ih (i + 1) (u / 128) (a + u % 128 * 2 ^ (7 * i)) _ (by omega) ?_ hdr2 (by omega) (by rw [hpw]; omega) (fun _ => by omega) (by simp only [List.length_cons] at hln; omega) ?_ ?_ ?_
    ·rw [Nat.pow_succ] at hu
     exact Nat.div_lt_of_lt_mul (by omega)
    ·exact p0
    ·exact p5
    ·rfl
 refine Sp_fn f101 p101 (by simp [fn101]) ?_
 simp only [GR,evK,binV,intOp,strOp,shOp,unV,Nat.reduceLT,Nat.reduceEqDiff,Nat.reduceAdd,↓reduceIte,Nat.reduceLeDiff,reduceCtorEq,fn101,c101,r101_0]
 refine loop 3 0 (2 * n) 0 _ (by omega) (by omega) ?_ (by omega) (by omega) (by omega) ?_ ?_ ?_ ?_
 ·rw [List.drop_zero]; rfl
 ·rw [Nat.zero_add]; rfl
 ·rfl
 ·rfl
 ·rfl
end Go.AM.Wc
namespace Go.AM.Wc
open Go.AM Go.AM.Wd Go.AM.We
variable {P : Program} {E : Env} {T : H → Prop}
theorem Rx.sub {h : H} {b o n c c' : Nat} {q q' : Bool} {cs : List V} {k m : Nat} (a : Rx h (.slice (some (b,o)) n c q) cs) (hk : k + m ≤ cs.length) : Rx h (.slice (some (b,o + k * 1)) m c' q') ((cs.drop k).take m) := by
 obtain ⟨p,c1,o1,e1,e2,e3⟩ := a
 have hl : ((cs.drop k).take m).length = m := by rw [List.length_take,List.length_drop]; omega
 refine ⟨some (b,o + k * 1),c',q',by rw [hl],?_,fun x hx => e3 x (List.mem_of_mem_drop (List.mem_of_mem_take hx))⟩
 rw [hl]
 simp only [elemsV] at e2 ⊢
 by_cases h0 : m * 1 = 0
 ·rw [if_pos h0]
  rw [List.eq_nil_of_length_eq_zero (hl.trans (by omega))]
 ·rw [if_neg h0]
  rw [if_neg (by omega)] at e2
  split at e2
  ·rename_i vs ty op ro fz hg
   split at e2
   ·rename_i hle
    simp only [Option.some.injEq] at e2
    have hlt : o + k * 1 + m * 1 ≤ vs.length := by omega
    rw [if_pos hlt]
    refine congrArg some ?_
    rw [← e2]
    unfold getR
    rw [List.drop_take,List.drop_drop,List.take_take,Nat.min_eq_left (by omega)]
    simp
   ·cases e2
  ·cases e2
theorem drop_app2 (A B C : List V) (k : Nat) (hk : k = A.length) : ((A ++ B ++ C).drop k).take B.length = B := by
 subst hk
 rw [List.append_assoc,List.drop_left,List.take_left]
set_option maxHeartbeats 2000000 in
theorem unframe64 (F : Fw P E T) (f64 : E.fns 64 = some fn64) (p64 : E.prim 64 = none) (f101 : E.fns 101 = some fn101) (p101 : E.prim 101 = none) (f102 : E.fns 102 = some fn102) (p102 : E.prim 102 = none) {h : H} {b o L cp : Nat} {q : Bool} {c rest : List V} (hc1 : 1 ≤ c.length) (hc2 : c.length ≤ 65536) (hL : (frameF c ++ rest).length = L) (hcp : L ≤ cp) (hLm : L ≤ 4194304) (hv : Rx h (.slice (some (b,o)) L cp q) (frameF c ++ rest)) :
  Sp P E (.func 64 [] []) [.slice (some (b,o)) L cp q] h fun r h' => ∃ x,r = .tup [x,.int .i64 (frameF c).length,.int .i64 0] ∧ Nx h h' x c := by
 obtain ⟨z,hz⟩ : ∃ z,z = (numF c.length).length := ⟨_,rfl⟩
 have hnl := numF_len c.length
 have h4 : (fourF (crcF c)).length = 4 := rfl
 have hfl : (frameF c).length = z + c.length + 4 := by simp only [frameF,List.length_append,h4,← hz]
 have hLe : z + c.length + 4 + rest.length = L := by rw [← hL,List.length_append,hfl]
 have hsplit : frameF c ++ rest = numF c.length ++ (c ++ fourF (crcF c) ++ rest) := by simp [frameF]
 have hv2 := hv
 rw [hsplit] at hv2
 have hcs : Rx h (.slice (some (b,o + z * 1)) c.length (cp - z) q) c := by
  have := hv.sub (k := z) (m := c.length) (c' := cp - z) (q' := q) (by rw [hL]; omega)
  have e : ((frameF c ++ rest).drop z).take c.length = c := by
   have := drop_app2 (numF c.length) c (fourF (crcF c) ++ rest) z hz
   simpa [frameF] using this
  rwa [e] at this
 have h4s : Rx h (.slice (some (b,o + (z + c.length) * 1)) 4 (cp - (z + c.length)) q) (fourF (crcF c)) := by
  have := hv.sub (k := z + c.length) (m := 4) (c' := cp - (z + c.length)) (q' := q) (by rw [hL]; omega)
  have e : ((frameF c ++ rest).drop (z + c.length)).take 4 = fourF (crcF c) := by
   have := drop_app2 (numF c.length ++ c) (fourF (crcF c)) rest (z + c.length) (by rw [List.length_append,← hz])
   rw [h4] at this
   simpa [frameF] using this
  rwa [e] at this
 have c1 : ((0 : Int) != 0) = false := rfl
 have c2 : ¬ ((c.length : Int) < 0) := by omega
 have c3 : ¬ ((c.length : Int) > 1048576) := by omega
 have w1 : IntKind.i64.wrap ((c.length : Int) + 4) = ((c.length + 4 : Nat) : Int) := by rw [wrap_le (by omega) (by omega)]; omega
 have w2 : IntKind.i64.wrap ((L : Int) - (z : Int)) = ((L - z : Nat) : Int) := by rw [wrap_le (by omega) (by omega)]; omega
 have c4 : ¬ (((c.length + 4 : Nat) : Int) > ((L - z : Nat) : Int)) := by omega
 have w3 : IntKind.i64.wrap ((z : Int) + (c.length : Int)) = ((z + c.length : Nat) : Int) := by rw [wrap_le (by omega) (by omega)]; omega
 have w4 : IntKind.i64.wrap (((z + c.length : Nat) : Int) + 4) = ((z + c.length + 4 : Nat) : Int) := by rw [wrap_le (by omega) (by omega)]; omega
 have b1 : boundsV L cp (some (.int .i64 ((z + c.length : Nat) : Int))) (some (.int .i64 ((z + c.length + 4 : Nat) : Int))) none = some (z + c.length,z + c.length + 4,cp) := by
  have := bounds_both (len := L) (cap := cp) (k := .i64) (k' := .i64) (a := ((z + c.length : Nat) : Int)) (b := ((z + c.length + 4 : Nat) : Int)) (by omega) (by omega)
  simpa only [Int.toNat_natCast] using this
 have b2 : boundsV L cp (some (.int .i64 ((z : Nat) : Int))) (some (.int .i64 ((z + c.length : Nat) : Int))) none = some (z,z + c.length,cp) := by
  have := bounds_both (len := L) (cap := cp) (k := .i64) (k' := .i64) (a := ((z : Nat) : Int)) (b := ((z + c.length : Nat) : Int)) (by omega) (by omega)
  simpa only [Int.toNat_natCast] using this
 have s1 : z + c.length + 4 - (z + c.length) = 4 := by omega
 have s2 : z + c.length - z = c.length := by omega
 refine Sp_fn f64 p64 (by simp [fn64]) ?_
 simp only [GR,evK,binV,intOp,strOp,shOp,unV,Nat.reduceLT,Nat.reduceEqDiff,Nat.reduceAdd,↓reduceIte,Nat.reduceLeDiff,reduceCtorEq,fn64,c64,r64_0,r64_1]
 refine XC_of (parse101 f101 p101 (n := c.length) (by omega) hv2) ?_
 rintro _ hx ⟨rfl,e2⟩
 rw [e2,← hz]
 clear e2 hx
 simp only [GR,evK,binV,intOp,strOp,shOp,unV,Nat.reduceLT,Nat.reduceEqDiff,Nat.reduceAdd,↓reduceIte,Nat.reduceLeDiff,reduceCtorEq,List.getElem?_cons_zero,List.getElem?_cons_succ,r64_2,c1,r64_4,c2,r64_6,c3,r64_8,w1,w2,c4,r64_10,w3]
 rw [X_draw]
 refine k64_11 0 ?_
 simp only [GR,evK,binV,intOp,strOp,shOp,unV,Nat.reduceLT,Nat.reduceEqDiff,Nat.reduceAdd,↓reduceIte,Nat.reduceLeDiff,reduceCtorEq,r64_11,w4,hcp,b1,b2,s1,s2]
 have hqt : ∀ q : Bool,(q && (none : Option V).isNone) = q := fun q => by simp
 have ga := psh_same h (.cells [.slice (some (b,o + z * 1)) c.length (cp - z) q] 45 false false none)
 have ka : Kp h (h.psh (.cells [.slice (some (b,o + z * 1)) c.length (cp - z) q] 45 false false none)) := Keeps.psh (Nat.le_refl _) _
 simp only [hqt]
 refine ⟨ka.mono (Nat.zero_le _),?_⟩
 refine XCK_of (sum104x F (hcs.kp ka) (by omega) ga) ?_
 rintro _ hx ⟨rfl,e2⟩
 rw [e2]
 clear e2 hx
 refine ⟨Keeps.refl _ _,?_⟩
 simp only [GR,evK,binV,intOp,strOp,shOp,unV,Nat.reduceLT,Nat.reduceEqDiff,Nat.reduceAdd,↓reduceIte,Nat.reduceLeDiff,reduceCtorEq]
 refine XCK_of (four103x F) ?_
 rintro _ h3 ⟨b4,rfl,hb4,hg4,k4⟩
 refine ⟨k4.mono (Nat.zero_le _),?_⟩
 have k3 : Kp h h3 := Kp.trans ka k4
 have rb4 : Rx h3 (.slice (some (b4,0)) 4 4 false) (fourF (crcF c)) := ⟨_,_,_,rfl,vl_elems (b := b4) hg4,hb4⟩
 simp only [GR,evK,binV,intOp,strOp,shOp,unV,Nat.reduceLT,Nat.reduceEqDiff,Nat.reduceAdd,↓reduceIte,Nat.reduceLeDiff,reduceCtorEq]
 refine XCK_of (equal102 f102 p102 (h4s.kp k3) rb4 (by rw [h4]; decide)) ?_
 rintro _ hx ⟨rfl,e2⟩
 rw [e2]
 clear e2 hx
 refine ⟨Keeps.refl _ _,?_⟩
 simp only [GR,evK,binV,intOp,strOp,shOp,unV,Nat.reduceLT,Nat.reduceEqDiff,Nat.reduceAdd,↓reduceIte,Nat.reduceLeDiff,reduceCtorEq,Bool.not_true,r64_13,hcp,b2,s2,hqt]
 refine XC_of (clone42x F (hcs.kp k3) hc1 (by omega)) ?_
 rintro r h5 ⟨b5,q1,q2,q3,q4,q5⟩
 simp only [GR,evK,binV,intOp,strOp,shOp,unV,Nat.reduceLT,Nat.reduceEqDiff,Nat.reduceAdd,↓reduceIte,Nat.reduceLeDiff,reduceCtorEq,w4]
 exact ⟨r,by rw [hfl],b5,q1,q2,Nat.le_trans k3.size q3,q4,Kp.trans k3 q5⟩
end Go.AM.Wc
namespace Go.AM.Wc
open Go.AM Go.AM.Wd Go.AM.We
variable {P : Program} {E : Env} {T : H → Prop}
theorem frame_pos (c : List V) : 1 ≤ (frameF c).length := by
 have := numF_len c.length
 simp only [frameF,List.length_append]; omega
theorem frames_len : ∀ recs : List (List V),recs.length ≤ (recs.flatMap frameF).length
 | [] => by simp
 | c :: r => by
  have := frames_len r
  have := frame_pos c
  simp only [List.flatMap_cons,List.length_append,List.length_cons]; omega
set_option maxHeartbeats 2000000 in
theorem frames29 (F : Fw P E T) (f29 : E.fns 29 = some fn29) (p29 : E.prim 29 = none) (f64 : E.fns 64 = some fn64) (p64 : E.prim 64 = none) (f101 : E.fns 101 = some fn101) (p101 : E.prim 101 = none) (f102 : E.fns 102 = some fn102) (p102 : E.prim 102 = none)
  {h : H} {b L cp : Nat} {q : Bool} {recs : List (List V)} (hrc : ∀ c ∈ recs,1 ≤ c.length ∧ c.length ≤ 65536) (hL : (recs.flatMap frameF).length = L) (hcp : L ≤ cp) (hLm : L ≤ 4194304) (hv : Rx h (.slice (some (b,0)) L cp q) (recs.flatMap frameF)) :
  Sp P E (.func 29 [] []) [.slice (some (b,0)) L cp q] h fun r h' => ∃ rb rs,r = .tup [vl rb rs.length,.int .i64 L] ∧ rs.map Rc.cs = recs ∧ (rb = none → rs = []) ∧ Ow h.size h' (fpt rb 45 (rs.map Rc.v) ++ rs.map Rc.cell) ∧ Kp h h' := by
 have hrl := frames_len recs
 have loop : ∀ (d i off : Nat) (ρ : Nat → V) (h1 : H) (rb : Option Nat) (rs : List Rc),recs.length - i = d → i ≤ recs.length → off = ((recs.take i).flatMap frameF).length → rs.map Rc.cs = recs.take i → (rb = none → rs = []) → Ow h.size h1 (fpt rb 45 (rs.map Rc.v) ++ rs.map Rc.cell) → Kp h h1 → ρ 0 = .slice (some (b,0)) L cp q → ρ 4 = vl rb rs.length → ρ 5 = .int .i64 off →
   XL P E none 37 b29_6 [.b 0,.c (.seq (.region r29_7) (.ret))] ρ h1 (Fin [.t 2,.t 3] fun r h' => ∃ rb rs,r = .tup [vl rb rs.length,.int .i64 L] ∧ rs.map Rc.cs = recs ∧ (rb = none → rs = []) ∧ Ow h.size h' (fpt rb 45 (rs.map Rc.v) ++ rs.map Rc.cell) ∧ Kp h h') := by
  intro d
  induction d with
  | zero =>
   intro i off ρ h1 rb rs hd hi hoff hrs hrb ow kk q0 q4 q5
   rw [List.take_of_length_le (by omega)] at hoff hrs
   rw [hL] at hoff
   subst hoff
   have hke : ¬ (off : Int) < (off : Int) := by omega
   obtain ⟨p2,c2,o2,hv2⟩ := vl_shape rb rs.length (fun h => by rw [hrb h]; rfl)
   rw [hv2] at q4
   rw [u29_6]
   simp only [GR,evK,binV,intOp,strOp,shOp,unV,Nat.reduceLT,Nat.reduceEqDiff,Nat.reduceAdd,↓reduceIte,Nat.reduceLeDiff,reduceCtorEq,r29_1,q5,q0,hke,r29_7,q4]
   exact ⟨rb,rs,by rw [hv2],hrs,hrb,ow,kk⟩
  | succ d ih =>
   intro i off ρ h1 rb rs hd hi hoff hrs hrb ow kk q0 q4 q5
   have hke : i < recs.length := by omega
   have hcm := hrc recs[i] (List.getElem_mem hke)
   have hsp : recs.flatMap frameF = (recs.take i).flatMap frameF ++ (frameF recs[i] ++ (recs.drop (i + 1)).flatMap frameF) := by
    have : recs = recs.take i ++ recs[i] :: recs.drop (i + 1) := by simp
    have := congrArg (fun l => l.flatMap frameF) this
    simp only [List.flatMap_append,List.flatMap_cons] at this
    exact this
   have hln : off + ((frameF recs[i]).length + ((recs.drop (i + 1)).flatMap frameF).length) = L := by
    have := congrArg List.length hsp
    rw [List.length_append,List.length_append] at this
    omega
   have hfp := frame_pos recs[i]
   have hlt : (off : Int) < (L : Int) := by omega
   have hsub : Rx h1 (.slice (some (b,off * 1)) (L - off) (cp - off) q) (frameF recs[i] ++ (recs.drop (i + 1)).flatMap frameF) := by
    have := (hv.kp kk).sub (k := off) (m := L - off) (c' := cp - off) (q' := q) (by rw [hL]; omega)
    have e : ((recs.flatMap frameF).drop off).take (L - off) = frameF recs[i] ++ (recs.drop (i + 1)).flatMap frameF := by
     have e1 : (recs.flatMap frameF).drop off = frameF recs[i] ++ (recs.drop (i + 1)).flatMap frameF := by
      rw [hsp,hoff,List.drop_left]
     rw [e1]
     exact List.take_of_length_le (by rw [List.length_append]; omega)
    rw [e,Nat.zero_add] at this
    exact this
   have b1 : boundsV L cp (some (.int .i64 ((off : Nat) : Int))) none none = some (off,L,cp) := by
    have := bounds_lo (len := L) (cap := cp) (k := .i64) (a := ((off : Nat) : Int)) (by omega)
    simpa only [Int.toNat_natCast] using this
   have hqt : ∀ q : Bool,(q && (none : Option V).isNone) = q := fun q => by simp
   have c1 : ((0 : Int) != 0) = false := rfl
   rw [u29_6]
   simp only [GR,evK,binV,intOp,strOp,shOp,unV,Nat.reduceLT,Nat.reduceEqDiff,Nat.reduceAdd,↓reduceIte,Nat.reduceLeDiff,reduceCtorEq,r29_1,q5,q0,hlt,r29_2,hcp,b1,hqt]
   refine XC_of (unframe64 F f64 p64 f101 p101 f102 p102 hcm.1 hcm.2 (by rw [List.length_append]; omega) (by omega) (by omega) hsub) ?_
   rintro _ h2 ⟨_,rfl,bx,rfl,hbs,hbz,gbx,k2⟩
   have hvx : vl (some bx) recs[i].length = .slice (some (bx,0)) recs[i].length recs[i].length true := rfl
   have c2 : (((recs[i].length : Nat) : Int) == 0) = false := by
    cases hq : (((recs[i].length : Nat) : Int) == 0) with
    | false => rfl
    | true => rw [beq_iff_eq] at hq; omega
   have kk2 : Kp h h2 := Kp.trans kk k2
   have ow2 := Ow.newM (m1 := fpt rb 45 (rs.map Rc.v) ++ rs.map Rc.cell) (m2 := []) (by simpa using ow) k2 hbz kk.size gbx
   have k3 : Kp h2 (h2.psh (.cells [vl (some bx) recs[i].length] 45 false false none)) := Keeps.psh (Nat.le_refl _) _
   have he3 : elemsV (h2.psh (.cells [vl (some bx) recs[i].length] 45 false false none)) 1 1 (.slice (some (h2.size,0)) 1 1 false) = some [vl (some bx) recs[i].length] := by
    simp only [elemsV,psh_same]; rfl
   have hml : (rs.map Rc.v).length = rs.length := List.length_map ..
   have hrsl : rs.length = i := by have := congrArg List.length hrs; rw [List.length_map,List.length_take,Nat.min_eq_left hi] at this; exact this
   obtain ⟨b',h4,e4,ow4,hb4,k4,fr4⟩ := Ow.appc (m1 := []) (ty := 45) (bytes := 24) (x := .slice (some (h2.size,0)) 1 1 false) (ds := [vl (some bx) recs[i].length]) (m2 := rs.map Rc.cell ++ [(bx,.cells recs[i] 5 true false none)]) (by simpa using ow2.kp k3) (fun h => by rw [hrb h]; rfl) (Nat.le_trans kk2.size k3.size) rfl he3 (by rw [hvx]; rfl) (by rw [hml]; simp only [List.length_cons,List.length_nil]; omega)
   have hrs2 : rs.map Rc.v ++ [vl (some bx) recs[i].length] = (rs ++ [(⟨bx,recs[i]⟩ : Rc)]).map Rc.v := by rw [List.map_append]; rfl
   have hrl2 : (rs.map Rc.v ++ [vl (some bx) recs[i].length]).length = (rs ++ [(⟨bx,recs[i]⟩ : Rc)]).length := by rw [hrs2,List.length_map]
   rw [hml,hrl2] at e4
   rw [hrs2] at ow4 hb4
   have hd0 : List.drop 1 [V.slice none 0 0 false] = [] := rfl
   have hd1 : List.drop 0 ([] : List V) = [] := rfl
   have hw : IntKind.i64.wrap ((off : Int) + ((frameF recs[i]).length : Int)) = ((off + (frameF recs[i]).length : Nat) : Int) := by rw [wrap_le (by omega) (by omega)]; omega
   rw [hvx] at e4 ⊢
   simp only [GR,evK,binV,intOp,strOp,shOp,unV,Nat.reduceLT,Nat.reduceEqDiff,Nat.reduceAdd,↓reduceIte,Nat.reduceLeDiff,reduceCtorEq,List.getElem?_cons_zero,List.getElem?_cons_succ,r29_3,c1,c2,r29_4,q4,hd0,e4,r29_5,q5,hw]
   refine ih (i + 1) (off + (frameF recs[i]).length) _ h4 b' (rs ++ [(⟨bx,recs[i]⟩ : Rc)]) (by omega) (by omega) ?_ ?_ (fun h => by have := hb4 h; simp at this) ?_ (Keeps.trans (n := h.size) (Kp.trans kk2 k3) k4) ?_ ?_ ?_
   ·rw [List.take_succ_eq_append_getElem hke,List.flatMap_append,List.length_append,hoff]; simp
   ·rw [List.map_append,hrs,List.take_succ_eq_append_getElem hke]; rfl
   ·have : (rs ++ [(⟨bx,recs[i]⟩ : Rc)]).map Rc.cell = rs.map Rc.cell ++ [(bx,.cells recs[i] 5 true false none)] := by rw [List.map_append]; rfl
    rw [this]; simpa using ow4
   ·exact q0
   ·rfl
   ·rfl
 refine Sp_fn f29 p29 (by simp [fn29]) ?_
 simp only [GR,evK,binV,intOp,strOp,shOp,unV,Nat.reduceLT,Nat.reduceEqDiff,Nat.reduceAdd,↓reduceIte,Nat.reduceLeDiff,reduceCtorEq,fn29,c29,r29_0]
 refine loop recs.length 0 0 _ h none [] (Nat.sub_zero _) (Nat.zero_le _) rfl rfl (fun _ => rfl) (Ow.nil _ _) (Keeps.refl _ _) ?_ ?_ ?_
 ·rfl
 ·rfl
 ·rfl
end Go.AM.Wc
namespace Go.AM.Wf
def r95_0 : List O := [⟨some 4,.mv (.k (.str [])),none,0,[4]⟩,
 ⟨some 5,.mv (.k (.bool false)),none,1,[5]⟩]
def r95_1 : List O := [⟨some 6,.mv (.t 0),none,0,[6,0]⟩,
 ⟨some 7,.mv (.t 1),none,0,[7,1]⟩,
 ⟨some 8,.call (.k (.func 120 [] [])) [(.t 6),(.t 7)],none,3,[8,6,7]⟩,
 ⟨some 9,.un .not (.t 8),none,7,[9,8]⟩]
def r95_2 : List O := [⟨some 10,.mv (.t 0),none,0,[10,0]⟩,
 ⟨some 4,.mv (.t 10),none,1,[4,10]⟩,
 ⟨some 5,.mv (.k (.bool false)),none,3,[5]⟩]
def r95_3 : List O := [⟨some 11,.mv (.t 0),none,0,[11,0]⟩,
 ⟨some 12,.mv (.t 1),none,0,[12,1]⟩,
 ⟨some 13,.lenS (.t 12),none,2,[13,12]⟩,
 ⟨some 14,.slS (.t 11) (some (.t 13)) none,none,7,[14,11,13]⟩,
 ⟨some 4,.mv (.t 14),none,15,[4,14]⟩,
 ⟨some 5,.mv (.k (.bool true)),none,31,[5]⟩]
def c95 : C := .seq (.region r95_0) (.seq (.seq (.region r95_1) (.cond (.t 9) (.seq (.region r95_2) (.ret)) (.skip))) (.seq (.region r95_3) (.ret)))
def fn95 : Fn := ⟨15,[.t 4,.t 5],c95⟩
def r120_0 : List O := [⟨some 5,.mv (.t 0),none,0,[5,0]⟩,
 ⟨some 6,.lenS (.t 5),none,1,[6,5]⟩,
 ⟨some 7,.mv (.t 1),none,0,[7,1]⟩,
 ⟨some 8,.lenS (.t 7),none,4,[8,7]⟩,
 ⟨some 9,.bin .geq (some .int) false (.t 6) (.t 8),none,15,[9,6,8]⟩,
 ⟨some 10,.mv (.t 9),none,31,[10,9]⟩,
 ⟨some 11,.mv (.t 0),some (10,true),63,[11,10,0]⟩,
 ⟨some 12,.mv (.t 1),some (10,true),63,[12,10,1]⟩,
 ⟨some 13,.lenS (.t 12),some (10,true),191,[13,10,12]⟩,
 ⟨some 14,.slS (.t 11) none (some (.t 13)),some (10,true),511,[14,10,11,13]⟩,
 ⟨some 15,.mv (.t 1),some (10,true),63,[15,10,1]⟩,
 ⟨some 16,.bin .eql (some .str) false (.t 14) (.t 15),some (10,true),2047,[16,10,14,15]⟩,
 ⟨some 17,.pick (.t 10) (.t 16) (.k (.bool false)),none,4095,[17,10,16]⟩,
 ⟨some 4,.mv (.t 17),none,8191,[4,17]⟩]
def c120 : C := .seq (.region [⟨some 4,.mv (.k (.bool false)),none,0,[4]⟩]) (.seq (.region r120_0) (.ret))
def fn120 : Fn := ⟨18,[.t 4],c120⟩
end Go.AM.Wf
namespace Go.AM
open Go.RowKit Go.Sort
variable {P : Program}
def parseG : List V → H → Option (V × H) := fun args h => match args with
 | [.str s,.int .i64 10,.int .i64 64] => if s.length ≤ 4096 then match Lib.parseIntB 64 s with
  | .ok v => some (.tup [.int .i64 v,.nilIface],h)
  | _ => none
  else none
 | _ => none
theorem parse_ok {f : FuncId} (hc : ∀ (s : ByteArray),s.size ≤ 9223372036854775806 → ∀ v,Lib.parseIntB 64 s.data.toList = .ok v → ∀ w,Calls P f #[.string s,.int .i64 10,.int .i64 64] w fun e w' => e = .returned (.tuple #[.int .i64 v,.nilIface]) ∧ (w' = w ∨ ∃ t,w' = Lib.bytesWorld w 5 t))
  {args : List V} {h : H} {v : V} {h' : H} {m : Mp} {w : World} {xs : List Value} (he : parseG args h = some (v,h')) (hr : HR P m h w) (hx : VRL m args xs) (n : Nat) : CallsIn (FF none) n P f xs.toArray w (Post P m h w v h') := by
 unfold parseG at he
 split at he
 ·rename_i s
  split at he
  ·rename_i hl
   split at he
   ·rename_i z hp
    cases he
    obtain ⟨y,ys,h1,⟨y2,ys2,h3,⟨y3,ys3,h5,h6,rfl⟩,rfl⟩,rfl⟩ := hx
    cases h1
    cases h3
    cases h5
    cases ys3 with
    | cons a b => cases h6
    | nil =>
     refine callsIn_wide.2 ((hc ⟨s.toArray⟩ (by show s.toArray.size ≤ _; rw [List.size_toArray]; omega) z (by simpa using hp) w).mono fun e w' ⟨q1,q2⟩ => ?_)
     have hb : Below w.heap.size w w' := by
      rcases q2 with rfl | ⟨t,rfl⟩
      ·exact Below.refl _ _
      ·exact Lib.bytesWorld_below w 5 t
     obtain ⟨a,b⟩ := hr.below hb
     exact ⟨m,_,q1,⟨[.int .i64 z,.nilIface],⟨_,_,rfl,⟨_,_,rfl,rfl,rfl⟩,rfl⟩,rfl⟩,a,b⟩
   ·cases he
  ·cases he
 ·cases he
open Classical in
noncomputable def sortG : List V → H → Option (V × H) := fun args h => match args with
 | [.slice p n c q] => if ∃ zs : List Int,n = zs.length ∧ zs.length ≤ 1048576 ∧ zs.Pairwise (· ≤ ·) ∧ (zs = [] ∨ ∃ b o vs ty opn,p = some (b,o) ∧ h.get b = some (.cells vs ty opn false none) ∧ ∀ (j : Nat) z,zs[j]? = some z → vs[o + j]? = some (.int .i64 z)) then some (.tup [],h) else none
 | _ => none
theorem sorted_self {zs : List Int} (h : zs.Pairwise (· ≤ ·)) : (zs.mergeSort fun x y => decide (x ≤ y)) = zs :=
 List.mergeSort_of_pairwise (h.imp fun h => by simpa using h)
theorem holds_of {m : Mp} {h : H} {w : World} {b o r sh e ty : Nat} {opn : Bool} {vs : List V} {zs : List Int} (hr : HR P m h w) (hg : h.get b = some (.cells vs ty opn false none)) (hm : m b = some (r,sh,e)) (hz : ∀ (j : Nat) z,zs[j]? = some z → vs[o + j]? = some (.int .i64 z)) : Holds (Value.int .i64) w r (sh + o) zs.toArray := by
 obtain ⟨r',sh',e',ob,h1,h2,h3⟩ := hr.obj b _ hg rfl
 rw [hm] at h1
 cases h1
 obtain ⟨c,fzr,rfl,h4,_,h6⟩ := h3
 have h6 := h6 rfl
 simp only [FzOK] at h6
 subst h6
 intro j hj
 have hj' : j < zs.length := by simpa using hj
 have hv := hz j zs[j] (List.getElem?_eq_getElem hj')
 obtain ⟨x,hx1,hx2⟩ := h4.get hv
 cases hx2
 have hlt : o + j < vs.length := by
  rcases Nat.lt_or_ge (o + j) vs.length with h' | h'
  ·exact h'
  ·rw [List.getElem?_eq_none h'] at hv; cases hv
 rw [List.getElem?_take,if_pos hlt,List.getElem?_drop,Array.getElem?_toList] at hx1
 refine ⟨?_,?_⟩
 ·show (w.cell? ⟨r,sh + o + j,none⟩) = _
  simp only [World.cell?,h2]
  rw [show sh + o + j = sh + (o + j) by omega,hx1]
  rw [getElem!_pos zs.toArray j (by simpa using hj')]
  simp
 ·simp [World.frozen?,h2]
theorem sort_ok {f : FuncId}
  (hc : ∀ (blk off cap : Nat) (zs : List Int) (w : World),Holds (Value.int .i64) w blk off zs.toArray → blk < w.heap.size → zs.length < 4611686018427387904 → Calls P f #[.slice (some ⟨blk,off,none⟩) zs.length cap] w fun e w' => e = .returned (.tuple #[]) ∧ ∃ n os,w' = grow (putRow (Value.int .i64) (Sort.ahead w n) blk off (zs.mergeSort fun x y => decide (x ≤ y)).toArray) os)
  (hn : ∀ (p : Option Addr) (cap : Nat) (w : World),Calls P f #[.slice p 0 cap] w fun e w' => e = .returned (.tuple #[]) ∧ w' = w)
  {args : List V} {h : H} {v : V} {h' : H} {m : Mp} {w : World} {xs : List Value} (he : sortG args h = some (v,h')) (hr : HR P m h w) (hx : VRL m args xs) (n : Nat) : CallsIn (FF none) n P f xs.toArray w (Post P m h w v h') := by
 unfold sortG at he
 split at he
 ·rename_i p k cp q
  split at he
  ·rename_i hex
   cases he
   obtain ⟨zs,rfl,hl,hs,hz⟩ := hex
   obtain ⟨y,ys,h1,h2,rfl⟩ := hx
   cases ys with
   | cons a b => cases h2
   | nil =>
    by_cases h0 : zs = []
    ·subst h0
     have hy : ∃ a cap,y = .slice a 0 cap := by
      cases p with
      | none => cases h1; exact ⟨_,_,rfl⟩
      | some p =>
       obtain ⟨b,o⟩ := p
       obtain ⟨r,sh,e,addr,_,h5,_⟩ := h1
       exact ⟨_,_,h5⟩
     obtain ⟨a,cap,rfl⟩ := hy
     refine callsIn_wide.2 ((hn a cap w).mono fun e w' ⟨q1,q2⟩ => ?_)
     obtain ⟨a,b⟩ := hr.below (Below.refl w.heap.size w)
     rw [q2]
     exact ⟨m,_,q1,⟨[],rfl,rfl⟩,a,b⟩
    ·rcases hz with hz | ⟨b,o,vs,ty,opn,rfl,hg,hz⟩
     ·exact absurd hz h0
     ·obtain ⟨r,sh,e,addr,hm,h5,h6⟩ := h1
      have hadr : addr = ⟨r,sh + o,none⟩ := by
       rcases h6 with h6 | ⟨h6,_⟩
       ·exact h6
       ·exact absurd (List.eq_nil_of_length_eq_zero h6) h0
      subst hadr
      subst h5
      have hh := holds_of hr hg hm hz
      refine callsIn_wide.2 ((hc r (sh + o) _ zs w hh (hr.blk _ _ _ _ hm) (by omega)).mono fun e w' ⟨q1,n,os,q2⟩ => ?_)
      rw [sorted_self hs,putRow_ahead,putRow_self _ _ _ _ _ hh] at q2
      have hb : Below w.heap.size w w' := by
       subst q2
       refine ⟨rfl,rfl,rfl,by simp [grow,Sort.ahead],fun k hk => ?_⟩
       simp only [grow,Sort.ahead]
       rw [Array.getElem?_append_left hk]
      obtain ⟨a,b⟩ := hr.below hb
      exact ⟨m,_,q1,⟨[],rfl,rfl⟩,a,b⟩
  ·cases he
 ·cases he
end Go.AM
namespace Go.AM.Wc
open Go.AM Go.AM.Wd Go.AM.We Go.AM.Wf
variable {P : Program} {E : Env} {T : H → Prop}
theorem ofNat_toNat {k : Nat} (h : k < 256) : (UInt8.ofNat k).toNat = k := by simp; omega
theorem pm_dec : ∀ (u : Nat) (r : List UInt8),u ≤ 1000000000000 → Lib.parseUintM 18446744073709551615 0 (Lib.decDigits u ++ r) = Lib.parseUintM 18446744073709551615 u r := by
 intro u
 induction u using Nat.strongRecOn with
 | _ u ih =>
  intro r hu
  rw [Lib.decDigits]
  by_cases h10 : u < 10
  ·rw [dif_pos h10]
   have ht : (UInt8.ofNat (48 + u)).toNat = 48 + u := ofNat_toNat (by omega)
   simp only [List.cons_append,List.nil_append,Lib.parseUintM,ht]
   rw [if_pos (by omega),if_neg (by omega),if_neg (by omega)]
   congr 1; omega
  ·rw [dif_neg h10,List.append_assoc,ih (u / 10) (by omega) _ (by omega)]
   have ht : (UInt8.ofNat (48 + u % 10)).toNat = 48 + u % 10 := ofNat_toNat (by omega)
   simp only [List.cons_append,List.nil_append,Lib.parseUintM,ht]
   rw [if_pos (by omega),if_neg (by omega),if_neg (by omega)]
   congr 1; omega
theorem pm_zero (r : List UInt8) : ∀ k : Nat,Lib.parseUintM 18446744073709551615 0 (List.replicate k 48 ++ r) = Lib.parseUintM 18446744073709551615 0 r
 | 0 => rfl
 | k + 1 => by
  rw [List.replicate_succ,List.cons_append]
  simp only [Lib.parseUintM]
  rw [if_pos (by decide),if_neg (by decide),if_neg (by decide)]
  exact pm_zero r k
theorem parse_dig {n : Nat} (h : n ≤ 999999999999) : Lib.parseIntB 64 (List.replicate (12 - (Lib.decDigits n).length) 48 ++ Lib.decDigits n) = .ok (n : Int) := by
 obtain ⟨l,hl⟩ : ∃ l,l = List.replicate (12 - (Lib.decDigits n).length) 48 ++ Lib.decDigits n := ⟨_,rfl⟩
 have hp : Lib.parseUintM 18446744073709551615 0 l = .ok n := by
  rw [hl,pm_zero]
  have := pm_dec n [] (by omega)
  rw [List.append_nil] at this
  rw [this]; rfl
 rw [← hl]
 cases l with
 | nil =>
  have hn : (Lib.decDigits n) = [] := (List.append_eq_nil_iff.1 hl.symm).2
  have := pm_dec n [65] (by omega)
  rw [hn] at this
  simp [Lib.parseUintM] at this
  have hz := congrArg List.length hl
  rw [List.length_append,List.length_replicate,hn] at hz
  simp at hz
 | cons c r =>
  have hc : 48 ≤ c.toNat ∧ c.toNat ≤ 57 := by
   simp only [Lib.parseUintM] at hp
   split at hp
   ·assumption
   ·cases hp
  have hB : Lib.parseUintB 64 (c :: r) = .ok n := by
   unfold Lib.parseUintB
   rw [if_neg (by simp)]
   exact hp
  unfold Lib.parseIntB
  have h1 : ¬ (c.toNat = 43 ∨ c.toNat = 45) := by omega
  simp only [h1,if_false,hB]
  have h2 : ¬ c.toNat = 45 := by omega
  simp only [h2,not_false_eq_true,true_and,false_and,if_false]
  rw [if_neg (by omega)]
theorem hasP120 (f120 : E.fns 120 = some fn120) (p120 : E.prim 120 = none) {h : H} {a d : List UInt8} : Sp P E (.func 120 [] []) [.str (a ++ d),.str a] h fun r h' => r = .bool true ∧ h' = h := by
 have hge : ((a ++ d).length : Int) ≥ (a.length : Int) := by rw [List.length_append]; omega
 have hb : boundsV (a ++ d).length (a ++ d).length none (some (.int .i64 (a.length : Nat))) none = some (0,a.length,(a ++ d).length) := by
  have := bounds_hi (len := (a ++ d).length) (cap := (a ++ d).length) (k := .i64) (a := ((a.length : Nat) : Int)) (by rw [List.length_append]; omega)
  simpa only [Int.toNat_natCast] using this
 have ht : List.take (a.length - 0) (a ++ d) = a := by simp
 have he : (a == a) = true := by simp
 refine Sp_fn f120 p120 (by simp [fn120]) ?_
 simp only [GR,evK,binV,intOp,strOp,shOp,unV,Nat.reduceLT,Nat.reduceEqDiff,Nat.reduceAdd,↓reduceIte,Nat.reduceLeDiff,reduceCtorEq,fn120,c120,r120_0,hge,hb,List.drop_zero,ht,he]
theorem cut60 (f60 : E.fns 60 = some fn60) (p60 : E.prim 60 = none) (f95 : E.fns 95 = some fn95) (p95 : E.prim 95 = none) (f120 : E.fns 120 = some fn120) (p120 : E.prim 120 = none) {h : H} {a d : List UInt8} : Sp P E (.func 60 [] []) [.str (a ++ d),.str a] h fun r h' => r = .tup [.str d,.bool true] ∧ h' = h := by
 have hb : boundsV (a ++ d).length (a ++ d).length (some (.int .i64 (a.length : Nat))) none none = some (a.length,(a ++ d).length,(a ++ d).length) := by
  have := bounds_lo (len := (a ++ d).length) (cap := (a ++ d).length) (k := .i64) (a := ((a.length : Nat) : Int)) (by rw [List.length_append]; omega)
  simpa only [Int.toNat_natCast] using this
 have ht : List.take ((a ++ d).length - a.length) (List.drop a.length (a ++ d)) = d := by rw [List.drop_left]; simp
 refine Sp_fn f60 p60 (by simp [fn60]) ?_
 simp only [GR,evK,binV,intOp,strOp,shOp,unV,Nat.reduceLT,Nat.reduceEqDiff,Nat.reduceAdd,↓reduceIte,Nat.reduceLeDiff,reduceCtorEq,fn60,c60,r60_0,r60_1]
 have c95s : Sp P E (.func 95 [] []) [.str (a ++ d),.str a] h fun r h' => r = .tup [.str d,.bool true] ∧ h' = h := by
  refine Sp_fn f95 p95 (by simp [fn95]) ?_
  simp only [GR,evK,binV,intOp,strOp,shOp,unV,Nat.reduceLT,Nat.reduceEqDiff,Nat.reduceAdd,↓reduceIte,Nat.reduceLeDiff,reduceCtorEq,fn95,c95,r95_0,r95_1]
  refine XC_of (hasP120 f120 p120) ?_
  rintro _ hx ⟨rfl,e2⟩
  rw [e2]
  clear e2 hx
  simp only [GR,evK,binV,intOp,strOp,shOp,unV,Nat.reduceLT,Nat.reduceEqDiff,Nat.reduceAdd,↓reduceIte,Nat.reduceLeDiff,reduceCtorEq,Bool.not_true,r95_3,hb,ht]
 refine XC_of c95s ?_
 rintro _ hx ⟨rfl,e2⟩
 rw [e2]
 clear e2 hx
 simp only [GR,evK,binV,intOp,strOp,shOp,unV,Nat.reduceLT,Nat.reduceEqDiff,Nat.reduceAdd,↓reduceIte,Nat.reduceLeDiff,reduceCtorEq,List.getElem?_cons_zero,List.getElem?_cons_succ]
end Go.AM.Wc
namespace Go.AM.Wc
open Go.AM Go.AM.Wd Go.AM.We Go.AM.Wf
variable {P : Program} {E : Env} {T : H → Prop}
def ibx (lb : Option Nat) (k : Nat) : Obj := .cells [vl lb k] 69 false false none
def numV (n : Nat) : V := .int .i64 (n : Nat)
def digS (n : Nat) : List UInt8 := List.replicate (12 - (Lib.decDigits n).length) 48 ++ Lib.decDigits n
theorem segN_dig {n : Nat} (h : n ≤ 999999999999) : segN n = (logN ++ [46]) ++ digS n := segN_eq h
theorem parse61 (hp : E.prim 61 = some parseG) {n : Nat} (hn : n ≤ 999999999999) {h : H} : Sp P E (.func 61 [] []) [.str (digS n),.int .i64 10,.int .i64 64] h fun r h' => r = .tup [.int .i64 (n : Nat),.nilIface] ∧ h' = h := by
 refine ⟨_,h,?_,rfl,rfl⟩
 rw [AP_prim hp]
 have hl : (digS n).length ≤ 4096 := by
  have := congrArg List.length (segN_dig hn)
  rw [segN_len hn] at this
  simp only [List.length_append] at this
  omega
 have hp2 : Lib.parseIntB 64 (digS n) = .ok (n : Int) := parse_dig hn
 show parseG [.str (digS n),.int .i64 10,.int .i64 64] h = _
 simp only [parseG,hl,if_true,hp2]
structure Fe (P : Program) (E : Env) : Prop where
 f27 : E.fns 27 = some fn27
 p27 : E.prim 27 = none
 f29 : E.fns 29 = some fn29
 p29 : E.prim 29 = none
 f32 : E.fns 32 = some fn32
 p32 : E.prim 32 = none
 f60 : E.fns 60 = some fn60
 p60 : E.prim 60 = none
 f64 : E.fns 64 = some fn64
 p64 : E.prim 64 = none
 f95 : E.fns 95 = some fn95
 p95 : E.prim 95 = none
 f101 : E.fns 101 = some fn101
 p101 : E.prim 101 = none
 f102 : E.fns 102 = some fn102
 p102 : E.prim 102 = none
 f120 : E.fns 120 = some fn120
 p120 : E.prim 120 = none
 f18 : E.fns 18 = some fn18
 p18 : E.prim 18 = none
 f20 : E.fns 20 = some fn20
 p20 : E.prim 20 = none
 q61 : E.prim 61 = some parseG
 q62 : E.prim 62 = some sortG
set_option maxHeartbeats 1000000 in
theorem collect27 (F : Fw P E T) (D : Fd P E) (G : Fe P E) {lo tb bx pb : Nat} {h : H} {nb : Option Nat} {ns : List (List UInt8)} {nums : List Nat} {M : List Cell} {ρ : Nat → V} {K : List Fr} {Q : Po} (hN : ns.length ≤ 1048576) (hnb0 : nb = none → ns = []) (hns : ns = nums.map segN) (hnm : ∀ n ∈ nums,n ≤ 999999999999) (hMt : (tb,nbx nb ns.length) ∈ M) (hMn : ∀ b,nb = some b → (b,.cells (ns.map V.str) 9 true false none) ∈ M) (hMp : (pb,.cells [.str logN] 9 false false none) ∈ M)
  (wT : ρ 12 = .func 94 [] [.ptr (some (tb,0))]) (w3 : ρ 3 = .ptr (some (pb,0))) (w5 : ρ 5 = .ptr (some (bx,0))) (h1lo : 1 ≤ lo) (ht : T h) (hlo : lo ≤ h.size) (o : Ow lo h (M ++ [(bx,ibx none 0)]))
  (cont : ∀ h' lb,Keeps lo h h' → Ow lo h' (M ++ ((bx,ibx lb nums.length) :: fpt lb 2 (nums.map numV))) → (lb = none → nums = []) → X P E none 45 K ρ h' Q) :
  X P E none 45 (.c (.range (.t 12) [13] a27_2 b27_7) :: .b 0 :: K) ρ h Q := by
 have hnl : nums.length = ns.length := by rw [hns,List.length_map]
 obtain ⟨vp,vc,vo,hvs⟩ := vl_shape nb ns.length (fun h => by rw [hnb0 h]; rfl)
 refine X_range (by rw [ev_t (by decide)]; exact congrArg some wT) rfl ?_
 obtain ⟨rz,hrz⟩ : ∃ rz : Obj,rz = .loop .ready none (toL 45 ρ) [13] a27_2 b27_7 := ⟨_,rfl⟩
 obtain ⟨bz,hbz⟩ : ∃ bz : Obj,bz = .loop .busy none (toL 45 ρ) [13] a27_2 b27_7 := ⟨_,rfl⟩
 rw [← hrz]
 have hA : ∀ l (ρ' : Nat → V) h' (R : Po),R .nrm (toL 45 (up ρ' 6 (ρ' 13))) h' → X P E (some l) 45 [.c a27_2] ρ' h' R := by
  intro l ρ' h' R hR
  simp only [GR,evK,binV,intOp,strOp,shOp,unV,Nat.reduceLT,Nat.reduceEqDiff,Nat.reduceAdd,↓reduceIte,Nat.reduceLeDiff,reduceCtorEq,a27_2]
  exact hR
 have kL : Kp h (h.psh rz) := Keeps.psh (Nat.le_refl _) _
 have oL := Ow.pushM (m1 := M ++ [(bx,ibx none 0)]) (m2 := []) (by simpa using o) hlo rz
 refine Sp.mono (iter94 D (l := h.size) (tb := tb) (v := vl nb ns.length) hN
  (fun k h' => ∃ lb,Ow lo h' (M ++ ((h.size,rz) :: (bx,ibx lb k) :: fpt lb 2 ((nums.take k).map numV))) ∧ (lb = none → (nums.take k).map numV = []) ∧ Keeps lo h h' ∧ lo ≤ h'.size ∧ k ≤ ns.length)
  (fun _ => False) ⟨vp,vc,vo,hvs⟩ ?_ ?_ ?_ ?_) ?_
 ·rintro k h4 ⟨lb,i1,_⟩
  exact i1.left.get _ hMt
 ·rintro k h4 ⟨lb,i1,_⟩ hk
  cases nb with
  | none => have := hnb0 rfl; subst this; simp at hk
  | some b =>
   have g := i1.left.get _ (hMn b rfl)
   refine ⟨b,0,_,_,_,_,_,_,_,rfl,g,?_⟩
   rw [Nat.zero_add,List.getElem?_map,List.getElem?_eq_getElem hk]; rfl
 ·rintro k h4 hk ⟨lb,i1,i2,i3,i4,i5⟩
  have gB := i1.at (i := h.size) (o := rz) (by simp)
  rw [hrz] at gB
  refine Sp_yield (pend' := none) gB rfl (zip1 _ _ _ _) ?_
  have ow1 : Ow lo h4 (M ++ (h.size,rz) :: ((bx,ibx lb k) :: fpt lb 2 ((nums.take k).map numV))) := by simpa using i1
  obtain ⟨ow2,k2⟩ := ow1.setM bz
  rw [hbz] at ow2 k2
  have i4' : lo ≤ (h4.set h.size bz).size := by rw [H.set_size]; exact i4
  rw [hbz] at i4'
  refine hA _ _ _ _ ⟨rfl,gB,_,rfl,?_⟩
  generalize h4.set h.size (.loop .busy none (toL 45 ρ) [13] a27_2 b27_7) = h5 at *
  rw [← hbz] at ow2
  rw [← hbz,← hrz]
  have gx := ow2.at (i := bx) (o := ibx lb k) (by simp)
  obtain ⟨lp,lc,lo',hlv⟩ := vl_shape lb k (fun h => by
   have := i2 h
   have := congrArg List.length this
   simp only [List.length_map,List.length_take,List.length_nil] at this
   omega)
  have hkn : k < nums.length := by omega
  have hn9 := hnm nums[k] (List.getElem_mem hkn)
  have hnk : ns[k] = segN nums[k] := by
   have := congrArg (fun l => l[k]?) hns
   simp only [List.getElem?_map,List.getElem?_eq_getElem hk,List.getElem?_eq_getElem hkn,Option.map_some,Option.some.injEq] at this
   exact this
  have ht5 : T h5 := F.tlow _ _ _ h1lo ht (Keeps.trans i3 k2)
  have gp5 := ow2.left.get _ hMp
  have hls : logN.length ≤ 9223372036854775806 := by decide
  have c60 : Sp P E (.func 60 [] []) [.str (segN nums[k]),.str (logN ++ [46])] h5 fun r h' => r = .tup [.str (digS nums[k]),.bool true] ∧ h' = h5 := by
   rw [segN_dig hn9]
   exact cut60 G.f60 G.p60 G.f95 G.p95 G.f120 G.p120
  have hin : ∀ h,eqV h .ifc .nilIface .nilIface = some true := fun h => by simp [eqV]
  have hse : (segN nums[k] == segN nums[k]) = true := by simp
  unfold ibx at gx
  rw [hlv] at gx
  rw [hnk]
  simp only [GR,evK,binV,intOp,strOp,shOp,unV,Nat.reduceLT,Nat.reduceEqDiff,Nat.reduceAdd,↓reduceIte,Nat.reduceLeDiff,reduceCtorEq,b27_7,r27_3,w3,gp5,hls]
  refine XC_of c60 ?_
  rintro _ hx ⟨rfl,e2⟩
  rw [e2]
  clear e2 hx
  simp only [GR,evK,binV,intOp,strOp,shOp,unV,Nat.reduceLT,Nat.reduceEqDiff,Nat.reduceAdd,↓reduceIte,Nat.reduceLeDiff,reduceCtorEq,List.getElem?_cons_zero,List.getElem?_cons_succ,r27_4]
  refine XC_of (parse61 G.q61 hn9) ?_
  rintro _ hx ⟨rfl,e2⟩
  rw [e2]
  clear e2 hx
  simp only [GR,evK,binV,intOp,strOp,shOp,unV,Nat.reduceLT,Nat.reduceEqDiff,Nat.reduceAdd,↓reduceIte,Nat.reduceLeDiff,reduceCtorEq,List.getElem?_cons_zero,List.getElem?_cons_succ,r27_5,hin,w3,gp5]
  refine XC_of (seg_nx F ht5 hn9) ?_
  rintro _ h5b ⟨rfl,k5b⟩
  have gxb := k5b.of gx
  have i4b : lo ≤ h5b.size := Nat.le_trans i4' k5b.size
  have k3 : Kp h5b (h5b.psh (.cells [.int .i64 (nums[k] : Nat)] 2 false false none)) := Keeps.psh (Nat.le_refl _) _
  have he1 : elemsV (h5b.psh (.cells [.int .i64 (nums[k] : Nat)] 2 false false none)) 1 1 (.slice (some (h5b.size,0)) 1 1 false) = some [numV nums[k]] := by
   simp only [elemsV,psh_same]; rfl
  have hml : ((nums.take k).map numV).length = k := by rw [List.length_map,List.length_take]; omega
  have ow3 : Ow lo (h5b.psh (.cells [.int .i64 (nums[k] : Nat)] 2 false false none)) ((M ++ [(h.size,bz),(bx,ibx lb k)]) ++ (fpt lb 2 ((nums.take k).map numV) ++ [])) := by simpa using (ow2.kp k5b).kp k3
  obtain ⟨lb',h6,e6,ow6,hb6,k6,fr6⟩ := Ow.appc (bytes := 8) (x := .slice (some (h5b.size,0)) 1 1 false) (ds := [numV nums[k]]) ow3 i2 (Nat.le_trans i4b k3.size) rfl he1 rfl (by rw [hml]; simp only [List.length_cons,List.length_nil]; omega)
  have hl6 : ((nums.take k).map numV ++ [numV nums[k]]).length = k + 1 := by rw [List.length_append,hml]; rfl
  have htk : (nums.take k).map numV ++ [numV nums[k]] = (nums.take (k + 1)).map numV := by rw [List.take_succ_eq_append_getElem hkn,List.map_append]; rfl
  rw [hml,hl6,hlv] at e6
  rw [htk] at ow6 hb6
  have ow6a : Ow lo h6 ((M ++ [(h.size,bz)]) ++ (bx,ibx lb k) :: (fpt lb' 2 ((nums.take (k + 1)).map numV))) := by simpa using ow6
  have gx6 := ow6a.at (i := bx) (o := ibx lb k) (by simp)
  obtain ⟨ow7,k7⟩ := ow6a.setM (ibx lb' (k + 1))
  unfold ibx at gx6
  have e7 := put_at (ws := [vl lb' (k + 1)]) (o := 0) gx6 (by simp) (vl_one _ _) rfl
  have t7 : setR [vl lb k] 0 [vl lb' (k + 1)] = [vl lb' (k + 1)] := rfl
  rw [t7] at e7
  obtain ⟨lp',lc',lo2',hlv'⟩ := vl_shape lb' (k + 1) (fun h => by
   have := hb6 h
   have := congrArg List.length this
   simp only [List.length_map,List.length_take,List.length_nil] at this
   omega)
  rw [hlv'] at e6 e7
  have hd0 : List.drop 1 [V.int .i64 0] = [] := rfl
  simp only [GR,evK,binV,intOp,strOp,shOp,unV,Nat.reduceLT,Nat.reduceEqDiff,Nat.reduceAdd,↓reduceIte,Nat.reduceLeDiff,reduceCtorEq,hse,r27_6,w5,gxb,hd0,e6,e7]
  have ow7' := ow7
  unfold ibx at k7
  rw [hlv'] at k7
  have ow7a : Ow lo (h6.set bx (.cells [.slice lp' (k + 1) lc' lo2'] 69 false false none)) (M ++ (h.size,bz) :: ((bx,ibx lb' (k + 1)) :: fpt lb' 2 ((nums.take (k + 1)).map numV))) := by
   rw [← hlv']
   simpa [ibx] using ow7'
  refine ⟨ow7a.at (i := h.size) (o := bz) (by simp),?_⟩
  obtain ⟨ow8,k8⟩ := ow7a.setM rz
  have kall : Keeps lo h5 (h6.set bx (.cells [.slice lp' (k + 1) lc' lo2'] 69 false false none)) := Keeps.trans (k5b.mono i4') (Keeps.trans (k3.mono i4b) (Keeps.trans k6 k7))
  refine .inl ⟨lb',by simpa using ow8,hb6,Keeps.trans i3 (Keeps.trans k2 (Keeps.trans kall k8)),?_,hk⟩
  rw [H.set_size]
  exact Nat.le_trans i4' kall.size
 ·have oL2 : Ow lo (h.psh rz) (M ++ ((bx,ibx none 0) :: (h.size,rz) :: [])) := by simpa using oL
  have oL3 := oL2.perm (m' := M ++ ((h.size,rz) :: (bx,ibx none 0) :: [])) (List.Perm.append_left _ (List.Perm.swap _ _ _))
  exact ⟨none,by simpa [fpt] using oL3,fun _ => rfl,kL.mono hlo,Nat.le_trans hlo kL.size,Nat.zero_le _⟩
 ·rintro _ h4 (⟨lb,i1,i2,i3,i4,i5⟩ | h0')
  ·have gR := i1.at (i := h.size) (o := rz) (by simp)
   rw [hrz] at gR
   refine ⟨_,_,_,_,_,_,gR,by decide,fun oe hoe => ?_⟩
   have ow1 : Ow lo h4 (M ++ (h.size,rz) :: ((bx,ibx lb ns.length) :: fpt lb 2 ((nums.take ns.length).map numV))) := by simpa using i1
   obtain ⟨ow2,k2⟩ := ow1.setM oe
   rw [← hnl,List.take_length] at ow2 i2
   simp only
   simp only [GR,evK,binV,intOp,strOp,shOp,unV,Nat.reduceLT,Nat.reduceEqDiff,Nat.reduceAdd,↓reduceIte,Nat.reduceLeDiff,reduceCtorEq]
   exact cont _ lb (Keeps.trans i3 k2) (by simpa using ow2.dropM) (fun h => by simpa using i2 h)
  ·exact h0'.elim
end Go.AM.Wc
namespace Go.AM.Wc
open Go.AM Go.AM.Wd Go.AM.We Go.AM.Wf
variable {P : Program} {E : Env} {T : H → Prop}
theorem sort62 (hp : E.prim 62 = some sortG) {h : H} {nb : Option Nat} {nums : List Nat} {ty : Nat} (hn : nb = none → nums = []) (hg : ∀ b,nb = some b → h.get b = some (.cells (nums.map numV) ty true false none)) (hl : nums.length ≤ 1048576) (hs : nums.Pairwise (· < ·)) :
  Sp P E (.func 62 [] []) [vl nb nums.length] h fun _ h' => h' = h := by
 refine ⟨.tup [],h,?_,rfl⟩
 rw [AP_prim hp]
 obtain ⟨p,c,o,hv⟩ := vl_shape nb nums.length (fun h => by rw [hn h]; rfl)
 show sortG [vl nb nums.length] h = _
 rw [hv]
 unfold sortG
 refine if_pos ⟨nums.map Int.ofNat,by simp,by simpa using hl,List.pairwise_map.2 (hs.imp fun {a b} h => by have := h; simp; omega),?_⟩
 cases nb with
 | none => exact .inl (by rw [hn rfl]; rfl)
 | some b =>
  cases hv
  refine .inr ⟨b,0,nums.map numV,ty,true,rfl,hg b rfl,fun j z hz => ?_⟩
  rw [List.getElem?_map] at hz
  rw [Nat.zero_add,List.getElem?_map]
  cases hj : nums[j]? with
  | none => rw [hj] at hz; cases hz
  | some n => rw [hj] at hz; cases hz; rfl
theorem segs_less {nums : List Nat} (hnm : ∀ n ∈ nums,n ≤ 999999999999) (hs : nums.Pairwise (· < ·)) : (nums.map segN).Pairwise fun a b => Op.bytesLess a b = true :=
 List.pairwise_map.2 (hs.imp_of_mem fun ha hb h => segN_less h (hnm _ hb))
set_option maxHeartbeats 1000000 in
theorem numbers27 (F : Fw P E T) (D : Fd P E) (G : Fe P E) (hsp : E.prim 123 = some (sortedG 153 59)) {h : H} {R bd bm k : Nat} {l : List (V × V)} {nums : List Nat} (gd : h.get bd = some (.cells (diskX R bm) 63 false false none)) (gm : h.get bm = some (mok k l)) (hn : l.map (·.1) = (nums.map segN).map V.str) (hnm : ∀ n ∈ nums,n ≤ 999999999999) (hs : nums.Pairwise (· < ·)) (hl : nums.length ≤ 1048576) (ht : T h) :
  Sp P E (.func 27 [] []) [.ptr (some (bd,0)),.str logN] h fun r h' => ∃ nb,r = vl nb nums.length ∧ (nb = none → nums = []) ∧ Ow h.size h' (fpt nb 2 (nums.map numV)) ∧ Kp h h' := by
 have h1lo := F.tsize _ ht
 obtain ⟨ns,hns⟩ : ∃ ns,ns = nums.map segN := ⟨_,rfl⟩
 rw [← hns] at hn
 have hpw := segs_less hnm hs
 rw [← hns] at hpw
 have hsrt := srt_sorted hpw
 have hnd := less_nodup hpw
 have hnl : ns.length = nums.length := by rw [hns,List.length_map]
 have hsm : ∀ n ∈ ns,n.length ≤ 1048576 := fun n hn' => by
  rw [hns] at hn'
  obtain ⟨x,hx,rfl⟩ := List.mem_map.1 hn'
  rw [segN_len (hnm x hx)]; omega
 have k1 : Kp h (h.psh (.cells [.str logN] 9 false false none)) := Keeps.psh (Nat.le_refl _) _
 have s1 := psh_size h (.cells [.str logN] 9 false false none)
 have k2 : Kp (h.psh (.cells [.str logN] 9 false false none)) ((h.psh (.cells [.str logN] 9 false false none)).psh (ibx none 0)) := Keeps.psh (Nat.le_refl _) _
 have o1 := (Ow.nil h.size h).push (Nat.le_refl _) (.cells [.str logN] 9 false false none)
 have o2 := o1.push k1.size (ibx none 0)
 rw [s1] at o2
 have e0 : ibx none 0 = .cells [.slice none 0 0 false] 69 false false none := rfl
 refine Sp_fn G.f27 G.p27 (by simp [fn27]) ?_
 simp only [GR,evK,binV,intOp,strOp,shOp,unV,Nat.reduceLT,Nat.reduceEqDiff,Nat.reduceAdd,↓reduceIte,Nat.reduceLeDiff,reduceCtorEq,fn27,c27,r27_0,s1]
 rw [← e0]
 have kk2 : Kp h ((h.psh (.cells [.str logN] 9 false false none)).psh (ibx none 0)) := Kp.trans k1 k2
 generalize (h.psh (.cells [.str logN] 9 false false none)).psh (ibx none 0) = h2 at *
 simp only [GR,evK,binV,intOp,strOp,shOp,unV,Nat.reduceLT,Nat.reduceEqDiff,Nat.reduceAdd,↓reduceIte,Nat.reduceLeDiff,reduceCtorEq,r27_1]
 refine XC_of (names59 F D hsp (kk2.of gd) (kk2.of gm) hn hnd (by omega) hsm) ?_
 rintro _ h3 ⟨tb,v,hx0,rfl,htb,gt3,⟨nb,rfl,hnb0,hnb,kx⟩,hkeep,k3⟩
 rw [hsrt] at hnb0 hnb gt3
 have kk3 : Kp h h3 := Kp.trans kk2 k3
 obtain ⟨M,hM⟩ : ∃ M : List Cell,M = (tb,nbx nb ns.length) :: (fpt nb 9 (ns.map V.str) ++ [(h.size,.cells [.str logN] 9 false false none)]) := ⟨_,rfl⟩
 have o3 : Ow h.size h3 (M ++ [(h.size + 1,ibx none 0)]) := by
  have oB : Ow h.size h3 ((tb,nbx nb ns.length) :: (fpt nb 9 (ns.map V.str) ++ [(h.size + 1,ibx none 0),(h.size,.cells [.str logN] 9 false false none)])) := by
   cases nb with
   | none => exact o2.new k3 htb kk2.size gt3
   | some nb' =>
    obtain ⟨q1,q2⟩ := hnb nb' rfl
    have q3 := hkeep _ _ q2
    exact Ow.new2 o2 k3 htb q1 kk2.size gt3 q3 (by rintro rfl; rw [gt3] at q3; simp at q3)
  refine oB.perm ?_
  rw [hM]
  simp only [List.cons_append,List.append_assoc,List.nil_append]
  exact List.Perm.cons _ (List.Perm.append_left _ (List.Perm.swap _ _ _))
 clear o1 o2 hnb hkeep kx
 simp only [GR,evK,binV,intOp,strOp,shOp,unV,Nat.reduceLT,Nat.reduceEqDiff,Nat.reduceAdd,↓reduceIte,Nat.reduceLeDiff,reduceCtorEq]
 refine collect27 F D G (lo := h.size) (M := M) (nb := nb) (ns := ns) (nums := nums) (pb := h.size) (bx := h.size + 1) (tb := tb) (by omega) hnb0 hns hnm (by rw [hM]; simp) (fun b hb => by rw [hM]; simp [fpt,hb]) (by rw [hM]; simp) rfl rfl rfl h1lo (F.tkeep ht kk3) kk3.size o3 ?_
 intro h4 lb k4 o4 hlb0
 have kk4 : Kp h h4 := Keeps.trans (n := h.size) kk3 k4
 have gx4 := o4.at (i := h.size + 1) (o := ibx lb nums.length) (by simp)
 have glb : ∀ b,lb = some b → h4.get b = some (.cells (nums.map numV) 2 true false none) := fun b hb => o4.at (by simp [fpt,hb])
 obtain ⟨lp,lc,lo',hlv⟩ := vl_shape lb nums.length (fun h => by rw [hlb0 h]; rfl)
 have hsort := sort62 (P := P) (E := E) G.q62 hlb0 glb hl hs
 unfold ibx at gx4
 rw [hlv] at gx4 hsort
 simp only [GR,evK,binV,intOp,strOp,shOp,unV,Nat.reduceLT,Nat.reduceEqDiff,Nat.reduceAdd,↓reduceIte,Nat.reduceLeDiff,reduceCtorEq,r27_8,gx4]
 refine XC_of hsort ?_
 rintro _ hx rfl
 simp only [GR,evK,binV,intOp,strOp,shOp,unV,Nat.reduceLT,Nat.reduceEqDiff,Nat.reduceAdd,↓reduceIte,Nat.reduceLeDiff,reduceCtorEq,r27_9,gx4]
 exact ⟨lb,hlv.symm,hlb0,by simpa using o4.right.tail,kk4⟩
end Go.AM.Wc
namespace Go.AM.Wc
open Go.AM
def r8_24a : List O := [⟨some 112,.mv (.t 6),none,0,[112,6]⟩,⟨some 113,.mv (.t 6),none,0,[113,6]⟩,⟨some 114,.nilck (.t 113),none,2,[114,113]⟩,⟨some 115,.fadr 2 (.t 114),none,6,[115,114]⟩,⟨some 116,.load1 (.t 115),none,14,[116,115]⟩,⟨some 117,.loadN 4 (.t 12),none,0,[117,12]⟩,⟨some 118,.bslice 74 1 [(.int .i64 0),(.slice none 0 0 false),(.int .i64 0),(.bool false)] [(0,4,(.t 117))],none,32,[118,117]⟩]
def r8_24b : List O := [⟨some 119,.app 74 4 48 (.t 116) (.t 118),none,126,[119,116,118]⟩,⟨some 120,.nilck (.t 112),none,255,[120,112]⟩,⟨some 121,.fadr 2 (.t 120),none,511,[121,120]⟩,⟨none,.store 1 (.t 121) (.t 119),none,1023,[121,119]⟩]
theorem l8_24 {P : Program} {E : Env} {ro : Option Nat} {L : Nat} {K : List Fr} {ρ : Nat → V} {h : H} {Q : Po} (hx : XDQ P E ro L (.c (.region r8_24b) :: K) Q h [true,true,true,true,true,true,true] r8_24a ρ h) : XD P E ro L r8_24 K ρ h Q := XD_last (A := r8_24a) (B := r8_24b) rfl rfl hx
open Go.AM Go.AM.Wd Go.AM.We Go.AM.Wf
variable {P : Program} {E : Env} {T : H → Prop}
theorem Ow.join {lo : Nat} {h0 h : H} {M N : List Cell} (a : Ow lo h0 M) (k : Kp h0 h) (hlo : lo ≤ h0.size) (b : Ow h0.size h N) : Ow lo h (M ++ N) := by
 have a' := a.kp k
 refine ⟨fun p hp => ?_,fun p hp => ?_,?_⟩
 ·rcases List.mem_append.1 hp with hp | hp
  ·exact a'.get p hp
  ·exact b.get p hp
 ·rcases List.mem_append.1 hp with hp | hp
  ·exact a.low p hp
  ·exact Nat.le_trans hlo (b.low p hp)
 ·rw [List.map_append]
  refine List.nodup_append.2 ⟨a.nd,b.nd,fun x hx y hy e => ?_⟩
  subst e
  obtain ⟨p,hp,rfl⟩ := List.mem_map.1 hx
  obtain ⟨q,hq,e⟩ := List.mem_map.1 hy
  have h1 := b.low q hq
  have h2 := a.lt hp
  omega
set_option maxHeartbeats 4000000 in
theorem body8 (F : Fw P E T) (D : Fd P E) (G : Fe P E) {h0 h : H} {R bd bm k lb i nxi L : Nat} {sb nb : Option Nat} {sgs : List Sg} {m2 : List Cell} {A : List SegA} {fs1 fs2 : List Fy} {f : Fy} {ρ : Nat → V} {K : List Fr} {Q : Po}
  (ht : T h) (dv : DV h R bd bm k (fs1 ++ f :: fs2)) (hi : i < A.length) (hAl : A.length ≤ 1048576) (hsl : sgs.length = i) (hnb : ∀ b,nb = some b → h.get b = some (.cells (A.map fun s => numV s.1) 2 true false none)) (hnb0 : nb = none → A = [])
  (hfn : f.name = segN A[i].1) (hfc : f.cs = bytA A[i]) (hne : ∀ g ∈ fs1,g.name ≠ f.name) (hn9 : A[i].1 ≤ 999999999999) (hend : A[i].1 + A[i].2.length ≤ 1000000000000) (hrec : ∀ c ∈ A[i].2,Bs c ∧ 1 ≤ c.length ∧ c.length ≤ 65536) (hr0 : A[i].2 ≠ []) (hbl : (bytA A[i]).length ≤ 4194304)
  (hnx : ∀ (hj : i + 1 < A.length),A[i + 1].1 = A[i].1 + A[i].2.length)
  (ow : Ow h0.size h (lgX lb bd sb [] sgs nxi 0 false ++ m2)) (hsb : sb = none → sgs = []) (hlo : h0.size ≤ h.size)
  (q0 : ρ 0 = .ptr (some (bd,0))) (q1 : ρ 1 = .str logN) (q6 : ρ 6 = .ptr (some (lb,0))) (q7 : ρ 7 = vl nb A.length) (q37 : ρ 37 = vl nb A.length) (q38 : ρ 38 = .int .i64 A.length) (q39 : ρ 39 = .int .i64 i)
  (cont : ∀ (ρ' : Nat → V) (h' : H) (sb' : Option Nat) (s : Sg),s.sh = A[i] → s.size = ((bytA A[i]).length : Int) → s.loose = false → okS s → (sb' = none → False) → Ow h0.size h' (lgX lb bd sb' [] (sgs ++ [s]) (A[i].1 + A[i].2.length) 0 false ++ m2) → Keeps h0.size h h' →
   ρ' 0 = .ptr (some (bd,0)) → ρ' 1 = .str logN → ρ' 6 = .ptr (some (lb,0)) → ρ' 7 = vl nb A.length → ρ' 37 = vl nb A.length → ρ' 38 = .int .i64 A.length → ρ' 39 = .int .i64 ((i + 1 : Nat) : Int) → XL P E none 167 b8_26 K ρ' h' Q) :
  XL P E none 167 b8_26 K ρ h Q := by
 obtain ⟨b,hb⟩ : ∃ b,nb = some b := by
  cases hb : nb with
  | none => have := hnb0 hb; rw [this] at hi; simp at hi
  | some b => exact ⟨b,rfl⟩
 have gnb := hnb b hb
 subst hb
 have hvl : vl (some b) A.length = .slice (some (b,0)) A.length A.length true := rfl
 rw [hvl] at q7 q37
 have hAi : (A.map fun s => numV s.1)[i]? = some (.int .i64 (A[i].1 : Nat)) := by rw [List.getElem?_map,List.getElem?_eq_getElem hi]; rfl
 have hlt : (i : Int) < (A.length : Int) := by omega
 have c1 : ((0 : Int) != 0) = false := rfl
 rw [u8_26]
 simp only [GR,evK,binV,intOp,strOp,shOp,unV,Nat.reduceLT,Nat.reduceEqDiff,Nat.reduceAdd,↓reduceIte,Nat.reduceLeDiff,reduceCtorEq,q38,q39,hlt,r8_10,q37,Int.natCast_nonneg,Int.ofNat_lt,hi,Int.toNat_natCast,Nat.mul_one,Nat.zero_add,gnb,hAi,r8_11,q0,q1]
 refine XC_of (seg_nx F ht hn9) ?_
 rintro _ h1 ⟨rfl,k1⟩
 have dv1 := dv.kp k1
 simp only [GR,evK,binV,intOp,strOp,shOp,unV,Nat.reduceLT,Nat.reduceEqDiff,Nat.reduceAdd,↓reduceIte,Nat.reduceLeDiff,reduceCtorEq]
 rw [← hfn]
 have hfl : 1 ≤ f.cs.length := by rw [hfc]; exact byt_pos hr0
 refine XC_of (read28v F D dv1 hne (by rw [hfn,segN_len hn9]; omega) (by rw [hfn,segN_len hn9]; omega) hfl (by rw [hfc]; exact hbl)) ?_
 rintro _ h2 ⟨_,rfl,bv,rfl,hbs,hbz,gbv,k2⟩
 have k12 : Kp h h2 := Kp.trans k1 k2
 have hbv : vl (some bv) f.cs.length = .slice (some (bv,0)) f.cs.length f.cs.length true := rfl
 have k3 : Kp h2 (h2.psh (.cells [.int .i64 0,.slice none 0 0 false,.int .i64 0,.bool false] 74 false false none)) := Keeps.psh (Nat.le_refl _) _
 have g3 := psh_same h2 (.cells [.int .i64 0,.slice none 0 0 false,.int .i64 0,.bool false] 74 false false none)
 have e3 := put_at (ws := [.int .i64 (A[i].1 : Nat),.slice none 0 0 false,.int .i64 0,.bool false]) (o := 0) g3 (by simp) rfl rfl
 have t3 : setR [V.int .i64 0,.slice none 0 0 false,.int .i64 0,.bool false] 0 [.int .i64 (A[i].1 : Nat),.slice none 0 0 false,.int .i64 0,.bool false] = [.int .i64 (A[i].1 : Nat),.slice none 0 0 false,.int .i64 0,.bool false] := rfl
 rw [t3] at e3
 have k4 : Kp h2 ((h2.psh (.cells [.int .i64 0,.slice none 0 0 false,.int .i64 0,.bool false] 74 false false none)).set h2.size (.cells [.int .i64 (A[i].1 : Nat),.slice none 0 0 false,.int .i64 0,.bool false] 74 false false none)) := Keeps.trans k3 (Keeps.set (H.get_lt g3) (Nat.le_refl _) _)
 have g4 := hset_same (H.get_lt g3) (.cells [.int .i64 (A[i].1 : Nat),.slice none 0 0 false,.int .i64 0,.bool false] 74 false false none)
 simp only [GR,evK,binV,intOp,strOp,shOp,unV,Nat.reduceLT,Nat.reduceEqDiff,Nat.reduceAdd,↓reduceIte,Nat.reduceLeDiff,reduceCtorEq,List.getElem?_cons_zero,List.getElem?_cons_succ,r8_12,c1,r8_14,e3]
 obtain ⟨sk,hsk⟩ : ∃ x,x = h2.size := ⟨_,rfl⟩
 rw [← hsk] at k4 g4 e3 ⊢
 obtain ⟨h4,hh4⟩ : ∃ x,x = (h2.psh (.cells [.int .i64 0,.slice none 0 0 false,.int .i64 0,.bool false] 74 false false none)).set sk (.cells [.int .i64 (A[i].1 : Nat),.slice none 0 0 false,.int .i64 0,.bool false] 74 false false none) := ⟨_,rfl⟩
 rw [← hh4] at k4 g4 ⊢
 clear hh4 e3 k3 g3
 have hl2 : h0.size ≤ h2.size := Nat.le_trans hlo k12.size
 have ow4 := Ow.newM (m1 := lgX lb bd sb [] sgs nxi 0 false ++ m2) (m2 := []) (by simpa using ow.kp k12) k4 (Nat.le_of_eq hsk.symm) hl2 g4
 have gbv4 := k4.of gbv
 have hcsl : f.cs.length = (bytA A[i]).length := by rw [hfc]
 rw [hfc] at gbv4 hbs hbv ⊢
 have hrx : Rx h4 (.slice (some (bv,0)) (bytA A[i]).length (bytA A[i]).length true) (A[i].2.flatMap frameF) := ⟨_,_,_,rfl,vl_elems gbv4,hbs⟩
 rw [hbv]
 simp only [GR,evK,binV,intOp,strOp,shOp,unV,Nat.reduceLT,Nat.reduceEqDiff,Nat.reduceAdd,↓reduceIte,Nat.reduceLeDiff,reduceCtorEq,r8_15]
 refine XC_of (frames29 F G.f29 G.p29 G.f64 G.p64 G.f101 G.p101 G.f102 G.p102 (fun c hc => (hrec c hc).2) rfl (Nat.le_refl _) hbl hrx) ?_
 rintro _ h5 ⟨rb,rs,rfl,hrs,hrb0,owN,k5⟩
 have ow5 := Ow.join ow4 k5 (Nat.le_trans hl2 k4.size) owN
 have g5 := k5.of g4
 obtain ⟨rp,rc,ro,hrv⟩ := vl_shape rb rs.length (fun h => by rw [hrb0 h]; rfl)
 rw [hrv]
 have ow5' : Ow h0.size h5 ((lgX lb bd sb [] sgs nxi 0 false ++ m2) ++ (sk,.cells [.int .i64 (A[i].1 : Nat),.slice none 0 0 false,.int .i64 0,.bool false] 74 false false none) :: (fpt rb 45 (rs.map Rc.v) ++ rs.map Rc.cell)) := by simpa using ow5
 have e6 := put_at (ws := [.slice rp rs.length rc ro]) (o := 1) g5 (by simp) rfl rfl
 have t6 : setR [V.int .i64 (A[i].1 : Nat),.slice none 0 0 false,.int .i64 0,.bool false] 1 [.slice rp rs.length rc ro] = [.int .i64 (A[i].1 : Nat),.slice rp rs.length rc ro,.int .i64 0,.bool false] := rfl
 rw [t6] at e6
 obtain ⟨ow6,k6⟩ := ow5'.setM (.cells [.int .i64 (A[i].1 : Nat),.slice rp rs.length rc ro,.int .i64 0,.bool false] 74 false false none)
 have g6 := ow6.at (i := sk) (o := .cells [.int .i64 (A[i].1 : Nat),.slice rp rs.length rc ro,.int .i64 0,.bool false] 74 false false none) (by simp)
 have e7 := put_at (ws := [.int .i64 ((bytA A[i]).length : Nat)]) (o := 2) g6 (by simp) rfl rfl
 obtain ⟨s,hs⟩ : ∃ s : Sg,s = ⟨A[i].1,rb,rs,((bytA A[i]).length : Nat),false⟩ := ⟨_,rfl⟩
 have hsc : s.cells = [.int .i64 (A[i].1 : Nat),.slice rp rs.length rc ro,.int .i64 ((bytA A[i]).length : Nat),.bool false] := by rw [hs]; unfold Sg.cells; rw [hrv]
 have t7 : setR [V.int .i64 (A[i].1 : Nat),.slice rp rs.length rc ro,.int .i64 0,.bool false] 2 [.int .i64 ((bytA A[i]).length : Nat)] = s.cells := by rw [hsc]; rfl
 rw [t7] at e7
 obtain ⟨ow7,k7⟩ := ow6.setM (.cells s.cells 74 false false none)
 have g7 := ow7.at (i := sk) (o := .cells s.cells 74 false false none) (by simp)
 have hL : A[i].2.flatMap frameF = bytA A[i] := rfl
 rw [hL]
 simp only [GR,evK,binV,intOp,strOp,shOp,unV,Nat.reduceLT,Nat.reduceEqDiff,Nat.reduceAdd,↓reduceIte,Nat.reduceLeDiff,reduceCtorEq,List.getElem?_cons_zero,List.getElem?_cons_succ,e6,e7]
 have kt7 : Keeps h0.size h ((h5.set sk (.cells [.int .i64 (A[i].1 : Nat),.slice rp rs.length rc ro,.int .i64 0,.bool false] 74 false false none)).set sk (.cells s.cells 74 false false none)) :=
  Keeps.trans ((Kp.trans k12 (Kp.trans k4 k5)).mono hlo) (Keeps.trans k6 k7)
 have kb7 : Kp h ((h5.set sk (.cells [.int .i64 (A[i].1 : Nat),.slice rp rs.length rc ro,.int .i64 0,.bool false] 74 false false none)).set sk (.cells s.cells 74 false false none)) := by
  have hsz : h.size ≤ sk := by rw [hsk]; exact k12.size
  have z5 := H.get_lt g5
  have z6 := H.get_lt g6
  exact Keeps.trans (n := h.size) (Kp.trans k12 (Kp.trans k4 k5)) (Keeps.trans (Keeps.set z5 hsz _) (Keeps.set z6 hsz _))
 obtain ⟨h7,hh7⟩ : ∃ x,x = (h5.set sk (.cells [.int .i64 (A[i].1 : Nat),.slice rp rs.length rc ro,.int .i64 0,.bool false] 74 false false none)).set sk (.cells s.cells 74 false false none) := ⟨_,rfl⟩
 rw [← hh7] at ow7 g7 kt7 kb7 ⊢
 clear hh7 e6 e7 k6 k7 ow6 g6 ow5' ow5 g5 owN
 have hl7 : h0.size ≤ h7.size := Nat.le_trans hlo kb7.size
 have hrl : rs.length = A[i].2.length := by have := congrArg List.length hrs; simpa using this
 have gl7 := ow7.at (i := lb) (o := lgO bd (vlo sb ([] : List V).length sgs.length) nxi 0 false) (by simp [lgX])
 obtain ⟨zp,zc,zo,hzv⟩ := vlo_shape sb ([] : List V).length sgs.length (fun h => by rw [hsb h]; rfl)
 have hc4 : 4 ≤ s.cells.length := Nat.le_refl 4
 have ht4 : List.take 4 s.cells = s.cells := rfl
 have hsend : s.fst + s.rs.length = A[i].1 + A[i].2.length := by rw [hs]; show A[i].1 + rs.length = _; rw [hrl]
 have hend30 := fun (h' : H) => end30 F (h := h') (s := s) (by rw [hs]; exact hrb0) (by rw [hsend]; exact hend)
 simp only [GR,evK,binV,intOp,strOp,shOp,unV,Nat.reduceLT,Nat.reduceEqDiff,Nat.reduceAdd,↓reduceIte,Nat.reduceLeDiff,reduceCtorEq,r8_16,q6,g7,hc4,ht4]
 refine XC_of (hend30 h7) ?_
 rintro _ h8 ⟨rfl,k8⟩
 rw [hsend]
 have gl8 := k8.of gl7
 have ow8 := ow7.kp k8
 have e8 := put_at (ws := [.int .i64 ((A[i].1 + A[i].2.length : Nat) : Int)]) (o := 3) gl8 (by simp [lgC]) rfl rfl
 have t8 : setR (lgC bd (vlo sb ([] : List V).length sgs.length) nxi 0 false) 3 [.int .i64 ((A[i].1 + A[i].2.length : Nat) : Int)] = lgC bd (vlo sb ([] : List V).length sgs.length) ((A[i].1 + A[i].2.length : Nat) : Int) 0 false := rfl
 rw [t8] at e8
 have ow8a : Ow h0.size h8 ([] ++ (lb,lgO bd (vlo sb ([] : List V).length sgs.length) nxi 0 false) :: ((fpt sb 74 ([] ++ sgs.flatMap Sg.cells) ++ sgs.flatMap Sg.foot) ++ (m2 ++ (sk,.cells s.cells 74 false false none) :: (fpt rb 45 (rs.map Rc.v) ++ rs.map Rc.cell)))) := by simpa [lgX] using ow8
 obtain ⟨ow9,k9⟩ := ow8a.setM (lgO bd (vlo sb ([] : List V).length sgs.length) ((A[i].1 + A[i].2.length : Nat) : Int) 0 false)
 unfold lgO at gl8 gl7
 simp only [GR,evK,binV,intOp,strOp,shOp,unV,Nat.reduceLT,Nat.reduceEqDiff,Nat.reduceAdd,↓reduceIte,Nat.reduceLeDiff,reduceCtorEq,gl8,e8]
 obtain ⟨h9,hh9⟩ : ∃ x,x = h8.set lb (.cells (lgC bd (vlo sb 0 sgs.length) ((A[i].1 + A[i].2.length : Nat) : Int) 0 false) 68 false false none) := ⟨_,rfl⟩
 rw [← hh9]
 have ow9' : Ow h0.size h9 ([] ++ (lb,lgO bd (vlo sb 0 sgs.length) ((A[i].1 + A[i].2.length : Nat) : Int) 0 false) :: ((fpt sb 74 ([] ++ sgs.flatMap Sg.cells) ++ sgs.flatMap Sg.foot) ++ (m2 ++ (sk,.cells s.cells 74 false false none) :: (fpt rb 45 (rs.map Rc.v) ++ rs.map Rc.cell)))) := by rw [hh9]; exact ow9
 have k9' : Keeps h0.size h8 h9 := by rw [hh9]; exact k9
 have kt9 : Keeps h0.size h h9 := Keeps.trans kt7 (Keeps.trans (k8.mono hl7) k9')
 have hlbk : ∀ j o,h8.get j = some o → j ≠ lb → h9.get j = some o := fun j o hg hne => by
  rw [hh9,hset_other (H.get_lt gl8) (fun e => hne e.symm)]; exact hg
 have hlb0 : h0.size ≤ lb := ow9'.low (lb,_) (List.mem_cons_self)
 clear hh9 e8 t8 ow9 k9 ow8a ow8 ow7
 have g9 := ow9'.at (i := sk) (o := .cells s.cells 74 false false none) (by simp)
 have gl9 := ow9'.at (i := lb) (o := lgO bd (vlo sb 0 sgs.length) ((A[i].1 + A[i].2.length : Nat) : Int) 0 false) (by simp)
 have hs2 : s.cells[2]? = some (.int .i64 ((bytA A[i]).length : Nat)) := by rw [hsc]; rfl
 have hnn : ¬ (((bytA A[i]).length : Nat) : Int) < (((bytA A[i]).length : Nat) : Int) := by omega
 have hwn : IntKind.i64.wrap ((A.length : Int) - 1) = ((A.length - 1 : Nat) : Int) := by rw [wrap_le (by omega) (by omega)]; omega
 have hw1 : IntKind.i64.wrap ((i : Int) + 1) = ((i + 1 : Nat) : Int) := wrap_nat (n := i + 1) (by omega)
 -- behind the check
 have rest : ∀ (ρ1 : Nat → V) (h9b : H),Kp h9 h9b → ρ1 0 = .ptr (some (bd,0)) → ρ1 1 = .str logN → ρ1 6 = .ptr (some (lb,0)) → ρ1 7 = .slice (some (b,0)) A.length A.length true → ρ1 10 = .slice (some (bv,0)) (bytA A[i]).length (bytA A[i]).length true → ρ1 12 = .ptr (some (sk,0)) → ρ1 37 = .slice (some (b,0)) A.length A.length true → ρ1 38 = .int .i64 A.length → ρ1 39 = .int .i64 i →
   XO P E none 167 r8_19 (.c (.cond (.t 92) (.seq (.seq (.draw r8_20) (.seq (.region r8_21) (.cond (.t 106) (.seq (.region r8_22) (.ret)) (.skip)))) (.seq (.region r8_23) (.cond (.t 111) (.exit 1) (.skip)))) (.skip)) :: .b 3 :: .c (.draw r8_24) :: .b 2 :: .c (.region r8_25) :: .l b8_26 :: K) ρ1 h9b Q := by
  intro ρ1 h9b k9b w0 w1 w6 w7 w10 w12 w37 w38 w39
  have g9b := k9b.of g9
  have gl9b := k9b.of gl9
  have hzv' : vlo sb 0 sgs.length = .slice zp sgs.length zc zo := hzv
  rw [hzv'] at gl9b
  unfold lgO lgC at gl9b
  simp only [GR,evK,binV,intOp,strOp,shOp,unV,Nat.reduceLT,Nat.reduceEqDiff,Nat.reduceAdd,↓reduceIte,Nat.reduceLeDiff,reduceCtorEq,r8_19,w12,g9b,hs2,w10,hnn]
  rw [X_draw]
  refine l8_24 ?_
  have hnjl : V.njL s.cells = true := by rw [hsc]; rfl
  have hc4e : s.cells.length = 4 := rfl
  have hd4 : List.drop 4 [V.int .i64 0,V.slice none 0 0 false,V.int .i64 0,V.bool false] = [] := rfl
  simp only [GR,evK,binV,intOp,strOp,shOp,unV,Nat.reduceLT,Nat.reduceEqDiff,Nat.reduceAdd,↓reduceIte,Nat.reduceLeDiff,reduceCtorEq,r8_24a,w6,gl9b,w12,g9b,hc4,ht4,hnjl,hc4e,hd4,List.append_nil]
  have k10 : Kp h9b (h9b.psh (.cells s.cells 74 false false none)) := Keeps.psh (Nat.le_refl _) _
  have he10 : elemsV (h9b.psh (.cells s.cells 74 false false none)) 4 1 (.slice (some (h9b.size,0)) 1 1 false) = some s.cells := by
   simp only [elemsV,psh_same]; rw [hsc]; rfl
  refine ⟨k10,?_⟩
  have ow10 := (ow9'.kp k9b).kp k10
  have gl10 := k10.of gl9b
  have hl9b : h0.size ≤ h9b.size := Nat.le_trans (Nat.le_trans hlo kt9.size) k9b.size
  have hl10 : h0.size ≤ (h9b.psh (.cells s.cells 74 false false none)).size := Nat.le_trans hl9b k10.size
  have kt10 : Keeps h0.size h (h9b.psh (.cells s.cells 74 false false none)) := Keeps.trans kt9 (Keeps.trans (k9b.mono (Nat.le_trans hlo kt9.size)) (k10.mono hl9b))
  generalize h9b.psh (.cells s.cells 74 false false none) = h10 at *
  have ow10a : Ow h0.size h10 ([(lb,lgO bd (vlo sb 0 sgs.length) ((A[i].1 + A[i].2.length : Nat) : Int) 0 false)] ++ (fpt sb 74 ([] ++ (sgs.map Sg.cells).flatten) ++ (sgs.flatMap Sg.foot ++ (m2 ++ (sk,.cells s.cells 74 false false none) :: (fpt rb 45 (rs.map Rc.v) ++ rs.map Rc.cell))))) := by
   have := ow10
   rw [List.flatMap_def (f := Sg.cells)] at this
   simpa using this
  have hml : (sgs.map Sg.cells).length = sgs.length := List.length_map ..
  obtain ⟨sbb,h11,e11,ow11,k11,fr11⟩ := Ow.appO (sz := 4) (bytes := 48) (gc := []) (x := .slice (some (h9b.size,0)) 1 1 false) (ys := [s.cells]) ow10a (fun h => by rw [hsb h]; exact ⟨rfl,rfl⟩) hl10 (fun z hz => by obtain ⟨y,_,rfl⟩ := List.mem_map.1 hz; rfl) rfl (by rw [show [s.cells].length = 1 from rfl,he10]; simp) (by simp) (by rw [hsc]; rfl) (by rw [hml]; simp only [List.length_cons,List.length_nil]; omega)
  have hl11 : (sgs.map Sg.cells ++ [s.cells]).length = sgs.length + 1 := by simp
  rw [hml,hl11] at e11
  have e11' : appV h10 74 4 48 (.slice zp sgs.length zc zo) (.slice (some (h9b.size,0)) 1 1 false) = some (.eff (vl (some sbb) (sgs.length + 1)) h11) := by rw [← hzv']; exact e11
  have gl11 := ow11.at (i := lb) (o := lgO bd (vlo sb 0 sgs.length) ((A[i].1 + A[i].2.length : Nat) : Int) 0 false) (by simp)
  have e12 := put_at (ws := [vl (some sbb) (sgs.length + 1)]) (o := 2) gl11 (by simp [lgC]) rfl rfl
  have t12 : setR (lgC bd (vlo sb 0 sgs.length) ((A[i].1 + A[i].2.length : Nat) : Int) 0 false) 2 [vl (some sbb) (sgs.length + 1)] = lgC bd (vlo (some sbb) 0 (sgs.length + 1)) ((A[i].1 + A[i].2.length : Nat) : Int) 0 false := rfl
  rw [t12] at e12
  have ow11a : Ow h0.size h11 ([] ++ (lb,lgO bd (vlo sb 0 sgs.length) ((A[i].1 + A[i].2.length : Nat) : Int) 0 false) :: (fpt (some sbb) 74 (sgs.map Sg.cells ++ [s.cells]).flatten ++ (sgs.flatMap Sg.foot ++ (m2 ++ (sk,.cells s.cells 74 false false none) :: (fpt rb 45 (rs.map Rc.v) ++ rs.map Rc.cell))))) := by simpa using ow11
  obtain ⟨ow12,k12'⟩ := ow11a.setM (lgO bd (vlo (some sbb) 0 (sgs.length + 1)) ((A[i].1 + A[i].2.length : Nat) : Int) 0 false)
  have kt12 := Keeps.trans kt10 (Keeps.trans k11 k12')
  have hvs : vl (some sbb) (sgs.length + 1) = .slice (some (sbb,0)) (sgs.length + 1) (sgs.length + 1) true := rfl
  rw [hvs] at e11' e12
  unfold lgO at ow12 kt12
  simp only [GR,evK,binV,intOp,strOp,shOp,unV,Nat.reduceLT,Nat.reduceEqDiff,Nat.reduceAdd,↓reduceIte,Nat.reduceLeDiff,reduceCtorEq,r8_24b,e11',e12,r8_25,w39,hw1]
  refine cont _ _ (some sbb) s ?_ ?_ ?_ ?_ (fun h => by cases h) ?_ kt12 w0 w1 w6 w7 w37 w38 rfl
  ·rw [hs]; show (A[i].1,rs.map Rc.cs) = A[i]; rw [hrs]
  ·rw [hs]
  ·rw [hs]
  ·rw [hs]
   refine ⟨fun h => hr0 (by rw [← hrs,show rs = [] from h]; rfl),hrb0,fun c hc => ?_⟩
   have : c.cs ∈ A[i].2 := by rw [← hrs]; exact List.mem_map.2 ⟨c,hc,rfl⟩
   exact hrec _ this
  ·have o13 : Ow h0.size (h11.set lb (.cells (lgC bd (vlo (some sbb) 0 (sgs.length + 1)) ((A[i].1 + A[i].2.length : Nat) : Int) 0 false) 68 false false none)) (((lb,lgO bd (vlo (some sbb) 0 (sgs.length + 1)) ((A[i].1 + A[i].2.length : Nat) : Int) 0 false) :: (fpt (some sbb) 74 (sgs.map Sg.cells ++ [s.cells]).flatten ++ sgs.flatMap Sg.foot) ++ m2) ++ (sk,.cells s.cells 74 false false none) :: (fpt rb 45 (rs.map Rc.v) ++ rs.map Rc.cell)) := by simpa [lgO] using ow12
   have o14 := o13.dropM
   have o15 := o14.perm (m' := ((lb,lgO bd (vlo (some sbb) 0 (sgs.length + 1)) ((A[i].1 + A[i].2.length : Nat) : Int) 0 false) :: (fpt (some sbb) 74 (sgs.map Sg.cells ++ [s.cells]).flatten ++ sgs.flatMap Sg.foot)) ++ ((fpt rb 45 (rs.map Rc.v) ++ rs.map Rc.cell) ++ m2)) (by
    rw [List.append_assoc]
    exact List.Perm.append_left _ List.perm_append_comm)
   unfold lgX lgO
   rw [show (sgs ++ [s]).length = sgs.length + 1 by simp]
   rw [show (sgs ++ [s]).flatMap Sg.cells = (sgs.map Sg.cells ++ [s.cells]).flatten by rw [List.flatMap_def]; simp]
   rw [show (sgs ++ [s]).flatMap Sg.foot = sgs.flatMap Sg.foot ++ (fpt rb 45 (rs.map Rc.v) ++ rs.map Rc.cell) by rw [hs]; simp [Sg.foot]]
   simpa [lgO] using o15
 rw [X_draw]
 refine d8_17 ?_
 by_cases hj : i + 1 < A.length
 ·have hlt2 : (i : Int) < ((A.length - 1 : Nat) : Int) := by omega
  have hnj := hnx hj
  have gnb9 : h9.get b = some (.cells (A.map fun s => numV s.1) 2 true false none) := by
   refine hlbk _ _ (k8.of (kb7.of gnb)) fun e => ?_
   subst e
   rw [kb7.of gnb] at gl7
   simp at gl7
  have hAj : (A.map fun s => numV s.1)[i + 1]? = some (.int .i64 ((A[i].1 + A[i].2.length : Nat) : Int)) := by
   rw [List.getElem?_map,List.getElem?_eq_getElem hj,Option.map_some,hnj]; rfl
  have hneq : ((((A[i].1 + A[i].2.length : Nat) : Int)) != (((A[i].1 + A[i].2.length : Nat) : Int))) = false := by simp
  simp only [GR,evK,binV,intOp,strOp,shOp,unV,Nat.reduceLT,Nat.reduceEqDiff,Nat.reduceAdd,↓reduceIte,Nat.reduceLeDiff,reduceCtorEq,r8_17,q7,hwn,hlt2,g9,hs2,hnn,hc4,ht4]
  refine ⟨by rw [hsc]; rfl,?_⟩
  refine XCQ_of (hend30 h9) ?_
  rintro _ h9c ⟨rfl,k9c⟩
  refine ⟨k9c,?_⟩
  rw [hsend]
  have gnb9c := k9c.of gnb9
  simp only [GR,evK,binV,intOp,strOp,shOp,unV,Nat.reduceLT,Nat.reduceEqDiff,Nat.reduceAdd,↓reduceIte,Nat.reduceLeDiff,reduceCtorEq,q7,hw1,Int.natCast_nonneg,Int.ofNat_lt,hj,Int.toNat_natCast,Nat.mul_one,Nat.zero_add,gnb9,gnb9c,hAj,hneq]
  exact rest _ h9c k9c q0 q1 q6 q7 rfl rfl q37 q38 q39
 ·have hlt2 : ¬ (i : Int) < ((A.length - 1 : Nat) : Int) := by omega
  have hub : isB undefV false = false := rfl
  simp only [GR,evK,binV,intOp,strOp,shOp,unV,Nat.reduceLT,Nat.reduceEqDiff,Nat.reduceAdd,↓reduceIte,Nat.reduceLeDiff,reduceCtorEq,r8_17,q7,hwn,hlt2,hub]
  exact rest _ h9 (Keeps.refl _ _) q0 q1 q6 q7 rfl rfl q37 q38 q39
end Go.AM.Wc
