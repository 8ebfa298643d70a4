/- My own texts, laid for this claim. -/
import Derived.Test.YtpfoofcallfjjaaGreatDoorWcLastToWe1
set_option linter.unusedSimpArgs false
set_option linter.unusedVariables false
namespace Go.AM.Wc
open Go.AM
variable {P : Program} {E : Env} {T : H → Prop}
def diskX (R bm : Nat) : List V := [.map (some bm),.int .i64 0,.int .i64 0,.int .i64 R,.bool false]
def dkX (R bd bm k : Nat) (fs : List Fl) : List Cell := (bd,.cells (diskX R bm) 63 false false none) :: (bm,mok k (fs.map fun f => entU f.fu)) :: fs.flatMap Fl.foot
structure DkX (R : Nat) (fs : List Fl) : Prop where
 emp : ∀ f ∈ fs,f.b = none → f.cs = []
 room : totU (fs.map Fl.fu) ≤ R
 byt : ∀ f ∈ fs,Bs f.cs
 cap : R ≤ 4194304
theorem us_ofx {lo : Nat} {h : H} {R bd bm k : Nat} {fs : List Fl} {m1 m2 : List Cell} (a : Ow lo h (m1 ++ (dkX R bd bm k fs ++ m2))) (ok : DkX R fs) : USk h bm k (fs.map Fl.fu) where
 map := by
  have := a.at (i := bm) (o := mok k (fs.map fun f => entU f.fu)) (by simp [dkX])
  rw [List.map_map]; exact this
 at_ := by
  intro u hu
  obtain ⟨f,hf,rfl⟩ := List.mem_map.1 hu
  have hg := a.at (i := f.blk) (o := .cells [vl f.b f.cs.length,.int .i64 f.syn] 105 false false none) (by
   have := foot_mem hf
   simp only [dkX,List.mem_append,List.mem_cons]
   exact .inr (.inl (.inr (.inr this))))
  obtain ⟨p,c,o,e⟩ := vl_shape f.b f.cs.length (fun h => by rw [ok.emp f hf h]; rfl)
  rw [e] at hg
  exact ⟨p,c,o,_,_,_,_,_,hg⟩
 small := Nat.le_trans ok.room (Nat.le_trans ok.cap (by decide))
theorem none55x (F : Fw P E T) {h : H} {R bd bm : Nat} (gd : h.get bd = some (.cells (diskX R bm) 63 false false none)) : Sp P E (.func 55 [] []) [.ptr (some (bd,0))] h fun v h' => v = .bool false ∧ h' = h := by
 unfold diskX at gd
 refine Sp_fn F.f55 F.p55 (by simp [fn55]) ?_
 simp only [GR,evK,binV,intOp,strOp,shOp,unV,Nat.reduceLT,Nat.reduceEqDiff,Nat.reduceAdd,↓reduceIte,Nat.reduceLeDiff,reduceCtorEq,fn55,c55,r55_0,eq_pn,gd,eq_mn]
theorem wrong100x (F : Fw P E T) {h : H} {R bd bm b : Nat} {n : List UInt8} (gd : h.get bd = some (.cells (diskX R bm) 63 false false none)) (gb : h.get b = some (.cells [.str n] 9 false false none)) (h1 : 1 ≤ n.length) (h2 : n.length ≤ 64) : Sp P E (.func 100 [] []) [.ptr (some (bd,0)),.slice (some (b,0)) 1 1 false] h fun v h' => v = .int .i64 0 ∧ h' = h := by
 have c0 : (0 : Int) < ((1 : Nat) : Int) := by decide
 have c00 : (0 : Int) ≤ 0 := Int.le_refl _
 have t00 : Int.toNat 0 = 0 := rfl
 have c1 : ((n.length : Int) == 0) = false := by
  cases hq : ((n.length : Int) == 0) with
  | false => rfl
  | true => rw [beq_iff_eq] at hq; omega
 have c2 : ¬ (n.length : Int) > 64 := by omega
 have hw : IntKind.i64.wrap ((0 : Int) + 1) = 1 := by decide
 have c3 : ¬ (1 : Int) < ((1 : Nat) : Int) := by decide
 refine Sp_fn F.f100 F.p100 (by simp [fn100]) ?_
 simp only [GR,evK,binV,intOp,strOp,shOp,unV,Nat.reduceLT,Nat.reduceEqDiff,Nat.reduceAdd,↓reduceIte,Nat.reduceLeDiff,reduceCtorEq,fn100,c100,r100_0]
 refine XC_of (none55x F gd) ?_
 rintro _ hx ⟨rfl,e2⟩
 rw [e2]
 clear e2 hx
 have gd' := gd
 unfold diskX at gd'
 simp only [GR,evK,binV,intOp,strOp,shOp,unV,Nat.reduceLT,Nat.reduceEqDiff,Nat.reduceAdd,↓reduceIte,Nat.reduceLeDiff,reduceCtorEq,r100_1,gd',r100_2]
 rw [u100_6]
 simp only [GR,evK,binV,intOp,strOp,shOp,unV,Nat.reduceLT,Nat.reduceEqDiff,Nat.reduceAdd,↓reduceIte,Nat.reduceLeDiff,reduceCtorEq,c0,r100_3,c00,t00,Nat.zero_mul,gb,r100_4,c1,c2,r100_5,hw]
 rw [u100_6]
 simp only [GR,evK,binV,intOp,strOp,shOp,unV,Nat.reduceLT,Nat.reduceEqDiff,Nat.reduceAdd,↓reduceIte,Nat.reduceLeDiff,reduceCtorEq,c3]
theorem there63x (F : Fw P E T) {h : H} {R bd bm b i blk cl : Nat} {es : List (V × V × Nat)} {n : List UInt8} (gd : h.get bd = some (.cells (diskX R bm) 63 false false none)) (gm : h.get bm = some (.map es cl)) (hf : findK .str (.str n) es 0 = some (some (i,.ptr (some (blk,0))))) (gb : h.get b = some (.cells [.str n] 9 false false none)) (h1 : 1 ≤ n.length) (h2 : n.length ≤ 64) :
  Sp P E (.func 63 [] []) [.ptr (some (bd,0)),.slice (some (b,0)) 1 1 false] h fun v h' => v = .int .i64 0 ∧ h' = h := by
 have c0 : (0 : Int) < ((1 : Nat) : Int) := by decide
 have c00 : (0 : Int) ≤ 0 := Int.le_refl _
 have t00 : Int.toNat 0 = 0 := rfl
 have c4 : ((0 : Int) != 0) = false := rfl
 refine Sp_fn F.f63 F.p63 (by simp [fn63]) ?_
 simp only [GR,evK,binV,intOp,strOp,shOp,unV,Nat.reduceLT,Nat.reduceEqDiff,Nat.reduceAdd,↓reduceIte,Nat.reduceLeDiff,reduceCtorEq,fn63,c63,r63_0]
 refine XC_of (wrong100x F gd gb h1 h2) ?_
 rintro _ hx ⟨rfl,e2⟩
 rw [e2]
 clear e2 hx
 have gd' := gd
 unfold diskX at gd'
 simp only [GR,evK,binV,intOp,strOp,shOp,unV,Nat.reduceLT,Nat.reduceEqDiff,Nat.reduceAdd,↓reduceIte,Nat.reduceLeDiff,reduceCtorEq,r63_1,c4]
 rw [X_draw,d63_3]
 simp only [GR,evK,binV,intOp,strOp,shOp,unV,Nat.reduceLT,Nat.reduceEqDiff,Nat.reduceAdd,↓reduceIte,Nat.reduceLeDiff,reduceCtorEq,r63_3,gd',c0,c00,t00,Nat.zero_mul,gb,gm,hf,eq_pn]
theorem burns106x (F : Fw P E T) {h : H} {R bd bm : Nat} (gd : h.get bd = some (.cells (diskX R bm) 63 false false none)) : Sp P E (.func 106 [] []) [.ptr (some (bd,1))] h fun v h' => v = .bool false ∧ h' = h := by
 have c4 : ((0 : Int) == 0) = true := rfl
 unfold diskX at gd
 refine Sp_fn F.f106 F.p106 (by simp [fn106]) ?_
 simp only [GR,evK,binV,intOp,strOp,shOp,unV,Nat.reduceLT,Nat.reduceEqDiff,Nat.reduceAdd,↓reduceIte,Nat.reduceLeDiff,reduceCtorEq,fn106,c106,r106_0,gd,c4]
theorem changes67x (F : Fw P E T) {h : H} {R bd bm : Nat} (gd : h.get bd = some (.cells (diskX R bm) 63 false false none)) : Sp P E (.func 67 [] []) [.ptr (some (bd,0))] h fun v h' => v = .int .i64 0 ∧ h' = h := by
 have gd' := gd
 unfold diskX at gd'
 refine Sp_fn F.f67 F.p67 (by simp [fn67]) ?_
 simp only [GR,evK,binV,intOp,strOp,shOp,unV,Nat.reduceLT,Nat.reduceEqDiff,Nat.reduceAdd,↓reduceIte,Nat.reduceLeDiff,reduceCtorEq,fn67,c67,r67_0,gd',r67_1]
 refine XC_of (burns106x F gd) ?_
 rintro _ hx ⟨rfl,e2⟩
 rw [e2]
 clear e2 hx
 simp only [GR,evK,binV,intOp,strOp,shOp,unV,Nat.reduceLT,Nat.reduceEqDiff,Nat.reduceAdd,↓reduceIte,Nat.reduceLeDiff,reduceCtorEq]
theorem dk_midx (m1 : List Cell) (R bd bm k : Nat) (fs1 : List Fl) (f : Fl) (fs2 : List Fl) (m2 : List Cell) (d : Obj) (hd : d = mok k ((fs1 ++ f :: fs2).map fun f => entU f.fu)) :
  m1 ++ (dkX R bd bm k (fs1 ++ f :: fs2) ++ m2) = (m1 ++ (bd,.cells (diskX R bm) 63 false false none) :: (bm,d) :: fs1.flatMap Fl.foot) ++ (f.blk,.cells [vl f.b f.cs.length,.int .i64 f.syn] 105 false false none) :: (fpt f.b 5 f.cs ++ (fs2.flatMap Fl.foot ++ m2)) := by
 subst hd
 simp [dkX,List.flatMap_append,List.flatMap_cons,Fl.foot]
theorem ow_diskx {lo : Nat} {h : H} {R bd bm k : Nat} {fs : List Fl} {m1 m2 : List Cell} (a : Ow lo h (m1 ++ (dkX R bd bm k fs ++ m2))) : h.get bd = some (.cells (diskX R bm) 63 false false none) ∧ h.get bm = some (.map (mos (fs.map fun f => entU f.fu) k) (k + (fs.map fun f => entU f.fu).length)) :=
 ⟨a.at (by simp [dkX]),show h.get bm = some (mok k (fs.map fun f => entU f.fu)) from a.at (i := bm) (o := mok k (fs.map fun f => entU f.fu)) (by simp [dkX])⟩
set_option maxHeartbeats 1000000 in
theorem sync33x (F : Fw P E T) {lo : Nat} {h : H} {R bd bm k : Nat} {m1 m2 : List Cell} {fs1 : List Fl} {f : Fl} {fs2 : List Fl} {n : List UInt8} (ow : Ow lo h (m1 ++ (dkX R bd bm k (fs1 ++ f :: fs2) ++ m2))) (hlo : lo ≤ h.size) (hb : f.b = none → f.cs = []) (hf : f.name = n) (hn : ∀ g ∈ fs1,g.name ≠ n) (l1 : 1 ≤ n.length) (l2 : n.length ≤ 64) :
  Sp P E (.func 33 [] []) [.ptr (some (bd,0)),.str n] h fun r h' => r = .int .i64 0 ∧ Ow lo h' (m1 ++ (dkX R bd bm k (fs1 ++ { f with syn := f.cs.length } :: fs2) ++ m2)) ∧ Keeps lo h h' := by
 have k1 : Kp h (h.psh (.cells [.str n] 9 false false none)) := Keeps.psh (Nat.le_refl _) _
 have gb := psh_same h (.cells [.str n] 9 false false none)
 have ow1 := ow.kp k1
 obtain ⟨gd,gm⟩ := ow_diskx ow1
 have hfk := find_some (f := f) (fs2 := fs2) (k := k) (j := 0) hn hf
 have c4 : ((0 : Int) != 0) = false := rfl
 have hd0 : List.drop 1 [V.str []] = [] := rfl
 refine Sp_fn F.f33 F.p33 (by simp [fn33]) ?_
 simp only [GR,evK,binV,intOp,strOp,shOp,unV,Nat.reduceLT,Nat.reduceEqDiff,Nat.reduceAdd,↓reduceIte,Nat.reduceLeDiff,reduceCtorEq,fn33,c33,r33_0,hd0]
 refine XC_of (there63x F gd gm hfk gb l1 l2) ?_
 rintro _ hx ⟨rfl,e2⟩
 rw [e2]
 clear e2 hx
 simp only [GR,evK,binV,intOp,strOp,shOp,unV,Nat.reduceLT,Nat.reduceEqDiff,Nat.reduceAdd,↓reduceIte,Nat.reduceLeDiff,reduceCtorEq,r33_1,c4,r33_3]
 refine XC_of (changes67x F gd) ?_
 rintro _ hx ⟨rfl,e2⟩
 rw [e2]
 clear e2 hx
 rw [dk_midx m1 R bd bm k fs1 f fs2 m2 _ rfl] at ow1
 have gf := ow1.at (i := f.blk) (o := .cells [vl f.b f.cs.length,.int .i64 f.syn] 105 false false none) (by simp)
 obtain ⟨p,c,o,hv⟩ := vl_shape f.b f.cs.length (fun h => by rw [hb h]; rfl)
 obtain ⟨ow2,k2⟩ := ow1.setM (.cells [vl f.b f.cs.length,.int .i64 f.cs.length] 105 false false none)
 have e4 := put_at (ws := [.int .i64 f.cs.length]) (o := 1) gf (by simp) rfl rfl
 have hset : setR [vl f.b f.cs.length,.int .i64 f.syn] 1 [.int .i64 f.cs.length] = [vl f.b f.cs.length,.int .i64 f.cs.length] := rfl
 rw [hset] at e4
 have njm : ∀ m,(V.map m).nj = true := fun _ => rfl
 unfold diskX at gd
 rw [hv] at gf e4 ow2 k2
 simp only [GR,evK,binV,intOp,strOp,shOp,unV,Nat.reduceLT,Nat.reduceEqDiff,Nat.reduceAdd,↓reduceIte,Nat.reduceLeDiff,reduceCtorEq,r33_4,c4]
 rw [X_draw]
 refine d33_6 ?_
 simp only [GR,evK,binV,intOp,strOp,shOp,unV,Nat.reduceLT,Nat.reduceEqDiff,Nat.reduceAdd,↓reduceIte,Nat.reduceLeDiff,reduceCtorEq,r33_6,gd,gm,hfk,gf,e4]
 have ow3 := ow2
 rw [← hv] at ow3
 refine ⟨?_,Keeps.trans (k1.mono hlo) k2⟩
 rw [dk_midx m1 R bd bm k fs1 { f with syn := f.cs.length } fs2 m2 (mok k ((fs1 ++ f :: fs2).map fun f => entU f.fu)) (by simp [Fl.fu])]
 rw [← hv]
 exact ow3
theorem DkX.put {R : Nat} {fs1 : List Fl} {f : Fl} {fs2 : List Fl} {b' : Option Nat} {cs' : List V} {z : Int} (ok : DkX R (fs1 ++ f :: fs2)) (he : b' = none → cs' = []) (hb : Bs cs') (hr : totU ((fs1 ++ f :: fs2).map Fl.fu) + cs'.length ≤ R + f.cs.length) : DkX R (fs1 ++ { f with b := b',cs := cs',syn := z } :: fs2) where
 emp := by
  intro g hg
  rcases List.mem_append.1 hg with h | h
  ·exact ok.emp g (List.mem_append_left _ h)
  ·rcases List.mem_cons.1 h with rfl | h
   ·exact he
   ·exact ok.emp g (List.mem_append_right _ (List.mem_cons_of_mem _ h))
 room := by
  rw [totU_mid] at hr ⊢
  simp only
  omega
 byt := by
  intro g hg
  rcases List.mem_append.1 hg with h | h
  ·exact ok.byt g (List.mem_append_left _ h)
  ·rcases List.mem_cons.1 h with rfl | h
   ·exact hb
   ·exact ok.byt g (List.mem_append_right _ (List.mem_cons_of_mem _ h))
 cap := ok.cap
theorem DkX.add {R : Nat} {fs : List Fl} (ok : DkX R fs) (n : List UInt8) (b : Nat) : DkX R (fs ++ [⟨n,b,none,[],0⟩]) where
 emp := by
  intro g hg
  rcases List.mem_append.1 hg with h | h
  ·exact ok.emp g h
  ·rw [List.mem_singleton.1 h]; exact fun _ => rfl
 room := by
  rw [totU_mid]
  simpa using ok.room
 byt := by
  intro g hg
  rcases List.mem_append.1 hg with h | h
  ·exact ok.byt g h
  ·rw [List.mem_singleton.1 h]; intro x hx; simp at hx
 cap := ok.cap
theorem ow_filex {lo : Nat} {h : H} {R bd bm k : Nat} {fs : List Fl} {m1 m2 : List Cell} (a : Ow lo h (m1 ++ (dkX R bd bm k fs ++ m2))) (hlo : lo ≤ h.size) (n : List UInt8) :
  Ow lo ((h.psh (.cells [.slice none 0 0 false,.int .i64 0] 105 false false none)).set bm (.map (mos (fs.map fun f => entU f.fu) k ++ [(.str n,.ptr (some (h.size,0)),k + (fs.map fun f => entU f.fu).length)]) (k + (fs.map fun f => entU f.fu).length + 1))) (m1 ++ (dkX R bd bm k (fs ++ [⟨n,h.size,none,[],0⟩]) ++ m2)) ∧
  Keeps lo h ((h.psh (.cells [.slice none 0 0 false,.int .i64 0] 105 false false none)).set bm (.map (mos (fs.map fun f => entU f.fu) k ++ [(.str n,.ptr (some (h.size,0)),k + (fs.map fun f => entU f.fu).length)]) (k + (fs.map fun f => entU f.fu).length + 1))) := by
 have a1 : Ow lo h ((m1 ++ (bd,.cells (diskX R bm) 63 false false none) :: (bm,mok k (fs.map fun f => entU f.fu)) :: fs.flatMap Fl.foot) ++ m2) := by simpa [dkX] using a
 have a2 := a1.pushM hlo (.cells [.slice none 0 0 false,.int .i64 0] 105 false false none)
 have a3 : Ow lo (h.psh (.cells [.slice none 0 0 false,.int .i64 0] 105 false false none)) ((m1 ++ [(bd,.cells (diskX R bm) 63 false false none)]) ++ (bm,mok k (fs.map fun f => entU f.fu)) :: (fs.flatMap Fl.foot ++ (h.size,.cells [.slice none 0 0 false,.int .i64 0] 105 false false none) :: m2)) := by simpa using a2
 obtain ⟨a4,k4⟩ := a3.setM (.map (mos (fs.map fun f => entU f.fu) k ++ [(.str n,.ptr (some (h.size,0)),k + (fs.map fun f => entU f.fu).length)]) (k + (fs.map fun f => entU f.fu).length + 1))
 have k1 : Kp h (h.psh (.cells [.slice none 0 0 false,.int .i64 0] 105 false false none)) := Keeps.psh (Nat.le_refl _) _
 refine ⟨?_,Keeps.trans (k1.mono hlo) k4⟩
 have em : mok k ((fs ++ [(⟨n,h.size,none,[],0⟩ : Fl)]).map fun f => entU f.fu) = .map (mos (fs.map fun f => entU f.fu) k ++ [(.str n,.ptr (some (h.size,0)),k + (fs.map fun f => entU f.fu).length)]) (k + (fs.map fun f => entU f.fu).length + 1) := by
  unfold mok
  rw [List.map_append,List.map_cons,List.map_nil,mos_append,List.length_append]
  rfl
 unfold dkX
 rw [em]
 simpa [Fl.foot,fpt,vl] using a4
def AppD (R : Nat) (fs : List Fl) (n : List UInt8) (ds : List V) (e : Int) (fs' : List Fl) : Prop :=
 (e = 3 ∧ fs' = fs ∧ (∀ f ∈ fs,f.name ≠ n) ∧ 1024 ≤ fs.length) ∨
 (e = 6 ∧ fs' = fs ∧ ((∀ f ∈ fs,f.name ≠ n) → fs.length < 1024) ∧ R < totU (fs.map Fl.fu) + ds.length) ∨
 (e = 0 ∧ (∀ f ∈ fs,f.name ≠ n) ∧ fs.length < 1024 ∧ totU (fs.map Fl.fu) + ds.length ≤ R ∧ ∃ blk b',fs' = fs ++ [⟨n,blk,b',ds,0⟩]) ∨
 (e = 0 ∧ totU (fs.map Fl.fu) + ds.length ≤ R ∧ ∃ fs1 f fs2 b',fs = fs1 ++ f :: fs2 ∧ f.name = n ∧ (∀ g ∈ fs1,g.name ≠ n) ∧ fs' = fs1 ++ { f with b := b',cs := f.cs ++ ds } :: fs2)
set_option maxHeartbeats 2000000 in
theorem append65x (F : Fw P E T) (hu : E.prim 105 = some usedK) {lo : Nat} {h : H} {R bd bm k : Nat} {m1 m2 : List Cell} {fs : List Fl} {n : List UInt8} {v : V} {ds : List V} (ow : Ow lo h (m1 ++ (dkX R bd bm k fs ++ m2))) (hlo : lo ≤ h.size) (ok : DkX R fs) (hv : Rx h v ds) (hk : ds.length ≤ 4194304) (l1 : 1 ≤ n.length) (l2 : n.length ≤ 64) :
  Sp P E (.func 65 [] []) [.ptr (some (bd,0)),.str n,v] h fun r h' => ∃ e fs',r = .int .i64 e ∧ Ow lo h' (m1 ++ (dkX R bd bm k fs' ++ m2)) ∧ DkX R fs' ∧ AppD R fs n ds e fs' ∧ Keeps lo h h' := by
 have k1 : Kp h (h.psh (.cells [.str n] 9 false false none)) := Keeps.psh (Nat.le_refl _) _
 have gb := psh_same h (.cells [.str n] 9 false false none)
 have ow1 := ow.kp k1
 have hv1 := hv.kp k1
 have hl1 : lo ≤ (h.psh (.cells [.str n] 9 false false none)).size := Nat.le_trans hlo k1.size
 obtain ⟨gd,gm⟩ := ow_diskx ow1
 have us := us_ofx ow1 ok
 have c4 : ((0 : Int) != 0) = false := rfl
 have hd0 : List.drop 1 [V.str []] = [] := rfl
 have hcap := ok.cap
 obtain ⟨pv,cv,ov,hvv,he,hbs⟩ := hv1
 refine Sp_fn F.f65 F.p65 (by simp [fn65]) ?_
 simp only [GR,evK,binV,intOp,strOp,shOp,unV,Nat.reduceLT,Nat.reduceEqDiff,Nat.reduceAdd,↓reduceIte,Nat.reduceLeDiff,reduceCtorEq,fn65,c65,r65_0,hd0]
 refine XC_of (wrong100x F gd gb l1 l2) ?_
 rintro _ hx ⟨rfl,e2⟩
 rw [e2]
 clear e2 hx
 have gd0 := gd
 unfold diskX at gd
 generalize h.psh (.cells [.str n] 9 false false none) = h1 at *
 have hroom := ok.room
 have hw : IntKind.i64.wrap ((R : Int) - (totU (fs.map Fl.fu) : Int)) = (R : Int) - (totU (fs.map Fl.fu) : Int) := wrap_le (by omega) (by omega)
 have hlm : (fs.map fun f => entU f.fu).length = fs.length := List.length_map ..
 have fail : ∀ e : Int,AppD R fs n ds e fs → ∃ e' fs',V.int .i64 e = .int .i64 e' ∧ Ow lo h1 (m1 ++ (dkX R bd bm k fs' ++ m2)) ∧ DkX R fs' ∧ AppD R fs n ds e' fs' ∧ Keeps lo h h1 :=
  fun e he => ⟨e,fs,rfl,ow1,ok,he,k1.mono hlo⟩
 -- behind the looks: the bytes are put to a file's end
 have put : ∀ (ρ : Nat → V) (h2 : H) (fs1 : List Fl) (f : Fl) (fs2 : List Fl),ρ 0 = .ptr (some (bd,0)) → ρ 2 = v → ρ 8 = .ptr (some (f.blk,0)) → Ow lo h2 (m1 ++ (dkX R bd bm k (fs1 ++ f :: fs2) ++ m2)) → lo ≤ h2.size → (f.b = none → f.cs = []) → elemsV h2 1 ds.length v = some ds →
   (∀ b' cs',(b' = none → cs' = []) → cs' = f.cs ++ ds → DkX R (fs1 ++ { f with b := b',cs := cs' } :: fs2)) → f.cs.length ≤ R → (∀ b',AppD R fs n ds 0 (fs1 ++ { f with b := b',cs := f.cs ++ ds } :: fs2)) → Keeps lo h h2 →
   XO P E none 66 r65_9 [.c (.seq (.region r65_10) (.ret))] ρ h2 (Fin [.t 6] fun r h' => ∃ e fs',r = .int .i64 e ∧ Ow lo h' (m1 ++ (dkX R bd bm k fs' ++ m2)) ∧ DkX R fs' ∧ AppD R fs n ds e fs' ∧ Keeps lo h h') := by
  intro ρ h2 fs1 f fs2 q0 q2 q8 ow2 hl2 hfb he2 hok hfl hnm kk
  rw [dk_midx m1 R bd bm k fs1 f fs2 m2 _ rfl] at ow2
  have gf := ow2.at (i := f.blk) (o := .cells [vl f.b f.cs.length,.int .i64 f.syn] 105 false false none) (by simp)
  obtain ⟨b',h3,e1,ow3,hb3,k3,fr3⟩ := Ow.appc (bytes := 1) (x := v) (ds := ds) (m1 := (m1 ++ (bd,.cells (diskX R bm) 63 false false none) :: (bm,mok k ((fs1 ++ f :: fs2).map fun f => entU f.fu)) :: fs1.flatMap Fl.foot) ++ [(f.blk,.cells [vl f.b f.cs.length,.int .i64 f.syn] 105 false false none)]) (m2 := fs2.flatMap Fl.foot ++ m2) (by simpa using ow2) hfb hl2 (by rw [hvv]; rfl) he2 hbs.one (by omega)
  have gf3 := ow3.at (i := f.blk) (o := .cells [vl f.b f.cs.length,.int .i64 f.syn] 105 false false none) (by simp)
  obtain ⟨ow4,k4⟩ := Ow.setM (m1 := m1 ++ (bd,.cells (diskX R bm) 63 false false none) :: (bm,mok k ((fs1 ++ f :: fs2).map fun f => entU f.fu)) :: fs1.flatMap Fl.foot) (i := f.blk) (by simpa using ow3) (.cells [vl b' (f.cs ++ ds).length,.int .i64 f.syn] 105 false false none)
  have e4 := put_at (ws := [vl b' (f.cs ++ ds).length]) (o := 0) gf3 (by simp) (vl_one _ _) rfl
  have hset : setR [vl f.b f.cs.length,.int .i64 f.syn] 0 [vl b' (f.cs ++ ds).length] = [vl b' (f.cs ++ ds).length,.int .i64 f.syn] := rfl
  rw [hset] at e4
  obtain ⟨p,c,o,hvs⟩ := vl_shape f.b f.cs.length (fun h => by rw [hfb h]; rfl)
  obtain ⟨p',c',o',hvs'⟩ := vl_shape b' (f.cs ++ ds).length (fun h => by rw [hb3 h]; rfl)
  have own : Ow lo (h3.set f.blk (.cells [vl b' (f.cs ++ ds).length,.int .i64 f.syn] 105 false false none)) (m1 ++ (dkX R bd bm k (fs1 ++ { f with b := b',cs := f.cs ++ ds } :: fs2) ++ m2)) := by
   rw [dk_midx m1 R bd bm k fs1 { f with b := b',cs := f.cs ++ ds } fs2 m2 _ rfl]
   have hmm : mok k ((fs1 ++ ({ f with b := b',cs := f.cs ++ ds } : Fl) :: fs2).map fun f => entU f.fu) = mok k ((fs1 ++ f :: fs2).map fun f => entU f.fu) := by simp [Fl.fu,entU]
   rw [hmm]
   exact ow4
  have gd4 := (ow_diskx own).1
  rw [hvs] at gf e1
  rw [hvs'] at e1 e4 gd4
  simp only [GR,evK,binV,intOp,strOp,shOp,unV,Nat.reduceLT,Nat.reduceEqDiff,Nat.reduceAdd,↓reduceIte,Nat.reduceLeDiff,reduceCtorEq,r65_9,q8,gf,q2,e1,e4,r65_10,q0]
  rw [hvs'] at own k4
  refine XC_of (changes67x F gd4) ?_
  rintro _ hx ⟨rfl,e2⟩
  rw [e2]
  clear e2 hx
  simp only [GR,evK,binV,intOp,strOp,shOp,unV,Nat.reduceLT,Nat.reduceEqDiff,Nat.reduceAdd,↓reduceIte,Nat.reduceLeDiff,reduceCtorEq]
  exact ⟨0,_,rfl,own,hok b' _ hb3 rfl,hnm b',Keeps.trans kk (Keeps.trans k3 k4)⟩
 rcases split_name n fs with hno | ⟨fs1,f,fs2,rfl,hfn,hf1⟩
 ·have hfk := find_none (k := k) (j := 0) hno
  by_cases hmf : (((fs.map fun f => entU f.fu).length : Nat) : Int) ≥ 1024
  ·simp only [GR,evK,binV,intOp,strOp,shOp,unV,Nat.reduceLT,Nat.reduceEqDiff,Nat.reduceAdd,↓reduceIte,Nat.reduceLeDiff,reduceCtorEq,r65_1,c4,r65_3,gd,gm,hfk,r65_4,eq_nn,hmf,mos_length]
   exact fail 3 (.inl ⟨rfl,rfl,hno,by omega⟩)
  ·simp only [GR,evK,binV,intOp,strOp,shOp,unV,Nat.reduceLT,Nat.reduceEqDiff,Nat.reduceAdd,↓reduceIte,Nat.reduceLeDiff,reduceCtorEq,r65_1,c4,r65_3,gd,gm,hfk,r65_4,eq_nn,hmf,mos_length]
   rw [X_draw]
   refine d65_5 ?_
   rw [hvv] at put he ⊢
   simp only [GR,evK,binV,intOp,strOp,shOp,unV,Nat.reduceLT,Nat.reduceEqDiff,Nat.reduceAdd,↓reduceIte,Nat.reduceLeDiff,reduceCtorEq,r65_5,gd]
   refine XCQ_of (usedK_of hu us) ?_
   rintro _ hx ⟨rfl,e2⟩
   rw [e2]
   clear e2 hx
   refine ⟨Keeps.refl _ _,?_⟩
   by_cases hfull : (ds.length : Int) > (R : Int) - (totU (fs.map Fl.fu) : Int)
   ·simp only [GR,evK,binV,intOp,strOp,shOp,unV,Nat.reduceLT,Nat.reduceEqDiff,Nat.reduceAdd,↓reduceIte,Nat.reduceLeDiff,reduceCtorEq,hw,hfull]
    exact fail 6 (.inr (.inl ⟨rfl,rfl,fun _ => by omega,by omega⟩))
   ·have gd2 := psh_old gd (.cells [.slice none 0 0 false,.int .i64 0] 105 false false none)
    have gm2 := psh_old gm (.cells [.slice none 0 0 false,.int .i64 0] 105 false false none)
    obtain ⟨ow2,k2⟩ := ow_filex ow1 hl1 n
    have ke : Kp h1 (h1.psh (.cells [.slice none 0 0 false,.int .i64 0] 105 false false none)) := Keeps.psh (Nat.le_refl _) _
    simp only [GR,evK,binV,intOp,strOp,shOp,unV,Nat.reduceLT,Nat.reduceEqDiff,Nat.reduceAdd,↓reduceIte,Nat.reduceLeDiff,reduceCtorEq,hw,hfull,r65_6,eq_nn,r65_7,r65_8,gd2,gm2,hfk]
    refine put _ _ fs ⟨n,h1.size,none,[],0⟩ [] rfl rfl rfl ow2 (Nat.le_trans hl1 k2.size) (fun _ => rfl) (elems_set gm2 _ (elemsV_keep ke he)) ?_ (Nat.zero_le _) ?_ (Keeps.trans (k1.mono hlo) k2)
    ·intro b' cs' hb hc
     refine (ok.add n h1.size).put hb (by rw [hc]; simpa using hbs) ?_
     rw [totU_mid,hc]
     simp only [List.append_nil,List.nil_append,List.length_nil]
     omega
    ·exact fun b' => .inr (.inr (.inl ⟨rfl,hno,by omega,by omega,h1.size,b',by simp⟩))
 ·have hfk := find_some (f := f) (fs2 := fs2) (k := k) (j := 0) hf1 hfn
  simp only [GR,evK,binV,intOp,strOp,shOp,unV,Nat.reduceLT,Nat.reduceEqDiff,Nat.reduceAdd,↓reduceIte,Nat.reduceLeDiff,reduceCtorEq,r65_1,c4,r65_3,gd,gm,hfk,r65_4,eq_pn]
  rw [X_draw]
  refine d65_5 ?_
  rw [hvv] at put he ⊢
  simp only [GR,evK,binV,intOp,strOp,shOp,unV,Nat.reduceLT,Nat.reduceEqDiff,Nat.reduceAdd,↓reduceIte,Nat.reduceLeDiff,reduceCtorEq,r65_5,gd]
  refine XCQ_of (usedK_of hu us) ?_
  rintro _ hx ⟨rfl,e2⟩
  rw [e2]
  clear e2 hx
  refine ⟨Keeps.refl _ _,?_⟩
  by_cases hfull : (ds.length : Int) > (R : Int) - (totU ((fs1 ++ f :: fs2).map Fl.fu) : Int)
  ·simp only [GR,evK,binV,intOp,strOp,shOp,unV,Nat.reduceLT,Nat.reduceEqDiff,Nat.reduceAdd,↓reduceIte,Nat.reduceLeDiff,reduceCtorEq,hw,hfull]
   exact fail 6 (.inr (.inl ⟨rfl,rfl,fun h => (h f (by simp) hfn).elim,by omega⟩))
  ·simp only [GR,evK,binV,intOp,strOp,shOp,unV,Nat.reduceLT,Nat.reduceEqDiff,Nat.reduceAdd,↓reduceIte,Nat.reduceLeDiff,reduceCtorEq,hw,hfull,r65_6,eq_pn]
   refine put _ _ fs1 f fs2 rfl rfl rfl ow1 hl1 (ok.emp f (by simp)) he ?_ ?_ (fun b' => .inr (.inr (.inr ⟨rfl,by omega,fs1,f,fs2,b',rfl,hfn,hf1,rfl⟩))) (k1.mono hlo)
   ·intro b' cs' hb hc
    refine ok.put hb (by rw [hc]; exact (ok.byt f (by simp)).app hbs) ?_
    rw [hc,List.length_append]
    omega
   ·have := ok.room
    rw [totU_mid] at this
    omega
end Go.AM.Wc
namespace Go.AM.Wc
open Go.AM
variable {P : Program} {E : Env} {T : H → Prop}
def vlo (b : Option Nat) (o n : Nat) : V := match b with
 | none => .slice none 0 0 false
 | some b => .slice (some (b,o)) n n true
theorem vlo_zero (b : Option Nat) (n : Nat) : vlo b 0 n = vl b n := rfl
theorem vlo_shape (b : Option Nat) (o n : Nat) (hb : b = none → n = 0) : ∃ p c q,vlo b o n = .slice p n c q := by
 cases b with
 | none => rw [hb rfl]; exact ⟨_,_,_,rfl⟩
 | some b => exact ⟨_,_,_,rfl⟩
variable {lo : Nat} {h h' : H} {m m' m1 m2 : List Cell}
theorem Ow.appO {ty sz bytes : Nat} {b : Option Nat} {gc : List V} {xs ys : List (List V)} {x : V} (a : Ow lo h (m1 ++ (fpt b ty (gc ++ xs.flatten) ++ m2))) (hb : b = none → xs = [] ∧ gc = []) (hlo : lo ≤ h.size) (hx : ∀ z ∈ xs,z.length = sz)
  (hl : lenV x = some ys.length) (he : elemsV h sz ys.length x = some ys.flatten) (hy0 : ys ≠ []) (hy1 : ys.flatten.all V.one = true) (hbd : xs.length + ys.length ≤ 1099511627776 ∧ (2 * (xs.length + ys.length) + 1024) * bytes ≤ 281474976710656) :
  ∃ b' h',appV h ty sz bytes (vlo b gc.length xs.length) x = some (.eff (vl (some b') (xs ++ ys).length) h') ∧ Ow lo h' (m1 ++ (fpt (some b') ty (xs ++ ys).flatten ++ m2)) ∧ Keeps lo h h' ∧ (∀ i o,h.get i = some o → b ≠ some i → h'.get i = some o) := by
 cases b with
 | none =>
  obtain ⟨rfl,rfl⟩ := hb rfl
  obtain ⟨b',h',e1,e2,e3,e4,e5⟩ := Ow.appM (b := none) (xs := []) (by simpa using a) (fun _ => rfl) hlo hx hl he hy1 hbd
  cases b' with
  | none => exact (hy0 (by simpa using e3 rfl)).elim
  | some b' => exact ⟨b',h',e1,e2,e4,e5⟩
 | some b =>
  have a' := a.perm (perm_mid _ _ _)
  have hg : h.get b = some (.cells (gc ++ xs.flatten) ty true false none) := a'.at (by simp [fpt])
  have hlt := H.get_lt hg
  have hn : 1 ≤ ys.length := List.length_pos_iff.2 hy0
  have hfl := flatten_ln hx
  have hs := Ow.set (i := b) (o := .cells (gc ++ xs.flatten) ty true false none) (m := m1 ++ m2) (by simpa [fpt] using a') .dead
  have hp := Ow.push hs.1 (by rw [H.set_size]; exact hlo) (.cells (xs.flatten ++ ys.flatten) ty true false none)
  rw [H.set_size] at hp
  refine ⟨h.size,(h.set b .dead).psh (.cells (xs.flatten ++ ys.flatten) ty true false none),?_,?_,hs.2.trans (Keeps.psh (by rw [H.set_size]; exact hlo) _),fun i o hg2 hne => ?_⟩
  ·have h1 : ¬ xs.length + ys.length ≤ xs.length := by omega
   have h4 : gc.length + xs.length * sz = (gc ++ xs.flatten).length := by rw [List.length_append,hfl]
   have h5 : getR (gc ++ xs.flatten) gc.length (xs.length * sz) = xs.flatten := by
    unfold getR
    rw [List.drop_left,List.take_of_length_le (by rw [hfl]; omega)]
   unfold appV vlo
   simp only [hl,he,h1,if_false,hbd,and_self,if_true,hg,Nat.le_refl,h4,hy1,fzFree]
   simp only [push_eq,Option.map_none]
   rw [h5]
   simp [vl]
  ·have hp2 := hp.sub (m' := (h.size,.cells (xs.flatten ++ ys.flatten) ty true false none) :: (m1 ++ m2)) (List.Sublist.cons_cons _ (List.sublist_cons_self _ _))
   refine Ow.perm ?_ (perm_mid _ _ _).symm
   simpa [fpt] using hp2
  ·have hne2 : b ≠ i := fun e => hne (by rw [e])
   refine psh_old ?_ _
   rw [hset_other hlt hne2]; exact hg2
def Sg.byt (s : Sg) : List V := s.rs.flatMap fun r => frameF r.cs
def Sg.sh (s : Sg) : Nat × List (List V) := (s.fst,s.rs.map Rc.cs)
abbrev SegA := Nat × List (List V)
def bytA (s : SegA) : List V := s.2.flatMap frameF
def useA (A : List SegA) : Nat := (A.map fun s => (bytA s).length).sum
theorem byt_sh (s : Sg) : bytA s.sh = s.byt := by simp [bytA,Sg.sh,Sg.byt,List.flatMap_map]
def newP (R nx : Nat) (A : List SegA) (c : List V) : Int × List SegA :=
 if 1024 ≤ A.length then (3,A) else if R < useA A + (frameF c).length then (6,A) else (0,A ++ [(nx,[c])])
def oneP (R nx : Nat) (A : List SegA) (c : List V) : Int × List SegA :=
 match A.getLast? with
 | some s => if (bytA s).length < 1024 then (if R < useA A + (frameF c).length then (6,A) else (0,A.dropLast ++ [(s.1,s.2 ++ [c])])) else newP R nx A c
 | none => newP R nx A c
theorem oneP_new {R nx : Nat} {A : List SegA} {c : List V} (h : ∀ s,A.getLast? = some s → 1024 ≤ (bytA s).length) : oneP R nx A c = newP R nx A c := by
 unfold oneP
 split
 ·rename_i s e
  rw [if_neg (by have := h s e; omega)]
 ·rfl
theorem oneP_old {R nx : Nat} {A : List SegA} {s : SegA} {c : List V} (h : (bytA s).length < 1024) : oneP R nx (A ++ [s]) c = (if R < useA (A ++ [s]) + (frameF c).length then (6,A ++ [s]) else (0,A ++ [(s.1,s.2 ++ [c])])) := by
 unfold oneP
 simp [h]
def lgX (lb bd : Nat) (sb : Option Nat) (gc : List V) (sgs : List Sg) (nx : Nat) (sy : Int) (br : Bool) : List Cell :=
 (lb,lgO bd (vlo sb gc.length sgs.length) nx sy br) :: (fpt sb 74 (gc ++ sgs.flatMap Sg.cells) ++ sgs.flatMap Sg.foot)
structure LOX (R : Nat) (fs : List Fl) (sb : Option Nat) (gc : List V) (sgs : List Sg) (a nx : Nat) : Prop where
 ch : chain sgs a nx
 lim : nx ≤ 1000000000000
 sbn : sb = none → sgs = [] ∧ gc = []
 dk : DkX R fs
 fil : fs.map (fun f => (f.name,f.cs)) = sgs.map fun s => (segN s.fst,s.byt)
 siz : ∀ s ∈ sgs,s.size = (s.byt.length : Int)
 syn : ∀ f ∈ fs,0 ≤ f.syn ∧ f.syn ≤ (f.cs.length : Int)
theorem fil_len {fs : List Fl} {sgs : List Sg} (h : fs.map (fun f => (f.name,f.cs)) = sgs.map fun s => (segN s.fst,s.byt)) : fs.length = sgs.length := by
 have := congrArg List.length h
 simpa using this
theorem fil_use {fs : List Fl} {sgs : List Sg} (h : fs.map (fun f => (f.name,f.cs)) = sgs.map fun s => (segN s.fst,s.byt)) : totU (fs.map Fl.fu) = useA (sgs.map Sg.sh) := by
 have := congrArg (fun l => (l.map fun p : List UInt8 × List V => p.2.length).sum) h
 simp only [List.map_map] at this
 unfold totU useA
 rw [List.map_map,List.map_map]
 have e : ((fun s => (bytA s).length) ∘ Sg.sh : Sg → Nat) = ((fun p : List UInt8 × List V => p.2.length) ∘ fun s : Sg => (segN s.fst,s.byt)) := by
  funext s; simp [byt_sh]
 rw [e,← this]
 rfl
theorem fil_app {fs : List Fl} {s1 s2 : List Sg} (h : fs.map (fun f => (f.name,f.cs)) = (s1 ++ s2).map fun s => (segN s.fst,s.byt)) : ∃ f1 f2,fs = f1 ++ f2 ∧ f1.map (fun f => (f.name,f.cs)) = s1.map (fun s => (segN s.fst,s.byt)) ∧ f2.map (fun f => (f.name,f.cs)) = s2.map fun s => (segN s.fst,s.byt) := by
 rw [List.map_append,List.map_eq_append_iff] at h
 exact h
theorem fil_one {fs : List Fl} {s : Sg} (h : fs.map (fun f => (f.name,f.cs)) = [s].map fun s => (segN s.fst,s.byt)) : ∃ f,fs = [f] ∧ f.name = segN s.fst ∧ f.cs = s.byt := by
 rw [List.map_cons,List.map_nil,List.map_eq_cons_iff] at h
 obtain ⟨f,l,rfl,h1,h2⟩ := h
 rw [List.map_eq_nil_iff] at h2
 subst h2
 simp only [Prod.mk.injEq] at h1
 exact ⟨f,rfl,h1.1,h1.2⟩
theorem fil_mem {fs : List Fl} {sgs : List Sg} (h : fs.map (fun f => (f.name,f.cs)) = sgs.map fun s => (segN s.fst,s.byt)) {f : Fl} (hf : f ∈ fs) : ∃ s ∈ sgs,f.name = segN s.fst ∧ f.cs = s.byt := by
 have : (f.name,f.cs) ∈ fs.map fun f => (f.name,f.cs) := List.mem_map.2 ⟨f,hf,rfl⟩
 rw [h] at this
 obtain ⟨s,hs,e⟩ := List.mem_map.1 this
 simp only [Prod.mk.injEq] at e
 exact ⟨s,hs,e.1.symm,e.2.symm⟩
theorem chain_end {s : Sg} {sgs : List Sg} {a z : Nat} (hc : chain sgs a z) (hs : s ∈ sgs) : s.fst + 1 ≤ z := by
 obtain ⟨h1,h2,h3⟩ := chain_mem hc s hs
 have : 1 ≤ s.rs.length := List.length_pos_iff.2 h1.ne
 omega
theorem chain_app : ∀ {s1 s2 : List Sg} {a z : Nat},chain (s1 ++ s2) a z ↔ ∃ b,chain s1 a b ∧ chain s2 b z
 | [],s2,a,z => by simp [chain]
 | s :: s1,s2,a,z => by
  simp only [List.cons_append,chain,chain_app]
  constructor
  ·rintro ⟨h1,h2,b,h3,h4⟩; exact ⟨b,⟨h1,h2,h3⟩,h4⟩
  ·rintro ⟨b,⟨h1,h2,h3⟩,h4⟩; exact ⟨h1,h2,b,h3,h4⟩
theorem fil_ne {fs : List Fl} {sgs : List Sg} {a z n : Nat} (h : fs.map (fun f => (f.name,f.cs)) = sgs.map fun s => (segN s.fst,s.byt)) (hc : chain sgs a z) (hz : z ≤ n) (hn : n ≤ 999999999999) : ∀ f ∈ fs,f.name ≠ segN n := by
 intro f hf e
 obtain ⟨s,hs,h1,h2⟩ := fil_mem h hf
 have := chain_end hc hs
 have := segN_inj (n := s.fst) (m := n) (by omega) hn (h1.symm.trans e)
 omega
def Rlx (h : H) (v : V) (xs : List (V × List V)) : Prop := ∃ a c o,v = .slice a xs.length c o ∧ elemsV h 1 xs.length v = some (xs.map (·.1)) ∧ ∀ p ∈ xs,Rx h p.1 p.2
theorem Rlx.kp {h h' : H} {v : V} {xs : List (V × List V)} (a : Rlx h v xs) (k : Kp h h') : Rlx h' v xs := by
 obtain ⟨p,c,o,h1,h2,h3⟩ := a
 exact ⟨p,c,o,h1,elems_kp k h2,fun x hx => (h3 x hx).kp k⟩
theorem Rlx.rl {h : H} {v : V} {xs : List (V × List V)} (a : Rlx h v xs) : Rl h v (xs.map fun p => (p.1,p.2.length)) := by
 obtain ⟨p,c,o,h1,h2,h3⟩ := a
 refine ⟨p,c,o,by simpa using h1,by simpa [List.map_map,Function.comp_def] using h2,fun q hq => ?_⟩
 obtain ⟨x,hx,rfl⟩ := List.mem_map.1 hq
 exact (h3 x hx).rb
theorem Rlx.at {h : H} {v : V} {xs : List (V × List V)} {k : Nat} (a : Rlx h v xs) (hk : k < xs.length) : ∃ b o c q cs ty op ro fz,v = .slice (some (b,o)) xs.length c q ∧ h.get b = some (.cells cs ty op ro fz) ∧ cs[o + k]? = some xs[k].1 := by
 have hl : (xs.map fun p : V × List V => (p.1,p.2.length)).length = xs.length := List.length_map ..
 obtain ⟨b,o,c,q,cs,ty,op,ro,fz,h1,h2,h3⟩ := a.rl.at (k := k) (by rw [hl]; exact hk)
 rw [hl] at h1
 exact ⟨b,o,c,q,cs,ty,op,ro,fz,h1,h2,by simpa using h3⟩
def badR (c : List V) : Bool := decide (c.length = 0 ∨ 65536 < c.length)
theorem any_take {α : Type} {p : α → Bool} {xs : List α} {k : Nat} (hk : k < xs.length) (h : (xs.take k).any p = false) (hp : p xs[k] = false) : (xs.take (k + 1)).any p = false := by
 rw [List.take_succ_eq_append_getElem hk,List.any_append,h]
 simp [hp]
theorem index68x (F : Fw P E T) {h : H} {v : V} {xs : List (V × List V)} (hv : Rlx h v xs) (hl : xs.length ≤ 1099511627776) : Sp P E (.func 68 [] []) [v,.func 36 [] []] h fun r h' => (∃ i : Int,r = .int .i64 i ∧ decide (i ≥ 0) = xs.any fun p => badR p.2) ∧ h' = h := by
 have loop : ∀ (d k : Nat) (ρ : Nat → V),xs.length - k = d → k ≤ xs.length → ((xs.take k).any fun p => badR p.2) = false → ρ 0 = v → ρ 1 = .func 36 [] [] → ρ 7 = .int .i64 xs.length → ρ 8 = .int .i64 k →
   XL P E none 19 b68_5 [.b 0,.c (.seq (.region [⟨some 4,.mv (.k (.int .i64 (-1))),none,0,[4]⟩]) (.ret))] ρ h (Fin [.t 4] fun r h' => (∃ i : Int,r = .int .i64 i ∧ decide (i ≥ 0) = xs.any fun p => badR p.2) ∧ h' = h) := by
  intro d
  induction d with
  | zero =>
   intro k ρ hd hk ha q0 q1 q7 q8
   have hke : ¬ k < xs.length := by omega
   rw [List.take_of_length_le (by omega)] at ha
   rw [u68_5]
   simp only [GR,evK,binV,intOp,strOp,shOp,unV,Nat.reduceLT,Nat.reduceEqDiff,Nat.reduceAdd,↓reduceIte,Nat.reduceLeDiff,reduceCtorEq,q7,q8,Int.ofNat_lt,hke]
   exact ⟨-1,rfl,by rw [ha]; decide⟩
  | succ d ih =>
   intro k ρ hd hk ha q0 q1 q7 q8
   have hke : k < xs.length := by omega
   obtain ⟨b1,o1,c1,p1,cs,ty,op,ro,fz,hv1,hg1,hx⟩ := hv.at hke
   have hrb : Rx h xs[k].1 xs[k].2 := by obtain ⟨_,_,_,_,_,h3⟩ := hv; exact h3 _ (List.getElem_mem hke)
   obtain ⟨rp,rc,ro',hrv⟩ := hrb.rb.len
   have q0' := q0.trans hv1
   have hw : IntKind.i64.wrap ((k : Int) + 1) = ((k + 1 : Nat) : Int) := wrap_nat (n := k + 1) (by omega)
   rw [u68_5]
   rw [hrv] at hx
   simp only [GR,evK,binV,intOp,strOp,shOp,unV,Nat.reduceLT,Nat.reduceEqDiff,Nat.reduceAdd,↓reduceIte,Nat.reduceLeDiff,reduceCtorEq,q7,q8,Int.ofNat_lt,hke,r68_1,r68_2,q0',q1,Int.natCast_nonneg,Int.toNat_natCast,Nat.mul_one,hg1,hx]
   refine XC_of (bad36 F) ?_
   rintro _ hx ⟨rfl,e2⟩
   rw [e2]
   clear e2 hx
   by_cases hbad : xs[k].2.length = 0 ∨ 65536 < xs[k].2.length
   ·have e1 : decide (xs[k].2.length = 0 ∨ 65536 < xs[k].2.length) = true := by simpa using hbad
    simp only [GR,evK,binV,intOp,strOp,shOp,unV,Nat.reduceLT,Nat.reduceEqDiff,Nat.reduceAdd,↓reduceIte,Nat.reduceLeDiff,reduceCtorEq,e1,r68_3]
    refine ⟨k,rfl,?_⟩
    rw [List.any_eq_true.2 ⟨xs[k],List.getElem_mem hke,e1⟩]
    simp
   ·have e1 : decide (xs[k].2.length = 0 ∨ 65536 < xs[k].2.length) = false := by simpa using hbad
    simp only [GR,evK,binV,intOp,strOp,shOp,unV,Nat.reduceLT,Nat.reduceEqDiff,Nat.reduceAdd,↓reduceIte,Nat.reduceLeDiff,reduceCtorEq,e1,r68_4,q8,hw]
    refine ih (k + 1) _ (by omega) (by omega) (any_take hke ha e1) ?_ ?_ ?_ ?_
    ·exact q0
    ·exact q1
    ·exact q7
    ·rfl
 obtain ⟨p,c,o,hvv,_⟩ := hv
 refine Sp_fn F.f68 F.p68 (by simp [fn68]) ?_
 rw [hvv] at loop ⊢
 simp only [GR,evK,binV,intOp,strOp,shOp,unV,Nat.reduceLT,Nat.reduceEqDiff,Nat.reduceAdd,↓reduceIte,Nat.reduceLeDiff,reduceCtorEq,fn68,c68,r68_0]
 exact loop xs.length 0 _ rfl (Nat.zero_le _) (by simp) rfl rfl rfl rfl
theorem contains35x (F : Fw P E T) {h : H} {v : V} {xs : List (V × List V)} (hv : Rlx h v xs) (hl : xs.length ≤ 1099511627776) : Sp P E (.func 35 [] []) [v,.func 36 [] []] h fun r h' => r = .bool (xs.any fun p => badR p.2) ∧ h' = h := by
 refine Sp_fn F.f35 F.p35 (by simp [fn35]) ?_
 have hv0 := hv
 obtain ⟨p,c,o,hvv,_⟩ := hv0
 rw [hvv] at hv ⊢
 simp only [GR,evK,binV,intOp,strOp,shOp,unV,Nat.reduceLT,Nat.reduceEqDiff,Nat.reduceAdd,↓reduceIte,Nat.reduceLeDiff,reduceCtorEq,fn35,c35,r35_0]
 refine XC_of (index68x F hv hl) ?_
 rintro _ hx ⟨⟨i,rfl,hi⟩,e2⟩
 rw [e2]
 clear e2 hx
 by_cases h0 : i ≥ 0
 ·simp only [GR,evK,binV,intOp,strOp,shOp,unV,Nat.reduceLT,Nat.reduceEqDiff,Nat.reduceAdd,↓reduceIte,Nat.reduceLeDiff,reduceCtorEq,h0]
  rw [← hi]; simp [h0]
 ·simp only [GR,evK,binV,intOp,strOp,shOp,unV,Nat.reduceLT,Nat.reduceEqDiff,Nat.reduceAdd,↓reduceIte,Nat.reduceLeDiff,reduceCtorEq,h0]
  rw [← hi]; simp [h0]
theorem clone42x (F : Fw P E T) {h : H} {v : V} {cs : List V} (hv : Rx h v cs) (hn : 1 ≤ cs.length) (hm : cs.length ≤ 4194304) : Sp P E (.func 42 [] []) [v] h fun r h' => Nx h h' r cs := by
 have hv0 := hv
 obtain ⟨p,c,q,rfl,he,hb⟩ := hv
 have hp : ∃ a,p = some a := by
  cases p with
  | none => simp only [elemsV] at he; rw [if_neg (by omega)] at he; cases he
  | some a => exact ⟨a,rfl⟩
 obtain ⟨a,rfl⟩ := hp
 have k1 : Kp h (h.psh (.cells [] 5 false false none)) := Keeps.psh (Nat.le_refl _) _
 have he1 := elems_kp k1 he
 have s1 := psh_size h (.cells [] 5 false false none)
 have hap : appV (h.psh (.cells [] 5 false false none)) 5 1 1 (.slice (some (h.size,0)) 0 0 false) (.slice (some a) cs.length c q) = some (.eff (.slice (some (h.size + 1,0)) cs.length cs.length true) ((h.psh (.cells [] 5 false false none)).psh (.cells cs 5 true false none))) := by
  unfold appV
  have c1 : ¬ cs.length ≤ 0 := by omega
  have c2 : cs.length ≤ 1099511627776 ∧ (2 * cs.length + 1024) * 1 ≤ 281474976710656 := by omega
  have c3 : elemsV (h.psh (.cells [] 5 false false none)) 1 0 (.slice (some (h.size,0)) 0 0 false) = some [] := by simp [elemsV]
  simp only [lenV,he1,Nat.zero_add,c1,if_false,c2,and_self,if_true,c3,push_eq,s1,List.nil_append]
 have c4 : eqV h .sl (.slice (some a) cs.length c q) (.slice none 0 0 false) = some false := by simp [eqV]
 have g2 := psh_same (h.psh (.cells [] 5 false false none)) (.cells cs 5 true false none)
 rw [s1] at g2
 have k2 : Kp (h.psh (.cells [] 5 false false none)) ((h.psh (.cells [] 5 false false none)).psh (.cells cs 5 true false none)) := Keeps.psh (Nat.le_refl _) _
 refine Sp_fn F.f42 F.p42 (by simp [fn42]) ?_
 simp only [GR,evK,binV,intOp,strOp,shOp,unV,Nat.reduceLT,Nat.reduceEqDiff,Nat.reduceAdd,↓reduceIte,Nat.reduceLeDiff,reduceCtorEq,fn42,c42,r42_0,c4,r42_1,hap]
 exact ⟨h.size + 1,rfl,hb,by omega,g2,Kp.trans k1 k2⟩
end Go.AM.Wc
namespace Go.AM.Wc
open Go.AM
variable {P : Program} {E : Env} {T : H → Prop}
def OneX (R lo lb bd bm k a nx : Nat) (sy : Int) (br : Bool) (m2 : List Cell) (A : List SegA) (c : List V) (h0 : H) (r : V) (h' : H) : Prop :=
 ∃ e fs' sb' gc' sgs' nx',r = .int .i64 e ∧ Ow lo h' (dkX R bd bm k fs' ++ (lgX lb bd sb' gc' sgs' nx' sy br ++ m2)) ∧ LOX R fs' sb' gc' sgs' a nx' ∧ (e,sgs'.map Sg.sh) = oneP R nx A c ∧ nx' = (if e = 0 then nx + 1 else nx) ∧ Keeps lo h0 h'
theorem seg_getO (gc : List V) (pre : List Sg) (c : List V) (j : Nat) : (gc ++ (pre.flatMap Sg.cells ++ c))[gc.length + pre.length * 4 + j]? = c[j]? := by
 rw [List.getElem?_append_right (by omega),show gc.length + pre.length * 4 + j - gc.length = pre.length * 4 + j by omega,seg_get]
theorem setR_append (gc xs ws : List V) (j : Nat) : setR (gc ++ xs) (gc.length + j) ws = gc ++ setR xs j ws := by
 unfold setR
 rw [List.take_append,List.drop_append]
 rw [List.take_of_length_le (by omega),List.drop_of_length_le (by omega)]
 simp only [List.nil_append,List.append_assoc]
 rw [show gc.length + j - gc.length = j by omega,show gc.length + j + ws.length - gc.length = j + ws.length by omega]
theorem seg_setO (gc : List V) (pre : List Sg) (c : List V) (j : Nat) (ws : List V) : setR (gc ++ (pre.flatMap Sg.cells ++ c)) (gc.length + pre.length * 4 + j) ws = gc ++ (pre.flatMap Sg.cells ++ setR c j ws) := by
 rw [show gc.length + pre.length * 4 + j = gc.length + (pre.length * 4 + j) by omega,setR_append,seg_set]
set_option maxHeartbeats 2000000 in
theorem tail38x (F : Fw P E T) {lo : Nat} {h0 h : H} {R lb bd bm sbb k a nx : Nat} {sy : Int} {br : Bool} {fs : List Fl} {gc : List V} {pre : List Sg} {s : Sg} {m2 : List Cell} {A : List SegA} {v : V} {cs : List V} {fp : Option (Nat × Nat)} {fc : Nat} {fo : Bool} {ρ : Nat → V}
  (ow : Ow lo h (dkX R bd bm k fs ++ (lgX lb bd (some sbb) gc (pre ++ [s]) nx sy br ++ m2))) (hlo : lo ≤ h.size) (kk : Keeps lo h0 h)
  (hc : chain pre a s.fst) (hnx : s.fst + s.rs.length = nx) (hl : nx + 1 ≤ 1000000000000) (hnn : s.rb = none → s.rs = []) (hrc : ∀ c ∈ s.rs,Bs c.cs ∧ 1 ≤ c.cs.length ∧ c.cs.length ≤ 65536) (dk : DkX R fs)
  (fil : fs.map (fun f => (f.name,f.cs)) = pre.map (fun s => (segN s.fst,s.byt)) ++ [(segN s.fst,s.byt ++ frameF cs)]) (siz : ∀ x ∈ pre ++ [s],x.size = (x.byt.length : Int)) (syn : ∀ f ∈ fs,0 ≤ f.syn ∧ f.syn ≤ (f.cs.length : Int))
  (hA : oneP R nx A cs = (0,pre.map Sg.sh ++ [(s.fst,s.rs.map Rc.cs ++ [cs])]))
  (hv : Rx h v cs) (hn1 : 1 ≤ cs.length) (hn2 : cs.length ≤ 65536) (q0 : ρ 0 = .ptr (some (lb,0))) (q1 : ρ 1 = v) (q5 : ρ 5 = .slice fp (frameF cs).length fc fo) (q7 : ρ 7 = .int .i64 (pre.length : Nat)) :
  XO P E none 171 r38_18 [.c (.seq (.draw r38_19) (.seq (.region r38_20) (.seq (.region r38_21) (.seq (.region r38_22) (.seq (.region [⟨some 4,.mv (.k (.int .i64 0)),none,0,[4]⟩]) (.ret))))))] ρ h (Fin [.t 4] (OneX R lo lb bd bm k a nx sy br m2 A cs h0)) := by
 have hcl := chain_len hc
 have hfm : (pre ++ [s]).flatMap Sg.cells = pre.flatMap Sg.cells ++ s.cells := by simp
 have hlen : (pre ++ [s]).length = pre.length + 1 := by simp
 have gl := ow.at (i := lb) (o := lgO bd (vlo (some sbb) gc.length (pre ++ [s]).length) nx sy br) (by simp [lgX])
 have gs := ow.at (i := sbb) (o := .cells (gc ++ (pre ++ [s]).flatMap Sg.cells) 74 true false none) (by simp [lgX,fpt])
 rw [hfm] at gs
 rw [hlen] at gl
 obtain ⟨p,c,o,hsv⟩ := vl_shape s.rb s.rs.length (fun h => by rw [hnn h]; rfl)
 have hvl0 := hv.rb.len
 obtain ⟨vp,vc,vo,hvv⟩ := hvl0
 unfold lgO lgC at gl
 have hx1 : (gc ++ (pre.flatMap Sg.cells ++ s.cells))[gc.length + pre.length * 4 + 1]? = some (.slice p s.rs.length c o) := by
  rw [seg_getO]; unfold Sg.cells; rw [hsv]; rfl
 have hi : ((pre.length : Nat) : Int) < ((pre.length + 1 : Nat) : Int) := by omega
 have hvl : vlo (some sbb) gc.length (pre.length + 1) = .slice (some (sbb,gc.length)) (pre.length + 1) (pre.length + 1) true := rfl
 rw [hvl] at gl
 simp only [GR,evK,binV,intOp,strOp,shOp,unV,Nat.reduceLT,Nat.reduceEqDiff,Nat.reduceAdd,↓reduceIte,Nat.reduceLeDiff,reduceCtorEq,r38_18,q0,gl,q7,hi,Int.natCast_nonneg,Int.toNat_natCast]
 rw [X_draw]
 refine l38_19 ?_
 simp only [GR,evK,binV,intOp,strOp,shOp,unV,Nat.reduceLT,Nat.reduceEqDiff,Nat.reduceAdd,↓reduceIte,Nat.reduceLeDiff,reduceCtorEq,r38_19a,gs,hx1,q1]
 rw [hvv] at hv ⊢
 refine XCQ_of (clone42x F hv hn1 (by omega)) ?_
 rintro r h1 ⟨b,rfl,hbs,hbsz,hgb,k1⟩
 refine ⟨k1,?_⟩
 have ow1k := k1
 have hvn : vl (some b) cs.length = .slice (some (b,0)) cs.length cs.length true := rfl
 have hd0 : List.drop 1 [V.slice none 0 0 false] = [] := rfl
 have ow1 := Ow.newM (m1 := dkX R bd bm k fs ++ (lgX lb bd (some sbb) gc (pre ++ [s]) nx sy br ++ m2)) (m2 := []) (by simpa using ow) k1 hbsz hlo hgb
 have k2 : Kp h1 (h1.psh (.cells [vl (some b) cs.length] 45 false false none)) := Keeps.psh (Nat.le_refl _) _
 have ow2 := ow1.kp k2
 have he1 : elemsV (h1.psh (.cells [vl (some b) cs.length] 45 false false none)) 1 1 (.slice (some (h1.size,0)) 1 1 false) = some [vl (some b) cs.length] := by
  simp only [elemsV,psh_same]; rfl
 have hl2 : lo ≤ (h1.psh (.cells [vl (some b) cs.length] 45 false false none)).size := Nat.le_trans hlo (Kp.trans k1 k2).size
 have gl2 := (Kp.trans k1 k2).of gl
 have gs2 := (Kp.trans k1 k2).of gs
 have hcd : [V.slice (some (b,0)) cs.length cs.length true] = [vl (some b) cs.length] := rfl
 simp only [GR,evK,binV,intOp,strOp,shOp,unV,Nat.reduceLT,Nat.reduceEqDiff,Nat.reduceAdd,↓reduceIte,Nat.reduceLeDiff,reduceCtorEq,hvn,hd0]
 rw [hcd]
 refine ⟨k2,?_⟩
 clear k1 hgb gl gs
 have kt : Keeps lo h0 (h1.psh (.cells [vl (some b) cs.length] 45 false false none)) := Keeps.trans kk ((Kp.trans ow1k k2).mono hlo)
 generalize h1.psh (.cells [vl (some b) cs.length] 45 false false none) = h2 at *
 have ow3a : Ow lo h2 ((dkX R bd bm k fs ++ (lb,lgO bd (vlo (some sbb) gc.length (pre.length + 1)) nx sy br) :: (sbb,.cells (gc ++ (pre.flatMap Sg.cells ++ s.cells)) 74 true false none) :: pre.flatMap Sg.foot) ++ (fpt s.rb 45 (s.rs.map Rc.v) ++ (s.rs.map Rc.cell ++ (m2 ++ [(b,.cells cs 5 true false none)])))) := by
  have := ow2
  unfold lgX at this
  rw [hfm,hlen] at this
  simpa [fpt,Sg.foot] using this
 have hsl : (s.rs.map Rc.v).length = s.rs.length := List.length_map ..
 obtain ⟨b',h3,e1,ow3,hb3,k3,fr3⟩ := Ow.appc (bytes := 24) (x := .slice (some (h1.size,0)) 1 1 false) (ds := [vl (some b) cs.length]) ow3a (fun h => by rw [hnn h]; rfl) hl2 rfl he1 rfl (by rw [hsl]; simp only [List.length_cons,List.length_nil]; omega)
 have hl3 : (s.rs.map Rc.v ++ [vl (some b) cs.length]).length = s.rs.length + 1 := by simp
 rw [hsl,hl3] at e1
 obtain ⟨p',c',o',hsv'⟩ := vl_shape b' (s.rs.length + 1) (fun h => by have := hb3 h; simp at this)
 rw [hsv,hsv'] at e1
 obtain ⟨rest,hrest⟩ : ∃ rest,rest = pre.flatMap Sg.foot ++ (fpt b' 45 (s.rs.map Rc.v ++ [vl (some b) cs.length]) ++ (s.rs.map Rc.cell ++ (m2 ++ [(b,.cells cs 5 true false none)]))) := ⟨_,rfl⟩
 have ow3b : Ow lo h3 ((dkX R bd bm k fs ++ [(lb,lgO bd (vlo (some sbb) gc.length (pre.length + 1)) nx sy br)]) ++ (sbb,.cells (gc ++ (pre.flatMap Sg.cells ++ s.cells)) 74 true false none) :: rest) := by
  rw [hrest]; simpa using ow3
 clear ow3 ow3a ow2 ow1
 have gs3 := ow3b.at (i := sbb) (o := .cells (gc ++ (pre.flatMap Sg.cells ++ s.cells)) 74 true false none) (by simp)
 have hss : (gc ++ (pre.flatMap Sg.cells ++ s.cells)).length = gc.length + pre.length * 4 + 4 := by rw [List.length_append,List.length_append,seg_len,show s.cells.length = 4 from rfl]; omega
 have hbl : s.byt.length ≤ 4194304 := by
  have := dk.room
  have := dk.cap
  have h2 := congrArg (fun l => (l.map fun p : List UInt8 × List V => p.2.length).sum) fil
  simp only [List.map_map,List.map_append,List.sum_append,List.map_cons,List.map_nil,List.sum_cons,List.sum_nil,List.length_append] at h2
  have h3 : totU (fs.map Fl.fu) = (List.map ((fun p : List UInt8 × List V => p.2.length) ∘ fun f : Fl => (f.name,f.cs)) fs).sum := by
   unfold totU; rw [List.map_map]; rfl
  omega
 have hfl : (frameF cs).length ≤ 4194304 := by
  have := numF_len cs.length
  unfold frameF
  simp only [List.length_append,show ∀ s,(fourF s).length = 4 from fun _ => rfl]
  omega
 have hsz := siz s (by simp)
 obtain ⟨z,hz⟩ : ∃ z,z = IntKind.i64.wrap (s.size + ((frameF cs).length : Int)) := ⟨_,rfl⟩
 have hz2 : z = ((s.byt ++ frameF cs).length : Int) := by
  rw [hz,hsz,List.length_append,wrap_le (by omega) (by omega)]; omega
 obtain ⟨s1,hs1⟩ : ∃ s1 : Sg,s1 = { s with rb := b',rs := s.rs ++ [⟨b,cs⟩] } := ⟨_,rfl⟩
 obtain ⟨s2,hs2⟩ : ∃ s2 : Sg,s2 = { s with rb := b',rs := s.rs ++ [⟨b,cs⟩],size := z } := ⟨_,rfl⟩
 obtain ⟨s3,hs3⟩ : ∃ s3 : Sg,s3 = { s with rb := b',rs := s.rs ++ [⟨b,cs⟩],size := z,loose := true } := ⟨_,rfl⟩
 have hrl : (s.rs ++ [(⟨b,cs⟩ : Rc)]).length = s.rs.length + 1 := by simp
 have t1 : setR s.cells 1 [.slice p' (s.rs.length + 1) c' o'] = s1.cells := by rw [hs1]; unfold Sg.cells; rw [hrl,hsv']; rfl
 have t2 : setR s1.cells 2 [.int .i64 z] = s2.cells := by rw [hs1,hs2]; rfl
 have t3 : setR s2.cells 3 [.bool true] = s3.cells := by rw [hs2,hs3]; rfl
 have y2 : s1.cells[2]? = some (.int .i64 s.size) := by rw [hs1]; rfl
 -- the record
 have e4 := put_at (ws := [.slice p' (s.rs.length + 1) c' o']) (o := gc.length + pre.length * 4 + 1) gs3 (by rw [hss]; simp) rfl rfl
 rw [seg_setO,t1] at e4
 obtain ⟨ow4,k4⟩ := ow3b.setM (.cells (gc ++ (pre.flatMap Sg.cells ++ s1.cells)) 74 true false none)
 have gs4 := ow4.at (i := sbb) (o := .cells (gc ++ (pre.flatMap Sg.cells ++ s1.cells)) 74 true false none) (by simp)
 have gl4 := ow4.at (i := lb) (o := lgO bd (vlo (some sbb) gc.length (pre.length + 1)) nx sy br) (by simp)
 generalize h3.set sbb (.cells (gc ++ (pre.flatMap Sg.cells ++ s1.cells)) 74 true false none) = h4 at *
 have hx2 : (gc ++ (pre.flatMap Sg.cells ++ s1.cells))[gc.length + pre.length * 4 + 2]? = some (.int .i64 s.size) := by
  rw [seg_getO]; exact y2
 have hl4 : (gc ++ (pre.flatMap Sg.cells ++ s1.cells)).length = gc.length + pre.length * 4 + 4 := by rw [List.length_append,List.length_append,seg_len,show s1.cells.length = 4 from rfl]; omega
 have e5 := put_at (ws := [.int .i64 z]) (o := gc.length + pre.length * 4 + 2) gs4 (by rw [hl4]; simp) rfl rfl
 rw [seg_setO,t2] at e5
 obtain ⟨ow5,k5⟩ := ow4.setM (.cells (gc ++ (pre.flatMap Sg.cells ++ s2.cells)) 74 true false none)
 have gs5 := ow5.at (i := sbb) (o := .cells (gc ++ (pre.flatMap Sg.cells ++ s2.cells)) 74 true false none) (by simp)
 generalize h4.set sbb (.cells (gc ++ (pre.flatMap Sg.cells ++ s2.cells)) 74 true false none) = h5 at *
 have hl5 : (gc ++ (pre.flatMap Sg.cells ++ s2.cells)).length = gc.length + pre.length * 4 + 4 := by rw [List.length_append,List.length_append,seg_len,show s2.cells.length = 4 from rfl]; omega
 have e6 := put_at (ws := [.bool true]) (o := gc.length + pre.length * 4 + 3) gs5 (by rw [hl5]; simp) rfl rfl
 rw [seg_setO,t3] at e6
 obtain ⟨ow6,k6⟩ := ow5.setM (.cells (gc ++ (pre.flatMap Sg.cells ++ s3.cells)) 74 true false none)
 have ow6' : Ow lo (h5.set sbb (.cells (gc ++ (pre.flatMap Sg.cells ++ s3.cells)) 74 true false none)) (dkX R bd bm k fs ++ (lb,lgO bd (vlo (some sbb) gc.length (pre.length + 1)) nx sy br) :: ((sbb,.cells (gc ++ (pre.flatMap Sg.cells ++ s3.cells)) 74 true false none) :: rest)) := by simpa using ow6
 have gl6 := ow6'.at (i := lb) (o := lgO bd (vlo (some sbb) gc.length (pre.length + 1)) nx sy br) (by simp)
 obtain ⟨ow7,k7⟩ := ow6'.setM (lgO bd (vlo (some sbb) gc.length (pre.length + 1)) (nx + 1 : Nat) sy br)
 unfold lgO lgC at gl6
 rw [hvl] at gl6
 have e7 := put_at (ws := [.int .i64 ((nx + 1 : Nat) : Int)]) (o := 3) gl6 (by simp) rfl rfl
 have e7' : setR [V.ptr (some (bd,0)),V.str logN,V.slice (some (sbb,gc.length)) (pre.length + 1) (pre.length + 1) true,V.int .i64 nx,V.int .i64 sy,V.bool br] 3 [.int .i64 ((nx + 1 : Nat) : Int)] = lgC bd (vlo (some sbb) gc.length (pre.length + 1)) (nx + 1 : Nat) sy br := rfl
 rw [e7'] at e7
 unfold lgO at ow7 k7
 generalize h5.set sbb (.cells (gc ++ (pre.flatMap Sg.cells ++ s3.cells)) 74 true false none) = h6 at *
 generalize h6.set lb (.cells (lgC bd (vlo (some sbb) gc.length (pre.length + 1)) (nx + 1 : Nat) sy br) 68 false false none) = h7 at *
 have hw : IntKind.i64.wrap ((nx : Int) + 1) = ((nx + 1 : Nat) : Int) := wrap_nat (n := nx + 1) (by omega)
 simp only [GR,evK,binV,intOp,strOp,shOp,unV,Nat.reduceLT,Nat.reduceEqDiff,Nat.reduceAdd,↓reduceIte,Nat.reduceLeDiff,reduceCtorEq,r38_19b,e1,e4,r38_20,gs4,hx2,q5,← hz,e5,r38_21,e6,r38_22,q0,gl6,hw,e7]
 have hbyt : s3.byt = s.byt ++ frameF cs := by rw [hs3]; simp [Sg.byt]
 refine ⟨0,fs,some sbb,gc,pre ++ [s3],nx + 1,rfl,?_,?_,?_,rfl,Keeps.trans kt (Keeps.trans k3 (Keeps.trans k4 (Keeps.trans k5 (Keeps.trans k6 k7))))⟩
 ·rw [hrest] at ow7
  unfold lgX lgO
  rw [show (pre ++ [s3]).length = pre.length + 1 by simp]
  have ow8 := ow7.perm (m' := dkX R bd bm k fs ++ ((lb,.cells (lgC bd (vlo (some sbb) gc.length (pre.length + 1)) (nx + 1 : Nat) sy br) 68 false false none) :: (sbb,.cells (gc ++ (pre.flatMap Sg.cells ++ s3.cells)) 74 true false none) :: (pre.flatMap Sg.foot ++ (fpt b' 45 (s.rs.map Rc.v ++ [vl (some b) cs.length]) ++ (s.rs.map Rc.cell ++ ([(b,.cells cs 5 true false none)] ++ m2)))))) (by
   refine List.Perm.append_left _ (List.Perm.cons _ (List.Perm.cons _ (List.Perm.append_left _ (List.Perm.append_left _ (List.Perm.append_left _ List.perm_append_comm)))))
   )
  simpa [fpt,Sg.foot,hs3,Rc.v,Rc.cell] using ow8
 ·refine ⟨chain_snoc.2 ⟨?_,?_,?_⟩,hl,by simp,dk,?_,?_,syn⟩
  ·rw [hs3]; exact hc
  ·refine ⟨by rw [hs3]; simp,fun h => ?_,fun x hx => ?_⟩
   ·rw [hs3] at h; have := hb3 h; simp at this
   ·rw [hs3] at hx
    rcases List.mem_append.1 hx with h | h
    ·exact hrc x h
    ·rw [List.mem_singleton.1 h]; exact ⟨hbs,hn1,hn2⟩
  ·rw [hs3]; simp only [hrl]; omega
  ·rw [fil,List.map_append,List.map_cons,List.map_nil,hbyt,hs3]
  ·intro x hx
   rcases List.mem_append.1 hx with h | h
   ·exact siz x (List.mem_append_left _ h)
   ·rw [List.mem_singleton.1 h,hbyt,← hz2,hs3]
 ·rw [hA,List.map_append,List.map_cons,List.map_nil,hs3]
  simp [Sg.sh]
end Go.AM.Wc
namespace Go.AM.Wc
open Go.AM
variable {P : Program} {E : Env} {T : H → Prop}
theorem frame_len {cs : List V} (h : cs.length ≤ 1048576) : (frameF cs).length ≤ 1048600 := by
 have := numF_len cs.length
 unfold frameF
 simp only [List.length_append,show ∀ s,(fourF s).length = 4 from fun _ => rfl]
 omega
theorem Rx.shape {h : H} {v : V} {cs : List V} (a : Rx h v cs) : ∃ p c o,v = .slice p cs.length c o := by
 obtain ⟨p,c,o,h1,_⟩ := a; exact ⟨p,c,o,h1⟩
theorem fil_new {fs : List Fl} {sgs : List Sg} {a nx : Nat} {n : List UInt8} {ds : List V} {blk : Nat} {b' : Option Nat} (h : fs.map (fun f => (f.name,f.cs)) = sgs.map fun s => (segN s.fst,s.byt)) (hn : n = segN nx) :
  (fs ++ [(⟨n,blk,b',ds,0⟩ : Fl)]).map (fun f => (f.name,f.cs)) = sgs.map (fun s => (segN s.fst,s.byt)) ++ [(segN nx,[] ++ ds)] := by
 rw [List.map_append,h,hn]; rfl
set_option maxHeartbeats 2000000 in
theorem new38x (F : Fw P E T) (hu : E.prim 105 = some usedK) {lo : Nat} {h0 h : H} {R lb bd bm k a nx : Nat} {sy : Int} {br : Bool} {fs : List Fl} {sb : Option Nat} {gc : List V} {sgs : List Sg} {m2 : List Cell} {A : List SegA} {v f : V} {cs : List V} {ρ : Nat → V}
  (ow : Ow lo h (dkX R bd bm k fs ++ (lgX lb bd sb gc sgs nx sy br ++ m2))) (hlo : lo ≤ h.size) (h1lo : 1 ≤ lo) (ht : T h) (kk : Keeps lo h0 h) (lok : LOX R fs sb gc sgs a nx) (hl : nx + 1 ≤ 1000000000000)
  (hA : oneP R nx A cs = newP R nx (sgs.map Sg.sh) cs)
  (hvs : ∀ h',Keeps lo h h' → Ow lo h' m2 → Rx h' v cs) (hn1 : 1 ≤ cs.length) (hn2 : cs.length ≤ 65536) (hf : Rx h f (frameF cs)) (q0 : ρ 0 = .ptr (some (lb,0))) (q1 : ρ 1 = v) (q5 : ρ 5 = f) (q7 : ρ 7 = .int .i64 ((sgs.length : Int) - 1)) :
  X P E none 171 [.c (.draw r38_10),.c (.seq (.region r38_11) (.cond (.t 95) (.seq (.region r38_12) (.ret)) (.skip))),.c (.seq (.draw r38_13) (.region r38_14)),.c (.seq (.region r38_18) (.seq (.draw r38_19) (.seq (.region r38_20) (.seq (.region r38_21) (.seq (.region r38_22) (.seq (.region [⟨some 4,.mv (.k (.int .i64 0)),none,0,[4]⟩]) (.ret)))))))] ρ h (Fin [.t 4] (OneX R lo lb bd bm k a nx sy br m2 A cs h0)) := by
 have hcl := chain_len lok.ch
 have hflen := frame_len (cs := cs) (by omega)
 have gl := ow.at (i := lb) (o := lgO bd (vlo sb gc.length sgs.length) nx sy br) (by simp [lgX])
 obtain ⟨p,c,o,hsv⟩ := vlo_shape sb gc.length sgs.length (fun h => by rw [(lok.sbn h).1]; rfl)
 obtain ⟨fp,fc,fo,hff⟩ := hf.shape
 rw [hsv] at gl
 unfold lgO lgC at gl
 rw [hff] at q5 hf
 rw [X_draw]
 refine l38_10 ?_
 simp only [GR,evK,binV,intOp,strOp,shOp,unV,Nat.reduceLT,Nat.reduceEqDiff,Nat.reduceAdd,↓reduceIte,Nat.reduceLeDiff,reduceCtorEq,r38_10a,q0,gl]
 refine XCQ_of (seg_nx F ht (by omega)) ?_
 rintro _ h1 ⟨rfl,k1⟩
 refine ⟨k1,?_⟩
 have ow1 := ow.kp k1
 have hf1 := hf.kp k1
 have hl1 : lo ≤ h1.size := Nat.le_trans hlo k1.size
 simp only [GR,evK,binV,intOp,strOp,shOp,unV,Nat.reduceLT,Nat.reduceEqDiff,Nat.reduceAdd,↓reduceIte,Nat.reduceLeDiff,reduceCtorEq,q5,r38_10b]
 have hlen := segN_len (n := nx) (by omega)
 refine XC_of (append65x F hu (m1 := []) ow1 hl1 lok.dk hf1 (by omega) (by omega) (by omega)) ?_
 rintro _ h2 ⟨e,fs',rfl,ow2,dk2,had,k2⟩
 have ow2 : Ow lo h2 (dkX R bd bm k fs' ++ (lgX lb bd sb gc sgs nx sy br ++ m2)) := ow2
 have k2t : Keeps lo h h2 := Keeps.trans (k1.mono hlo) k2
 have hne := fil_ne lok.fil lok.ch (Nat.le_refl nx) (by omega)
 have hfln := fil_len lok.fil
 have huse := fil_use lok.fil
 have hAl : (sgs.map Sg.sh).length = sgs.length := List.length_map ..
 have fin : e ≠ 0 → fs' = fs → (e,sgs.map Sg.sh) = newP R nx (sgs.map Sg.sh) cs → OneX R lo lb bd bm k a nx sy br m2 A cs h0 (.int .i64 e) h2 := by
  intro he hfs hP
  exact ⟨e,fs',sb,gc,sgs,nx,rfl,ow2,hfs ▸ lok,by rw [hA]; exact hP,by rw [if_neg he],Keeps.trans kk k2t⟩
 rcases had with ⟨rfl,hfs,_,h4⟩ | ⟨rfl,hfs,h3,h4⟩ | ⟨rfl,_,h3,h4,blk,b',hfs⟩ | ⟨rfl,_,fs1,g,fs2,_,hsp,hgn,_⟩
 ·have c1 : ((3 : Int) != 0) = true := rfl
  simp only [GR,evK,binV,intOp,strOp,shOp,unV,Nat.reduceLT,Nat.reduceEqDiff,Nat.reduceAdd,↓reduceIte,Nat.reduceLeDiff,reduceCtorEq,r38_11,c1,r38_12]
  exact fin (by decide) hfs (by unfold newP; rw [if_pos (by omega)])
 ·have c1 : ((6 : Int) != 0) = true := rfl
  simp only [GR,evK,binV,intOp,strOp,shOp,unV,Nat.reduceLT,Nat.reduceEqDiff,Nat.reduceAdd,↓reduceIte,Nat.reduceLeDiff,reduceCtorEq,r38_11,c1,r38_12]
  have := h3 hne
  exact fin (by decide) hfs (by unfold newP; rw [if_neg (by omega),if_pos (by omega)])
 rotate_left
 ·exact (hne g (by rw [hsp]; simp) hgn).elim
 clear fin
 have c1 : ((0 : Int) != 0) = false := rfl
 have gl2 := ow2.at (i := lb) (o := lgO bd (vlo sb gc.length sgs.length) nx sy br) (by simp [lgX])
 rw [hsv] at gl2
 unfold lgO lgC at gl2
 simp only [GR,evK,binV,intOp,strOp,shOp,unV,Nat.reduceLT,Nat.reduceEqDiff,Nat.reduceAdd,↓reduceIte,Nat.reduceLeDiff,reduceCtorEq,r38_11,c1]
 rw [X_draw]
 refine l38_13 ?_
 simp only [GR,evK,binV,intOp,strOp,shOp,unV,Nat.reduceLT,Nat.reduceEqDiff,Nat.reduceAdd,↓reduceIte,Nat.reduceLeDiff,reduceCtorEq,r38_13a,q0,gl2]
 obtain ⟨s0,hs0⟩ : ∃ s0 : Sg,s0 = ⟨nx,none,[],0,false⟩ := ⟨_,rfl⟩
 have hc0 : s0.cells = [V.int .i64 nx,V.slice none 0 0 false,V.int .i64 0,V.bool false] := by rw [hs0]; rfl
 rw [← hc0]
 have k3 : Kp h2 (h2.psh (.cells s0.cells 74 false false none)) := Keeps.psh (Nat.le_refl _) _
 have he3 : elemsV (h2.psh (.cells s0.cells 74 false false none)) 4 1 (.slice (some (h2.size,0)) 1 1 false) = some s0.cells := by
  simp only [elemsV,psh_same]; rw [hc0]; rfl
 refine ⟨k3,?_⟩
 have ow3 := ow2.kp k3
 have hl3 : lo ≤ (h2.psh (.cells s0.cells 74 false false none)).size := Nat.le_trans (Nat.le_trans hl1 k2.size) k3.size
 have gl3 := k3.of gl2
 have kt3 : Keeps lo h (h2.psh (.cells s0.cells 74 false false none)) := Keeps.trans k2t (k3.mono (Nat.le_trans hl1 k2.size))
 clear gl gl2 ow2 k3
 generalize h2.psh (.cells s0.cells 74 false false none) = h3 at *
 have ow3a : Ow lo h3 ((dkX R bd bm k fs' ++ [(lb,lgO bd (vlo sb gc.length sgs.length) nx sy br)]) ++ (fpt sb 74 (gc ++ (sgs.map Sg.cells).flatten) ++ (sgs.flatMap Sg.foot ++ m2))) := by
  have := ow3
  unfold lgX at this
  rw [List.flatMap_def (f := Sg.cells)] at this
  simpa using this
 have hml : (sgs.map Sg.cells).length = sgs.length := List.length_map ..
 obtain ⟨sbb,h4',e1,ow4,k4,fr4⟩ := Ow.appO (sz := 4) (bytes := 48) (x := .slice (some (h2.size,0)) 1 1 false) (ys := [s0.cells]) ow3a (fun h => by rw [(lok.sbn h).1,(lok.sbn h).2]; exact ⟨rfl,rfl⟩) hl3 (fun z hz => by obtain ⟨y,_,rfl⟩ := List.mem_map.1 hz; rfl) rfl (by rw [show [s0.cells].length = 1 from rfl,he3]; simp) (by simp) (by rw [hc0]; rfl) (by rw [hml]; simp only [List.length_cons,List.length_nil]; omega)
 have hl4 : (sgs.map Sg.cells ++ [s0.cells]).length = sgs.length + 1 := by simp
 rw [hml,hl4,hsv] at e1
 have gl4 := ow4.at (i := lb) (o := lgO bd (vlo sb gc.length sgs.length) nx sy br) (by simp)
 rw [hsv] at gl4
 have e2 := put_at (ws := [vl (some sbb) (sgs.length + 1)]) (o := 2) gl4 (by simp [lgC]) rfl rfl
 have t2 : setR (lgC bd (.slice p sgs.length c o) nx sy br) 2 [vl (some sbb) (sgs.length + 1)] = lgC bd (vlo (some sbb) 0 (sgs.length + 1)) nx sy br := rfl
 rw [t2] at e2
 have ow4a : Ow lo h4' (dkX R bd bm k fs' ++ (lb,lgO bd (vlo sb gc.length sgs.length) nx sy br) :: (fpt (some sbb) 74 (sgs.map Sg.cells ++ [s0.cells]).flatten ++ (sgs.flatMap Sg.foot ++ m2))) := by simpa using ow4
 obtain ⟨ow5,k5⟩ := ow4a.setM (lgO bd (vlo (some sbb) 0 (sgs.length + 1)) nx sy br)
 unfold lgO at ow5 k5
 generalize h4'.set lb (.cells (lgC bd (vlo (some sbb) 0 (sgs.length + 1)) nx sy br) 68 false false none) = h5 at *
 have hvl : vl (some sbb) (sgs.length + 1) = .slice (some (sbb,0)) (sgs.length + 1) (sgs.length + 1) true := rfl
 rw [hvl] at e1 e2
 have hw : IntKind.i64.wrap ((sgs.length : Int) - 1 + 1) = ((sgs.length : Nat) : Int) := by
  rw [show (sgs.length : Int) - 1 + 1 = ((sgs.length : Nat) : Int) by omega]
  exact wrap_nat (by omega)
 simp only [GR,evK,binV,intOp,strOp,shOp,unV,Nat.reduceLT,Nat.reduceEqDiff,Nat.reduceAdd,↓reduceIte,Nat.reduceLeDiff,reduceCtorEq,r38_13b,e1,e2,r38_14,q7,hw]
 have kt5 : Keeps lo h h5 := Keeps.trans kt3 (Keeps.trans k4 k5)
 refine tail38x F (R := R) (k := k) (a := a) (m2 := m2) (gc := []) (pre := sgs) (s := s0) (sbb := sbb) (fs := fs') (fp := fp) (fc := fc) (fo := fo) ?_ (Nat.le_trans hlo kt5.size) (Keeps.trans kk kt5) ?_ ?_ hl ?_ ?_ dk2 ?_ ?_ ?_ ?_ (hvs _ kt5 ow5.right.tail.right.right) hn1 hn2 ?_ ?_ ?_ ?_
 ·unfold lgX lgO
  rw [show (sgs ++ [s0]).length = sgs.length + 1 by simp]
  rw [show (sgs ++ [s0]).flatMap Sg.cells = (sgs.map Sg.cells ++ [s0.cells]).flatten by rw [List.flatMap_def]; simp]
  rw [show (sgs ++ [s0]).flatMap Sg.foot = sgs.flatMap Sg.foot by rw [hs0]; simp [Sg.foot,fpt]]
  simpa using ow5
 ·rw [hs0]; exact lok.ch
 ·rw [hs0]; rfl
 ·rw [hs0]; exact fun _ => rfl
 ·rw [hs0]; simp
 ·rw [hfs,fil_new (a := a) lok.fil rfl,hs0]; rfl
 ·intro x hx
  rcases List.mem_append.1 hx with h | h
  ·exact lok.siz x h
  ·rw [List.mem_singleton.1 h,hs0]; rfl
 ·intro x hx
  rw [hfs] at hx
  rcases List.mem_append.1 hx with h | h
  ·exact lok.syn x h
  ·rw [List.mem_singleton.1 h]; exact ⟨Int.le_refl _,Int.natCast_nonneg _⟩
 ·rw [hA,hs0]
  unfold newP
  rw [if_neg (by omega),if_neg (by omega)]
  rfl
 ·exact q0
 ·exact q1
 ·exact q5
 ·rfl
end Go.AM.Wc
namespace Go.AM.Wc
open Go.AM
variable {P : Program} {E : Env} {T : H → Prop}
theorem seg_atO (gc : List V) (pre : List Sg) (c : List V) : (gc ++ (pre.flatMap Sg.cells ++ c))[gc.length + pre.length * 4]? = c[0]? := seg_getO gc pre c 0
theorem dkx_syn {R : Nat} {fs1 : List Fl} {f : Fl} {fs2 : List Fl} {z : Int} (ok : DkX R (fs1 ++ f :: fs2)) : DkX R (fs1 ++ { f with syn := z } :: fs2) :=
 ok.put (ok.emp f (by simp)) (ok.byt f (by simp)) (by have := ok.room; omega)
theorem syn_mid {fs1 : List Fl} {f : Fl} {fs2 : List Fl} (h : ∀ x ∈ fs1 ++ f :: fs2,0 ≤ x.syn ∧ x.syn ≤ (x.cs.length : Int)) {f' : Fl} (h' : 0 ≤ f'.syn ∧ f'.syn ≤ (f'.cs.length : Int)) : ∀ x ∈ fs1 ++ f' :: fs2,0 ≤ x.syn ∧ x.syn ≤ (x.cs.length : Int) := by
 intro g hg
 rcases List.mem_append.1 hg with hg | hg
 ·exact h g (List.mem_append_left _ hg)
 ·rcases List.mem_cons.1 hg with rfl | hg
  ·exact h'
  ·exact h g (List.mem_append_right _ (List.mem_cons_of_mem _ hg))
theorem fil_last {fs : List Fl} {pre : List Sg} {s : Sg} {a nx : Nat} (h : fs.map (fun f => (f.name,f.cs)) = (pre ++ [s]).map fun s => (segN s.fst,s.byt)) (hc : chain (pre ++ [s]) a nx) (hn : nx ≤ 1000000000000) :
  ∃ fs1 g,fs = fs1 ++ [g] ∧ g.name = segN s.fst ∧ g.cs = s.byt ∧ (∀ f ∈ fs1,f.name ≠ segN s.fst) ∧ fs1.map (fun f => (f.name,f.cs)) = pre.map fun s => (segN s.fst,s.byt) := by
 obtain ⟨f1,f2,rfl,h1,h2⟩ := fil_app h
 obtain ⟨g,rfl,h3,h4⟩ := fil_one h2
 have hx := chain_end hc (s := s) (by simp)
 obtain ⟨hc1,_,_⟩ := chain_snoc.1 hc
 exact ⟨f1,g,rfl,h3,h4,fil_ne h1 hc1 (Nat.le_refl _) (by omega),h1⟩
set_option maxHeartbeats 2000000 in
theorem one38x (F : Fw P E T) (hu : E.prim 105 = some usedK) {lo : Nat} {h : H} {R lb bd bm k a nx : Nat} {sy : Int} {br : Bool} {fs : List Fl} {sb : Option Nat} {gc : List V} {sgs : List Sg} {m2 : List Cell} {v : V} {cs : List V}
  (ow : Ow lo h (dkX R bd bm k fs ++ (lgX lb bd sb gc sgs nx sy br ++ m2))) (hlo : lo ≤ h.size) (h1lo : 1 ≤ lo) (ht : T h) (lok : LOX R fs sb gc sgs a nx) (hl : nx + 1 ≤ 1000000000000)
  (hvs : ∀ h',Keeps lo h h' → Ow lo h' m2 → Rx h' v cs) (hn1 : 1 ≤ cs.length) (hn2 : cs.length ≤ 65536) : Sp P E (.func 38 [] []) [.ptr (some (lb,0)),v] h (OneX R lo lb bd bm k a nx sy br m2 (sgs.map Sg.sh) cs h) := by
 have hv := hvs h (Keeps.refl _ _) ow.right.right
 have hcl := chain_len lok.ch
 have c4 : ((0 : Int) != 0) = false := rfl
 have hflen := frame_len (cs := cs) (by omega)
 refine Sp_fn F.f38 F.p38 (by simp [fn38]) ?_
 simp only [GR,evK,binV,intOp,strOp,shOp,unV,Nat.reduceLT,Nat.reduceEqDiff,Nat.reduceAdd,↓reduceIte,Nat.reduceLeDiff,reduceCtorEq,fn38,c38,r38_0]
 refine XC_of (frame69x F hv (by omega)) ?_
 rintro _ h1 ⟨f,rfl,hnb⟩
 have hfb := hnb.rx
 have k1 := hnb.kp
 have hfs := hfb.shape
 obtain ⟨fp,fc,fo,hff⟩ := hfs
 have ow1 := ow.kp k1
 have hl1 : lo ≤ h1.size := Nat.le_trans hlo k1.size
 have kk1 : Keeps lo h h1 := k1.mono hlo
 have gl := ow1.at (i := lb) (o := lgO bd (vlo sb gc.length sgs.length) nx sy br) (by simp [lgX])
 have ht1 : T h1 := F.tkeep ht k1
 have hvs1 : ∀ h',Keeps lo h1 h' → Ow lo h' m2 → Rx h' v cs := fun h' k => hvs h' (Keeps.trans kk1 k)
 rcases List.eq_nil_or_concat sgs with rfl | ⟨pre,s,rfl⟩
 ·obtain ⟨p,c,o,hsv⟩ := vlo_shape sb gc.length ([] : List Sg).length (fun _ => rfl)
  rw [hsv] at gl
  unfold lgO lgC at gl
  have hw : IntKind.i64.wrap (((0 : Nat) : Int) - 1) = -1 := by decide
  have c1 : (-1 : Int) < 0 := by decide
  have c2 : ¬ (-1 : Int) ≥ 0 := by decide
  have hl0 : ([] : List Sg).length = 0 := rfl
  rw [hl0] at gl
  simp only [GR,evK,binV,intOp,strOp,shOp,unV,Nat.reduceLT,Nat.reduceEqDiff,Nat.reduceAdd,↓reduceIte,Nat.reduceLeDiff,reduceCtorEq,r38_1,c4,r38_3,gl,hw,r38_4,c1,r38_5,c2]
  refine new38x F hu (f := f) ow1 hl1 h1lo ht1 kk1 lok hl (oneP_new (by simp)) hvs1 hn1 hn2 hfb ?_ ?_ ?_ ?_
  ·rfl
  ·rfl
  ·rfl
  ·rfl
 ·obtain ⟨sbb,rfl⟩ : ∃ sbb,sb = some sbb := by
   cases sb with
   | none => have := (lok.sbn rfl).1; simp at this
   | some x => exact ⟨x,rfl⟩
  have hlen : (pre.concat s).length = pre.length + 1 := by simp
  rw [List.concat_eq_append] at *
  rw [hlen] at hcl gl
  have hfm : (pre ++ [s]).flatMap Sg.cells = pre.flatMap Sg.cells ++ s.cells := by simp
  have gs := ow1.at (i := sbb) (o := .cells (gc ++ (pre ++ [s]).flatMap Sg.cells) 74 true false none) (by simp [lgX,fpt])
  rw [hfm] at gs
  unfold lgO lgC at gl
  have hvl : vlo (some sbb) gc.length (pre.length + 1) = .slice (some (sbb,gc.length)) (pre.length + 1) (pre.length + 1) true := rfl
  rw [hvl] at gl
  have hw : IntKind.i64.wrap (((pre.length + 1 : Nat) : Int) - 1) = ((pre.length : Nat) : Int) := by
   rw [show ((pre.length + 1 : Nat) : Int) - 1 = ((pre.length : Nat) : Int) by omega]
   exact wrap_nat (by have := lok.lim; omega)
  have c1 : ¬ ((pre.length : Nat) : Int) < 0 := by omega
  have c2 : ((pre.length : Nat) : Int) ≥ 0 := by omega
  have hi : ((pre.length : Nat) : Int) < ((pre.length + 1 : Nat) : Int) := by omega
  have hx0 : (gc ++ (pre.flatMap Sg.cells ++ s.cells))[gc.length + pre.length * 4]? = some (.int .i64 s.fst) := by rw [seg_atO]; rfl
  have hx2 : (gc ++ (pre.flatMap Sg.cells ++ s.cells))[gc.length + pre.length * 4 + 2]? = some (.int .i64 s.size) := by rw [seg_getO]; rfl
  have hx3 : (gc ++ (pre.flatMap Sg.cells ++ s.cells))[gc.length + pre.length * 4 + 3]? = some (.bool s.loose) := by rw [seg_getO]; rfl
  obtain ⟨hc1,hc2,hc3⟩ := chain_snoc.1 lok.ch
  have hsize := lok.siz s (by simp)
  obtain ⟨fs1,g,hfsp,hgn,hgc,hg1,hfil1⟩ := fil_last lok.fil lok.ch lok.lim
  by_cases hsz : s.size ≥ 1024
  ·have hA : oneP R nx ((pre ++ [s]).map Sg.sh) cs = newP R nx ((pre ++ [s]).map Sg.sh) cs := oneP_new (by
    intro x hx
    rw [List.map_append,List.map_cons,List.map_nil,List.getLast?_concat] at hx
    simp only [Option.some.injEq] at hx
    rw [← hx,byt_sh]; omega)
   simp only [GR,evK,binV,intOp,strOp,shOp,unV,Nat.reduceLT,Nat.reduceEqDiff,Nat.reduceAdd,↓reduceIte,Nat.reduceLeDiff,reduceCtorEq,r38_1,c4,r38_3,gl,hw,r38_4,c1,c2,hi,Int.natCast_nonneg,Int.toNat_natCast,gs,hx2,hsz,r38_5,hx3]
   cases hlo' : s.loose with
   | false =>
    simp only [GR,evK,binV,intOp,strOp,shOp,unV,Nat.reduceLT,Nat.reduceEqDiff,Nat.reduceAdd,↓reduceIte,Nat.reduceLeDiff,reduceCtorEq]
    refine new38x F hu (f := f) ow1 hl1 h1lo ht1 kk1 lok hl hA hvs1 hn1 hn2 hfb rfl rfl rfl ?_
    show V.int .i64 ((pre.length : Nat) : Int) = V.int .i64 (((pre ++ [s]).length : Int) - 1)
    rw [hlen]; congr 1; omega
   | true =>
    simp only [GR,evK,binV,intOp,strOp,shOp,unV,Nat.reduceLT,Nat.reduceEqDiff,Nat.reduceAdd,↓reduceIte,Nat.reduceLeDiff,reduceCtorEq]
    rw [X_draw]
    refine l38_6 ?_
    simp only [GR,evK,binV,intOp,strOp,shOp,unV,Nat.reduceLT,Nat.reduceEqDiff,Nat.reduceAdd,↓reduceIte,Nat.reduceLeDiff,reduceCtorEq,r38_6a,gl,gs,hi,Int.natCast_nonneg,Int.toNat_natCast,Nat.add_zero,hx0]
    refine XCQ_of (seg_nx F ht1 (by omega)) ?_
    rintro _ h2 ⟨rfl,k2⟩
    refine ⟨k2,?_⟩
    simp only [GR,evK,binV,intOp,strOp,shOp,unV,Nat.reduceLT,Nat.reduceEqDiff,Nat.reduceAdd,↓reduceIte,Nat.reduceLeDiff,reduceCtorEq,r38_6b]
    have hsl := segN_len (n := s.fst) (by omega)
    have hl2 : lo ≤ h2.size := Nat.le_trans hl1 k2.size
    obtain ⟨fb,ef,hfbs,hfsz,hfg,_⟩ := hnb
    have ow1x : Ow lo h1 ([] ++ (dkX R bd bm k (fs1 ++ g :: []) ++ (lgX lb bd (some sbb) gc (pre ++ [s]) nx sy br ++ (m2 ++ [(fb,.cells (frameF cs) 5 true false none)])))) := by
     have := Ow.newM (m1 := dkX R bd bm k fs ++ (lgX lb bd (some sbb) gc (pre ++ [s]) nx sy br ++ m2)) (m2 := []) (by simpa using ow) k1 hfsz hlo hfg
     rw [hfsp] at this
     simpa using this
    have hdk := lok.dk
    rw [hfsp] at hdk
    refine XC_of (sync33x F (m1 := []) (ow1x.kp k2) hl2 (hdk.emp g (by simp)) hgn hg1 (by omega) (by omega)) ?_
    rintro _ h3 ⟨rfl,ow3,k3⟩
    have ow3 : Ow lo h3 (dkX R bd bm k (fs1 ++ { g with syn := g.cs.length } :: []) ++ (lgX lb bd (some sbb) gc (pre ++ [s]) nx sy br ++ (m2 ++ [(fb,.cells (frameF cs) 5 true false none)]))) := ow3
    obtain ⟨s',hs'⟩ : ∃ s' : Sg,s' = { s with loose := false } := ⟨_,rfl⟩
    have t3 : setR s.cells 3 [.bool false] = s'.cells := by rw [hs']; rfl
    have hf' : s'.foot = s.foot := by rw [hs']; rfl
    have ow3a : Ow lo h3 ((dkX R bd bm k (fs1 ++ { g with syn := g.cs.length } :: []) ++ [(lb,lgO bd (vlo (some sbb) gc.length (pre.length + 1)) nx sy br)]) ++ (sbb,.cells (gc ++ (pre.flatMap Sg.cells ++ s.cells)) 74 true false none) :: ((pre ++ [s]).flatMap Sg.foot ++ (m2 ++ [(fb,.cells (frameF cs) 5 true false none)]))) := by
     have := ow3
     unfold lgX at this
     rw [hfm,hlen] at this
     simpa [fpt] using this
    have gs3 := ow3a.at (i := sbb) (o := .cells (gc ++ (pre.flatMap Sg.cells ++ s.cells)) 74 true false none) (by simp)
    have gl3 := ow3a.at (i := lb) (o := lgO bd (vlo (some sbb) gc.length (pre.length + 1)) nx sy br) (by simp)
    have hss : (gc ++ (pre.flatMap Sg.cells ++ s.cells)).length = gc.length + pre.length * 4 + 4 := by rw [List.length_append,List.length_append,seg_len,show s.cells.length = 4 from rfl]; omega
    have e4 := put_at (ws := [.bool false]) (o := gc.length + pre.length * 4 + 3) gs3 (by rw [hss]; simp) rfl rfl
    rw [seg_setO,t3] at e4
    obtain ⟨ow4,k4⟩ := ow3a.setM (.cells (gc ++ (pre.flatMap Sg.cells ++ s'.cells)) 74 true false none)
    generalize h3.set sbb (.cells (gc ++ (pre.flatMap Sg.cells ++ s'.cells)) 74 true false none) = h4 at *
    unfold lgO lgC at gl3
    rw [hvl] at gl3
    simp only [GR,evK,binV,intOp,strOp,shOp,unV,Nat.reduceLT,Nat.reduceEqDiff,Nat.reduceAdd,↓reduceIte,Nat.reduceLeDiff,reduceCtorEq,r38_7,c4,r38_9,gl3,gs3,hi,Int.natCast_nonneg,Int.toNat_natCast,e4]
    have kk4 : Keeps lo h1 h4 := Keeps.trans (k2.mono hl1) (Keeps.trans k3 k4)
    have hl4 : lo ≤ h4.size := Nat.le_trans hl1 kk4.size
    have gf4 := ow4.at (i := fb) (o := .cells (frameF cs) 5 true false none) (by simp)
    have ow4 : Ow lo h4 ((dkX R bd bm k (fs1 ++ { g with syn := g.cs.length } :: []) ++ [(lb,lgO bd (vlo (some sbb) gc.length (pre.length + 1)) nx sy br)]) ++ (sbb,.cells (gc ++ (pre.flatMap Sg.cells ++ s'.cells)) 74 true false none) :: ((pre ++ [s]).flatMap Sg.foot ++ m2)) := by
     refine Ow.left (m1 := [(fb,.cells (frameF cs) 5 true false none)]) ?_
     simpa using ow4
    have ow4a : Ow lo h4 (dkX R bd bm k (fs1 ++ { g with syn := g.cs.length } :: []) ++ (lgX lb bd (some sbb) gc (pre ++ [s']) nx sy br ++ m2)) := by
     unfold lgX
     rw [show (pre ++ [s']).length = pre.length + 1 by simp,show (pre ++ [s']).flatMap Sg.cells = pre.flatMap Sg.cells ++ s'.cells by simp,show (pre ++ [s']).flatMap Sg.foot = (pre ++ [s]).flatMap Sg.foot by simp [hf']]
     simpa [fpt] using ow4
    have hsh : (pre ++ [s']).map Sg.sh = (pre ++ [s]).map Sg.sh := by rw [hs']; simp [Sg.sh]
    have hsy := lok.syn
    rw [hfsp] at hsy
    have hok4 : LOX R (fs1 ++ { g with syn := g.cs.length } :: []) (some sbb) gc (pre ++ [s']) a nx := by
     refine ⟨chain_snoc.2 ⟨?_,⟨?_,?_,?_⟩,?_⟩,lok.lim,by simp,dkx_syn hdk,?_,?_,?_⟩
     ·rw [hs']; exact hc1
     ·rw [hs']; exact hc2.ne
     ·rw [hs']; exact hc2.nn
     ·rw [hs']; exact hc2.rc
     ·rw [hs']; exact hc3
     ·have := lok.fil
      rw [hfsp] at this
      rw [hs']
      simpa [Sg.byt] using this
     ·intro x hx
      rcases List.mem_append.1 hx with h | h
      ·exact lok.siz x (List.mem_append_left _ h)
      ·rw [List.mem_singleton.1 h,hs']; exact hsize
     ·exact syn_mid (fs2 := []) (f := g) hsy ⟨by simp,by simp⟩
    have hfb4 : Rx h4 f (frameF cs) := by
     rw [ef]
     exact ⟨_,_,_,rfl,vl_elems gf4,hfbs⟩
    refine new38x F hu (f := f) ow4a hl4 h1lo (F.tlow _ _ _ h1lo ht1 kk4) (Keeps.trans kk1 kk4) hok4 hl (hsh ▸ hA) (fun h' k => hvs1 h' (Keeps.trans kk4 k)) hn1 hn2 hfb4 ?_ ?_ ?_ ?_
    ·rfl
    ·rfl
    ·rfl
    ·show V.int .i64 ((pre.length : Nat) : Int) = V.int .i64 (((pre ++ [s']).length : Int) - 1)
     rw [show (pre ++ [s']).length = pre.length + 1 by simp]; congr 1; omega
  ·have hA : oneP R nx ((pre ++ [s]).map Sg.sh) cs = (if R < useA ((pre ++ [s]).map Sg.sh) + (frameF cs).length then (6,(pre ++ [s]).map Sg.sh) else (0,pre.map Sg.sh ++ [(s.fst,s.rs.map Rc.cs ++ [cs])])) := by
    rw [List.map_append,List.map_cons,List.map_nil]
    exact oneP_old (by rw [byt_sh]; omega)
   have huse := fil_use lok.fil
   simp only [GR,evK,binV,intOp,strOp,shOp,unV,Nat.reduceLT,Nat.reduceEqDiff,Nat.reduceAdd,↓reduceIte,Nat.reduceLeDiff,reduceCtorEq,r38_1,c4,r38_3,gl,hw,r38_4,c1,c2,hi,Int.natCast_nonneg,Int.toNat_natCast,gs,hx2,hsz]
   rw [X_draw]
   refine l38_15 ?_
   simp only [GR,evK,binV,intOp,strOp,shOp,unV,Nat.reduceLT,Nat.reduceEqDiff,Nat.reduceAdd,↓reduceIte,Nat.reduceLeDiff,reduceCtorEq,r38_15a,gl,gs,hi,Int.natCast_nonneg,Int.toNat_natCast,Nat.add_zero,hx0]
   refine XCQ_of (seg_nx F ht1 (by omega)) ?_
   rintro _ h2 ⟨rfl,k2⟩
   refine ⟨k2,?_⟩
   have hl2 : lo ≤ h2.size := Nat.le_trans hl1 k2.size
   have hsl := segN_len (n := s.fst) (by omega)
   simp only [GR,evK,binV,intOp,strOp,shOp,unV,Nat.reduceLT,Nat.reduceEqDiff,Nat.reduceAdd,↓reduceIte,Nat.reduceLeDiff,reduceCtorEq,r38_15b]
   refine XC_of (append65x F hu (m1 := []) (ow1.kp k2) hl2 lok.dk (hfb.kp k2) (by omega) (by omega) (by omega)) ?_
   rintro _ h3 ⟨e,fs',rfl,ow3,dk3,had,k3⟩
   have ow3 : Ow lo h3 (dkX R bd bm k fs' ++ (lgX lb bd (some sbb) gc (pre ++ [s]) nx sy br ++ m2)) := ow3
   have kk3 : Keeps lo h1 h3 := Keeps.trans (k2.mono hl1) k3
   rcases had with ⟨rfl,_,h3',_⟩ | ⟨rfl,hfs,_,h4⟩ | ⟨rfl,h3',_,_,_,_,_⟩ | ⟨rfl,h4,fs1',g',fs2',b',hsp,hgn',hg1',hfs⟩
   ·exact (h3' g (by rw [hfsp]; simp) hgn).elim
   ·have c5 : ((6 : Int) != 0) = true := rfl
    simp only [GR,evK,binV,intOp,strOp,shOp,unV,Nat.reduceLT,Nat.reduceEqDiff,Nat.reduceAdd,↓reduceIte,Nat.reduceLeDiff,reduceCtorEq,r38_16,c5,r38_17]
    exact ⟨6,fs',some sbb,gc,pre ++ [s],nx,rfl,ow3,hfs ▸ lok,by rw [hA,if_pos (by omega)],rfl,Keeps.trans kk1 kk3⟩
   ·exact (h3' g (by rw [hfsp]; simp) hgn).elim
   have hsame : fs1' = fs1 ∧ g' = g ∧ fs2' = [] := by
    have e := hfsp.symm.trans hsp
    rcases List.append_eq_append_iff.1 e with ⟨ys0,h5,h6⟩ | ⟨bs,h5,h6⟩
    ·cases ys0 with
     | nil => simp at h5 h6; exact ⟨h5,h6.1.symm,h6.2⟩
     | cons x ys0 =>
      simp only [List.cons_append,List.cons.injEq] at h6
      exact (hg1' x (by rw [h5]; simp) (h6.1 ▸ hgn)).elim
    ·cases bs with
     | nil => simp at h5 h6; exact ⟨h5.symm,h6.1,h6.2⟩
     | cons x bs =>
      simp only [List.cons_append,List.cons.injEq] at h6
      exact (hg1 x (by rw [h5]; simp) (h6.1 ▸ hgn')).elim
   obtain ⟨rfl,rfl,rfl⟩ := hsame
   have c5 : ((0 : Int) != 0) = false := rfl
   simp only [GR,evK,binV,intOp,strOp,shOp,unV,Nat.reduceLT,Nat.reduceEqDiff,Nat.reduceAdd,↓reduceIte,Nat.reduceLeDiff,reduceCtorEq,r38_16,c5]
   refine tail38x F (R := R) (k := k) (a := a) (m2 := m2) (gc := gc) (pre := pre) (s := s) (sbb := sbb) (fs := fs') (fp := fp) (fc := fc) (fo := fo) ow3 (Nat.le_trans hl1 kk3.size) (Keeps.trans kk1 kk3) hc1 hc3 hl hc2.nn hc2.rc dk3 ?_ lok.siz ?_ ?_ (hvs1 _ kk3 ow3.right.right) hn1 hn2 ?_ ?_ ?_ ?_
   ·rw [hfs,List.map_append,hfil1,List.map_cons,List.map_nil,hgn,hgc]
   ·have hsy := lok.syn
    rw [hfsp] at hsy
    rw [hfs]
    refine syn_mid (fs2 := []) (f := g') hsy ?_
    have := hsy g' (by simp)
    simp only [List.length_append]
    omega
   ·rw [hA,if_neg (by omega)]
   ·rfl
   ·rfl
   ·exact hff
   ·rfl
end Go.AM.Wc
namespace Go.AM.Wc
open Go.AM
variable {P : Program} {E : Env} {T : H → Prop}
def runP (R : Nat) : List (List V) → Nat → List SegA → Int × List SegA × Nat × Bool
 | [],nx,A => (0,A,nx,false)
 | c :: r,nx,A => if (oneP R nx A c).1 = 0 then runP R r (nx + 1) (oneP R nx A c).2 else ((oneP R nx A c).1,(oneP R nx A c).2,nx,true)
def appP (R : Nat) (cs : List (List V)) (nx : Nat) (A : List SegA) (br : Bool) : Int × List SegA × Nat × Bool :=
 if br then (51,A,nx,br) else if cs.any badR then (50,A,nx,br) else if 1000000000000 < nx + cs.length then (3,A,nx,br) else runP R cs nx A
def AppX (R lo lb bd bm k a nx : Nat) (sy : Int) (br : Bool) (m2 : List Cell) (A : List SegA) (cs : List (List V)) (h0 : H) (r : V) (h' : H) : Prop :=
 ∃ e fs' sb' gc' sgs' nx' br',r = .int .i64 e ∧ Ow lo h' (dkX R bd bm k fs' ++ (lgX lb bd sb' gc' sgs' nx' sy br' ++ m2)) ∧ LOX R fs' sb' gc' sgs' a nx' ∧ (e,sgs'.map Sg.sh,nx',br') = appP R cs nx A br ∧ Keeps lo h0 h'
theorem fail37x (F : Fw P E T) {lo : Nat} {h : H} {R lb bd bm k : Nat} {sb : Option Nat} {gc : List V} {fs : List Fl} {sgs : List Sg} {nx : Nat} {sy e : Int} {br : Bool} {m2 : List Cell} (ow : Ow lo h (dkX R bd bm k fs ++ (lgX lb bd sb gc sgs nx sy br ++ m2))) :
  Sp P E (.func 37 [] []) [.ptr (some (lb,0)),.int .i64 e] h fun v h' => v = .int .i64 e ∧ Ow lo h' (dkX R bd bm k fs ++ (lgX lb bd sb gc sgs nx sy (br || e != 0) ++ m2)) ∧ Keeps lo h h' := by
 have ow' : Ow lo h (dkX R bd bm k fs ++ (lb,lgO bd (vlo sb gc.length sgs.length) nx sy br) :: (fpt sb 74 (gc ++ sgs.flatMap Sg.cells) ++ sgs.flatMap Sg.foot ++ m2)) := by simpa [lgX] using ow
 refine Sp.mono (fail37 F (e := e) ow') ?_
 rintro v h' ⟨h1,h2,h3⟩
 exact ⟨h1,by simpa [lgX] using h2,h3⟩
set_option maxHeartbeats 1000000 in
theorem append9x (F : Fw P E T) (hu : E.prim 105 = some usedK) {lo : Nat} {h : H} {R lb bd bm k a nx : Nat} {sy : Int} {br : Bool} {fs : List Fl} {sb : Option Nat} {gc : List V} {sgs : List Sg} {m2 : List Cell} {v : V} {xs : List (V × List V)}
  (ow : Ow lo h (dkX R bd bm k fs ++ (lgX lb bd sb gc sgs nx sy br ++ m2))) (hlo : lo ≤ h.size) (h1lo : 1 ≤ lo) (ht : T h) (lok : LOX R fs sb gc sgs a nx)
  (hvs : ∀ h',Keeps lo h h' → Ow lo h' m2 → Rlx h' v xs) (hxl : xs.length ≤ 1099511627776) : Sp P E (.func 9 [] []) [.ptr (some (lb,0)),v] h (AppX R lo lb bd bm k a nx sy br m2 (sgs.map Sg.sh) (xs.map (·.2)) h) := by
 have hv := hvs h (Keeps.refl _ _) ow.right.right
 obtain ⟨vp,vc,vo,hvv,_⟩ := hv
 obtain ⟨p,c,o,hsv⟩ := vlo_shape sb gc.length sgs.length (fun h => by rw [(lok.sbn h).1]; rfl)
 have gl := ow.at (i := lb) (o := lgO bd (vlo sb gc.length sgs.length) nx sy br) (by simp [lgX])
 have hml : (xs.map (·.2)).length = xs.length := List.length_map ..
 have same : ∀ e,(e,sgs.map Sg.sh,nx,br) = appP R (xs.map (·.2)) nx (sgs.map Sg.sh) br → AppX R lo lb bd bm k a nx sy br m2 (sgs.map Sg.sh) (xs.map (·.2)) h (.int .i64 e) h := fun e he => ⟨e,fs,sb,gc,sgs,nx,br,rfl,ow,lok,he,Keeps.refl _ _⟩
 have hany : (xs.map (·.2)).any badR = xs.any fun p => badR p.2 := by rw [List.any_map]; rfl
 have loop : br = false → (∀ p ∈ xs,1 ≤ p.2.length ∧ p.2.length ≤ 65536) → ∀ (d i : Nat) (ρ : Nat → V) (h1 : H) (fs1 : List Fl) (sb1 : Option Nat) (gc1 : List V) (sgs1 : List Sg) (nx1 : Nat),xs.length - i = d → i ≤ xs.length → nx1 + (xs.length - i) ≤ 1000000000000 → Ow lo h1 (dkX R bd bm k fs1 ++ (lgX lb bd sb1 gc1 sgs1 nx1 sy false ++ m2)) → LOX R fs1 sb1 gc1 sgs1 a nx1 → Keeps lo h h1 →
   runP R ((xs.map (·.2)).drop i) nx1 (sgs1.map Sg.sh) = appP R (xs.map (·.2)) nx (sgs.map Sg.sh) br →
   ρ 0 = .ptr (some (lb,0)) → ρ 28 = v → ρ 29 = .int .i64 xs.length → ρ 30 = .int .i64 i →
   XL P E none 43 b9_10 [.b 1,.c (.seq (.region [⟨some 4,.mv (.k (.int .i64 0)),none,0,[4]⟩]) (.ret))] ρ h1 (Fin [.t 4] (AppX R lo lb bd bm k a nx sy br m2 (sgs.map Sg.sh) (xs.map (·.2)) h)) := by
  intro hbr hall d
  induction d with
  | zero =>
   intro i ρ h1 fs1 sb1 gc1 sgs1 nx1 hd hk hn ow1 lok1 kk hrun q0 q28 q29 q30
   have hke : ¬ i < xs.length := by omega
   rw [u9_10]
   simp only [GR,evK,binV,intOp,strOp,shOp,unV,Nat.reduceLT,Nat.reduceEqDiff,Nat.reduceAdd,↓reduceIte,Nat.reduceLeDiff,reduceCtorEq,q29,q30,Int.ofNat_lt,hke]
   rw [List.drop_of_length_le (by omega)] at hrun
   exact ⟨0,fs1,sb1,gc1,sgs1,nx1,false,rfl,ow1,lok1,hrun,kk⟩
  | succ d ih =>
   intro i ρ h1 fs1 sb1 gc1 sgs1 nx1 hd hk hn ow1 lok1 kk hrun q0 q28 q29 q30
   have hke : i < xs.length := by omega
   have hw : IntKind.i64.wrap ((i : Int) + 1) = ((i + 1 : Nat) : Int) := wrap_nat (n := i + 1) (by omega)
   have hv1 := hvs h1 kk ow1.right.right
   obtain ⟨b1,o1,c1,p1,cs,ty,op,ro,fz,hvb,hg1,hx⟩ := hv1.at hke
   have hrb : ∀ h',Keeps lo h1 h' → Ow lo h' m2 → Rx h' xs[i].1 xs[i].2 := fun h' k' om => by
    obtain ⟨_,_,_,_,_,h3⟩ := hvs h' (Keeps.trans kk k') om
    exact h3 _ (List.getElem_mem hke)
   have hb := hall _ (List.getElem_mem hke)
   have q28' := q28.trans hvb
   have hdr : (xs.map (·.2)).drop i = xs[i].2 :: (xs.map (·.2)).drop (i + 1) := by
    rw [List.drop_eq_getElem_cons (by rw [hml]; exact hke),List.getElem_map]
   rw [hdr] at hrun
   unfold runP at hrun
   have hsh := (hrb h1 (Keeps.refl _ _) ow1.right.right).shape
   obtain ⟨rp,rc,ro',hrv⟩ := hsh
   rw [u9_10]
   simp only [GR,evK,binV,intOp,strOp,shOp,unV,Nat.reduceLT,Nat.reduceEqDiff,Nat.reduceAdd,↓reduceIte,Nat.reduceLeDiff,reduceCtorEq,q29,q30,Int.ofNat_lt,hke,r9_5,q28',Int.natCast_nonneg,Int.toNat_natCast,Nat.mul_one,hg1,hx,r9_6,q0]
   refine XC_of (one38x F hu ow1 (Nat.le_trans hlo kk.size) h1lo (F.tlow _ _ _ h1lo ht kk) lok1 (by omega) hrb hb.1 hb.2) ?_
   rintro _ h2 ⟨e,fs2,sb2,gc2,sgs2,nx2,rfl,ow2,lok2,hone,hnx2,k2⟩
   rw [← hone] at hrun
   simp only at hrun
   simp only [GR,evK,binV,intOp,strOp,shOp,unV,Nat.reduceLT,Nat.reduceEqDiff,Nat.reduceAdd,↓reduceIte,Nat.reduceLeDiff,reduceCtorEq]
   refine XC_of (fail37x F (e := e) ow2) ?_
   rintro _ h3 ⟨rfl,ow3,k3⟩
   have kk3 := Keeps.trans kk (Keeps.trans k2 k3)
   by_cases he : e = 0
   ·rw [if_pos he] at hrun hnx2
    have he' : (e != 0) = false := by rw [he]; rfl
    rw [he',Bool.or_self,hnx2] at ow3
    rw [hnx2] at lok2
    simp only [GR,evK,binV,intOp,strOp,shOp,unV,Nat.reduceLT,Nat.reduceEqDiff,Nat.reduceAdd,↓reduceIte,Nat.reduceLeDiff,reduceCtorEq,r9_7,he',r9_9,q30,hw]
    refine ih (i + 1) _ h3 fs2 sb2 gc2 sgs2 _ (by omega) (by omega) (by omega) ow3 lok2 kk3 hrun ?_ ?_ ?_ ?_
    ·exact q0
    ·exact q28
    ·exact q29
    ·rfl
   ·rw [if_neg he] at hrun hnx2
    have he' : (e != 0) = true := by simpa using he
    rw [he',Bool.or_true,hnx2] at ow3
    rw [hnx2] at lok2
    simp only [GR,evK,binV,intOp,strOp,shOp,unV,Nat.reduceLT,Nat.reduceEqDiff,Nat.reduceAdd,↓reduceIte,Nat.reduceLeDiff,reduceCtorEq,r9_7,he',r9_8]
    exact ⟨e,fs2,sb2,gc2,sgs2,nx1,true,rfl,ow3,lok2,hrun,kk3⟩
 refine Sp_fn F.f9 F.p9 (by simp [fn9]) ?_
 simp only [GR,evK,binV,intOp,strOp,shOp,unV,Nat.reduceLT,Nat.reduceEqDiff,Nat.reduceAdd,↓reduceIte,Nat.reduceLeDiff,reduceCtorEq,fn9,c9,r9_0]
 refine XC_of (none34 F gl) ?_
 rintro _ hx ⟨rfl,e2⟩
 rw [e2]
 clear e2 hx
 have gl0 := gl
 rw [hsv] at gl
 unfold lgO lgC at gl
 cases hbr : br with
 | true =>
  rw [hbr] at gl same
  simp only [GR,evK,binV,intOp,strOp,shOp,unV,Nat.reduceLT,Nat.reduceEqDiff,Nat.reduceAdd,↓reduceIte,Nat.reduceLeDiff,reduceCtorEq,r9_1,gl]
  exact same 51 rfl
 | false =>
  rw [hbr] at gl same loop
  simp only [GR,evK,binV,intOp,strOp,shOp,unV,Nat.reduceLT,Nat.reduceEqDiff,Nat.reduceAdd,↓reduceIte,Nat.reduceLeDiff,reduceCtorEq,r9_1,gl,r9_2]
  refine XC_of (contains35x F (hvs h (Keeps.refl _ _) ow.right.right) hxl) ?_
  rintro _ hx ⟨rfl,e2⟩
  rw [e2]
  clear e2 hx
  cases hbad : xs.any fun p => badR p.2 with
  | true =>
   simp only [GR,evK,binV,intOp,strOp,shOp,unV,Nat.reduceLT,Nat.reduceEqDiff,Nat.reduceAdd,↓reduceIte,Nat.reduceLeDiff,reduceCtorEq]
   exact same 50 (by unfold appP; rw [if_neg (by simp),hany,hbad,if_pos rfl])
  | false =>
   have hall : ∀ p ∈ xs,1 ≤ p.2.length ∧ p.2.length ≤ 65536 := by
    intro p hp
    have := List.any_eq_false.1 hbad p hp
    simp only [badR,decide_eq_true_eq] at this
    omega
   rw [hvv] at loop ⊢
   have hlim := lok.lim
   have hw : IntKind.i64.wrap ((1000000000000 : Int) - (nx : Int)) = 1000000000000 - (nx : Int) := wrap_le (by omega) (by omega)
   by_cases hg : (xs.length : Int) > 1000000000000 - (nx : Int)
   ·simp only [GR,evK,binV,intOp,strOp,shOp,unV,Nat.reduceLT,Nat.reduceEqDiff,Nat.reduceAdd,↓reduceIte,Nat.reduceLeDiff,reduceCtorEq,r9_3,gl,hw,hg]
    exact same 3 (by unfold appP; rw [if_neg (by simp),hany,hbad,if_neg (by simp),if_pos (by rw [hml]; omega)])
   ·simp only [GR,evK,binV,intOp,strOp,shOp,unV,Nat.reduceLT,Nat.reduceEqDiff,Nat.reduceAdd,↓reduceIte,Nat.reduceLeDiff,reduceCtorEq,r9_3,gl,hw,hg,r9_4]
    have ow' := ow
    rw [hbr] at ow'
    refine loop rfl hall xs.length 0 _ h fs sb gc sgs nx rfl (Nat.zero_le _) (by omega) ow' lok (Keeps.refl _ _) ?_ ?_ ?_ ?_ ?_
    ·unfold appP; rw [if_neg (by simp),hany,hbad,if_neg (by simp),if_neg (by rw [hml]; omega)]; rfl
    ·rfl
    ·rfl
    ·rfl
    ·rfl
end Go.AM.Wc
namespace Go.AM.Wc
open Go.AM
theorem or_add {a x i : Nat} (ha : a < 2 ^ i) : a ||| (x * 2 ^ i) = a + x * 2 ^ i := by
 have := Nat.two_pow_add_eq_or_of_lt ha x
 rw [Nat.or_comm,Nat.mul_comm x,← this,Nat.add_comm]
theorem bv_or {a b : Nat} (ha : a < 2 ^ 64) (hb : b < 2 ^ 64) : (BitVec.ofInt 64 (a : Int) ||| BitVec.ofInt 64 (b : Int)).toNat = a ||| b := by
 rw [BitVec.toNat_or,BitVec.toNat_ofInt,BitVec.toNat_ofInt]
 congr 1 <;> omega
theorem wrap_u64 {n : Nat} (h : n < 2 ^ 64) : IntKind.u64.wrap (n : Int) = n := by
 simp [IntKind.wrap,IntKind.signed,IntKind.bits,IntKind.max]
 omega
theorem or_u64 {a x i : Nat} (ha : a < 2 ^ i) (hx : a + x * 2 ^ i < 2 ^ 64) : IntKind.u64.wrap ((BitVec.ofInt 64 (a : Int) ||| BitVec.ofInt 64 ((x * 2 ^ i : Nat) : Int)).toNat : Int) = ((a + x * 2 ^ i : Nat) : Int) := by
 rw [bv_or (by omega) (by omega),or_add ha,wrap_u64 hx]
theorem byte_and (u : Nat) (h : u < 256) : (BitVec.ofInt 8 (u : Int) &&& BitVec.ofInt 8 127).toNat = u % 128 := by
 have : ∀ u : _root_.Fin 256,(BitVec.ofInt 8 (u.val : Int) &&& BitVec.ofInt 8 127).toNat = u.val % 128 := by decide +kernel
 exact this ⟨u,h⟩
theorem byte_or (u : Nat) (h : u < 256) : (BitVec.ofInt 8 (u : Int) ||| BitVec.ofInt 8 128).toNat = u % 128 + 128 := by
 have : ∀ u : _root_.Fin 256,(BitVec.ofInt 8 (u.val : Int) ||| BitVec.ofInt 8 128).toNat = u.val % 128 + 128 := by decide +kernel
 exact this ⟨u,h⟩
end Go.AM.Wc
