/- My own texts, laid for this claim. -/
import Derived.Test.YtpfoofcallfjjaaGreatDoorWe26ToWf8
set_option linter.unusedSimpArgs false
set_option linter.unusedVariables false
namespace Go.AM.Wc
open Go.AM Go.AM.Wd Go.AM.We Go.AM.Wf
variable {P : Program} {E : Env} {T : H → Prop}
theorem chA_next : ∀ {A : List SegA} {a z : Nat},chA A a z → ∀ i (hi : i < A.length),(∀ hj : i + 1 < A.length,A[i + 1].1 = A[i].1 + A[i].2.length) ∧ (i + 1 = A.length → A[i].1 + A[i].2.length = z)
 | [],_,_,_,i,hi => by simp at hi
 | s :: r,a,z,h,i,hi => by
  obtain ⟨h1,h2,h3⟩ := h
  cases i with
  | zero =>
   cases r with
   | nil =>
    refine ⟨fun hj => by simp at hj,fun _ => ?_⟩
    simp only [chA] at h3
    simp only [List.getElem_cons_zero]; omega
   | cons t r =>
    obtain ⟨q1,_,_⟩ := h3
    refine ⟨fun _ => ?_,fun he => by simp at he⟩
    simp only [List.getElem_cons_succ,List.getElem_cons_zero]; omega
  | succ i =>
   obtain ⟨q1,q2⟩ := chA_next h3 i (by simpa using hi)
   refine ⟨fun hj => ?_,fun he => ?_⟩
   ·simp only [List.getElem_cons_succ]; exact q1 (by simpa using hj)
   ·simp only [List.getElem_cons_succ]; exact q2 (by simpa using he)
theorem chain_of : ∀ {sgs : List Sg} {a z : Nat},chA (sgs.map Sg.sh) a z → (∀ s ∈ sgs,okS s) → chain sgs a z
 | [],_,_,h,_ => h
 | s :: r,a,z,h,ho => by
  obtain ⟨h1,h2,h3⟩ := h
  refine ⟨h1,ho s List.mem_cons_self,chain_of ?_ fun x hx => ho x (List.mem_cons_of_mem _ hx)⟩
  simpa [Sg.sh] using h3
theorem at_fy {fs : List Fy} {A : List SegA} {i : Nat} (h : fs.map (fun f => (f.name,f.cs)) = A.map fA) (hi : i < A.length) : ∃ f1 f f2,fs = f1 ++ f :: f2 ∧ f.name = segN A[i].1 ∧ f.cs = bytA A[i] ∧ f1.map Fy.name = (A.take i).map fun s => segN s.1 := by
 have hl : fs.length = A.length := by have := congrArg List.length h; simpa using this
 have hg : (f : Fy) → fs[i]? = some f → (f.name,f.cs) = fA A[i] := fun f hf => by
  have := congrArg (fun l => l[i]?) h
  simp only [List.getElem?_map,hf,List.getElem?_eq_getElem hi,Option.map_some,Option.some.injEq] at this
  exact this
 have hif : i < fs.length := by omega
 have he := hg fs[i] (List.getElem?_eq_getElem hif)
 simp only [fA,Prod.mk.injEq] at he
 refine ⟨fs.take i,fs[i],fs.drop (i + 1),by simp,he.1,he.2,?_⟩
 have := congrArg (fun l => (l.take i).map Prod.fst) h
 simp only [← List.map_take,List.map_map] at this
 exact this
structure AOK (A : List SegA) (a nx : Nat) : Prop where
 ch : chA A a nx
 lim : nx ≤ 1000000000000
 few : A.length ≤ 1048576
 rc : ∀ s ∈ A, ∀ c ∈ s.2,Bs c ∧ 1 ≤ c.length ∧ c.length ≤ 65536
 sz : ∀ s ∈ A,(bytA s).length ≤ 4194304
 nil : A = [] → nx = 0
theorem AOK.n9 {A : List SegA} {a nx : Nat} (k : AOK A a nx) {s : SegA} (hs : s ∈ A) : s.1 ≤ 999999999999 ∧ s.1 + s.2.length ≤ 1000000000000 ∧ s.2 ≠ [] := by
 obtain ⟨q1,q2,q3⟩ := chA_mem k.ch s hs
 have := k.lim
 have : 1 ≤ s.2.length := List.length_pos_iff.2 q1
 exact ⟨by omega,by omega,q1⟩
theorem fy_ne {f1 : List Fy} {f : Fy} {A : List SegA} {a nx i : Nat} (ok : AOK A a nx) (hi : i < A.length) (hf : f.name = segN A[i].1) (h1 : f1.map Fy.name = (A.take i).map fun s => segN s.1) : ∀ g ∈ f1,g.name ≠ f.name := fun g hg e => by
 have := ahead ok.ch ok.lim hi g.name (by rw [← h1]; exact List.mem_map.2 ⟨g,hg,rfl⟩)
 rw [e,hf,less_self] at this; cases this
set_option maxHeartbeats 1000000 in
theorem loop8 (F : Fw P E T) (D : Fd P E) (G : Fe P E) {h0 hb : H} {R bd bm k lb a nx : Nat} {nb : Option Nat} {A : List SegA} {fs : List Fy} {K : List Fr} {Q : Po} (ok : AOK A a nx) (ht : T h0) (kb : Kp h0 hb) (dv : DV hb R bd bm k fs) (hfs : fs.map (fun f => (f.name,f.cs)) = A.map fA) (hnb0 : nb = none → A = [])
  (hkeep : ∀ h',Keeps h0.size hb h' → DV h' R bd bm k fs)
  (cont : ∀ (ρ' : Nat → V) (h' : H) (sb : Option Nat) (sgs : List Sg),sgs.map Sg.sh = A → (∀ s ∈ sgs,okS s ∧ s.size = ((bytA s.sh).length : Int)) → (sb = none → sgs = []) → Ow h0.size h' (lgX lb bd sb [] sgs nx 0 false ++ fpt nb 2 (A.map fun s => numV s.1)) → Keeps h0.size hb h' → ρ' 0 = .ptr (some (bd,0)) → ρ' 1 = .str logN → ρ' 6 = .ptr (some (lb,0)) → X P E none 167 K ρ' h' Q) :
  ∀ (d i nxi : Nat) (ρ : Nat → V) (h : H) (sb : Option Nat) (sgs : List Sg),A.length - i = d → i ≤ A.length → (i = A.length → nxi = nx) → sgs.map Sg.sh = A.take i → (∀ s ∈ sgs,okS s ∧ s.size = ((bytA s.sh).length : Int)) → (sb = none → sgs = []) → Ow h0.size h (lgX lb bd sb [] sgs nxi 0 false ++ fpt nb 2 (A.map fun s => numV s.1)) → Keeps h0.size hb h →
   ρ 0 = .ptr (some (bd,0)) → ρ 1 = .str logN → ρ 6 = .ptr (some (lb,0)) → ρ 7 = vl nb A.length → ρ 37 = vl nb A.length → ρ 38 = .int .i64 A.length → ρ 39 = .int .i64 i → XL P E none 167 b8_26 (.b 1 :: K) ρ h Q := by
 intro d
 induction d with
 | zero =>
  intro i nxi ρ h sb sgs hd hi hnx hsh hok hsb ow kk q0 q1 q6 q7 q37 q38 q39
  have hke : ¬ (i : Int) < (A.length : Int) := by omega
  have hie : i = A.length := by omega
  rw [hnx hie] at ow
  rw [List.take_of_length_le (by omega)] at hsh
  rw [u8_26]
  simp only [GR,evK,binV,intOp,strOp,shOp,unV,Nat.reduceLT,Nat.reduceEqDiff,Nat.reduceAdd,↓reduceIte,Nat.reduceLeDiff,reduceCtorEq,q38,q39,hke]
  exact cont _ h sb sgs hsh hok hsb ow kk q0 q1 q6
 | succ d ih =>
  intro i nxi ρ h sb sgs hd hi hnx hsh hok hsb ow kk q0 q1 q6 q7 q37 q38 q39
  have hke : i < A.length := by omega
  have hm := List.getElem_mem hke
  have dv' := hkeep h kk
  have hnb' : ∀ b,nb = some b → h.get b = some (.cells (A.map fun s => numV s.1) 2 true false none) := fun b hb => ow.at (by simp [fpt,hb])
  obtain ⟨f1,f,f2,hsp,e1,e2,e3⟩ := at_fy hfs hke
  obtain ⟨n1,n2⟩ := chA_next ok.ch i hke
  obtain ⟨m1,m2,m3⟩ := ok.n9 hm
  have hsl : sgs.length = i := by have := congrArg List.length hsh; rw [List.length_map,List.length_take,Nat.min_eq_left hi] at this; exact this
  have hlo : h0.size ≤ h.size := Nat.le_trans kb.size kk.size
  rw [hsp] at dv'
  refine body8 F D G (h0 := h0) (L := 0) (A := A) (i := i) (nxi := nxi) (sb := sb) (nb := nb) (sgs := sgs) (F.tlow _ _ _ (F.tsize _ ht) (F.tkeep ht kb) kk) dv' hke ok.few hsl hnb' hnb0 e1 e2 (fy_ne ok hke e1 e3) m1 m2 (ok.rc _ hm) m3 (ok.sz _ hm) n1 ow hsb hlo q0 q1 q6 q7 q37 q38 q39 ?_
  intro ρ' h' sb' s c1 c2 c3 c4 c5 c6 c7 w0 w1 w6 w7 w37 w38 w39
  refine ih (i + 1) _ ρ' h' sb' (sgs ++ [s]) (by omega) (by omega) n2 ?_ ?_ (fun h => (c5 h).elim) c6 (Keeps.trans kk c7) w0 w1 w6 w7 w37 w38 w39
  ·rw [List.map_append,hsh,List.take_succ_eq_append_getElem hke,List.map_cons,List.map_nil,c1]
  ·intro x hx
   rcases List.mem_append.1 hx with hx | hx
   ·exact hok x hx
   ·rw [List.mem_singleton.1 hx]; exact ⟨c4,by rw [c1]; exact c2⟩
end Go.AM.Wc
namespace Go.AM.Wc
open Go.AM Go.AM.Wd Go.AM.We Go.AM.Wf
variable {P : Program} {E : Env} {T : H → Prop}
set_option maxHeartbeats 2000000 in
theorem loop8b (F : Fw P E T) (G : Fe P E) {R bd bm k lb a nx : Nat} {sb : Option Nat} {sgs : List Sg} {A : List SegA} {K : List Fr} {Q : Po} (ok : AOK A a nx) (hsh : sgs.map Sg.sh = A) (hsb : sb = none → sgs = []) (fsI : Nat → List Fy) (Inv : Nat → H → Prop)
  (hDV : ∀ i h,Inv i h → DV h R bd bm k (fsI i) ∧ T h ∧ (∀ b,sb = some b → h.get b = some (.cells (sgs.flatMap Sg.cells) 74 true false none)))
  (hfs : ∀ i,(fsI i).map (fun f => (f.name,f.cs)) = A.map fA) (hKp : ∀ i h h',Inv i h → Kp h h' → Inv i h')
  (hStep : ∀ i h f,i < A.length → Inv i h → (fsI i)[i]? = some f → (f.syn < f.cs.length → Sp P E (.func 33 [] []) [.ptr (some (bd,0)),.str f.name] h fun r h' => r = .int .i64 0 ∧ Inv (i + 1) h') ∧ (¬ f.syn < f.cs.length → Inv (i + 1) h))
  (cont : ∀ (ρ' : Nat → V) (h' : H),Inv A.length h' → ρ' 6 = .ptr (some (lb,0)) → X P E none 167 K ρ' h' Q) :
  ∀ (d i : Nat) (ρ : Nat → V) (h : H),A.length - i = d → i ≤ A.length → Inv i h → ρ 0 = .ptr (some (bd,0)) → ρ 1 = .str logN → ρ 6 = .ptr (some (lb,0)) → ρ 126 = vl sb A.length → ρ 127 = .int .i64 A.length → ρ 128 = .int .i64 i → XL P E none 167 b8_35 (.b 4 :: K) ρ h Q := by
 have hsl : sgs.length = A.length := by rw [← hsh,List.length_map]
 intro d
 induction d with
 | zero =>
  intro i ρ h hd hi inv q0 q1 q6 q126 q127 q128
  have hke : ¬ (i : Int) < (A.length : Int) := by omega
  have hie : i = A.length := by omega
  subst hie
  rw [u8_35]
  simp only [GR,evK,binV,intOp,strOp,shOp,unV,Nat.reduceLT,Nat.reduceEqDiff,Nat.reduceAdd,↓reduceIte,Nat.reduceLeDiff,reduceCtorEq,q127,q128,hke]
  exact cont _ h inv q6
 | succ d ih =>
  intro i ρ h hd hi inv q0 q1 q6 q126 q127 q128
  have hke : i < A.length := by omega
  have hki : (i : Int) < (A.length : Int) := by omega
  have hks : i < sgs.length := by omega
  have hm := List.getElem_mem hke
  obtain ⟨dv,ht,hg⟩ := hDV i h inv
  obtain ⟨b,rfl⟩ : ∃ b,sb = some b := by
   cases hb : sb with
   | none => have := hsb hb; rw [this] at hks; simp at hks
   | some b => exact ⟨b,rfl⟩
  have gs := hg b rfl
  obtain ⟨m1,m2,m3⟩ := ok.n9 hm
  obtain ⟨f1,f,f2,hsp,e1,e2,e3⟩ := at_fy (hfs i) hke
  have hfl : f1.length = i := by have := congrArg List.length e3; rw [List.length_map,List.length_map,List.length_take,Nat.min_eq_left hi] at this; exact this
  have hfi : (fsI i)[i]? = some f := by rw [hsp,List.getElem?_append_right (by omega),hfl,Nat.sub_self]; rfl
  have hne := fy_ne ok hke e1 e3
  obtain ⟨st1,st2⟩ := hStep i h f hke inv hfi
  have hsA : sgs[i].fst = A[i].1 := by
   have := congrArg (fun l => l[i]?) hsh
   simp only [List.getElem?_map,List.getElem?_eq_getElem hke,List.getElem?_eq_getElem hks,Option.map_some,Option.some.injEq] at this
   rw [← this]; rfl
  have hcut : sgs.flatMap Sg.cells = (sgs.take i).flatMap Sg.cells ++ (sgs[i].cells ++ (sgs.drop (i + 1)).flatMap Sg.cells) := by
   have : sgs = sgs.take i ++ sgs[i] :: sgs.drop (i + 1) := by simp
   have := congrArg (fun l => l.flatMap Sg.cells) this
   simp only [List.flatMap_append,List.flatMap_cons] at this
   exact this
  have hpl : ((sgs.take i).flatMap Sg.cells).length = i * 4 := by rw [seg_len,List.length_take,Nat.min_eq_left (by omega)]
  have hcl : i * 4 + 4 ≤ (sgs.flatMap Sg.cells).length := by rw [seg_len]; omega
  have hgr : List.take 4 (List.drop (i * 4) (sgs.flatMap Sg.cells)) = sgs[i].cells := by
   rw [hcut,← hpl,List.drop_left]; rfl
  have hfew := ok.few
  have hvl : vl (some b) A.length = .slice (some (b,0)) A.length A.length true := rfl
  rw [hvl] at q126
  have hc4 : 4 ≤ sgs[i].cells.length := Nat.le_refl 4
  have hc4e : sgs[i].cells.length = 4 := rfl
  have hw1 : IntKind.i64.wrap ((i : Int) + 1) = ((i + 1 : Nat) : Int) := wrap_nat (n := i + 1) (by omega)
  have k1 : Kp h (h.psh (.cells [.int .i64 0,.slice none 0 0 false,.int .i64 0,.bool false] 74 false false none)) := Keeps.psh (Nat.le_refl _) _
  have g1 := psh_same h (.cells [.int .i64 0,.slice none 0 0 false,.int .i64 0,.bool false] 74 false false none)
  have e4 := put_at (ws := sgs[i].cells) (o := 0) g1 (by rw [hc4e]; simp) (by unfold Sg.cells; cases sgs[i].rb <;> rfl) rfl
  have t4 : setR [V.int .i64 0,.slice none 0 0 false,.int .i64 0,.bool false] 0 sgs[i].cells = sgs[i].cells := rfl
  rw [t4] at e4
  have k2 : Kp h ((h.psh (.cells [.int .i64 0,.slice none 0 0 false,.int .i64 0,.bool false] 74 false false none)).set h.size (.cells sgs[i].cells 74 false false none)) := Keeps.trans k1 (Keeps.set (H.get_lt g1) (Nat.le_refl _) _)
  have g2 := hset_same (H.get_lt g1) (.cells sgs[i].cells 74 false false none)
  have hs0 : sgs[i].cells[0]? = some (.int .i64 (A[i].1 : Nat)) := by show some (V.int .i64 (sgs[i].fst : Nat)) = _; rw [hsA]
  rw [u8_35]
  simp only [GR,evK,binV,intOp,strOp,shOp,unV,Nat.reduceLT,Nat.reduceEqDiff,Nat.reduceAdd,↓reduceIte,Nat.reduceLeDiff,reduceCtorEq,q127,q128,hki,r8_28,q126,Int.natCast_nonneg,Int.ofNat_lt,hke,Int.toNat_natCast,Nat.zero_add,gs,hcl,hgr,hc4e,e4]
  obtain ⟨h2,hh2⟩ : ∃ x,x = (h.psh (.cells [.int .i64 0,.slice none 0 0 false,.int .i64 0,.bool false] 74 false false none)).set h.size (.cells sgs[i].cells 74 false false none) := ⟨_,rfl⟩
  rw [← hh2] at k2 g2 ⊢
  clear hh2 e4 k1 g1
  have ht2 : T h2 := F.tkeep ht k2
  simp only [GR,evK,binV,intOp,strOp,shOp,unV,Nat.reduceLT,Nat.reduceEqDiff,Nat.reduceAdd,↓reduceIte,Nat.reduceLeDiff,reduceCtorEq,r8_29,q0,q1,g2,hs0]
  refine XC_of (seg_nx F ht2 m1) ?_
  rintro _ h3 ⟨rfl,k3⟩
  have k23 : Kp h h3 := Kp.trans k2 k3
  have dv3 := dv.kp k23
  rw [hsp] at dv3
  have ln := segN_len m1
  simp only [GR,evK,binV,intOp,strOp,shOp,unV,Nat.reduceLT,Nat.reduceEqDiff,Nat.reduceAdd,↓reduceIte,Nat.reduceLeDiff,reduceCtorEq]
  rw [← e1]
  rw [← e1] at ln
  refine XC_of (size32v F G.f32 G.p32 dv3 hne (by rw [ln]; omega) (by rw [ln]; omega)) ?_
  rintro _ h4 ⟨rfl,k4⟩
  have k24 : Kp h h4 := Kp.trans k23 k4
  have c0 : ((0 : Int) == 0) = true := rfl
  have c1 : ((0 : Int) != 0) = false := rfl
  have g4 := (Kp.trans k3 k4).of g2
  by_cases hsy : f.syn < f.cs.length
  ·have hsy' : (f.syn : Int) < (f.cs.length : Int) := by omega
   simp only [GR,evK,binV,intOp,strOp,shOp,unV,Nat.reduceLT,Nat.reduceEqDiff,Nat.reduceAdd,↓reduceIte,Nat.reduceLeDiff,reduceCtorEq,List.getElem?_cons_zero,List.getElem?_cons_succ,r8_30,c0,hsy',r8_31,q0,q1,g4,hs0]
   refine XC_of (seg_nx F (F.tkeep ht k24) m1) ?_
   rintro _ h5 ⟨rfl,k5⟩
   simp only [GR,evK,binV,intOp,strOp,shOp,unV,Nat.reduceLT,Nat.reduceEqDiff,Nat.reduceAdd,↓reduceIte,Nat.reduceLeDiff,reduceCtorEq]
   rw [← e1]
   obtain ⟨st1',_⟩ := hStep i h5 f hke (hKp _ _ _ inv (Kp.trans k24 k5)) hfi
   refine XC_of (st1' hsy) ?_
   rintro _ h6 ⟨rfl,inv6⟩
   simp only [GR,evK,binV,intOp,strOp,shOp,unV,Nat.reduceLT,Nat.reduceEqDiff,Nat.reduceAdd,↓reduceIte,Nat.reduceLeDiff,reduceCtorEq,r8_32,c1,r8_34,q128,hw1]
   refine ih (i + 1) _ h6 (by omega) (by omega) inv6 q0 q1 q6 ?_ q127 rfl
   exact q126
  ·have hsy' : ¬ (f.syn : Int) < (f.cs.length : Int) := by omega
   obtain ⟨_,st2'⟩ := hStep i h4 f hke (hKp _ _ _ inv k24) hfi
   simp only [GR,evK,binV,intOp,strOp,shOp,unV,Nat.reduceLT,Nat.reduceEqDiff,Nat.reduceAdd,↓reduceIte,Nat.reduceLeDiff,reduceCtorEq,List.getElem?_cons_zero,List.getElem?_cons_succ,r8_30,c0,hsy',r8_32,c1,r8_34,q128,hw1]
   refine ih (i + 1) _ h4 (by omega) (by omega) (st2' hsy) q0 q1 q6 ?_ q127 rfl
   exact q126
end Go.AM.Wc
namespace Go.AM.Wc
open Go.AM Go.AM.Wd Go.AM.We Go.AM.Wf
variable {P : Program} {E : Env} {T : H → Prop}
theorem fs_num {fs : List Fy} {A : List SegA} (h : fs.map (fun f => (f.name,f.cs)) = A.map fA) : (fs.map Fy.ent).map (·.1) = ((A.map (·.1)).map segN).map V.str := by
 have := congrArg (fun l => l.map fun p => V.str p.1) h
 simp only [List.map_map] at this ⊢
 exact this
theorem chA_asc : ∀ {A : List SegA} {a z : Nat},chA A a z → (A.map (·.1)).Pairwise (· < ·)
 | [],_,_,_ => List.Pairwise.nil
 | s :: r,a,z,h => by
  obtain ⟨h1,h2,h3⟩ := h
  rw [List.map_cons,List.pairwise_cons]
  refine ⟨fun n hn => ?_,chA_asc h3⟩
  obtain ⟨t,ht,rfl⟩ := List.mem_map.1 hn
  obtain ⟨_,q2,_⟩ := chA_mem h3 t ht
  have : 1 ≤ s.2.length := List.length_pos_iff.2 h2
  omega
structure Syn8 (P : Program) (E : Env) (T : H → Prop) (R bd bm k lb nx : Nat) (A : List SegA) (sb : Option Nat) (sgs : List Sg) (h1 : H) (W : H → Prop) where
 fsI : Nat → List Fy
 Inv : Nat → H → Prop
 hDV : ∀ i h,Inv i h → DV h R bd bm k (fsI i) ∧ T h ∧ (∀ b,sb = some b → h.get b = some (.cells (sgs.flatMap Sg.cells) 74 true false none))
 hfs : ∀ i,(fsI i).map (fun f => (f.name,f.cs)) = A.map fA
 hKp : ∀ i h h',Inv i h → Kp h h' → Inv i h'
 hStep : ∀ i h f,i < A.length → Inv i h → (fsI i)[i]? = some f → (f.syn < f.cs.length → Sp P E (.func 33 [] []) [.ptr (some (bd,0)),.str f.name] h fun r h' => r = .int .i64 0 ∧ Inv (i + 1) h') ∧ (¬ f.syn < f.cs.length → Inv (i + 1) h)
 i0 : Inv 0 h1
 fin : ∀ h,Inv A.length h → h.get lb = some (lgO bd (vl sb sgs.length) nx 0 false) ∧ W (h.set lb (lgO bd (vl sb sgs.length) nx nx false))
set_option maxHeartbeats 2000000 in
theorem open8y (F : Fw P E T) (D : Fd P E) (G : Fe P E) (hsp : E.prim 123 = some (sortedG 153 59)) {h : H} {R bd bm k a nx : Nat} {A : List SegA} {fs : List Fy} {W : Nat → H → Prop}
  (cl : ∀ h',DV h' R bd bm k fs → T h' → Sp P E (.func 26 [] []) [.ptr (some (bd,0))] h' fun v h2 => (∃ b,v = .ptr (some b)) ∧ Kp h' h2)
  (ok : AOK A a nx) (ht : T h) (dv : DV h R bd bm k fs) (hfs : fs.map (fun f => (f.name,f.cs)) = A.map fA)
  (syn : ∀ lb sb sgs h1,sgs.map Sg.sh = A → (∀ s ∈ sgs,okS s ∧ s.size = ((bytA s.sh).length : Int)) → (sb = none → sgs = []) → Ow h.size h1 (lgX lb bd sb [] sgs nx 0 false) → Kp h h1 → Nonempty (Syn8 P E T R bd bm k lb nx A sb sgs h1 (W lb))) :
  Sp P E (.func 8 [] []) [.ptr (some (bd,0)),.str logN] h fun r h' => ∃ lb,r = .tup [.ptr (some (lb,0)),.int .i64 0] ∧ W lb h' := by
 refine Sp_fn F.f8 F.p8 (by simp [fn8]) ?_
 simp only [GR,evK,binV,intOp,strOp,shOp,unV,Nat.reduceLT,Nat.reduceEqDiff,Nat.reduceAdd,↓reduceIte,Nat.reduceLeDiff,reduceCtorEq,fn8,c8,r8_0,r8_1]
 refine XC_of (named24 F (by decide)) ?_
 rintro _ h1 ⟨rfl,e1⟩
 have k1 : Kp h h1 := by rw [e1]; exact Keeps.psh (Nat.le_refl _) _
 have hnm : isName logN = true := by decide
 clear e1
 have dv1 := dv.kp k1
 simp only [GR,evK,binV,intOp,strOp,shOp,unV,Nat.reduceLT,Nat.reduceEqDiff,Nat.reduceAdd,↓reduceIte,Nat.reduceLeDiff,reduceCtorEq,hnm,Bool.not_true,r8_3]
 refine XC_of (down25x F dv1.gd) ?_
 rintro _ hx ⟨rfl,e2⟩
 rw [e2]
 clear e2 hx
 simp only [GR,evK,binV,intOp,strOp,shOp,unV,Nat.reduceLT,Nat.reduceEqDiff,Nat.reduceAdd,↓reduceIte,Nat.reduceLeDiff,reduceCtorEq,r8_5]
 refine XC_of (cl h1 dv1 (F.tkeep ht k1)) ?_
 rintro _ h2 ⟨⟨b,rfl⟩,k2⟩
 have k12 := Kp.trans k1 k2
 have k3 : Kp h2 (h2.psh (lgO bd (.slice none 0 0 false) 0 0 false)) := Keeps.psh (Nat.le_refl _) _
 have g3 := psh_same h2 (lgO bd (.slice none 0 0 false) 0 0 false)
 have ow3 := (Ow.nil h.size h2).push k12.size (lgO bd (.slice none 0 0 false) 0 0 false)
 have k13 := Kp.trans k12 k3
 simp only [GR,evK,binV,intOp,strOp,shOp,unV,Nat.reduceLT,Nat.reduceEqDiff,Nat.reduceAdd,↓reduceIte,Nat.reduceLeDiff,reduceCtorEq,eq_pn,r8_7]
 unfold lgO lgC at g3
 unfold lgO lgC at ow3 k3 k13
 generalize h2.psh (.cells [.ptr (some (bd,0)),.str logN,.slice none 0 0 false,.int .i64 0,.int .i64 0,.bool false] 68 false false none) = h3 at *
 have dv3 := dv.kp k13
 have hAl := ok.few
 have hml : (A.map (·.1)).length = A.length := List.length_map ..
 simp only [GR,evK,binV,intOp,strOp,shOp,unV,Nat.reduceLT,Nat.reduceEqDiff,Nat.reduceAdd,↓reduceIte,Nat.reduceLeDiff,reduceCtorEq,r8_8]
 refine XC_of (numbers27 F D G hsp (nums := A.map (·.1)) dv3.gd dv3.gm (fs_num hfs) (fun n hn => by obtain ⟨s,hs,rfl⟩ := List.mem_map.1 hn; exact (ok.n9 hs).1) (chA_asc ok.ch) (by rw [hml]; omega) (F.tkeep ht k13)) ?_
 rintro _ h4 ⟨nb,rfl,hnb0,own,k4⟩
 rw [hml]
 have hnb0' : nb = none → A = [] := fun h => by have := hnb0 h; exact List.map_eq_nil_iff.1 this
 obtain ⟨np,nc,no,hnv⟩ := vl_shape nb A.length (fun h => by rw [hnb0' h]; rfl)
 have k14 := Kp.trans k13 k4
 have how : (A.map (·.1)).map numV = A.map fun s => numV s.1 := by rw [List.map_map]; rfl
 rw [how] at own
 have ow4 := Ow.join ow3 k4 k13.size own
 rw [hnv]
 simp only [GR,evK,binV,intOp,strOp,shOp,unV,Nat.reduceLT,Nat.reduceEqDiff,Nat.reduceAdd,↓reduceIte,Nat.reduceLeDiff,reduceCtorEq,r8_9]
 refine loop8 F D G (h0 := h) (hb := h4) (R := R) (bm := bm) (k := k) (lb := h2.size) (nb := nb) (A := A) (fs := fs) ok ht k14 (dv.kp k14) hfs hnb0' (fun h' k' => dv.kp (Keeps.trans (n := h.size) k14 k')) ?_ A.length 0 0 _ h4 none [] (Nat.sub_zero _) (Nat.zero_le _) (fun h => (ok.nil (List.eq_nil_of_length_eq_zero h.symm)).symm) (by simp) (by simp) (fun _ => rfl) (by simpa [lgX,lgO,lgC,vlo,fpt] using ow4) (Keeps.refl _ _) ?_ ?_ ?_ ?_ ?_ ?_ ?_
 ·intro ρ5 h5 sb sgs hsh hoks hsb ow5 k5 w0 w1 w6
  have k15 : Kp h h5 := Keeps.trans (n := h.size) k14 k5
  obtain ⟨S⟩ := syn _ sb sgs h5 hsh hoks hsb ow5.left k15
  have hsl : sgs.length = A.length := by rw [← hsh,List.length_map]
  have gl5 := ow5.at (i := h2.size) (o := lgO bd (vlo sb ([] : List V).length sgs.length) nx 0 false) (by simp [lgX])
  obtain ⟨zp,zc,zo,hzv⟩ := vl_shape sb sgs.length (fun h => by rw [hsb h]; rfl)
  have gl5' : h5.get h2.size = some (lgO bd (.slice zp sgs.length zc zo) nx 0 false) := by rw [← hzv]; exact gl5
  unfold lgO lgC at gl5'
  simp only [GR,evK,binV,intOp,strOp,shOp,unV,Nat.reduceLT,Nat.reduceEqDiff,Nat.reduceAdd,↓reduceIte,Nat.reduceLeDiff,reduceCtorEq,r8_27,w6,gl5']
  refine loop8b F G ok hsh hsb S.fsI S.Inv S.hDV S.hfs S.hKp S.hStep ?_ A.length 0 _ h5 (Nat.sub_zero _) (Nat.zero_le _) S.i0 w0 w1 w6 ?_ ?_ ?_
  ·intro ρ6 h6 inv6 x6
   obtain ⟨gl6,hW⟩ := S.fin h6 inv6
   have e7 := put_at (ws := [.int .i64 (nx : Nat)]) (o := 4) gl6 (by simp [lgC]) rfl rfl
   have t7 : setR (lgC bd (vl sb sgs.length) nx 0 false) 4 [.int .i64 (nx : Nat)] = lgC bd (vl sb sgs.length) nx nx false := rfl
   rw [t7] at e7
   unfold lgO at gl6 hW
   have gl6' : h6.get h2.size = some (.cells [.ptr (some (bd,0)),.str logN,.slice zp sgs.length zc zo,.int .i64 nx,.int .i64 0,.bool false] 68 false false none) := by rw [← hzv]; exact gl6
   simp only [GR,evK,binV,intOp,strOp,shOp,unV,Nat.reduceLT,Nat.reduceEqDiff,Nat.reduceAdd,↓reduceIte,Nat.reduceLeDiff,reduceCtorEq,r8_36,x6,gl6',e7,r8_37]
   exact ⟨h2.size,rfl,hW⟩
  ·rw [← hsl]; exact hzv.symm
  ·rw [← hsl]; rfl
  ·rfl
 ·rfl
 ·rfl
 ·rfl
 ·exact hnv.symm
 ·exact hnv.symm
 ·rfl
 ·rfl
end Go.AM.Wc
namespace Go.AM.Wd
open Go.AM
def r18_6a : List O := [⟨some 33,.mv (.t 0),none,0,[33,0]⟩,⟨some 34,.mv (.t 0),none,0,[34,0]⟩,⟨some 35,.nilck (.t 34),none,2,[35,34]⟩,⟨some 36,.fadr 0 (.t 35),none,6,[36,35]⟩,⟨some 37,.load1 (.t 36),none,14,[37,36]⟩,⟨some 38,.mv (.t 0),none,0,[38,0]⟩,⟨some 39,.nilck (.t 38),none,32,[39,38]⟩,⟨some 40,.fadr 1 (.t 39),none,96,[40,39]⟩,⟨some 41,.load1 (.t 40),none,224,[41,40]⟩,⟨some 42,.mv (.t 4),none,0,[42,4]⟩,⟨some 43,.nilck (.t 42),none,512,[43,42]⟩,⟨some 44,.fadr 0 (.t 43),none,1536,[44,43]⟩,⟨some 45,.load1 (.t 44),none,3584,[45,44]⟩,⟨some 46,.call (.k (.func 23 [] [])) [(.t 41),(.t 45)],none,8160,[46,41,45]⟩]
def r18_6b : List O := [⟨some 47,.call (.k (.func 33 [] [])) [(.t 37),(.t 46)],none,16382,[47,37,46]⟩,⟨some 48,.call (.k (.func 37 [] [])) [(.t 33),(.t 47)],none,32767,[48,33,47]⟩,⟨some 5,.mv (.t 48),none,65535,[5,48]⟩]
theorem l18_6 {P : Program} {E : Env} {ro : Option Nat} {L : Nat} {K : List Fr} {ρ : Nat → V} {h : H} {Q : Po} (hx : XDQ P E ro L (.c (.region r18_6b) :: K) Q h [true,true,true,true,true,true,true,true,true,true,true,true,true,true] r18_6a ρ h) : XD P E ro L r18_6 K ρ h Q := XD_last (A := r18_6a) (B := r18_6b) rfl rfl hx
end Go.AM.Wd
namespace Go.AM.Wc
open Go.AM Go.AM.Wd Go.AM.We Go.AM.Wf
variable {P : Program} {E : Env} {T : H → Prop}
theorem mapL_replace {pre post : List Sg} {s s' : Sg} (h : s'.sh = s.sh) : (pre ++ s' :: post).map Sg.sh = (pre ++ s :: post).map Sg.sh := by simp [h]
theorem chain_repl : ∀ {pre post : List Sg} {s s' : Sg} {a z : Nat},s'.fst = s.fst → s'.rs = s.rs → s'.rb = s.rb → chain (pre ++ s :: post) a z → chain (pre ++ s' :: post) a z
 | [],post,s,s',a,z,h1,h2,h3,h => by
  obtain ⟨q1,q2,q3⟩ := h
  refine ⟨h1.trans q1,⟨by rw [h2]; exact q2.ne,by rw [h2,h3]; exact q2.nn,by rw [h2]; exact q2.rc⟩,?_⟩
  rw [h2]; exact q3
 | p :: pre,post,s,s',a,z,h1,h2,h3,h => by
  obtain ⟨q1,q2,q3⟩ := h
  exact ⟨q1,q2,chain_repl h1 h2 h3 q3⟩
theorem lox_sync {R : Nat} {f1 f2 : List Fl} {f : Fl} {sb : Option Nat} {gc : List V} {pre post : List Sg} {s : Sg} {a nx : Nat} {l : Bool} {y : Int} (k : LOX R (f1 ++ f :: f2) sb gc (pre ++ s :: post) a nx) (hy : 0 ≤ y ∧ y ≤ (f.cs.length : Int)) : LOX R (f1 ++ { f with syn := y } :: f2) sb gc (pre ++ { s with loose := l } :: post) a nx where
 ch := chain_repl (s := s) (s' := { s with loose := l }) rfl rfl rfl k.ch
 lim := k.lim
 sbn := fun h => by have := (k.sbn h).1; simp at this
 dk := ⟨fun g hg h => by
   rcases List.mem_append.1 hg with hg | hg
   ·exact k.dk.emp g (by simp [hg]) h
   ·rcases List.mem_cons.1 hg with rfl | hg
    ·exact k.dk.emp f (by simp) h
    ·exact k.dk.emp g (by simp [hg]) h,by
   have := k.dk.room
   simpa [Fl.fu] using this,fun g hg => by
   rcases List.mem_append.1 hg with hg | hg
   ·exact k.dk.byt g (by simp [hg])
   ·rcases List.mem_cons.1 hg with rfl | hg
    ·exact k.dk.byt f (by simp)
    ·exact k.dk.byt g (by simp [hg]),k.dk.cap⟩
 fil := by have := k.fil; simpa [Sg.byt] using this
 siz := fun x hx => by
  rcases List.mem_append.1 hx with hx | hx
  ·exact k.siz x (by simp [hx])
  ·rcases List.mem_cons.1 hx with rfl | hx
   ·exact k.siz s (by simp)
   ·exact k.siz x (by simp [hx])
 syn := fun g hg => by
  rcases List.mem_append.1 hg with hg | hg
  ·exact k.syn g (by simp [hg])
  ·rcases List.mem_cons.1 hg with rfl | hg
   ·exact hy
   ·exact k.syn g (by simp [hg])
theorem fs_split {fs : List Fl} {pre post : List Sg} {s : Sg} (h : fs.map (fun f => (f.name,f.cs)) = (pre ++ s :: post).map fun s => (segN s.fst,s.byt)) : ∃ f1 f f2,fs = f1 ++ f :: f2 ∧ f.name = segN s.fst ∧ f1.map Fl.name = pre.map fun s => segN s.fst := by
 have hl : fs.length = (pre ++ s :: post).length := by have := congrArg List.length h; simpa using this
 have hi : pre.length < fs.length := by rw [hl]; simp
 have h1 := congrArg (fun l => l[pre.length]?) h
 simp only [List.getElem?_map,List.getElem?_eq_getElem hi,Option.map_some] at h1
 rw [List.getElem?_append_right (Nat.le_refl _),Nat.sub_self] at h1
 simp only [List.getElem?_cons_zero,Option.map_some,Option.some.injEq,Prod.mk.injEq] at h1
 refine ⟨fs.take pre.length,fs[pre.length],fs.drop (pre.length + 1),by simp,h1.1,?_⟩
 have h2 := congrArg (fun l => (l.take pre.length).map Prod.fst) h
 simp only [← List.map_take,List.map_map,List.take_left] at h2
 exact h2
theorem setR_app {A B ws : List V} {j : Nat} : setR (A ++ B) (A.length + j) ws = A ++ setR B j ws := by
 unfold setR
 rw [List.take_append,List.drop_append]
 rw [List.take_of_length_le (by omega),List.drop_of_length_le (by omega)]
 simp only [List.nil_append,List.append_assoc]
 rw [show A.length + j - A.length = j by omega,show A.length + j + ws.length - A.length = j + ws.length by omega]
theorem get_app {A B : List V} {j : Nat} : (A ++ B)[A.length + j]? = B[j]? := by
 rw [List.getElem?_append_right (by omega)]
 congr 1; omega
set_option maxHeartbeats 2000000 in
theorem sync18x (F : Fw P E T) (G : Fe P E) {lo : Nat} {h : H} {R lb bd bm k a nx : Nat} {sy : Int} {br : Bool} {fs : List Fl} {sb : Option Nat} {gc : List V} {sgs : List Sg} {m2 : List Cell}
  (ow : Ow lo h (dkX R bd bm k fs ++ (lgX lb bd sb gc sgs nx sy br ++ m2))) (hlo : lo ≤ h.size) (h1lo : 1 ≤ lo) (ht : T h) (lok : LOX R fs sb gc sgs a nx) :
  Sp P E (.func 18 [] []) [.ptr (some (lb,0))] h fun _ h' => ∃ fs' sgs' sy',Ow lo h' (dkX R bd bm k fs' ++ (lgX lb bd sb gc sgs' nx sy' br ++ m2)) ∧ LOX R fs' sb gc sgs' a nx ∧ sgs'.map Sg.sh = sgs.map Sg.sh ∧ Keeps lo h h' := by
 have gl := ow.at (i := lb) (o := lgO bd (vlo sb gc.length sgs.length) nx sy br) (by simp [lgX])
 obtain ⟨zp,zc,zo,hzv⟩ := vlo_shape sb gc.length sgs.length (fun h => by rw [(lok.sbn h).1]; rfl)
 refine Sp_fn G.f18 G.p18 (by simp [fn18]) ?_
 simp only [GR,evK,binV,intOp,strOp,shOp,unV,Nat.reduceLT,Nat.reduceEqDiff,Nat.reduceAdd,↓reduceIte,Nat.reduceLeDiff,reduceCtorEq,fn18,c18,r18_0]
 refine XC_of (none34 F gl) ?_
 rintro _ hx ⟨rfl,e2⟩
 rw [e2]
 clear e2 hx
 have gl' := gl
 rw [hzv] at gl'
 unfold lgO lgC at gl'
 cases br with
 | true =>
  simp only [GR,evK,binV,intOp,strOp,shOp,unV,Nat.reduceLT,Nat.reduceEqDiff,Nat.reduceAdd,↓reduceIte,Nat.reduceLeDiff,reduceCtorEq,r18_1,gl']
  exact ⟨fs,sgs,sy,ow,lok,rfl,Keeps.refl _ _⟩
 | false =>
  simp only [GR,evK,binV,intOp,strOp,shOp,unV,Nat.reduceLT,Nat.reduceEqDiff,Nat.reduceAdd,↓reduceIte,Nat.reduceLeDiff,reduceCtorEq,r18_1,gl',r18_2]
  have hnl := chain_len lok.ch
  have hlim := lok.lim
  have loop : ∀ (d i : Nat) (ρ : Nat → V) (h1 : H) (fs1 : List Fl) (sgs1 : List Sg),sgs.length - i = d → i ≤ sgs.length → Ow lo h1 (dkX R bd bm k fs1 ++ (lgX lb bd sb gc sgs1 nx sy false ++ m2)) → LOX R fs1 sb gc sgs1 a nx → sgs1.map Sg.sh = sgs.map Sg.sh → Keeps lo h h1 → ρ 0 = .ptr (some (lb,0)) → ρ 18 = .int .i64 sgs.length → ρ 19 = .int .i64 i →
    XL P E none 63 b18_11 [.b 1,.c (.seq (.region r18_12) (.seq (.region [⟨some 2,.mv (.k (.int .i64 0)),none,0,[2]⟩]) (.ret)))] ρ h1 (Fin [.t 2] fun _ h' => ∃ fs' sgs' sy',Ow lo h' (dkX R bd bm k fs' ++ (lgX lb bd sb gc sgs' nx sy' false ++ m2)) ∧ LOX R fs' sb gc sgs' a nx ∧ sgs'.map Sg.sh = sgs.map Sg.sh ∧ Keeps lo h h') := by
   intro d
   induction d with
   | zero =>
    intro i ρ h1 fs1 sgs1 hd hi ow1 lok1 hsh kk q0 q18 q19
    have hke : ¬ (i : Int) < (sgs.length : Int) := by omega
    have hl1 : sgs1.length = sgs.length := by have := congrArg List.length hsh; simpa using this
    have gl1 := ow1.at (i := lb) (o := lgO bd (vlo sb gc.length sgs1.length) nx sy false) (by simp [lgX])
    have ow1a : Ow lo h1 (dkX R bd bm k fs1 ++ (lb,lgO bd (vlo sb gc.length sgs1.length) nx sy false) :: (fpt sb 74 (gc ++ sgs1.flatMap Sg.cells) ++ sgs1.flatMap Sg.foot ++ m2)) := by simpa [lgX] using ow1
    obtain ⟨ow2,k2⟩ := ow1a.setM (lgO bd (vlo sb gc.length sgs1.length) nx nx false)
    have e4 := put_at (ws := [.int .i64 (nx : Nat)]) (o := 4) gl1 (by simp [lgC]) rfl rfl
    have t4 : setR (lgC bd (vlo sb gc.length sgs1.length) nx sy false) 4 [.int .i64 (nx : Nat)] = lgC bd (vlo sb gc.length sgs1.length) nx nx false := rfl
    rw [t4] at e4
    have gl1' := gl1
    rw [hl1,hzv] at gl1'
    unfold lgO lgC at gl1'
    unfold lgO at ow2 k2
    rw [u18_11]
    simp only [GR,evK,binV,intOp,strOp,shOp,unV,Nat.reduceLT,Nat.reduceEqDiff,Nat.reduceAdd,↓reduceIte,Nat.reduceLeDiff,reduceCtorEq,q18,q19,hke,r18_12,q0,gl1',e4]
    exact ⟨fs1,sgs1,nx,by simpa [lgX,lgO] using ow2,lok1,hsh,Keeps.trans kk k2⟩
   | succ d ih =>
    intro i ρ h1 fs1 sgs1 hd hi ow1 lok1 hsh kk q0 q18 q19
    have hke : i < sgs.length := by omega
    have hki : (i : Int) < (sgs.length : Int) := by omega
    have hl1 : sgs1.length = sgs.length := by have := congrArg List.length hsh; simpa using this
    have hw1 : IntKind.i64.wrap ((i : Int) + 1) = ((i + 1 : Nat) : Int) := wrap_nat (n := i + 1) (by omega)
    obtain ⟨pre,s,post,hsp,hpl⟩ : ∃ pre s post,sgs1 = pre ++ s :: post ∧ pre.length = i := ⟨sgs1.take i,sgs1[i]'(by omega),sgs1.drop (i + 1),by simp,by rw [List.length_take]; omega⟩
    subst hsp
    obtain ⟨sbb,rfl⟩ : ∃ b,sb = some b := by
     cases hb : sb with
     | none => have := (lok1.sbn hb).1; simp at this
     | some b => exact ⟨b,rfl⟩
    have gl1 := ow1.at (i := lb) (o := lgO bd (vlo (some sbb) gc.length (pre ++ s :: post).length) nx sy false) (by simp [lgX])
    rw [hl1] at gl1
    have gs1 := ow1.at (i := sbb) (o := .cells (gc ++ (pre ++ s :: post).flatMap Sg.cells) 74 true false none) (by simp [lgX,fpt])
    have hfm : gc ++ (pre ++ s :: post).flatMap Sg.cells = (gc ++ pre.flatMap Sg.cells) ++ (s.cells ++ post.flatMap Sg.cells) := by simp
    have hpc : (gc ++ pre.flatMap Sg.cells).length = gc.length + i * 4 := by rw [List.length_append,seg_len,hpl]
    rw [hfm] at gs1
    have hg3 : ((gc ++ pre.flatMap Sg.cells) ++ (s.cells ++ post.flatMap Sg.cells))[gc.length + i * 4 + 3]? = some (.bool s.loose) := by rw [← hpc,get_app]; rfl
    have hg0 : ((gc ++ pre.flatMap Sg.cells) ++ (s.cells ++ post.flatMap Sg.cells))[gc.length + i * 4]? = some (.int .i64 (s.fst : Nat)) := by
     have := get_app (A := gc ++ pre.flatMap Sg.cells) (B := s.cells ++ post.flatMap Sg.cells) (j := 0)
     rw [Nat.add_zero,hpc] at this
     rw [this]; rfl
    have hvl : vlo (some sbb) gc.length sgs.length = .slice (some (sbb,gc.length)) sgs.length sgs.length true := rfl
    have gl1' := gl1
    rw [hvl] at gl1'
    unfold lgO lgC at gl1'
    have hls : ∀ b,s.loose = b → (V.bool s.loose) = .bool b := fun b h => by rw [h]
    rw [u18_11]
    cases hlo' : s.loose with
    | false =>
     rw [hlo'] at hg3
     simp only [GR,evK,binV,intOp,strOp,shOp,unV,Nat.reduceLT,Nat.reduceEqDiff,Nat.reduceAdd,↓reduceIte,Nat.reduceLeDiff,reduceCtorEq,q18,q19,hki,r18_3,r18_4,q0,gl1',Int.natCast_nonneg,Int.ofNat_lt,hke,Int.toNat_natCast,r18_5,gs1,hg3,Bool.not_false,r18_10,hw1]
     exact ih (i + 1) _ h1 fs1 (pre ++ s :: post) (by omega) (by omega) ow1 lok1 hsh kk q0 q18 rfl
    | true =>
     rw [hlo'] at hg3
     simp only [GR,evK,binV,intOp,strOp,shOp,unV,Nat.reduceLT,Nat.reduceEqDiff,Nat.reduceAdd,↓reduceIte,Nat.reduceLeDiff,reduceCtorEq,q18,q19,hki,r18_3,r18_4,q0,gl1',Int.natCast_nonneg,Int.ofNat_lt,hke,Int.toNat_natCast,r18_5,gs1,hg3,Bool.not_true]
     rw [X_draw]
     refine l18_6 ?_
     simp only [GR,evK,binV,intOp,strOp,shOp,unV,Nat.reduceLT,Nat.reduceEqDiff,Nat.reduceAdd,↓reduceIte,Nat.reduceLeDiff,reduceCtorEq,r18_6a,q0,gl1',gs1,hg0]
     have hsm : s ∈ pre ++ s :: post := by simp
     have hce := chain_end lok1.ch hsm
     have hn9 : s.fst ≤ 999999999999 := by omega
     have ln := segN_len hn9
     obtain ⟨f1,f,f2,rfl,e1,e3⟩ := fs_split lok1.fil
     have hpw := seg_less (chain_chA lok1.ch) hlim
     have hne : ∀ g ∈ f1,g.name ≠ segN s.fst := fun g hg e => by
      rw [List.map_map,List.map_append,List.map_cons] at hpw
      have hg' : g.name ∈ pre.map fun s => segN s.fst := by rw [← e3]; exact List.mem_map.2 ⟨g,hg,rfl⟩
      have := (List.pairwise_append.1 hpw).2.2 g.name hg' (segN s.fst) List.mem_cons_self
      rw [e,less_self] at this; cases this
     have hl1' : lo ≤ h1.size := Nat.le_trans hlo kk.size
     refine XCQ_of (seg_nx F (F.tlow _ _ _ h1lo ht kk) hn9) ?_
     rintro _ h2 ⟨rfl,k2⟩
     refine ⟨k2,?_⟩
     have ow2 : Ow lo h2 ([] ++ (dkX R bd bm k (f1 ++ f :: f2) ++ (lgX lb bd (some sbb) gc (pre ++ s :: post) nx sy false ++ m2))) := ow1.kp k2
     have hl2 : lo ≤ h2.size := Nat.le_trans hl1' k2.size
     simp only [GR,evK,binV,intOp,strOp,shOp,unV,Nat.reduceLT,Nat.reduceEqDiff,Nat.reduceAdd,↓reduceIte,Nat.reduceLeDiff,reduceCtorEq,r18_6b]
     refine XC_of (sync33x F ow2 hl2 (lok1.dk.emp f (by simp)) e1 hne (by rw [ln]; omega) (by rw [ln]; omega)) ?_
     rintro _ h3 ⟨rfl,ow3,k3⟩
     simp only [GR,evK,binV,intOp,strOp,shOp,unV,Nat.reduceLT,Nat.reduceEqDiff,Nat.reduceAdd,↓reduceIte,Nat.reduceLeDiff,reduceCtorEq]
     refine XC_of (fail37x F (e := 0) ow3) ?_
     rintro _ h4 ⟨rfl,ow4,k4⟩
     have c1 : ((0 : Int) != 0) = false := rfl
     rw [c1] at ow4
     have ow4a : Ow lo h4 ((dkX R bd bm k (f1 ++ { f with syn := f.cs.length } :: f2) ++ [(lb,lgO bd (vlo (some sbb) gc.length (pre ++ s :: post).length) nx sy false)]) ++ (sbb,.cells ((gc ++ pre.flatMap Sg.cells) ++ (s.cells ++ post.flatMap Sg.cells)) 74 true false none) :: ((pre ++ s :: post).flatMap Sg.foot ++ m2)) := by
      rw [← hfm]
      simpa [lgX,fpt] using ow4
     have gs4 := ow4a.at (i := sbb) (o := .cells ((gc ++ pre.flatMap Sg.cells) ++ (s.cells ++ post.flatMap Sg.cells)) 74 true false none) (by simp)
     obtain ⟨s',hs'⟩ : ∃ s' : Sg,s' = { s with loose := false } := ⟨_,rfl⟩
     have e5 := put_at (ws := [.bool false]) (o := gc.length + i * 4 + 3) gs4 (by rw [List.length_append,hpc]; simp [Sg.cells]; omega) rfl rfl
     have t5 : setR ((gc ++ pre.flatMap Sg.cells) ++ (s.cells ++ post.flatMap Sg.cells)) (gc.length + i * 4 + 3) [.bool false] = (gc ++ pre.flatMap Sg.cells) ++ (s'.cells ++ post.flatMap Sg.cells) := by
      rw [← hpc,setR_app,hs']; rfl
     rw [t5] at e5
     obtain ⟨ow5,k5⟩ := ow4a.setM (.cells ((gc ++ pre.flatMap Sg.cells) ++ (s'.cells ++ post.flatMap Sg.cells)) 74 true false none)
     simp only [GR,evK,binV,intOp,strOp,shOp,unV,Nat.reduceLT,Nat.reduceEqDiff,Nat.reduceAdd,↓reduceIte,Nat.reduceLeDiff,reduceCtorEq,r18_7,c1,r18_9,e5,r18_10,q19,hw1]
     refine ih (i + 1) _ _ (f1 ++ { f with syn := f.cs.length } :: f2) (pre ++ s' :: post) (by omega) (by omega) ?_ ?_ ?_ (Keeps.trans kk (Keeps.trans (k2.mono hl1') (Keeps.trans k3 (Keeps.trans k4 k5)))) q0 q18 rfl
     ·have hfm' : gc ++ (pre ++ s' :: post).flatMap Sg.cells = (gc ++ pre.flatMap Sg.cells) ++ (s'.cells ++ post.flatMap Sg.cells) := by simp
      have hft : (pre ++ s' :: post).flatMap Sg.foot = (pre ++ s :: post).flatMap Sg.foot := by rw [hs']; simp [Sg.foot]
      unfold lgX
      rw [hft,show (pre ++ s' :: post).length = (pre ++ s :: post).length by simp]
      simp only [fpt]
      rw [hfm']
      simpa using ow5
     ·rw [hs']; exact lox_sync lok1 (by omega)
     ·rw [← hsh]; exact mapL_replace (by rw [hs']; rfl)
  refine loop sgs.length 0 _ h fs sgs (Nat.sub_zero _) (Nat.zero_le _) ow lok rfl (Keeps.refl _ _) ?_ ?_ ?_
  ·rfl
  ·rfl
  ·rfl
end Go.AM.Wc
namespace Go.AM.Wc
open Go.AM Go.AM.Wd Go.AM.We Go.AM.Wf
variable {P : Program} {E : Env} {T : H → Prop}
theorem remove39x (F : Fw P E T) {lo : Nat} {h : H} {R bd bm i blk cl : Nat} {es : List (V × V × Nat)} {n : List UInt8} {m2 : List Cell} (ow : Ow lo h ((bd,.cells (diskX R bm) 63 false false none) :: (bm,.map es cl) :: m2)) (hlo : lo ≤ h.size) (hf : findK .str (.str n) es 0 = some (some (i,.ptr (some (blk,0))))) (l1 : 1 ≤ n.length) (l2 : n.length ≤ 64) :
  Sp P E (.func 39 [] []) [.ptr (some (bd,0)),.str n] h fun r h' => r = .int .i64 0 ∧ Ow lo h' ((bd,.cells (diskX R bm) 63 false false none) :: (bm,.map (es.eraseIdx i) cl) :: m2) ∧ Keeps lo h h' := by
 have k1 : Kp h (h.psh (.cells [.str n] 9 false false none)) := Keeps.psh (Nat.le_refl _) _
 have gb := psh_same h (.cells [.str n] 9 false false none)
 have ow1 := ow.kp k1
 have gd := ow1.at (i := bd) (o := .cells (diskX R bm) 63 false false none) (by simp)
 have gm := ow1.at (i := bm) (o := .map es cl) (by simp)
 have ow1' : Ow lo (h.psh (.cells [.str n] 9 false false none)) ([(bd,.cells (diskX R bm) 63 false false none)] ++ (bm,.map es cl) :: m2) := by simpa using ow1
 obtain ⟨ow2,k2⟩ := ow1'.setM (.map (es.eraseIdx i) cl)
 have c4 : ((0 : Int) != 0) = false := rfl
 have hd0 : List.drop 1 [V.str []] = [] := rfl
 refine Sp_fn F.f39 F.p39 (by simp [fn39]) ?_
 simp only [GR,evK,binV,intOp,strOp,shOp,unV,Nat.reduceLT,Nat.reduceEqDiff,Nat.reduceAdd,↓reduceIte,Nat.reduceLeDiff,reduceCtorEq,fn39,c39,r39_0,hd0]
 refine XC_of (there63x F gd gm hf gb l1 l2) ?_
 rintro _ hx ⟨rfl,e2⟩
 rw [e2]
 clear e2 hx
 simp only [GR,evK,binV,intOp,strOp,shOp,unV,Nat.reduceLT,Nat.reduceEqDiff,Nat.reduceAdd,↓reduceIte,Nat.reduceLeDiff,reduceCtorEq,r39_1,c4,r39_3]
 refine XC_of (changes67x F gd) ?_
 rintro _ hx ⟨rfl,e2⟩
 rw [e2]
 clear e2 hx
 unfold diskX at gd
 simp only [GR,evK,binV,intOp,strOp,shOp,unV,Nat.reduceLT,Nat.reduceEqDiff,Nat.reduceAdd,↓reduceIte,Nat.reduceLeDiff,reduceCtorEq,r39_4,c4,r39_6,gd,gm,hf]
 exact ⟨by simpa using ow2,Keeps.trans (k1.mono hlo) k2⟩
theorem lox_tail {R : Nat} {f : Fl} {fs : List Fl} {sb : Option Nat} {gc : List V} {s : Sg} {sgs : List Sg} {a nx : Nat} (k : LOX R (f :: fs) sb gc (s :: sgs) a nx) : LOX R fs sb (gc ++ s.cells) sgs (a + s.rs.length) nx where
 ch := k.ch.2.2
 lim := k.lim
 sbn := fun h => by have := (k.sbn h).1; simp at this
 dk := ⟨fun g hg h => k.dk.emp g (List.mem_cons_of_mem _ hg) h,by
   have := k.dk.room
   simp only [List.map_cons,totU,List.sum_cons] at this ⊢
   omega,fun g hg => k.dk.byt g (List.mem_cons_of_mem _ hg),k.dk.cap⟩
 fil := by have := k.fil; simp only [List.map_cons,List.cons.injEq] at this; exact this.2
 siz := fun x hx => k.siz x (List.mem_cons_of_mem _ hx)
 syn := fun g hg => k.syn g (List.mem_cons_of_mem _ hg)
def CutX (R lo lb bd bm nx : Nat) (sy : Int) (br : Bool) (m2 : List Cell) (sb : Option Nat) (sgs : List Sg) (h : H) (h' : H) : Prop :=
 ∃ fs' gc' sgs' a' k',Ow lo h' (dkX R bd bm k' fs' ++ (lgX lb bd sb gc' sgs' nx sy br ++ m2)) ∧ LOX R fs' sb gc' sgs' a' nx ∧ (sgs' = [] → sgs = []) ∧ Keeps lo h h'
set_option maxHeartbeats 2000000 in
theorem cut13x (F : Fw P E T) {lo : Nat} {h : H} {R lb bd bm k a nx : Nat} {sy : Int} {br : Bool} {fs : List Fl} {sb : Option Nat} {gc : List V} {sgs : List Sg} {m2 : List Cell} {before : Int}
  (ow : Ow lo h (dkX R bd bm k fs ++ (lgX lb bd sb gc sgs nx sy br ++ m2))) (hlo : lo ≤ h.size) (h1lo : 1 ≤ lo) (ht : T h) (lok : LOX R fs sb gc sgs a nx) :
  Sp P E (.func 13 [] []) [.ptr (some (lb,0)),.int .i64 before] h fun _ h' => CutX R lo lb bd bm nx sy br m2 sb sgs h h' := by
 have c4 : ((0 : Int) != 0) = false := rfl
 have loop : ∀ (sgs1 : List Sg) (fs1 : List Fl) (gc1 : List V) (a1 k1 : Nat) (ρ : Nat → V) (h1 : H),Ow lo h1 (dkX R bd bm k1 fs1 ++ (lgX lb bd sb gc1 sgs1 nx sy br ++ m2)) → LOX R fs1 sb gc1 sgs1 a1 nx → (sgs1 = [] → sgs = []) → Keeps lo h h1 → ρ 0 = .ptr (some (lb,0)) → ρ 1 = .int .i64 before →
   XL P E none 53 b13_6 [.b 0,.c (.seq (.region [⟨some 4,.mv (.k (.int .i64 0)),none,0,[4]⟩]) (.ret))] ρ h1 (Fin [.t 4] fun _ h' => CutX R lo lb bd bm nx sy br m2 sb sgs h h') := by
  intro sgs1
  induction sgs1 with
  | nil =>
   intro fs1 gc1 a1 k1 ρ h1 ow1 lok1 he kk q0 q1
   have gl := ow1.at (i := lb) (o := lgO bd (vlo sb gc1.length ([] : List Sg).length) nx sy br) (by simp [lgX])
   obtain ⟨n,hn⟩ : ∃ n,n = ([] : List Sg).length := ⟨_,rfl⟩
   rw [← hn] at gl
   obtain ⟨zp,zc,zo,hzv⟩ := vlo_shape sb gc1.length n (fun _ => hn)
   rw [hzv] at gl
   unfold lgO lgC at gl
   have hgt : ¬ ((n : Int) > 1) := by rw [hn]; simp
   rw [u13_6]
   simp only [GR,evK,binV,intOp,strOp,shOp,unV,Nat.reduceLT,Nat.reduceEqDiff,Nat.reduceAdd,↓reduceIte,Nat.reduceLeDiff,reduceCtorEq,r13_1,q0,gl,hgt]
   exact ⟨fs1,gc1,[],a1,k1,ow1,lok1,he,kk⟩
  | cons s r ih =>
   intro fs1 gc1 a1 k1 ρ h1 ow1 lok1 he kk q0 q1
   obtain ⟨sbb,rfl⟩ : ∃ b,sb = some b := by
    cases hb : sb with
    | none => have := (lok1.sbn hb).1; simp at this
    | some b => exact ⟨b,rfl⟩
   have gl := ow1.at (i := lb) (o := lgO bd (vlo (some sbb) gc1.length (s :: r).length) nx sy br) (by simp [lgX])
   have gs := ow1.at (i := sbb) (o := .cells (gc1 ++ (s :: r).flatMap Sg.cells) 74 true false none) (by simp [lgX,fpt])
   obtain ⟨n,hn⟩ : ∃ n,n = (s :: r).length := ⟨_,rfl⟩
   have hnr : n = r.length + 1 := hn
   have hvl : vlo (some sbb) gc1.length n = .slice (some (sbb,gc1.length)) n n true := rfl
   have gl' := gl
   rw [← hn,hvl] at gl'
   unfold lgO lgC at gl'
   by_cases hgt : (n : Int) > 1
   rotate_left
   ·rw [u13_6]
    simp only [GR,evK,binV,intOp,strOp,shOp,unV,Nat.reduceLT,Nat.reduceEqDiff,Nat.reduceAdd,↓reduceIte,Nat.reduceLeDiff,reduceCtorEq,r13_1,q0,gl',hgt]
    exact ⟨fs1,gc1,s :: r,a1,k1,ow1,lok1,he,kk⟩
   have hnl := chain_len lok1.ch
   have hlim := lok1.lim
   have hce := chain_end lok1.ch (List.mem_cons_self : s ∈ s :: r)
   obtain ⟨oks,hsa,hsz⟩ := chain_mem lok1.ch s List.mem_cons_self
   have hsf : s.fst = a1 := lok1.ch.1
   have c00 : (0 : Int) ≤ 0 := Int.le_refl _
   have t00 : Int.toNat 0 = 0 := rfl
   have hlt0 : (0 : Int) < (n : Int) := by omega
   have hfm : gc1 ++ (s :: r).flatMap Sg.cells = gc1 ++ (s.cells ++ r.flatMap Sg.cells) := by simp
   rw [hfm] at gs
   have hle : gc1.length + 4 ≤ (gc1 ++ (s.cells ++ r.flatMap Sg.cells)).length := by simp [Sg.cells]
   have htk : List.take 4 (List.drop gc1.length (gc1 ++ (s.cells ++ r.flatMap Sg.cells))) = s.cells := by rw [List.drop_left]; rfl
   have hfs : (gc1 ++ (s.cells ++ r.flatMap Sg.cells))[gc1.length]? = some (.int .i64 (s.fst : Nat)) := by
    have := get_app (A := gc1) (B := s.cells ++ r.flatMap Sg.cells) (j := 0)
    rw [Nat.add_zero] at this
    rw [this]; rfl
   rw [u13_6]
   simp only [GR,evK,binV,intOp,strOp,shOp,unV,Nat.reduceLT,Nat.reduceEqDiff,Nat.reduceAdd,↓reduceIte,Nat.reduceLeDiff,reduceCtorEq,r13_1,q0,gl',hgt,c00,t00,hlt0,Nat.zero_mul,Nat.add_zero,gs,hle,htk]
   refine XC_of (end30 F oks.nn (by omega)) ?_
   rintro _ h2 ⟨rfl,k2⟩
   have hl1 : lo ≤ h1.size := Nat.le_trans hlo kk.size
   have hl2 : lo ≤ h2.size := Nat.le_trans hl1 k2.size
   have kk2 : Keeps lo h h2 := Keeps.trans kk (k2.mono hl1)
   have ow2 := ow1.kp k2
   have gl2 := k2.of gl'
   have gs2 := k2.of gs
   by_cases hb : ((s.fst + s.rs.length : Nat) : Int) ≤ before
   rotate_left
   ·simp only [GR,evK,binV,intOp,strOp,shOp,unV,Nat.reduceLT,Nat.reduceEqDiff,Nat.reduceAdd,↓reduceIte,Nat.reduceLeDiff,reduceCtorEq,q1,hb]
    exact ⟨fs1,gc1,s :: r,a1,k1,ow2,lok1,he,kk2⟩
   simp only [GR,evK,binV,intOp,strOp,shOp,unV,Nat.reduceLT,Nat.reduceEqDiff,Nat.reduceAdd,↓reduceIte,Nat.reduceLeDiff,reduceCtorEq,q1,hb]
   rw [X_draw]
   refine l13_2 ?_
   simp only [GR,evK,binV,intOp,strOp,shOp,unV,Nat.reduceLT,Nat.reduceEqDiff,Nat.reduceAdd,↓reduceIte,Nat.reduceLeDiff,reduceCtorEq,r13_2a,q0,gl2,c00,t00,hlt0,Nat.zero_mul,Nat.add_zero,gs2,hfs]
   refine XCQ_of (seg_nx F (F.tlow _ _ _ h1lo ht kk2) (by omega)) ?_
   rintro _ h3 ⟨rfl,k3⟩
   refine ⟨k3,?_⟩
   obtain ⟨f,fs2,rfl⟩ : ∃ f fs2,fs1 = f :: fs2 := by
    cases fs1 with
    | nil => have := lok1.fil; simp at this
    | cons f fs2 => exact ⟨f,fs2,rfl⟩
   have hfn : f.name = segN s.fst := by have := lok1.fil; simp only [List.map_cons,List.cons.injEq,Prod.mk.injEq] at this; exact this.1.1
   have hfi := find_some (fs1 := []) (f := f) (fs2 := fs2) (n := segN s.fst) (k := k1) (j := 0) (by simp) hfn
   have hsl := segN_len (n := s.fst) (by omega)
   have ow3 : Ow lo h3 ((bd,.cells (diskX R bm) 63 false false none) :: (bm,.map (mos ((f :: fs2).map fun f => entU f.fu) k1) (k1 + ((f :: fs2).map fun f => entU f.fu).length)) :: (f.foot ++ (fs2.flatMap Fl.foot ++ (lgX lb bd (some sbb) gc1 (s :: r) nx sy br ++ m2)))) := by
    have := ow2.kp k3
    simpa [dkX,mok] using this
   simp only [GR,evK,binV,intOp,strOp,shOp,unV,Nat.reduceLT,Nat.reduceEqDiff,Nat.reduceAdd,↓reduceIte,Nat.reduceLeDiff,reduceCtorEq,r13_2b]
   refine XC_of (remove39x F ow3 (Nat.le_trans hl2 k3.size) (by simpa using hfi) (by omega) (by omega)) ?_
   rintro _ h4 ⟨rfl,ow4,k4⟩
   have hbo : boundsV n n (some (.int .i64 1)) none none = some (1,n,n) := by
    have hb1 : boundV n (.int .i64 1) = some 1 := by
     unfold boundV
     simp; omega
    unfold boundsV
    simp only [hb1]
   have hmo : Obj.map ((mos ((f :: fs2).map fun f => entU f.fu) k1).eraseIdx 0) (k1 + ((f :: fs2).map fun f => entU f.fu).length) = mok (k1 + 1) (fs2.map fun f => entU f.fu) := by
    unfold mok
    rw [List.map_cons,mos_erase,List.length_cons]
    congr 1; omega
   rw [hmo] at ow4
   have ow4a : Ow lo h4 ([(bd,.cells (diskX R bm) 63 false false none),(bm,mok (k1 + 1) (fs2.map fun f => entU f.fu))] ++ (f.foot ++ (fs2.flatMap Fl.foot ++ (lgX lb bd (some sbb) gc1 (s :: r) nx sy br ++ m2)))) := by simpa using ow4
   have ow4b := ow4a.dropA
   have ow4c : Ow lo h4 ((((bd,.cells (diskX R bm) 63 false false none) :: (bm,mok (k1 + 1) (fs2.map fun f => entU f.fu)) :: fs2.flatMap Fl.foot) ++ [(lb,lgO bd (vlo (some sbb) gc1.length (s :: r).length) nx sy br),(sbb,.cells (gc1 ++ (s :: r).flatMap Sg.cells) 74 true false none)]) ++ (s.foot ++ (r.flatMap Sg.foot ++ m2))) := by simpa [lgX,fpt] using ow4b
   have ow4d := ow4c.dropA
   have ow4e : Ow lo h4 (((bd,.cells (diskX R bm) 63 false false none) :: (bm,mok (k1 + 1) (fs2.map fun f => entU f.fu)) :: fs2.flatMap Fl.foot) ++ (lb,lgO bd (vlo (some sbb) gc1.length (s :: r).length) nx sy br) :: ((sbb,.cells (gc1 ++ (s :: r).flatMap Sg.cells) 74 true false none) :: (r.flatMap Sg.foot ++ m2))) := by simpa using ow4d
   obtain ⟨ow5,k5⟩ := ow4e.setM (lgO bd (.slice (some (sbb,gc1.length + 1 * 4)) (n - 1) (n - 1) true) nx sy br)
   have gl4 := ow4e.at (i := lb) (o := lgO bd (vlo (some sbb) gc1.length (s :: r).length) nx sy br) (by simp)
   rw [← hn,hvl] at gl4
   have e4 := put_at (ws := [.slice (some (sbb,gc1.length + 1 * 4)) (n - 1) (n - 1) true]) (o := 2) (vs := lgC bd (.slice (some (sbb,gc1.length)) n n true) nx sy br) gl4 (by simp [lgC]) rfl rfl
   have t2 : setR (lgC bd (.slice (some (sbb,gc1.length)) n n true) nx sy br) 2 [.slice (some (sbb,gc1.length + 1 * 4)) (n - 1) (n - 1) true] = lgC bd (.slice (some (sbb,gc1.length + 1 * 4)) (n - 1) (n - 1) true) nx sy br := rfl
   rw [t2] at e4
   unfold lgO at ow5 k5
   unfold lgO lgC at gl4
   have hcap : n ≤ n := Nat.le_refl _
   generalize h4.set lb (.cells (lgC bd (.slice (some (sbb,gc1.length + 1 * 4)) (n - 1) (n - 1) true) nx sy br) 68 false false none) = h5 at *
   simp only [GR,evK,binV,intOp,strOp,shOp,unV,Nat.reduceLT,Nat.reduceEqDiff,Nat.reduceAdd,↓reduceIte,Nat.reduceLeDiff,reduceCtorEq,r13_3,c4,r13_5,q0,gl4,hcap,hbo,Option.map_some,Option.isNone_none,Bool.and_true,e4]
   refine ih fs2 (gc1 ++ s.cells) (a1 + s.rs.length) (k1 + 1) _ h5 ?_ (lox_tail lok1) (fun h => by rw [h] at hnr; simp at hnr; omega) (Keeps.trans kk2 (Keeps.trans (k3.mono hl2) (Keeps.trans k4 k5))) ?_ ?_
   ·have hgl : (gc1 ++ s.cells).length = gc1.length + 1 * 4 := by rw [List.length_append]; rfl
    have hrl : r.length = n - 1 := by omega
    have hv5 : vlo (some sbb) (gc1 ++ s.cells).length r.length = .slice (some (sbb,gc1.length + 1 * 4)) (n - 1) (n - 1) true := by rw [hgl,hrl]; rfl
    unfold lgX lgO
    rw [hv5]
    have hfm2 : gc1 ++ s.cells ++ r.flatMap Sg.cells = gc1 ++ (s :: r).flatMap Sg.cells := by simp
    rw [hfm2]
    simpa [dkX,fpt] using ow5
   ·exact q0
   ·exact q1
 refine Sp_fn F.f13 F.p13 (by simp [fn13]) ?_
 simp only [GR,evK,binV,intOp,strOp,shOp,unV,Nat.reduceLT,Nat.reduceEqDiff,Nat.reduceAdd,↓reduceIte,Nat.reduceLeDiff,reduceCtorEq,fn13,c13,r13_0]
 refine XC_of (none34 F (ow.at (i := lb) (o := lgO bd (vlo sb gc.length sgs.length) nx sy br) (by simp [lgX]))) ?_
 rintro _ hx ⟨rfl,e2⟩
 rw [e2]
 clear e2 hx
 simp only [GR,evK,binV,intOp,strOp,shOp,unV,Nat.reduceLT,Nat.reduceEqDiff,Nat.reduceAdd,↓reduceIte,Nat.reduceLeDiff,reduceCtorEq]
 refine loop sgs fs gc a k _ h ow lok (fun h => h) (Keeps.refl _ _) ?_ ?_
 ·rfl
 ·rfl
end Go.AM.Wc
namespace Go.AM.Wc
open Go.AM Go.AM.Wd Go.AM.We Go.AM.Wf
variable {P : Program} {E : Env} {T : H → Prop}
theorem oneP_z {R nx : Nat} {A : List SegA} {c : List V} : ((oneP R nx A c).1 = 0 → (oneP R nx A c).2 ≠ []) ∧ ((oneP R nx A c).1 ≠ 0 → (oneP R nx A c).2 = A) := by
 have hn : ((newP R nx A c).1 = 0 → (newP R nx A c).2 ≠ []) ∧ ((newP R nx A c).1 ≠ 0 → (newP R nx A c).2 = A) := by
  unfold newP
  split
  ·simp
  ·split
   ·simp
   ·simp
 unfold oneP
 split
 ·split
  ·split
   ·simp
   ·simp
  ·exact hn
 ·exact hn
theorem runP_nil {R : Nat} : ∀ (cs : List (List V)) (nx : Nat) (A : List SegA),(runP R cs nx A).2.1 = [] → A = [] ∧ (runP R cs nx A).2.2.1 = nx
 | [],nx,A,h => ⟨h,rfl⟩
 | c :: r,nx,A,h => by
  obtain ⟨z1,z2⟩ := oneP_z (R := R) (nx := nx) (A := A) (c := c)
  unfold runP at h ⊢
  split
  ·rename_i he
   rw [if_pos he] at h
   obtain ⟨q1,_⟩ := runP_nil r (nx + 1) _ h
   exact absurd q1 (z1 he)
  ·rename_i he
   rw [if_neg he] at h
   exact ⟨by rw [← z2 he]; exact h,rfl⟩
theorem appP_nil {R : Nat} {cs : List (List V)} {nx : Nat} {A : List SegA} {br : Bool} (h : (appP R cs nx A br).2.1 = []) : A = [] ∧ (appP R cs nx A br).2.2.1 = nx := by
 unfold appP at h ⊢
 split
 ·rename_i q; rw [if_pos q] at h; exact ⟨h,rfl⟩
 ·rename_i q1
  rw [if_neg q1] at h
  split
  ·rename_i q; rw [if_pos q] at h; exact ⟨h,rfl⟩
  ·rename_i q2
   rw [if_neg q2] at h
   split
   ·rename_i q; rw [if_pos q] at h; exact ⟨h,rfl⟩
   ·rename_i q3
    rw [if_neg q3] at h
    exact runP_nil _ _ _ h
structure OpX where
 kind : Int
 rv : V
 xs : List (V × List V)
 n : Int
 x3 : V
 x4 : V
def OpX.c (o : OpX) : OpC := ⟨o.kind,o.rv,o.xs.map fun p => (p.1,p.2.length),.int .i64 o.n,o.x3,o.x4⟩
def OsX (h : H) (v : V) (ops : List OpX) : Prop := ∃ p c o,v = .slice p ops.length c o ∧ elemsV h 5 ops.length v = some (ops.flatMap fun o => o.c.cells) ∧ ∀ x ∈ ops,Rlx h x.rv x.xs ∧ x.xs.length ≤ 1099511627776 ∧ [x.x3,x.x4].all V.one = true
theorem OsX.os {h : H} {v : V} {ops : List OpX} (a : OsX h v ops) : Os h v (ops.map OpX.c) := by
 obtain ⟨p,c,o,h1,h2,h3⟩ := a
 have hl : (ops.map OpX.c).length = ops.length := List.length_map ..
 refine ⟨p,c,o,by rw [hl]; exact h1,by rw [hl,h2,List.flatMap_map],fun x hx => ?_⟩
 obtain ⟨y,hy,rfl⟩ := List.mem_map.1 hx
 obtain ⟨q1,q2,q3⟩ := h3 y hy
 refine ⟨q1.rl,by show (y.xs.map _).length ≤ _; rw [List.length_map]; exact q2,?_⟩
 simp only [OpX.c,List.all_cons,Bool.and_eq_true] at q3 ⊢
 exact ⟨rfl,q3⟩
theorem OsX.kp {h h' : H} {v : V} {ops : List OpX} (a : OsX h v ops) (k : Kp h h') : OsX h' v ops := by
 obtain ⟨p,c,o,h1,h2,h3⟩ := a
 exact ⟨p,c,o,h1,elems_kp k h2,fun x hx => ⟨(h3 x hx).1.kp k,(h3 x hx).2⟩⟩
def LgI (R lo lb bd bm : Nat) (m2 : List Cell) (h : H) : Prop := ∃ fs sb gc sgs a nx sy br k,Ow lo h (dkX R bd bm k fs ++ (lgX lb bd sb gc sgs nx sy br ++ m2)) ∧ LOX R fs sb gc sgs a nx ∧ (sgs = [] → nx = 0)
theorem LgI.kp {R lo lb bd bm : Nat} {m2 : List Cell} {h h' : H} (a : LgI R lo lb bd bm m2 h) (k : Kp h h') : LgI R lo lb bd bm m2 h' := by
 obtain ⟨fs,sb,gc,sgs,a1,nx,sy,br,k1,q1,q2,q3⟩ := a
 exact ⟨fs,sb,gc,sgs,a1,nx,sy,br,k1,q1.kp k,q2,q3⟩
theorem lgi_append (F : Fw P E T) (hu : E.prim 105 = some usedK) {lo : Nat} {h : H} {R lb bd bm : Nat} {m2 : List Cell} {v : V} {xs : List (V × List V)} (I : LgI R lo lb bd bm m2 h) (hlo : lo ≤ h.size) (h1lo : 1 ≤ lo) (ht : T h) (hvs : ∀ h',Keeps lo h h' → Rlx h' v xs) (hxl : xs.length ≤ 1099511627776) :
  Sp P E (.func 9 [] []) [.ptr (some (lb,0)),v] h fun _ h' => LgI R lo lb bd bm m2 h' ∧ Keeps lo h h' := by
 obtain ⟨fs,sb,gc,sgs,a,nx,sy,br,k,ow,lok,hz⟩ := I
 refine Sp.mono (append9x F hu ow hlo h1lo ht lok (fun h' k' _ => hvs h' k') hxl) ?_
 rintro _ h' ⟨e,fs',sb',gc',sgs',nx',br',rfl,ow',lok',he,kk⟩
 refine ⟨⟨fs',sb',gc',sgs',a,nx',sy,br',k,ow',lok',fun h0 => ?_⟩,kk⟩
 have h2 : (appP R (xs.map (·.2)) nx (sgs.map Sg.sh) br).2.1 = [] := by rw [← he,h0]; rfl
 obtain ⟨q1,q2⟩ := appP_nil h2
 rw [← he] at q2
 have : sgs = [] := List.map_eq_nil_iff.1 q1
 exact q2.trans (hz this)
theorem lgi_sync (F : Fw P E T) (G : Fe P E) {lo : Nat} {h : H} {R lb bd bm : Nat} {m2 : List Cell} (I : LgI R lo lb bd bm m2 h) (hlo : lo ≤ h.size) (h1lo : 1 ≤ lo) (ht : T h) :
  Sp P E (.func 18 [] []) [.ptr (some (lb,0))] h fun _ h' => LgI R lo lb bd bm m2 h' ∧ Keeps lo h h' := by
 obtain ⟨fs,sb,gc,sgs,a,nx,sy,br,k,ow,lok,hz⟩ := I
 refine Sp.mono (sync18x F G ow hlo h1lo ht lok) ?_
 rintro _ h' ⟨fs',sgs',sy',ow',lok',he,kk⟩
 refine ⟨⟨fs',sb,gc,sgs',a,nx,sy',br,k,ow',lok',fun h0 => hz ?_⟩,kk⟩
 rw [h0] at he
 exact List.map_eq_nil_iff.1 he.symm
theorem lgi_cut (F : Fw P E T) {lo : Nat} {h : H} {R lb bd bm : Nat} {m2 : List Cell} {n : Int} (I : LgI R lo lb bd bm m2 h) (hlo : lo ≤ h.size) (h1lo : 1 ≤ lo) (ht : T h) :
  Sp P E (.func 13 [] []) [.ptr (some (lb,0)),.int .i64 n] h fun _ h' => LgI R lo lb bd bm m2 h' ∧ Keeps lo h h' := by
 obtain ⟨fs,sb,gc,sgs,a,nx,sy,br,k,ow,lok,hz⟩ := I
 refine Sp.mono (cut13x F ow hlo h1lo ht lok) ?_
 rintro _ h' ⟨fs',gc',sgs',a',k',ow',lok',he,kk⟩
 exact ⟨⟨fs',sb,gc',sgs',a',nx,sy,br,k',ow',lok',fun h0 => hz (he h0)⟩,kk⟩
end Go.AM.Wc
namespace Go.AM.Wc
open Go.AM Go.AM.Wd Go.AM.We
variable {P : Program} {E : Env} {T : H → Prop}
theorem synced19 (F : Fw P E T) (D : Fd P E) {h : H} {lb bd : Nat} {sv : V} {nx sy : Int} {br : Bool} (gl : h.get lb = some (lgO bd sv nx sy br)) : Sp P E (.func 19 [] []) [.ptr (some (lb,0))] h fun v h' => v = .int .i64 sy ∧ h' = h := by
 refine Sp_fn D.f19 D.p19 (by simp [fn19]) ?_
 simp only [GR,evK,binV,intOp,strOp,shOp,unV,Nat.reduceLT,Nat.reduceEqDiff,Nat.reduceAdd,↓reduceIte,Nat.reduceLeDiff,reduceCtorEq,fn19,c19,r19_0]
 refine XC_of (none34 F gl) ?_
 rintro _ hx ⟨rfl,e2⟩
 rw [e2]
 clear e2 hx
 unfold lgO lgC at gl
 simp only [GR,evK,binV,intOp,strOp,shOp,unV,Nat.reduceLT,Nat.reduceEqDiff,Nat.reduceAdd,↓reduceIte,Nat.reduceLeDiff,reduceCtorEq,r19_1,gl]
theorem recs_sh (sgs : List Sg) : recs sgs = (sgs.map Sg.sh).flatMap (·.2) := by
 unfold recs
 rw [List.flatMap_map]; rfl
end Go.AM.Wc
namespace Go.AM.Wc
open Go.AM Go.AM.Wd Go.AM.We
variable {P : Program} {E : Env} {T : H → Prop}
theorem resVs_c {L t b : Nat} {ρ : Nat → V} {h : H} {v : V} {ty : Nat} (ht : t < L) (h1 : ρ t = .ptr (some (b,0))) (hg : h.get b = some (.cells [v] ty false false none)) : resVs (toL L ρ) h [.c t 1 false] = some [v] := by
 have he : (toL L ρ)[t]? = some (ρ t) := toL_get ht ρ
 simp [resVs,resV,he,h1,hg]
def cntO (k : Nat) : Obj := .cells [.int .i64 (k : Nat)] 3 false false none
end Go.AM.Wc
namespace Go.AM.Wc
open Go.AM Go.AM.Wd Go.AM.We
variable {P : Program} {E : Env} {T : H → Prop}
end Go.AM.Wc
namespace Go.AM.Wc
open Go.AM Go.AM.Wd Go.AM.We
variable {P : Program} {E : Env} {T : H → Prop}
end Go.AM.Wc
namespace Go.AM.Wc
open Go.AM Go.AM.Wd Go.AM.We Go.AM.Wf
variable {P : Program} {E : Env} {T : H → Prop}
set_option maxHeartbeats 2000000 in
theorem script5 (F : Fw P E T) (G : Fe P E) (hu : E.prim 105 = some usedK) {lo : Nat} {h0 : H} {R lb bd bm : Nat} {m2 : List Cell} {v : V} {ops : List OpX} {K : List Fr} {Q : Po} {ρ0 : Nat → V} (h1lo : 1 ≤ lo) (ht : T h0) (hvs : ∀ h',Keeps lo h0 h' → OsX h' v ops) (hol : ops.length ≤ 1099511627775) (w7 : ρ0 7 = .ptr (some (lb,0)))
  (cont : ∀ (ρ' : Nat → V) (h' : H),(∀ j,j < 10 → ρ' j = ρ0 j) → LgI R lo lb bd bm m2 h' → Keeps lo h0 h' → lo ≤ h'.size → X P E none 159 K ρ' h' Q) :
  ∀ (d i : Nat) (ρ : Nat → V) (h1 : H),ops.length - i = d → i ≤ ops.length → LgI R lo lb bd bm m2 h1 → Keeps lo h0 h1 → lo ≤ h1.size → (∀ j,j < 10 → ρ j = ρ0 j) → ρ 40 = v → ρ 41 = .int .i64 ops.length → ρ 42 = .int .i64 i → XL P E none 159 b5_14 (.b 0 :: K) ρ h1 Q := by
 intro d
 induction d with
 | zero =>
  intro i ρ h1 hd hi I kk hlo hr q40 q41 q42
  have hke : ¬ (i : Int) < (ops.length : Int) := by omega
  rw [u5_14]
  simp only [GR,evK,binV,intOp,strOp,shOp,unV,Nat.reduceLT,Nat.reduceEqDiff,Nat.reduceAdd,↓reduceIte,Nat.reduceLeDiff,reduceCtorEq,q41,q42,hke]
  refine cont _ h1 (fun j hj => ?_) I kk hlo
  simp only [up_app]
  repeat rw [if_neg (by omega)]
  exact hr j hj
 | succ d ih =>
  intro i ρ h1 hd hi I kk hlo hr q40 q41 q42
  have hke : i < ops.length := by omega
  have hki : (i : Int) < (ops.length : Int) := by omega
  have q7 : ρ 7 = .ptr (some (lb,0)) := (hr 7 (by decide)).trans w7
  have hw1 : IntKind.i64.wrap ((i : Int) + 1) = ((i + 1 : Nat) : Int) := wrap_nat (n := i + 1) (by omega)
  have hos := hvs h1 kk
  have hml : (ops.map OpX.c).length = ops.length := List.length_map ..
  obtain ⟨b,o,c,q,cs,ty,op,ro,fz,hv1,hg1,hle,htk⟩ := hos.os.at (k := i) (by rw [hml]; exact hke)
  rw [hml] at hv1
  have hci : (ops.map OpX.c)[i]'(by rw [hml]; exact hke) = ops[i].c := by simp
  rw [hci] at htk
  obtain ⟨_,_,_,_,_,hprop⟩ := hos
  obtain ⟨p1,p2,p3⟩ := hprop ops[i] (List.getElem_mem hke)
  have q40' := q40.trans hv1
  have hcc : ops[i].c.cells = [.int .i64 ops[i].kind,ops[i].rv,.int .i64 ops[i].n,ops[i].x3,ops[i].x4] := rfl
  obtain ⟨vp,vc,vo,hrv⟩ : ∃ p c o,ops[i].rv = .slice p ops[i].xs.length c o := by obtain ⟨p,c,o,h,_⟩ := p1; exact ⟨p,c,o,h⟩
  have h5 : ops[i].c.cells.length = 5 := rfl
  have k1 : Kp h1 (h1.psh (.cells [.int .i64 0,.slice none 0 0 false,.int .i64 0,.int .i64 0,.int .i64 0] 33 false false none)) := Keeps.psh (Nat.le_refl _) _
  have g1 := psh_same h1 (.cells [.int .i64 0,.slice none 0 0 false,.int .i64 0,.int .i64 0,.int .i64 0] 33 false false none)
  have e1 := put_at (ws := ops[i].c.cells) (o := 0) g1 (by rw [h5]; simp) (by
   rw [hcc,hrv]
   simp only [List.all_cons,Bool.and_eq_true] at p3 ⊢
   exact ⟨rfl,rfl,rfl,p3⟩) rfl
  have t1 : setR [V.int .i64 0,.slice none 0 0 false,.int .i64 0,.int .i64 0,.int .i64 0] 0 ops[i].c.cells = ops[i].c.cells := rfl
  rw [t1] at e1
  have k2 : Kp h1 ((h1.psh (.cells [.int .i64 0,.slice none 0 0 false,.int .i64 0,.int .i64 0,.int .i64 0] 33 false false none)).set h1.size (.cells ops[i].c.cells 33 false false none)) := Keeps.trans k1 (Keeps.set (H.get_lt g1) (Nat.le_refl _) _)
  have g2 := hset_same (H.get_lt g1) (.cells ops[i].c.cells 33 false false none)
  rw [u5_14]
  simp only [GR,evK,binV,intOp,strOp,shOp,unV,Nat.reduceLT,Nat.reduceEqDiff,Nat.reduceAdd,↓reduceIte,Nat.reduceLeDiff,reduceCtorEq,q41,q42,hki,r5_5,q40',Int.natCast_nonneg,Int.ofNat_lt,hke,Int.toNat_natCast,hg1,hle,htk,h5,e1]
  obtain ⟨h2,hh2⟩ : ∃ x,x = (h1.psh (.cells [.int .i64 0,.slice none 0 0 false,.int .i64 0,.int .i64 0,.int .i64 0] 33 false false none)).set h1.size (.cells ops[i].c.cells 33 false false none) := ⟨_,rfl⟩
  rw [← hh2] at k2 g2 ⊢
  clear hh2 e1 k1 g1
  rw [hcc] at g2
  have kk2 : Keeps lo h0 h2 := Keeps.trans kk (k2.mono hlo)
  have hlo2 : lo ≤ h2.size := Nat.le_trans hlo k2.size
  have ht2 : T h2 := F.tlow _ _ _ h1lo ht kk2
  have I2 := I.kp k2
  rw [hrv] at g2
  by_cases k0 : ops[i].kind = 0
  ·have b0 : (ops[i].kind == 0) = true := by simp [k0]
   simp only [GR,evK,binV,intOp,strOp,shOp,unV,Nat.reduceLT,Nat.reduceEqDiff,Nat.reduceAdd,↓reduceIte,Nat.reduceLeDiff,reduceCtorEq,r5_6,g2,r5_7,b0,r5_8,q7]
   rw [← hrv]
   refine XC_of (lgi_append F hu I2 hlo2 h1lo ht2 (xs := ops[i].xs) (fun h' k' => ?_) p2) ?_
   ·obtain ⟨_,_,_,_,_,hp⟩ := hvs h' (Keeps.trans kk2 k')
    exact (hp ops[i] (List.getElem_mem hke)).1
   rintro _ h3 ⟨I3,k3⟩
   simp only [GR,evK,binV,intOp,strOp,shOp,unV,Nat.reduceLT,Nat.reduceEqDiff,Nat.reduceAdd,↓reduceIte,Nat.reduceLeDiff,reduceCtorEq,r5_13,q42,hw1]
   refine ih (i + 1) _ h3 (by omega) (by omega) I3 (Keeps.trans kk2 k3) (Nat.le_trans hlo2 k3.size) (fun j hj => ?_) ?_ ?_ rfl
   ·simp only [up_app]
    repeat rw [if_neg (by omega)]
    exact hr j hj
   ·exact q40
   ·exact q41
  ·have b0 : (ops[i].kind == 0) = false := by simp [k0]
   by_cases k1' : ops[i].kind = 1
   ·have b1 : (ops[i].kind == 1) = true := by simp [k1']
    simp only [GR,evK,binV,intOp,strOp,shOp,unV,Nat.reduceLT,Nat.reduceEqDiff,Nat.reduceAdd,↓reduceIte,Nat.reduceLeDiff,reduceCtorEq,r5_6,g2,r5_7,b0,r5_9,b1,r5_10,q7]
    refine XC_of (lgi_sync F G I2 hlo2 h1lo ht2) ?_
    rintro _ h3 ⟨I3,k3⟩
    simp only [GR,evK,binV,intOp,strOp,shOp,unV,Nat.reduceLT,Nat.reduceEqDiff,Nat.reduceAdd,↓reduceIte,Nat.reduceLeDiff,reduceCtorEq,r5_13,q42,hw1]
    refine ih (i + 1) _ h3 (by omega) (by omega) I3 (Keeps.trans kk2 k3) (Nat.le_trans hlo2 k3.size) (fun j hj => ?_) ?_ ?_ rfl
    ·simp only [up_app]
     repeat rw [if_neg (by omega)]
     exact hr j hj
    ·exact q40
    ·exact q41
   ·have b1 : (ops[i].kind == 1) = false := by simp [k1']
    by_cases k2' : ops[i].kind = 2
    ·have b2 : (ops[i].kind == 2) = true := by simp [k2']
     simp only [GR,evK,binV,intOp,strOp,shOp,unV,Nat.reduceLT,Nat.reduceEqDiff,Nat.reduceAdd,↓reduceIte,Nat.reduceLeDiff,reduceCtorEq,r5_6,g2,r5_7,b0,r5_9,b1,r5_11,b2,r5_12,q7]
     refine XC_of (lgi_cut F I2 hlo2 h1lo ht2) ?_
     rintro _ h3 ⟨I3,k3⟩
     simp only [GR,evK,binV,intOp,strOp,shOp,unV,Nat.reduceLT,Nat.reduceEqDiff,Nat.reduceAdd,↓reduceIte,Nat.reduceLeDiff,reduceCtorEq,r5_13,q42,hw1]
     refine ih (i + 1) _ h3 (by omega) (by omega) I3 (Keeps.trans kk2 k3) (Nat.le_trans hlo2 k3.size) (fun j hj => ?_) ?_ ?_ rfl
     ·simp only [up_app]
      repeat rw [if_neg (by omega)]
      exact hr j hj
     ·exact q40
     ·exact q41
    ·have b2 : (ops[i].kind == 2) = false := by simp [k2']
     simp only [GR,evK,binV,intOp,strOp,shOp,unV,Nat.reduceLT,Nat.reduceEqDiff,Nat.reduceAdd,↓reduceIte,Nat.reduceLeDiff,reduceCtorEq,r5_6,g2,r5_7,b0,r5_9,b1,r5_11,b2,r5_13,q42,hw1]
     obtain ⟨h3,hh3⟩ : ∃ x,x = h2 := ⟨_,rfl⟩
     have I3 : LgI R lo lb bd bm m2 h3 := by rw [hh3]; exact I2
     have k3 : Keeps lo h2 h3 := by rw [hh3]; exact Keeps.refl _ _
     rw [← hh3]
     refine ih (i + 1) _ h3 (by omega) (by omega) I3 (Keeps.trans kk2 k3) (Nat.le_trans hlo2 k3.size) (fun j hj => ?_) ?_ ?_ rfl
     ·simp only [up_app]
      repeat rw [if_neg (by omega)]
      exact hr j hj
     ·exact q40
     ·exact q41
end Go.AM.Wc
namespace Go.AM.Wc
open Go.AM Go.AM.Wd Go.AM.We Go.AM.Wf
variable {P : Program} {E : Env} {T : H → Prop}
theorem syn_still (F : Fw P E T) {h h1 : H} {R bd bm k lb nx : Nat} {A : List SegA} {fs : List Fy} {sb : Option Nat} {sgs : List Sg} (ht : T h) (dv : DV h R bd bm k fs) (hfs : fs.map (fun f => (f.name,f.cs)) = A.map fA) (hsy : ∀ f ∈ fs,f.syn = f.cs.length) (ow : Ow h.size h1 (lgX lb bd sb [] sgs nx 0 false)) (k1 : Kp h h1) :
  Nonempty (Syn8 P E T R bd bm k lb nx A sb sgs h1 fun h' => Kp h h' ∧ Ow h.size h' (lgX lb bd sb [] sgs nx nx false)) := by
 refine ⟨{ fsI := fun _ => fs,Inv := fun _ h' => Kp h h' ∧ Ow h.size h' (lgX lb bd sb [] sgs nx 0 false),hDV := ?_,hfs := fun _ => hfs,hKp := fun _ _ _ i k => ⟨Kp.trans i.1 k,i.2.kp k⟩,hStep := ?_,i0 := ⟨k1,ow⟩,fin := ?_ }⟩
 ·rintro _ h' ⟨k',o'⟩
  exact ⟨dv.kp k',F.tkeep ht k',fun b hb => o'.at (by simp [lgX,fpt,hb])⟩
 ·intro i h' f hi inv hf
  have hm : f ∈ fs := List.mem_of_getElem? hf
  have := hsy f hm
  exact ⟨fun h => by omega,fun _ => inv⟩
 ·rintro h' ⟨k',o'⟩
  have gl := o'.at (i := lb) (o := lgO bd (vlo sb ([] : List V).length sgs.length) nx 0 false) (by simp [lgX])
  have hlb : h.size ≤ lb := o'.low (lb,lgO bd (vlo sb ([] : List V).length sgs.length) nx 0 false) (by simp [lgX])
  have o2 : Ow h.size h' ((lb,lgO bd (vlo sb ([] : List V).length sgs.length) nx 0 false) :: (fpt sb 74 ([] ++ sgs.flatMap Sg.cells) ++ sgs.flatMap Sg.foot)) := o'
  obtain ⟨o3,_⟩ := Ow.set o2 (lgO bd (vl sb sgs.length) nx nx false)
  exact ⟨gl,Keeps.trans (n := h.size) k' (Keeps.set (H.get_lt gl) hlb _),o3⟩
def Fl.sy (f : Fl) : Fl := { f with syn := f.cs.length }
def Fl.fy (f : Fl) : Fy := ⟨f.name,f.blk,vl f.b f.cs.length,f.cs,f.syn.toNat⟩
def fsX (fs : List Fl) (i : Nat) : List Fl := (fs.take i).map Fl.sy ++ fs.drop i
theorem fsX_zero (fs : List Fl) : fsX fs 0 = fs := by simp [fsX]
theorem fsX_split {fs : List Fl} {i : Nat} (hi : i < fs.length) : fsX fs i = (fs.take i).map Fl.sy ++ fs[i] :: fs.drop (i + 1) ∧ fsX fs (i + 1) = (fs.take i).map Fl.sy ++ fs[i].sy :: fs.drop (i + 1) := by
 unfold fsX
 refine ⟨by rw [List.drop_eq_getElem_cons hi],?_⟩
 rw [List.take_succ_eq_append_getElem hi,List.map_append]; simp
theorem fsX_fil (fs : List Fl) (i : Nat) : (fsX fs i).map (fun f => (f.name,f.cs)) = fs.map fun f => (f.name,f.cs) := by
 unfold fsX
 rw [List.map_append,List.map_map]
 conv => rhs; rw [← List.take_append_drop i fs,List.map_append]
 rfl
theorem fsX_nn {fs : List Fl} {i : Nat} (h : ∀ f ∈ fs,(f.b = none → f.cs = []) ∧ Bs f.cs ∧ 0 ≤ f.syn) : ∀ f ∈ fsX fs i,(f.b = none → f.cs = []) ∧ Bs f.cs ∧ 0 ≤ f.syn := by
 intro f hf
 rcases List.mem_append.1 hf with hf | hf
 ·obtain ⟨g,hg,rfl⟩ := List.mem_map.1 hf
  obtain ⟨q1,q2,q3⟩ := h g (List.mem_of_mem_take hg)
  exact ⟨q1,q2,by simp [Fl.sy]⟩
 ·exact h f (List.mem_of_mem_drop hf)
theorem dv_of {lo : Nat} {h : H} {R bd bm k : Nat} {fs : List Fl} {m1 m2 : List Cell} (ow : Ow lo h (m1 ++ (dkX R bd bm k fs ++ m2))) (hn : ∀ f ∈ fs,(f.b = none → f.cs = []) ∧ Bs f.cs ∧ 0 ≤ f.syn) : DV h R bd bm k (fs.map Fl.fy) where
 gd := ow.at (by simp [dkX])
 gm := by
  have := ow.at (i := bm) (o := mok k (fs.map fun f => entU f.fu)) (by simp [dkX])
  rw [List.map_map]; exact this
 fl := fun f hf => by
  obtain ⟨g,hg,rfl⟩ := List.mem_map.1 hf
  obtain ⟨q1,q2,q3⟩ := hn g hg
  have gf := ow.at (i := g.blk) (o := .cells [vl g.b g.cs.length,.int .i64 g.syn] 105 false false none) (by
   have := foot_mem hg
   simp only [dkX,List.mem_append,List.mem_cons]
   exact .inr (.inl (.inr (.inr this))))
  refine ⟨?_,?_⟩
  ·show h.get g.blk = some (.cells [vl g.b g.cs.length,.int .i64 (g.syn.toNat : Int)] 105 false false none)
   rw [Int.toNat_of_nonneg q3]; exact gf
  ·show Rx h (vl g.b g.cs.length) g.cs
   cases hb : g.b with
   | none => rw [q1 hb]; exact ⟨none,0,false,rfl,by simp [vl,elemsV],by intro x hx; cases hx⟩
   | some b =>
    have gb := ow.at (i := b) (o := .cells g.cs 5 true false none) (by
     simp only [dkX,List.mem_append,List.mem_cons,List.mem_flatMap]
     exact .inr (.inl (.inr (.inr ⟨g,hg,by simp [Fl.foot,fpt,hb]⟩))))
    exact ⟨_,_,_,rfl,vl_elems gb,q2⟩
end Go.AM.Wc
namespace Go.AM.Wc
open Go.AM Go.AM.Wd Go.AM.We Go.AM.Wf
variable {P : Program} {E : Env} {T : H → Prop}
theorem syn_files (F : Fw P E T) {lo : Nat} {h h1 : H} {R bd bm k lb a nx : Nat} {A : List SegA} {fs : List Fl} {sb : Option Nat} {sgs : List Sg} {m2 : List Cell} (ow : Ow lo h (dkX R bd bm k fs ++ m2)) (hlo : lo ≤ h.size) (h1lo : 1 ≤ lo) (ht : T h) (ok : AOK A a nx)
  (hfs : fs.map (fun f => (f.name,f.cs)) = A.map fA) (hn : ∀ f ∈ fs,(f.b = none → f.cs = []) ∧ Bs f.cs ∧ 0 ≤ f.syn) (hsy : ∀ f ∈ fs,f.syn ≤ (f.cs.length : Int)) (owN : Ow h.size h1 (lgX lb bd sb [] sgs nx 0 false)) (k1 : Kp h h1) :
  Nonempty (Syn8 P E T R bd bm k lb nx A sb sgs h1 fun h' => Ow lo h' (dkX R bd bm k (fs.map Fl.sy) ++ (m2 ++ lgX lb bd sb [] sgs nx nx false)) ∧ Keeps lo h h') := by
 have hl : fs.length = A.length := by have := congrArg List.length hfs; simpa using this
 have hfn : fs.map Fl.name = A.map fun s => segN s.1 := by
  have := congrArg (List.map Prod.fst) hfs
  rw [List.map_map,List.map_map] at this
  exact this
 have o1 : Ow lo h1 (dkX R bd bm k (fsX fs 0) ++ (m2 ++ lgX lb bd sb [] sgs nx 0 false)) := by
  rw [fsX_zero]
  simpa using Ow.join ow k1 hlo owN
 refine ⟨{ fsI := fun i => (fsX fs i).map Fl.fy,Inv := fun i h' => Ow lo h' (dkX R bd bm k (fsX fs i) ++ (m2 ++ lgX lb bd sb [] sgs nx 0 false)) ∧ Keeps lo h h' ∧ lo ≤ h'.size,hDV := ?_,hfs := ?_,hKp := fun _ h2 h3 i kk => ⟨i.1.kp kk,Keeps.trans i.2.1 (kk.mono i.2.2),Nat.le_trans i.2.2 kk.size⟩,hStep := ?_,i0 := ⟨o1,k1.mono hlo,Nat.le_trans hlo k1.size⟩,fin := ?_ }⟩
 ·rintro i h' ⟨o',k',l'⟩
  exact ⟨dv_of (m1 := []) o' (fsX_nn hn),F.tlow _ _ _ h1lo ht k',fun b hb => o'.at (by simp [lgX,fpt,hb])⟩
 ·intro i
  rw [List.map_map,← hfs,← fsX_fil fs i]; rfl
 ·rintro i h' f hi ⟨o',k',l'⟩ hf
  have hif : i < fs.length := by omega
  obtain ⟨e1,e2⟩ := fsX_split hif
  have hgf : f = fs[i].fy := by
   rw [e1,List.map_append,List.map_cons] at hf
   have hlen : (((fs.take i).map Fl.sy).map Fl.fy).length = i := by simp; omega
   rw [List.getElem?_append_right (by omega),hlen,Nat.sub_self] at hf
   simpa using hf.symm
  have hm := List.getElem_mem hif
  obtain ⟨n1,n2,n3⟩ := hn _ hm
  have hname : fs[i].name = segN A[i].1 := by
   have := congrArg (fun l => l[i]?) hfn
   simp only [List.getElem?_map,List.getElem?_eq_getElem hif,List.getElem?_eq_getElem hi,Option.map_some,Option.some.injEq] at this
   exact this
  obtain ⟨m1,_,_⟩ := ok.n9 (List.getElem_mem hi)
  have ln := segN_len m1
  have hne : ∀ g ∈ (fs.take i).map Fl.sy,g.name ≠ fs[i].name := by
   intro g hg e
   obtain ⟨g0,hg0,rfl⟩ := List.mem_map.1 hg
   have hin : g0.name ∈ (A.take i).map fun s => segN s.1 := by
    rw [List.map_take,← hfn,← List.map_take]
    exact List.mem_map.2 ⟨g0,hg0,rfl⟩
   have := ahead ok.ch ok.lim hi g0.name hin
   have e' : g0.name = fs[i].name := e
   rw [e',hname,less_self] at this; cases this
  refine ⟨fun hlt => ?_,fun hlt => ?_⟩
  ·have o2 : Ow lo h' ([] ++ (dkX R bd bm k ((fs.take i).map Fl.sy ++ fs[i] :: fs.drop (i + 1)) ++ (m2 ++ lgX lb bd sb [] sgs nx 0 false))) := by rw [← e1]; exact o'
   have hfnm : f.name = fs[i].name := by rw [hgf]; rfl
   rw [hfnm]
   refine Sp.mono (sync33x F o2 l' n1 rfl hne (by rw [hname,ln]; omega) (by rw [hname,ln]; omega)) ?_
   rintro r h2 ⟨rfl,o3,k3⟩
   refine ⟨rfl,?_,Keeps.trans k' k3,Nat.le_trans l' k3.size⟩
   rw [e2]
   exact o3
  ·refine ⟨?_,k',l'⟩
   rw [hgf] at hlt
   have hs : fs[i].syn = fs[i].cs.length := by
    have h1 := hsy _ hm
    have h2 : ¬ fs[i].syn.toNat < fs[i].cs.length := hlt
    omega
   have : fs[i].sy = fs[i] := by unfold Fl.sy; rw [← hs]
   rw [e2,this,← e1]
   exact o'
 ·rintro h' ⟨o',k',l'⟩
  have he : fsX fs A.length = fs.map Fl.sy := by unfold fsX; rw [← hl,List.take_length,List.drop_length,List.append_nil]
  rw [he] at o'
  have gl := o'.at (i := lb) (o := lgO bd (vlo sb ([] : List V).length sgs.length) nx 0 false) (by simp [lgX])
  have o2 : Ow lo h' ((dkX R bd bm k (fs.map Fl.sy) ++ m2) ++ (lb,lgO bd (vlo sb ([] : List V).length sgs.length) nx 0 false) :: (fpt sb 74 ([] ++ sgs.flatMap Sg.cells) ++ sgs.flatMap Sg.foot)) := by simpa [lgX] using o'
  obtain ⟨o3,k3⟩ := o2.setM (lgO bd (vl sb sgs.length) nx nx false)
  exact ⟨gl,by simpa [lgX,vlo_zero] using o3,Keeps.trans k' k3⟩
end Go.AM.Wc
namespace Go.AM.Wc
open Go.AM Go.AM.Wd Go.AM.We Go.AM.Wf
variable {P : Program} {E : Env} {T : H → Prop}
theorem crash20 (F : Fw P E T) (G : Fe P E) {h : H} {R bd bm : Nat} {keep : Int} {W : H → Prop} (gd : h.get bd = some (.cells (diskX R bm) 63 false false none)) (hk : 0 ≤ keep) (fa : Sp P E (.func 56 [] []) [.ptr (some (bd,0)),.int .i64 keep] h fun _ h' => W h') :
  Sp P E (.func 20 [] []) [.ptr (some (bd,0)),.int .i64 keep] h fun _ h' => W h' := by
 have hk' : ¬ keep < 0 := by omega
 refine Sp_fn G.f20 G.p20 (by simp [fn20]) ?_
 simp only [GR,evK,binV,intOp,strOp,shOp,unV,Nat.reduceLT,Nat.reduceEqDiff,Nat.reduceAdd,↓reduceIte,Nat.reduceLeDiff,reduceCtorEq,fn20,c20,r20_0]
 refine XC_of (none55x F gd) ?_
 rintro _ hx ⟨rfl,e2⟩
 rw [e2]
 clear e2 hx
 unfold diskX at gd
 simp only [GR,evK,binV,intOp,strOp,shOp,unV,Nat.reduceLT,Nat.reduceEqDiff,Nat.reduceAdd,↓reduceIte,Nat.reduceLeDiff,reduceCtorEq,r20_1,hk',r20_2,gd,r20_3]
 refine XC_of fa ?_
 intro _ h' hW
 simp only [GR,evK,binV,intOp,strOp,shOp,unV,Nat.reduceLT,Nat.reduceEqDiff,Nat.reduceAdd,↓reduceIte,Nat.reduceLeDiff,reduceCtorEq]
 exact hW
def diskD (R bm : Nat) : List V := [.map (some bm),.int .i64 0,.int .i64 0,.int .i64 R,.bool true]
theorem restart21d (F : Fw P E T) (D : Fd P E) {lo : Nat} {h : H} {R bd bm : Nat} {m1 m2 : List Cell} (ow : Ow lo h (m1 ++ (bd,.cells (diskD R bm) 63 false false none) :: m2)) : Sp P E (.func 21 [] []) [.ptr (some (bd,0))] h fun _ h' => Ow lo h' (m1 ++ (bd,.cells (diskX R bm) 63 false false none) :: m2) ∧ Keeps lo h h' := by
 have gd := ow.at (i := bd) (o := .cells (diskD R bm) 63 false false none) (by simp)
 have hnone : Sp P E (.func 55 [] []) [.ptr (some (bd,0))] h fun v h' => v = .bool false ∧ h' = h := by
  have gd' := gd
  unfold diskD at gd'
  refine Sp_fn F.f55 F.p55 (by simp [fn55]) ?_
  simp only [GR,evK,binV,intOp,strOp,shOp,unV,Nat.reduceLT,Nat.reduceEqDiff,Nat.reduceAdd,↓reduceIte,Nat.reduceLeDiff,reduceCtorEq,fn55,c55,r55_0,eq_pn,gd',eq_mn]
 have e4 := put_at (ws := [.bool false]) (o := 4) gd (by simp [diskD]) rfl rfl
 have t4 : setR (diskD R bm) 4 [.bool false] = diskX R bm := rfl
 rw [t4] at e4
 obtain ⟨ow2,k2⟩ := ow.setM (.cells (diskX R bm) 63 false false none)
 refine Sp_fn D.f21 D.p21 (by simp [fn21]) ?_
 simp only [GR,evK,binV,intOp,strOp,shOp,unV,Nat.reduceLT,Nat.reduceEqDiff,Nat.reduceAdd,↓reduceIte,Nat.reduceLeDiff,reduceCtorEq,fn21,c21,r21_0]
 refine XC_of hnone ?_
 rintro _ hx ⟨rfl,e2⟩
 rw [e2]
 clear e2 hx
 unfold diskD at gd
 simp only [GR,evK,binV,intOp,strOp,shOp,unV,Nat.reduceLT,Nat.reduceEqDiff,Nat.reduceAdd,↓reduceIte,Nat.reduceLeDiff,reduceCtorEq,r21_1,gd,Bool.not_true,r21_2,e4]
 exact ⟨ow2,k2⟩
end Go.AM.Wc
namespace Go.AM.Wc
open Go.AM Go.AM.Wd Go.AM.We Go.AM.Wf
variable {P : Program} {E : Env} {T : H → Prop}
set_option maxHeartbeats 1000000 in
theorem range_recsP (F : Fw P E T) {lo L tf p1 p2 tb a nx : Nat} {h0 h : H} {ca b : C} {asg : (Nat → V) → Nat → V} {ρ : Nat → V} {K : List Fr} {Q : Po} {J : Nat → List Cell → Prop} {M0 : List Cell} {sv' : V} {sgs : List Sg}
  (htf : tf < L) (hT : ρ tf = .func 41 [] [.ptr (some (tb,0))]) (hlo : lo ≤ h.size) (hM0 : J a M0) (ow : Ow lo h (M0 ++ [(tb,boxO sv')])) (cl : Cl h sv' sgs) (kk : Keeps lo h0 h)
  (hrs : ∀ k M h',J k M → Ow lo h' M → Keeps lo h0 h' → ∃ sv,Rsx h' sv sgs) (hc : chain sgs a nx) (hm : nx ≤ 1000000000000)
  (hA : ∀ l ρ' h' (R : Po),R .nrm (toL L (asg ρ')) h' → X P E (some l) L [.c ca] ρ' h' R)
  (body : ∀ k M l hB br c,J k M → a ≤ k → k < nx → (recs sgs)[k - a]? = some c → 1 ≤ c.length → Bs c → lo ≤ hB.size → Keeps lo h0 hB → Ow lo hB (M ++ ([(tb,boxO sv'),(l,.loop .busy none (toL L ρ) [p1,p2] ca b)] ++ [(br,.cells c 5 true false none)])) →
   X P E (some l) L [.c b] (asg (up (up ρ p1 (.int .i64 (k : Nat))) p2 (vl (some br) c.length))) hB fun ex _ h2 => ex = .nrm ∧ (∃ M',J (k + 1) M' ∧ Ow lo h2 (M' ++ [(tb,boxO sv'),(l,.loop .busy none (toL L ρ) [p1,p2] ca b)])) ∧ F74 hB h2 ∧ Keeps lo hB h2)
  (cont : ∀ M h',J nx M → Ow lo h' (M ++ [(tb,boxO sv')]) → Cl h' sv' sgs → Keeps lo h0 h' → X P E none L K ρ h' Q) :
  X P E none L (.c (.range (.t tf) [p1,p2] ca b) :: K) ρ h Q := by
 refine X_range (by rw [ev_t htf]; exact congrArg some hT) rfl ?_
 obtain ⟨rz,hrz⟩ : ∃ rz : Obj,rz = .loop .ready none (toL L ρ) [p1,p2] ca b := ⟨_,rfl⟩
 obtain ⟨bz,hbz⟩ : ∃ bz : Obj,bz = .loop .busy none (toL L ρ) [p1,p2] ca b := ⟨_,rfl⟩
 have kL : Kp h (h.psh rz) := Keeps.psh (Nat.le_refl _) _
 have owL := Ow.pushM (m1 := M0 ++ [(tb,boxO sv')]) (m2 := []) (by simpa using ow) hlo rz
 have nocr : ∀ vs op ro fz,rz ≠ .cells vs 74 op ro fz := by intro vs op ro fz e; rw [hrz] at e; cases e
 have nocb : ∀ vs op ro fz,bz ≠ .cells vs 74 op ro fz := by intro vs op ro fz e; rw [hbz] at e; cases e
 rw [← hrz]
 refine Sp.mono (iter41x F (l := h.size) (tb := tb) (sv := sv') hc hm
  (fun k h' => (∃ M,J k M ∧ Ow lo h' (M ++ [(tb,boxO sv'),(h.size,rz)])) ∧ Cl h' sv' sgs ∧ Keeps lo h0 h' ∧ lo ≤ h'.size)
  (fun _ => False) ?_ ?_ ?_ ⟨⟨M0,hM0,by simpa using owL⟩,cl.fr (F74.kp kL),Keeps.trans kk (kL.mono hlo),Nat.le_trans hlo kL.size⟩) ?_
 ·rintro k h4 h5 ⟨⟨M,hM,i1⟩,i2,i3,i4⟩ k45
  exact ⟨⟨M,hM,i1.kp k45⟩,i2.fr (F74.kp k45),Keeps.trans i3 (k45.mono i4),Nat.le_trans i4 k45.size⟩
 ·rintro k h4 ⟨⟨M,hM,i1⟩,i2,i3,i4⟩
  obtain ⟨sv,hr⟩ := hrs k M h4 hM i1.left i3
  exact ⟨i1.at (by simp [boxO]),hr.cl i2⟩
 ·rintro k hP h4 r c hk1 hk2 hck hc1 ⟨⟨M,hM,i1⟩,i2,i3,i4⟩ ⟨br,rfl,hbs,hbsz,hbg,kN⟩
  have i1' := Ow.newM (m1 := M ++ [(tb,boxO sv'),(h.size,rz)]) (m2 := []) (by simpa using i1) kN hbsz i4 hbg
  have i2' := i2.fr (F74.kp kN)
  have i4' : lo ≤ h4.size := Nat.le_trans i4 kN.size
  have i3' : Keeps lo h0 h4 := Keeps.trans i3 (kN.mono i4)
  have gB := i1'.at (i := h.size) (o := rz) (by simp)
  rw [hrz] at gB
  refine Sp_yield (pend' := none) gB rfl (zip2 _ _ _ _ _ _) ?_
  refine hA _ _ _ _ ⟨rfl,gB,_,rfl,?_⟩
  have ow1 : Ow lo h4 ((M ++ [(tb,boxO sv')]) ++ (h.size,rz) :: [(br,.cells c 5 true false none)]) := by simpa using i1'
  obtain ⟨ow2,k2⟩ := ow1.setM bz
  have f2 := F74.setO ow1 (i := h.size) (o := rz) (by simp) nocr bz
  rw [← hbz]
  obtain ⟨ex,T2,h2,e2,rfl,⟨M',hM',o2⟩,f3,k3⟩ := body k M h.size _ br c hM hk1 hk2 hck hc1 hbs (by rw [H.set_size]; exact i4') (Keeps.trans i3' k2) (by rw [← hbz]; simpa using ow2)
  rw [← hbz] at o2
  refine ⟨.nrm,T2,h2,e2,?_,?_⟩
  ·exact o2.at (by simp)
  ·have o3 : Ow lo h2 ((M' ++ [(tb,boxO sv')]) ++ (h.size,bz) :: []) := by simpa using o2
   obtain ⟨o4,k4⟩ := o3.setM rz
   have f4 := F74.setO o3 (i := h.size) (o := bz) (by simp) nocb rz
   rw [← hrz]
   have fall := (f2.trans f3).trans f4
   refine ⟨fall,.inl ⟨rfl,⟨M',hM',by simpa using o4⟩,i2'.fr fall,Keeps.trans i3' (Keeps.trans k2 (Keeps.trans k3 k4)),?_⟩⟩
   rw [H.set_size]
   have := k3.size
   rw [H.set_size] at this
   omega
 ·rintro _ h4 (⟨⟨M,hM,i1⟩,i2,i3,i4⟩ | h0')
  ·have gR := i1.at (i := h.size) (o := rz) (by simp)
   rw [hrz] at gR
   refine ⟨_,_,_,_,_,_,gR,by decide,fun oe hoe => ?_⟩
   have o3 : Ow lo h4 ((M ++ [(tb,boxO sv')]) ++ (h.size,rz) :: []) := by simpa using i1
   obtain ⟨o4,k4⟩ := o3.setM oe
   have f4 := F74.setO o3 (i := h.size) (o := rz) (by simp) nocr oe
   exact cont M _ hM (by simpa using o4.dropM) (i2.fr f4) (Keeps.trans i3 k4)
  ·exact h0'.elim
end Go.AM.Wc
namespace Go.AM.Wc
open Go.AM Go.AM.Wd Go.AM.We Go.AM.Wf
variable {P : Program} {E : Env} {T : H → Prop}
def abx (ob : Option Nat) (k : Nat) : Obj := .cells [vl ob k] 31 false false none
def JL (xb a : Nat) (sgs : List Sg) (k : Nat) (M : List Cell) : Prop := ∃ ob, ∃ rs : List Rc,rs.map Rc.cs = (recs sgs).take (k - a) ∧ (ob = none → rs = []) ∧ (∀ r ∈ rs,Bs r.cs) ∧ M = (xb,abx ob rs.length) :: (fpt ob 45 (rs.map Rc.v) ++ rs.map Rc.cell)
set_option maxHeartbeats 1000000 in
theorem collect5 (F : Fw P E T) {lo tb xb a nx : Nat} {h0 h : H} {ρ : Nat → V} {K : List Fr} {Q : Po} {sv' : V} {sgs : List Sg} {M0 : List Cell}
  (hT : ρ 105 = .func 41 [] [.ptr (some (tb,0))]) (w12 : ρ 12 = .ptr (some (xb,0))) (hlo : lo ≤ h.size) (hM0 : JL xb a sgs a M0) (ow : Ow lo h (M0 ++ [(tb,boxO sv')])) (cl : Cl h sv' sgs) (kk : Keeps lo h0 h)
  (hrs : ∀ h',Keeps lo h0 h' → ∃ sv,Rsx h' sv sgs) (hc : chain sgs a nx) (hm : nx ≤ 1000000000000)
  (cont : ∀ M h',JL xb a sgs nx M → Ow lo h' M → Keeps lo h0 h' → X P E none 159 K ρ h' Q) :
  X P E none 159 (.c (.range (.t 105) [106,107] a5_18 b5_20) :: K) ρ h Q := by
 refine range_recsP F (L := 159) (J := JL xb a sgs) (asg := fun ρ' => up ρ' 14 (ρ' 107)) (a := a) (nx := nx) (by decide) hT hlo hM0 ow cl kk (fun _ _ h' _ _ k => hrs h' k) hc hm ?_ ?_ ?_
 ·intro l ρ' h' R hR
  simp only [GR,evK,binV,intOp,strOp,shOp,unV,Nat.reduceLT,Nat.reduceEqDiff,Nat.reduceAdd,↓reduceIte,Nat.reduceLeDiff,reduceCtorEq,a5_18]
  exact hR
 ·rintro k M l hB br c ⟨ob,rs,hrc,hob,hbs0,rfl⟩ hk1 hk2 hck hc1 hbs hlB kB owB
  obtain ⟨bz,hbz⟩ : ∃ bz : Obj,bz = .loop .busy none (toL 159 ρ) [106,107] a5_18 b5_20 := ⟨_,rfl⟩
  rw [← hbz] at owB ⊢
  have hrl := recs_len hc
  have hrsl : rs.length = k - a := by
   have := congrArg List.length hrc
   rw [List.length_map,List.length_take,Nat.min_eq_left (by omega)] at this
   exact this
  obtain ⟨lp,lc,lo',hlv⟩ := vl_shape ob rs.length (fun h => by rw [hob h]; rfl)
  have gx := owB.at (i := xb) (o := abx ob rs.length) (by simp)
  unfold abx at gx
  rw [hlv] at gx
  have hvl : vl (some br) c.length = .slice (some (br,0)) c.length c.length true := rfl
  have k3 : Kp hB (hB.psh (.cells [.slice (some (br,0)) c.length c.length true] 45 false false none)) := Keeps.psh (Nat.le_refl _) _
  have he1 : elemsV (hB.psh (.cells [.slice (some (br,0)) c.length c.length true] 45 false false none)) 1 1 (.slice (some (hB.size,0)) 1 1 false) = some [vl (some br) c.length] := by
   simp only [elemsV,psh_same]; rfl
  have hml : (rs.map Rc.v).length = rs.length := List.length_map ..
  have ow3 : Ow lo (hB.psh (.cells [.slice (some (br,0)) c.length c.length true] 45 false false none)) ([(xb,abx ob rs.length)] ++ (fpt ob 45 (rs.map Rc.v) ++ (rs.map Rc.cell ++ [(tb,boxO sv'),(l,bz),(br,.cells c 5 true false none)]))) := by
   have := owB.kp k3
   simpa using this
  obtain ⟨ob',h6,e6,ow6,hb6,k6,fr6⟩ := Ow.appc (bytes := 24) (ty := 45) (x := .slice (some (hB.size,0)) 1 1 false) (ds := [vl (some br) c.length]) ow3 (fun h => by rw [hob h]; rfl) (Nat.le_trans hlB k3.size) rfl he1 rfl (by rw [hml]; simp only [List.length_cons,List.length_nil]; omega)
  have hrs2 : rs.map Rc.v ++ [vl (some br) c.length] = (rs ++ [(⟨br,c⟩ : Rc)]).map Rc.v := by rw [List.map_append]; rfl
  have hrl2 : (rs.map Rc.v ++ [vl (some br) c.length]).length = (rs ++ [(⟨br,c⟩ : Rc)]).length := by rw [hrs2,List.length_map]
  rw [hml,hrl2,hlv] at e6
  rw [hrs2] at ow6 hb6
  have ow6a : Ow lo h6 ([] ++ (xb,abx ob rs.length) :: (fpt ob' 45 ((rs ++ [(⟨br,c⟩ : Rc)]).map Rc.v) ++ (rs.map Rc.cell ++ [(tb,boxO sv'),(l,bz),(br,.cells c 5 true false none)]))) := by simpa using ow6
  have gx6 := ow6a.at (i := xb) (o := abx ob rs.length) (by simp)
  obtain ⟨ow7,k7⟩ := ow6a.setM (abx ob' (rs ++ [(⟨br,c⟩ : Rc)]).length)
  obtain ⟨lp',lc',lo2',hlv'⟩ := vl_shape ob' (rs ++ [(⟨br,c⟩ : Rc)]).length (fun h => by have := hb6 h; simp at this)
  unfold abx at gx6
  have e7 := put_at (ws := [vl ob' (rs ++ [(⟨br,c⟩ : Rc)]).length]) (o := 0) gx6 (by simp) (vl_one _ _) rfl
  have t7 : setR [vl ob rs.length] 0 [vl ob' (rs ++ [(⟨br,c⟩ : Rc)]).length] = [vl ob' (rs ++ [(⟨br,c⟩ : Rc)]).length] := rfl
  rw [t7] at e7
  have hd0 : List.drop 1 [V.slice none 0 0 false] = [] := rfl
  have f7 : F74 hB (h6.set xb (abx ob' (rs ++ [(⟨br,c⟩ : Rc)]).length)) := by
   have fa := F74.kp k3
   have fb : F74 (hB.psh (.cells [.slice (some (br,0)) c.length c.length true] 45 false false none)) h6 := by
    intro i vs op ro fz hg
    refine fr6 i _ hg fun e => ?_
    have := ow3.at (i := i) (o := .cells (rs.map Rc.v) 45 true false none) (by simp [fpt,e])
    rw [hg] at this
    simp at this
   exact (fa.trans fb).trans (F74.set gx6 (by intro vs op ro fz e; cases e) _)
  obtain ⟨n2,hn2⟩ : ∃ n,n = (rs ++ [(⟨br,c⟩ : Rc)]).length := ⟨_,rfl⟩
  rw [← hn2] at e6 e7 hlv' ow7 k7 f7
  rw [hlv'] at e6 e7
  have ow7' := ow7
  have k7' := k7
  have f7' := f7
  unfold abx at k7' f7' ow7'
  rw [hlv'] at k7' f7' ow7'
  rw [hvl]
  simp only [GR,evK,binV,intOp,strOp,shOp,unV,Nat.reduceLT,Nat.reduceEqDiff,Nat.reduceAdd,↓reduceIte,Nat.reduceLeDiff,reduceCtorEq,b5_20,r5_19,w12,gx,hd0,e6,e7]
  refine ⟨⟨_,⟨ob',rs ++ [(⟨br,c⟩ : Rc)],?_,fun h => by have := hb6 h; simp at this,?_,rfl⟩,?_⟩,f7',Keeps.trans (k3.mono hlB) (Keeps.trans k6 k7')⟩
  ·rw [List.map_append,hrc,show k + 1 - a = (k - a) + 1 by omega,List.take_add_one,hck]; rfl
  ·intro r hr
   rcases List.mem_append.1 hr with hr | hr
   ·exact hbs0 r hr
   ·rw [List.mem_singleton.1 hr]; exact hbs
  ·rw [← hn2]
   have hcell : (rs ++ [(⟨br,c⟩ : Rc)]).map Rc.cell = rs.map Rc.cell ++ [(br,.cells c 5 true false none)] := by rw [List.map_append]; rfl
   have o8 : Ow lo (h6.set xb (.cells [.slice lp' n2 lc' lo2'] 31 false false none)) (((xb,abx ob' n2) :: (fpt ob' 45 ((rs ++ [(⟨br,c⟩ : Rc)]).map Rc.v) ++ rs.map Rc.cell)) ++ ([(tb,boxO sv'),(l,bz)] ++ [(br,.cells c 5 true false none)])) := by
    unfold abx; rw [hlv']; simpa using ow7'
   have o9 := o8.perm (m' := ((xb,abx ob' n2) :: (fpt ob' 45 ((rs ++ [(⟨br,c⟩ : Rc)]).map Rc.v) ++ rs.map Rc.cell)) ++ ([(br,.cells c 5 true false none)] ++ [(tb,boxO sv'),(l,bz)])) (List.Perm.append_left _ List.perm_append_comm)
   rw [hcell]
   simpa using o9
 ·intro M h' hM o _ k
  exact cont M h' hM o.left k
end Go.AM.Wc
namespace Go.AM.Wc
open Go.AM Go.AM.Wd Go.AM.We Go.AM.Wf
variable {P : Program} {E : Env} {T : H → Prop}
set_option maxHeartbeats 1000000 in
theorem check5 (F : Fw P E T) (D : Fd P E) {h0 h : H} {tb xb cb a nx : Nat} {ρ : Nat → V} {K : List Fr} {Q : Po} {sv sv' : V} {sgs : List Sg} {ob : Option Nat} {N : List (V × List V)}
  (hT : ρ 137 = .func 41 [] [.ptr (some (tb,0))]) (w12 : ρ 12 = .ptr (some (xb,0))) (w16 : ρ 16 = .ptr (some (cb,0))) (hlo : h0.size ≤ h.size) (ow : Ow h0.size h ([(cb,cntO 0)] ++ [(tb,boxO sv')])) (cl : Cl h sv' sgs) (kk : Keeps h0.size h0 h)
  (g12 : h0.get xb = some (.cells [vl ob N.length] 31 false false none)) (gN : ∀ b,ob = some b → h0.get b = some (.cells (N.map (·.1)) 45 true false none)) (hN0 : ob = none → N = []) (hx : ∀ p ∈ N,Rx h0 p.1 p.2)
  (hrec : recs sgs = N.map (·.2)) (rs : Rsx h0 sv sgs) (hc : chain sgs a nx) (hm : nx ≤ 1000000000000)
  (cont : ∀ h',Ow h0.size h' [(cb,cntO N.length)] → Keeps h0.size h0 h' → X P E none 159 K ρ h' Q) :
  X P E none 159 (.c (.range (.t 137) [138,139] a5_27 b5_30) :: K) ρ h Q := by
 have hrl := recs_len hc
 have hNl : a + N.length = nx := by
  have h2 := congrArg List.length hrec
  rw [List.length_map] at h2
  omega
 refine range_recs F (L := 159) (J := fun k => [(cb,cntO (k - a))]) (asg := fun ρ' => up ρ' 18 (ρ' 139)) (a := a) (nx := nx) (h0 := h0) (by decide) hT hlo (by rw [Nat.sub_self]; exact ow) cl kk (fun _ h' _ k => ⟨sv,rs.kp k⟩) hc hm ?_ ?_ ?_
 ·intro l ρ' h' R hR
  simp only [GR,evK,binV,intOp,strOp,shOp,unV,Nat.reduceLT,Nat.reduceEqDiff,Nat.reduceAdd,↓reduceIte,Nat.reduceLeDiff,reduceCtorEq,a5_27]
  exact hR
 ·intro k l hB br c hk1 hk2 hck hc1 hbs hlB kB0 owB
  have kB : Kp h0 hB := kB0
  obtain ⟨bz,hbz⟩ : ∃ bz : Obj,bz = .loop .busy none (toL 159 ρ) [138,139] a5_27 b5_30 := ⟨_,rfl⟩
  rw [← hbz] at owB ⊢
  obtain ⟨j,hj⟩ : ∃ j,j = k - a := ⟨_,rfl⟩
  have hj1 : k + 1 - a = j + 1 := by omega
  rw [← hj] at owB hck
  rw [hj1]
  have hvl : vl (some br) c.length = .slice (some (br,0)) c.length c.length true := rfl
  have hkN : j < N.length := by omega
  rw [hrec,List.getElem?_map,List.getElem?_eq_getElem hkN,Option.map_some,Option.some.injEq] at hck
  obtain ⟨ob',hob⟩ : ∃ x,ob = some x := by
   cases ho : ob with
   | none => have := hN0 ho; rw [this] at hkN; simp at hkN
   | some x => exact ⟨x,rfl⟩
  have hxN := hx N[j] (List.getElem_mem hkN)
  rw [hck] at hxN
  have hvo : vl ob N.length = .slice (some (ob',0)) N.length N.length true := by rw [hob]; rfl
  have g12' := kB.of g12
  rw [hvo] at g12'
  have gN' := kB.of (gN ob' hob)
  have hNk : (N.map (·.1))[j]? = some N[j].1 := by rw [List.getElem?_map,List.getElem?_eq_getElem hkN]; rfl
  have gB := owB.at (i := br) (o := .cells c 5 true false none) (by simp)
  have gC := owB.at (i := cb) (o := cntO j) (by simp)
  have hrb : Rx hB (vl (some br) c.length) c := ⟨_,_,_,rfl,vl_elems gB,hbs⟩
  rw [hvl] at hrb
  have hge : ¬ ((j : Int) ≥ (N.length : Int)) := by omega
  have hw2 : IntKind.i64.wrap ((j : Int) + 1) = ((j + 1 : Nat) : Int) := wrap_nat (n := j + 1) (by omega)
  unfold cntO at gC
  rw [hvl]
  simp only [GR,evK,binV,intOp,strOp,shOp,unV,Nat.reduceLT,Nat.reduceEqDiff,Nat.reduceAdd,↓reduceIte,Nat.reduceLeDiff,reduceCtorEq,b5_30,r5_28,w16,gC,w12,g12',hge,Int.natCast_nonneg,Int.ofNat_lt,hkN,Int.toNat_natCast,Nat.mul_one,Nat.zero_add,gN',hNk]
  refine XC_of (equal22 D hrb (hxN.kp kB)) ?_
  rintro _ hx ⟨rfl,e2⟩
  rw [e2]
  clear e2 hx
  have e9 := put_at (ws := [.int .i64 ((j + 1 : Nat) : Int)]) (o := 0) gC (by simp) rfl rfl
  have t9 : setR [V.int .i64 (j : Nat)] 0 [V.int .i64 ((j + 1 : Nat) : Int)] = [V.int .i64 ((j + 1 : Nat) : Int)] := rfl
  rw [t9] at e9
  have owB' : Ow h0.size hB ((cb,cntO j) :: [(tb,boxO sv'),(l,bz),(br,.cells c 5 true false none)]) := by simpa using owB
  obtain ⟨ow3,k3⟩ := Ow.set owB' (cntO (j + 1))
  have f3 := F74.set gC (by intro vs op ro fz e; cases e) (cntO (j + 1))
  unfold cntO at ow3 k3 f3
  simp only [GR,evK,binV,intOp,strOp,shOp,unV,Nat.reduceLT,Nat.reduceEqDiff,Nat.reduceAdd,↓reduceIte,Nat.reduceLeDiff,reduceCtorEq,Bool.not_true,r5_29,w16,gC,hw2,e9]
  exact ⟨ow3.sub (by simp [cntO]),f3,k3⟩
 ·intro h' o _ k
  have : nx - a = N.length := by omega
  rw [this] at o
  exact cont h' o.left k
end Go.AM.Wc
namespace Go.AM.Wc
open Go.AM Go.AM.Wd Go.AM.We Go.AM.Wf
variable {P : Program} {E : Env} {T : H → Prop}
theorem useA_len : ∀ {A : List SegA},(∀ s ∈ A,s.2 ≠ []) → A.length ≤ useA A ∧ ∀ s ∈ A,(bytA s).length ≤ useA A
 | [],_ => by simp [useA]
 | s :: r,h => by
  obtain ⟨q1,q2⟩ := useA_len (A := r) fun x hx => h x (List.mem_cons_of_mem _ hx)
  have := byt_pos (h s List.mem_cons_self)
  have e : useA (s :: r) = (bytA s).length + useA r := by simp [useA]
  rw [e]
  refine ⟨by simp only [List.length_cons]; omega,fun x hx => ?_⟩
  rcases List.mem_cons.1 hx with rfl | hx
  ·omega
  ·have := q2 x hx; omega
theorem aok_of {R : Nat} {fs : List Fl} {sb : Option Nat} {gc : List V} {sgs : List Sg} {a nx : Nat} (k : LOX R fs sb gc sgs a nx) (hR : R ≤ 1048576) (hz : sgs = [] → nx = 0) : AOK (sgs.map Sg.sh) a nx := by
 have hch := chain_chA k.ch
 have hne : ∀ s ∈ sgs.map Sg.sh,s.2 ≠ [] := fun s hs => (chA_mem hch s hs).1
 obtain ⟨u1,u2⟩ := useA_len hne
 have hu : useA (sgs.map Sg.sh) ≤ R := by
  refine Nat.le_trans (Nat.le_of_eq ?_) k.dk.room
  have := congrArg (List.map fun p : List UInt8 × List V => p.2.length) (fs_fA k.fil)
  rw [List.map_map,List.map_map] at this
  unfold useA totU
  rw [List.map_map]
  have e2 := congrArg List.sum this
  simp only [List.map_map,Function.comp_def,fA,Fl.fu] at e2 ⊢
  exact e2.symm
 refine ⟨hch,k.lim,by omega,fun s hs c hc => ?_,fun s hs => by have := u2 s hs; omega,fun h => hz (List.map_eq_nil_iff.1 h)⟩
 obtain ⟨s0,h0,rfl⟩ := List.mem_map.1 hs
 obtain ⟨r,hr,rfl⟩ := List.mem_map.1 hc
 exact (chain_mem k.ch s0 h0).1.rc r hr
end Go.AM.Wc
namespace Go.AM.Wc
open Go.AM Go.AM.Wd Go.AM.We Go.AM.Wf
variable {P : Program} {E : Env} {T : H → Prop}
theorem fy_fil (fs : List Fl) : (fs.map Fl.fy).map (fun f => (f.name,f.cs)) = fs.map fun f => (f.name,f.cs) := by rw [List.map_map]; rfl
theorem lox_nn {R : Nat} {fs : List Fl} {sb : Option Nat} {gc : List V} {sgs : List Sg} {a nx : Nat} (k : LOX R fs sb gc sgs a nx) : ∀ f ∈ fs,(f.b = none → f.cs = []) ∧ Bs f.cs ∧ 0 ≤ f.syn := fun f hf => ⟨k.dk.emp f hf,k.dk.byt f hf,(k.syn f hf).1⟩
theorem open_again (F : Fw P E T) (D : Fd P E) (G : Fe P E) (hsp : E.prim 123 = some (sortedG 153 59)) {lo : Nat} {h : H} {R lb0 bd bm k a nx : Nat} {sy : Int} {br : Bool} {fs : List Fl} {sb0 : Option Nat} {gc0 : List V} {sgs0 : List Sg} {m2 : List Cell}
  (cl : ∀ h',DV h' R bd bm k (fs.map Fl.fy) → T h' → Sp P E (.func 26 [] []) [.ptr (some (bd,0))] h' fun v h2 => (∃ b,v = .ptr (some b)) ∧ Kp h' h2)
  (ow : Ow lo h (dkX R bd bm k fs ++ (lgX lb0 bd sb0 gc0 sgs0 nx sy br ++ m2))) (lok : LOX R fs sb0 gc0 sgs0 a nx) (hz : sgs0 = [] → nx = 0) (hR : R ≤ 1048576) (hlo : lo ≤ h.size) (h1lo : 1 ≤ lo) (ht : T h) :
  Sp P E (.func 8 [] []) [.ptr (some (bd,0)),.str logN] h fun r h' => ∃ lb sb sgs,r = .tup [.ptr (some (lb,0)),.int .i64 0] ∧ sgs.map Sg.sh = sgs0.map Sg.sh ∧ chain sgs a nx ∧ (sb = none → sgs = []) ∧ Ow lo h' (dkX R bd bm k (fs.map Fl.sy) ++ ((lgX lb0 bd sb0 gc0 sgs0 nx sy br ++ m2) ++ lgX lb bd sb [] sgs nx nx false)) ∧ Keeps lo h h' := by
 have ok := aok_of lok hR hz
 have hfil : (fs.map Fl.fy).map (fun f => (f.name,f.cs)) = (sgs0.map Sg.sh).map fA := by rw [fy_fil]; exact fs_fA lok.fil
 refine Sp.mono (open8y F D G hsp (W := fun lb h' => ∃ sb sgs,sgs.map Sg.sh = sgs0.map Sg.sh ∧ chain sgs a nx ∧ (sb = none → sgs = []) ∧ Ow lo h' (dkX R bd bm k (fs.map Fl.sy) ++ ((lgX lb0 bd sb0 gc0 sgs0 nx sy br ++ m2) ++ lgX lb bd sb [] sgs nx nx false)) ∧ Keeps lo h h') cl ok ht (dv_of (m1 := []) ow (lox_nn lok)) hfil ?_) ?_
 ·intro lb sb sgs h1 hsh hoks hsb owN k1
  obtain ⟨S⟩ := syn_files F (sb := sb) (sgs := sgs) ow hlo h1lo ht ok (by rw [← fy_fil]; exact hfil) (lox_nn lok) (fun f hf => (lok.syn f hf).2) owN k1
  exact ⟨{ S with fin := fun h' i => ⟨(S.fin h' i).1,sb,sgs,hsh,chain_of (by rw [hsh]; exact ok.ch) (fun s hs => (hoks s hs).1),hsb,(S.fin h' i).2⟩ }⟩
 ·rintro r h' ⟨lb,rfl,sb,sgs,q1,q2,q3,q4,q5⟩
  exact ⟨lb,sb,sgs,rfl,q1,q2,q3,q4,q5⟩
theorem open_still (F : Fw P E T) (D : Fd P E) (G : Fe P E) (hsp : E.prim 123 = some (sortedG 153 59)) {h : H} {R bd bm k a nx : Nat} {fs : List Fy} {A : List SegA}
  (cl : ∀ h',DV h' R bd bm k fs → T h' → Sp P E (.func 26 [] []) [.ptr (some (bd,0))] h' fun v h2 => (∃ b,v = .ptr (some b)) ∧ Kp h' h2)
  (dv : DV h R bd bm k fs) (hfs : fs.map (fun f => (f.name,f.cs)) = A.map fA) (hsy : ∀ f ∈ fs,f.syn = f.cs.length) (ok : AOK A a nx) (ht : T h) :
  Sp P E (.func 8 [] []) [.ptr (some (bd,0)),.str logN] h fun r h' => ∃ lb sb sgs,r = .tup [.ptr (some (lb,0)),.int .i64 0] ∧ sgs.map Sg.sh = A ∧ chain sgs a nx ∧ (sb = none → sgs = []) ∧ Ow h.size h' (lgX lb bd sb [] sgs nx nx false) ∧ Kp h h' := by
 refine Sp.mono (open8y F D G hsp (W := fun lb h' => ∃ sb sgs,sgs.map Sg.sh = A ∧ chain sgs a nx ∧ (sb = none → sgs = []) ∧ Kp h h' ∧ Ow h.size h' (lgX lb bd sb [] sgs nx nx false)) cl ok ht dv hfs ?_) ?_
 ·intro lb sb sgs h1 hsh hoks hsb owN k1
  obtain ⟨S⟩ := syn_still F (sb := sb) (sgs := sgs) (A := A) ht dv hfs hsy owN k1
  exact ⟨{ S with fin := fun h' i => ⟨(S.fin h' i).1,sb,sgs,hsh,chain_of (by rw [hsh]; exact ok.ch) (fun s hs => (hoks s hs).1),hsb,(S.fin h' i).2⟩ }⟩
 ·rintro r h' ⟨lb,rfl,sb,sgs,q1,q2,q3,q4,q5⟩
  exact ⟨lb,sb,sgs,rfl,q1,q2,q3,q5,q4⟩
end Go.AM.Wc
