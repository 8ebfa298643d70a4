/- My own texts of the evaluator, its soundness and its symbolic runs, laid for this claim. -/
import Derived.Test.YtpijmjmbjoopaaaDoorScU
set_option linter.unusedSimpArgs false
set_option linter.unusedVariables false
namespace Go.AM.Sc
open Go.AM
open Go.Lib (itoa)
variable {P : Program} {E : Env} {T : H → Prop}
theorem sl_elems {h : H} {v : V} {ms : List Int} (hs : Sl h 1 v (ms.map fun n => [.int .i64 n])) : elemsV h 1 ms.length v = some (ms.map fun n => .int .i64 n) := by
  generalize hx : (ms.map fun n => [V.int .i64 n]) = xs at hs
  cases hs with
  | nil a cap opn =>
    have : ms = [] := by simpa using hx
    subst this
    cases a with
    | none => rfl
    | some p => obtain ⟨i,o⟩ := p; rfl
  | «at» b o cap opn _ vs ty op ro fz hg hl he =>
    subst hx
    rw [List.length_map] at hl
    have hget : getR vs o (ms.length * 1) = ms.map fun n => .int .i64 n := by
      apply List.ext_getElem?
      intro k
      unfold getR
      rw [List.getElem?_take,List.getElem?_map]
      by_cases hk : k < ms.length
      · rw [if_pos (by omega),List.getElem?_eq_getElem hk,Option.map_some]
        have := he k [.int .i64 ms[k]] (by simp [hk])
        rw [Nat.mul_one] at this
        have := getR_one this
        rw [List.getElem?_drop]; exact this
      · rw [if_neg (by omega),List.getElem?_eq_none (by omega)]; rfl
    simp only [elemsV,hg]
    by_cases h0 : ms.length * 1 = 0
    · have : ms = [] := List.eq_nil_of_length_eq_zero (by omega)
      subst this; rfl
    · rw [if_neg h0,if_pos hl,hget]
theorem sl_block {h : H} {b : Nat} {ns : List Int} {op : Bool} (hg : h.get b = some (.cells (ns.map fun n => .int .i64 n) 3 op false none)) (cap : Nat) (opn : Bool) : Sl h 1 (.slice (some (b,0)) ns.length cap opn) (ns.map fun n => [.int .i64 n]) := by
  have := Sl.at (h := h) (sz := 1) b 0 cap opn (ns.map fun n => [.int .i64 n]) (ns.map fun n => .int .i64 n) 3 op false none hg (by simp) (fun k x hk => by
    rw [List.getElem?_map] at hk
    cases hx : ns[k]? with
    | none => rw [hx] at hk; cases hk
    | some n =>
      rw [hx] at hk
      simp only [Option.map_some,Option.some.injEq] at hk
      subst hk
      have hlt : k < ns.length := (List.getElem?_eq_some_iff.1 hx).1
      have hxk : ns[k] = n := (List.getElem?_eq_some_iff.1 hx).2
      unfold getR
      rw [show 0 + k * 1 = k by omega,← List.map_drop,← List.map_take,List.drop_eq_getElem_cons hlt]
      simp [hxk])
  rw [List.length_map] at this
  exact this
theorem app_lit {h : H} {b : Nat} {ls ms : List Int} {x : V} (hg : h.get b = some (.cells (ls.map fun n => .int .i64 n) 3 false false none)) (hs : Sl h 1 x (ms.map fun n => [.int .i64 n])) (hb : ls.length + ms.length ≤ 4194304) :
    ∃ v' h',appV h 3 1 8 (.slice (some (b,0)) ls.length ls.length false) x = some (.eff v' h') ∧ Kp h h' ∧ Sl h' 1 v' ((ls ++ ms).map fun n => [.int .i64 n]) := by
  obtain ⟨a,cap,opn,e⟩ := hs.len
  rw [List.length_map] at e
  have hel := sl_elems hs
  have hlv : lenV x = some ms.length := by rw [e]; rfl
  by_cases hm : ms = []
  · subst hm
    refine ⟨.slice (some (b,0)) ls.length ls.length false,h,?_,Keeps.refl _ _,?_⟩
    · simp only [List.length_nil,List.map_nil] at hel hlv
      unfold appV
      simp only [hlv,hel,Nat.add_zero,Nat.le_refl,if_true,putNil]
    · rw [List.append_nil]; exact sl_block hg _ _
  · have hpos : 0 < ms.length := List.length_pos_iff.2 hm
    have hel2 : elemsV h 1 ls.length (.slice (some (b,0)) ls.length ls.length false) = some (ls.map fun n => .int .i64 n) := sl_elems (sl_block hg _ _)
    refine ⟨.slice (some (h.size,0)) (ls.length + ms.length) (ls.length + ms.length) true,h.psh (.cells ((ls ++ ms).map fun n => .int .i64 n) 3 true false none),?_,Keeps.psh (Nat.le_refl _) _,?_⟩
    · unfold appV
      simp only [hlv,hel]
      rw [if_neg (by omega),if_pos (by omega)]
      simp only [hel2,push_eq,List.map_append]
    · have := sl_block (ns := ls ++ ms) (op := true) (psh_same h _) (ls.length + ms.length) true
      rw [List.length_append] at this
      exact this
def headS (c : WConfig) (ms : List Int) : List UInt8 := [119,111,114,108,100,32] ++ joinB (itoas (c.n :: c.room :: c.clients :: ms))
structure CIn (h : H) (c : WConfig) (ms : List Int) : Prop where
  n : InI c.n
  room : InI c.room
  clients : InI c.clients
  mem : ∀ m ∈ ms,InI m
  len : ms.length ≤ 1048576
  sl : Sl h 1 c.members (ms.map fun n => [.int .i64 n])
theorem CIn.keep {h h' : H} {c : WConfig} {ms : List Int} (a : CIn h c ms) (hk : Kp h h') : CIn h' c ms := { a with sl := a.sl.keep hk }
theorem CIn.all {h : H} {c : WConfig} {ms : List Int} (a : CIn h c ms) : ∀ n ∈ c.n :: c.room :: c.clients :: ms,InI n := by
  intro n hn
  rcases List.mem_cons.1 hn with rfl | hn
  · exact a.n
  · rcases List.mem_cons.1 hn with rfl | hn
    · exact a.room
    · rcases List.mem_cons.1 hn with rfl | hn
      · exact a.clients
      · exact a.mem n hn
theorem headS_len {h : H} {c : WConfig} {ms : List Int} (a : CIn h c ms) : (headS c ms).length ≤ 50000000 := by
  have l1 := joinB_len (itoas (c.n :: c.room :: c.clients :: ms))
  have l2 := itoas_tot a.all
  have l3 := a.len
  simp only [List.length_cons] at l2
  unfold headS
  simp only [List.length_append,List.length_cons,List.length_nil]
  omega
theorem head21 (F : Fns P E T) {c : WConfig} {ms : List Int} {h : H} (ht : T h) (hc : CIn h c ms) : Sp P E (.func 21 [] []) [.agg c.cells] h fun v h' => v = .str (headS c ms) ∧ Kp h h' := by
  have hk0 : Kp h (h.psh (.cells c.cells 24 false false none)) := Keeps.psh (Nat.le_refl _) _
  have gx := psh_same h (.cells c.cells 24 false false none)
  refine Sp_fn F.f21 F.p21 (by simp [fn21]) ?_
  simp (maxSteps := 2000000) only [GO,GO2,evK,fillV,setR,binV,intOp,strOp_cat,strOp_eql,strOp_neq,shOp,unV,getR,lenV,partV,V.nj,V.njL,V.cells,Nat.reduceLT,Nat.reduceEqDiff,Nat.reduceAdd,↓reduceIte,Nat.reduceLeDiff,reduceCtorEq,fn21,c21,r21_0]
  generalize h.psh (.cells c.cells 24 false false none) = h1 at *
  have kp : Kp h1 (h1.psh (.cells [.int .i64 c.n,.int .i64 c.room,.int .i64 c.clients] 3 false false none)) := Keeps.psh (Nat.le_refl _) _
  have gx2 := Kp.of kp gx
  have hlen := headS_len hc
  have hmem := hc.len
  obtain ⟨v',h',e1,k1,s1⟩ := app_lit (ls := [c.n,c.room,c.clients]) (psh_same h1 (.cells [.int .i64 c.n,.int .i64 c.room,.int .i64 c.clients] 3 false false none)) (hc.keep (Kp.trans hk0 kp)).sl (by simp only [List.length_cons,List.length_nil]; omega)
  have kk := Kp.trans hk0 (Kp.trans kp k1)
  simp only [List.length_cons,List.length_nil,Nat.zero_add] at e1
  simp (maxSteps := 2000000) only [GO,GO2,evK,fillV,setR,binV,intOp,strOp_cat,strOp_eql,strOp_neq,shOp,unV,getR,lenV,partV,V.nj,V.njL,V.cells,Nat.reduceLT,Nat.reduceEqDiff,Nat.reduceAdd,↓reduceIte,Nat.reduceLeDiff,reduceCtorEq,r21_1,gx,gx2,WConfig.g0,WConfig.g1,WConfig.g2,WConfig.g3,e1]
  refine XC_of (nums F (xs := c.n :: c.room :: c.clients :: ms) (by simp only [List.length_cons]; omega) hc.all (F.tkeep _ _ ht kk) s1) ?_
  rintro _ h9 ⟨rfl,k9⟩
  have f1 : Fit (cat [119,111,114,108,100,32] (joinB (itoas (c.n :: c.room :: c.clients :: ms)))) := by unfold Fit cat; unfold headS at hlen; omega
  simp (maxSteps := 2000000) only [GO,GO2,evK,fillV,setR,binV,intOp,strOp_cat,strOp_eql,strOp_neq,shOp,unV,getR,lenV,partV,V.nj,V.njL,V.cells,Nat.reduceLT,Nat.reduceEqDiff,Nat.reduceAdd,↓reduceIte,Nat.reduceLeDiff,reduceCtorEq,f1]
  exact ⟨rfl,Kp.trans kk k9⟩
theorem SIn.mv {h h' : H} {x : WStep} {s : List UInt8} (a : SIn h x s) (hk : Kp h h') : SIn h' x s := { a with ent := a.ent.keep hk }
theorem SIn.one {h : H} {x : WStep} {s : List UInt8} (a : SIn h x s) : x.cells.all V.one = true := by
  obtain ⟨b,n,c,o,e1⟩ := a.ent.ops
  obtain ⟨b',n',c',o',e2⟩ : ∃ a n c o,x.entry.part.data = .slice a n c o := by
    rcases a.ent.dat with ⟨c,o,e,_⟩ | ⟨p,n,c,o,cs,e,_⟩
    · exact ⟨_,_,_,_,e⟩
    · exact ⟨_,_,_,_,e⟩
  simp only [WStep.cells,List.all_cons,List.all_nil,V.one,e1,e2,Bool.and_self]
def linesS (xs : List WStep) : List UInt8 := (xs.map fun x => stepS x ++ [10]).flatten
def txtP (c : WConfig) (ms : List Int) (xs : List WStep) : List UInt8 := headS c ms ++ [10] ++ linesS xs
def prA (c : WConfig) (ms : List Int) (xs : List WStep) : V :=
  if 16384 < xs.length then .tup [.str [],.int .i64 3] else if ∀ x ∈ xs,stepOk x then .tup [.str (txtP c ms xs),.int .i64 0] else .tup [.str [],.int .i64 1]
structure PIn (h : H) (xs : List WStep) (v : V) : Prop where
  sl : Sl h 76 v (xs.map WStep.cells)
  stp : ∀ x ∈ xs, ∃ s,SIn h x s
  sm : ∀ x ∈ xs,(stepS x).length ≤ 20000000
  len : xs.length ≤ 1048576
theorem linesS_len {xs : List WStep} (h : ∀ x ∈ xs,(stepS x).length ≤ 20000000) : (linesS xs).length ≤ xs.length * 20000001 := by
  induction xs with
  | nil => simp [linesS]
  | cons x r ih =>
    have h1 := h x List.mem_cons_self
    have h2 := ih fun y hy => h y (List.mem_cons_of_mem _ hy)
    simp only [linesS,List.map_cons,List.flatten_cons,List.length_append,List.length_cons,List.length_nil] at h2 ⊢
    omega
theorem linesS_take {xs : List WStep} {k : Nat} (hk : k < xs.length) : linesS (xs.take (k + 1)) = linesS (xs.take k) ++ (stepS xs[k] ++ [10]) := by
  unfold linesS
  rw [List.take_succ_eq_append_getElem hk]
  simp only [List.map_append,List.map_cons,List.map_nil,List.flatten_append,List.flatten_cons,List.flatten_nil,List.append_nil]
set_option maxRecDepth 100000 in
set_option maxHeartbeats 4000000 in
theorem loop6 (F : Fns P E T) {c : WConfig} {ms : List Int} {xs : List WStep} {v1 : V} {h0 : H} (ht : T h0) (hc : CIn h0 c ms) (hp : PIn h0 xs v1) (hn : xs.length ≤ 16384) {B : Nat} (hB : h0.size ≤ B) (K : List Fr) (Q : V → H → Prop)
    (hQ : ∀ (ρ' : Nat → V) h',ρ' 6 = .ptr (some (B,0)) → (∀ x ∈ xs,stepOk x) → Bd h' B (txtP c ms xs) → Kp h0 h' → X P E none 37 K ρ' h' (Fin [.t 4,.t 5] Q))
    (hE : ∀ h',¬ (∀ x ∈ xs,stepOk x) → Kp h0 h' → Q (.tup [.str [],.int .i64 1]) h') :
    ∀ (d k : Nat) (ρ : Nat → V) (h : H),d = xs.length - k → k ≤ xs.length → ρ 6 = .ptr (some (B,0)) → ρ 18 = v1 → ρ 19 = .int .i64 xs.length → ρ 20 = .int .i64 k → (∀ x ∈ xs.take k,stepOk x) → Bd h B (txtP c ms (xs.take k)) → Kp h0 h →
      XL P E none 37 b6_11 (.b 0 :: K) ρ h (Fin [.t 4,.t 5] Q) := by
  intro d
  induction d with
  | zero =>
    intro k ρ h hd hk r6 r18 r19 r20 hok hbd hkp
    have hke : ¬ k < xs.length := by omega
    rw [List.take_of_length_le (by omega)] at hbd hok
    rw [u6_11]
    simp (maxSteps := 2000000) only [GO,GO2,evK,fillV,setR,binV,intOp,strOp_cat,strOp_eql,strOp_neq,shOp,unV,getR,lenV,partV,V.nj,V.njL,V.cells,Nat.reduceLT,Nat.reduceEqDiff,Nat.reduceAdd,↓reduceIte,Nat.reduceLeDiff,reduceCtorEq,r19,r20,Int.ofNat_lt,hke]
    exact hQ _ _ r6 hok hbd hkp
  | succ d ih =>
    intro k ρ h hd hk r6 r18 r19 r20 hok hbd hkp
    have hke : k < xs.length := by omega
    obtain ⟨b,o,cap,opn,vs,ty,op,ro,fz,e6,hg,hl,he⟩ := (hp.sl.keep hkp).get (k := k) (x := xs[k].cells) (by simp [hke])
    rw [e6,List.length_map] at r18
    unfold getR at he
    have hmem : xs[k] ∈ xs := List.getElem_mem hke
    obtain ⟨s0,hsi⟩ := hp.stp _ hmem
    have hsm := hp.sm _ hmem
    have hw : IntKind.i64.wrap ((k : Int) + 1) = ((k + 1 : Nat) : Int) := wrap_nat (n := k + 1) (by omega)
    have fl : ∀ z : WStep,z.cells.length = 76 := fun _ => rfl
    have p0 : ∀ z : WStep,List.take 76 z.cells = z.cells := fun _ => rfl
    obtain ⟨h3,e3,g3,k3,z3⟩ := put_ex (o := 0) (ws := xs[k].cells) (psh_same h (.cells WStep.zero.cells 52 false false none)) (by rw [fl,fl]; decide) hsi.one rfl
    have g3' : h3.get h.size = some (.cells xs[k].cells 52 false false none) := g3
    have k3' : Kp h h3 := Keeps.trans (Keeps.psh (Nat.le_refl _) _) k3
    have hbd3 : Bd h3 B (txtP c ms (xs.take k)) := hbd.keep k3'
    have kk3 := Kp.trans hkp k3'
    have flx := fl xs[k]
    have p0x := p0 xs[k]
    generalize hxc : xs[k].cells = xc at *
    simp only [WStep.zero,WStep.cells,Entry.zero,Addr.zero,Query.zero,Opr.zero,Epoch.zero,Vec.zero,Part.zero] at e3
    rw [u6_11]
    simp (maxSteps := 2000000) only [GO,GO2,evK,fillV,setR,binV,intOp,strOp_cat,strOp_eql,strOp_neq,shOp,unV,getR,lenV,partV,V.nj,V.njL,V.cells,Nat.reduceLT,Nat.reduceEqDiff,Nat.reduceAdd,↓reduceIte,Nat.reduceLeDiff,reduceCtorEq,r6_5,r6_6,r18,r19,r20,hg,Int.ofNat_lt,hke,Int.natCast_nonneg,Int.toNat_natCast,hl,he,flx,p0x,e3,g3']
    rw [← hxc]
    refine XC_of (step9 F (F.tkeep _ _ ht kk3) (hsi.mv kk3)) ?_
    rintro _ h4 ⟨rfl,k4⟩
    have hbd4 := hbd3.keep k4
    have kk4 := Kp.trans kk3 k4
    have htk := linesS_len (xs := xs.take k) fun x hx => hp.sm x (List.mem_of_mem_take hx)
    have hhd := headS_len hc
    have htl : (xs.take k).length = k := by rw [List.length_take]; omega
    rw [htl] at htk
    by_cases hs : stepOk xs[k]
    · have er : resA (stepOk xs[k]) (stepS xs[k]) = .tup [.str (stepS xs[k]),.int .i64 0] := by unfold resA; rw [if_pos hs]
      have f1 : Fit (cat (stepS xs[k]) [10]) := by simp only [Fit,cat,List.length_append,List.length_cons,List.length_nil]; omega
      have z0 : ((0 : Int) != 0) = false := rfl
      simp (maxSteps := 2000000) only [GO,GO2,evK,fillV,setR,binV,intOp,strOp_cat,strOp_eql,strOp_neq,shOp,unV,getR,lenV,partV,V.nj,V.njL,V.cells,Nat.reduceLT,Nat.reduceEqDiff,Nat.reduceAdd,↓reduceIte,Nat.reduceLeDiff,reduceCtorEq,er,r6_7,r6_8,r6_9,z0,f1,r6]
      refine XC_of (writeStr F (s := txtP c ms (xs.take k)) (y := cat (stepS xs[k]) [10]) hbd4 (by simp only [txtP,cat,List.length_append,List.length_cons,List.length_nil]; omega)) ?_
      rintro _ h5 ⟨hbd5,k5⟩
      have kk5 : Kp h0 h5 := Keeps.trans (n := h0.size) kk4 (k5.mono hB)
      simp (maxSteps := 2000000) only [GO,GO2,evK,fillV,setR,binV,intOp,strOp_cat,strOp_eql,strOp_neq,shOp,unV,getR,lenV,partV,V.nj,V.njL,V.cells,Nat.reduceLT,Nat.reduceEqDiff,Nat.reduceAdd,↓reduceIte,Nat.reduceLeDiff,reduceCtorEq,r6_10,r20,hw]
      refine ih (k + 1) _ h5 (by omega) (by omega) r6 ?_ r19 rfl ?_ ?_ kk5
      · rw [e6,List.length_map]; exact r18
      · rw [List.take_succ_eq_append_getElem hke]
        intro x hx
        rcases List.mem_append.1 hx with hx | hx
        · exact hok x hx
        · rw [List.mem_singleton.1 hx]; exact hs
      · rw [show txtP c ms (xs.take (k + 1)) = txtP c ms (xs.take k) ++ cat (stepS xs[k]) [10] by unfold txtP cat; rw [linesS_take hke]; simp only [List.append_assoc]]
        exact hbd5
    · have er : resA (stepOk xs[k]) (stepS xs[k]) = .tup [.str [],.int .i64 1] := by unfold resA; rw [if_neg hs]
      have z0 : ((1 : Int) != 0) = true := rfl
      simp (maxSteps := 2000000) only [GO,GO2,evK,fillV,setR,binV,intOp,strOp_cat,strOp_eql,strOp_neq,shOp,unV,getR,lenV,partV,V.nj,V.njL,V.cells,Nat.reduceLT,Nat.reduceEqDiff,Nat.reduceAdd,↓reduceIte,Nat.reduceLeDiff,reduceCtorEq,er,r6_7,r6_8,z0]
      exact hE _ (fun h => hs (h _ hmem)) kk4
set_option maxRecDepth 100000 in
set_option maxHeartbeats 4000000 in
theorem print6 (F : Fns P E T) {c : WConfig} {ms : List Int} {xs : List WStep} {v1 : V} {h : H} (ht : T h) (hc : CIn h c ms) (hp : PIn h xs v1) :
    Sp P E (.func 6 [] []) [.agg c.cells,v1] h fun v h' => v = prA c ms xs ∧ Kp h h' := by
  have hk0 : Kp h (h.psh (.cells c.cells 24 false false none)) := Keeps.psh (Nat.le_refl _) _
  have gx := psh_same h (.cells c.cells 24 false false none)
  obtain ⟨a,cap,opn,ev⟩ := hp.sl.len
  rw [List.length_map] at ev
  refine Sp_fn F.f6 F.p6 (by simp [fn6]) ?_
  generalize hh1 : h.psh (.cells c.cells 24 false false none) = h1 at *
  by_cases hbig : 16384 < xs.length
  · have hb : ((xs.length : Nat) : Int) > 16384 := by omega
    simp (maxSteps := 2000000) only [GO,GO2,evK,fillV,setR,binV,intOp,strOp_cat,strOp_eql,strOp_neq,shOp,unV,getR,lenV,partV,V.nj,V.njL,V.cells,Nat.reduceLT,Nat.reduceEqDiff,Nat.reduceAdd,↓reduceIte,Nat.reduceLeDiff,reduceCtorEq,fn6,c6,r6_0,hh1,r6_1,r6_2,ev,hb]
    exact ⟨by unfold prA; rw [if_pos hbig],hk0⟩
  · have hb : ¬ ((xs.length : Nat) : Int) > 16384 := by omega
    have hk1 : Kp h1 (h1.psh (.cells [.ptr none,.slice none 0 0 false] 64 false false none)) := Keeps.psh (Nat.le_refl _) _
    have gx1 := Kp.of hk1 gx
    have hbd : Bd (h1.psh (.cells [.ptr none,.slice none 0 0 false] 64 false false none)) h1.size [] := ⟨_,Bdv.new h1⟩
    have kk1 := Kp.trans hk0 hk1
    have fl : c.cells.length = 4 := rfl
    have p0 : List.take 4 c.cells = c.cells := rfl
    simp (maxSteps := 2000000) only [GO,GO2,evK,fillV,setR,binV,intOp,strOp_cat,strOp_eql,strOp_neq,shOp,unV,getR,lenV,partV,V.nj,V.njL,V.cells,Nat.reduceLT,Nat.reduceEqDiff,Nat.reduceAdd,↓reduceIte,Nat.reduceLeDiff,reduceCtorEq,fn6,c6,r6_0,hh1,r6_1,r6_2,ev,hb,r6_3,gx1,fl,p0]
    refine XC_of (head21 F (F.tkeep _ _ ht kk1) (hc.keep kk1)) ?_
    rintro _ h2 ⟨rfl,k2⟩
    have hbd2 := hbd.keep k2
    have kk2 := Kp.trans kk1 k2
    have hhd := headS_len hc
    have f1 : Fit (cat (headS c ms) [10]) := by simp only [Fit,cat,List.length_append,List.length_cons,List.length_nil]; omega
    simp (maxSteps := 2000000) only [GO,GO2,evK,fillV,setR,binV,intOp,strOp_cat,strOp_eql,strOp_neq,shOp,unV,getR,lenV,partV,V.nj,V.njL,V.cells,Nat.reduceLT,Nat.reduceEqDiff,Nat.reduceAdd,↓reduceIte,Nat.reduceLeDiff,reduceCtorEq,f1]
    refine XC_of (writeStr F (s := []) (y := cat (headS c ms) [10]) hbd2 (by simp only [cat,List.length_append,List.length_cons,List.length_nil]; omega)) ?_
    rintro _ h3 ⟨hbd3,k3⟩
    have hle : h.size ≤ h1.size := hk0.size
    have kk3 : Kp h h3 := Keeps.trans (n := h.size) kk2 (k3.mono hle)
    simp (maxSteps := 2000000) only [GO,GO2,evK,fillV,setR,binV,intOp,strOp_cat,strOp_eql,strOp_neq,shOp,unV,getR,lenV,partV,V.nj,V.njL,V.cells,Nat.reduceLT,Nat.reduceEqDiff,Nat.reduceAdd,↓reduceIte,Nat.reduceLeDiff,reduceCtorEq,r6_4]
    refine loop6 F ht hc hp (by omega) hle _ _ (fun ρ' h' q6 qok qbd qk => ?_) (fun h' hno hk => ⟨by unfold prA; rw [if_neg hbig,if_neg hno],hk⟩) xs.length 0 _ h3 (by omega) (by omega) rfl ev.symm rfl rfl (by simp) ?_ kk3
    · have htk := linesS_len hp.sm
      simp (maxSteps := 2000000) only [GO,GO2,evK,fillV,setR,binV,intOp,strOp_cat,strOp_eql,strOp_neq,shOp,unV,getR,lenV,partV,V.nj,V.njL,V.cells,Nat.reduceLT,Nat.reduceEqDiff,Nat.reduceAdd,↓reduceIte,Nat.reduceLeDiff,reduceCtorEq,r6_12,q6]
      refine XC_of (bdString F qbd (by simp only [txtP,List.length_append,List.length_cons,List.length_nil]; omega)) ?_
      rintro _ h9 ⟨rfl,k9⟩
      simp (maxSteps := 2000000) only [GO,GO2,evK,fillV,setR,binV,intOp,strOp_cat,strOp_eql,strOp_neq,shOp,unV,getR,lenV,partV,V.nj,V.njL,V.cells,Nat.reduceLT,Nat.reduceEqDiff,Nat.reduceAdd,↓reduceIte,Nat.reduceLeDiff,reduceCtorEq]
      exact ⟨by unfold prA; rw [if_neg hbig,if_pos qok],Keeps.trans (n := h.size) qk (k9.mono hle)⟩
    · simpa [txtP,linesS,cat] using hbd3
end Go.AM.Sc
namespace Go.AM.Sc
open Go.AM
open Go.Lib (itoa)
variable {P : Program} {E : Env} {T : H → Prop}
def liveStep : WStep := { WStep.zero with kind := 13 }
theorem live_ok : stepOk liveStep := by decide
theorem live_txt : txtP ⟨1,9,0,.slice none 0 0 false⟩ [0] [liveStep] = [119,111,114,108,100,32,49,32,57,32,48,32,48,10,97,108,108,10] := by decide +kernel
theorem live_quote : quoteB [97,34] = [34,97,92,34,34] := by decide
theorem ini {n : Int} (h0 : 0 ≤ n) (h1 : n ≤ 1000) : InI n := ⟨by omega,by omega⟩
theorem live_in (h : H) : SIn h liveStep [] :=
  ⟨⟨⟨_,_,_,_,rfl⟩,.inl ⟨_,_,rfl,rfl⟩⟩,ini (by decide) (by decide),ini (by decide) (by decide),ini (by decide) (by decide),ini (by decide) (by decide),ini (by decide) (by decide),by decide,by decide,by decide,ini (by decide) (by decide),by decide,ini (by decide) (by decide),ini (by decide) (by decide),ini (by decide) (by decide),ini (by decide) (by decide),ini (by decide) (by decide),by decide,ini (by decide) (by decide),ini (by decide) (by decide)⟩
set_option maxRecDepth 100000 in
set_option maxHeartbeats 4000000 in
theorem live8 (F : Fns P E T) {h : H} (ht : T h) : Sp P E (.func 8 [] []) [] h fun v h' => v = .bool true ∧ Kp h h' := by
  have hk0 : Kp h (h.psh (.cells [.int .i64 0] 3 false false none)) := Keeps.psh (Nat.le_refl _) _
  have g0 := psh_same h (.cells [.int .i64 0] 3 false false none)
  refine Sp_fn F.f8 F.p8 (by simp [fn8]) ?_
  have hls : liveStep.cells = liveStep.cells := rfl
  conv at hls => rhs; simp only [liveStep,WStep.zero,WStep.cells,Entry.zero,Addr.zero,Query.zero,Opr.zero,Epoch.zero,Vec.zero,Part.zero]
  simp (maxSteps := 2000000) only [GO,GO2,evK,fillV,setR,binV,intOp,strOp_cat,strOp_eql,strOp_neq,shOp,unV,getR,lenV,partV,V.nj,V.njL,V.cells,Nat.reduceLT,Nat.reduceEqDiff,Nat.reduceAdd,↓reduceIte,Nat.reduceLeDiff,reduceCtorEq,fn8,c8,r8_0,← hls,WStep.len]
  generalize h.psh (.cells [.int .i64 0] 3 false false none) = h1 at *
  have hk1 : Kp h1 (h1.psh (.cells liveStep.cells 52 false false none)) := Keeps.psh (Nat.le_refl _) _
  have kk1 := Kp.trans hk0 hk1
  have g1 := psh_same h1 (.cells liveStep.cells 52 false false none)
  have hc : CIn (h1.psh (.cells liveStep.cells 52 false false none)) ⟨1,9,0,.slice (some (h.size,0)) 1 1 false⟩ [0] :=
    ⟨ini (n := 1) (by decide) (by decide),ini (n := 9) (by decide) (by decide),ini (n := 0) (by decide) (by decide),ini1 (ini (by decide) (by decide)),by simp,sl_block (ns := [0]) (Kp.of hk1 g0) 1 false⟩
  have hs : Sl (h1.psh (.cells liveStep.cells 52 false false none)) 76 (.slice (some (h1.size,0)) 1 1 false) ([liveStep].map WStep.cells) :=
    Sl.at (h := h1.psh (.cells liveStep.cells 52 false false none)) (sz := 76) h1.size 0 1 false [liveStep.cells] liveStep.cells 52 false false none g1 (by decide) (fun k x hk => by
      cases k with
      | zero => simp at hk; subst hk; rfl
      | succ k => simp at hk)
  have hp : PIn (h1.psh (.cells liveStep.cells 52 false false none)) [liveStep] (.slice (some (h1.size,0)) 1 1 false) :=
    ⟨hs,fun x hx => by rw [List.mem_singleton.1 hx]; exact ⟨_,live_in _⟩,fun x hx => by rw [List.mem_singleton.1 hx]; decide,by simp⟩
  have hwc : (⟨1,9,0,.slice (some (h.size,0)) 1 1 false⟩ : WConfig).cells = [.int .i64 1,.int .i64 9,.int .i64 0,.slice (some (h.size,0)) 1 1 false] := rfl
  rw [← hwc]
  refine XC_of (print6 F (F.tkeep _ _ ht kk1) hc hp) ?_
  rintro _ h2 ⟨rfl,k2⟩
  have hpr : prA ⟨1,9,0,.slice (some (h.size,0)) 1 1 false⟩ [0] [liveStep] = .tup [.str [119,111,114,108,100,32,49,32,57,32,48,32,48,10,97,108,108,10],.int .i64 0] := by
    unfold prA
    rw [if_neg (by decide),if_pos (fun x hx => by rw [List.mem_singleton.1 hx]; exact live_ok)]
    rw [show txtP ⟨1,9,0,.slice (some (h.size,0)) 1 1 false⟩ [0] [liveStep] = txtP ⟨1,9,0,.slice none 0 0 false⟩ [0] [liveStep] from rfl,live_txt]
  have z0 : ((0 : Int) == 0) = true := rfl
  simp (maxSteps := 2000000) only [GO,GO2,evK,fillV,setR,binV,intOp,strOp_cat,strOp_eql,strOp_neq,shOp,unV,getR,lenV,partV,V.nj,V.njL,V.cells,Nat.reduceLT,Nat.reduceEqDiff,Nat.reduceAdd,↓reduceIte,Nat.reduceLeDiff,reduceCtorEq,hpr,r8_1,z0]
  refine XC_of (quote16 F (by decide)) ?_
  rintro _ h3 ⟨rfl,k3⟩
  rw [live_quote]
  simp (maxSteps := 2000000) only [GO,GO2,evK,fillV,setR,binV,intOp,strOp_cat,strOp_eql,strOp_neq,shOp,unV,getR,lenV,partV,V.nj,V.njL,V.cells,Nat.reduceLT,Nat.reduceEqDiff,Nat.reduceAdd,↓reduceIte,Nat.reduceLeDiff,reduceCtorEq]
  exact Kp.trans kk1 (Kp.trans k2 k3)
end Go.AM.Sc
