/- My own texts of the evaluator, its soundness and its symbolic runs, laid for this claim. -/
import Derived.Test.YtpijmjmbjoopaaaDoorScPToScP3
set_option linter.unusedSimpArgs false
set_option linter.unusedVariables false
namespace Go.AM.Sc
open Go.AM
open Go.Lib (itoa)
variable {P : Program} {E : Env} {T : H → Prop}
theorem Str.len {h : H} {v : V} {s : List UInt8} (a : Str h v s) : lenOf v = s.length := by
  rcases a with ⟨c,o,rfl,rfl⟩ | ⟨⟨i,q⟩,n,c,o,cs,rfl,h2,h3⟩
  · rfl
  · have hl : cs.length = s.length := by
      have : ∀ (cs : List V) (s : List UInt8),bytesV cs = some s → cs.length = s.length := by
        intro cs
        induction cs with
        | nil => intro s h; simp [bytesV] at h; subst h; rfl
        | cons v r ih =>
          intro s h
          rw [bytesV.eq_def] at h
          split at h
          · rename_i heq; cases heq
          · rename_i heq
            cases heq
            split at h
            · rename_i bs hbs
              cases h
              simp [ih bs hbs]
            · cases h
          · cases h
      exact this cs s h3
    show n = s.length
    rw [← hl]
    rw [elemsV] at h2
    split at h2
    · rename_i h0
      cases h2
      simpa using h0
    · split at h2
      · split at h2
        · cases h2
          unfold getR
          rw [List.length_take,List.length_drop]
          omega
        · cases h2
      · cases h2
theorem sl_ints (h : H) (xs : List Int) : Sl (h.psh (.cells (xs.map fun n => .int .i64 n) 3 false false none)) 1 (.slice (some (h.size,0)) xs.length xs.length false) (xs.map fun n => [.int .i64 n]) := by
  have := Sl.at (h := h.psh (.cells (xs.map fun n => .int .i64 n) 3 false false none)) (sz := 1) h.size 0 xs.length false (xs.map fun n => [.int .i64 n]) (xs.map fun n => .int .i64 n) 3 false false none (psh_same _ _) (by simp) (fun k x hk => by
    rw [List.getElem?_map] at hk
    cases hx : xs[k]? with
    | none => rw [hx] at hk; cases hk
    | some n =>
      rw [hx] at hk
      simp only [Option.map_some,Option.some.injEq] at hk
      subst hk
      have hlt : k < xs.length := (List.getElem?_eq_some_iff.1 hx).1
      have hxk : xs[k] = n := (List.getElem?_eq_some_iff.1 hx).2
      unfold getR
      rw [show 0 + k * 1 = k by omega,← List.map_drop,← List.map_take,List.drop_eq_getElem_cons hlt]
      simp [hxk])
  rw [List.length_map] at this
  exact this
theorem ini1 {a : Int} (h : InI a) : ∀ n ∈ [a],InI n := fun n hn => by rw [List.mem_singleton.1 hn]; exact h
theorem ini2 {a b : Int} (h : InI a) (h' : InI b) : ∀ n ∈ [a,b],InI n := fun n hn => by
  rcases List.mem_cons.1 hn with e | e
  · rw [e]; exact h
  · exact ini1 h' n e
def entS (x : Entry) : List UInt8 :=
  if x.kind = 0 then [110,111,110,101] else
  if x.kind = 6 then [106,111,105,110,32] ++ joinB (itoas [x.site,x.sponsor]) else
  if x.kind = 7 then [108,101,97,118,101,32] ++ joinB (itoas [x.site]) else
  if x.kind = 8 then [115,101,97,108,101,100,32] ++ joinB (itoas [x.site]) ++ [32] ++ itoa x.length else []
def entBare (x : Entry) : Flat :=
  if x.kind = 6 then { Flat.zero with kind := x.kind,site := x.site,sponsor := x.sponsor } else
  if x.kind = 7 then { Flat.zero with kind := x.kind,site := x.site } else
  if x.kind = 8 then { Flat.zero with kind := x.kind,site := x.site,length := x.length } else { Flat.zero with kind := x.kind }
def entOk (x : Entry) : Prop := (x.kind = 0 ∨ x.kind = 6 ∨ x.kind = 7 ∨ x.kind = 8) ∧ (lenOf x.ops = 0 ∧ lenOf x.part.data = 0) ∧ flatOf x = entBare x
instance (x : Entry) : Decidable (entOk x) := by unfold entOk; infer_instance
def entA (x : Entry) : V := if entOk x then .tup [.str (entS x),.int .i64 0] else .tup [.str [],.int .i64 1]
set_option maxRecDepth 100000 in
set_option maxHeartbeats 4000000 in
theorem entTail12 (F : Fns P E T) {x : Entry} {h h5 : H} {s0 : List UInt8} (hx : EIn h x s0) {ρ : Nat → V} {B bx : Nat} {s : List UInt8} {b : Bool} (gB : h5.get B = some (.cells (entBare x).cells 81 false false none)) (gx : h5.get bx = some (.cells x.cells 50 false false none)) (kk : Kp h h5)
    (r1 : ρ 1 = .ptr (some (bx,0))) (r4 : ρ 4 = .ptr (some (B,0))) (r5 : ρ 5 = .str s) (hb : (s == []) = b) (hs : s = entS x) (hk : b = false ↔ (x.kind = 0 ∨ x.kind = 6 ∨ x.kind = 7 ∨ x.kind = 8)) :
    XO P E none 75 r12_13 [.c (.seq (.seq (.region r12_14) (.cond (.t 73) (.seq (.region r12_15) (.ret)) (.skip))) (.seq (.region r12_16) (.ret)))] ρ h5 (Fin [.t 2,.t 3] fun v h' => v = entA x ∧ Kp h h') := by
  have p0 : List.take 56 x.cells = x.cells := rfl
  simp (maxSteps := 2000000) only [GO,GO2,evK,fillV,setR,binV,intOp,strOp,shOp,unV,getR,lenV,partV,V.nj,V.njL,V.cells,Nat.reduceLT,Nat.reduceEqDiff,Nat.reduceAdd,↓reduceIte,Nat.reduceLeDiff,reduceCtorEq,r12_13,r1,gx,Entry.len,p0]
  refine XC_of (flatten34 F (hx.keep kk)) ?_
  rintro _ h2 ⟨rfl,k2⟩
  have gB2 := Kp.of k2 gB
  obtain ⟨h3,e3,g3,k3,z3⟩ := put_ex (o := 0) (ws := (flatOf x).cells) (psh_same h2 (.cells Flat.zero.cells 81 false false none)) (Nat.le_refl _) rfl rfl
  have g3' : h3.get h2.size = some (.cells (flatOf x).cells 81 false false none) := g3
  have k3' : Kp h2 h3 := Keeps.trans (Keeps.psh (Nat.le_refl _) _) k3
  have gB3 := Kp.of k3' gB2
  have kk3 := Kp.trans (Kp.trans kk k2) k3'
  have fl3 : ∀ z : Flat,z.cells.length = 54 := fun _ => rfl
  have fl2 : ∀ z : Flat,List.take 54 z.cells = z.cells := fun _ => rfl
  have heq := Flat.eqv h3 (flatOf x) (entBare x)
  have hfc : ∀ z : Flat,z.cells = z.cells := fun _ => rfl
  simp only [Flat.zero] at e3
  generalize hcc : (flatOf x).cells = cc at *
  have fl4 : cc.length = 54 := by rw [← hcc]; rfl
  have fl5 : List.take 54 cc = cc := by rw [← hcc]; rfl
  simp only [Flat.cells,Opr.zero,Epoch.zero,Vec.zero] at e3
  simp (maxSteps := 2000000) only [GO,GO2,evK,fillV,setR,binV,intOp,strOp,shOp,unV,getR,lenV,partV,V.nj,V.njL,V.cells,Nat.reduceLT,Nat.reduceEqDiff,Nat.reduceAdd,↓reduceIte,Nat.reduceLeDiff,reduceCtorEq,e3,fl4]
  cases b with
  | true =>
    have hno : ¬ entOk x := fun h => by simpa using hk.2 h.1
    simp (maxSteps := 2000000) only [GO,GO2,evK,fillV,setR,binV,intOp,strOp,shOp,unV,getR,lenV,partV,V.nj,V.njL,V.cells,Nat.reduceLT,Nat.reduceEqDiff,Nat.reduceAdd,↓reduceIte,Nat.reduceLeDiff,reduceCtorEq,r12_14,r12_15,r5,hb]
    exact ⟨by simp [entA,hno],kk3⟩
  | false =>
    have hyes := hk.1 rfl
    by_cases hp : lenOf x.ops = 0 ∧ lenOf x.part.data = 0
    · have hp' : decide (lenOf x.ops = 0 ∧ lenOf x.part.data = 0) = true := by simpa using hp
      by_cases he : flatOf x = entBare x
      · have he' : decide (flatOf x = entBare x) = true := by simpa using he
        have hok : entOk x := ⟨hyes,hp,he⟩
        simp (maxSteps := 2000000) only [GO,GO2,evK,fillV,setR,binV,intOp,strOp,shOp,unV,getR,lenV,partV,V.nj,V.njL,V.cells,Nat.reduceLT,Nat.reduceEqDiff,Nat.reduceAdd,↓reduceIte,Nat.reduceLeDiff,reduceCtorEq,r12_14,r12_15,r12_16,r4,r5,hb,hp',g3',gB3,fl3,fl2,fl4,fl5,heq,he']
        exact ⟨by simp [entA,hok,hs],kk3⟩
      · have he' : decide (flatOf x = entBare x) = false := by simpa using he
        have hno : ¬ entOk x := fun h => he h.2.2
        simp (maxSteps := 2000000) only [GO,GO2,evK,fillV,setR,binV,intOp,strOp,shOp,unV,getR,lenV,partV,V.nj,V.njL,V.cells,Nat.reduceLT,Nat.reduceEqDiff,Nat.reduceAdd,↓reduceIte,Nat.reduceLeDiff,reduceCtorEq,r12_14,r12_15,r12_16,r4,r5,hb,hp',g3',gB3,fl3,fl2,fl4,fl5,heq,he']
        exact ⟨by simp [entA,hno],kk3⟩
    · have hp' : decide (lenOf x.ops = 0 ∧ lenOf x.part.data = 0) = false := by simpa using hp
      have hno : ¬ entOk x := fun h => hp h.2.1
      simp (maxSteps := 2000000) only [GO,GO2,evK,fillV,setR,binV,intOp,strOp,shOp,unV,getR,lenV,partV,V.nj,V.njL,V.cells,Nat.reduceLT,Nat.reduceEqDiff,Nat.reduceAdd,↓reduceIte,Nat.reduceLeDiff,reduceCtorEq,r12_14,r12_15,r12_16,r4,r5,hb,hp']
      exact ⟨by simp [entA,hno],kk3⟩
theorem itoas2 (a b : Int) : (joinB (itoas [a,b])).length = (itoa a).length + (itoa b).length + 1 := by simp [joinB,itoas]; omega
theorem itoas1 (a : Int) : joinB (itoas [a]) = itoa a := by simp [joinB,itoas]
set_option maxRecDepth 100000 in
set_option maxHeartbeats 4000000 in
theorem entry12 (F : Fns P E T) {x : Entry} {h : H} {s0 : List UInt8} (ht : T h) (hx : EIn h x s0) (n1 : InI x.site) (n2 : InI x.sponsor) (n3 : InI x.length) :
    Sp P E (.func 12 [] []) [.agg x.cells] h fun v h' => v = entA x ∧ Kp h h' := by
  have hg0 := psh_same h (.cells x.cells 50 false false none)
  have hk0 : Kp h (h.psh (.cells x.cells 50 false false none)) := Keeps.psh (Nat.le_refl _) _
  obtain ⟨h3,e3,g3,k3,z3⟩ := put_ex (o := 0) (ws := ({ Flat.zero with kind := x.kind } : Flat).cells) (psh_same (h.psh (.cells x.cells 50 false false none)) (.cells Flat.zero.cells 81 false false none)) (Nat.le_refl _) rfl rfl
  have k3' : Keeps (h.psh (.cells x.cells 50 false false none)).size (h.psh (.cells x.cells 50 false false none)) h3 := Keeps.trans (Keeps.psh (Nat.le_refl _) _) k3
  have gx : h3.get h.size = some (.cells x.cells 50 false false none) := Kp.of k3' hg0
  have hlt : h.size < (h.psh (.cells x.cells 50 false false none)).size := Nat.lt_succ_self _
  have kk3 : Kp h h3 := Kp.trans hk0 k3'
  refine Sp_fn F.f12 F.p12 (by simp [fn12]) ?_
  simp only [Flat.zero,Flat.cells,Opr.zero,Epoch.zero,Vec.zero] at e3
  simp (maxSteps := 2000000) only [GO,GO2,evK,fillV,setR,binV,intOp,strOp,shOp,unV,getR,lenV,partV,V.nj,V.njL,V.cells,Nat.reduceLT,Nat.reduceEqDiff,Nat.reduceAdd,↓reduceIte,Nat.reduceLeDiff,reduceCtorEq,fn12,c12,r12_0,r12_1,r12_2,psh_same,Entry.g0,e3,gx]
  generalize hB : (h.psh (.cells x.cells 50 false false none)).size = B at *
  have g3' : h3.get B = some (.cells ({ Flat.zero with kind := x.kind } : Flat).cells 81 false false none) := g3
  have l1 := Lib.itoa_length_le x.site n1.1 n1.2
  have l2 := Lib.itoa_length_le x.sponsor n2.1 n2.2
  have l3 := Lib.itoa_length_le x.length n3.1 n3.2
  by_cases c0 : (x.kind == 0) = true
  · have c0' : x.kind = 0 := by simpa using c0
    simp (maxSteps := 2000000) only [GO,GO2,evK,fillV,setR,binV,intOp,strOp,shOp,unV,getR,lenV,partV,V.nj,V.njL,V.cells,Nat.reduceLT,Nat.reduceEqDiff,Nat.reduceAdd,↓reduceIte,Nat.reduceLeDiff,reduceCtorEq,r12_3,c0]
    exact entTail12 F hx (b := false) (by unfold entBare; simp [c0'] at g3' ⊢; exact g3') gx kk3 rfl rfl rfl rfl (by simp [entS,c0']) (by simp [c0'])
  · have c0f : (x.kind == 0) = false := by simpa using c0
    have c0' : ¬ x.kind = 0 := by simpa using c0
    by_cases c6 : (x.kind == 6) = true
    · have c6' : x.kind = 6 := by simpa using c6
      obtain ⟨h4,e4,g4,k4,z4⟩ := put_ex (o := 51) (ws := [.int .i64 x.site]) g3' (Nat.le_of_ble_eq_true rfl) rfl rfl
      have g4' : h4.get B = some (.cells ({ Flat.zero with kind := x.kind,site := x.site } : Flat).cells 81 false false none) := g4
      obtain ⟨h5,e5,g5,k5,z5⟩ := put_ex (o := 52) (ws := [.int .i64 x.sponsor]) g4' (Nat.le_of_ble_eq_true rfl) rfl rfl
      have g5' : h5.get B = some (.cells (entBare x).cells 81 false false none) := by unfold entBare; rw [if_pos c6']; exact g5
      have k35 := k4.trans k5
      have g5x : h5.get h.size = some (.cells x.cells 50 false false none) := by rw [k35.get _ hlt]; exact gx
      have kk5 : Keeps h.size h h5 := Keeps.trans (n := h.size) kk3 (k35.mono (by omega))
      simp (maxSteps := 2000000) only [GO,GO2,evK,fillV,setR,binV,intOp,strOp,shOp,unV,getR,lenV,partV,V.nj,V.njL,V.cells,Nat.reduceLT,Nat.reduceEqDiff,Nat.reduceAdd,↓reduceIte,Nat.reduceLeDiff,reduceCtorEq,r12_3,r12_4,c0f,c6]
      rw [X_draw]
      refine k12_5 B (XDJ_XDK ?_)
      simp (maxSteps := 2000000) only [GO,GO2,evK,fillV,setR,binV,intOp,strOp,shOp,unV,getR,lenV,partV,V.nj,V.njL,V.cells,Nat.reduceLT,Nat.reduceEqDiff,Nat.reduceAdd,↓reduceIte,Nat.reduceLeDiff,reduceCtorEq,r12_5,gx,Entry.g53,Entry.g54,hlt,e4]
      refine ⟨k4,?_⟩
      simp (maxSteps := 2000000) only [GO,GO2,evK,fillV,setR,binV,intOp,strOp,shOp,unV,getR,lenV,partV,V.nj,V.njL,V.cells,Nat.reduceLT,Nat.reduceEqDiff,Nat.reduceAdd,↓reduceIte,Nat.reduceLeDiff,reduceCtorEq,e5]
      refine ⟨k5,?_⟩
      have kp5 : Kp h5 (h5.psh (.cells [.int .i64 x.site,.int .i64 x.sponsor] 3 false false none)) := Keeps.psh (Nat.le_refl _) _
      simp (maxSteps := 2000000) only [GO,GO2,evK,fillV,setR,binV,intOp,strOp,shOp,unV,getR,lenV,partV,V.nj,V.njL,V.cells,Nat.reduceLT,Nat.reduceEqDiff,Nat.reduceAdd,↓reduceIte,Nat.reduceLeDiff,reduceCtorEq,r12_6,g5x,Entry.g53,Entry.g54]
      refine XC_of (nums F (xs := [x.site,x.sponsor]) (by simp) (ini2 n1 n2) (F.tkeep _ _ ht (Kp.trans kk5 kp5)) (sl_ints h5 [x.site,x.sponsor])) ?_
      rintro _ h6 ⟨rfl,k6⟩
      have k6' := Kp.trans kp5 k6
      have a1 : 5 + (joinB (itoas [x.site,x.sponsor])).length ≤ 9223372036854775807 := by rw [itoas2]; omega
      simp (maxSteps := 2000000) only [GO,GO2,evK,fillV,setR,binV,intOp,strOp,shOp,unV,getR,lenV,partV,V.nj,V.njL,V.cells,Nat.reduceLT,Nat.reduceEqDiff,Nat.reduceAdd,↓reduceIte,Nat.reduceLeDiff,reduceCtorEq,a1]
      exact entTail12 F hx (b := false) (Kp.of k6' g5') (Kp.of k6' g5x) (Kp.trans kk5 k6') rfl rfl rfl rfl (by simp [entS,c6']) (by simp [c6'])
    · have c6f : (x.kind == 6) = false := by simpa using c6
      have c6' : ¬ x.kind = 6 := by simpa using c6
      by_cases c7 : (x.kind == 7) = true
      · have c7' : x.kind = 7 := by simpa using c7
        obtain ⟨h5,e5,g5,k5,z5⟩ := put_ex (o := 51) (ws := [.int .i64 x.site]) g3' (Nat.le_of_ble_eq_true rfl) rfl rfl
        have g5' : h5.get B = some (.cells (entBare x).cells 81 false false none) := by unfold entBare; rw [if_neg c6',if_pos c7']; exact g5
        have g5x : h5.get h.size = some (.cells x.cells 50 false false none) := by rw [k5.get _ hlt]; exact gx
        have kk5 : Keeps h.size h h5 := Keeps.trans (n := h.size) kk3 (k5.mono (by omega))
        have kp5 : Kp h5 (h5.psh (.cells [.int .i64 x.site] 3 false false none)) := Keeps.psh (Nat.le_refl _) _
        simp (maxSteps := 2000000) only [GO,GO2,evK,fillV,setR,binV,intOp,strOp,shOp,unV,getR,lenV,partV,V.nj,V.njL,V.cells,Nat.reduceLT,Nat.reduceEqDiff,Nat.reduceAdd,↓reduceIte,Nat.reduceLeDiff,reduceCtorEq,r12_3,r12_4,r12_7,r12_8,r12_9,c0f,c6f,c7,gx,e5,g5x,Entry.g53]
        refine XC_of (nums F (xs := [x.site]) (by simp) (ini1 n1) (F.tkeep _ _ ht (Kp.trans kk5 kp5)) (sl_ints h5 [x.site])) ?_
        rintro _ h6 ⟨rfl,k6⟩
        have k6' := Kp.trans kp5 k6
        have a1 : 6 + (joinB (itoas [x.site])).length ≤ 9223372036854775807 := by rw [itoas1]; omega
        simp (maxSteps := 2000000) only [GO,GO2,evK,fillV,setR,binV,intOp,strOp,shOp,unV,getR,lenV,partV,V.nj,V.njL,V.cells,Nat.reduceLT,Nat.reduceEqDiff,Nat.reduceAdd,↓reduceIte,Nat.reduceLeDiff,reduceCtorEq,a1]
        exact entTail12 F hx (b := false) (Kp.of k6' g5') (Kp.of k6' g5x) (Kp.trans kk5 k6') rfl rfl rfl rfl (by simp [entS,c7']) (by simp [c7'])
      · have c7f : (x.kind == 7) = false := by simpa using c7
        have c7' : ¬ x.kind = 7 := by simpa using c7
        by_cases c8 : (x.kind == 8) = true
        · have c8' : x.kind = 8 := by simpa using c8
          obtain ⟨h4,e4,g4,k4,z4⟩ := put_ex (o := 51) (ws := [.int .i64 x.site]) g3' (Nat.le_of_ble_eq_true rfl) rfl rfl
          have g4' : h4.get B = some (.cells ({ Flat.zero with kind := x.kind,site := x.site } : Flat).cells 81 false false none) := g4
          obtain ⟨h5,e5,g5,k5,z5⟩ := put_ex (o := 53) (ws := [.int .i64 x.length]) g4' (Nat.le_of_ble_eq_true rfl) rfl rfl
          have g5' : h5.get B = some (.cells (entBare x).cells 81 false false none) := by unfold entBare; rw [if_neg c6',if_neg c7',if_pos c8']; exact g5
          have k35 := k4.trans k5
          have g5x : h5.get h.size = some (.cells x.cells 50 false false none) := by rw [k35.get _ hlt]; exact gx
          have kk5 : Keeps h.size h h5 := Keeps.trans (n := h.size) kk3 (k35.mono (by omega))
          simp (maxSteps := 2000000) only [GO,GO2,evK,fillV,setR,binV,intOp,strOp,shOp,unV,getR,lenV,partV,V.nj,V.njL,V.cells,Nat.reduceLT,Nat.reduceEqDiff,Nat.reduceAdd,↓reduceIte,Nat.reduceLeDiff,reduceCtorEq,r12_3,r12_4,r12_7,r12_10,c0f,c6f,c7f,c8]
          rw [X_draw]
          refine k12_11 B (XDJ_XDK ?_)
          simp (maxSteps := 2000000) only [GO,GO2,evK,fillV,setR,binV,intOp,strOp,shOp,unV,getR,lenV,partV,V.nj,V.njL,V.cells,Nat.reduceLT,Nat.reduceEqDiff,Nat.reduceAdd,↓reduceIte,Nat.reduceLeDiff,reduceCtorEq,r12_11,gx,Entry.g53,Entry.g55,hlt,e4]
          refine ⟨k4,?_⟩
          simp (maxSteps := 2000000) only [GO,GO2,evK,fillV,setR,binV,intOp,strOp,shOp,unV,getR,lenV,partV,V.nj,V.njL,V.cells,Nat.reduceLT,Nat.reduceEqDiff,Nat.reduceAdd,↓reduceIte,Nat.reduceLeDiff,reduceCtorEq,e5]
          refine ⟨k5,?_⟩
          have kp5 : Kp h5 (h5.psh (.cells [.int .i64 x.site] 3 false false none)) := Keeps.psh (Nat.le_refl _) _
          have g6x := Kp.of kp5 g5x
          rw [X_draw]
          refine d12_12 ?_
          simp (maxSteps := 2000000) only [GO,GO2,evK,fillV,setR,binV,intOp,strOp,shOp,unV,getR,lenV,partV,V.nj,V.njL,V.cells,Nat.reduceLT,Nat.reduceEqDiff,Nat.reduceAdd,↓reduceIte,Nat.reduceLeDiff,reduceCtorEq,r12_12,g5x,Entry.g53,Entry.g55]
          refine ⟨kp5,?_⟩
          refine XCQ_of (nums F (xs := [x.site]) (by simp) (ini1 n1) (F.tkeep _ _ ht (Kp.trans kk5 kp5)) (sl_ints h5 [x.site])) ?_
          rintro _ h6 ⟨rfl,k6⟩
          have k6' := Kp.trans kp5 k6
          have g6x := Kp.of k6' g5x
          rw [itoas1]
          have a1 : 7 + (itoa x.site).length ≤ 9223372036854775807 := by omega
          have a2 : (itoa x.site).length + 7 + 1 ≤ 9223372036854775807 := by omega
          refine ⟨k6,?_⟩
          simp (maxSteps := 2000000) only [GO,GO2,evK,fillV,setR,binV,intOp,strOp,shOp,unV,getR,lenV,partV,V.nj,V.njL,V.cells,Nat.reduceLT,Nat.reduceEqDiff,Nat.reduceAdd,↓reduceIte,Nat.reduceLeDiff,reduceCtorEq,a1,a2,g5x,g6x,Entry.g55]
          refine XCQ_of (num27 F n3 (F.tkeep _ _ ht (Kp.trans kk5 k6'))) ?_
          rintro _ h7 ⟨rfl,rfl⟩
          refine ⟨Keeps.refl _ _,?_⟩
          have a3 : (itoa x.site).length + 1 + 1 + 1 + 1 + 1 + 1 + 1 + 1 + (itoa x.length).length ≤ 9223372036854775807 := by omega
          simp (maxSteps := 2000000) only [GO,GO2,evK,fillV,setR,binV,intOp,strOp,shOp,unV,getR,lenV,partV,V.nj,V.njL,V.cells,Nat.reduceLT,Nat.reduceEqDiff,Nat.reduceAdd,↓reduceIte,Nat.reduceLeDiff,reduceCtorEq,List.length_append,a3]
          exact entTail12 F hx (b := false) (Kp.of k6' g5') (Kp.of k6' g5x) (Kp.trans kk5 k6') rfl rfl rfl rfl (by simp [entS,c8',itoas1]) (by simp [c8'])
        · have c8f : (x.kind == 8) = false := by simpa using c8
          have c8' : ¬ x.kind = 8 := by simpa using c8
          simp (maxSteps := 2000000) only [GO,GO2,evK,fillV,setR,binV,intOp,strOp,shOp,unV,getR,lenV,partV,V.nj,V.njL,V.cells,Nat.reduceLT,Nat.reduceEqDiff,Nat.reduceAdd,↓reduceIte,Nat.reduceLeDiff,reduceCtorEq,r12_3,r12_4,r12_7,r12_10,c0f,c6f,c7f,c8f]
          exact entTail12 F hx (s := []) (b := true) (by unfold entBare; rw [if_neg c6',if_neg c7',if_neg c8']; exact g3') gx kk3 rfl rfl rfl rfl (by simp [entS,c0',c6',c7',c8']) (by simp [c0',c6',c7',c8'])
def Part.zero : Part := ⟨0,0,0,.slice none 0 0 false⟩
def Entry.zero : Entry := ⟨0,0,0,Opr.zero,0,0,.slice none 0 0 false,Epoch.zero,0,Vec.zero,0,Part.zero,0,0,0⟩
def entOnly (x : Entry) : Entry :=
  if x.kind = 6 then { Entry.zero with kind := x.kind,site := x.site,sponsor := x.sponsor } else
  if x.kind = 7 then { Entry.zero with kind := x.kind,site := x.site } else
  if x.kind = 8 then { Entry.zero with kind := x.kind,site := x.site,length := x.length } else { Entry.zero with kind := x.kind }
theorem entOnly_flat (x : Entry) : flatOf (entOnly x) = entBare x := by
  unfold entOnly entBare
  split
  · rfl
  · split
    · rfl
    · split <;> rfl
theorem entOnly_in (h : H) (x : Entry) : EIn h (entOnly x) [] ∧ lenOf (entOnly x).ops = 0 := by
  have e1 : (entOnly x).ops = .slice none 0 0 false := by
    unfold entOnly
    split
    · rfl
    · split
      · rfl
      · split <;> rfl
  have e2 : (entOnly x).part = Part.zero := by
    unfold entOnly
    split
    · rfl
    · split
      · rfl
      · split <;> rfl
  exact ⟨⟨⟨_,_,_,_,e1⟩,by rw [e2]; exact .inl ⟨_,_,rfl,rfl⟩⟩,by rw [e1]; rfl⟩
theorem ints31k (F : Fns P E T) {xs : List Int} (hlen : xs.length ≤ 4194304) (hin : ∀ n ∈ xs,InI n) {h : H} (ht : T h) {vx : V} (hs : Sl h 1 vx (xs.map fun n => [.int .i64 n])) :
    Sp P E (.func 31 [] []) [vx] h fun v h' => v = .str (intsB xs) ∧ Kp h h' := (ints31 F hlen hin ht hs).mono fun _ _ ⟨a,b⟩ => ⟨a,by rw [b]; exact Keeps.refl _ _⟩
theorem ints1 (a : Int) : intsB [a] = 32 :: itoa a := by simp [intsB]
theorem ints1l (a : Int) : (intsB [a]).length = (itoa a).length + 1 := by simp [intsB]
theorem ints2l (a b : Int) : (intsB [a,b]).length = (itoa a).length + (itoa b).length + 2 := by simp [intsB]; omega
set_option maxRecDepth 100000 in
set_option maxHeartbeats 4000000 in
theorem entTail13 (F : Fns P E T) {x : Entry} {h h5 : H} {s0 : List UInt8} (hx : EIn h x s0) {ρ : Nat → V} {B bx : Nat} {s : List UInt8} (gB : h5.get B = some (.cells (entOnly x).cells 50 false false none)) (gx : h5.get bx = some (.cells x.cells 50 false false none)) (kk : Kp h h5)
    (r1 : ρ 1 = .ptr (some (bx,0))) (r4 : ρ 4 = .ptr (some (B,0))) (r5 : ρ 5 = .str s) (hs : s = entS x) (hyes : x.kind = 0 ∨ x.kind = 6 ∨ x.kind = 7 ∨ x.kind = 8) :
    XO P E none 61 r13_14 [.c (.cond (.t 59) (.seq (.region r13_15) (.ret)) (.skip)),.c (.seq (.region r13_16) (.ret))] ρ h5 (Fin [.t 2,.t 3] fun v h' => v = entA x ∧ Kp h h') := by
  have p0 : ∀ z : Entry,List.take 56 z.cells = z.cells := fun _ => rfl
  have fl : ∀ z : Entry,z.cells.length = 56 := fun _ => rfl
  simp (maxSteps := 2000000) only [GO,GO2,evK,fillV,setR,binV,intOp,strOp,shOp,unV,getR,lenV,partV,V.nj,V.njL,V.cells,Nat.reduceLT,Nat.reduceEqDiff,Nat.reduceAdd,↓reduceIte,Nat.reduceLeDiff,reduceCtorEq,r13_14,r1,r4,gB,gx,p0,fl]
  refine XC_of (same35 F (entOnly_in h5 x).1 (hx.keep kk) (entOnly_in h5 x).2) ?_
  rintro _ h2 ⟨rfl,k2⟩
  have kk2 := Kp.trans kk k2
  by_cases hp : flatOf (entOnly x) = flatOf x ∧ lenOf x.ops = 0 ∧ [] = s0
  · have hp' : decide (flatOf (entOnly x) = flatOf x ∧ lenOf x.ops = 0 ∧ [] = s0) = true := by simpa using hp
    have hd : lenOf x.part.data = 0 := by rw [hx.dat.len,← hp.2.2]; rfl
    have hok : entOk x := ⟨hyes,⟨hp.2.1,hd⟩,by rw [← hp.1,entOnly_flat]⟩
    simp (maxSteps := 2000000) only [GO,GO2,evK,fillV,setR,binV,intOp,strOp,shOp,unV,getR,lenV,partV,V.nj,V.njL,V.cells,Nat.reduceLT,Nat.reduceEqDiff,Nat.reduceAdd,↓reduceIte,Nat.reduceLeDiff,reduceCtorEq,hp',r13_15,r13_16,r5]
    exact ⟨by simp [entA,hok,hs],kk2⟩
  · have hp' : decide (flatOf (entOnly x) = flatOf x ∧ lenOf x.ops = 0 ∧ [] = s0) = false := by simpa using hp
    have hno : ¬ entOk x := fun ⟨_,⟨a,b⟩,c⟩ => hp ⟨by rw [entOnly_flat,c],a,by rw [hx.dat.len] at b; exact (List.eq_nil_of_length_eq_zero b).symm⟩
    simp (maxSteps := 2000000) only [GO,GO2,evK,fillV,setR,binV,intOp,strOp,shOp,unV,getR,lenV,partV,V.nj,V.njL,V.cells,Nat.reduceLT,Nat.reduceEqDiff,Nat.reduceAdd,↓reduceIte,Nat.reduceLeDiff,reduceCtorEq,hp',r13_15,r13_16,r5]
    exact ⟨by simp [entA,hno],kk2⟩
set_option maxRecDepth 100000 in
set_option maxHeartbeats 4000000 in
theorem entry13 (F : Fns P E T) {x : Entry} {h : H} {s0 : List UInt8} (ht : T h) (hx : EIn h x s0) (n1 : InI x.site) (n2 : InI x.sponsor) (n3 : InI x.length) :
    Sp P E (.func 13 [] []) [.agg x.cells] h fun v h' => v = entA x ∧ Kp h h' := by
  have hg0 := psh_same h (.cells x.cells 50 false false none)
  have hk0 : Kp h (h.psh (.cells x.cells 50 false false none)) := Keeps.psh (Nat.le_refl _) _
  obtain ⟨h3,e3,g3,k3,z3⟩ := put_ex (o := 0) (ws := ({ Entry.zero with kind := x.kind } : Entry).cells) (psh_same (h.psh (.cells x.cells 50 false false none)) (.cells Entry.zero.cells 50 false false none)) (Nat.le_refl _) rfl rfl
  have k3' : Keeps (h.psh (.cells x.cells 50 false false none)).size (h.psh (.cells x.cells 50 false false none)) h3 := Keeps.trans (Keeps.psh (Nat.le_refl _) _) k3
  have gx : h3.get h.size = some (.cells x.cells 50 false false none) := Kp.of k3' hg0
  have hlt : h.size < (h.psh (.cells x.cells 50 false false none)).size := Nat.lt_succ_self _
  have kk3 : Kp h h3 := Kp.trans hk0 k3'
  refine Sp_fn F.f13 F.p13 (by simp [fn13]) ?_
  simp (maxSteps := 2000000) only [GO,GO2,evK,fillV,setR,binV,intOp,strOp,shOp,unV,getR,lenV,partV,V.nj,V.njL,V.cells,Nat.reduceLT,Nat.reduceEqDiff,Nat.reduceAdd,↓reduceIte,Nat.reduceLeDiff,reduceCtorEq,fn13,c13,r13_0]
  generalize h.psh (.cells x.cells 50 false false none) = hh at *
  generalize hB : hh.size = B at *
  simp only [Entry.zero,Entry.cells,Opr.zero,Epoch.zero,Vec.zero,Part.zero] at e3
  simp (maxSteps := 2000000) only [GO,GO2,evK,fillV,setR,binV,intOp,strOp,shOp,unV,getR,lenV,partV,V.nj,V.njL,V.cells,Nat.reduceLT,Nat.reduceEqDiff,Nat.reduceAdd,↓reduceIte,Nat.reduceLeDiff,reduceCtorEq,r13_1,r13_2,hg0,Entry.g0,e3,gx,hB]
  have g3' : h3.get B = some (.cells ({ Entry.zero with kind := x.kind } : Entry).cells 50 false false none) := g3
  have l1 := Lib.itoa_length_le x.site n1.1 n1.2
  have l2 := Lib.itoa_length_le x.sponsor n2.1 n2.2
  have l3 := Lib.itoa_length_le x.length n3.1 n3.2
  by_cases c0 : (x.kind == 0) = true
  · have c0' : x.kind = 0 := by simpa using c0
    simp (maxSteps := 2000000) only [GO,GO2,evK,fillV,setR,binV,intOp,strOp,shOp,unV,getR,lenV,partV,V.nj,V.njL,V.cells,Nat.reduceLT,Nat.reduceEqDiff,Nat.reduceAdd,↓reduceIte,Nat.reduceLeDiff,reduceCtorEq,r13_3,c0]
    exact entTail13 F hx (by unfold entOnly; simp [c0'] at g3' ⊢; exact g3') gx kk3 rfl rfl rfl (by simp [entS,c0']) (by simp [c0'])
  · have c0f : (x.kind == 0) = false := by simpa using c0
    have c0' : ¬ x.kind = 0 := by simpa using c0
    by_cases c6 : (x.kind == 6) = true
    · have c6' : x.kind = 6 := by simpa using c6
      obtain ⟨h4,e4,g4,k4,z4⟩ := put_ex (o := 53) (ws := [.int .i64 x.site]) g3' (Nat.le_of_ble_eq_true rfl) rfl rfl
      have g4' : h4.get B = some (.cells ({ Entry.zero with kind := x.kind,site := x.site } : Entry).cells 50 false false none) := g4
      obtain ⟨h5,e5,g5,k5,z5⟩ := put_ex (o := 54) (ws := [.int .i64 x.sponsor]) g4' (Nat.le_of_ble_eq_true rfl) rfl rfl
      have g5' : h5.get B = some (.cells (entOnly x).cells 50 false false none) := by unfold entOnly; rw [if_pos c6']; exact g5
      have k35 := k4.trans k5
      have g5x : h5.get h.size = some (.cells x.cells 50 false false none) := by rw [k35.get _ hlt]; exact gx
      have kk5 : Keeps h.size h h5 := Keeps.trans (n := h.size) kk3 (k35.mono (by omega))
      simp (maxSteps := 2000000) only [GO,GO2,evK,fillV,setR,binV,intOp,strOp,shOp,unV,getR,lenV,partV,V.nj,V.njL,V.cells,Nat.reduceLT,Nat.reduceEqDiff,Nat.reduceAdd,↓reduceIte,Nat.reduceLeDiff,reduceCtorEq,r13_3,r13_4,c0f,c6]
      rw [X_draw]
      refine k13_5 B (XDJ_XDK ?_)
      simp (maxSteps := 2000000) only [GO,GO2,evK,fillV,setR,binV,intOp,strOp,shOp,unV,getR,lenV,partV,V.nj,V.njL,V.cells,Nat.reduceLT,Nat.reduceEqDiff,Nat.reduceAdd,↓reduceIte,Nat.reduceLeDiff,reduceCtorEq,r13_5,gx,Entry.g53,Entry.g54,hlt,e4]
      refine ⟨k4,?_⟩
      simp (maxSteps := 2000000) only [GO,GO2,evK,fillV,setR,binV,intOp,strOp,shOp,unV,getR,lenV,partV,V.nj,V.njL,V.cells,Nat.reduceLT,Nat.reduceEqDiff,Nat.reduceAdd,↓reduceIte,Nat.reduceLeDiff,reduceCtorEq,e5]
      refine ⟨k5,?_⟩
      have kp5 : Kp h5 (h5.psh (.cells [.int .i64 x.site,.int .i64 x.sponsor] 3 false false none)) := Keeps.psh (Nat.le_refl _) _
      simp (maxSteps := 2000000) only [GO,GO2,evK,fillV,setR,binV,intOp,strOp,shOp,unV,getR,lenV,partV,V.nj,V.njL,V.cells,Nat.reduceLT,Nat.reduceEqDiff,Nat.reduceAdd,↓reduceIte,Nat.reduceLeDiff,reduceCtorEq,r13_6,g5x,Entry.g53,Entry.g54]
      refine XC_of (ints31k F (xs := [x.site,x.sponsor]) (by simp) (ini2 n1 n2) (F.tkeep _ _ ht (Kp.trans kk5 kp5)) (sl_ints h5 [x.site,x.sponsor])) ?_
      rintro _ h6 ⟨rfl,k6⟩
      have k6' := Kp.trans kp5 k6
      have a1 : 4 + (intsB [x.site,x.sponsor]).length ≤ 9223372036854775807 := by rw [ints2l]; omega
      simp (maxSteps := 2000000) only [GO,GO2,evK,fillV,setR,binV,intOp,strOp,shOp,unV,getR,lenV,partV,V.nj,V.njL,V.cells,Nat.reduceLT,Nat.reduceEqDiff,Nat.reduceAdd,↓reduceIte,Nat.reduceLeDiff,reduceCtorEq,a1]
      exact entTail13 F hx (Kp.of k6' g5') (Kp.of k6' g5x) (Kp.trans kk5 k6') rfl rfl rfl (by simp [entS,c6',intsB_cons]) (by simp [c6'])
    · have c6f : (x.kind == 6) = false := by simpa using c6
      have c6' : ¬ x.kind = 6 := by simpa using c6
      by_cases c7 : (x.kind == 7) = true
      · have c7' : x.kind = 7 := by simpa using c7
        obtain ⟨h5,e5,g5,k5,z5⟩ := put_ex (o := 53) (ws := [.int .i64 x.site]) g3' (Nat.le_of_ble_eq_true rfl) rfl rfl
        have g5' : h5.get B = some (.cells (entOnly x).cells 50 false false none) := by unfold entOnly; rw [if_neg c6',if_pos c7']; exact g5
        have g5x : h5.get h.size = some (.cells x.cells 50 false false none) := by rw [k5.get _ hlt]; exact gx
        have kk5 : Keeps h.size h h5 := Keeps.trans (n := h.size) kk3 (k5.mono (by omega))
        have kp5 : Kp h5 (h5.psh (.cells [.int .i64 x.site] 3 false false none)) := Keeps.psh (Nat.le_refl _) _
        simp (maxSteps := 2000000) only [GO,GO2,evK,fillV,setR,binV,intOp,strOp,shOp,unV,getR,lenV,partV,V.nj,V.njL,V.cells,Nat.reduceLT,Nat.reduceEqDiff,Nat.reduceAdd,↓reduceIte,Nat.reduceLeDiff,reduceCtorEq,r13_3,r13_4,r13_7,r13_8,r13_9,c0f,c6f,c7,gx,e5,g5x,Entry.g53]
        refine XC_of (ints31k F (xs := [x.site]) (by simp) (ini1 n1) (F.tkeep _ _ ht (Kp.trans kk5 kp5)) (sl_ints h5 [x.site])) ?_
        rintro _ h6 ⟨rfl,k6⟩
        have k6' := Kp.trans kp5 k6
        have a1 : 5 + (intsB [x.site]).length ≤ 9223372036854775807 := by rw [ints1l]; omega
        simp (maxSteps := 2000000) only [GO,GO2,evK,fillV,setR,binV,intOp,strOp,shOp,unV,getR,lenV,partV,V.nj,V.njL,V.cells,Nat.reduceLT,Nat.reduceEqDiff,Nat.reduceAdd,↓reduceIte,Nat.reduceLeDiff,reduceCtorEq,a1]
        exact entTail13 F hx (Kp.of k6' g5') (Kp.of k6' g5x) (Kp.trans kk5 k6') rfl rfl rfl (by simp [entS,c7',itoas1,ints1]) (by simp [c7'])
      · have c7f : (x.kind == 7) = false := by simpa using c7
        have c7' : ¬ x.kind = 7 := by simpa using c7
        by_cases c8 : (x.kind == 8) = true
        · have c8' : x.kind = 8 := by simpa using c8
          obtain ⟨h4,e4,g4,k4,z4⟩ := put_ex (o := 53) (ws := [.int .i64 x.site]) g3' (Nat.le_of_ble_eq_true rfl) rfl rfl
          have g4' : h4.get B = some (.cells ({ Entry.zero with kind := x.kind,site := x.site } : Entry).cells 50 false false none) := g4
          obtain ⟨h5,e5,g5,k5,z5⟩ := put_ex (o := 55) (ws := [.int .i64 x.length]) g4' (Nat.le_of_ble_eq_true rfl) rfl rfl
          have g5' : h5.get B = some (.cells (entOnly x).cells 50 false false none) := by unfold entOnly; rw [if_neg c6',if_neg c7',if_pos c8']; exact g5
          have k35 := k4.trans k5
          have g5x : h5.get h.size = some (.cells x.cells 50 false false none) := by rw [k35.get _ hlt]; exact gx
          have kk5 : Keeps h.size h h5 := Keeps.trans (n := h.size) kk3 (k35.mono (by omega))
          simp (maxSteps := 2000000) only [GO,GO2,evK,fillV,setR,binV,intOp,strOp,shOp,unV,getR,lenV,partV,V.nj,V.njL,V.cells,Nat.reduceLT,Nat.reduceEqDiff,Nat.reduceAdd,↓reduceIte,Nat.reduceLeDiff,reduceCtorEq,r13_3,r13_4,r13_7,r13_10,c0f,c6f,c7f,c8]
          rw [X_draw]
          refine k13_11 B (XDJ_XDK ?_)
          simp (maxSteps := 2000000) only [GO,GO2,evK,fillV,setR,binV,intOp,strOp,shOp,unV,getR,lenV,partV,V.nj,V.njL,V.cells,Nat.reduceLT,Nat.reduceEqDiff,Nat.reduceAdd,↓reduceIte,Nat.reduceLeDiff,reduceCtorEq,r13_11,gx,Entry.g53,Entry.g55,hlt,e4]
          refine ⟨k4,?_⟩
          simp (maxSteps := 2000000) only [GO,GO2,evK,fillV,setR,binV,intOp,strOp,shOp,unV,getR,lenV,partV,V.nj,V.njL,V.cells,Nat.reduceLT,Nat.reduceEqDiff,Nat.reduceAdd,↓reduceIte,Nat.reduceLeDiff,reduceCtorEq,e5]
          refine ⟨k5,?_⟩
          have kp5 : Kp h5 (h5.psh (.cells [.int .i64 x.site] 3 false false none)) := Keeps.psh (Nat.le_refl _) _
          have g6x := Kp.of kp5 g5x
          rw [X_draw]
          refine d13_12 ?_
          simp (maxSteps := 2000000) only [GO,GO2,evK,fillV,setR,binV,intOp,strOp,shOp,unV,getR,lenV,partV,V.nj,V.njL,V.cells,Nat.reduceLT,Nat.reduceEqDiff,Nat.reduceAdd,↓reduceIte,Nat.reduceLeDiff,reduceCtorEq,r13_12,g5x,Entry.g53,Entry.g55]
          refine ⟨kp5,?_⟩
          refine XCQ_of (ints31k F (xs := [x.site]) (by simp) (ini1 n1) (F.tkeep _ _ ht (Kp.trans kk5 kp5)) (sl_ints h5 [x.site])) ?_
          rintro _ h6 ⟨rfl,k6⟩
          have k6' := Kp.trans kp5 k6
          have g6x := Kp.of k6' g5x
          have li1 := ints1l x.site
          have a1 : 6 + (intsB [x.site]).length ≤ 9223372036854775807 := by omega
          have a2 : (intsB [x.site]).length + 6 + 1 ≤ 9223372036854775807 := by omega
          refine ⟨k6,?_⟩
          simp (maxSteps := 2000000) only [GO,GO2,evK,fillV,setR,binV,intOp,strOp,shOp,unV,getR,lenV,partV,V.nj,V.njL,V.cells,Nat.reduceLT,Nat.reduceEqDiff,Nat.reduceAdd,↓reduceIte,Nat.reduceLeDiff,reduceCtorEq,a1,a2,g5x,g6x,Entry.g55]
          refine XCQ_of (num30 F n3 (F.tkeep _ _ ht (Kp.trans kk5 k6'))) ?_
          rintro _ h7 ⟨rfl,rfl⟩
          refine ⟨Keeps.refl _ _,?_⟩
          have a3 : (intsB [x.site]).length + 1 + 1 + 1 + 1 + 1 + 1 + 1 + (itoa x.length).length ≤ 9223372036854775807 := by omega
          simp (maxSteps := 2000000) only [GO,GO2,evK,fillV,setR,binV,intOp,strOp,shOp,unV,getR,lenV,partV,V.nj,V.njL,V.cells,Nat.reduceLT,Nat.reduceEqDiff,Nat.reduceAdd,↓reduceIte,Nat.reduceLeDiff,reduceCtorEq,List.length_append,a3]
          exact entTail13 F hx (Kp.of k6' g5') (Kp.of k6' g5x) (Kp.trans kk5 k6') rfl rfl rfl (by simp [entS,c8',itoas1,ints1]) (by simp [c8'])
        · have c8f : (x.kind == 8) = false := by simpa using c8
          have c8' : ¬ x.kind = 8 := by simpa using c8
          simp (maxSteps := 2000000) only [GO,GO2,evK,fillV,setR,binV,intOp,strOp,shOp,unV,getR,lenV,partV,V.nj,V.njL,V.cells,Nat.reduceLT,Nat.reduceEqDiff,Nat.reduceAdd,↓reduceIte,Nat.reduceLeDiff,reduceCtorEq,r13_3,r13_4,r13_7,r13_10,c0f,c6f,c7f,c8f,r13_13]
          have hno : ¬ entOk x := fun h => by rcases h.1 with h | h | h | h <;> contradiction
          exact ⟨by simp [entA,hno],kk3⟩
end Go.AM.Sc
