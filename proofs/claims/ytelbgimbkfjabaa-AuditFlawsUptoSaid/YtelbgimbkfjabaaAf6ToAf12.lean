/- My own texts, laid for this claim. -/
import Derived.Test.YtelbgimbkfjabaaRf5ToAf5
set_option linter.unusedSimpArgs false
set_option linter.unusedVariables false
namespace Go.AM.Sc
open Go.AM
variable {P : Program} {E : Env}
set_option maxHeartbeats 1000000 in
theorem outer51 (F : Ff E) (G : Fa E) {h h3 : H} {lv : V} {ws : List WV} (hv : VsIn h lv ws) {b3 bx b2 : Nat} {ρ : Nat → V} (w1 : ρ 1 = .ptr (some (bx,0))) (w3 : ρ 3 = .ptr (some (b3,0)))
  (gx : h3.get bx = some (.cells [lv] 22 false false none)) (g2 : h3.get b2 = some (.cells [lv] 22 false false none)) (ob : Ob h.size h3 b3 []) (kk : Kp h h3) (hlen : (F1 ws).length ≤ 1099511627775) :
  Sp P E (.func 71 [] [.ptr (some (b2,0))]) [.yield h3.size] (h3.psh (.loop .ready none (toL 58 ρ) [9,10] a51_4 b51_10)) fun _ h2 => h2.get h3.size = some (.loop .ready none (toL 58 ρ) [9,10] a51_4 b51_10) ∧ Ob h.size h2 b3 (F1 ws) ∧ Kp h h2 := by
 have kL : Kp h3 (h3.psh (.loop .ready none (toL 58 ρ) [9,10] a51_4 b51_10)) := Keeps.psh (Nat.le_refl _) _
 have glL := psh_same h3 (.loop .ready none (toL 58 ρ) [9,10] a51_4 b51_10)
 have hbs : b3 < h3.size := by obtain ⟨ov,g,_⟩ := ob.ex; exact H.get_lt g
 have hlb : h3.size ≠ b3 := by omega
 have nx : bx ≠ b3 := ob.ne gx (by intro ov e; simp at e)
 have n2 : b2 ≠ b3 := ob.ne g2 (by intro ov e; simp at e)
 refine Sp.mono (pairs71 F (bx := b2) (lv := lv) hv.len (Inv := fun r h' => KB b3 (h3.psh (.loop .ready none (toL 58 ρ) [9,10] a51_4 b51_10)) h' ∧ Kp h h' ∧ ∃ fs,Ob h.size h' b3 fs ∧ fs ++ r.flatMap (f1 ws) = F1 ws) ?_ ?_ ?_) ?_
 ·rintro r h1 ⟨kb,k1,_⟩
  exact ⟨⟨22,kb.get _ _ (kL.of g2) n2 (by intro vs e; simp at e)⟩,(hv.keep k1).sl⟩
 ·rintro a b r h1 ha hb _ _ ⟨kb,k1,fs,o1,e1⟩
  rw [List.flatMap_cons,← List.append_assoc] at e1
  have hgl : (fs ++ f1 ws (a,b)).length ≤ 1099511627775 := by
   have := congrArg List.length e1
   rw [List.length_append] at this
   omega
  refine Sp.mono (pair51 F G hv ha hb w1 w3 glL (kL.of gx) hlb nx kk.size kb o1 k1 hgl) ?_
  rintro v h2 ⟨rfl,kb2,o2,k2⟩
  exact ⟨rfl,kb2,k2,_,o2,e1⟩
 ·exact ⟨KB.refl _ _,Kp.trans kk kL,[],ob.kb kL,rfl⟩
 ·rintro _ h2 ⟨kb,k1,gs,o1,e1⟩
  simp only [List.flatMap_nil,List.append_nil] at e1
  subst e1
  exact ⟨kb.get _ _ glL hlb (by intro vs e; cases e),o1,k1⟩
set_option maxHeartbeats 1000000 in
theorem unlike51 (F : Ff E) (G : Fa E) {h : H} {lv : V} {ws : List WV} (hv : VsIn h lv ws) (hlen : (F1 ws).length ≤ 1099511627775) : Sp P E (.func 51 [] []) [lv] h fun v h' => Acc h' h.size 30 4 v ((F1 ws).map Flaw.cells) ∧ Kp h h' := by
 have hv0 := hv
 obtain ⟨sa,sc,so,hlv⟩ := hv.sl.len
 rw [List.length_map] at hlv
 rw [hlv] at hv
 have k1 : Kp h (h.psh (.cells [lv] 22 false false none)) := Keeps.psh (Nat.le_refl _) _
 have g1 := psh_same h (.cells [lv] 22 false false none)
 have s1 := psh_size h (.cells [lv] 22 false false none)
 refine Sp_fn F.f51 F.p51 (by simp [fn51]) ?_
 rw [hlv] at g1 k1 s1 ⊢
 simp only [GR,evK,binV,intOp,strOp,shOp,unV,Nat.reduceLT,Nat.reduceEqDiff,Nat.reduceAdd,↓reduceIte,Nat.reduceLeDiff,reduceCtorEq,fn51,c51,r51_0]
 generalize h.psh (.cells [.slice sa ws.length sc so] 22 false false none) = h1 at *
 have k2 : Kp h1 (h1.psh (.cells [.slice none 0 0 false] 24 false false none)) := Keeps.psh (Nat.le_refl _) _
 have g2 := psh_same h1 (.cells [.slice none 0 0 false] 24 false false none)
 have s2 := psh_size h1 (.cells [.slice none 0 0 false] 24 false false none)
 have g12 := k2.of g1
 generalize h1.psh (.cells [.slice none 0 0 false] 24 false false none) = h2 at *
 simp only [GR,evK,binV,intOp,strOp,shOp,unV,Nat.reduceLT,Nat.reduceEqDiff,Nat.reduceAdd,↓reduceIte,Nat.reduceLeDiff,reduceCtorEq,r51_1,g12]
 refine XC_of (pairs64 (P := P) F sa ws.length sc so h2) ?_
 rintro _ hx ⟨rfl,e2⟩
 rw [e2]
 clear e2 hx
 have k3 : Kp h2 (h2.psh (.cells [.slice sa ws.length sc so] 22 false false none)) := Keeps.psh (Nat.le_refl _) _
 have g3 := psh_same h2 (.cells [.slice sa ws.length sc so] 22 false false none)
 generalize h2.psh (.cells [.slice sa ws.length sc so] 22 false false none) = h3 at *
 simp only [GR,evK,binV,intOp,strOp,shOp,unV,Nat.reduceLT,Nat.reduceEqDiff,Nat.reduceAdd,↓reduceIte,Nat.reduceLeDiff,reduceCtorEq]
 have ob3 : Ob h.size h3 h1.size [] := ⟨⟨_,k3.of g2,Acc.nil _ _ _ _⟩,by omega⟩
 refine X_range (by rw [ev_t (by decide)]; rfl) rfl ?_
 refine Sp.mono (outer51 F G hv (b3 := h1.size) (bx := h.size) ?_ ?_ (k3.of g12) g3 ob3 (Kp.trans k1 (Kp.trans k2 k3)) hlen) ?_
 ·rfl
 ·rfl
 rintro _ h4 ⟨gl,ob4,kk4⟩
 refine ⟨_,_,_,_,_,_,gl,by decide,fun oe hoe => ?_⟩
 simp only
 have ob5 := ob4.set gl (by intro _ _ _ _ _ e; cases e) oe
 have kk5 : Kp h (h4.set h3.size oe) := Keeps.trans kk4 (Keeps.set (H.get_lt gl) (by have := (Kp.trans k1 (Kp.trans k2 k3)).size; omega) oe)
 generalize h4.set h3.size oe = h5 at *
 obtain ⟨ov,go,acc⟩ := ob5.ex
 simp only [GR,evK,binV,intOp,strOp,shOp,unV,Nat.reduceLT,Nat.reduceEqDiff,Nat.reduceAdd,↓reduceIte,Nat.reduceLeDiff,reduceCtorEq,r51_11,go]
 exact ⟨acc,kk5⟩
def f2 (ws : List WV) (p : Nat × Nat) : List Flaw := match ws[p.1]?,ws[p.2]? with
 | some A,some B => if A.x.at_.group == B.x.at_.group && siteB A.x.at_.group && A.x.told == B.x.told && !decide (eqState A B) then [⟨2,p.1,p.2,0⟩] else []
 | _,_ => []
def F2 (ws : List WV) : List Flaw := (pairsL ws).flatMap (f2 ws)
theorem f2_at {ws : List WV} {a b : Nat} (ha : a < ws.length) (hb : b < ws.length) : f2 ws (a,b) = if ws[a].x.at_.group == ws[b].x.at_.group && siteB ws[a].x.at_.group && ws[a].x.told == ws[b].x.told && !decide (eqState ws[a] ws[b]) then [⟨2,a,b,0⟩] else [] := by
 simp [f2,ha,hb]
set_option maxHeartbeats 4000000 in
theorem pair52 (F : Ff E) (G : Fa E) {h hL hh : H} {lv : V} {ws : List WV} (hv : VsIn h lv ws) {l b3 bx : Nat} {ρ : Nat → V} {fs : List Flaw} {a b : Nat} (ha : a < ws.length) (hb : b < ws.length) (w1 : ρ 1 = .ptr (some (bx,0))) (w3 : ρ 3 = .ptr (some (b3,0)))
  (gl : hL.get l = some (.loop .ready none (toL 62 ρ) [8,9] a52_2 b52_5)) (gx : hL.get bx = some (.cells [lv] 22 false false none)) (hlb : l ≠ b3) (hxb : bx ≠ b3) (hll : h.size ≤ l)
  (kb : KB b3 hL hh) (ob : Ob h.size hh b3 fs) (kk : Kp h hh) (hlen : (fs ++ f2 ws (a,b)).length ≤ 1099511627775) :
  Sp P E (.yield l) [.int .i64 a,.int .i64 b] hh fun v h' => v = .bool true ∧ KB b3 hL h' ∧ Ob h.size h' b3 (fs ++ f2 ws (a,b)) ∧ Kp h h' := by
 refine Sp_round gl kb hlb rfl (zip2 _ _ _ _ _ _) ?_
 intro bz rd hbz hrd
 have nob : ∀ vs ty op ro fz,bz ≠ .cells vs ty op ro fz := by rw [hbz]; intro _ _ _ _ _ e; cases e
 have glh := kb.get _ _ gl hlb (by intro vs e; cases e)
 have hlt := H.get_lt glh
 have nocl : ∀ vs ty op ro fz,Obj.loop .ready none (toL 62 ρ) [8,9] a52_2 b52_5 ≠ .cells vs ty op ro fz := by intro _ _ _ _ _ e; cases e
 have obB := ob.set glh nocl bz
 have gxB : (hh.set l bz).get bx = some (.cells [lv] 22 false false none) := by
  have hg := kb.get _ _ gx hxb (by intro vs e; cases e)
  rw [hset_other hlt (by rintro rfl; rw [glh] at hg; cases hg)]; exact hg
 have glB := hset_same hlt bz
 have kkB : Kp h (hh.set l bz) := Keeps.trans kk (Keeps.set hlt hll _)
 have sB : (hh.set l bz).size = hh.size := rfl
 clear hbz hrd glh
 simp only [GR,evK,binV,intOp,strOp,shOp,unV,Nat.reduceLT,Nat.reduceEqDiff,Nat.reduceAdd,↓reduceIte,Nat.reduceLeDiff,reduceCtorEq,a52_2]
 refine ⟨KB.refl _ _,_,rfl,?_⟩
 generalize hh.set l bz = hB at *
 have hvB := hv.keep kkB
 obtain ⟨ba,oa,ca,pa,csa,tya,opa,roa,fza,va,hga,hla,hea,hna⟩ := view_nth hvB.sl ha
 obtain ⟨bb,o2,cb,pb,csb,tyb,opb,rob,fzb,vb,hgb,hlb2,heb,hnb⟩ := view_nth hvB.sl hb
 have hvv := va.symm.trans vb
 cases hvv
 rw [hga] at hgb; cases hgb
 have wA := hvB.ins _ (List.getElem_mem ha)
 have wB := hvB.ins _ (List.getElem_mem hb)
 have nja := wA.nj
 have njb := wB.nj
 have hea0 := hea
 have heb0 := heb
 unfold getR at hea heb
 have ea0 : csa[oa + a * 21]? = some (.int .i64 ws[a].x.at_.group) := by have := hna 0 _ (View.g0 ws[a].x); simpa using this
 have eb0 : csa[oa + b * 21]? = some (.int .i64 ws[b].x.at_.group) := by have := hnb 0 _ (View.g0 ws[b].x); simpa using this
 rw [va] at gxB
 have fa := f2_at ha hb
 have good : f2 ws (a,b) = [⟨2,a,b,0⟩] → ∀ (ρ2 : Nat → V) (h8 : H),ρ2 3 = .ptr (some (b3,0)) → ρ2 4 = .int .i64 a → ρ2 5 = .int .i64 b → Kp hB h8 → XO P E (some l) 62 r52_4 [.b 1] ρ2 h8 fun ex _ h2 => ex = .nrm ∧ KB b3 hB h2 ∧ Ob h.size (h2.set l rd) b3 (fs ++ f2 ws (a,b)) ∧ Kp h (h2.set l rd) := by
  intro h1 ρ2 h8 y3 y4 y5 k8
  rw [h1] at hlen ⊢
  have ob8 := obB.kb k8
  have kk8 := Kp.trans kkB k8
  obtain ⟨ov,v',h9,h10,go,e1,⟨pv,nv,cv,ov',hv'⟩,e2,ob2,k2,kb2⟩ := ob8.app kk8.size (by simp at hlen; omega) ⟨2,a,b,0⟩
  subst hv'
  have hfc : (Flaw.mk 2 a b 0).cells = [.int .i64 2,.int .i64 a,.int .i64 b,.int .i64 0] := rfl
  rw [hfc] at e1
  have hd0 : List.drop 3 [V.int .i64 0,.int .i64 0,.int .i64 0,.int .i64 0] = [.int .i64 0] := rfl
  have hd1 : List.drop 4 [V.int .i64 0,.int .i64 0,.int .i64 0,.int .i64 0] = [] := rfl
  simp only [GR,evK,binV,intOp,strOp,shOp,unV,Nat.reduceLT,Nat.reduceEqDiff,Nat.reduceAdd,↓reduceIte,Nat.reduceLeDiff,reduceCtorEq,r52_4,y3,y4,y5,go,hd0,hd1,e1,e2]
  have gl8 := k8.of glB
  have gl2 := kb2.get _ _ gl8 hlb (fun vs => nob _ _ _ _ _)
  exact ⟨(KB.kp k8).trans kb2,ob2.set gl2 nob _,Keeps.trans kk8 (Keeps.trans k2 (Keeps.set (H.get_lt gl2) hll _))⟩
 have none_ : f2 ws (a,b) = [] → ∀ h8 : H,Kp hB h8 → (KB b3 hB h8) ∧ (Ob h.size (h8.set l rd) b3 (fs ++ f2 ws (a,b)) ∧ Kp h (h8.set l rd)) := by
  intro h0 h8 k8
  refine ⟨KB.kp k8,?_,Keeps.trans (Kp.trans kkB k8) (Keeps.set (H.get_lt (k8.of glB)) hll _)⟩
  rw [h0,List.append_nil]
  exact (obB.kb k8).set (k8.of glB) nob _
 simp only [GR,evK,binV,intOp,strOp,shOp,unV,Nat.reduceLT,Nat.reduceEqDiff,Nat.reduceAdd,↓reduceIte,Nat.reduceLeDiff,reduceCtorEq,b52_5]
 rw [X_draw]
 have ea5 := hna 5 _ (View.g5 ws[a].x)
 have eb5 := hnb 5 _ (View.g5 ws[b].x)
 refine d52_3 ?_
 cases c1 : ws[a].x.at_.group == ws[b].x.at_.group with
 | false =>
  rw [c1] at fa
  simp only [GR,evK,binV,intOp,strOp,shOp,unV,Nat.reduceLT,Nat.reduceEqDiff,Nat.reduceAdd,↓reduceIte,Nat.reduceLeDiff,reduceCtorEq,r52_3,w1,gxB,Int.natCast_nonneg,Int.ofNat_lt,ha,hb,Int.toNat_natCast,hga,hla,hlb2,hea,heb,nja,njb,ea0,eb0,c1]
  exact none_ (by simpa using fa) hB (Keeps.refl _ _)
 | true =>
  simp only [GR,evK,binV,intOp,strOp,shOp,unV,Nat.reduceLT,Nat.reduceEqDiff,Nat.reduceAdd,↓reduceIte,Nat.reduceLeDiff,reduceCtorEq,r52_3,w1,gxB,Int.natCast_nonneg,Int.ofNat_lt,ha,hb,Int.toNat_natCast,hga,hla,hlb2,hea,heb,nja,njb,ea0,eb0,c1]
  refine XCD_of (isSite66 (P := P) F) ?_
  rintro _ h1 ⟨rfl,k1⟩
  have gx1 := k1.of gxB
  have hg1 := k1.of hga
  cases c2 : siteB ws[a].x.at_.group with
  | false =>
   rw [c1,c2] at fa
   simp only [GR,evK,binV,intOp,strOp,shOp,unV,Nat.reduceLT,Nat.reduceEqDiff,Nat.reduceAdd,↓reduceIte,Nat.reduceLeDiff,reduceCtorEq]
   exact none_ (by simpa using fa) h1 k1
  | true =>
   cases c3 : ws[a].x.told == ws[b].x.told with
   | false =>
    rw [c1,c2,c3] at fa
    simp only [GR,evK,binV,intOp,strOp,shOp,unV,Nat.reduceLT,Nat.reduceEqDiff,Nat.reduceAdd,↓reduceIte,Nat.reduceLeDiff,reduceCtorEq,w1,gx1,Int.natCast_nonneg,Int.ofNat_lt,ha,hb,Int.toNat_natCast,hg1,ea5,eb5,c3]
    exact none_ (by simpa using fa) h1 k1
   | true =>
    simp only [GR,evK,binV,intOp,strOp,shOp,unV,Nat.reduceLT,Nat.reduceEqDiff,Nat.reduceAdd,↓reduceIte,Nat.reduceLeDiff,reduceCtorEq,w1,gx1,Int.natCast_nonneg,Int.ofNat_lt,ha,hb,Int.toNat_natCast,hg1,ea5,eb5,c3,hla,hlb2,hea,heb,nja,njb]
    refine XCD_of (state40 (P := P) G (x := ws[a].x) (y := ws[b].x) (es := ws[a].es) (ns := ws[a].ns) (rs := ws[a].rs) (es' := ws[b].es) (ns' := ws[b].ns) (rs' := ws[b].rs) (wA.keep k1) (wB.keep k1)) ?_
    rintro _ h2 ⟨rfl,k2⟩
    have k12 := Kp.trans k1 k2
    cases c4 : decide (eqState ws[a] ws[b]) with
    | true =>
     have c4' : decide (eqState ⟨ws[a].x,ws[a].es,ws[a].ns,ws[a].rs⟩ ⟨ws[b].x,ws[b].es,ws[b].ns,ws[b].rs⟩) = true := c4
     rw [c1,c2,c3,c4] at fa
     simp only [GR,evK,binV,intOp,strOp,shOp,unV,Nat.reduceLT,Nat.reduceEqDiff,Nat.reduceAdd,↓reduceIte,Nat.reduceLeDiff,reduceCtorEq,c4',Bool.not_true]
     exact none_ (by simpa using fa) h2 k12
    | false =>
     have c4' : decide (eqState ⟨ws[a].x,ws[a].es,ws[a].ns,ws[a].rs⟩ ⟨ws[b].x,ws[b].es,ws[b].ns,ws[b].rs⟩) = false := c4
     rw [c1,c2,c3,c4] at fa
     simp only [GR,evK,binV,intOp,strOp,shOp,unV,Nat.reduceLT,Nat.reduceEqDiff,Nat.reduceAdd,↓reduceIte,Nat.reduceLeDiff,reduceCtorEq,c4',Bool.not_false]
     refine good (by simpa using fa) _ h2 ?_ ?_ ?_ k12
     ·exact w3
     ·rfl
     ·rfl
set_option maxHeartbeats 1000000 in
theorem outer52 (F : Ff E) (G : Fa E) {h h3 : H} {lv : V} {ws : List WV} (hv : VsIn h lv ws) {b3 bx b2 : Nat} {ρ : Nat → V} (w1 : ρ 1 = .ptr (some (bx,0))) (w3 : ρ 3 = .ptr (some (b3,0)))
  (gx : h3.get bx = some (.cells [lv] 22 false false none)) (g2 : h3.get b2 = some (.cells [lv] 22 false false none)) (ob : Ob h.size h3 b3 []) (kk : Kp h h3) (hlen : (F2 ws).length ≤ 1099511627775) :
  Sp P E (.func 71 [] [.ptr (some (b2,0))]) [.yield h3.size] (h3.psh (.loop .ready none (toL 62 ρ) [8,9] a52_2 b52_5)) fun _ h2 => h2.get h3.size = some (.loop .ready none (toL 62 ρ) [8,9] a52_2 b52_5) ∧ Ob h.size h2 b3 (F2 ws) ∧ Kp h h2 := by
 have kL : Kp h3 (h3.psh (.loop .ready none (toL 62 ρ) [8,9] a52_2 b52_5)) := Keeps.psh (Nat.le_refl _) _
 have glL := psh_same h3 (.loop .ready none (toL 62 ρ) [8,9] a52_2 b52_5)
 have hbs : b3 < h3.size := by obtain ⟨ov,g,_⟩ := ob.ex; exact H.get_lt g
 have hlb : h3.size ≠ b3 := by omega
 have nx : bx ≠ b3 := ob.ne gx (by intro ov e; simp at e)
 have n2 : b2 ≠ b3 := ob.ne g2 (by intro ov e; simp at e)
 refine Sp.mono (pairs71 F (bx := b2) (lv := lv) hv.len (Inv := fun r h' => KB b3 (h3.psh (.loop .ready none (toL 62 ρ) [8,9] a52_2 b52_5)) h' ∧ Kp h h' ∧ ∃ fs,Ob h.size h' b3 fs ∧ fs ++ r.flatMap (f2 ws) = F2 ws) ?_ ?_ ?_) ?_
 ·rintro r h1 ⟨kb,k1,_⟩
  exact ⟨⟨22,kb.get _ _ (kL.of g2) n2 (by intro vs e; simp at e)⟩,(hv.keep k1).sl⟩
 ·rintro a b r h1 ha hb _ _ ⟨kb,k1,fs,o1,e1⟩
  rw [List.flatMap_cons,← List.append_assoc] at e1
  have hgl : (fs ++ f2 ws (a,b)).length ≤ 1099511627775 := by
   have := congrArg List.length e1
   rw [List.length_append] at this
   omega
  refine Sp.mono (pair52 F G hv ha hb w1 w3 glL (kL.of gx) hlb nx kk.size kb o1 k1 hgl) ?_
  rintro v h2 ⟨rfl,kb2,o2,k2⟩
  exact ⟨rfl,kb2,k2,_,o2,e1⟩
 ·exact ⟨KB.refl _ _,Kp.trans kk kL,[],ob.kb kL,rfl⟩
 ·rintro _ h2 ⟨kb,k1,gs,o1,e1⟩
  simp only [List.flatMap_nil,List.append_nil] at e1
  subst e1
  exact ⟨kb.get _ _ glL hlb (by intro vs e; cases e),o1,k1⟩
set_option maxHeartbeats 1000000 in
theorem unlike52 (F : Ff E) (G : Fa E) {h : H} {lv : V} {ws : List WV} (hv : VsIn h lv ws) (hlen : (F2 ws).length ≤ 1099511627775) : Sp P E (.func 52 [] []) [lv] h fun v h' => Acc h' h.size 30 4 v ((F2 ws).map Flaw.cells) ∧ Kp h h' := by
 have hv0 := hv
 obtain ⟨sa,sc,so,hlv⟩ := hv.sl.len
 rw [List.length_map] at hlv
 rw [hlv] at hv
 have k1 : Kp h (h.psh (.cells [lv] 22 false false none)) := Keeps.psh (Nat.le_refl _) _
 have g1 := psh_same h (.cells [lv] 22 false false none)
 have s1 := psh_size h (.cells [lv] 22 false false none)
 refine Sp_fn F.f52 F.p52 (by simp [fn52]) ?_
 rw [hlv] at g1 k1 s1 ⊢
 simp only [GR,evK,binV,intOp,strOp,shOp,unV,Nat.reduceLT,Nat.reduceEqDiff,Nat.reduceAdd,↓reduceIte,Nat.reduceLeDiff,reduceCtorEq,fn52,c52,r52_0]
 generalize h.psh (.cells [.slice sa ws.length sc so] 22 false false none) = h1 at *
 have k2 : Kp h1 (h1.psh (.cells [.slice none 0 0 false] 24 false false none)) := Keeps.psh (Nat.le_refl _) _
 have g2 := psh_same h1 (.cells [.slice none 0 0 false] 24 false false none)
 have s2 := psh_size h1 (.cells [.slice none 0 0 false] 24 false false none)
 have g12 := k2.of g1
 generalize h1.psh (.cells [.slice none 0 0 false] 24 false false none) = h2 at *
 simp only [GR,evK,binV,intOp,strOp,shOp,unV,Nat.reduceLT,Nat.reduceEqDiff,Nat.reduceAdd,↓reduceIte,Nat.reduceLeDiff,reduceCtorEq,r52_1,g12]
 refine XC_of (pairs64 (P := P) F sa ws.length sc so h2) ?_
 rintro _ hx ⟨rfl,e2⟩
 rw [e2]
 clear e2 hx
 have k3 : Kp h2 (h2.psh (.cells [.slice sa ws.length sc so] 22 false false none)) := Keeps.psh (Nat.le_refl _) _
 have g3 := psh_same h2 (.cells [.slice sa ws.length sc so] 22 false false none)
 generalize h2.psh (.cells [.slice sa ws.length sc so] 22 false false none) = h3 at *
 simp only [GR,evK,binV,intOp,strOp,shOp,unV,Nat.reduceLT,Nat.reduceEqDiff,Nat.reduceAdd,↓reduceIte,Nat.reduceLeDiff,reduceCtorEq]
 have ob3 : Ob h.size h3 h1.size [] := ⟨⟨_,k3.of g2,Acc.nil _ _ _ _⟩,by omega⟩
 refine X_range (by rw [ev_t (by decide)]; rfl) rfl ?_
 refine Sp.mono (outer52 F G hv (b3 := h1.size) (bx := h.size) ?_ ?_ (k3.of g12) g3 ob3 (Kp.trans k1 (Kp.trans k2 k3)) hlen) ?_
 ·rfl
 ·rfl
 rintro _ h4 ⟨gl,ob4,kk4⟩
 refine ⟨_,_,_,_,_,_,gl,by decide,fun oe hoe => ?_⟩
 simp only
 have ob5 := ob4.set gl (by intro _ _ _ _ _ e; cases e) oe
 have kk5 : Kp h (h4.set h3.size oe) := Keeps.trans kk4 (Keeps.set (H.get_lt gl) (by have := (Kp.trans k1 (Kp.trans k2 k3)).size; omega) oe)
 generalize h4.set h3.size oe = h5 at *
 obtain ⟨ov,go,acc⟩ := ob5.ex
 simp only [GR,evK,binV,intOp,strOp,shOp,unV,Nat.reduceLT,Nat.reduceEqDiff,Nat.reduceAdd,↓reduceIte,Nat.reduceLeDiff,reduceCtorEq,r52_6,go]
 exact ⟨acc,kk5⟩
theorem vec_at {cs : List V} {o : Nat} {x : View} (h : getR cs o 21 = x.cells) : List.take 8 (List.drop (o + 11) cs) = x.vector.cells := by
 have h2 : List.take 8 (List.drop 11 (getR cs o 21)) = x.vector.cells := by rw [h]; rfl
 unfold getR at h2
 rw [← h2,List.drop_take,List.take_take,List.drop_drop]
 rfl
def f4 (ws : List WV) (p : Nat × Nat) : List Flaw := match ws[p.1]?,ws[p.2]? with
 | some A,some B => if A.x.booted && B.x.booted && siteB A.x.at_.group && siteB B.x.at_.group && decide (A.x.vector = B.x.vector) && !decide (A.ns.map (·.2) = B.ns.map (·.2)) then [⟨4,p.1,p.2,0⟩] else []
 | _,_ => []
def F4 (ws : List WV) : List Flaw := (pairsL ws).flatMap (f4 ws)
theorem f4_at {ws : List WV} {a b : Nat} (ha : a < ws.length) (hb : b < ws.length) : f4 ws (a,b) = if ws[a].x.booted && ws[b].x.booted && siteB ws[a].x.at_.group && siteB ws[b].x.at_.group && decide (ws[a].x.vector = ws[b].x.vector) && !decide (ws[a].ns.map (·.2) = ws[b].ns.map (·.2)) then [⟨4,a,b,0⟩] else [] := by
 simp [f4,ha,hb]
set_option maxHeartbeats 4000000 in
theorem pair54 (F : Ff E) (G : Fa E) {h hL hh : H} {lv : V} {ws : List WV} (hv : VsIn h lv ws) {l b3 bx : Nat} {ρ : Nat → V} {fs : List Flaw} {a b : Nat} (ha : a < ws.length) (hb : b < ws.length) (w1 : ρ 1 = .ptr (some (bx,0))) (w3 : ρ 3 = .ptr (some (b3,0)))
  (gl : hL.get l = some (.loop .ready none (toL 70 ρ) [8,9] a54_2 b54_5)) (gx : hL.get bx = some (.cells [lv] 22 false false none)) (hlb : l ≠ b3) (hxb : bx ≠ b3) (hll : h.size ≤ l)
  (kb : KB b3 hL hh) (ob : Ob h.size hh b3 fs) (kk : Kp h hh) (hlen : (fs ++ f4 ws (a,b)).length ≤ 1099511627775) :
  Sp P E (.yield l) [.int .i64 a,.int .i64 b] hh fun v h' => v = .bool true ∧ KB b3 hL h' ∧ Ob h.size h' b3 (fs ++ f4 ws (a,b)) ∧ Kp h h' := by
 refine Sp_round gl kb hlb rfl (zip2 _ _ _ _ _ _) ?_
 intro bz rd hbz hrd
 have nob : ∀ vs ty op ro fz,bz ≠ .cells vs ty op ro fz := by rw [hbz]; intro _ _ _ _ _ e; cases e
 have glh := kb.get _ _ gl hlb (by intro vs e; cases e)
 have hlt := H.get_lt glh
 have nocl : ∀ vs ty op ro fz,Obj.loop .ready none (toL 70 ρ) [8,9] a54_2 b54_5 ≠ .cells vs ty op ro fz := by intro _ _ _ _ _ e; cases e
 have obB := ob.set glh nocl bz
 have gxB : (hh.set l bz).get bx = some (.cells [lv] 22 false false none) := by
  have hg := kb.get _ _ gx hxb (by intro vs e; cases e)
  rw [hset_other hlt (by rintro rfl; rw [glh] at hg; cases hg)]; exact hg
 have glB := hset_same hlt bz
 have kkB : Kp h (hh.set l bz) := Keeps.trans kk (Keeps.set hlt hll _)
 have sB : (hh.set l bz).size = hh.size := rfl
 clear hbz hrd glh
 simp only [GR,evK,binV,intOp,strOp,shOp,unV,Nat.reduceLT,Nat.reduceEqDiff,Nat.reduceAdd,↓reduceIte,Nat.reduceLeDiff,reduceCtorEq,a54_2]
 refine ⟨KB.refl _ _,_,rfl,?_⟩
 generalize hh.set l bz = hB at *
 have hvB := hv.keep kkB
 obtain ⟨ba,oa,ca,pa,csa,tya,opa,roa,fza,va,hga,hla,hea,hna⟩ := view_nth hvB.sl ha
 obtain ⟨bb,o2,cb,pb,csb,tyb,opb,rob,fzb,vb,hgb,hlb2,heb,hnb⟩ := view_nth hvB.sl hb
 have hvv := va.symm.trans vb
 cases hvv
 rw [hga] at hgb; cases hgb
 have wA := hvB.ins _ (List.getElem_mem ha)
 have wB := hvB.ins _ (List.getElem_mem hb)
 have nja := wA.nj
 have njb := wB.nj
 have hea0 := hea
 have heb0 := heb
 unfold getR at hea heb
 have ea0 : csa[oa + a * 21]? = some (.int .i64 ws[a].x.at_.group) := by have := hna 0 _ (View.g0 ws[a].x); simpa using this
 have eb0 : csa[oa + b * 21]? = some (.int .i64 ws[b].x.at_.group) := by have := hnb 0 _ (View.g0 ws[b].x); simpa using this
 rw [va] at gxB
 have fa := f4_at ha hb
 have good : f4 ws (a,b) = [⟨4,a,b,0⟩] → ∀ (ρ2 : Nat → V) (h8 : H),ρ2 3 = .ptr (some (b3,0)) → ρ2 4 = .int .i64 a → ρ2 5 = .int .i64 b → Kp hB h8 → XO P E (some l) 70 r54_4 [.b 1] ρ2 h8 fun ex _ h2 => ex = .nrm ∧ KB b3 hB h2 ∧ Ob h.size (h2.set l rd) b3 (fs ++ f4 ws (a,b)) ∧ Kp h (h2.set l rd) := by
  intro h1 ρ2 h8 y3 y4 y5 k8
  rw [h1] at hlen ⊢
  have ob8 := obB.kb k8
  have kk8 := Kp.trans kkB k8
  obtain ⟨ov,v',h9,h10,go,e1,⟨pv,nv,cv,ov',hv'⟩,e2,ob2,k2,kb2⟩ := ob8.app kk8.size (by simp at hlen; omega) ⟨4,a,b,0⟩
  subst hv'
  have hfc : (Flaw.mk 4 a b 0).cells = [.int .i64 4,.int .i64 a,.int .i64 b,.int .i64 0] := rfl
  rw [hfc] at e1
  have hd0 : List.drop 3 [V.int .i64 0,.int .i64 0,.int .i64 0,.int .i64 0] = [.int .i64 0] := rfl
  have hd1 : List.drop 4 [V.int .i64 0,.int .i64 0,.int .i64 0,.int .i64 0] = [] := rfl
  simp only [GR,evK,binV,intOp,strOp,shOp,unV,Nat.reduceLT,Nat.reduceEqDiff,Nat.reduceAdd,↓reduceIte,Nat.reduceLeDiff,reduceCtorEq,r54_4,y3,y4,y5,go,hd0,hd1,e1,e2]
  have gl8 := k8.of glB
  have gl2 := kb2.get _ _ gl8 hlb (fun vs => nob _ _ _ _ _)
  exact ⟨(KB.kp k8).trans kb2,ob2.set gl2 nob _,Keeps.trans kk8 (Keeps.trans k2 (Keeps.set (H.get_lt gl2) hll _))⟩
 have none_ : f4 ws (a,b) = [] → ∀ h8 : H,Kp hB h8 → (KB b3 hB h8) ∧ (Ob h.size (h8.set l rd) b3 (fs ++ f4 ws (a,b)) ∧ Kp h (h8.set l rd)) := by
  intro h0 h8 k8
  refine ⟨KB.kp k8,?_,Keeps.trans (Kp.trans kkB k8) (Keeps.set (H.get_lt (k8.of glB)) hll _)⟩
  rw [h0,List.append_nil]
  exact (obB.kb k8).set (k8.of glB) nob _
 simp only [GR,evK,binV,intOp,strOp,shOp,unV,Nat.reduceLT,Nat.reduceEqDiff,Nat.reduceAdd,↓reduceIte,Nat.reduceLeDiff,reduceCtorEq,b54_5]
 rw [X_draw]
 have ea4 := hna 4 _ (View.g4 ws[a].x)
 have eb4 := hnb 4 _ (View.g4 ws[b].x)
 have ea19 := hna 19 _ (View.g19 ws[a].x)
 have eb19 := hnb 19 _ (View.g19 ws[b].x)
 have eav : List.take 8 (List.drop (oa + a * 21 + 11) csa) = ws[a].x.vector.cells := vec_at hea0
 have ebv : List.take 8 (List.drop (oa + b * 21 + 11) csa) = ws[b].x.vector.cells := vec_at heb0
 have hla8 : oa + a * 21 + 11 + 8 ≤ csa.length := by omega
 have hlb8 : oa + b * 21 + 11 + 8 ≤ csa.length := by omega
 have hvn : ∀ z : Vec,V.njL z.cells = true := fun _ => rfl
 obtain ⟨sa1,sa2,sa3,sav⟩ := wA.nodes.len
 obtain ⟨sb1,sb2,sb3,sbv⟩ := wB.nodes.len
 refine d54_3 ?_
 cases c1 : ws[a].x.booted with
 | false =>
  rw [c1] at fa ea4
  simp only [GR,evK,binV,intOp,strOp,shOp,unV,Nat.reduceLT,Nat.reduceEqDiff,Nat.reduceAdd,↓reduceIte,Nat.reduceLeDiff,reduceCtorEq,r54_3,w1,gxB,Int.natCast_nonneg,Int.ofNat_lt,ha,hb,Int.toNat_natCast,hga,hla,hlb2,hea,heb,nja,njb,ea4]
  exact none_ (by simpa using fa) hB (Keeps.refl _ _)
 | true =>
 cases c1b : ws[b].x.booted with
 | false =>
  rw [c1] at ea4
  rw [c1b] at eb4
  rw [c1,c1b] at fa
  simp only [GR,evK,binV,intOp,strOp,shOp,unV,Nat.reduceLT,Nat.reduceEqDiff,Nat.reduceAdd,↓reduceIte,Nat.reduceLeDiff,reduceCtorEq,r54_3,w1,gxB,Int.natCast_nonneg,Int.ofNat_lt,ha,hb,Int.toNat_natCast,hga,hla,hlb2,hea,heb,nja,njb,ea4,eb4]
  exact none_ (by simpa using fa) hB (Keeps.refl _ _)
 | true =>
  rw [c1] at ea4
  rw [c1b] at eb4
  simp only [GR,evK,binV,intOp,strOp,shOp,unV,Nat.reduceLT,Nat.reduceEqDiff,Nat.reduceAdd,↓reduceIte,Nat.reduceLeDiff,reduceCtorEq,r54_3,w1,gxB,Int.natCast_nonneg,Int.ofNat_lt,ha,hb,Int.toNat_natCast,hga,hla,hlb2,hea,heb,nja,njb,ea4,eb4]
  refine XCD_of (isSite66 (P := P) F) ?_
  rintro _ h1 ⟨rfl,k1⟩
  have gx1 := k1.of gxB
  have hg1 := k1.of hga
  cases c2 : siteB ws[a].x.at_.group with
  | false =>
   rw [c1,c1b,c2] at fa
   simp only [GR,evK,binV,intOp,strOp,shOp,unV,Nat.reduceLT,Nat.reduceEqDiff,Nat.reduceAdd,↓reduceIte,Nat.reduceLeDiff,reduceCtorEq]
   exact none_ (by simpa using fa) h1 k1
  | true =>
   simp only [GR,evK,binV,intOp,strOp,shOp,unV,Nat.reduceLT,Nat.reduceEqDiff,Nat.reduceAdd,↓reduceIte,Nat.reduceLeDiff,reduceCtorEq,w1,gx1,Int.natCast_nonneg,Int.ofNat_lt,ha,hb,Int.toNat_natCast,hg1,hla,hlb2,hea,heb,nja,njb]
   refine XCD_of (isSite66 (P := P) F) ?_
   rintro _ h2 ⟨rfl,k2⟩
   have k12 := Kp.trans k1 k2
   have gx2 := k12.of gxB
   have hg2 := k12.of hga
   cases c3 : siteB ws[b].x.at_.group with
   | false =>
    rw [c1,c1b,c2,c3] at fa
    simp only [GR,evK,binV,intOp,strOp,shOp,unV,Nat.reduceLT,Nat.reduceEqDiff,Nat.reduceAdd,↓reduceIte,Nat.reduceLeDiff,reduceCtorEq]
    exact none_ (by simpa using fa) h2 k12
   | true =>
    have hveq := Vec.eqv h2 ws[a].x.vector ws[b].x.vector
    have hla9 : oa + a * 21 + 11 + 8 ≤ csa.length := hla8
    cases c4 : decide (ws[a].x.vector = ws[b].x.vector) with
    | false =>
     rw [c1,c1b,c2,c3,c4] at fa
     rw [c4] at hveq
     simp only [GR,evK,binV,intOp,strOp,shOp,unV,Nat.reduceLT,Nat.reduceEqDiff,Nat.reduceAdd,↓reduceIte,Nat.reduceLeDiff,reduceCtorEq,w1,gx2,Int.natCast_nonneg,Int.ofNat_lt,ha,hb,Int.toNat_natCast,hg2,hla8,hlb8,eav,ebv,hvn,hveq]
     exact none_ (by simpa using fa) h2 k12
    | true =>
     rw [c4] at hveq
     rw [sav] at ea19
     rw [sbv] at eb19
     have sp := nodes62 (P := P) G ((wA.keep k12).nodes) ((wA.keep k12).nds) ((wB.keep k12).nodes) ((wB.keep k12).nds) wA.nlen
     rw [sav,sbv] at sp
     simp only [GR,evK,binV,intOp,strOp,shOp,unV,Nat.reduceLT,Nat.reduceEqDiff,Nat.reduceAdd,↓reduceIte,Nat.reduceLeDiff,reduceCtorEq,w1,gx2,Int.natCast_nonneg,Int.ofNat_lt,ha,hb,Int.toNat_natCast,hg2,hla8,hlb8,eav,ebv,hvn,hveq,ea19,eb19]
     refine XCD_of sp ?_
     rintro _ h3 ⟨rfl,k3⟩
     have k123 := Kp.trans k12 k3
     cases c5 : decide (ws[a].ns.map (·.2) = ws[b].ns.map (·.2)) with
     | true =>
      rw [c1,c1b,c2,c3,c4,c5] at fa
      simp only [GR,evK,binV,intOp,strOp,shOp,unV,Nat.reduceLT,Nat.reduceEqDiff,Nat.reduceAdd,↓reduceIte,Nat.reduceLeDiff,reduceCtorEq,Bool.not_true]
      exact none_ (by simpa using fa) h3 k123
     | false =>
      rw [c1,c1b,c2,c3,c4,c5] at fa
      simp only [GR,evK,binV,intOp,strOp,shOp,unV,Nat.reduceLT,Nat.reduceEqDiff,Nat.reduceAdd,↓reduceIte,Nat.reduceLeDiff,reduceCtorEq,Bool.not_false]
      refine good (by simpa using fa) _ h3 ?_ ?_ ?_ k123
      ·exact w3
      ·rfl
      ·rfl
set_option maxHeartbeats 1000000 in
theorem outer54 (F : Ff E) (G : Fa E) {h h3 : H} {lv : V} {ws : List WV} (hv : VsIn h lv ws) {b3 bx b2 : Nat} {ρ : Nat → V} (w1 : ρ 1 = .ptr (some (bx,0))) (w3 : ρ 3 = .ptr (some (b3,0)))
  (gx : h3.get bx = some (.cells [lv] 22 false false none)) (g2 : h3.get b2 = some (.cells [lv] 22 false false none)) (ob : Ob h.size h3 b3 []) (kk : Kp h h3) (hlen : (F4 ws).length ≤ 1099511627775) :
  Sp P E (.func 71 [] [.ptr (some (b2,0))]) [.yield h3.size] (h3.psh (.loop .ready none (toL 70 ρ) [8,9] a54_2 b54_5)) fun _ h2 => h2.get h3.size = some (.loop .ready none (toL 70 ρ) [8,9] a54_2 b54_5) ∧ Ob h.size h2 b3 (F4 ws) ∧ Kp h h2 := by
 have kL : Kp h3 (h3.psh (.loop .ready none (toL 70 ρ) [8,9] a54_2 b54_5)) := Keeps.psh (Nat.le_refl _) _
 have glL := psh_same h3 (.loop .ready none (toL 70 ρ) [8,9] a54_2 b54_5)
 have hbs : b3 < h3.size := by obtain ⟨ov,g,_⟩ := ob.ex; exact H.get_lt g
 have hlb : h3.size ≠ b3 := by omega
 have nx : bx ≠ b3 := ob.ne gx (by intro ov e; simp at e)
 have n2 : b2 ≠ b3 := ob.ne g2 (by intro ov e; simp at e)
 refine Sp.mono (pairs71 F (bx := b2) (lv := lv) hv.len (Inv := fun r h' => KB b3 (h3.psh (.loop .ready none (toL 70 ρ) [8,9] a54_2 b54_5)) h' ∧ Kp h h' ∧ ∃ fs,Ob h.size h' b3 fs ∧ fs ++ r.flatMap (f4 ws) = F4 ws) ?_ ?_ ?_) ?_
 ·rintro r h1 ⟨kb,k1,_⟩
  exact ⟨⟨22,kb.get _ _ (kL.of g2) n2 (by intro vs e; simp at e)⟩,(hv.keep k1).sl⟩
 ·rintro a b r h1 ha hb _ _ ⟨kb,k1,fs,o1,e1⟩
  rw [List.flatMap_cons,← List.append_assoc] at e1
  have hgl : (fs ++ f4 ws (a,b)).length ≤ 1099511627775 := by
   have := congrArg List.length e1
   rw [List.length_append] at this
   omega
  refine Sp.mono (pair54 F G hv ha hb w1 w3 glL (kL.of gx) hlb nx kk.size kb o1 k1 hgl) ?_
  rintro v h2 ⟨rfl,kb2,o2,k2⟩
  exact ⟨rfl,kb2,k2,_,o2,e1⟩
 ·exact ⟨KB.refl _ _,Kp.trans kk kL,[],ob.kb kL,rfl⟩
 ·rintro _ h2 ⟨kb,k1,gs,o1,e1⟩
  simp only [List.flatMap_nil,List.append_nil] at e1
  subst e1
  exact ⟨kb.get _ _ glL hlb (by intro vs e; cases e),o1,k1⟩
set_option maxHeartbeats 1000000 in
theorem unlike54 (F : Ff E) (G : Fa E) {h : H} {lv : V} {ws : List WV} (hv : VsIn h lv ws) (hlen : (F4 ws).length ≤ 1099511627775) : Sp P E (.func 54 [] []) [lv] h fun v h' => Acc h' h.size 30 4 v ((F4 ws).map Flaw.cells) ∧ Kp h h' := by
 have hv0 := hv
 obtain ⟨sa,sc,so,hlv⟩ := hv.sl.len
 rw [List.length_map] at hlv
 rw [hlv] at hv
 have k1 : Kp h (h.psh (.cells [lv] 22 false false none)) := Keeps.psh (Nat.le_refl _) _
 have g1 := psh_same h (.cells [lv] 22 false false none)
 have s1 := psh_size h (.cells [lv] 22 false false none)
 refine Sp_fn F.f54 F.p54 (by simp [fn54]) ?_
 rw [hlv] at g1 k1 s1 ⊢
 simp only [GR,evK,binV,intOp,strOp,shOp,unV,Nat.reduceLT,Nat.reduceEqDiff,Nat.reduceAdd,↓reduceIte,Nat.reduceLeDiff,reduceCtorEq,fn54,c54,r54_0]
 generalize h.psh (.cells [.slice sa ws.length sc so] 22 false false none) = h1 at *
 have k2 : Kp h1 (h1.psh (.cells [.slice none 0 0 false] 24 false false none)) := Keeps.psh (Nat.le_refl _) _
 have g2 := psh_same h1 (.cells [.slice none 0 0 false] 24 false false none)
 have s2 := psh_size h1 (.cells [.slice none 0 0 false] 24 false false none)
 have g12 := k2.of g1
 generalize h1.psh (.cells [.slice none 0 0 false] 24 false false none) = h2 at *
 simp only [GR,evK,binV,intOp,strOp,shOp,unV,Nat.reduceLT,Nat.reduceEqDiff,Nat.reduceAdd,↓reduceIte,Nat.reduceLeDiff,reduceCtorEq,r54_1,g12]
 refine XC_of (pairs64 (P := P) F sa ws.length sc so h2) ?_
 rintro _ hx ⟨rfl,e2⟩
 rw [e2]
 clear e2 hx
 have k3 : Kp h2 (h2.psh (.cells [.slice sa ws.length sc so] 22 false false none)) := Keeps.psh (Nat.le_refl _) _
 have g3 := psh_same h2 (.cells [.slice sa ws.length sc so] 22 false false none)
 generalize h2.psh (.cells [.slice sa ws.length sc so] 22 false false none) = h3 at *
 simp only [GR,evK,binV,intOp,strOp,shOp,unV,Nat.reduceLT,Nat.reduceEqDiff,Nat.reduceAdd,↓reduceIte,Nat.reduceLeDiff,reduceCtorEq]
 have ob3 : Ob h.size h3 h1.size [] := ⟨⟨_,k3.of g2,Acc.nil _ _ _ _⟩,by omega⟩
 refine X_range (by rw [ev_t (by decide)]; rfl) rfl ?_
 refine Sp.mono (outer54 F G hv (b3 := h1.size) (bx := h.size) ?_ ?_ (k3.of g12) g3 ob3 (Kp.trans k1 (Kp.trans k2 k3)) hlen) ?_
 ·rfl
 ·rfl
 rintro _ h4 ⟨gl,ob4,kk4⟩
 refine ⟨_,_,_,_,_,_,gl,by decide,fun oe hoe => ?_⟩
 simp only
 have ob5 := ob4.set gl (by intro _ _ _ _ _ e; cases e) oe
 have kk5 : Kp h (h4.set h3.size oe) := Keeps.trans kk4 (Keeps.set (H.get_lt gl) (by have := (Kp.trans k1 (Kp.trans k2 k3)).size; omega) oe)
 generalize h4.set h3.size oe = h5 at *
 obtain ⟨ov,go,acc⟩ := ob5.ex
 simp only [GR,evK,binV,intOp,strOp,shOp,unV,Nat.reduceLT,Nat.reduceEqDiff,Nat.reduceAdd,↓reduceIte,Nat.reduceLeDiff,reduceCtorEq,r54_6,go]
 exact ⟨acc,kk5⟩
def FromE (P : Program) (E : Env) : Prop := ∀ {h : H} {lv : V} {ns : List (TNode × DNode)},Sl h 4 lv (ns.map fun p => p.1.cells) → (∀ p ∈ ns,NIn h p.1 p.2) → ns.length ≤ 1048576 → Sp P E (.func 67 [] []) [lv] h fun v h' => v = .tup [.junk,.int .i64 (codeT (ns.map (·.2)))] ∧ h' = h
noncomputable def f3 (ws : List WV) (a : Nat) : List Flaw := match ws[a]? with
 | some A => if A.x.up && !okT (A.ns.map (·.2)) then [⟨3,a,0,0⟩] else []
 | none => []
noncomputable def F3 (ws : List WV) : List Flaw := (List.range ws.length).flatMap (f3 ws)
theorem f3_at {ws : List WV} {a : Nat} (ha : a < ws.length) : f3 ws a = if ws[a].x.up && !okT (ws[a].ns.map (·.2)) then [⟨3,a,0,0⟩] else [] := by simp [f3,ha]
theorem range_step {α : Type} (f : Nat → List α) (k : Nat) : (List.range (k + 1)).flatMap f = (List.range k).flatMap f ++ f k := by
 rw [List.range_succ,List.flatMap_append]; simp
theorem range_pre {α : Type} (f : Nat → List α) (k : Nat) : ∀ m,(List.range k).flatMap f <+: (List.range (k + m)).flatMap f
 | 0 => List.prefix_refl _
 | m + 1 => by
  rw [← Nat.add_assoc,range_step]
  exact (range_pre f k m).trans (List.prefix_append _ _)
theorem Acc.flaw {h : H} {lo : Nat} {ov : V} {fs : List Flaw} (a : Acc h lo 30 4 ov (fs.map Flaw.cells)) (hlo : lo ≤ h.size) (hl : fs.length ≤ 1099511627775) (f : Flaw) :
  ∃ v' h',appV (h.psh (.cells f.cells 30 false false none)) 30 4 32 ov (.slice (some (h.size,0)) 1 1 false) = some (.eff v' h') ∧ Acc h' lo 30 4 v' ((fs ++ [f]).map Flaw.cells) ∧ Keeps lo h h' ∧ (∀ i o,h.get i = some o → (∀ vs,o ≠ .cells vs 30 true false none) → h'.get i = some o) := by
 have k7 : Kp h (h.psh (.cells f.cells 30 false false none)) := Keeps.psh (Nat.le_refl _) _
 have hs7 := psh_size h (.cells f.cells 30 false false none)
 have he := elems_psh (h := h) (cs := f.cells) (ty := 30) (sz := 4) rfl (by decide)
 obtain ⟨v',h1,e1,e2,e3,_,hs1,e4⟩ := app_fr (ys := [f.cells]) (bytes := 32) (x := .slice (some (h.size,0)) 1 1 false) (a.keep k7) (by omega) rfl (by simpa using he) (by intro y hy; rw [List.mem_singleton.1 hy]; exact ⟨rfl,rfl⟩) (by rw [List.length_map]; simp only [List.length_singleton]; omega)
 exact ⟨v',h1,e1,by rw [List.map_append]; exact e2,Keeps.trans (n := lo) (k7.mono hlo) e3,fun i o hg hn => e4 i o (k7.of hg) hn⟩
set_option maxHeartbeats 4000000 in
theorem noTrees53 (F : Ff E) (hfrom : FromE P E) {h0 : H} {lv : V} {ws : List WV} (hv : VsIn h0 lv ws) (hlen : (F3 ws).length ≤ 1099511627775) : Sp P E (.func 53 [] []) [lv] h0 fun v h' => Acc h' h0.size 30 4 v ((F3 ws).map Flaw.cells) ∧ Kp h0 h' := by
 obtain ⟨sa,sc,so,hlv⟩ := hv.sl.len
 rw [List.length_map] at hlv
 have hm := hv.len
 have loop : ∀ (d k : Nat) (ρ : Nat → V) (h : H) (ov : V),ws.length - k = d → k ≤ ws.length → ρ 8 = lv → ρ 9 = .int .i64 ws.length → ρ 10 = .int .i64 k → ρ 3 = ov → Acc h h0.size 30 4 ov (((List.range k).flatMap (f3 ws)).map Flaw.cells) → Kp h0 h →
   XL P E none 34 b53_6 [.b 0,.c (.seq (.region r53_7) (.ret))] ρ h (Fin [.t 2] fun v h' => Acc h' h0.size 30 4 v ((F3 ws).map Flaw.cells) ∧ Kp h0 h') := by
  intro d
  induction d with
  | zero =>
   intro k ρ h ov hd hk q8 q9 q10 q3 acc kk
   have hke : ¬ k < ws.length := by omega
   have hkk : k = ws.length := by omega
   subst hkk
   rw [u53_6]
   simp only [GR,evK,binV,intOp,strOp,shOp,unV,Nat.reduceLT,Nat.reduceEqDiff,Nat.reduceAdd,↓reduceIte,Nat.reduceLeDiff,reduceCtorEq,q9,q10,Int.ofNat_lt,hke,r53_7,q3]
   exact ⟨acc,kk⟩
  | succ d ih =>
   intro k ρ h ov hd hk q8 q9 q10 q3 acc kk
   have hke : k < ws.length := by omega
   have hvh := hv.keep kk
   obtain ⟨b,o,cap,opn,cs,ty,op,ro,fz,va,hg,hll,he,hn⟩ := view_nth hvh.sl hke
   have q8' : ρ 8 = V.slice (some (b,o)) ws.length cap opn := by rw [q8,va]
   have wA := hvh.ins _ (List.getElem_mem hke)
   have fv : ∀ z : View,z.cells.length = 21 := fun _ => rfl
   obtain ⟨h3,e3,g3,k3,z3⟩ := put_fresh h (vs := View.zero.cells) (ws := ws[k].x.cells) (ty := 63) rfl wA.one rfl
   have w3 := wA.keep k3
   have kk3 := Kp.trans kk k3
   obtain ⟨na,nc,no,hnv⟩ := w3.nodes.len
   have g19 : ws[k].x.cells[19]? = some ws[k].x.nodes := View.g19 _
   have g2 : ws[k].x.cells[2]? = some (.bool ws[k].x.up) := View.g2 _
   have hw : IntKind.i64.wrap ((k : Int) + 1) = ((k + 1 : Nat) : Int) := wrap_nat (n := k + 1) (by omega)
   have hel := fv ws[k].x
   have sp := hfrom w3.nodes w3.nds w3.nlen
   have hf3 := f3_at hke
   have hstep := range_step (f3 ws) k
   unfold getR at he
   generalize hxc : ws[k].x.cells = xc at *
   simp only [View.zero,View.cells] at e3
   rw [u53_6]
   simp only [GR,evK,binV,intOp,strOp,shOp,unV,Nat.reduceLT,Nat.reduceEqDiff,Nat.reduceAdd,↓reduceIte,Nat.reduceLeDiff,reduceCtorEq,q9,q10,Int.ofNat_lt,hke,r53_1,q8',Int.natCast_nonneg,Int.toNat_natCast,hg,hll,he,hel,e3,r53_2,g3,g19]
   refine XC_of sp ?_
   rintro _ hx ⟨rfl,e2⟩
   rw [e2]
   clear e2 hx
   have next : ∀ (ρ2 : Nat → V) (h4 : H) (ov2 : V),ρ2 8 = lv → ρ2 9 = .int .i64 ws.length → ρ2 10 = .int .i64 k → ρ2 3 = ov2 → Acc h4 h0.size 30 4 ov2 (((List.range (k + 1)).flatMap (f3 ws)).map Flaw.cells) → Kp h0 h4 → XO P E none 34 r53_5 [.l b53_6,.b 0,.c (.seq (.region r53_7) (.ret))] ρ2 h4 (Fin [.t 2] fun v h' => Acc h' h0.size 30 4 v ((F3 ws).map Flaw.cells) ∧ Kp h0 h') := by
    intro ρ2 h4 ov2 y8 y9 y10 y3 acc2 kk2
    simp only [GR,evK,binV,intOp,strOp,shOp,unV,Nat.reduceLT,Nat.reduceEqDiff,Nat.reduceAdd,↓reduceIte,Nat.reduceLeDiff,reduceCtorEq,r53_5,y10,hw]
    refine ih (k + 1) _ h4 ov2 (by omega) (by omega) ?_ ?_ ?_ ?_ acc2 kk2
    ·exact y8
    ·exact y9
    ·rfl
    ·exact y3
   cases hup : ws[k].x.up with
   | false =>
    rw [hup] at g2 hf3
    simp only [Bool.false_and,Bool.false_eq_true,if_false] at hf3
    rw [hf3,List.append_nil] at hstep
    simp only [GR,evK,binV,intOp,strOp,shOp,unV,Nat.reduceLT,Nat.reduceEqDiff,Nat.reduceAdd,↓reduceIte,Nat.reduceLeDiff,reduceCtorEq,r53_3,g3,g2]
    refine next _ h3 ov ?_ ?_ ?_ ?_ (by rw [hstep]; exact acc.keep k3) kk3
    ·exact q8
    ·exact q9
    ·exact q10
    ·exact q3
   | true =>
    rw [hup] at g2 hf3
    cases hok : okT (ws[k].ns.map (·.2)) with
    | true =>
     rw [hok] at hf3
     simp only [Bool.not_true,Bool.and_false,Bool.false_eq_true,if_false] at hf3
     rw [hf3,List.append_nil] at hstep
     have hc : codeT (ws[k].ns.map (·.2)) = 0 := by simp [codeT,hok]
     have hn0 : ((0 : Int) != 0) = false := rfl
     simp only [GR,evK,binV,intOp,strOp,shOp,unV,Nat.reduceLT,Nat.reduceEqDiff,Nat.reduceAdd,↓reduceIte,Nat.reduceLeDiff,reduceCtorEq,r53_3,g3,g2,hc,hn0]
     refine next _ h3 ov ?_ ?_ ?_ ?_ (by rw [hstep]; exact acc.keep k3) kk3
     ·exact q8
     ·exact q9
     ·exact q10
     ·exact q3
    | false =>
     rw [hok] at hf3
     simp only [Bool.not_false,Bool.and_self,if_true] at hf3
     rw [hf3] at hstep
     have hc : codeT (ws[k].ns.map (·.2)) = 121 := by simp [codeT,hok]
     have hn1 : ((121 : Int) != 0) = true := rfl
     have hlenk : ((List.range k).flatMap (f3 ws)).length ≤ 1099511627775 := by
      have : (List.range k).flatMap (f3 ws) <+: F3 ws := by
       have := range_pre (f3 ws) k (ws.length - k)
       rw [show k + (ws.length - k) = ws.length by omega] at this
       exact this
      exact Nat.le_trans this.length_le hlen
     obtain ⟨v',h4,e4,acc4,k4,fr4⟩ := Acc.flaw (acc.keep k3) (by have := kk3.size; omega) hlenk ⟨3,k,0,0⟩
     have hfc : (Flaw.mk 3 k 0 0).cells = [.int .i64 3,.int .i64 k,.int .i64 0,.int .i64 0] := rfl
     rw [hfc] at e4
     have hd0 : List.drop 2 [V.int .i64 0,.int .i64 0,.int .i64 0,.int .i64 0] = [.int .i64 0,.int .i64 0] := rfl
     have hd1 : List.drop 4 [V.int .i64 0,.int .i64 0,.int .i64 0,.int .i64 0] = [] := rfl
     simp only [GR,evK,binV,intOp,strOp,shOp,unV,Nat.reduceLT,Nat.reduceEqDiff,Nat.reduceAdd,↓reduceIte,Nat.reduceLeDiff,reduceCtorEq,r53_3,g3,g2,hc,hn1,r53_4,q3,hd0,hd1,e4]
     refine next _ h4 v' ?_ ?_ ?_ ?_ (by rw [hstep]; exact acc4) (Keeps.trans kk3 k4)
     ·exact q8
     ·exact q9
     ·exact q10
     ·rfl
 refine Sp_fn F.f53 F.p53 (by simp [fn53]) ?_
 simp only [GR,evK,binV,intOp,strOp,shOp,unV,Nat.reduceLT,Nat.reduceEqDiff,Nat.reduceAdd,↓reduceIte,Nat.reduceLeDiff,reduceCtorEq,fn53,c53,r53_0,hlv]
 refine loop ws.length 0 _ h0 _ rfl (Nat.zero_le _) ?_ ?_ ?_ ?_ (Acc.nil _ _ _ _) (Keeps.refl _ _)
 ·exact hlv.symm
 ·rfl
 ·rfl
 ·rfl
def vecAt (v : Vec) (g : Nat) : Int := match g with
 | 0 => v.v0 | 1 => v.v1 | 2 => v.v2 | 3 => v.v3 | 4 => v.v4 | 5 => v.v5 | 6 => v.v6 | _ => v.v7
theorem vec_cell (x : View) {g : Nat} (hg : g < 8) : x.cells[11 + g]? = some (.int .i64 (vecAt x.vector g)) := by
 match g,hg with
 | 0,_ => rfl | 1,_ => rfl | 2,_ => rfl | 3,_ => rfl | 4,_ => rfl | 5,_ => rfl | 6,_ => rfl | 7,_ => rfl
theorem siteB_iff {n : Int} : siteB n = true ↔ 0 ≤ n ∧ n < 8 := by simp [siteB]
def yB (A : View) (g : Int) (y : WV) : Bool := y.x.up && y.x.booted && y.x.at_.group == g && decide (vecAt A.vector g.toNat ≤ vecAt y.x.vector g.toNat)
def anyY (ws : List WV) (A : View) (g : Int) : Bool := ws.any (yB A g)
set_option maxHeartbeats 4000000 in
theorem loop11 (F : Ff E) {h0 : H} {lv : V} {ws : List WV} (hv : VsIn h0 lv ws) {A : View} {g : Int} (hg : siteB g = true) {bv : Nat} (gA : h0.get bv = some (.cells A.cells 63 false false none)) {ρ0 : Nat → V} (w5 : ρ0 5 = .ptr (some (bv,0))) (w9 : ρ0 9 = .int .i64 g) {K : List Fr} {Q : Po}
  (contN : anyY ws A g = false → ∀ (ρ' : Nat → V) (h' : H),(∀ i,i < 62 → i ≠ 11 → ρ' i = ρ0 i) → Kp h0 h' → X P E none 104 K ρ' h' Q)
  (contY : anyY ws A g = true → ∀ (ρ' : Nat → V) (h' : H),(∀ i,i < 62 → i ≠ 11 → ρ' i = ρ0 i) → Kp h0 h' → XQ P E none 104 (.exit 3) K ρ' h' Q) :
  ∀ (d k : Nat) (ρ : Nat → V) (h : H),ws.length - k = d → k ≤ ws.length → (∀ i,i < 62 → i ≠ 11 → ρ i = ρ0 i) → ρ 62 = lv → ρ 63 = .int .i64 ws.length → ρ 64 = .int .i64 k → (ws.take k).any (yB A g) = false → Kp h0 h →
   XL P E none 104 b55_11 (.b 4 :: K) ρ h Q := by
 obtain ⟨hg0,hg8⟩ := siteB_iff.1 hg
 obtain ⟨gn,hgn⟩ : ∃ gn : Nat,g = gn := ⟨g.toNat,by omega⟩
 have hgn8 : gn < 8 := by omega
 have hm := hv.len
 intro d
 induction d with
 | zero =>
  intro k ρ h hd hk agr q62 q63 q64 hn kk
  have hke : ¬ k < ws.length := by omega
  rw [List.take_of_length_le (by omega)] at hn
  rw [u55_11]
  simp only [GR,evK,binV,intOp,strOp,shOp,unV,Nat.reduceLT,Nat.reduceEqDiff,Nat.reduceAdd,↓reduceIte,Nat.reduceLeDiff,reduceCtorEq,q63,q64,Int.ofNat_lt,hke]
  refine contN hn _ h ?_ kk
  intro i hi h11
  rw [up_app,if_neg (by omega)]; exact agr i hi h11
 | succ d ih =>
  intro k ρ h hd hk agr q62 q63 q64 hn kk
  have hke : k < ws.length := by omega
  have hvh := hv.keep kk
  obtain ⟨b,o,cap,opn,cs,ty,op,ro,fz,va,hgb,hll,he,hnn⟩ := view_nth hvh.sl hke
  have q62' : ρ 62 = V.slice (some (b,o)) ws.length cap opn := by rw [q62,va]
  have wY := hvh.ins _ (List.getElem_mem hke)
  obtain ⟨h3,e3,g3,k3,z3⟩ := put_fresh h (vs := View.zero.cells) (ws := ws[k].x.cells) (ty := 63) rfl wY.one rfl
  have gA3 := (Kp.trans kk k3).of gA
  have kk3 := Kp.trans kk k3
  have c0 : ws[k].x.cells[0]? = some (.int .i64 ws[k].x.at_.group) := View.g0 _
  have c2 : ws[k].x.cells[2]? = some (.bool ws[k].x.up) := View.g2 _
  have c4 : ws[k].x.cells[4]? = some (.bool ws[k].x.booted) := View.g4 _
  have cv : ws[k].x.cells[11 + gn]? = some (.int .i64 (vecAt ws[k].x.vector gn)) := vec_cell _ hgn8
  have cA : A.cells[11 + gn]? = some (.int .i64 (vecAt A.vector gn)) := vec_cell _ hgn8
  have q5 := (agr 5 (by omega) (by omega)).trans w5
  have q9 := (agr 9 (by omega) (by omega)).trans w9
  rw [hgn] at q9
  have hw : IntKind.i64.wrap ((k : Int) + 1) = ((k + 1 : Nat) : Int) := wrap_nat (n := k + 1) (by omega)
  have hel : ws[k].x.cells.length = 21 := rfl
  have hyb : (ws.take (k + 1)).any (yB A g) = yB A g ws[k] := by
   rw [List.take_succ_eq_append_getElem hke,List.any_append,hn]; simp
  have hyd : yB A g ws[k] = (ws[k].x.up && ws[k].x.booted && ws[k].x.at_.group == (gn : Int) && decide (vecAt A.vector gn ≤ vecAt ws[k].x.vector gn)) := by
   rw [hgn]; rfl
  have hgl : ((gn : Int) < 8) = True := by simp; omega
  unfold getR at he
  have next : (ws.take (k + 1)).any (yB A g) = false → ∀ ρ2 : Nat → V,(∀ i,i < 62 → i ≠ 11 → ρ2 i = ρ i) → ρ2 62 = ρ 62 → ρ2 63 = ρ 63 → ρ2 64 = ρ 64 → XO P E none 104 r55_10 (.l b55_11 :: .b 4 :: K) ρ2 h3 Q := by
   intro hn2 ρ2 a2 y62 y63 y64
   have y64' := y64.trans q64
   simp only [GR,evK,binV,intOp,strOp,shOp,unV,Nat.reduceLT,Nat.reduceEqDiff,Nat.reduceAdd,↓reduceIte,Nat.reduceLeDiff,reduceCtorEq,r55_10,y64',hw]
   refine ih (k + 1) _ h3 (by omega) (by omega) ?_ ?_ ?_ ?_ hn2 kk3
   ·intro i hi h11
    simp only [up_app]
    rw [if_neg (by omega),if_neg (by omega),a2 i hi h11,agr i hi h11]
   ·exact y62.trans q62
   ·exact y63.trans q63
   ·rfl
  generalize hxc : ws[k].x.cells = xc at *
  simp only [View.zero,View.cells] at e3
  rw [u55_11]
  simp only [GR,evK,binV,intOp,strOp,shOp,unV,Nat.reduceLT,Nat.reduceEqDiff,Nat.reduceAdd,↓reduceIte,Nat.reduceLeDiff,reduceCtorEq,q63,q64,Int.ofNat_lt,hke,r55_8,q62',Int.natCast_nonneg,Int.toNat_natCast,hgb,hll,he,hel,e3]
  rw [X_draw,d55_9]
  cases hup : ws[k].x.up with
  | false =>
   rw [hup] at c2 hyd
   simp only [GR,evK,binV,intOp,strOp,shOp,unV,Nat.reduceLT,Nat.reduceEqDiff,Nat.reduceAdd,↓reduceIte,Nat.reduceLeDiff,reduceCtorEq,r55_9,g3,c2]
   refine next (by rw [hyb,hyd]; simp) _ ?_ rfl rfl rfl
   intro i hi h11
   simp only [up_app]
   repeat rw [if_neg (by omega)]
  | true =>
  rw [hup] at c2 hyd
  cases hbo : ws[k].x.booted with
  | false =>
   rw [hbo] at c4 hyd
   simp only [GR,evK,binV,intOp,strOp,shOp,unV,Nat.reduceLT,Nat.reduceEqDiff,Nat.reduceAdd,↓reduceIte,Nat.reduceLeDiff,reduceCtorEq,r55_9,g3,c2,c4]
   refine next (by rw [hyb,hyd]; simp) _ ?_ rfl rfl rfl
   intro i hi h11
   simp only [up_app]
   repeat rw [if_neg (by omega)]
  | true =>
  rw [hbo] at c4 hyd
  cases hgr : ws[k].x.at_.group == (gn : Int) with
  | false =>
   rw [hgr] at hyd
   simp only [GR,evK,binV,intOp,strOp,shOp,unV,Nat.reduceLT,Nat.reduceEqDiff,Nat.reduceAdd,↓reduceIte,Nat.reduceLeDiff,reduceCtorEq,r55_9,g3,c2,c4,c0,q9,hgr]
   refine next (by rw [hyb,hyd]; simp) _ ?_ rfl rfl rfl
   intro i hi h11
   simp only [up_app]
   repeat rw [if_neg (by omega)]
  | true =>
  rw [hgr] at hyd
  by_cases hvc : vecAt A.vector gn ≤ vecAt ws[k].x.vector gn
  ·have hvc' : vecAt ws[k].x.vector gn ≥ vecAt A.vector gn := hvc
   have hany : anyY ws A g = true := by
    unfold anyY
    rw [List.any_eq_true]
    exact ⟨ws[k],List.getElem_mem hke,by rw [hyd]; simp [hvc]⟩
   simp only [GR,evK,binV,intOp,strOp,shOp,unV,Nat.reduceLT,Nat.reduceEqDiff,Nat.reduceAdd,↓reduceIte,Nat.reduceLeDiff,reduceCtorEq,r55_9,g3,c2,c4,c0,q9,hgr,Int.natCast_nonneg,Int.ofNat_lt,hgn8,Nat.mul_one,Int.toNat_natCast,q5,gA3,cv,cA,hvc',ge_iff_le,hvc]
   refine contY hany _ h3 ?_ kk3
   intro i hi h11
   simp only [up_app]
   repeat rw [if_neg (by omega)]
   exact agr i hi h11
  ·simp only [GR,evK,binV,intOp,strOp,shOp,unV,Nat.reduceLT,Nat.reduceEqDiff,Nat.reduceAdd,↓reduceIte,Nat.reduceLeDiff,reduceCtorEq,r55_9,g3,c2,c4,c0,q9,hgr,Int.natCast_nonneg,Int.ofNat_lt,hgn8,Nat.mul_one,Int.toNat_natCast,q5,gA3,cv,cA,ge_iff_le,hvc]
   refine next (by rw [hyb,hyd]; simp [hvc]) _ ?_ rfl rfl rfl
   intro i hi h11
   simp only [up_app]
   repeat rw [if_neg (by omega)]
def ahL (ws : List WV) (a : Nat) (A : View) : Nat → Nat → List Bool → List Flaw
 | 0,_,_ => []
 | d + 1,b,told => match ws[b]? with
  | none => []
  | some X => if !X.x.up || !X.x.booted || !siteB X.x.at_.group || A.at_.group == X.x.at_.group || told.getD X.x.at_.group.toNat false then ahL ws a A d (b + 1) told
   else if anyY ws A X.x.at_.group then ahL ws a A d (b + 1) told
   else ⟨5,a,b,0⟩ :: ahL ws a A d (b + 1) (told.set X.x.at_.group.toNat true)
theorem Acc.set_o {h : H} {lo : Nat} {ov : V} {xs : List (List V)} (a : Acc h lo 30 4 ov xs) {i : Nat} {o : Obj} (hg : h.get i = some o) (hn : ∀ vs,o ≠ .cells vs 30 true false none) (o' : Obj) : Acc (h.set i o') lo 30 4 ov xs := by
 refine ⟨?_,a.elem⟩
 rcases a.shape with h3 | ⟨b2,e1,e2,e3⟩
 ·exact .inl h3
 ·exact .inr ⟨b2,e1,e2,by rw [hset_other (H.get_lt hg) (by rintro rfl; rw [hg] at e3; cases e3; exact hn _ rfl)]; exact e3⟩
theorem setR_one : ∀ (l : List V) (g : Nat) (x : V),g < l.length → setR l g [x] = l.set g x
 | [],_,_,h => by simp at h
 | y :: l,0,x,_ => by simp [setR]
 | y :: l,g + 1,x,h => by
  have := setR_one l g x (by simpa using h)
  simp only [setR,List.length_singleton] at this ⊢
  simp only [List.take_succ_cons,List.set_cons_succ,← this]
  rw [show g + 1 + 1 = (g + 1) + 1 from rfl,List.drop_succ_cons]; rfl
set_option maxHeartbeats 8000000 in
theorem loop15 (F : Ff E) {h0 : H} {lv : V} {ws : List WV} (hv : VsIn h0 lv ws) {a : Nat} {A : View} {bv bt : Nat} {full : List Flaw} (hfull : full.length ≤ 1099511627775) (hbt : h0.size ≤ bt) {u12 u13 u14 : V} {K : List Fr} {Q : Po}
  (cont : ∀ (ρ' : Nat → V) (h' : H) (ov : V),ρ' 0 = lv → ρ' 3 = ov → ρ' 12 = u12 → ρ' 13 = u13 → ρ' 14 = u14 → Acc h' h0.size 30 4 ov (full.map Flaw.cells) → Kp h0 h' → X P E none 104 K ρ' h' Q) :
  ∀ (d b : Nat) (told : List Bool) (ov : V) (fs : List Flaw) (ρ : Nat → V) (h : H),ws.length - b = d → b ≤ ws.length → told.length = 8 → ρ 0 = lv → ρ 3 = ov → ρ 4 = .int .i64 a → ρ 5 = .ptr (some (bv,0)) → ρ 6 = .ptr (some (bt,0)) → ρ 12 = u12 → ρ 13 = u13 → ρ 14 = u14 → ρ 27 = lv → ρ 28 = .int .i64 ws.length → ρ 29 = .int .i64 b →
   h.get bv = some (.cells A.cells 63 false false none) → h.get bt = some (.cells (told.map V.bool) 125 false false none) → Acc h h0.size 30 4 ov (fs.map Flaw.cells) → Kp h0 h → fs ++ ahL ws a A d b told = full →
   XL P E none 104 b55_15 (.b 2 :: K) ρ h Q := by
 have hm := hv.len
 intro d
 induction d with
 | zero =>
  intro b told ov fs ρ h hd hb htl q0 q3 q4 q5 q6 q12 q13 q14 q27 q28 q29 gA gt acc kk hfs
  have hbe : ¬ b < ws.length := by omega
  simp only [ahL,List.append_nil] at hfs
  rw [u55_15]
  simp only [GR,evK,binV,intOp,strOp,shOp,unV,Nat.reduceLT,Nat.reduceEqDiff,Nat.reduceAdd,↓reduceIte,Nat.reduceLeDiff,reduceCtorEq,q28,q29,Int.ofNat_lt,hbe]
  refine cont _ h ov ?_ ?_ ?_ ?_ ?_ (by rw [← hfs]; exact acc) kk
  ·exact q0
  ·exact q3
  ·exact q12
  ·exact q13
  ·exact q14
 | succ d ih =>
  intro b told ov fs ρ h hd hb htl q0 q3 q4 q5 q6 q12 q13 q14 q27 q28 q29 gA gt acc kk hfs
  have hbe : b < ws.length := by omega
  have hvh := hv.keep kk
  obtain ⟨bb,o,cap,opn,cs,ty,op,ro,fz,va,hgb,hll,he,hnn⟩ := view_nth hvh.sl hbe
  have q27' : ρ 27 = V.slice (some (bb,o)) ws.length cap opn := by rw [q27,va]
  have wX := hvh.ins _ (List.getElem_mem hbe)
  obtain ⟨h3,e3,g3,k3,z3⟩ := put_fresh h (vs := View.zero.cells) (ws := ws[b].x.cells) (ty := 63) rfl wX.one rfl
  have kk3 := Kp.trans kk k3
  have gA3 := k3.of gA
  have gt3 := k3.of gt
  have acc3 := acc.keep k3
  have c0 : ws[b].x.cells[0]? = some (.int .i64 ws[b].x.at_.group) := View.g0 _
  have c2 : ws[b].x.cells[2]? = some (.bool ws[b].x.up) := View.g2 _
  have c4 : ws[b].x.cells[4]? = some (.bool ws[b].x.booted) := View.g4 _
  have cA0 : A.cells[0]? = some (.int .i64 A.at_.group) := View.g0 _
  have hw : IntKind.i64.wrap ((b : Int) + 1) = ((b + 1 : Nat) : Int) := wrap_nat (n := b + 1) (by omega)
  have hel : ws[b].x.cells.length = 21 := rfl
  have hpl : List.take 21 ws[b].x.cells = ws[b].x.cells := rfl
  have sp := isSite66 (P := P) F (x := ws[b].x) (h := h3)
  simp only [ahL,List.getElem?_eq_getElem hbe] at hfs
  generalize hX : ws[b].x = x at *
  unfold getR at he
  -- on to the next one
  have next : ∀ (told2 : List Bool) (ov2 : V) (fs2 : List Flaw) (ρ2 : Nat → V) (h4 : H),told2.length = 8 → ρ2 0 = lv → ρ2 3 = ov2 → ρ2 4 = .int .i64 a → ρ2 5 = .ptr (some (bv,0)) → ρ2 6 = .ptr (some (bt,0)) → ρ2 12 = u12 → ρ2 13 = u13 → ρ2 14 = u14 → ρ2 27 = lv → ρ2 28 = .int .i64 ws.length → ρ2 29 = .int .i64 b →
    h4.get bv = some (.cells A.cells 63 false false none) → h4.get bt = some (.cells (told2.map V.bool) 125 false false none) → Acc h4 h0.size 30 4 ov2 (fs2.map Flaw.cells) → Kp h0 h4 → fs2 ++ ahL ws a A d (b + 1) told2 = full →
    XO P E none 104 r55_14 (.l b55_15 :: .b 2 :: K) ρ2 h4 Q := by
   intro told2 ov2 fs2 ρ2 h4 y y0 y3 y4 y5 y6 y12 y13 y14 y27 y28 y29 ga4 gt4 acc4 kk4 hf4
   simp only [GR,evK,binV,intOp,strOp,shOp,unV,Nat.reduceLT,Nat.reduceEqDiff,Nat.reduceAdd,↓reduceIte,Nat.reduceLeDiff,reduceCtorEq,r55_14,y29,hw]
   refine ih (b + 1) told2 ov2 fs2 _ h4 (by omega) (by omega) y ?_ ?_ ?_ ?_ ?_ ?_ ?_ ?_ ?_ ?_ ?_ ga4 gt4 acc4 kk4 hf4
   ·exact y0
   ·exact y3
   ·exact y4
   ·exact y5
   ·exact y6
   ·exact y12
   ·exact y13
   ·exact y14
   ·exact y27
   ·exact y28
   ·rfl
  have skip : (!x.up || !x.booted || !siteB x.at_.group || A.at_.group == x.at_.group || told.getD x.at_.group.toNat false) = true → ∀ (ρ2 : Nat → V) (h4 : H),(∀ i,i < 30 → i ≠ 7 → i ≠ 8 → i ≠ 9 → ρ2 i = ρ i) → Kp h3 h4 → XO P E none 104 r55_14 (.l b55_15 :: .b 2 :: K) ρ2 h4 Q := by
   intro hs ρ2 h4 agr k4
   rw [if_pos hs] at hfs
   have ag : ∀ {i v},i < 30 → i ≠ 7 → i ≠ 8 → i ≠ 9 → ρ i = v → ρ2 i = v := fun {i v} a1 a2 a3 a4 e => (agr i a1 a2 a3 a4).trans e
   exact next told ov fs ρ2 h4 htl (ag (by omega) (by omega) (by omega) (by omega) q0) (ag (by omega) (by omega) (by omega) (by omega) q3) (ag (by omega) (by omega) (by omega) (by omega) q4) (ag (by omega) (by omega) (by omega) (by omega) q5) (ag (by omega) (by omega) (by omega) (by omega) q6) (ag (by omega) (by omega) (by omega) (by omega) q12) (ag (by omega) (by omega) (by omega) (by omega) q13) (ag (by omega) (by omega) (by omega) (by omega) q14) (ag (by omega) (by omega) (by omega) (by omega) q27) (ag (by omega) (by omega) (by omega) (by omega) q28) (ag (by omega) (by omega) (by omega) (by omega) q29) (k4.of gA3) (k4.of gt3) (acc3.keep k4) (Kp.trans kk3 k4) hfs
  generalize hxc : x.cells = xc at *
  simp only [View.zero,View.cells] at e3
  rw [u55_15]
  simp only [GR,evK,binV,intOp,strOp,shOp,unV,Nat.reduceLT,Nat.reduceEqDiff,Nat.reduceAdd,↓reduceIte,Nat.reduceLeDiff,reduceCtorEq,q28,q29,Int.ofNat_lt,hbe,r55_4,q27',Int.natCast_nonneg,Int.toNat_natCast,hgb,hll,he,hel,e3,r55_5,g3,c0]
  cases hup : x.up with
  | false =>
   rw [hup] at c2
   simp only [GR,evK,binV,intOp,strOp,shOp,unV,Nat.reduceLT,Nat.reduceEqDiff,Nat.reduceAdd,↓reduceIte,Nat.reduceLeDiff,reduceCtorEq,r55_6,g3,c2]
   refine skip (by simp [hup]) _ h3 ?_ (Keeps.refl _ _)
   intro i h1 h2 h3 h4
   simp only [up_app]
   repeat rw [if_neg (by omega)]
  | true =>
  rw [hup] at c2
  cases hbo : x.booted with
  | false =>
   rw [hbo] at c4
   simp only [GR,evK,binV,intOp,strOp,shOp,unV,Nat.reduceLT,Nat.reduceEqDiff,Nat.reduceAdd,↓reduceIte,Nat.reduceLeDiff,reduceCtorEq,r55_6,g3,c2,c4]
   refine skip (by simp [hup,hbo]) _ h3 ?_ (Keeps.refl _ _)
   intro i h1 h2 h3 h4
   simp only [up_app]
   repeat rw [if_neg (by omega)]
  | true =>
  rw [hbo] at c4
  simp only [GR,evK,binV,intOp,strOp,shOp,unV,Nat.reduceLT,Nat.reduceEqDiff,Nat.reduceAdd,↓reduceIte,Nat.reduceLeDiff,reduceCtorEq,r55_6,g3,c2,c4,hel,hpl]
  refine XC_of sp ?_
  rintro _ h4 ⟨rfl,k4⟩
  cases hst : siteB x.at_.group with
  | false =>
   simp only [GR,evK,binV,intOp,strOp,shOp,unV,Nat.reduceLT,Nat.reduceEqDiff,Nat.reduceAdd,↓reduceIte,Nat.reduceLeDiff,reduceCtorEq]
   refine skip (by simp [hup,hbo,hst]) _ h4 ?_ k4
   intro i h1 h2 h3 h4
   simp only [up_app]
   repeat rw [if_neg (by omega)]
  | true =>
  obtain ⟨hg0,hg8⟩ := siteB_iff.1 hst
  obtain ⟨gn,hgn⟩ : ∃ gn : Nat,x.at_.group = gn := ⟨x.at_.group.toNat,by omega⟩
  have hgn8 : gn < 8 := by omega
  cases hgq : A.at_.group == x.at_.group with
  | true =>
   simp only [GR,evK,binV,intOp,strOp,shOp,unV,Nat.reduceLT,Nat.reduceEqDiff,Nat.reduceAdd,↓reduceIte,Nat.reduceLeDiff,reduceCtorEq,q5,k4.of gA3,cA0,hgq]
   refine skip (by simp [hup,hbo,hst,hgq]) _ h4 ?_ k4
   intro i h1 h2 h3 h4
   simp only [up_app]
   repeat rw [if_neg (by omega)]
  | false =>
  have gt4 := k4.of gt3
  have hgq' : (A.at_.group == (gn : Int)) = false := by rw [← hgn]; exact hgq
  have htg : (told.map V.bool)[gn]? = some (.bool (told.getD gn false)) := by
   have : gn < told.length := by omega
   simp [this]
  cases htd : told.getD gn false with
  | true =>
   rw [htd] at htg
   simp only [GR,evK,binV,intOp,strOp,shOp,unV,Nat.reduceLT,Nat.reduceEqDiff,Nat.reduceAdd,↓reduceIte,Nat.reduceLeDiff,reduceCtorEq,q5,k4.of gA3,cA0,hgn,hgq',q6,Int.natCast_nonneg,Int.ofNat_lt,hgn8,Nat.mul_one,Int.toNat_natCast,Nat.zero_add,gt4,htg]
   refine skip (by rw [hgn,Int.toNat_natCast,htd]; simp) _ h4 ?_ k4
   intro i h1 h2 h3 h4
   simp only [up_app]
   repeat rw [if_neg (by omega)]
  | false =>
  rw [htd] at htg
  have hcond : (!x.up || !x.booted || !siteB x.at_.group || A.at_.group == x.at_.group || told.getD x.at_.group.toNat false) = false := by
   rw [hup,hbo,hst,hgq,hgn,Int.toNat_natCast,htd]; rfl
  have kk4 := Kp.trans kk3 k4
  have key : ∀ ρ1 : Nat → V,ρ1 0 = lv → ρ1 3 = ov → ρ1 4 = .int .i64 a → ρ1 5 = .ptr (some (bv,0)) → ρ1 6 = .ptr (some (bt,0)) → ρ1 7 = .int .i64 b → ρ1 9 = .int .i64 gn → ρ1 12 = u12 → ρ1 13 = u13 → ρ1 14 = u14 → ρ1 27 = lv → ρ1 28 = .int .i64 ws.length → ρ1 29 = .int .i64 b → ρ1 62 = lv → ρ1 63 = .int .i64 ws.length → ρ1 64 = .int .i64 (0 : Nat) →
    XL P E none 104 b55_11 (.b 4 :: .c (.seq (.region r55_12) (.region r55_13)) :: .b 3 :: .c (.region r55_14) :: .l b55_15 :: .b 2 :: K) ρ1 h4 Q := by
   intro ρ1 x0 x3 x4 x5 x6 x7 x9 x12 x13 x14 x27 x28 x29 x62 x63 x64
   have x9' : ρ1 9 = .int .i64 x.at_.group := by rw [hgn]; exact x9
   refine loop11 F (hv.keep kk4) hst (A := A) (k4.of gA3) (ρ0 := ρ1) x5 x9' ?_ ?_ _ 0 ρ1 h4 rfl (Nat.zero_le _) (fun _ _ _ => rfl) x62 x63 x64 (by simp) (Keeps.refl _ _)
   ·intro hany ρ2 h5 agr k5
    rw [if_neg (by rw [hcond]; simp),if_neg (by rw [hany]; simp)] at hfs
    have ag : ∀ {i v},i < 62 → i ≠ 11 → ρ1 i = v → ρ2 i = v := fun {i v} a1 a2 e => (agr i a1 a2).trans e
    have y3 := ag (by omega) (by omega) x3
    have y4 := ag (by omega) (by omega) x4
    have y6 := ag (by omega) (by omega) x6
    have y7 := ag (by omega) (by omega) x7
    have y9 := ag (by omega) (by omega) x9
    have gt5 := k5.of gt4
    have gA5 := k5.of (k4.of gA3)
    have kk5 := Kp.trans kk4 k5
    have acc5 := (acc3.keep k4).keep k5
    have hput : putCells h5 bt gn [.bool true] = some (h5.set bt (.cells ((told.set gn true).map V.bool) 125 false false none)) := by
     rw [put_at gt5 (by simp; omega) rfl rfl,setR_one _ _ _ (by simp; omega),List.map_set]
    have hlt := H.get_lt gt5
    have acc6 := Acc.set_o acc5 gt5 (by intro vs e; simp at e) (.cells ((told.set gn true).map V.bool) 125 false false none)
    have gt6 := hset_same hlt (.cells ((told.set gn true).map V.bool) 125 false false none)
    have hne : bt ≠ bv := by rintro rfl; rw [gA5] at gt5; simp at gt5
    have gA6 : (h5.set bt (.cells ((told.set gn true).map V.bool) 125 false false none)).get bv = some (.cells A.cells 63 false false none) := by
     rw [hset_other hlt hne]; exact gA5
    have kk6 : Kp h0 (h5.set bt (.cells ((told.set gn true).map V.bool) 125 false false none)) := Keeps.trans kk5 (Keeps.set hlt hbt _)
    generalize h5.set bt (.cells ((told.set gn true).map V.bool) 125 false false none) = h6 at *
    have hfl : fs.length ≤ 1099511627775 := by
     have := congrArg List.length hfs
     simp only [List.length_append,List.length_cons] at this
     omega
    obtain ⟨v',h7,e7,acc7,k7,fr7⟩ := Acc.flaw acc6 kk6.size hfl ⟨5,a,b,0⟩
    have hfc : (Flaw.mk 5 a b 0).cells = [.int .i64 5,.int .i64 a,.int .i64 b,.int .i64 0] := rfl
    rw [hfc] at e7
    have hd0 : List.drop 3 [V.int .i64 0,.int .i64 0,.int .i64 0,.int .i64 0] = [.int .i64 0] := rfl
    have hd1 : List.drop 4 [V.int .i64 0,.int .i64 0,.int .i64 0,.int .i64 0] = [] := rfl
    simp only [GR,evK,binV,intOp,strOp,shOp,unV,Nat.reduceLT,Nat.reduceEqDiff,Nat.reduceAdd,↓reduceIte,Nat.reduceLeDiff,reduceCtorEq,r55_12,y9,y6,Int.natCast_nonneg,Int.ofNat_lt,hgn8,Nat.mul_one,Int.toNat_natCast,Nat.zero_add,hput,r55_13,y3,y4,y7,hd0,hd1,e7]
    refine next (told.set gn true) v' (fs ++ [⟨5,a,b,0⟩]) _ h7 (by simp [htl]) ?_ ?_ ?_ ?_ ?_ ?_ ?_ ?_ ?_ ?_ ?_ (fr7 _ _ gA6 (by intro vs e; simp at e)) (fr7 _ _ gt6 (by intro vs e; simp at e)) acc7 (Keeps.trans kk6 k7) ?_
    ·exact ag (by omega) (by omega) x0
    ·rfl
    ·exact y4
    ·exact ag (by omega) (by omega) x5
    ·exact y6
    ·exact ag (by omega) (by omega) x12
    ·exact ag (by omega) (by omega) x13
    ·exact ag (by omega) (by omega) x14
    ·exact ag (by omega) (by omega) x27
    ·exact ag (by omega) (by omega) x28
    ·exact ag (by omega) (by omega) x29
    ·rw [← hfs,hgn,Int.toNat_natCast]; simp
   ·intro hany ρ2 h5 agr k5
    rw [if_neg (by rw [hcond]; simp),if_pos hany] at hfs
    have ag : ∀ {i v},i < 62 → i ≠ 11 → ρ1 i = v → ρ2 i = v := fun {i v} a1 a2 e => (agr i a1 a2).trans e
    simp only [GR,evK,binV,intOp,strOp,shOp,unV,Nat.reduceLT,Nat.reduceEqDiff,Nat.reduceAdd,↓reduceIte,Nat.reduceLeDiff,reduceCtorEq]
    exact next told ov fs _ h5 htl (ag (by omega) (by omega) x0) (ag (by omega) (by omega) x3) (ag (by omega) (by omega) x4) (ag (by omega) (by omega) x5) (ag (by omega) (by omega) x6) (ag (by omega) (by omega) x12) (ag (by omega) (by omega) x13) (ag (by omega) (by omega) x14) (ag (by omega) (by omega) x27) (ag (by omega) (by omega) x28) (ag (by omega) (by omega) x29) (k5.of (k4.of gA3)) (k5.of gt4) ((acc3.keep k4).keep k5) (Kp.trans kk4 k5) hfs
  obtain ⟨sa,sc,so,hlv⟩ := hv.sl.len
  rw [List.length_map] at hlv
  simp only [GR,evK,binV,intOp,strOp,shOp,unV,Nat.reduceLT,Nat.reduceEqDiff,Nat.reduceAdd,↓reduceIte,Nat.reduceLeDiff,reduceCtorEq,q5,k4.of gA3,cA0,hgn,hgq',q6,Int.natCast_nonneg,Int.ofNat_lt,hgn8,Nat.mul_one,Int.toNat_natCast,Nat.zero_add,gt4,htg,r55_7,q0,hlv]
  refine key _ ?_ ?_ ?_ ?_ ?_ ?_ ?_ ?_ ?_ ?_ ?_ ?_ ?_ ?_ ?_ ?_
  ·exact q0
  ·exact q3
  ·exact q4
  ·exact q5
  ·exact q6
  ·rfl
  ·show V.int .i64 _ = _; first | rfl | rw [hgn]
  ·exact q12
  ·exact q13
  ·exact q14
  ·exact q27
  ·exact q28
  ·exact q29
  ·exact hlv.symm
  ·rfl
  ·rfl
def f5 (ws : List WV) (a : Nat) : List Flaw := match ws[a]? with
 | some A => if A.x.up && A.x.booted then ahL ws a A.x ws.length 0 (List.replicate 8 false) else []
 | none => []
def F5 (ws : List WV) : List Flaw := (List.range ws.length).flatMap (f5 ws)
theorem f5_at {ws : List WV} {a : Nat} (ha : a < ws.length) : f5 ws a = if ws[a].x.up && ws[a].x.booted then ahL ws a ws[a].x ws.length 0 (List.replicate 8 false) else [] := by simp [f5,ha]
set_option maxHeartbeats 4000000 in
theorem ahead55 (F : Ff E) {h0 : H} {lv : V} {ws : List WV} (hv : VsIn h0 lv ws) (hlen : (F5 ws).length ≤ 1099511627775) : Sp P E (.func 55 [] []) [lv] h0 fun v h' => Acc h' h0.size 30 4 v ((F5 ws).map Flaw.cells) ∧ Kp h0 h' := by
 obtain ⟨sa,sc,so,hlv⟩ := hv.sl.len
 rw [List.length_map] at hlv
 have hm := hv.len
 have loop : ∀ (d k : Nat) (ρ : Nat → V) (h : H) (ov : V),ws.length - k = d → k ≤ ws.length → ρ 0 = lv → ρ 12 = lv → ρ 13 = .int .i64 ws.length → ρ 14 = .int .i64 k → ρ 3 = ov → Acc h h0.size 30 4 ov (((List.range k).flatMap (f5 ws)).map Flaw.cells) → Kp h0 h →
   XL P E none 104 b55_17 [.b 0,.c (.seq (.region r55_18) (.ret))] ρ h (Fin [.t 2] fun v h' => Acc h' h0.size 30 4 v ((F5 ws).map Flaw.cells) ∧ Kp h0 h') := by
  intro d
  induction d with
  | zero =>
   intro k ρ h ov hd hk q0 q12 q13 q14 q3 acc kk
   have hke : ¬ k < ws.length := by omega
   have hkk : k = ws.length := by omega
   subst hkk
   rw [u55_17]
   simp only [GR,evK,binV,intOp,strOp,shOp,unV,Nat.reduceLT,Nat.reduceEqDiff,Nat.reduceAdd,↓reduceIte,Nat.reduceLeDiff,reduceCtorEq,q13,q14,Int.ofNat_lt,hke,r55_18,q3]
   exact ⟨acc,kk⟩
  | succ d ih =>
   intro k ρ h ov hd hk q0 q12 q13 q14 q3 acc kk
   have hke : k < ws.length := by omega
   have hvh := hv.keep kk
   obtain ⟨b,o,cap,opn,cs,ty,op,ro,fz,va,hg,hll,he,hn⟩ := view_nth hvh.sl hke
   have q12' : ρ 12 = V.slice (some (b,o)) ws.length cap opn := by rw [q12,va]
   have wA := hvh.ins _ (List.getElem_mem hke)
   obtain ⟨h3,e3,g3,k3,z3⟩ := put_fresh h (vs := View.zero.cells) (ws := ws[k].x.cells) (ty := 63) rfl wA.one rfl
   have kk3 := Kp.trans kk k3
   have g2 : ws[k].x.cells[2]? = some (.bool ws[k].x.up) := View.g2 _
   have g4 : ws[k].x.cells[4]? = some (.bool ws[k].x.booted) := View.g4 _
   have hw : IntKind.i64.wrap ((k : Int) + 1) = ((k + 1 : Nat) : Int) := wrap_nat (n := k + 1) (by omega)
   have hel : ws[k].x.cells.length = 21 := rfl
   have hf := f5_at hke
   have hstep := range_step (f5 ws) k
   have hlenk : ((List.range (k + 1)).flatMap (f5 ws)).length ≤ 1099511627775 := by
    have := range_pre (f5 ws) (k + 1) (ws.length - (k + 1))
    rw [show k + 1 + (ws.length - (k + 1)) = ws.length by omega] at this
    exact Nat.le_trans this.length_le hlen
   unfold getR at he
   have next : ∀ (ρ2 : Nat → V) (h4 : H) (ov2 : V),ρ2 0 = lv → ρ2 12 = lv → ρ2 13 = .int .i64 ws.length → ρ2 14 = .int .i64 k → ρ2 3 = ov2 → Acc h4 h0.size 30 4 ov2 (((List.range (k + 1)).flatMap (f5 ws)).map Flaw.cells) → Kp h0 h4 → XO P E none 104 r55_16 [.l b55_17,.b 0,.c (.seq (.region r55_18) (.ret))] ρ2 h4 (Fin [.t 2] fun v h' => Acc h' h0.size 30 4 v ((F5 ws).map Flaw.cells) ∧ Kp h0 h') := by
    intro ρ2 h4 ov2 y0 y12 y13 y14 y3 acc2 kk2
    simp only [GR,evK,binV,intOp,strOp,shOp,unV,Nat.reduceLT,Nat.reduceEqDiff,Nat.reduceAdd,↓reduceIte,Nat.reduceLeDiff,reduceCtorEq,r55_16,y14,hw]
    refine ih (k + 1) _ h4 ov2 (by omega) (by omega) ?_ ?_ ?_ ?_ ?_ acc2 kk2
    ·exact y0
    ·exact y12
    ·exact y13
    ·rfl
    ·exact y3
   have gx3 := g3
   generalize hxc : ws[k].x.cells = xc at e3 g2 g4 hel he g3
   simp only [View.zero,View.cells] at e3
   rw [u55_17]
   simp only [GR,evK,binV,intOp,strOp,shOp,unV,Nat.reduceLT,Nat.reduceEqDiff,Nat.reduceAdd,↓reduceIte,Nat.reduceLeDiff,reduceCtorEq,q13,q14,Int.ofNat_lt,hke,r55_1,q12',Int.natCast_nonneg,Int.toNat_natCast,hg,hll,he,hel,e3]
   cases hup : ws[k].x.up with
   | false =>
    rw [hup] at g2 hf
    simp only [Bool.false_and,Bool.false_eq_true,if_false] at hf
    rw [hf,List.append_nil] at hstep
    simp only [GR,evK,binV,intOp,strOp,shOp,unV,Nat.reduceLT,Nat.reduceEqDiff,Nat.reduceAdd,↓reduceIte,Nat.reduceLeDiff,reduceCtorEq,r55_2,g3,g2]
    refine next _ h3 ov ?_ ?_ ?_ ?_ ?_ (by rw [hstep]; exact acc.keep k3) kk3
    ·exact q0
    ·exact q12
    ·exact q13
    ·exact q14
    ·exact q3
   | true =>
   rw [hup] at g2 hf
   cases hbo : ws[k].x.booted with
   | false =>
    rw [hbo] at g4 hf
    simp only [Bool.and_false,Bool.false_eq_true,if_false] at hf
    rw [hf,List.append_nil] at hstep
    simp only [GR,evK,binV,intOp,strOp,shOp,unV,Nat.reduceLT,Nat.reduceEqDiff,Nat.reduceAdd,↓reduceIte,Nat.reduceLeDiff,reduceCtorEq,r55_2,g3,g2,g4]
    refine next _ h3 ov ?_ ?_ ?_ ?_ ?_ (by rw [hstep]; exact acc.keep k3) kk3
    ·exact q0
    ·exact q12
    ·exact q13
    ·exact q14
    ·exact q3
   | true =>
    rw [hbo] at g4 hf
    simp only [Bool.and_self,if_true] at hf
    rw [hf] at hstep
    rw [hstep] at hlenk
    have k4 : Kp h3 (h3.psh (.cells [.bool false,.bool false,.bool false,.bool false,.bool false,.bool false,.bool false,.bool false] 125 false false none)) := Keeps.psh (Nat.le_refl _) _
    have gt := psh_same h3 (.cells [.bool false,.bool false,.bool false,.bool false,.bool false,.bool false,.bool false,.bool false] 125 false false none)
    simp only [GR,evK,binV,intOp,strOp,shOp,unV,Nat.reduceLT,Nat.reduceEqDiff,Nat.reduceAdd,↓reduceIte,Nat.reduceLeDiff,reduceCtorEq,r55_2,g3,g2,g4,r55_3,q0,hlv]
    refine loop15 F hv (a := k) (A := ws[k].x) (bv := h.size) (bt := h3.size) hlenk kk3.size (u12 := lv) (u13 := .int .i64 ws.length) (u14 := .int .i64 k) ?_ _ 0 (List.replicate 8 false) ov ((List.range k).flatMap (f5 ws)) _ _ rfl (Nat.zero_le _) rfl ?_ ?_ ?_ ?_ ?_ ?_ ?_ ?_ ?_ ?_ ?_ (k4.of gx3) gt (acc.keep (Kp.trans k3 k4)) (Kp.trans kk3 k4) rfl
    ·intro ρ2 h5 ov2 y0 y3 y12 y13 y14 acc2 kk2
     simp only [GR,evK,binV,intOp,strOp,shOp,unV,Nat.reduceLT,Nat.reduceEqDiff,Nat.reduceAdd,↓reduceIte,Nat.reduceLeDiff,reduceCtorEq]
     exact next _ h5 ov2 y0 y12 y13 y14 y3 (by rw [hstep]; exact acc2) kk2
    ·exact q0
    ·exact q3
    ·rfl
    ·rfl
    ·rfl
    ·exact q12
    ·exact q13
    ·exact q14
    ·exact hlv.symm
    ·rfl
    ·rfl
 refine Sp_fn F.f55 F.p55 (by simp [fn55]) ?_
 simp only [GR,evK,binV,intOp,strOp,shOp,unV,Nat.reduceLT,Nat.reduceEqDiff,Nat.reduceAdd,↓reduceIte,Nat.reduceLeDiff,reduceCtorEq,fn55,c55,r55_0,hlv]
 refine loop ws.length 0 _ h0 _ rfl (Nat.zero_le _) ?_ ?_ ?_ ?_ ?_ (Acc.nil _ _ _ _) (Keeps.refl _ _)
 ·exact hlv.symm
 ·exact hlv.symm
 ·rfl
 ·rfl
 ·rfl
end Go.AM.Sc
