/- My own texts, laid for this claim. -/
import Derived.Test.YtpfoofcallfjjaaGreatDoorWe9ToWe13
import Derived.Sort.KeysCollected
import Derived.Shelf.SlIter.Sorted
set_option linter.unusedSimpArgs false
set_option linter.unusedVariables false
namespace Go.AM.Wc
open Go.AM Go.AM.Wd Go.AM.We
variable {P : Program} {E : Env} {T : H → Prop}
theorem there72 (D : Fd P E) {h : H} {R rd b : Nat} {fb : Option Nat} {q1 : List Rq} {q : Rq} {q2 : List Rq} (rh : RdH h R rd fb (q1 ++ q :: q2)) (gb : h.get b = some (.cells [.str q.name] 9 false false none)) (hl : (q1 ++ q :: q2).length ≤ 1024) (hq1 : ∀ x ∈ q1,Op.bytesLess x.name q.name = true) (l1 : 1 ≤ q.name.length) (l2 : q.name.length ≤ 64) :
  Sp P E (.func 72 [] []) [.ptr (some (rd,0)),.slice (some (b,0)) 1 1 false] h fun r h' => r = .tup [.int .i64 q1.length,.int .i64 0] ∧ h' = h := by
 have c0 : (0 : Int) < ((1 : Nat) : Int) := by decide
 have c00 : (0 : Int) ≤ 0 := Int.le_refl _
 have t00 : Int.toNat 0 = 0 := rfl
 have c4 : ((0 : Int) != 0) = false := rfl
 refine Sp_fn D.f72 D.p72 (by simp [fn72]) ?_
 simp only [GR,evK,binV,intOp,strOp,shOp,unV,Nat.reduceLT,Nat.reduceEqDiff,Nat.reduceAdd,↓reduceIte,Nat.reduceLeDiff,reduceCtorEq,fn72,c72,r72_0,r72_1]
 refine XC_of (looks78 D rh.gd gb l1 l2) ?_
 rintro _ hx ⟨rfl,e2⟩
 rw [e2]
 clear e2 hx
 simp only [GR,evK,binV,intOp,strOp,shOp,unV,Nat.reduceLT,Nat.reduceEqDiff,Nat.reduceAdd,↓reduceIte,Nat.reduceLeDiff,reduceCtorEq,r72_2,c4,r72_4,c0,c00,t00,Nat.zero_mul,gb]
 refine XC_of (find_at D rh hl hq1) ?_
 rintro _ hx ⟨rfl,e2⟩
 rw [e2]
 clear e2 hx
 simp only [GR,evK,binV,intOp,strOp,shOp,unV,Nat.reduceLT,Nat.reduceEqDiff,Nat.reduceAdd,↓reduceIte,Nat.reduceLeDiff,reduceCtorEq,List.getElem?_cons_zero,List.getElem?_cons_succ,r72_5,Bool.not_true,r72_7]
set_option maxHeartbeats 1000000 in
theorem sync46 (D : Fd P E) {lo : Nat} {h : H} {R rd : Nat} {fb : Option Nat} {q1 : List Rq} {q : Rq} {q2 : List Rq} {m1 m2 : List Cell}
  (ow : Ow lo h (m1 ++ (rdX R rd fb (q1 ++ q :: q2) ++ m2))) (hlo : lo ≤ h.size) (ok : RqX R fb (q1 ++ q :: q2)) (hq1 : ∀ x ∈ q1,Op.bytesLess x.name q.name = true) (l1 : 1 ≤ q.name.length) (l2 : q.name.length ≤ 64) :
  Sp P E (.func 46 [] []) [.ptr (some (rd,0)),.str q.name] h fun r h' => r = .int .i64 0 ∧ Ow lo h' (m1 ++ (rdX R rd fb (q1 ++ { q with syn := q.cs.length } :: q2) ++ m2)) ∧ Keeps lo h h' := by
 have k1 : Kp h (h.psh (.cells [.str q.name] 9 false false none)) := Keeps.psh (Nat.le_refl _) _
 have gb := psh_same h (.cells [.str q.name] 9 false false none)
 have ow1 := ow.kp k1
 have rh := RdH.of ow1 ok.nn
 have gd := rh.gd
 obtain ⟨b,rfl,gf⟩ := rh.some
 have hd0 : List.drop 1 [V.str []] = [] := rfl
 have c4 : ((0 : Int) != 0) = false := rfl
 have hvl : vl (some b) (q1 ++ q :: q2).length = .slice (some (b,0)) (q1 ++ q :: q2).length (q1 ++ q :: q2).length true := rfl
 have hke : q1.length < (q1 ++ q :: q2).length := by simp
 obtain ⟨qp,qc,qo,hqv⟩ := vl_shape q.b q.cs.length (fun h => by rw [ok.emp q (by simp) h]; rfl)
 have hx1 : (q1.flatMap Rq.cells ++ (q.cells ++ q2.flatMap Rq.cells))[q1.length * 3 + 1]? = some (.slice qp q.cs.length qc qo) := by
  rw [rq_get,← hqv]; rfl
 have ow1' := ow1
 rw [rdx_mid] at ow1'
 obtain ⟨ow2,k2⟩ := ow1'.setM (.cells (q1.flatMap Rq.cells ++ (({ q with syn := q.cs.length } : Rq).cells ++ q2.flatMap Rq.cells)) 129 true false none)
 have e3 := put_at (ws := [V.int .i64 q.cs.length]) (o := q1.length * 3 + 2) gf (by simp only [List.length_append,rq_len,List.length_cons,List.length_nil,show q.cells.length = 3 from rfl]; omega) rfl rfl
 have hset : setR (q.cells ++ q2.flatMap Rq.cells) 2 [V.int .i64 q.cs.length] = ({ q with syn := q.cs.length } : Rq).cells ++ q2.flatMap Rq.cells := rfl
 rw [rq_set,hset] at e3
 have hl1 : lo ≤ (h.psh (.cells [.str q.name] 9 false false none)).size := Nat.le_trans hlo k1.size
 refine Sp_fn D.f46 D.p46 (by simp [fn46]) ?_
 simp only [GR,evK,binV,intOp,strOp,shOp,unV,Nat.reduceLT,Nat.reduceEqDiff,Nat.reduceAdd,↓reduceIte,Nat.reduceLeDiff,reduceCtorEq,fn46,c46,r46_0,hd0]
 refine XC_of (there72 D rh gb ok.few hq1 l1 l2) ?_
 rintro _ hx ⟨rfl,e2⟩
 rw [e2]
 clear e2 hx
 simp only [GR,evK,binV,intOp,strOp,shOp,unV,Nat.reduceLT,Nat.reduceEqDiff,Nat.reduceAdd,↓reduceIte,Nat.reduceLeDiff,reduceCtorEq,List.getElem?_cons_zero,List.getElem?_cons_succ,r46_1,c4,r46_3]
 refine XC_of (blows73 D gd) ?_
 rintro _ hx ⟨rfl,e2⟩
 rw [e2]
 clear e2 hx
 rw [hvl] at gd
 unfold rdO rdC at gd
 simp only [GR,evK,binV,intOp,strOp,shOp,unV,Nat.reduceLT,Nat.reduceEqDiff,Nat.reduceAdd,↓reduceIte,Nat.reduceLeDiff,reduceCtorEq]
 rw [X_draw]
 refine d46_5 ?_
 simp only [GR,evK,binV,intOp,strOp,shOp,unV,Nat.reduceLT,Nat.reduceEqDiff,Nat.reduceAdd,↓reduceIte,Nat.reduceLeDiff,reduceCtorEq,r46_5,gd,Int.natCast_nonneg,Int.toNat_natCast,Int.ofNat_lt,hke,Nat.zero_add,gf,hx1,e3]
 refine ⟨?_,Keeps.trans (k1.mono hlo) k2⟩
 rw [rdx_mid]
 have hlen : (q1 ++ ({ q with syn := q.cs.length } : Rq) :: q2).length = (q1 ++ q :: q2).length := by simp
 rw [hlen]
 exact ow2
theorem read84 (D : Fd P E) {h : H} {R rd : Nat} {fb : Option Nat} {q1 : List Rq} {q : Rq} {q2 : List Rq} (rh0 : RdH h R rd fb (q1 ++ q :: q2)) (hq : Rx h (vl q.b q.cs.length) q.cs) (ok : RqX R fb (q1 ++ q :: q2)) (hq1 : ∀ x ∈ q1,Op.bytesLess x.name q.name = true) (l1 : 1 ≤ q.name.length) (l2 : q.name.length ≤ 64) :
  Sp P E (.func 84 [] []) [.ptr (some (rd,0)),.str q.name] h fun r h' => ∃ v,r = .tup [v,.int .i64 0] ∧ Rx h' v q.cs ∧ Kp h h' := by
 have k1 : Kp h (h.psh (.cells [.str q.name] 9 false false none)) := Keeps.psh (Nat.le_refl _) _
 have gb := psh_same h (.cells [.str q.name] 9 false false none)
 have rh := rh0.kp k1
 have gd := rh.gd
 obtain ⟨b,rfl,gf⟩ := rh.some
 have hd0 : List.drop 1 [V.str []] = [] := rfl
 have c4 : ((0 : Int) != 0) = false := rfl
 have hvl : vl (some b) (q1 ++ q :: q2).length = .slice (some (b,0)) (q1 ++ q :: q2).length (q1 ++ q :: q2).length true := rfl
 have hke : q1.length < (q1 ++ q :: q2).length := by simp
 obtain ⟨qp,qc,qo,hqv⟩ := vl_shape q.b q.cs.length (fun h => by rw [ok.emp q (by simp) h]; rfl)
 have hx1 : (q1.flatMap Rq.cells ++ (q.cells ++ q2.flatMap Rq.cells))[q1.length * 3 + 1]? = some (.slice qp q.cs.length qc qo) := by
  rw [rq_get,← hqv]; rfl
 have hq1' := hq.kp k1
 rw [hqv] at hq1'
 obtain ⟨_,_,_,_,he,hbs⟩ := hq1'
 have hsm : (q.cs.map fun x => [x]).length = q.cs.length := List.length_map ..
 have hroom : q.cs.length ≤ 4194304 := by
  have := ok.room
  have := ok.cap
  have := totQ_mid q1 q q2
  omega
 obtain ⟨b1,h1,e1,ow1,hb1,k2⟩ := Ow.appn (m1 := []) (m2 := []) (ty := 5) (sz := 1) (bytes := 1) (x := .slice qp q.cs.length qc qo) (ys := q.cs.map fun x => [x]) (Ow.nil (h.psh (.cells [.str q.name] 9 false false none)).size _) (Nat.le_refl _) (by rw [hsm]; rfl) (by rw [hsm,single_flat]; exact he) (by rw [hsm]; omega)
 rw [hsm] at e1
 rw [single_flat] at ow1
 refine Sp_fn D.f84 D.p84 (by simp [fn84]) ?_
 simp only [GR,evK,binV,intOp,strOp,shOp,unV,Nat.reduceLT,Nat.reduceEqDiff,Nat.reduceAdd,↓reduceIte,Nat.reduceLeDiff,reduceCtorEq,fn84,c84,r84_0,r84_1,hd0]
 refine XC_of (there72 D rh gb ok.few hq1 l1 l2) ?_
 rintro _ hx ⟨rfl,e2⟩
 rw [e2]
 clear e2 hx
 rw [hvl] at gd
 unfold rdO rdC at gd
 simp only [GR,evK,binV,intOp,strOp,shOp,unV,Nat.reduceLT,Nat.reduceEqDiff,Nat.reduceAdd,↓reduceIte,Nat.reduceLeDiff,reduceCtorEq,List.getElem?_cons_zero,List.getElem?_cons_succ,r84_2,c4,r84_4,gd,Int.natCast_nonneg,Int.toNat_natCast,Int.ofNat_lt,hke,Nat.zero_add,gf,hx1,e1]
 refine ⟨_,rfl,?_,Kp.trans k1 k2⟩
 cases hb : b1 with
 | none =>
  have : q.cs = [] := by have := hb1.1 hb; simpa using this
  rw [this]
  exact ⟨_,_,_,rfl,by simp [vl,elemsV],by intro x hx; cases hx⟩
 | some b1' =>
  rw [hb] at ow1
  have g := ow1.at (i := b1') (o := .cells q.cs 5 true false none) (by simp [fpt])
  exact ⟨_,_,_,rfl,vl_elems g,hbs⟩
theorem names82 (D : Fd P E) {h0 : H} {R rd : Nat} {fb : Option Nat} {qs : List Rq} (a : RdH h0 R rd fb qs) (hl : qs.length ≤ 1024) : Sp P E (.func 82 [] []) [.ptr (some (rd,0))] h0 fun v h' => (∃ b,v = vl b qs.length ∧ (b = none → qs = []) ∧ ∀ b',b = some b' → h'.get b' = some (.cells (qs.map fun q => V.str q.name) 9 true false none)) ∧ Kp h0 h' := by
 obtain ⟨sp,sc,so,hsv⟩ := a.shape
 have loop : ∀ (d k : Nat) (ρ : Nat → V) (h : H) (b : Option Nat),qs.length - k = d → k ≤ qs.length → Ow h0.size h ([] ++ (fpt b 9 ((qs.take k).map fun q => V.str q.name) ++ [])) → Kp h0 h → (b = none → (qs.take k).map (fun q => V.str q.name) = []) → ρ 0 = .ptr (some (rd,0)) → ρ 3 = vl b k → ρ 4 = .int .i64 k →
   XL P E none 26 b82_3 [.b 0,.c (.seq (.region r82_4) (.ret))] ρ h (Fin [.t 2] fun v h' => (∃ b,v = vl b qs.length ∧ (b = none → qs = []) ∧ ∀ b',b = some b' → h'.get b' = some (.cells (qs.map fun q => V.str q.name) 9 true false none)) ∧ Kp h0 h') := by
  intro d
  induction d with
  | zero =>
   intro k ρ h b hd hk ow kk hb q0 q3 q4
   have hke : ¬ k < qs.length := by omega
   have gd := (a.kp kk).gd
   unfold rdO rdC at gd
   rw [hsv] at gd
   rw [List.take_of_length_le (by omega)] at ow hb
   have : k = qs.length := by omega
   subst this
   rw [u82_3]
   simp only [GR,evK,binV,intOp,strOp,shOp,unV,Nat.reduceLT,Nat.reduceEqDiff,Nat.reduceAdd,↓reduceIte,Nat.reduceLeDiff,reduceCtorEq,r82_0,q4,q0,gd,Int.ofNat_lt,hke,r82_4,q3]
   exact ⟨⟨b,rfl,fun h => by simpa using hb h,fun b' hb' => by subst hb'; exact ow.at (by simp [fpt])⟩,kk⟩
  | succ d ih =>
   intro k ρ h b hd hk ow kk hb q0 q3 q4
   have hke : k < qs.length := by omega
   have hs1 : qs = qs.take k ++ qs[k] :: qs.drop (k + 1) := by simp
   have a' := a.kp kk
   have gd := a'.gd
   unfold rdO rdC at gd
   rw [hs1] at a'
   obtain ⟨b0,rfl,gf⟩ := a'.some
   have hlt : (qs.take k).length = k := by rw [List.length_take]; omega
   have hx0 : ((qs.take k).flatMap Rq.cells ++ (qs[k].cells ++ (qs.drop (k + 1)).flatMap Rq.cells))[k * 3]? = some (.str qs[k].name) := by
    have := rq_get0 (qs.take k) (qs[k].cells ++ (qs.drop (k + 1)).flatMap Rq.cells)
    rw [hlt] at this
    rw [this]; rfl
   have hw : IntKind.i64.wrap ((k : Int) + 1) = ((k + 1 : Nat) : Int) := wrap_nat (n := k + 1) (by omega)
   have hvl : vl (some b0) qs.length = .slice (some (b0,0)) qs.length qs.length true := rfl
   rw [hvl] at gd
   have k1 : Kp h (h.psh (.cells [V.str qs[k].name] 9 false false none)) := Keeps.psh (Nat.le_refl _) _
   have he1 : elemsV (h.psh (.cells [V.str qs[k].name] 9 false false none)) 1 1 (.slice (some (h.size,0)) 1 1 false) = some [V.str qs[k].name] := by
    simp only [elemsV,psh_same]; rfl
   have hml : ((qs.take k).map fun q => V.str q.name).length = k := by rw [List.length_map,hlt]
   obtain ⟨b',h2,e1,ow2,hb2,k2,fr2⟩ := Ow.appc (bytes := 16) (x := .slice (some (h.size,0)) 1 1 false) (ds := [V.str qs[k].name]) (ow.kp k1) hb (Nat.le_trans kk.size k1.size) rfl he1 rfl (by rw [hml]; simp only [List.length_cons,List.length_nil]; omega)
   rw [hml] at e1
   have hl2 : ((qs.take k).map (fun q => V.str q.name) ++ [V.str qs[k].name]).length = k + 1 := by rw [List.length_append,hml]; rfl
   rw [hl2] at e1
   have htk : (qs.take k).map (fun q => V.str q.name) ++ [V.str qs[k].name] = (qs.take (k + 1)).map fun q => V.str q.name := by
    rw [List.take_succ_eq_append_getElem hke,List.map_append]; rfl
   rw [htk] at ow2 hb2
   have hd0 : List.drop 1 [V.str []] = [] := rfl
   rw [u82_3]
   simp only [GR,evK,binV,intOp,strOp,shOp,unV,Nat.reduceLT,Nat.reduceEqDiff,Nat.reduceAdd,↓reduceIte,Nat.reduceLeDiff,reduceCtorEq,r82_0,q4,q0,gd,Int.ofNat_lt,hke,r82_1,q3,Int.natCast_nonneg,Int.toNat_natCast,Nat.zero_add,Nat.add_zero,gf,hx0,hd0,e1,r82_2,hw]
   refine ih (k + 1) _ h2 b' (by omega) (by omega) ow2 (Keeps.trans (n := h0.size) (Kp.trans kk k1) k2) hb2 ?_ ?_ ?_
   ·exact q0
   ·rfl
   ·rfl
 refine Sp_fn D.f82 D.p82 (by simp [fn82]) ?_
 simp only [GR,evK,binV,intOp,strOp,shOp,unV,Nat.reduceLT,Nat.reduceEqDiff,Nat.reduceAdd,↓reduceIte,Nat.reduceLeDiff,reduceCtorEq,fn82,c82]
 refine loop qs.length 0 _ h0 none rfl (Nat.zero_le _) (by simpa [fpt] using Ow.nil _ _) (Keeps.refl _ _) (fun _ => rfl) ?_ ?_ ?_
 ·rfl
 ·rfl
 ·rfl
end Go.AM.Wc
namespace Go.AM.Wc
open Go.AM Go.AM.Wd Go.AM.We
variable {P : Program} {E : Env} {T : H → Prop}
structure Sq where
 fst : Nat
 size : Int
 rb : Option Nat
 rs : List (V × List V)
 dirty : Bool
def Sq.cells (s : Sq) : List V := [.int .i64 s.fst,.int .i64 s.size,vl s.rb s.rs.length,.bool s.dirty]
def Sq.foot (s : Sq) : List Cell := fpt s.rb 45 (s.rs.map (·.1))
def Sq.byt (s : Sq) : List V := s.rs.flatMap fun r => frameF r.2
def Sq.sh (s : Sq) : SegA := (s.fst,s.rs.map (·.2))
theorem byt_shq (s : Sq) : bytA s.sh = s.byt := by simp [bytA,Sq.sh,Sq.byt,List.flatMap_map]
def lqC (rd : Nat) (sv : V) (nx : Int) (sp : Bool) : List V := [.ptr (some (rd,0)),.str logN,sv,.int .i64 nx,.int .i64 0,.bool sp]
def lqO (rd : Nat) (sv : V) (nx : Int) (sp : Bool) : Obj := .cells (lqC rd sv nx sp) 92 false false none
def lqX (lr rd : Nat) (sb : Option Nat) (ss : List Sq) (nx : Nat) (sp : Bool) : List Cell := (lr,lqO rd (vl sb ss.length) nx sp) :: (fpt sb 94 (ss.flatMap Sq.cells) ++ ss.flatMap Sq.foot)
def chA : List SegA → Nat → Nat → Prop
 | [],a,z => a = z
 | s :: r,a,z => s.1 = a ∧ s.2 ≠ [] ∧ chA r (a + s.2.length) z
theorem chA_snoc {s : SegA} : ∀ {pre : List SegA} {a z : Nat},chA (pre ++ [s]) a z ↔ chA pre a s.1 ∧ s.2 ≠ [] ∧ s.1 + s.2.length = z
 | [],a,z => by
  simp only [List.nil_append,chA]
  constructor
  ·rintro ⟨h1,h2,h3⟩; exact ⟨h1.symm,h2,by omega⟩
  ·rintro ⟨h1,h2,h3⟩; exact ⟨h1.symm,h2,by omega⟩
 | p :: pre,a,z => by
  simp only [List.cons_append,chA]
  rw [chA_snoc]
  constructor
  ·rintro ⟨h1,h2,h3,h4,h5⟩; exact ⟨⟨h1,h2,h3⟩,h4,h5⟩
  ·rintro ⟨⟨h1,h2,h3⟩,h4,h5⟩; exact ⟨h1,h2,h3,h4,h5⟩
theorem chA_len : ∀ {A : List SegA} {a z : Nat},chA A a z → a + A.length ≤ z
 | [],a,z,h => by simp only [chA] at h; simp; omega
 | s :: r,a,z,h => by
  obtain ⟨h1,h2,h3⟩ := h
  have := chA_len h3
  have : 1 ≤ s.2.length := List.length_pos_iff.2 h2
  simp only [List.length_cons]; omega
theorem chA_mem : ∀ {A : List SegA} {a z : Nat},chA A a z → ∀ s ∈ A,s.2 ≠ [] ∧ a ≤ s.1 ∧ s.1 + s.2.length ≤ z
 | [],_,_,_,s,hs => by cases hs
 | p :: r,a,z,h,s,hs => by
  obtain ⟨h1,h2,h3⟩ := h
  have := chA_len h3
  rcases List.mem_cons.1 hs with rfl | hs
  ·exact ⟨h2,by omega,by omega⟩
  ·obtain ⟨q1,q2,q3⟩ := chA_mem h3 s hs
   exact ⟨q1,by omega,q3⟩
structure LQX (R : Nat) (fb : Option Nat) (qs : List Rq) (sb : Option Nat) (ss : List Sq) (nx : Nat) : Prop where
 ch : chA (ss.map Sq.sh) 0 nx
 lim : nx ≤ 1000000000000
 sbn : sb = none ↔ ss = []
 dk : RqX R fb qs
 nn : fb = none ↔ qs = []
 fil : qs.map (fun q => (q.name,q.cs)) = ss.map fun s => (segN s.fst,s.byt)
 siz : ∀ s ∈ ss,s.size = (s.byt.length : Int)
 rbn : ∀ s ∈ ss,s.rb = none → s.rs = []
theorem sq_len (pre : List Sq) : (pre.flatMap Sq.cells).length = pre.length * 4 := by
 induction pre with
 | nil => rfl
 | cons s r ih => simp only [List.flatMap_cons,List.length_append,ih,Sq.cells,List.length_cons,List.length_nil]; omega
theorem sq_get (pre : List Sq) (c : List V) (j : Nat) : (pre.flatMap Sq.cells ++ c)[pre.length * 4 + j]? = c[j]? := by
 rw [List.getElem?_append_right (by rw [sq_len]; omega),sq_len]
 congr 1; omega
theorem sq_get0 (pre : List Sq) (c : List V) : (pre.flatMap Sq.cells ++ c)[pre.length * 4]? = c[0]? := sq_get pre c 0
theorem sq_set (pre : List Sq) (c : List V) (j : Nat) (ws : List V) : setR (pre.flatMap Sq.cells ++ c) (pre.length * 4 + j) ws = pre.flatMap Sq.cells ++ setR c j ws := by
 have hl := sq_len pre
 unfold setR
 rw [List.take_append,List.drop_append,hl]
 rw [List.take_of_length_le (by omega),List.drop_of_length_le (by rw [hl]; omega)]
 simp only [List.nil_append,List.append_assoc]
 rw [show pre.length * 4 + j - pre.length * 4 = j by omega,show pre.length * 4 + j + ws.length - pre.length * 4 = j + ws.length by omega]
theorem wrong45 (D : Fd P E) {h : H} {lr rd nx : Nat} {sv v : V} {sp : Bool} {xs : List (V × List V)} (gl : h.get lr = some (lqO rd sv nx sp)) (hv : Rlx h v xs) (hl : xs.length ≤ 1099511627776) (hnx : nx ≤ 1000000000000) :
  Sp P E (.func 45 [] []) [.ptr (some (lr,0)),v] h fun r h' => r = .int .i64 (if sp then 51 else if (xs.map (·.2)).any badR then 50 else if 1000000000000 < nx + xs.length then 3 else 0) ∧ h' = h := by
 have hv0 := hv
 obtain ⟨p,c,o,hvv,_⟩ := hv0
 unfold lqO lqC at gl
 have hany : (xs.map (·.2)).any badR = xs.any fun p => badR p.2 := by rw [List.any_map]; rfl
 have loop : sp = false → ∀ (d k : Nat) (ρ : Nat → V),xs.length - k = d → k ≤ xs.length → ((xs.take k).any fun p => badR p.2) = false → ρ 0 = .ptr (some (lr,0)) → ρ 1 = v → ρ 5 = .int .i64 k →
   XL P E none 38 b45_4 [.b 0,.c (.seq (.seq (.region r45_5) (.cond (.t 37) (.seq (.region [⟨some 4,.mv (.k (.int .i64 3)),none,0,[4]⟩]) (.ret)) (.skip))) (.seq (.region [⟨some 4,.mv (.k (.int .i64 0)),none,0,[4]⟩]) (.ret)))] ρ h
    (Fin [.t 4] fun r h' => r = .int .i64 (if sp then 51 else if (xs.map (·.2)).any badR then 50 else if 1000000000000 < nx + xs.length then 3 else 0) ∧ h' = h) := by
  intro hsp d
  induction d with
  | zero =>
   intro k ρ hd hk ha q0 q1 q5
   have hke : ¬ k < xs.length := by omega
   rw [List.take_of_length_le (by omega)] at ha
   rw [hsp,hany,ha]
   rw [hvv] at q1
   have hw : IntKind.i64.wrap ((1000000000000 : Int) - (nx : Int)) = 1000000000000 - (nx : Int) := wrap_le (by omega) (by omega)
   rw [u45_4]
   by_cases hg : (xs.length : Int) > 1000000000000 - (nx : Int)
   ·simp only [GR,evK,binV,intOp,strOp,shOp,unV,Nat.reduceLT,Nat.reduceEqDiff,Nat.reduceAdd,↓reduceIte,Nat.reduceLeDiff,reduceCtorEq,r45_1,q5,q1,Int.ofNat_lt,hke,r45_5,q0,gl,hw,hg]
    simp; omega
   ·simp only [GR,evK,binV,intOp,strOp,shOp,unV,Nat.reduceLT,Nat.reduceEqDiff,Nat.reduceAdd,↓reduceIte,Nat.reduceLeDiff,reduceCtorEq,r45_1,q5,q1,Int.ofNat_lt,hke,r45_5,q0,gl,hw,hg]
    simp; omega
  | succ d ih =>
   intro k ρ hd hk ha q0 q1 q5
   have hke : k < xs.length := by omega
   obtain ⟨b1,o1,c1,p1,cs,ty,op,ro,fz,hv1,hg1,hx⟩ := hv.at hke
   have hrb : Rx h xs[k].1 xs[k].2 := by obtain ⟨_,_,_,_,_,h3⟩ := hv; exact h3 _ (List.getElem_mem hke)
   obtain ⟨rp,rc,ro',hrv⟩ := hrb.shape
   have q1' := q1.trans hv1
   have hw : IntKind.i64.wrap ((k : Int) + 1) = ((k + 1 : Nat) : Int) := wrap_nat (n := k + 1) (by omega)
   rw [hrv] at hx
   rw [u45_4]
   by_cases h0 : xs[k].2.length = 0
   ·have c1 : ((xs[k].2.length : Int) == 0) = true := by rw [h0]; rfl
    simp only [GR,evK,binV,intOp,strOp,shOp,unV,Nat.reduceLT,Nat.reduceEqDiff,Nat.reduceAdd,↓reduceIte,Nat.reduceLeDiff,reduceCtorEq,r45_1,q5,q1',Int.ofNat_lt,hke,r45_2,Int.natCast_nonneg,Int.toNat_natCast,Nat.mul_one,hg1,hx,c1]
    have : xs.any (fun p => badR p.2) = true := List.any_eq_true.2 ⟨xs[k],List.getElem_mem hke,by simp [badR,h0]⟩
    rw [hsp,hany,this]; simp
   have c1 : ((xs[k].2.length : Int) == 0) = false := by
    cases hq : ((xs[k].2.length : Int) == 0) with
    | false => rfl
    | true => rw [beq_iff_eq] at hq; omega
   by_cases h1 : (xs[k].2.length : Int) > 65536
   ·simp only [GR,evK,binV,intOp,strOp,shOp,unV,Nat.reduceLT,Nat.reduceEqDiff,Nat.reduceAdd,↓reduceIte,Nat.reduceLeDiff,reduceCtorEq,r45_1,q5,q1',Int.ofNat_lt,hke,r45_2,Int.natCast_nonneg,Int.toNat_natCast,Nat.mul_one,hg1,hx,c1,h1]
    have h1' : 65536 < xs[k].2.length := by omega
    have : xs.any (fun p => badR p.2) = true := List.any_eq_true.2 ⟨xs[k],List.getElem_mem hke,by simp [badR,h1']⟩
    rw [hsp,hany,this]; simp
   ·simp only [GR,evK,binV,intOp,strOp,shOp,unV,Nat.reduceLT,Nat.reduceEqDiff,Nat.reduceAdd,↓reduceIte,Nat.reduceLeDiff,reduceCtorEq,r45_1,q5,q1',Int.ofNat_lt,hke,r45_2,Int.natCast_nonneg,Int.toNat_natCast,Nat.mul_one,hg1,hx,c1,h1,r45_3,hw]
    have hb : badR xs[k].2 = false := by simp [badR,h0]; omega
    refine ih (k + 1) _ (by omega) (by omega) (any_take hke ha hb) ?_ ?_ ?_
    ·exact q0
    ·exact q1
    ·rfl
 refine Sp_fn D.f45 D.p45 (by simp [fn45]) ?_
 cases hsp : sp with
 | true =>
  rw [hsp] at gl
  simp only [GR,evK,binV,intOp,strOp,shOp,unV,Nat.reduceLT,Nat.reduceEqDiff,Nat.reduceAdd,↓reduceIte,Nat.reduceLeDiff,reduceCtorEq,fn45,c45,r45_0,gl]
 | false =>
  rw [hsp] at gl loop
  simp only [GR,evK,binV,intOp,strOp,shOp,unV,Nat.reduceLT,Nat.reduceEqDiff,Nat.reduceAdd,↓reduceIte,Nat.reduceLeDiff,reduceCtorEq,fn45,c45,r45_0,gl]
  exact loop rfl xs.length 0 _ rfl (Nat.zero_le _) (by simp) rfl rfl rfl
theorem first51 (D : Fd P E) {h : H} {lr rd nx : Nat} {sb : Option Nat} {ss : List Sq} {sp : Bool} (gl : h.get lr = some (lqO rd (vl sb ss.length) nx sp)) (hn : sb = none ↔ ss = []) (gs : ∀ b,sb = some b → h.get b = some (.cells (ss.flatMap Sq.cells) 94 true false none)) (hc : chA (ss.map Sq.sh) 0 nx) (hnx : nx ≤ 1000000000000) :
  Sp P E (.func 51 [] []) [.ptr (some (lr,0))] h fun v h' => v = .int .i64 0 ∧ h' = h := by
 unfold lqO lqC at gl
 refine Sp_fn D.f51 D.p51 (by simp [fn51]) ?_
 cases ss with
 | nil =>
  obtain ⟨p,c,o,hv⟩ := vl_shape sb ([] : List Sq).length (fun _ => rfl)
  rw [hv] at gl
  simp only [List.map_nil,chA] at hc
  have c1 : ((([] : List Sq).length : Int) == 0) = true := rfl
  simp only [GR,evK,binV,intOp,strOp,shOp,unV,Nat.reduceLT,Nat.reduceEqDiff,Nat.reduceAdd,↓reduceIte,Nat.reduceLeDiff,reduceCtorEq,fn51,c51,r51_0,gl,c1,r51_1]
  rw [← hc]; rfl
 | cons s r =>
  obtain ⟨b,rfl⟩ : ∃ b,sb = some b := by
   cases sb with
   | none => have := hn.1 rfl; simp at this
   | some b => exact ⟨b,rfl⟩
  have g := gs b rfl
  have hf : s.fst = 0 := by
   simp only [List.map_cons,chA] at hc
   exact hc.1
  have hv : vl (some b) (s :: r).length = .slice (some (b,0)) (r.length + 1) (r.length + 1) true := rfl
  rw [hv] at gl
  have c1 : (((r.length + 1 : Nat) : Int) == 0) = false := by
   cases hq : (((r.length + 1 : Nat) : Int) == 0) with
   | false => rfl
   | true => rw [beq_iff_eq] at hq; omega
  have c2 : (0 : Int) < ((r.length + 1 : Nat) : Int) := by omega
  have c00 : (0 : Int) ≤ 0 := Int.le_refl _
  have t00 : Int.toNat 0 = 0 := rfl
  have hx : ((s :: r).flatMap Sq.cells)[0]? = some (.int .i64 s.fst) := rfl
  simp only [GR,evK,binV,intOp,strOp,shOp,unV,Nat.reduceLT,Nat.reduceEqDiff,Nat.reduceAdd,↓reduceIte,Nat.reduceLeDiff,reduceCtorEq,fn51,c51,r51_0,gl,c1,r51_2,c2,c00,t00,Nat.zero_mul,Nat.add_zero,g,hx]
  rw [hf]; rfl
theorem next52 (D : Fd P E) {h : H} {lr rd : Nat} {sv : V} {nx : Int} {sp : Bool} (gl : h.get lr = some (lqO rd sv nx sp)) : Sp P E (.func 52 [] []) [.ptr (some (lr,0))] h fun v h' => v = .int .i64 nx ∧ h' = h := by
 unfold lqO lqC at gl
 refine Sp_fn D.f52 D.p52 (by simp [fn52]) ?_
 simp only [GR,evK,binV,intOp,strOp,shOp,unV,Nat.reduceLT,Nat.reduceEqDiff,Nat.reduceAdd,↓reduceIte,Nat.reduceLeDiff,reduceCtorEq,fn52,c52,r52_0,gl]
theorem segs53 (D : Fd P E) {h : H} {lr rd : Nat} {p : Option (Nat × Nat)} {n c : Nat} {q : Bool} {nx : Int} {sp : Bool} (gl : h.get lr = some (lqO rd (.slice p n c q) nx sp)) : Sp P E (.func 53 [] []) [.ptr (some (lr,0))] h fun v h' => v = .int .i64 n ∧ h' = h := by
 unfold lqO lqC at gl
 refine Sp_fn D.f53 D.p53 (by simp [fn53]) ?_
 simp only [GR,evK,binV,intOp,strOp,shOp,unV,Nat.reduceLT,Nat.reduceEqDiff,Nat.reduceAdd,↓reduceIte,Nat.reduceLeDiff,reduceCtorEq,fn53,c53,r53_0,gl]
end Go.AM.Wc
namespace Go.AM.Wc
open Go.AM Go.AM.Wd Go.AM.We
variable {P : Program} {E : Env} {T : H → Prop}
set_option maxHeartbeats 2000000 in
theorem tail16 {lo : Nat} {h0 h : H} {lr rd sbb nx i : Nat} {sp : Bool} {pre : List Sq} {s : Sq} {m1 m2 : List Cell} {v : V} {xs : List (V × List V)} {fp : Option (Nat × Nat)} {fl fc : Nat} {fo : Bool} {ρ : Nat → V} {K : List Fr} {Q : Po}
  (ow : Ow lo h (m1 ++ (lqX lr rd (some sbb) (pre ++ [s]) nx sp ++ m2))) (hlo : lo ≤ h.size) (kk : Keeps lo h0 h) (hnn : s.rb = none → s.rs = []) (hl : nx + 1 ≤ 1000000000000) (hpl : pre.length + 1 ≤ 1000000000000) (hrl : s.rs.length ≤ 1000000000000)
  (hvs : ∀ h',Keeps lo h h' → Rlx h' v xs) (hi : i < xs.length) (hsz : 0 ≤ s.size ∧ s.size + fl ≤ 4294967296) (q0 : ρ 0 = .ptr (some (lr,0))) (q1 : ρ 1 = v) (q6 : ρ 6 = .int .i64 i) (q7 : ρ 7 = .int .i64 (pre.length : Nat)) (q11 : ρ 11 = .slice fp fl fc fo)
  (cont : ∀ (ρ' : Nat → V) h' b',ρ' 0 = .ptr (some (lr,0)) → ρ' 1 = v → ρ' 6 = .int .i64 i → (b' = none → s.rs ++ [xs[i]] = []) →
   Ow lo h' (m1 ++ (lqX lr rd (some sbb) (pre ++ [{ s with rb := b',rs := s.rs ++ [xs[i]],size := s.size + fl,dirty := true }]) (nx + 1) sp ++ m2)) → Keeps lo h0 h' → X P E none 184 K ρ' h' Q) :
  XO P E none 184 r16_22 (.c (.seq (.region r16_23) (.seq (.region r16_24) (.seq (.draw r16_25) (.region r16_26)))) :: K) ρ h Q := by
 have hfm : (pre ++ [s]).flatMap Sq.cells = pre.flatMap Sq.cells ++ s.cells := by simp
 have hlen : (pre ++ [s]).length = pre.length + 1 := by simp
 have gl := ow.at (i := lr) (o := lqO rd (vl (some sbb) (pre ++ [s]).length) nx sp) (by simp [lqX])
 have gs := ow.at (i := sbb) (o := .cells ((pre ++ [s]).flatMap Sq.cells) 94 true false none) (by simp [lqX,fpt])
 rw [hfm] at gs
 rw [hlen] at gl
 obtain ⟨p,c,o,hsv⟩ := vl_shape s.rb s.rs.length (fun h => by rw [hnn h]; rfl)
 unfold lqO lqC at gl
 have hvl : vl (some sbb) (pre.length + 1) = .slice (some (sbb,0)) (pre.length + 1) (pre.length + 1) true := rfl
 rw [hvl] at gl
 have hii : ((pre.length : Nat) : Int) < ((pre.length + 1 : Nat) : Int) := by omega
 have hw : IntKind.i64.wrap (s.size + (fl : Int)) = s.size + (fl : Int) := wrap_le (by omega) (by omega)
 have hw2 : IntKind.i64.wrap ((nx : Int) + 1) = ((nx + 1 : Nat) : Int) := wrap_nat (n := nx + 1) (by omega)
 have x1 : (pre.flatMap Sq.cells ++ s.cells)[pre.length * 4 + 1]? = some (.int .i64 s.size) := by rw [sq_get]; rfl
 have hss : (pre.flatMap Sq.cells ++ s.cells).length = pre.length * 4 + 4 := by rw [List.length_append,sq_len,show s.cells.length = 4 from rfl]
 obtain ⟨s1,hs1⟩ : ∃ s1 : Sq,s1 = { s with size := s.size + fl } := ⟨_,rfl⟩
 obtain ⟨s2,hs2⟩ : ∃ s2 : Sq,s2 = { s with size := s.size + fl,dirty := true } := ⟨_,rfl⟩
 have t1 : setR s.cells 1 [.int .i64 (s.size + fl)] = s1.cells := by rw [hs1]; rfl
 have t2 : setR s1.cells 3 [.bool true] = s2.cells := by rw [hs1,hs2]; rfl
 obtain ⟨rest,hrest⟩ : ∃ rest,rest = (pre ++ [s]).flatMap Sq.foot := ⟨_,rfl⟩
 have owa : Ow lo h ((m1 ++ [(lr,lqO rd (vl (some sbb) (pre.length + 1)) nx sp)]) ++ (sbb,.cells (pre.flatMap Sq.cells ++ s.cells) 94 true false none) :: (rest ++ m2)) := by
  have := ow
  unfold lqX at this
  rw [hfm,hlen,← hrest] at this
  simpa [fpt] using this
 -- the size
 have e1 := put_at (ws := [.int .i64 (s.size + fl)]) (o := pre.length * 4 + 1) gs (by rw [hss]; simp) rfl rfl
 rw [sq_set,t1] at e1
 obtain ⟨ow1,k1⟩ := owa.setM (.cells (pre.flatMap Sq.cells ++ s1.cells) 94 true false none)
 have gs1 := ow1.at (i := sbb) (o := .cells (pre.flatMap Sq.cells ++ s1.cells) 94 true false none) (by simp)
 have gl1 := ow1.at (i := lr) (o := lqO rd (vl (some sbb) (pre.length + 1)) nx sp) (by simp)
 generalize hh1 : h.set sbb (.cells (pre.flatMap Sq.cells ++ s1.cells) 94 true false none) = h1 at *
 have hss1 : (pre.flatMap Sq.cells ++ s1.cells).length = pre.length * 4 + 4 := by rw [List.length_append,sq_len,show s1.cells.length = 4 from rfl]
 -- dirty
 have e2 := put_at (ws := [.bool true]) (o := pre.length * 4 + 3) gs1 (by rw [hss1]; simp) rfl rfl
 rw [sq_set,t2] at e2
 obtain ⟨ow2,k2⟩ := ow1.setM (.cells (pre.flatMap Sq.cells ++ s2.cells) 94 true false none)
 have gs2 := ow2.at (i := sbb) (o := .cells (pre.flatMap Sq.cells ++ s2.cells) 94 true false none) (by simp)
 generalize hh2 : h1.set sbb (.cells (pre.flatMap Sq.cells ++ s2.cells) 94 true false none) = h2 at *
 have x2 : (pre.flatMap Sq.cells ++ s2.cells)[pre.length * 4 + 2]? = some (.slice p s.rs.length c o) := by
  rw [sq_get,hs2]; unfold Sq.cells; simp only; rw [hsv]; rfl
 have hv2 := hvs h2 (Keeps.trans k1 k2)
 obtain ⟨vb,vo,vc,vq,vcs,vty,vop,vro,vfz,hvb,hvg,hvx⟩ := hv2.at hi
 have hone : Rx h2 xs[i].1 xs[i].2 := by obtain ⟨_,_,_,_,_,q⟩ := hv2; exact q _ (List.getElem_mem hi)
 obtain ⟨rp,rc,ro',hrv⟩ := hone.shape
 have q1' := q1.trans hvb
 have k3 : Kp h2 (h2.psh (.cells [xs[i].1] 45 false false none)) := Keeps.psh (Nat.le_refl _) _
 have he3 : elemsV (h2.psh (.cells [xs[i].1] 45 false false none)) 1 1 (.slice (some (h2.size,0)) 1 1 false) = some [xs[i].1] := by
  simp only [elemsV,psh_same]; rfl
 have kk2 : Keeps lo h h2 := Keeps.trans k1 k2
 have hl2 : lo ≤ h2.size := Nat.le_trans hlo kk2.size
 have ow3 := ow2.kp k3
 have ow3a : Ow lo (h2.psh (.cells [xs[i].1] 45 false false none)) ((((m1 ++ [(lr,lqO rd (vl (some sbb) (pre.length + 1)) nx sp)]) ++ (sbb,.cells (pre.flatMap Sq.cells ++ s2.cells) 94 true false none) :: pre.flatMap Sq.foot)) ++ (fpt s.rb 45 (s.rs.map (·.1)) ++ m2)) := by
  have := ow3
  rw [hrest] at this
  simpa [Sq.foot] using this
 have hsl : (s.rs.map (·.1)).length = s.rs.length := List.length_map ..
 obtain ⟨b',h4,e4,ow4,hb4,k4,fr4⟩ := Ow.appc (bytes := 24) (x := .slice (some (h2.size,0)) 1 1 false) (ds := [xs[i].1]) ow3a (fun h => by rw [hnn h]; rfl) (Nat.le_trans hl2 k3.size) rfl he3 (by rw [hrv]; rfl) (by rw [hsl]; simp only [List.length_cons,List.length_nil]; omega)
 have hl4 : (s.rs.map (·.1) ++ [xs[i].1]).length = s.rs.length + 1 := by simp
 rw [hsl,hl4,hsv] at e4
 obtain ⟨p',c',o',hsv'⟩ := vl_shape b' (s.rs.length + 1) (fun h => by have := hb4 h; simp at this)
 rw [hsv'] at e4
 have ow4a : Ow lo h4 ((m1 ++ [(lr,lqO rd (vl (some sbb) (pre.length + 1)) nx sp)]) ++ (sbb,.cells (pre.flatMap Sq.cells ++ s2.cells) 94 true false none) :: (pre.flatMap Sq.foot ++ (fpt b' 45 (s.rs.map (·.1) ++ [xs[i].1]) ++ m2))) := by simpa using ow4
 have gs4 := ow4a.at (i := sbb) (o := .cells (pre.flatMap Sq.cells ++ s2.cells) 94 true false none) (by simp)
 obtain ⟨s3,hs3⟩ : ∃ s3 : Sq,s3 = { s with rb := b',rs := s.rs ++ [xs[i]],size := s.size + fl,dirty := true } := ⟨_,rfl⟩
 have hrl3 : (s.rs ++ [xs[i]]).length = s.rs.length + 1 := by simp
 have t3 : setR s2.cells 2 [.slice p' (s.rs.length + 1) c' o'] = s3.cells := by rw [hs2,hs3]; unfold Sq.cells; simp only; rw [hrl3,hsv']; rfl
 have hss2 : (pre.flatMap Sq.cells ++ s2.cells).length = pre.length * 4 + 4 := by rw [List.length_append,sq_len,show s2.cells.length = 4 from rfl]
 have e5 := put_at (ws := [.slice p' (s.rs.length + 1) c' o']) (o := pre.length * 4 + 2) gs4 (by rw [hss2]; simp) rfl rfl
 rw [sq_set,t3] at e5
 obtain ⟨ow5,k5⟩ := ow4a.setM (.cells (pre.flatMap Sq.cells ++ s3.cells) 94 true false none)
 generalize hh5 : h4.set sbb (.cells (pre.flatMap Sq.cells ++ s3.cells) 94 true false none) = h5 at *
 have ow5a : Ow lo h5 (m1 ++ (lr,lqO rd (vl (some sbb) (pre.length + 1)) nx sp) :: ((sbb,.cells (pre.flatMap Sq.cells ++ s3.cells) 94 true false none) :: (pre.flatMap Sq.foot ++ (fpt b' 45 (s.rs.map (·.1) ++ [xs[i].1]) ++ m2)))) := by simpa using ow5
 have gl5 := ow5a.at (i := lr) (o := lqO rd (vl (some sbb) (pre.length + 1)) nx sp) (by simp)
 obtain ⟨ow6,k6⟩ := ow5a.setM (lqO rd (vl (some sbb) (pre.length + 1)) (nx + 1 : Nat) sp)
 unfold lqO lqC at gl5
 rw [hvl] at gl5
 have e6 := put_at (ws := [.int .i64 ((nx + 1 : Nat) : Int)]) (o := 3) gl5 (by simp) rfl rfl
 have t6 : setR [V.ptr (some (rd,0)),V.str logN,V.slice (some (sbb,0)) (pre.length + 1) (pre.length + 1) true,V.int .i64 nx,V.int .i64 0,V.bool sp] 3 [.int .i64 ((nx + 1 : Nat) : Int)] = lqC rd (vl (some sbb) (pre.length + 1)) (nx + 1 : Nat) sp := rfl
 rw [t6] at e6
 unfold lqO at ow6 k6
 have own : Ow lo (h5.set lr (.cells (lqC rd (vl (some sbb) (pre.length + 1)) (nx + 1 : Nat) sp) 92 false false none)) (m1 ++ (lqX lr rd (some sbb) (pre ++ [s3]) (nx + 1) sp ++ m2)) := by
  unfold lqX lqO
  rw [show (pre ++ [s3]).length = pre.length + 1 by simp,show (pre ++ [s3]).flatMap Sq.cells = pre.flatMap Sq.cells ++ s3.cells by simp]
  simpa [fpt,Sq.foot,hs3] using ow6
 have kall : Keeps lo h0 (h5.set lr (.cells (lqC rd (vl (some sbb) (pre.length + 1)) (nx + 1 : Nat) sp) 92 false false none)) := Keeps.trans kk (Keeps.trans kk2 (Keeps.trans (k3.mono hl2) (Keeps.trans k4 (Keeps.trans k5 k6))))
 have hd0 : List.drop 1 [V.slice none 0 0 false] = [] := rfl
 rw [hrv] at hvx e4 k3
 have nj1 : (V.slice rp xs[i].2.length rc ro').nj = true := rfl
 simp only [GR,evK,binV,intOp,strOp,shOp,unV,Nat.reduceLT,Nat.reduceEqDiff,Nat.reduceAdd,↓reduceIte,Nat.reduceLeDiff,reduceCtorEq,r16_22,q0,gl,q7,hii,Int.natCast_nonneg,Int.toNat_natCast,Nat.zero_add,r16_23,gs,x1,q11,hw,e1,r16_24,e2]
 rw [X_draw]
 refine l16_25 ?_
 simp only [GR,evK,binV,intOp,strOp,shOp,unV,Nat.reduceLT,Nat.reduceEqDiff,Nat.reduceAdd,↓reduceIte,Nat.reduceLeDiff,reduceCtorEq,r16_25a,gs2,x2,q1',q6,Int.ofNat_lt,hi,Int.natCast_nonneg,Int.toNat_natCast,Nat.mul_one,hvg,hvx,nj1,hd0]
 refine ⟨k3,?_⟩
 simp only [GR,evK,binV,intOp,strOp,shOp,unV,Nat.reduceLT,Nat.reduceEqDiff,Nat.reduceAdd,↓reduceIte,Nat.reduceLeDiff,reduceCtorEq,r16_25b,e4,e5,hh5,r16_26,q0,gl5,hw2,e6]
 rw [hs3] at own
 refine cont _ _ b' ?_ ?_ ?_ (fun h => by have := hb4 h; simp at this) own kall
 ·exact q0
 ·exact q1
 ·exact q6
end Go.AM.Wc
namespace Go.AM.Wc
open Go.AM Go.AM.Wd Go.AM.We
variable {P : Program} {E : Env} {T : H → Prop}
theorem filq_len {qs : List Rq} {ss : List Sq} (h : qs.map (fun q => (q.name,q.cs)) = ss.map fun s => (segN s.fst,s.byt)) : qs.length = ss.length := by
 have := congrArg List.length h
 simpa using this
theorem filq_use {qs : List Rq} {ss : List Sq} (h : qs.map (fun q => (q.name,q.cs)) = ss.map fun s => (segN s.fst,s.byt)) : totQ qs = useA (ss.map Sq.sh) := by
 have := congrArg (fun l => (l.map fun p : List UInt8 × List V => p.2.length).sum) h
 simp only [List.map_map] at this
 unfold totQ useA
 rw [List.map_map]
 have e : ((fun s => (bytA s).length) ∘ Sq.sh : Sq → Nat) = ((fun p : List UInt8 × List V => p.2.length) ∘ fun s : Sq => (segN s.fst,s.byt)) := by
  funext s; simp [byt_shq]
 rw [e,← this]
 rfl
theorem filq_mem {qs : List Rq} {ss : List Sq} (h : qs.map (fun q => (q.name,q.cs)) = ss.map fun s => (segN s.fst,s.byt)) {q : Rq} (hq : q ∈ qs) : ∃ s ∈ ss,q.name = segN s.fst ∧ q.cs = s.byt := by
 have : (q.name,q.cs) ∈ qs.map fun q => (q.name,q.cs) := List.mem_map.2 ⟨q,hq,rfl⟩
 rw [h] at this
 obtain ⟨s,hs,e⟩ := List.mem_map.1 this
 simp only [Prod.mk.injEq] at e
 exact ⟨s,hs,e.1.symm,e.2.symm⟩
theorem chA_end {s : Sq} {ss : List Sq} {a z : Nat} (hc : chA (ss.map Sq.sh) a z) (hs : s ∈ ss) : s.fst + 1 ≤ z := by
 obtain ⟨h1,h2,h3⟩ := chA_mem hc s.sh (List.mem_map.2 ⟨s,hs,rfl⟩)
 have : 1 ≤ s.sh.2.length := List.length_pos_iff.2 h1
 simp only [Sq.sh] at h3 this
 omega
theorem filq_less {qs : List Rq} {ss : List Sq} {a z n : Nat} (h : qs.map (fun q => (q.name,q.cs)) = ss.map fun s => (segN s.fst,s.byt)) (hc : chA (ss.map Sq.sh) a z) (hz : z ≤ n) (hn : n ≤ 999999999999) : ∀ q ∈ qs,Op.bytesLess q.name (segN n) = true := by
 intro q hq
 obtain ⟨s,hs,h1,h2⟩ := filq_mem h hq
 have := chA_end hc hs
 rw [h1]
 exact segN_less (by omega) hn
theorem filq_last {qs : List Rq} {pre : List Sq} {s : Sq} {a nx : Nat} (h : qs.map (fun q => (q.name,q.cs)) = (pre ++ [s]).map fun s => (segN s.fst,s.byt)) (hc : chA ((pre ++ [s]).map Sq.sh) a nx) (hn : nx ≤ 1000000000000) :
  ∃ q1 q,qs = q1 ++ [q] ∧ q.name = segN s.fst ∧ q.cs = s.byt ∧ (∀ x ∈ q1,Op.bytesLess x.name (segN s.fst) = true) ∧ q1.map (fun q => (q.name,q.cs)) = pre.map fun s => (segN s.fst,s.byt) := by
 rw [List.map_append,List.map_eq_append_iff] at h
 obtain ⟨f1,f2,rfl,h1,h2⟩ := h
 rw [List.map_cons,List.map_nil,List.map_eq_cons_iff] at h2
 obtain ⟨g,l,rfl,h3,h4⟩ := h2
 rw [List.map_eq_nil_iff] at h4
 subst h4
 simp only [Prod.mk.injEq] at h3
 have hx := chA_end hc (s := s) (by simp)
 rw [List.map_append,List.map_cons,List.map_nil] at hc
 obtain ⟨hc1,_,_⟩ := chA_snoc.1 hc
 exact ⟨f1,g,rfl,h3.1,h3.2,filq_less h1 hc1 (Nat.le_refl _) (by omega),h1⟩
def OneQ (R lo lr rd : Nat) (m2 : List Cell) (xs : List (V × List V)) (nx : Nat) (A : List SegA) (c : List V) (h0 : H) (e : Int) (sp' : Bool) (h' : H) : Prop :=
 ∃ fb' qs' sb' ss' nx',Ow lo h' (rdX R rd fb' qs' ++ (lqX lr rd sb' ss' nx' sp' ++ m2)) ∧ LQX R fb' qs' sb' ss' nx' ∧ (∀ s ∈ ss', ∀ p ∈ s.rs,p ∈ xs) ∧ (e,ss'.map Sq.sh) = oneP R nx A c ∧ nx' = (if e = 0 then nx + 1 else nx) ∧ Keeps lo h0 h'
set_option maxHeartbeats 4000000 in
theorem step16 (F : Fw P E T) (D : Fd P E) {lo : Nat} {h0 h : H} {R lr rd nx i : Nat} {fb : Option Nat} {qs : List Rq} {sb : Option Nat} {ss : List Sq} {m2 : List Cell} {v : V} {xs : List (V × List V)} {A : List SegA} {ρ : Nat → V} {K : List Fr} {Post : V → H → Prop} {bg : Bool}
  (ow : Ow lo h (rdX R rd fb qs ++ (lqX lr rd sb ss nx false ++ m2))) (hlo : lo ≤ h.size) (h1lo : 1 ≤ lo) (ht : T h) (kk : Keeps lo h0 h) (lq : LQX R fb qs sb ss nx) (hrs : ∀ s ∈ ss, ∀ p ∈ s.rs,p ∈ xs) (hl : nx + 1 ≤ 1000000000000)
  (hvs : ∀ h',Keeps lo h h' → Rlx h' v xs) (hi : i < xs.length) (hb1 : 1 ≤ xs[i].2.length) (hb2 : xs[i].2.length ≤ 65536)
  (hbg : (bg = true ∧ oneP R nx A xs[i].2 = newP R nx (ss.map Sq.sh) xs[i].2 ∧ ρ 9 = .int .i64 nx) ∨ (bg = false ∧ A = ss.map Sq.sh ∧ ∃ pre s,ss = pre ++ [s] ∧ s.byt.length < 1024 ∧ ρ 9 = .int .i64 s.fst))
  (q0 : ρ 0 = .ptr (some (lr,0))) (q1 : ρ 1 = v) (q6 : ρ 6 = .int .i64 i) (q7 : ρ 7 = .int .i64 ((ss.length : Int) - 1)) (q8 : ρ 8 = .bool bg)
  (herr : ∀ e h',e ≠ 0 → OneQ R lo lr rd m2 xs nx A xs[i].2 h0 e true h' → Post (.int .i64 e) h')
  (cont : ∀ (ρ' : Nat → V) h',ρ' 0 = .ptr (some (lr,0)) → ρ' 1 = v → ρ' 6 = .int .i64 i → OneQ R lo lr rd m2 xs nx A xs[i].2 h0 0 false h' → X P E none 184 K ρ' h' (Fin [.t 4] Post)) :
  XO P E none 184 r16_15 (.c (.seq (.seq (.draw r16_16) (.seq (.region r16_17) (.cond (.t 127) (.seq (.region r16_18) (.seq (.region r16_19) (.ret))) (.skip)))) (.seq (.seq (.region [⟨some 132,.mv (.t 8),none,0,[132,8]⟩]) (.cond (.t 132) (.seq (.region r16_20) (.region r16_21)) (.skip))) (.seq (.region r16_22) (.seq (.region r16_23) (.seq (.region r16_24) (.seq (.draw r16_25) (.region r16_26))))))) :: K) ρ h (Fin [.t 4] Post) := by
 have hv := hvs h (Keeps.refl _ _)
 obtain ⟨vb,vo,vc,vq,vcs,vty,vop,vro,vfz,hvb,hvg,hvx⟩ := hv.at hi
 have hone : Rx h xs[i].1 xs[i].2 := by obtain ⟨_,_,_,_,_,q⟩ := hv; exact q _ (List.getElem_mem hi)
 obtain ⟨rp,rc,ro',hrv⟩ := hone.shape
 have q1' := q1.trans hvb
 have hcl := chA_len lq.ch
 have hml : (ss.map Sq.sh).length = ss.length := List.length_map ..
 have hfln := filq_len lq.fil
 have huse := filq_use lq.fil
 have hlim := lq.lim
 have hfl := frame_len (cs := xs[i].2) (by omega)
 have hone' := hone
 rw [hrv] at hvx hone
 simp only [GR,evK,binV,intOp,strOp,shOp,unV,Nat.reduceLT,Nat.reduceEqDiff,Nat.reduceAdd,↓reduceIte,Nat.reduceLeDiff,reduceCtorEq,r16_15,q1',q6,Int.ofNat_lt,hi,Int.natCast_nonneg,Int.toNat_natCast,Nat.mul_one,hvg,hvx]
 refine XC_of (frame48 D hone (by omega)) ?_
 rintro _ h1 ⟨f,rfl,nx1⟩
 have k1 := nx1.kp
 obtain ⟨fb1,hfe,hfb,hfsz,hfg,_⟩ := nx1
 have ow1 := Ow.newM (m1 := rdX R rd fb qs ++ (lqX lr rd sb ss nx false ++ m2)) (m2 := []) (by simpa using ow) k1 hfsz hlo hfg
 have hl1 : lo ≤ h1.size := Nat.le_trans hlo k1.size
 have kk1 : Keeps lo h h1 := k1.mono hlo
 have ht1 : T h1 := F.tkeep ht k1
 have hvlf : vl (some fb1) (frameF xs[i].2).length = .slice (some (fb1,0)) (frameF xs[i].2).length (frameF xs[i].2).length true := rfl
 rw [hvlf] at hfe
 have ow1a : Ow lo h1 ([] ++ (rdX R rd fb qs ++ (lqX lr rd sb ss nx false ++ (m2 ++ [(fb1,.cells (frameF xs[i].2) 5 true false none)])))) := by simpa using ow1
 have hfvs : ∀ h',Keeps lo h1 h' → Ow lo h' (lqX lr rd sb ss nx false ++ (m2 ++ [(fb1,.cells (frameF xs[i].2) 5 true false none)])) → Rx h' f (frameF xs[i].2) := fun h' _ o => by
  have g := o.at (i := fb1) (o := .cells (frameF xs[i].2) 5 true false none) (by simp)
  rw [hfe]
  exact ⟨_,_,_,rfl,vl_elems g,hfb⟩
 have gl1 := ow1a.at (i := lr) (o := lqO rd (vl sb ss.length) nx false) (by simp [lqX])
 obtain ⟨lp,lc,lo',hlv⟩ := vl_shape sb ss.length (fun h => by rw [lq.sbn.1 h]; rfl)
 rw [hlv] at gl1
 unfold lqO lqC at gl1
 -- the number of the file
 have hfirst : ∃ n,ρ 9 = .int .i64 (n : Nat) ∧ n ≤ 999999999999 ∧ ((∀ x ∈ qs,Op.bytesLess x.name (segN n) = true) ∨ ∃ q1 q q2,qs = q1 ++ q :: q2 ∧ q.name = segN n ∧ (∀ x ∈ q1,Op.bytesLess x.name (segN n) = true)) ∧
   ((bg = true ∧ n = nx) ∨ (bg = false ∧ ∃ pre s,ss = pre ++ [s] ∧ n = s.fst)) := by
  rcases hbg with ⟨hb,_,h9⟩ | ⟨hb,_,pre,s,hsp,_,h9⟩
  ·exact ⟨nx,h9,by omega,.inl (filq_less lq.fil lq.ch (Nat.le_refl _) (by omega)),.inl ⟨hb,rfl⟩⟩
  ·have hfil := lq.fil
   have hch := lq.ch
   rw [hsp] at hfil hch
   obtain ⟨g1,g,e1,e2,e3,e4,e5⟩ := filq_last hfil hch lq.lim
   have := chA_end hch (s := s) (by simp)
   exact ⟨s.fst,h9,by omega,.inr ⟨g1,g,[],e1,e2,e4⟩,.inr ⟨hb,pre,s,hsp,rfl⟩⟩
 obtain ⟨n,h9,hn9,hnames,hnb⟩ := hfirst
 have hsl := segN_len (n := n) hn9
 simp only [GR,evK,binV,intOp,strOp,shOp,unV,Nat.reduceLT,Nat.reduceEqDiff,Nat.reduceAdd,↓reduceIte,Nat.reduceLeDiff,reduceCtorEq,List.getElem?_cons_zero,List.getElem?_cons_succ]
 rw [X_draw]
 refine l16_16 ?_
 simp only [GR,evK,binV,intOp,strOp,shOp,unV,Nat.reduceLT,Nat.reduceEqDiff,Nat.reduceAdd,↓reduceIte,Nat.reduceLeDiff,reduceCtorEq,r16_16a,q0,gl1,h9]
 refine XCQ_of (segref F D ht1 hn9) ?_
 rintro _ hx ⟨rfl,e2⟩
 rw [e2]
 clear e2 hx
 refine ⟨Keeps.refl _ _,?_⟩
 rw [hfe] at hfvs
 simp only [GR,evK,binV,intOp,strOp,shOp,unV,Nat.reduceLT,Nat.reduceEqDiff,Nat.reduceAdd,↓reduceIte,Nat.reduceLeDiff,reduceCtorEq,hfe,r16_16b]
 refine XC_of (append49 D ow1a hl1 lq.dk lq.nn hfvs hfb (by omega) hnames (by omega) (by omega)) ?_
 rintro _ h2 ⟨e,fb',qs',rfl,ow2,dk2,nn2,hap,k2⟩
 have ow2 : Ow lo h2 (rdX R rd fb' qs' ++ (lqX lr rd sb ss nx false ++ (m2 ++ [(fb1,.cells (frameF xs[i].2) 5 true false none)]))) := ow2
 have ow2' : Ow lo h2 (rdX R rd fb' qs' ++ (lqX lr rd sb ss nx false ++ m2)) := by
  have : Ow lo h2 ((rdX R rd fb' qs' ++ (lqX lr rd sb ss nx false ++ m2)) ++ [(fb1,.cells (frameF xs[i].2) 5 true false none)]) := by simpa using ow2
  exact this.left
 have kk2 : Keeps lo h h2 := Keeps.trans kk1 k2
 have hl2 : lo ≤ h2.size := Nat.le_trans hl1 k2.size
 have gl2 := ow2'.at (i := lr) (o := lqO rd (vl sb ss.length) nx false) (by simp [lqX])
 have hAl : (ss.map Sq.sh).length = ss.length := hml
 -- an error of the disk
 have bad : e ≠ 0 → qs' = qs → (e,ss.map Sq.sh) = oneP R nx A xs[i].2 → ∀ ρ' : Nat → V,ρ' 0 = .ptr (some (lr,0)) → ρ' 13 = .int .i64 e →
   XO P E none 184 r16_17 (.c (.cond (.t 127) (.seq (.region r16_18) (.seq (.region r16_19) (.ret))) (.skip)) :: .c (.seq (.seq (.region [⟨some 132,.mv (.t 8),none,0,[132,8]⟩]) (.cond (.t 132) (.seq (.region r16_20) (.region r16_21)) (.skip))) (.seq (.region r16_22) (.seq (.region r16_23) (.seq (.region r16_24) (.seq (.draw r16_25) (.region r16_26)))))) :: K) ρ' h2 (Fin [.t 4] Post) := by
  intro he hq hP ρ' y0 y13
  have c1 : (e != 0) = true := by simpa using he
  obtain ⟨ow3,k3⟩ := Ow.setM (m1 := rdX R rd fb' qs') (i := lr) (o := lqO rd (vl sb ss.length) nx false) (m2 := fpt sb 94 (ss.flatMap Sq.cells) ++ ss.flatMap Sq.foot ++ m2) (by simpa [lqX] using ow2') (lqO rd (vl sb ss.length) nx true)
  have e4 := put_at (ws := [.bool true]) (o := 5) gl2 (by simp [lqC]) rfl rfl
  have hset : setR (lqC rd (vl sb ss.length) nx false) 5 [.bool true] = lqC rd (vl sb ss.length) nx true := rfl
  rw [hset] at e4
  simp only [GR,evK,binV,intOp,strOp,shOp,unV,Nat.reduceLT,Nat.reduceEqDiff,Nat.reduceAdd,↓reduceIte,Nat.reduceLeDiff,reduceCtorEq,r16_17,y13,c1,r16_18,y0,e4,r16_19]
  refine herr e _ he ⟨fb',qs',sb,ss,nx,?_,⟨lq.ch,lq.lim,lq.sbn,dk2,nn2,hq ▸ lq.fil,lq.siz,lq.rbn⟩,hrs,hP,by rw [if_neg he],Keeps.trans kk (Keeps.trans kk2 k3)⟩
  unfold lqX
  simpa [lqO] using ow3
 have hsm : ∀ s ∈ ss,s.byt.length ≤ 4194304 := by
  intro s hs
  have hr := lq.dk.room
  have hcap := lq.dk.cap
  obtain ⟨l1,l2,hsp⟩ := List.append_of_mem hs
  rw [huse,hsp] at hr
  simp only [useA,List.map_map,List.map_append,List.map_cons,List.sum_append,List.sum_cons,Function.comp,byt_shq] at hr
  omega
 have nless : ∀ {q1 q2 : List Rq} {q : Rq},qs = q1 ++ q :: q2 → q.name = segN n → (∀ x ∈ qs,Op.bytesLess x.name (segN n) = true) → False := by
  intro q1 q2 q hsp hq hall
  have := hall q (by rw [hsp]; simp)
  rw [hq,less_self] at this; cases this
 rcases hap with ⟨rfl,hqs,h3,h4⟩ | ⟨rfl,hqs,h3,h4⟩ | ⟨rfl,h3,h3',h4,b',hqs⟩ | ⟨rfl,h4,qa,qg,qb,b',hsp,hqn,hq1,hqs⟩
 ·-- too many files
  simp only [GR,evK,binV,intOp,strOp,shOp,unV,Nat.reduceLT,Nat.reduceEqDiff,Nat.reduceAdd,↓reduceIte,Nat.reduceLeDiff,reduceCtorEq]
  refine bad (by decide) hqs ?_ _ q0 rfl
  rcases hbg with ⟨_,hA,_⟩ | ⟨hbf,_,pre,s,hsp,_,_⟩
  ·rw [hA]; unfold newP; rw [if_pos (by omega)]
  ·rcases hnb with ⟨hb,_⟩ | ⟨_,pre',s',hsp',hn'⟩
   ·rw [hb] at hbf; cases hbf
   ·have hfil := lq.fil
    have hch := lq.ch
    rw [hsp'] at hfil hch
    obtain ⟨g1,g,e1,e2,e3,e4,e5⟩ := filq_last hfil hch lq.lim
    exact (nless (q2 := []) e1 (by rw [e2,hn']) h3).elim
 ·-- no room
  simp only [GR,evK,binV,intOp,strOp,shOp,unV,Nat.reduceLT,Nat.reduceEqDiff,Nat.reduceAdd,↓reduceIte,Nat.reduceLeDiff,reduceCtorEq]
  refine bad (by decide) hqs ?_ _ q0 rfl
  rcases hbg with ⟨hbt,hA,_⟩ | ⟨_,hA,pre,s,hsp,hlt,_⟩
  ·rcases hnb with ⟨_,hn'⟩ | ⟨hb,_⟩
   ·subst hn'
    have := h3 (filq_less lq.fil lq.ch (Nat.le_refl _) (by omega))
    rw [hA]; unfold newP; rw [if_neg (by omega),if_pos (by omega)]
   ·rw [hb] at hbt; cases hbt
  ·rw [hA]
   rw [hsp,List.map_append,List.map_cons,List.map_nil] at huse ⊢
   rw [oneP_old (by rw [byt_shq]; exact hlt),if_pos (by omega)]
 ·-- a new segment
  rcases hnb with ⟨hb,rfl⟩ | ⟨hb,pre,s,hsp,hn'⟩
  rotate_left
  ·have hfil := lq.fil
   have hch := lq.ch
   rw [hsp] at hfil hch
   obtain ⟨g1,g,e1,e2,e3,e4,e5⟩ := filq_last hfil hch lq.lim
   exact (nless (q2 := []) e1 (by rw [e2,hn']) h3).elim
  have hA : oneP R n A xs[i].2 = newP R n (ss.map Sq.sh) xs[i].2 := by
   rcases hbg with ⟨_,hA,_⟩ | ⟨hbf,_⟩
   ·exact hA
   ·rw [hb] at hbf; cases hbf
  have c1 : ((0 : Int) != 0) = false := rfl
  rw [hb] at q8
  obtain ⟨s0,hs0⟩ : ∃ s0 : Sq,s0 = ⟨n,0,none,[],false⟩ := ⟨_,rfl⟩
  have hc0 : s0.cells = [V.int .i64 n,V.int .i64 0,V.slice none 0 0 false,V.bool false] := by rw [hs0]; rfl
  have k3 : Kp h2 (h2.psh (.cells s0.cells 94 false false none)) := Keeps.psh (Nat.le_refl _) _
  have he3 : elemsV (h2.psh (.cells s0.cells 94 false false none)) 4 1 (.slice (some (h2.size,0)) 1 1 false) = some s0.cells := by
   simp only [elemsV,psh_same]; rw [hc0]; rfl
  have ow3 := ow2'.kp k3
  have hl3 : lo ≤ (h2.psh (.cells s0.cells 94 false false none)).size := Nat.le_trans hl2 k3.size
  have ow3a : Ow lo (h2.psh (.cells s0.cells 94 false false none)) ((rdX R rd fb' qs' ++ [(lr,lqO rd (vl sb ss.length) n false)]) ++ (fpt sb 94 (ss.map Sq.cells).flatten ++ (ss.flatMap Sq.foot ++ m2))) := by
   have := ow3
   unfold lqX at this
   rw [List.flatMap_def (f := Sq.cells)] at this
   simpa using this
  have hmc : (ss.map Sq.cells).length = ss.length := List.length_map ..
  obtain ⟨b2,h4',e1,ow4,hb4,k4,fr4⟩ := Ow.appM (sz := 4) (bytes := 48) (x := .slice (some (h2.size,0)) 1 1 false) (ys := [s0.cells]) ow3a (fun h => by rw [lq.sbn.1 h]; rfl) hl3 (fun z hz => by obtain ⟨y,_,rfl⟩ := List.mem_map.1 hz; rfl) rfl (by rw [show [s0.cells].length = 1 from rfl,he3]; simp) (by rw [hc0]; rfl) (by rw [hmc]; simp only [List.length_cons,List.length_nil]; omega)
  obtain ⟨sbb,rfl⟩ : ∃ x,b2 = some x := by
   cases b2 with
   | none => have := hb4 rfl; simp at this
   | some x => exact ⟨x,rfl⟩
  have hl4 : (ss.map Sq.cells ++ [s0.cells]).length = ss.length + 1 := by simp
  rw [hmc,hl4,hlv] at e1
  have gl4 := ow4.at (i := lr) (o := lqO rd (vl sb ss.length) n false) (by simp)
  rw [hlv] at gl4
  have ow4a : Ow lo h4' (rdX R rd fb' qs' ++ (lr,lqO rd (vl sb ss.length) n false) :: (fpt (some sbb) 94 (ss.map Sq.cells ++ [s0.cells]).flatten ++ (ss.flatMap Sq.foot ++ m2))) := by simpa using ow4
  obtain ⟨ow5,k5⟩ := ow4a.setM (lqO rd (vl (some sbb) (ss.length + 1)) n false)
  have e5 := put_at (ws := [vl (some sbb) (ss.length + 1)]) (o := 2) gl4 (by simp [lqC]) rfl rfl
  have t5 : setR (lqC rd (.slice lp ss.length lc lo') n false) 2 [vl (some sbb) (ss.length + 1)] = lqC rd (vl (some sbb) (ss.length + 1)) n false := rfl
  rw [t5] at e5
  have hvl2 : vl (some sbb) (ss.length + 1) = .slice (some (sbb,0)) (ss.length + 1) (ss.length + 1) true := rfl
  have own : Ow lo (h4'.set lr (lqO rd (vl (some sbb) (ss.length + 1)) n false)) (rdX R rd fb' qs' ++ (lqX lr rd (some sbb) (ss ++ [s0]) n false ++ m2)) := by
   unfold lqX
   rw [show (ss ++ [s0]).length = ss.length + 1 by simp,show (ss ++ [s0]).flatMap Sq.cells = (ss.map Sq.cells ++ [s0.cells]).flatten by rw [List.flatMap_def]; simp,show (ss ++ [s0]).flatMap Sq.foot = ss.flatMap Sq.foot by rw [hs0]; simp [Sq.foot,fpt]]
   simpa using ow5
  have kk5 : Keeps lo h (h4'.set lr (lqO rd (vl (some sbb) (ss.length + 1)) n false)) := Keeps.trans kk2 (Keeps.trans (k3.mono hl2) (Keeps.trans k4 k5))
  unfold lqO at own kk5
  rw [hlv] at gl2
  have gl2' := gl2
  unfold lqO lqC at gl2'
  rw [hvl2] at e1 e5
  have hd0 : List.drop 4 [V.int .i64 0,.int .i64 0,.slice none 0 0 false,.bool false] = [] := rfl
  have hw : IntKind.i64.wrap ((ss.length : Int) - 1 + 1) = ((ss.length : Nat) : Int) := by
   rw [show (ss.length : Int) - 1 + 1 = ((ss.length : Nat) : Int) by omega]
   exact wrap_nat (by omega)
  rw [hc0] at e1
  simp only [GR,evK,binV,intOp,strOp,shOp,unV,Nat.reduceLT,Nat.reduceEqDiff,Nat.reduceAdd,↓reduceIte,Nat.reduceLeDiff,reduceCtorEq,r16_17,c1,q8,r16_20,q0,gl2',h9,hd0,e1,e5,r16_21,q7,hw]
  refine tail16 (fp := some (fb1,0)) (fl := (frameF xs[i].2).length) (fc := (frameF xs[i].2).length) (fo := true) (m1 := rdX R rd fb' qs') (pre := ss) (s := s0) (h0 := h0) (i := i) (xs := xs) (v := v) own (Nat.le_trans hlo kk5.size) (Keeps.trans kk kk5) ?_ hl (by omega) ?_ (fun h' k' => hvs h' (Keeps.trans kk5 k')) hi ?_ ?_ ?_ ?_ ?_ ?_ ?_
  ·rw [hs0]; exact fun _ => rfl
  ·rw [hs0]; exact Nat.zero_le _
  ·rw [hs0]; simp only; omega
  ·exact q0
  ·exact q1
  ·exact q6
  ·rfl
  ·rfl
  ·intro ρ' h' b'' y0 y1 y6 hbb o k
   refine cont ρ' h' y0 y1 y6 ⟨fb',qs',some sbb,_,n + 1,o,?_,?_,?_,rfl,k⟩
   ·refine ⟨?_,by omega,by simp,dk2,nn2,?_,?_,?_⟩
    ·rw [List.map_append,List.map_cons,List.map_nil,chA_snoc,hs0]
     exact ⟨lq.ch,by simp [Sq.sh],by simp [Sq.sh]⟩
    ·rw [hqs,List.map_append,lq.fil,List.map_append,hs0]
     simp [Sq.byt]
    ·intro s hs
     rcases List.mem_append.1 hs with hs | hs
     ·exact lq.siz s hs
     ·rw [List.mem_singleton.1 hs,hs0]; simp [Sq.byt]
    ·intro s hs
     rcases List.mem_append.1 hs with hs | hs
     ·exact lq.rbn s hs
     ·rw [List.mem_singleton.1 hs]; exact hbb
   ·intro s hs
    rcases List.mem_append.1 hs with hs | hs
    ·exact hrs s hs
    ·rw [List.mem_singleton.1 hs,hs0]
     intro p hp
     simp only [List.nil_append,List.mem_singleton] at hp
     rw [hp]; exact List.getElem_mem hi
   ·rw [hA,List.map_append,List.map_cons,List.map_nil,hs0]
    unfold newP
    rw [if_neg (by omega),if_neg (by omega)]
    rfl
 ·-- the last segment
  rcases hnb with ⟨hb,hn'⟩ | ⟨hb,pre,s,hss,hn'⟩
  ·subst hn'
   exact (nless hsp hqn (filq_less lq.fil lq.ch (Nat.le_refl _) (by omega))).elim
  have hbf : A = ss.map Sq.sh ∧ s.byt.length < 1024 := by
   rcases hbg with ⟨hbt,_⟩ | ⟨_,hA,pre',s',hsp',hlt,_⟩
   ·rw [hb] at hbt; cases hbt
   ·have := hss.symm.trans hsp'
    obtain ⟨_,e⟩ := List.append_inj' this rfl
    simp only [List.cons.injEq,and_true] at e
    exact ⟨hA,e ▸ hlt⟩
  obtain ⟨hA,hlt⟩ := hbf
  have hfil := lq.fil
  have hch := lq.ch
  rw [hss] at hfil hch
  obtain ⟨g1,g,e1,e2,e3,e4,e5⟩ := filq_last hfil hch lq.lim
  have hsame : qa = g1 ∧ qg = g ∧ qb = [] := by
   have e := e1.symm.trans hsp
   rcases List.append_eq_append_iff.1 e with ⟨ys0,h5,h6⟩ | ⟨bs,h5,h6⟩
   ·cases ys0 with
    | nil => simp at h5 h6; exact ⟨h5,h6.1.symm,h6.2⟩
    | cons x ys0 =>
     simp only [List.cons_append,List.cons.injEq] at h6
     have := hq1 x (by rw [h5]; simp)
     rw [← h6.1,e2,hn',less_self] at this; cases this
   ·cases bs with
    | nil => simp at h5 h6; exact ⟨h5.symm,h6.1,h6.2⟩
    | cons x bs =>
     simp only [List.cons_append,List.cons.injEq] at h6
     have := e4 x (by rw [h5]; simp)
     rw [← h6.1,hqn,hn',less_self] at this; cases this
  obtain ⟨rfl,rfl,rfl⟩ := hsame
  obtain ⟨sbb,rfl⟩ : ∃ x,sb = some x := by
   cases sb with
   | none => have := lq.sbn.1 rfl; rw [hss] at this; simp at this
   | some x => exact ⟨x,rfl⟩
  have c1 : ((0 : Int) != 0) = false := rfl
  rw [hb] at q8
  rw [hss] at ow2' q7
  have hsb := hsm s (by rw [hss]; simp)
  have hsz := lq.siz s (by rw [hss]; simp)
  have hmem : s ∈ ss := by rw [hss]; simp
  have hpl : pre.length + 1 = ss.length := by rw [hss]; simp
  have hrsl : s.rs.length ≤ nx := by
   obtain ⟨_,_,h3⟩ := chA_mem lq.ch s.sh (List.mem_map.2 ⟨s,hmem,rfl⟩)
   simp only [Sq.sh,List.length_map] at h3
   omega
  have hq7 : (((pre ++ [s]).length : Int) - 1) = ((pre.length : Nat) : Int) := by simp
  rw [hq7] at q7
  simp only [GR,evK,binV,intOp,strOp,shOp,unV,Nat.reduceLT,Nat.reduceEqDiff,Nat.reduceAdd,↓reduceIte,Nat.reduceLeDiff,reduceCtorEq,r16_17,c1,q8]
  refine tail16 (fp := some (fb1,0)) (fl := (frameF xs[i].2).length) (fc := (frameF xs[i].2).length) (fo := true) (m1 := rdX R rd fb' qs') (pre := pre) (s := s) (h0 := h0) (i := i) (xs := xs) (v := v) ow2' (Nat.le_trans hlo kk2.size) (Keeps.trans kk kk2) (lq.rbn s hmem) hl (by omega) (by omega) (fun h' k' => hvs h' (Keeps.trans kk2 k')) hi (by omega) ?_ ?_ ?_ ?_ ?_ ?_
  ·exact q0
  ·exact q1
  ·exact q6
  ·exact q7
  ·rfl
  ·intro ρ' h' b'' y0 y1 y6 hbb o k
   refine cont ρ' h' y0 y1 y6 ⟨fb',qs',some sbb,_,nx + 1,o,?_,?_,?_,rfl,k⟩
   ·refine ⟨?_,by omega,by simp,dk2,nn2,?_,?_,?_⟩
    ·rw [List.map_append,List.map_cons,List.map_nil,chA_snoc] at hch ⊢
     obtain ⟨c1,c2,c3⟩ := hch
     refine ⟨c1,by simp [Sq.sh],?_⟩
     simp only [Sq.sh,List.length_map,List.length_append,List.length_cons,List.length_nil] at c3 ⊢
     omega
    ·rw [hqs,List.map_append,e5,List.map_append,List.map_cons,List.map_nil]
     simp [Sq.byt,e2,e3]
    ·intro x hx
     rcases List.mem_append.1 hx with hx | hx
     ·exact lq.siz x (by rw [hss]; exact List.mem_append_left _ hx)
     ·rw [List.mem_singleton.1 hx]
      simp only [Sq.byt,List.flatMap_append,List.length_append,List.flatMap_cons,List.flatMap_nil,List.append_nil] at hsz ⊢
      rw [hsz]; omega
    ·intro x hx
     rcases List.mem_append.1 hx with hx | hx
     ·exact lq.rbn x (by rw [hss]; exact List.mem_append_left _ hx)
     ·rw [List.mem_singleton.1 hx]; exact hbb
   ·intro x hx
    rcases List.mem_append.1 hx with hx | hx
    ·exact hrs x (by rw [hss]; exact List.mem_append_left _ hx)
    ·rw [List.mem_singleton.1 hx]
     intro p hp
     rcases List.mem_append.1 hp with hp | hp
     ·exact hrs s hmem p hp
     ·rw [List.mem_singleton.1 hp]; exact List.getElem_mem hi
   ·have hA2 : A = pre.map Sq.sh ++ [s.sh] := by rw [hA,hss]; simp
    have hu2 : ss.map Sq.sh = pre.map Sq.sh ++ [s.sh] := by rw [hss]; simp
    rw [hu2] at huse
    rw [hA2,oneP_old (by rw [byt_shq]; exact hlt),if_neg (by omega)]
    simp [Sq.sh]
end Go.AM.Wc
namespace Go.AM.Wc
open Go.AM Go.AM.Wd Go.AM.We
variable {P : Program} {E : Env} {T : H → Prop}
def RefX (R lo lr rd : Nat) (m2 : List Cell) (xs : List (V × List V)) (nx : Nat) (A : List SegA) (sp : Bool) (h0 : H) (r : V) (h' : H) : Prop :=
 ∃ e fb' qs' sb' ss' nx' sp',r = .int .i64 e ∧ Ow lo h' (rdX R rd fb' qs' ++ (lqX lr rd sb' ss' nx' sp' ++ m2)) ∧ LQX R fb' qs' sb' ss' nx' ∧ (∀ s ∈ ss', ∀ p ∈ s.rs,p ∈ xs) ∧ (e,ss'.map Sq.sh,nx',sp') = appP R (xs.map (·.2)) nx A sp ∧ Keeps lo h0 h'
set_option maxHeartbeats 4000000 in
theorem append16 (F : Fw P E T) (D : Fd P E) {lo : Nat} {h : H} {R lr rd nx : Nat} {fb : Option Nat} {qs : List Rq} {sb : Option Nat} {ss : List Sq} {m2 : List Cell} {v : V} {xs : List (V × List V)} {sp : Bool}
  (ow : Ow lo h (rdX R rd fb qs ++ (lqX lr rd sb ss nx sp ++ m2))) (hlo : lo ≤ h.size) (h1lo : 1 ≤ lo) (ht : T h) (lq : LQX R fb qs sb ss nx) (hrs : ∀ s ∈ ss, ∀ p ∈ s.rs,p ∈ xs)
  (hvs : ∀ h',Keeps lo h h' → Rlx h' v xs) (hxl : xs.length ≤ 1099511627776) : Sp P E (.func 16 [] []) [.ptr (some (lr,0)),v] h (RefX R lo lr rd m2 xs nx (ss.map Sq.sh) sp h) := by
 have hv := hvs h (Keeps.refl _ _)
 have hml : (xs.map (·.2)).length = xs.length := List.length_map ..
 have gl := ow.at (i := lr) (o := lqO rd (vl sb ss.length) nx sp) (by simp [lqX])
 have same : ∀ e,(e,ss.map Sq.sh,nx,sp) = appP R (xs.map (·.2)) nx (ss.map Sq.sh) sp → RefX R lo lr rd m2 xs nx (ss.map Sq.sh) sp h (.int .i64 e) h := fun e he => ⟨e,fb,qs,sb,ss,nx,sp,rfl,ow,lq,hrs,he,Keeps.refl _ _⟩
 have loop : sp = false → (∀ p ∈ xs,1 ≤ p.2.length ∧ p.2.length ≤ 65536) → ∀ (d i : Nat) (ρ : Nat → V) (h1 : H) (fb1 : Option Nat) (qs1 : List Rq) (sb1 : Option Nat) (ss1 : List Sq) (nx1 : Nat),xs.length - i = d → i ≤ xs.length → nx1 + (xs.length - i) ≤ 1000000000000 → Ow lo h1 (rdX R rd fb1 qs1 ++ (lqX lr rd sb1 ss1 nx1 false ++ m2)) → LQX R fb1 qs1 sb1 ss1 nx1 → (∀ s ∈ ss1, ∀ p ∈ s.rs,p ∈ xs) → Keeps lo h h1 →
   runP R ((xs.map (·.2)).drop i) nx1 (ss1.map Sq.sh) = appP R (xs.map (·.2)) nx (ss.map Sq.sh) sp →
   ρ 0 = .ptr (some (lr,0)) → ρ 1 = v → ρ 6 = .int .i64 i →
   XL P E none 184 b16_28 [.b 0,.c (.seq (.region [⟨some 4,.mv (.k (.int .i64 0)),none,0,[4]⟩]) (.ret))] ρ h1 (Fin [.t 4] (RefX R lo lr rd m2 xs nx (ss.map Sq.sh) sp h)) := by
  intro hsp hall d
  induction d with
  | zero =>
   intro i ρ h1 fb1 qs1 sb1 ss1 nx1 hd hi hn ow1 lq1 hrs1 kk hrun q0 q1 q6
   have hke : ¬ i < xs.length := by omega
   obtain ⟨p,c,o,hvv,_⟩ := hv
   rw [hvv] at q1
   rw [u16_28]
   simp only [GR,evK,binV,intOp,strOp,shOp,unV,Nat.reduceLT,Nat.reduceEqDiff,Nat.reduceAdd,↓reduceIte,Nat.reduceLeDiff,reduceCtorEq,r16_3,q6,q1,Int.ofNat_lt,hke]
   rw [List.drop_of_length_le (by omega)] at hrun
   exact ⟨0,fb1,qs1,sb1,ss1,nx1,false,rfl,ow1,lq1,hrs1,hrun,kk⟩
  | succ d ih =>
   intro i ρ h1 fb1 qs1 sb1 ss1 nx1 hd hi hn ow1 lq1 hrs1 kk hrun q0 q1 q6
   have hke : i < xs.length := by omega
   have hw : IntKind.i64.wrap ((i : Int) + 1) = ((i + 1 : Nat) : Int) := wrap_nat (n := i + 1) (by omega)
   have hb := hall _ (List.getElem_mem hke)
   have hl1 : lo ≤ h1.size := Nat.le_trans hlo kk.size
   have ht1 : T h1 := F.tlow _ _ _ h1lo ht kk
   have hvs1 : ∀ h',Keeps lo h1 h' → Rlx h' v xs := fun h' k => hvs h' (Keeps.trans kk k)
   have hdr : (xs.map (·.2)).drop i = xs[i].2 :: (xs.map (·.2)).drop (i + 1) := by
    rw [List.drop_eq_getElem_cons (by rw [hml]; exact hke),List.getElem_map]
   rw [hdr] at hrun
   unfold runP at hrun
   have gl1 := ow1.at (i := lr) (o := lqO rd (vl sb1 ss1.length) nx1 false) (by simp [lqX])
   unfold lqO lqC at gl1
   have hcl := chA_len lq1.ch
   rw [List.length_map] at hcl
   have hlim := lq1.lim
   have herr : ∀ e h',e ≠ 0 → OneQ R lo lr rd m2 xs nx1 (ss1.map Sq.sh) xs[i].2 h e true h' → RefX R lo lr rd m2 xs nx (ss.map Sq.sh) sp h (.int .i64 e) h' := by
    rintro e h' he ⟨fb2,qs2,sb2,ss2,nx2,o2,l2,hr2,hone,hnx,k2⟩
    rw [← hone] at hrun
    simp only [if_neg he] at hrun hnx
    subst hnx
    exact ⟨e,fb2,qs2,sb2,ss2,_,true,rfl,o2,l2,hr2,hrun,k2⟩
   have cont : ∀ (ρ' : Nat → V) h',ρ' 0 = .ptr (some (lr,0)) → ρ' 1 = v → ρ' 6 = .int .i64 i → OneQ R lo lr rd m2 xs nx1 (ss1.map Sq.sh) xs[i].2 h 0 false h' →
     X P E none 184 [.b 1,.c (.region r16_27),.l b16_28,.b 0,.c (.seq (.region [⟨some 4,.mv (.k (.int .i64 0)),none,0,[4]⟩]) (.ret))] ρ' h' (Fin [.t 4] (RefX R lo lr rd m2 xs nx (ss.map Sq.sh) sp h)) := by
    rintro ρ' h' y0 y1 y6 ⟨fb2,qs2,sb2,ss2,nx2,o2,l2,hr2,hone,hnx,k2⟩
    rw [← hone] at hrun
    simp only [if_true] at hrun hnx
    subst hnx
    simp only [GR,evK,binV,intOp,strOp,shOp,unV,Nat.reduceLT,Nat.reduceEqDiff,Nat.reduceAdd,↓reduceIte,Nat.reduceLeDiff,reduceCtorEq,r16_27,y6,hw]
    refine ih (i + 1) _ h' fb2 qs2 sb2 ss2 _ (by omega) (by omega) (by omega) o2 l2 hr2 k2 hrun ?_ ?_ ?_
    ·exact y0
    ·exact y1
    ·rfl
   have hv1 := hvs1 h1 (Keeps.refl _ _)
   obtain ⟨vp,vc,vo,hvv,_⟩ := hv1
   have q1' := q1.trans hvv
   rw [u16_28]
   rcases List.eq_nil_or_concat ss1 with hnil | ⟨pre,s,hcc⟩
   ·subst hnil
    obtain ⟨p,c,o,hsv⟩ := vl_shape sb1 ([] : List Sq).length (fun _ => rfl)
    rw [hsv] at gl1
    have hl0 : ([] : List Sq).length = 0 := rfl
    rw [hl0] at gl1
    have hw0 : IntKind.i64.wrap (((0 : Nat) : Int) - 1) = -1 := by decide
    have c1 : (-1 : Int) < 0 := by decide
    have c2 : ¬ (-1 : Int) ≥ 0 := by decide
    simp only [GR,evK,binV,intOp,strOp,shOp,unV,Nat.reduceLT,Nat.reduceEqDiff,Nat.reduceAdd,↓reduceIte,Nat.reduceLeDiff,reduceCtorEq,r16_3,q6,q1',Int.ofNat_lt,hke,r16_4,q0,gl1,hw0,r16_5,c1,r16_6,r16_7,Bool.not_true,r16_9,c2]
    refine step16 F D (R := R) (rd := rd) (bg := true) (A := ([] : List Sq).map Sq.sh) ow1 hl1 h1lo ht1 kk lq1 hrs1 (by omega) hvs1 hke hb.1 hb.2 (.inl ⟨rfl,oneP_new (by simp),rfl⟩) ?_ ?_ ?_ ?_ ?_ herr cont
    ·exact q0
    ·exact q1
    ·exact q6
    ·rfl
    ·rfl
   ·rw [List.concat_eq_append] at hcc
    subst hcc
    obtain ⟨sbb,rfl⟩ : ∃ x,sb1 = some x := by
     cases sb1 with
     | none => have := lq1.sbn.1 rfl; simp at this
     | some x => exact ⟨x,rfl⟩
    have hlen : (pre ++ [s]).length = pre.length + 1 := by simp
    have hfm : (pre ++ [s]).flatMap Sq.cells = pre.flatMap Sq.cells ++ s.cells := by simp
    have gs := ow1.at (i := sbb) (o := .cells ((pre ++ [s]).flatMap Sq.cells) 94 true false none) (by simp [lqX,fpt])
    rw [hfm] at gs
    have hvl : vl (some sbb) (pre ++ [s]).length = .slice (some (sbb,0)) (pre.length + 1) (pre.length + 1) true := by rw [hlen]; rfl
    rw [hvl] at gl1
    rw [hlen] at hcl
    have hw1 : IntKind.i64.wrap (((pre.length + 1 : Nat) : Int) - 1) = ((pre.length : Nat) : Int) := by
     rw [show ((pre.length + 1 : Nat) : Int) - 1 = ((pre.length : Nat) : Int) by omega]
     exact wrap_nat (by omega)
    have c1 : ¬ ((pre.length : Nat) : Int) < 0 := by omega
    have c2 : ((pre.length : Nat) : Int) ≥ 0 := by omega
    have hii : ((pre.length : Nat) : Int) < ((pre.length + 1 : Nat) : Int) := by omega
    have x0 : (pre.flatMap Sq.cells ++ s.cells)[pre.length * 4]? = some (.int .i64 s.fst) := by rw [sq_get0]; rfl
    have x1 : (pre.flatMap Sq.cells ++ s.cells)[pre.length * 4 + 1]? = some (.int .i64 s.size) := by rw [sq_get]; rfl
    have x3 : (pre.flatMap Sq.cells ++ s.cells)[pre.length * 4 + 3]? = some (.bool s.dirty) := by rw [sq_get]; rfl
    have hsize := lq1.siz s (by simp)
    have hq7 : V.int .i64 ((pre.length : Nat) : Int) = V.int .i64 (((pre ++ [s]).length : Int) - 1) := by rw [hlen]; congr 1; omega
    by_cases hsz : s.size ≥ 1024
    ·have hA : oneP R nx1 ((pre ++ [s]).map Sq.sh) xs[i].2 = newP R nx1 ((pre ++ [s]).map Sq.sh) xs[i].2 := oneP_new (by
      intro x hx
      rw [List.map_append,List.map_cons,List.map_nil,List.getLast?_concat] at hx
      simp only [Option.some.injEq] at hx
      rw [← hx,byt_shq]; omega)
     cases hdt : s.dirty with
     | false =>
      rw [hdt] at x3
      simp only [GR,evK,binV,intOp,strOp,shOp,unV,Nat.reduceLT,Nat.reduceEqDiff,Nat.reduceAdd,↓reduceIte,Nat.reduceLeDiff,reduceCtorEq,r16_3,q6,q1',Int.ofNat_lt,hke,r16_4,q0,gl1,hw1,r16_5,c1,hii,Int.natCast_nonneg,Int.toNat_natCast,Nat.zero_add,gs,x1,hsz,r16_6,r16_7,Bool.not_true,r16_9,c2,x3]
      refine step16 F D (R := R) (rd := rd) (bg := true) (A := (pre ++ [s]).map Sq.sh) ow1 hl1 h1lo ht1 kk lq1 hrs1 (by omega) hvs1 hke hb.1 hb.2 (.inl ⟨rfl,hA,rfl⟩) ?_ ?_ ?_ ?_ ?_ herr cont
      ·exact q0
      ·exact q1
      ·exact q6
      ·exact hq7
      ·rfl
     | true =>
      rw [hdt] at x3
      simp only [GR,evK,binV,intOp,strOp,shOp,unV,Nat.reduceLT,Nat.reduceEqDiff,Nat.reduceAdd,↓reduceIte,Nat.reduceLeDiff,reduceCtorEq,r16_3,q6,q1',Int.ofNat_lt,hke,r16_4,q0,gl1,hw1,r16_5,c1,hii,Int.natCast_nonneg,Int.toNat_natCast,Nat.zero_add,gs,x1,hsz,r16_6,r16_7,Bool.not_true,r16_9,c2,x3]
      have hchs := chA_end lq1.ch (s := s) (by simp)
      obtain ⟨g1,g,hqs,hgn,hgc,hgl,hfil1⟩ := filq_last lq1.fil lq1.ch lq1.lim
      subst hqs
      have hsl := segN_len (n := s.fst) (by omega)
      rw [X_draw]
      refine l16_10 ?_
      simp only [GR,evK,binV,intOp,strOp,shOp,unV,Nat.reduceLT,Nat.reduceEqDiff,Nat.reduceAdd,↓reduceIte,Nat.reduceLeDiff,reduceCtorEq,r16_10a,q0,gl1,hii,Int.natCast_nonneg,Int.toNat_natCast,Nat.zero_add,Nat.add_zero,gs,x0]
      refine XCQ_of (segref F D ht1 (by omega)) ?_
      rintro _ hx ⟨rfl,e2⟩
      rw [e2]
      clear e2 hx
      refine ⟨Keeps.refl _ _,?_⟩
      rw [← hgn] at hgl hsl ⊢
      simp only [GR,evK,binV,intOp,strOp,shOp,unV,Nat.reduceLT,Nat.reduceEqDiff,Nat.reduceAdd,↓reduceIte,Nat.reduceLeDiff,reduceCtorEq,r16_10b]
      refine XC_of (sync46 D (m1 := []) (q2 := []) (by simpa using ow1) hl1 lq1.dk hgl (by omega) (by omega)) ?_
      rintro _ h2 ⟨rfl,ow2,k2⟩
      have c0 : ((0 : Int) != 0) = false := rfl
      obtain ⟨s',hs'⟩ : ∃ s' : Sq,s' = { s with dirty := false } := ⟨_,rfl⟩
      have t3 : setR s.cells 3 [.bool false] = s'.cells := by rw [hs']; rfl
      have ow2a : Ow lo h2 ((rdX R rd fb1 (g1 ++ { g with syn := g.cs.length } :: []) ++ [(lr,lqO rd (vl (some sbb) (pre.length + 1)) nx1 false)]) ++ (sbb,.cells (pre.flatMap Sq.cells ++ s.cells) 94 true false none) :: ((pre ++ [s]).flatMap Sq.foot ++ m2)) := by
       have := ow2
       unfold lqX at this
       rw [hfm,hlen] at this
       simpa [fpt] using this
      have gs2 := ow2a.at (i := sbb) (o := .cells (pre.flatMap Sq.cells ++ s.cells) 94 true false none) (by simp)
      have gl2 := ow2a.at (i := lr) (o := lqO rd (vl (some sbb) (pre.length + 1)) nx1 false) (by simp)
      have hss : (pre.flatMap Sq.cells ++ s.cells).length = pre.length * 4 + 4 := by rw [List.length_append,sq_len,show s.cells.length = 4 from rfl]
      have e4 := put_at (ws := [.bool false]) (o := pre.length * 4 + 3) gs2 (by rw [hss]; simp) rfl rfl
      rw [sq_set,t3] at e4
      obtain ⟨ow3,k3⟩ := ow2a.setM (.cells (pre.flatMap Sq.cells ++ s'.cells) 94 true false none)
      generalize h2.set sbb (.cells (pre.flatMap Sq.cells ++ s'.cells) 94 true false none) = h3 at *
      have hvl1 : vl (some sbb) (pre.length + 1) = .slice (some (sbb,0)) (pre.length + 1) (pre.length + 1) true := rfl
      unfold lqO lqC at gl2
      rw [hvl1] at gl2
      simp only [GR,evK,binV,intOp,strOp,shOp,unV,Nat.reduceLT,Nat.reduceEqDiff,Nat.reduceAdd,↓reduceIte,Nat.reduceLeDiff,reduceCtorEq,r16_11,c0,r16_14,q0,gl2,hii,Int.natCast_nonneg,Int.toNat_natCast,Nat.zero_add,e4]
      have kk3 : Keeps lo h1 h3 := Keeps.trans k2 k3
      have ow3a : Ow lo h3 (rdX R rd fb1 (g1 ++ { g with syn := g.cs.length } :: []) ++ (lqX lr rd (some sbb) (pre ++ [s']) nx1 false ++ m2)) := by
       unfold lqX
       rw [show (pre ++ [s']).length = pre.length + 1 by simp,show (pre ++ [s']).flatMap Sq.cells = pre.flatMap Sq.cells ++ s'.cells by simp,show (pre ++ [s']).flatMap Sq.foot = (pre ++ [s]).flatMap Sq.foot by rw [hs']; simp [Sq.foot]]
       simpa [fpt] using ow3
      have hsh : (pre ++ [s']).map Sq.sh = (pre ++ [s]).map Sq.sh := by rw [hs']; simp [Sq.sh]
      have lq3 : LQX R fb1 (g1 ++ { g with syn := g.cs.length } :: []) (some sbb) (pre ++ [s']) nx1 := by
       refine ⟨hsh ▸ lq1.ch,lq1.lim,by simp,lq1.dk.put (lq1.dk.emp g (by simp)) (lq1.dk.byt g (by simp)) (by have := lq1.dk.room; omega),by have := lq1.nn; simp at this; simpa using this,?_,?_,?_⟩
       ·have := lq1.fil
        rw [hs']
        simpa [Sq.byt] using this
       ·intro x hx
        rcases List.mem_append.1 hx with h | h
        ·exact lq1.siz x (List.mem_append_left _ h)
        ·rw [List.mem_singleton.1 h,hs']; exact hsize
       ·intro x hx
        rcases List.mem_append.1 hx with h | h
        ·exact lq1.rbn x (List.mem_append_left _ h)
        ·rw [List.mem_singleton.1 h,hs']; exact lq1.rbn s (by simp)
      have hrs3 : ∀ x ∈ pre ++ [s'], ∀ p ∈ x.rs,p ∈ xs := by
       intro x hx
       rcases List.mem_append.1 hx with h | h
       ·exact hrs1 x (List.mem_append_left _ h)
       ·rw [List.mem_singleton.1 h,hs']; exact hrs1 s (by simp)
      refine step16 F D (R := R) (rd := rd) (bg := true) (A := (pre ++ [s]).map Sq.sh) ow3a (Nat.le_trans hl1 kk3.size) h1lo (F.tlow _ _ _ h1lo ht1 kk3) (Keeps.trans kk kk3) lq3 hrs3 (by omega) (fun h' k' => hvs1 h' (Keeps.trans kk3 k')) hke hb.1 hb.2 (.inl ⟨rfl,by rw [hsh]; exact hA,rfl⟩) ?_ ?_ ?_ ?_ ?_ herr cont
      ·exact q0
      ·exact q1
      ·exact q6
      ·rw [show (pre ++ [s']).length = (pre ++ [s]).length by simp]; exact hq7
      ·rfl
    ·simp only [GR,evK,binV,intOp,strOp,shOp,unV,Nat.reduceLT,Nat.reduceEqDiff,Nat.reduceAdd,↓reduceIte,Nat.reduceLeDiff,reduceCtorEq,r16_3,q6,q1',Int.ofNat_lt,hke,r16_4,q0,gl1,hw1,r16_5,c1,hii,Int.natCast_nonneg,Int.toNat_natCast,Nat.zero_add,Nat.add_zero,gs,x1,hsz,r16_6,r16_7,Bool.not_false,r16_8,x0,r16_9]
     refine step16 F D (R := R) (rd := rd) (bg := false) (A := (pre ++ [s]).map Sq.sh) ow1 hl1 h1lo ht1 kk lq1 hrs1 (by omega) hvs1 hke hb.1 hb.2 (.inr ⟨rfl,rfl,pre,s,rfl,by omega,rfl⟩) ?_ ?_ ?_ ?_ ?_ herr cont
     ·exact q0
     ·exact q1
     ·exact q6
     ·exact hq7
     ·rfl
 have hany : (xs.map (·.2)).any badR = xs.any fun p => badR p.2 := by rw [List.any_map]; rfl
 refine Sp_fn D.f16 D.p16 (by simp [fn16]) ?_
 simp only [GR,evK,binV,intOp,strOp,shOp,unV,Nat.reduceLT,Nat.reduceEqDiff,Nat.reduceAdd,↓reduceIte,Nat.reduceLeDiff,reduceCtorEq,fn16,c16,r16_0]
 refine XC_of (wrong45 D gl hv hxl lq.lim) ?_
 rintro _ hx ⟨rfl,e2⟩
 rw [e2]
 clear e2 hx
 cases hsp : sp with
 | true =>
  rw [hsp] at same
  have c1 : ((51 : Int) != 0) = true := rfl
  simp only [GR,evK,binV,intOp,strOp,shOp,unV,Nat.reduceLT,Nat.reduceEqDiff,Nat.reduceAdd,↓reduceIte,Nat.reduceLeDiff,reduceCtorEq,r16_1,c1,r16_2]
  exact same 51 rfl
 | false =>
  rw [hsp] at same loop ow
  simp only [Bool.false_eq_true,if_false]
  cases hbad : (xs.map (·.2)).any badR with
  | true =>
   have c1 : ((50 : Int) != 0) = true := rfl
   simp only [if_true]
   simp only [GR,evK,binV,intOp,strOp,shOp,unV,Nat.reduceLT,Nat.reduceEqDiff,Nat.reduceAdd,↓reduceIte,Nat.reduceLeDiff,reduceCtorEq,r16_1,c1,r16_2]
   exact same 50 (by unfold appP; rw [if_neg (by simp),hbad,if_pos rfl])
  | false =>
   simp only [Bool.false_eq_true,if_false]
   by_cases hg : 1000000000000 < nx + xs.length
   ·have c1 : ((3 : Int) != 0) = true := rfl
    rw [if_pos hg]
    simp only [GR,evK,binV,intOp,strOp,shOp,unV,Nat.reduceLT,Nat.reduceEqDiff,Nat.reduceAdd,↓reduceIte,Nat.reduceLeDiff,reduceCtorEq,r16_1,c1,r16_2]
    exact same 3 (by unfold appP; rw [if_neg (by simp),hbad,if_neg (by simp),if_pos (by rw [hml]; omega)])
   ·have c1 : ((0 : Int) != 0) = false := rfl
    rw [if_neg hg]
    have hall : ∀ p ∈ xs,1 ≤ p.2.length ∧ p.2.length ≤ 65536 := by
     intro p hp
     rw [hany] at hbad
     have := List.any_eq_false.1 hbad p hp
     simp only [badR,decide_eq_true_eq] at this
     omega
    simp only [GR,evK,binV,intOp,strOp,shOp,unV,Nat.reduceLT,Nat.reduceEqDiff,Nat.reduceAdd,↓reduceIte,Nat.reduceLeDiff,reduceCtorEq,r16_1,c1]
    refine loop rfl hall xs.length 0 _ h fb qs sb ss nx rfl (Nat.zero_le _) (by omega) ow lq hrs (Keeps.refl _ _) ?_ ?_ ?_ ?_
    ·unfold appP; rw [if_neg (by simp),hbad,if_neg (by simp),if_neg (by rw [hml]; omega)]; rfl
    ·rfl
    ·rfl
    ·rfl
end Go.AM.Wc
namespace Go.AM
open Go.RowKit Go.Maps Go.Sort Go.Shelf Go.Proofs Go.WideElems Go.MapKept
variable {P : Program}
def strsV : List (V × V × Nat) → Option (List (List UInt8))
 | [] => some []
 | (.str s,_,_) :: r => (strsV r).map (s :: ·)
 | _ => none
def leS (x y : List UInt8) : Bool := decide (x ≤ y)
def srt (ns : List (List UInt8)) : List (List UInt8) := ns.mergeSort leS
def goodM (es : List (V × V × Nat)) (cl : Nat) (ns : List (List UInt8)) : Prop := ns.Nodup ∧ (es.map (·.2.2)).Nodup ∧ (∀ e ∈ es,e.2.2 < cl) ∧ ns.length ≤ 1048576 ∧ ∀ n ∈ ns,n.length ≤ 1048576
def newNames (h : H) (ns : List (List UInt8)) : V × H := if ns = [] then (.slice none 0 0 false,h) else (.slice (some (h.size,0)) ns.length ns.length true,h.psh (.cells ((srt ns).map V.str) 9 true false none))
open Classical in
noncomputable def sortedG (fK tb : Nat) : List V → H → Option (V × H) := fun args h => match args with
 | [.func g [] [.ptr (some (kb,0))]] => if g = fK then match h.get kb with
  | some (.cells [.map (some bm)] ty false false none) => if ty = tb then match h.get bm with
   | some (.map es cl) => match strsV es with
    | some ns => if goodM es cl ns then some (newNames h ns) else none
    | none => none
   | _ => none
   else none
  | _ => none
  else none
 | _ => none
theorem strsV_get : ∀ {es : List (V × V × Nat)} {ns : List (List UInt8)},strsV es = some ns → es.map (·.1) = ns.map V.str
 | [],ns,h => by simp [strsV] at h; subst h; rfl
 | (k,v,c) :: es,ns,h => by
  cases k with
  | str s =>
   simp only [strsV,Option.map_eq_some_iff] at h
   obtain ⟨r,h1,rfl⟩ := h
   simp [strsV_get h1]
  | _ => simp [strsV] at h
theorem strsV_of : ∀ {es : List (V × V × Nat)} {ns : List (List UInt8)},es.map (·.1) = ns.map V.str → strsV es = some ns
 | [],ns,h => by
  cases ns with
  | nil => rfl
  | cons a b => simp at h
 | (k,v,c) :: es,ns,h => by
  cases ns with
  | nil => simp at h
  | cons a b =>
   simp only [List.map_cons,List.cons.injEq] at h
   obtain ⟨rfl,h2⟩ := h
   simp [strsV,strsV_of h2]
def nilR : Value → Option (DataW Unit × List MemPlace) := fun _ => some (.nil,[])
theorem er_keys {m : Mp} : ∀ {es : List (V × V × Nat)} {ys : List MapEntry} {ns : List (List UInt8)},ER m es ys → es.map (·.1) = ns.map V.str → ys.map (·.key) = ns.map encStr ∧ ys.map (·.born) = es.map (·.2.2)
 | [],ys,ns,h,hn => by
  cases h
  cases ns with
  | nil => exact ⟨rfl,rfl⟩
  | cons a b => simp at hn
 | e :: es,_,ns,h,hn => by
  obtain ⟨y,ys,h1,h2,h3,h4,rfl⟩ := h
  cases ns with
  | nil => simp at hn
  | cons a b =>
   simp only [List.map_cons,List.cons.injEq] at hn
   obtain ⟨hk,hn⟩ := hn
   obtain ⟨q1,q2⟩ := er_keys h4 hn
   rw [hk] at h1
   refine ⟨?_,?_⟩
   ·simp only [List.map_cons,q1,List.cons.injEq,and_true]; exact h1
   ·simp only [List.map_cons,q2,h3]
theorem owns_of {m : Mp} {h : H} {w : World} {ks : TypeId} {bm r sh e cl : Nat} {es : List (V × V × Nat)} {ns : List (List UInt8)} (hk : P.underlying ks = some .string) (hr : HR P m h w) (hg : h.get bm = some (.map es cl)) (hm : m bm = some (r,sh,e)) (hn : es.map (·.1) = ns.map V.str) (gd : goodM es cl ns) :
  ∃ D0 : DataW Unit,w.ownsMap P ks nilR r ns.length D0 ∧ (strKeys D0).Perm ns ∧ Maps.size D0 = ns.length := by
 obtain ⟨es',hb,her⟩ := hr.map hg hm
 obtain ⟨k1,k2⟩ := er_keys her hn
 obtain ⟨g1,g2,g3,g4,g5⟩ := gd
 have hl : es'.toList.length = ns.length := by have := congrArg List.length k1; simpa using this
 have hsz : es'.size = ns.length := by rw [← hl,Array.length_toList]
 have hkey : ∀ x ∈ es'.toList, ∃ n ∈ ns,x.key = encStr n := fun x hx => by
  have : x.key ∈ es'.toList.map (·.key) := List.mem_map.2 ⟨x,hx,rfl⟩
  rw [k1] at this
  obtain ⟨n,h1,h2⟩ := List.mem_map.1 this
  exact ⟨n,h1,h2.symm⟩
 have hrd : ∀ x ∈ es'.toList, ∀ n,x.key = encStr n → n ∈ ns → rd P ks nilR x = some (.string n,.nil) := fun x hx n hkx hn' => by
  have : keyOf P ks x.key = some (.string n) := by
   rw [hkx]
   have hle := g5 n hn'
   have := Go.WideMaps.keyOf_string_mk hk (s := ⟨n.toArray⟩) (by show n.toArray.size ≤ _; rw [List.size_toArray]; exact Nat.le_trans hle (by decide))
   simpa using this
  unfold rd
  rw [this]; rfl
 have F : Fit P ks nilR es' cl := by
  refine ⟨?_,⟨?_,?_,?_⟩,?_⟩
  ·rw [hsz]; exact Nat.le_trans g4 (by decide)
  ·intro x hx
   have : x.born ∈ es'.toList.map (·.born) := List.mem_map.2 ⟨x,hx,rfl⟩
   rw [k2] at this
   obtain ⟨e',h1,h2⟩ := List.mem_map.1 this
   rw [← h2]; exact g3 e' h1
  ·rw [k2]; exact g2
  ·rw [k1]
   exact List.pairwise_map.2 (g1.imp fun {a b} hne he => hne (encStr_inj he))
  ·intro x hx
   obtain ⟨n,h1,h2⟩ := hkey x hx
   exact ⟨_,hrd x hx n h2 h1⟩
 have hrg : (es'.toList.map (rg P ks nilR)).map (fun p => strOf p.1) = ns := by
  have e1 : (es'.toList.map (rg P ks nilR)).map (fun p => strOf p.1) = (es'.toList.map (·.key)).map fun k => match k with | .string b => b.data.toList | _ => [] := by
   rw [List.map_map,List.map_map]
   refine List.map_congr_left fun x hx => ?_
   obtain ⟨n,h1,h2⟩ := hkey x hx
   simp only [Function.comp,rg_of (hrd x hx n h2 h1),h2,strOf]
  rw [e1,k1,List.map_map]
  simp [Function.comp_def]
 have hperm := Go.WideShapes.sorted_perm (es'.toList.map (rg P ks nilR))
 refine ⟨_,by have := World.ownsMap_of_fit (R := nilR) hb F (fun _ _ _ h => h); rwa [hsz] at this,?_,?_⟩
 ·show (List.map (fun p : Lit × DataW Unit => strOf p.1) _).Perm ns
  have := hperm.map fun p : Lit × DataW Unit => strOf p.1
  rwa [hrg] at this
 ·show List.length _ = ns.length
  rw [hperm.length_eq,List.length_map,hl]
theorem VRL_strs (m : Mp) : ∀ ns : List (List UInt8),VRL m (ns.map V.str) (ns.map encStr)
 | [] => rfl
 | n :: ns => ⟨_,_,rfl,VRL_strs m ns,rfl⟩
theorem sorted_ok {fS fK tb : Nat} (hk : P.underlying 9 = some .string) (hc9 : P.cellsOf 9 = 1)
  (hc : ∀ (w : World) (Bm b nn : Nat) (D0 : DataW Unit),Bm < w.heap.size → w.cell? ⟨Bm,0,none⟩ = some (.map (some b)) → w.ownsMap P 9 nilR b nn D0 → Maps.size D0 ≤ maxLen → Maps.size D0 * 16 ≤ 140737488355328 →
   Calls P fS #[.func (.func fK) #[] #[.pointer (some ⟨Bm,0,none⟩)]] w fun e w' => ∃ (v : Value) (ss : List (List UInt8)),e = .returned v ∧ ss.Perm (strKeys D0) ∧
    w'.ownsRow w.heap.size 9 1 v ss.length ((ss.mergeSort (fun x y => decide (x ≤ y))).map encStr) ∧ (v = .slice none 0 0 ↔ ss = []) ∧ Below w.heap.size w w')
  {args : List V} {h : H} {v : V} {h' : H} {m : Mp} {w : World} {xs : List Value} (he : sortedG fK tb args h = some (v,h')) (hr : HR P m h w) (hx : VRL m args xs) (n : Nat) : CallsIn (FF none) n P fS xs.toArray w (Post P m h w v h') := by
 unfold sortedG at he
 split at he
 ·rename_i g kb
  split at he
  ·rename_i hgk
   subst hgk
   split at he
   ·rename_i bm ty hgb
    split at he
    ·split at he
     ·rename_i es cl hgm
      split at he
      ·rename_i ns hns
       split at he
       ·rename_i gd
        have hn := strsV_get hns
        obtain ⟨y,ys,⟨fx,cx,hf1,⟨yp,ycs,⟨rk,shk,ek,hmk,rfl⟩,hf3,rfl⟩,rfl⟩,h3,rfl⟩ := hx
        cases hf1; cases hf3; cases h3
        obtain ⟨ck,fzk,hbk,_,_,hopk,_⟩ := hr.cells hgb hmk
        simp only [Bool.false_eq_true,if_false] at hopk
        obtain ⟨rfl,_,_⟩ := hopk
        obtain ⟨x,hcx,hvx⟩ := hr.load1 hgb hmk (o := 0) rfl
        obtain ⟨rb,shb,eb,hmb,rfl⟩ := hvx
        obtain ⟨D0,ho,hp,hs⟩ := owns_of hk hr hgm hmb hn gd
        have hlk := hr.blk _ _ _ _ hmk
        have hsz : ns.length ≤ 1048576 := gd.2.2.2.1
        have hcall := hc w rk rb _ D0 hlk (by simpa using hcx) ho (by rw [hs]; exact Nat.le_trans hsz (by decide)) (by rw [hs]; omega)
        refine callsIn_wide.2 (hcall.mono fun e w' ⟨v',ss,hev,hss,hrow,hnil,hb⟩ => ?_)
        obtain ⟨a,b⟩ := hr.below hb
        have hperm : ss.Perm ns := hss.trans hp
        have hsort : ss.mergeSort (fun x y => decide (x ≤ y)) = srt ns := mergeSort_of_perm hperm
        rw [hsort] at hrow
        have hlen := hperm.length_eq
        have he' : newNames h ns = (v,h') := Option.some.inj he
        unfold newNames at he'
        by_cases h0 : ns = []
        ·have hs0 : ss = [] := by rw [h0] at hperm; exact hperm.eq_nil
         rw [if_pos h0] at he'
         cases he'
         exact ⟨m,_,hev,hnil.2 hs0,a,b⟩
        ·have hs0 : ss ≠ [] := fun e => h0 (by rw [e] at hperm; exact hperm.symm.eq_nil)
         rw [if_neg h0] at he'
         cases he'
         obtain ⟨hrl,hrow⟩ := hrow
         rcases hrow with ⟨_,hz⟩ | ⟨gb,cap,cur,hv',hbase,hgbk,r1,r2,r3,r4⟩
         ·exact absurd (List.eq_nil_of_length_eq_zero hz) hs0
         ·have pend : Pend w.heap.size m w' gb (.cells cur 9 (0,0)) := ⟨hbase,hgbk,fun i y hmi => by
           obtain ⟨y1,y2⟩ := y
           have := hr.blk _ _ _ _ hmi
           omega⟩
          have hsl : ((srt ns).map V.str).length = ns.length := by rw [List.length_map]; exact List.length_mergeSort ..
          have hor : OR P m (.cells cur 9 (0,0)) 0 (cap - ns.length) (.cells ((srt ns).map V.str) 9 true false none) := by
           refine ⟨cur,(0,0),rfl,?_,?_,fun _ => rfl⟩
           ·rw [hsl,List.drop_zero]
            rw [hlen,Nat.mul_one] at r4
            rw [r4]
            exact VRL_strs m _
           ·rw [if_pos rfl,hsl,hc9,r3]
            rw [hlen] at r1
            omega
          refine ⟨_,v',hev,?_,a.adopt pend hor,b.adopt a.fresh pend⟩
          rw [hlen] at r1
          refine ⟨gb,0,cap - ns.length,⟨gb,0,none⟩,upd_self _ _ _,?_,.inl rfl⟩
          rw [hv',hlen,if_pos rfl]
          congr 1; omega
       ·cases he
      ·cases he
     ·cases he
    ·cases he
   ·cases he
  ·cases he
 ·cases he
end Go.AM
namespace Go.AM.Wc
open Go.AM Go.AM.Wd Go.AM.We
variable {P : Program} {E : Env} {T : H → Prop}
def Nms (h h' : H) (v : V) (ns : List (List UInt8)) : Prop := ∃ b,v = vl b ns.length ∧ (b = none → ns = []) ∧ (∀ b',b = some b' → h.size ≤ b' ∧ h'.get b' = some (.cells (ns.map V.str) 9 true false none)) ∧ Kp h h'
theorem Nms.shape {h h' : H} {v : V} {ns : List (List UInt8)} (a : Nms h h' v ns) : ∃ p c o,v = .slice p ns.length c o := by
 obtain ⟨b,rfl,hb,_,_⟩ := a
 exact vl_shape b ns.length (fun h => by rw [hb h]; rfl)
theorem srt_len (ns : List (List UInt8)) : (srt ns).length = ns.length := List.length_mergeSort ..
theorem mos_good {k : Nat} {l : List (V × V)} {ns : List (List UInt8)} (hn : l.map (·.1) = ns.map V.str) (nd : ns.Nodup) (hl : ns.length ≤ 1048576) (hs : ∀ n ∈ ns,n.length ≤ 1048576) : strsV (mos l k) = some ns ∧ goodM (mos l k) (k + l.length) ns := by
 have h1 : (mos l k).map (·.1) = ns.map V.str := by
  rw [← hn]
  clear hn
  induction l generalizing k with
  | nil => rfl
  | cons x r ih => simp [mos,ih]
 have h2 : ∀ (l : List (V × V)) (k : Nat),(mos l k).map (·.2.2) = List.range' k l.length := by
  intro l
  induction l with
  | nil => intro k; rfl
  | cons x r ih => intro k; simp [mos,ih,List.range'_succ]
 refine ⟨strsV_of h1,nd,?_,?_,hl,hs⟩
 ·rw [h2]; exact List.nodup_range'
 ·intro e he
  obtain ⟨i,h3,h4⟩ := mos_mem he
  have := (List.getElem?_eq_some_iff.1 h3).1
  omega
theorem names93 (D : Fd P E) (hs : E.prim 123 = some (sortedG 153 59)) {h : H} {bm k : Nat} {l : List (V × V)} {ns : List (List UInt8)} (gm : h.get bm = some (mok k l)) (hn : l.map (·.1) = ns.map V.str) (nd : ns.Nodup) (hl : ns.length ≤ 1048576) (hsm : ∀ n ∈ ns,n.length ≤ 1048576) :
  Sp P E (.func 93 [] []) [.map (some bm)] h fun v h' => Nms h h' v (srt ns) := by
 have k1 : Kp h (h.psh (.cells [.map (some bm)] 59 false false none)) := Keeps.psh (Nat.le_refl _) _
 have g1 := psh_same h (.cells [.map (some bm)] 59 false false none)
 have gm1 := k1.of gm
 obtain ⟨hst,hgd⟩ := mos_good (k := k) hn nd hl hsm
 have hk : Sp P E (.func 124 [] []) [.map (some bm)] h fun v h' => v = .func 153 [] [.ptr (some (h.size,0))] ∧ h' = h.psh (.cells [.map (some bm)] 59 false false none) := by
  refine Sp_fn D.f124 D.p124 (by simp [fn124]) ?_
  simp only [GR,evK,binV,intOp,strOp,shOp,unV,Nat.reduceLT,Nat.reduceEqDiff,Nat.reduceAdd,↓reduceIte,Nat.reduceLeDiff,reduceCtorEq,fn124,c124,r124_0,r124_1]
 have hso : sortedG 153 59 [.func 153 [] [.ptr (some (h.size,0))]] (h.psh (.cells [.map (some bm)] 59 false false none)) = some (newNames (h.psh (.cells [.map (some bm)] 59 false false none)) ns) := by
  unfold mok at gm1
  unfold sortedG
  simp only [if_true,g1,gm1,hst,if_pos hgd]
 refine Sp_fn D.f93 D.p93 (by simp [fn93]) ?_
 simp only [GR,evK,binV,intOp,strOp,shOp,unV,Nat.reduceLT,Nat.reduceEqDiff,Nat.reduceAdd,↓reduceIte,Nat.reduceLeDiff,reduceCtorEq,fn93,c93,r93_0]
 refine XC_of hk ?_
 rintro _ h1 ⟨rfl,e1⟩
 rw [← e1] at hso k1
 have hsz : h.size ≤ h1.size := k1.size
 clear e1
 simp only [GR,evK,binV,intOp,strOp,shOp,unV,Nat.reduceLT,Nat.reduceEqDiff,Nat.reduceAdd,↓reduceIte,Nat.reduceLeDiff,reduceCtorEq]
 refine XC_of (R := fun v h' => Nms h h' v (srt ns)) ⟨(newNames h1 ns).1,(newNames h1 ns).2,by rw [AP_prim hs]; exact hso,?_⟩ ?_
 ·unfold newNames
  by_cases h0 : ns = []
  ·rw [if_pos h0]
   subst h0
   exact ⟨none,rfl,fun _ => by simp [srt],by simp,k1⟩
  ·rw [if_neg h0]
   have hne : srt ns ≠ [] := fun e => h0 (List.eq_nil_of_length_eq_zero (by rw [← srt_len,e]; rfl))
   refine ⟨some h1.size,?_,by simp,?_,Kp.trans k1 (Keeps.psh (Nat.le_refl _) _)⟩
   ·rw [srt_len]; rfl
   ·intro b' hb'
    simp only [Option.some.injEq] at hb'
    subst hb'
    exact ⟨hsz,psh_same _ _⟩
 ·intro v h2 hn2
  simp only [GR,evK,binV,intOp,strOp,shOp,unV,Nat.reduceLT,Nat.reduceEqDiff,Nat.reduceAdd,↓reduceIte,Nat.reduceLeDiff,reduceCtorEq]
  exact hn2
theorem names59 (F : Fw P E T) (D : Fd P E) (hs : E.prim 123 = some (sortedG 153 59)) {h : H} {R bd bm k : Nat} {l : List (V × V)} {ns : List (List UInt8)} (gd : h.get bd = some (.cells (diskX R bm) 63 false false none)) (gm : h.get bm = some (mok k l)) (hn : l.map (·.1) = ns.map V.str) (nd : ns.Nodup) (hl : ns.length ≤ 1048576) (hsm : ∀ n ∈ ns,n.length ≤ 1048576) :
  Sp P E (.func 59 [] []) [.ptr (some (bd,0))] h fun r h' => ∃ tb v h0,r = .func 94 [] [.ptr (some (tb,0))] ∧ h.size ≤ tb ∧ h'.get tb = some (.cells [v] 136 false false none) ∧ Nms h h0 v (srt ns) ∧ (∀ b vs,h0.get b = some (.cells vs 9 true false none) → h'.get b = some (.cells vs 9 true false none)) ∧ Kp h h' := by
 have k1 : Kp h (h.psh (.cells [.slice none 0 0 false] 136 false false none)) := Keeps.psh (Nat.le_refl _) _
 have g1 := psh_same h (.cells [.slice none 0 0 false] 136 false false none)
 have gd1 := k1.of gd
 have gm1 := k1.of gm
 refine Sp_fn D.f59 D.p59 (by simp [fn59]) ?_
 simp only [GR,evK,binV,intOp,strOp,shOp,unV,Nat.reduceLT,Nat.reduceEqDiff,Nat.reduceAdd,↓reduceIte,Nat.reduceLeDiff,reduceCtorEq,fn59,c59]
 generalize h.psh (.cells [.slice none 0 0 false] 136 false false none) = h1 at *
 simp only [GR,evK,binV,intOp,strOp,shOp,unV,Nat.reduceLT,Nat.reduceEqDiff,Nat.reduceAdd,↓reduceIte,Nat.reduceLeDiff,reduceCtorEq,r59_0]
 refine XC_of (none55x F gd1) ?_
 rintro _ hx ⟨rfl,e2⟩
 rw [e2]
 clear e2 hx
 have gd1' := gd1
 unfold diskX at gd1'
 simp only [GR,evK,binV,intOp,strOp,shOp,unV,Nat.reduceLT,Nat.reduceEqDiff,Nat.reduceAdd,↓reduceIte,Nat.reduceLeDiff,reduceCtorEq,Bool.not_false,r59_1,gd1']
 refine XC_of (names93 D hs gm1 hn nd hl hsm) ?_
 rintro v h2 hn2
 have hk2 : Kp h1 h2 := by obtain ⟨b,_,_,_,k⟩ := hn2; exact k
 have g2 := hk2.of g1
 obtain ⟨p',c',o',hv⟩ := hn2.shape
 rw [hv] at hn2 ⊢
 have e4 := put_at (ws := [.slice p' (srt ns).length c' o']) (o := 0) g2 (by simp) rfl rfl
 have hset : setR [V.slice none 0 0 false] 0 [.slice p' (srt ns).length c' o'] = [.slice p' (srt ns).length c' o'] := rfl
 rw [hset] at e4
 have hlt := H.get_lt g2
 have k3 : Kp h (h2.set h.size (.cells [.slice p' (srt ns).length c' o'] 136 false false none)) := Keeps.trans (n := h.size) (k1.trans hk2) (Keeps.set hlt (Nat.le_refl _) _)
 simp only [GR,evK,binV,intOp,strOp,shOp,unV,Nat.reduceLT,Nat.reduceEqDiff,Nat.reduceAdd,↓reduceIte,Nat.reduceLeDiff,reduceCtorEq,e4,r59_2]
 refine ⟨h.size,_,h2,rfl,Nat.le_refl _,hset_same hlt _,?_,?_,k3⟩
 ·obtain ⟨b,q1,q2,q3,q4⟩ := hn2
  exact ⟨b,q1,q2,fun b' hb' => ⟨Nat.le_trans k1.size (q3 b' hb').1,(q3 b' hb').2⟩,Kp.trans k1 q4⟩
 ·intro b vs hg
  rw [hset_other hlt (by rintro rfl; rw [g2] at hg; cases hg)]
  exact hg
theorem iter94 (D : Fd P E) {h : H} {tb l : Nat} {v : V} {ns : List (List UInt8)} (hm : ns.length ≤ 1048576) (Inv : Nat → H → Prop) (Stp : H → Prop) (hv : ∃ p c o,v = .slice p ns.length c o)
  (hT : ∀ k h1,Inv k h1 → h1.get tb = some (.cells [v] 136 false false none))
  (hE : ∀ k h1,Inv k h1 → ∀ hk : k < ns.length, ∃ b o c q cs ty op ro fz,v = .slice (some (b,o)) ns.length c q ∧ h1.get b = some (.cells cs ty op ro fz) ∧ cs[o + k]? = some (.str ns[k]))
  (hY : ∀ k h1 (hk : k < ns.length),Inv k h1 → Sp P E (.yield l) [.str ns[k]] h1 fun r h2 => ((r = .bool true ∧ Inv (k + 1) h2) ∨ (r = .bool false ∧ Stp h2)))
  (h0 : Inv 0 h) : Sp P E (.func 94 [] [.ptr (some (tb,0))]) [.yield l] h fun _ h' => Inv ns.length h' ∨ Stp h' := by
 have loop : ∀ (d k : Nat) (ρ : Nat → V) (h1 : H),ns.length - k = d → k ≤ ns.length → Inv k h1 → ρ 0 = .yield l → ρ 5 = v → ρ 6 = .int .i64 ns.length → ρ 7 = .int .i64 k →
   XL P E none 16 b94_4 [.b 0] ρ h1 (Fin [] fun _ h' => Inv ns.length h' ∨ Stp h') := by
  intro d
  induction d with
  | zero =>
   intro k ρ h1 hd hk inv q0 q5 q6 q7
   have hke : ¬ k < ns.length := by omega
   have : k = ns.length := by omega
   subst this
   rw [u94_4]
   simp only [GR,evK,binV,intOp,strOp,shOp,unV,Nat.reduceLT,Nat.reduceEqDiff,Nat.reduceAdd,↓reduceIte,Nat.reduceLeDiff,reduceCtorEq,q6,q7,Int.ofNat_lt,hke]
   exact .inl inv
  | succ d ih =>
   intro k ρ h1 hd hk inv q0 q5 q6 q7
   have hke : k < ns.length := by omega
   obtain ⟨b,o,c,q,cs,ty,op,ro,fz,hvb,hg,hx⟩ := hE k h1 inv hke
   have q5' := q5.trans hvb
   have hw : IntKind.i64.wrap ((k : Int) + 1) = ((k + 1 : Nat) : Int) := wrap_nat (n := k + 1) (by omega)
   rw [u94_4]
   simp only [GR,evK,binV,intOp,strOp,shOp,unV,Nat.reduceLT,Nat.reduceEqDiff,Nat.reduceAdd,↓reduceIte,Nat.reduceLeDiff,reduceCtorEq,q6,q7,Int.ofNat_lt,hke,r94_1,q5',Int.natCast_nonneg,Int.toNat_natCast,Nat.mul_one,hg,hx,r94_2,q0]
   refine XC_of (hY k h1 hke inv) ?_
   rintro r h2 (⟨rfl,inv2⟩ | ⟨rfl,st⟩)
   ·simp only [GR,evK,binV,intOp,strOp,shOp,unV,Nat.reduceLT,Nat.reduceEqDiff,Nat.reduceAdd,↓reduceIte,Nat.reduceLeDiff,reduceCtorEq,Bool.not_true,r94_3,q7,hw]
    refine ih (k + 1) _ h2 (by omega) (by omega) inv2 ?_ ?_ ?_ ?_
    ·exact q0
    ·exact q5
    ·exact q6
    ·rfl
   ·simp only [GR,evK,binV,intOp,strOp,shOp,unV,Nat.reduceLT,Nat.reduceEqDiff,Nat.reduceAdd,↓reduceIte,Nat.reduceLeDiff,reduceCtorEq,Bool.not_false]
    exact .inr st
 have gt := hT 0 h h0
 obtain ⟨p,c,o,hvv⟩ := hv
 rw [hvv] at gt loop
 refine Sp_fn D.f94 D.p94 (by simp [fn94]) ?_
 simp only [GR,evK,binV,intOp,strOp,shOp,unV,Nat.reduceLT,Nat.reduceEqDiff,Nat.reduceAdd,↓reduceIte,Nat.reduceLeDiff,reduceCtorEq,fn94,c94,r94_0,gt]
 refine loop ns.length 0 _ h rfl (Nat.zero_le _) h0 ?_ ?_ ?_ ?_
 ·rfl
 ·rfl
 ·rfl
 ·rfl
end Go.AM.Wc
