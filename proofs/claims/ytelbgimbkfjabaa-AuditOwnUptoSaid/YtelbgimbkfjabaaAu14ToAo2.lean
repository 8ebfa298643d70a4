/- My own texts, laid for this claim. -/
import Derived.Test.YtelbgimbkfjabaaAg6ToAu13
set_option linter.unusedSimpArgs false
set_option linter.unusedVariables false
namespace Go.AM.Sc
open Go.AM
variable {P : Program} {E : Env}
theorem View.hfill (x : View) : x.cells ++ List.drop 21 [iI 0,iI 0,.bool false,.bool false,.bool false,iI 0,iI 0,sN,iI 0,iI 0,iI 0,iI 0,iI 0,iI 0,iI 0,iI 0,iI 0,iI 0,iI 0,sN,sN] = x.cells := by simp
set_option maxHeartbeats 2000000 in
theorem sel10 (F : Fa E) {v : V} {vs : List WV} {g : Int} {h0 : H} (hv : VsIn h0 v vs) {K : List Fr} {Q : Po}
  (cont : ∀ (ρ' : Nat → V) (h' : H),ρ' 1 = iI g → Acc h' h0.size 63 21 (ρ' 6) ((selG g vs).map fun w => w.x.cells) → Kp h0 h' → X P E none 85 K ρ' h' Q) :
  ∀ (d k : Nat) (ρ : Nat → V) (h : H),vs.length - k = d → k ≤ vs.length → ρ 1 = iI g → ρ 18 = v → ρ 19 = iI vs.length → ρ 20 = iI k → Acc h h0.size 63 21 (ρ 6) ((selG g (vs.take k)).map fun w => w.x.cells) → Kp h0 h →
   XL P E none 85 b10_6 (.b 0 :: K) ρ h Q := by
 have hl := hv.len
 intro d
 induction d with
 | zero =>
  intro k ρ h hd hk q1 q18 q19 q20 ha hkp
  have hke : ¬ k < vs.length := by omega
  rw [List.take_of_length_le (by omega)] at ha
  rw [u10_6]
  simp only [GR,evK,binV,intOp,strOp,unV,Nat.reduceLT,Nat.reduceEqDiff,↓reduceIte,q19,q20,Int.ofNat_lt,hke]
  exact cont _ _ q1 ha hkp
 | succ d ih =>
  intro k ρ h hd hk q1 q18 q19 q20 ha hkp
  have hke : k < vs.length := by omega
  obtain ⟨b,o,cap,opn,cs,ty,op,ro,fz,v1,hg,hll,he⟩ := (hv.sl.keep hkp).get (k := k) (x := vs[k].x.cells) (by simp [hke])
  have qe : ∀ u : V,u = v → u = V.slice (some (b,o)) vs.length cap opn := fun u hu => by rw [hu,v1,List.length_map]
  have q18' := qe _ q18
  have dx := (hv.ins _ (List.getElem_mem hke)).keep hkp
  have fl : ∀ z : View,z.cells.length = 21 := fun _ => rfl
  have p0 : ∀ z : View,List.take 21 z.cells = z.cells := fun _ => rfl
  obtain ⟨h3,e3,g3,k3,z3⟩ := put_ex (o := 0) (ws := vs[k].x.cells) (psh_same h (.cells View.zero.cells 63 false false none)) (by rw [fl,fl]; decide) dx.one rfl
  have g3' : h3.get h.size = some (.cells vs[k].x.cells 63 false false none) := g3
  have k3' : Kp h h3 := Keeps.trans (Keeps.psh (Nat.le_refl _) _) k3
  have kk := hkp.trans k3'
  have ha3 := ha.keep k3'
  unfold getR at he
  have hw : IntKind.i64.wrap ((k : Int) + 1) = ((k + 1 : Nat) : Int) := wrap_nat (n := k + 1) (by omega)
  have flx := fl vs[k].x
  have p0x := p0 vs[k].x
  have f0 := View.g0 vs[k].x
  have f2 := View.g2 vs[k].x
  have f6 := View.g6 vs[k].x
  have hls := selG_len g (vs.take k)
  rw [List.length_take] at hls
  have htk := selG_take (g := g) hke
  have done : ∀ (ρ' : Nat → V),isG g vs[k] = false → ρ' 6 = ρ 6 → ρ' 1 = iI g → ρ' 18 = ρ 18 → ρ' 19 = iI vs.length → ρ' 20 = iI ((k + 1 : Nat) : Int) → XL P E none 85 b10_6 (.b 0 :: K) ρ' h3 Q := by
   intro ρ' hi w6 w1 w18 w19 w20
   rw [hi] at htk
   exact ih (k + 1) ρ' h3 (by omega) (by omega) w1 (w18.trans q18) w19 w20 (by rw [htk,w6]; simpa using ha3) kk
  have hone := dx.one
  have hfill := View.hfill vs[k].x
  generalize hxc : vs[k].x.cells = xc at *
  simp only [View.zero,View.cells] at e3
  rw [u10_6]
  cases hu : vs[k].x.up with
  | false =>
   have hi : isG g vs[k] = false := by simp [isG,hu]
   rw [hu] at f2
   simp only [GR,evK,binV,intOp,strOp,unV,Nat.reduceLT,Nat.reduceEqDiff,↓reduceIte,q19,q20,Int.ofNat_lt,hke,r10_2,r10_3,q18',hg,hll,he,Int.natCast_nonneg,Int.toNat_natCast,flx,p0x,e3,g3',f2,r10_5,hw]
   exact done _ hi rfl q1 rfl q19 rfl
  | true =>
   rw [hu] at f2
   by_cases hgr : vs[k].x.at_.group = g
   ·have hb : (vs[k].x.at_.group == g) = true := by simp [hgr]
    have hi : isG g vs[k] = okF vs[k].x.first := by simp [isG,hu,hgr]
    simp only [GR,evK,binV,intOp,strOp,unV,Nat.reduceLT,Nat.reduceEqDiff,↓reduceIte,q19,q20,Int.ofNat_lt,hke,r10_2,r10_3,q18',hg,hll,he,Int.natCast_nonneg,Int.toNat_natCast,flx,p0x,e3,g3',f2,f0,q1,hb,f6]
    refine XC_of (count30 F) ?_
    rintro _ h4 ⟨rfl,rfl⟩
    cases hok : okF vs[k].x.first with
    | false =>
     rw [hok] at hi
     simp only [GR,evK,binV,intOp,strOp,unV,Nat.reduceLT,Nat.reduceEqDiff,↓reduceIte,r10_5,q20,hw]
     exact done _ hi rfl q1 rfl q19 rfl
    | true =>
     rw [hok] at hi
     rw [hi,if_pos rfl] at htk
     have kp : Kp h4 (h4.psh (.cells xc 63 false false none)) := Keeps.psh (Nat.le_refl _) _
     have kk4 := kk.trans kp
     obtain ⟨v',h',e5,e6,e7⟩ := app_acc (x := .slice (some (h4.size,0)) 1 1 false) (ys := [xc]) (bytes := 200) (ha3.keep kp) kk4.size rfl (elems_psh flx (by decide)) (by intro y hy; rw [List.mem_singleton.1 hy]; exact ⟨flx,hone⟩) (by rw [List.length_map,List.length_singleton]; omega)
     simp only [GR,evK,binV,intOp,strOp,unV,Nat.reduceLT,Nat.reduceEqDiff,↓reduceIte,r10_4,g3',flx,p0x,hfill,e5,r10_5,q20,hw]
     refine ih (k + 1) _ h' (by omega) (by omega) q1 q18 q19 rfl ?_ (Keeps.trans (n := h0.size) kk4 e7)
     rw [htk,List.map_append,List.map_cons,List.map_nil,hxc]
     exact e6
   ·have hb : (vs[k].x.at_.group == g) = false := by simp [hgr]
    have hi : isG g vs[k] = false := by simp [isG,hgr]
    simp only [GR,evK,binV,intOp,strOp,unV,Nat.reduceLT,Nat.reduceEqDiff,↓reduceIte,q19,q20,Int.ofNat_lt,hke,r10_2,r10_3,q18',hg,hll,he,Int.natCast_nonneg,Int.toNat_natCast,flx,p0x,e3,g3',f2,f0,q1,hb,r10_5,hw]
    exact done _ hi rfl q1 rfl q19 rfl
theorem minmax_ok (a b : Int) : minmaxV false (iI a) [iI b] = some (iI (lessI a b)) := by
 simp only [minmaxV,lessI]
 simp
set_option maxHeartbeats 2000000 in
theorem least10 (F : Fa E) {sv : V} {ss : List WV} {a0 : Int} {h0 : H} (hs : Sl h0 21 sv (ss.map fun w => w.x.cells)) (hone : ∀ w ∈ ss,w.x.cells.all V.one = true) (hl : ss.length ≤ 1048576) {K : List Fr} {Q : Po}
  (cont : ∀ (ρ' : Nat → V) (h' : H),ρ' 6 = sv → ρ' 9 = iI (ss.foldl (fun a w => lessI a w.x.first) a0) → Kp h0 h' → X P E none 85 K ρ' h' Q) :
  ∀ (d k : Nat) (ρ : Nat → V) (h : H),ss.length - k = d → k ≤ ss.length → ρ 6 = sv → ρ 50 = sv → ρ 51 = iI ss.length → ρ 52 = iI k → ρ 9 = iI ((ss.take k).foldl (fun a w => lessI a w.x.first) a0) → Kp h0 h →
   XL P E none 85 b10_14 (.b 2 :: K) ρ h Q := by
 intro d
 induction d with
 | zero =>
  intro k ρ h hd hk q6 q50 q51 q52 q9 hkp
  have hke : ¬ k < ss.length := by omega
  rw [List.take_of_length_le (by omega)] at q9
  rw [u10_14]
  simp only [GR,evK,binV,intOp,strOp,unV,Nat.reduceLT,Nat.reduceEqDiff,↓reduceIte,q51,q52,Int.ofNat_lt,hke]
  exact cont _ _ q6 q9 hkp
 | succ d ih =>
  intro k ρ h hd hk q6 q50 q51 q52 q9 hkp
  have hke : k < ss.length := by omega
  obtain ⟨b,o,cap,opn,cs,ty,op,ro,fz,v1,hg,hll,he⟩ := (hs.keep hkp).get (k := k) (x := ss[k].x.cells) (by simp [hke])
  have q50' : ρ 50 = V.slice (some (b,o)) ss.length cap opn := by rw [q50,v1,List.length_map]
  have fl : ∀ z : View,z.cells.length = 21 := fun _ => rfl
  have p0 : ∀ z : View,List.take 21 z.cells = z.cells := fun _ => rfl
  obtain ⟨h3,e3,g3,k3,z3⟩ := put_ex (o := 0) (ws := ss[k].x.cells) (psh_same h (.cells View.zero.cells 63 false false none)) (by rw [fl,fl]; decide) (hone _ (List.getElem_mem hke)) rfl
  have g3' : h3.get h.size = some (.cells ss[k].x.cells 63 false false none) := g3
  have k3' : Kp h h3 := Keeps.trans (Keeps.psh (Nat.le_refl _) _) k3
  unfold getR at he
  have hw : IntKind.i64.wrap ((k : Int) + 1) = ((k + 1 : Nat) : Int) := wrap_nat (n := k + 1) (by omega)
  have flx := fl ss[k].x
  have p0x := p0 ss[k].x
  have f6 := View.g6 ss[k].x
  generalize hxc : ss[k].x.cells = xc at *
  simp only [View.zero,View.cells] at e3
  rw [u10_14]
  simp only [GR,evK,binV,intOp,strOp,unV,Nat.reduceLT,Nat.reduceEqDiff,↓reduceIte,q51,q52,Int.ofNat_lt,hke,r10_11,r10_12,q50',hg,hll,he,Int.natCast_nonneg,Int.toNat_natCast,flx,p0x,e3,g3',f6,q9,minmax_ok,r10_13,hw]
  refine ih (k + 1) _ h3 (by omega) (by omega) q6 q50 q51 rfl ?_ (hkp.trans k3')
  rw [List.take_succ_eq_append_getElem hke,List.foldl_append]
  rfl
theorem Entry.hfill (x : Entry) : x.cells ++ List.drop 56 [iI 0,iI 0,iI 0,iI 0,iI 0,iI 0,iI 0,iI 0,.str [],.str [],.str [],iI 0,iI 0,sN,iI 0,iI 0,iI 0,iI 0,iI 0,iI 0,iI 0,iI 0,iI 0,iI 0,iI 0,iI 0,iI 0,iI 0,iI 0,iI 0,iI 0,iI 0,iI 0,iI 0,iI 0,iI 0,iI 0,iI 0,iI 0,iI 0,iI 0,iI 0,iI 0,iI 0,iI 0,iI 0,iI 0,iI 0,iI 0,iI 0,iI 0,iI 0,sN,iI 0,iI 0,iI 0] = x.cells := by
 have : List.drop 56 [iI 0,iI 0,iI 0,iI 0,iI 0,iI 0,iI 0,iI 0,.str [],.str [],.str [],iI 0,iI 0,sN,iI 0,iI 0,iI 0,iI 0,iI 0,iI 0,iI 0,iI 0,iI 0,iI 0,iI 0,iI 0,iI 0,iI 0,iI 0,iI 0,iI 0,iI 0,iI 0,iI 0,iI 0,iI 0,iI 0,iI 0,iI 0,iI 0,iI 0,iI 0,iI 0,iI 0,iI 0,iI 0,iI 0,iI 0,iI 0,iI 0,iI 0,iI 0,sN,iI 0,iI 0,iI 0] = ([] : List V) := rfl
 rw [this,List.append_nil]
theorem SlF.kc {lo : Nat} {h h' : H} {v : V} {sz : Nat} {xs : List (List V)} (a : SlF lo h v sz xs) (k : KC h h') : SlF lo h' v sz xs := by
 rcases a with a | ⟨b,ty,h1,h2,h3⟩
 ·exact .inl a
 ·exact .inr ⟨b,ty,h1,h2,k _ _ _ _ _ _ h3⟩
theorem DFr.kc {lo : Nat} {h h' : H} {v : V} {s : List UInt8} (a : DFr lo h v s) (k : KC h h') : DFr lo h' v s := by
 rcases a with a | ⟨b,ty,cs,h1,h2,h3,h4⟩
 ·exact .inl a
 ·exact .inr ⟨b,ty,cs,h1,h2,k _ _ _ _ _ _ h3,h4⟩
theorem EFr.kc {lo : Nat} {h h' : H} {x : Entry} {d : DEnt} (a : EFr lo h x d) (k : KC h h') : EFr lo h' x d := ⟨a.flat,a.ops.kc k,a.len,a.dat.kc k,a.dlen⟩
structure Out (h : H) (lo : Nat) (v : V) (ps : List (Entry × DEnt)) : Prop where
 acc : Acc h lo 49 56 v (ps.map fun p => p.1.cells)
 ins : ∀ p ∈ ps,EFr lo (cutV h v) p.1 p.2
theorem Out.low {h : H} {lo lo' : Nat} {v : V} {ps : List (Entry × DEnt)} (a : Out h lo v ps) (k : lo' ≤ lo) : Out h lo' v ps := ⟨a.acc.lo k,fun p hp => (a.ins p hp).lo k⟩
def LogOutF (lo : Nat) (h : H) (l : List WV) (r : V) : Prop := ∃ (v : V) (ps : List (Entry × DEnt)),r = .tup [iI (leastG l),v] ∧ Out h lo v ps ∧ ps.map (·.2) = fullG l ∧ ps.length ≤ 1048576
theorem LogOutF.out {lo : Nat} {h : H} {l : List WV} {r : V} (a : LogOutF lo h l r) : LogOut h l r := by
 obtain ⟨v,ps,h1,h2,h3,h4⟩ := a
 exact ⟨v,ps,h1,h2.acc.sl,fun p hp => ((h2.ins p hp).kc (cut_kc _ _)).ein,h3,h4⟩
theorem LogOutF.low {lo lo' : Nat} {h : H} {l : List WV} {r : V} (a : LogOutF lo h l r) (k : lo' ≤ lo) : LogOutF lo' h l r := by
 obtain ⟨v,ps,h1,h2,h3⟩ := a
 exact ⟨v,ps,h1,h2.low k,h3⟩
theorem Out.nil (h : H) (lo : Nat) : Out h lo sN [] := ⟨Acc.nil _ _ _ _,by simp⟩
theorem Out.keep {h h' : H} {lo : Nat} {v : V} {ps : List (Entry × DEnt)} (a : Out h lo v ps) (k : Kp h h') : Out h' lo v ps :=
 ⟨a.acc.keep k,fun p hp => (a.ins p hp).kc (cut_kp k a.acc)⟩
theorem Out.app {h h6 : H} {lo n : Nat} {v : V} {ps : List (Entry × DEnt)} (a : Out h lo v ps) (k : Kp h h6) (hlo : lo ≤ h.size) (hn : h.size ≤ n) {x : Entry} {d : DEnt} (hx : EFr n h6 x d) (hl : ps.length ≤ 1048576) :
  ∃ v' h',appV (h6.psh (.cells x.cells 49 false false none)) 49 56 504 v (.slice (some (h6.size,0)) 1 1 false) = some (.eff v' h') ∧ Out h' lo v' (ps ++ [(x,d)]) ∧ Keeps lo h6 h' := by
 have k7 : Kp h6 (h6.psh (.cells x.cells 49 false false none)) := Keeps.psh (Nat.le_refl _) _
 have kk := k.trans k7
 have hs6 := k.size
 have he := elems_psh (h := h6) (cs := x.cells) (ty := 49) (sz := 56) rfl (by decide)
 obtain ⟨v',h',e1,e2,e3,e4⟩ := app_one (bytes := 504) (x := .slice (some (h6.size,0)) 1 1 false) (y := x.cells) (a.acc.keep kk) (by rw [psh_size]; omega) rfl (by simpa using he) ⟨rfl,hx.ein.one⟩ (by rw [List.length_map]; omega)
 refine ⟨v',h',e1,⟨by rw [List.map_append]; exact e2,fun p hp => ?_⟩,(k7.mono (by omega)).trans e3⟩
 rcases List.mem_append.1 hp with hp | hp
 ·exact (a.ins p hp).kc ((cut_kp kk a.acc).trans e4)
 ·rw [List.mem_singleton.1 hp]
  have hx7 := hx.mv (KL.kp k7 n)
  have : EFr lo (cutV (h6.psh (.cells x.cells 49 false false none)) v) x d := by
   refine EFr.lo (lo := n) ?_ (by omega)
   unfold cutV
   split
   ·rename_i b q m c o
    exact hx7.mv (KL.cut (Nat.lt_of_lt_of_le (Acc.lt a.acc rfl) hn))
   ·exact hx7
  exact this.kc e4
theorem hit_first {l : List WV} {s : Int} {k : Nat} (hk : k < l.length) (hn : ∀ w ∈ l.take k,atW w s = none) {p : Entry × DEnt} (hp : atW l[k] s = some p) : hitG l s = some p := by
 unfold hitG
 rw [← List.take_append_drop k l,List.findSome?_append,List.findSome?_eq_none_iff.2 hn,List.drop_eq_getElem_cons hk,List.findSome?_cons,hp]
 rfl
theorem hit_none {l : List WV} {s : Int} (hn : ∀ w ∈ l,atW w s = none) : hitG l s = none := List.findSome?_eq_none_iff.2 hn
theorem at_in {h : H} {w : WV} (hw : VIn h w) {s : Int} {p : Entry × DEnt} (hp : atW w s = some p) : EIn h p.1 p.2 := hw.ents p (at_range hp).2.2
theorem zero_one : Entry.zero.cells.all V.one = true := by decide
theorem entOf_one {h : H} {w : WV} (hw : VIn h w) (s : Int) : (entOf (atW w s)).cells.all V.one = true := by
 cases hp : atW w s with
 | none => exact zero_one
 | some p => exact (at_in hw hp).one
set_option maxHeartbeats 4000000 in
theorem inner10 (F : Fa E) {sv : V} {ss : List WV} {hL : H} (hs : Sl hL 21 sv (ss.map fun w => w.x.cells)) (hins : ∀ w ∈ ss,VIn hL w) (hok : ∀ w ∈ ss,okF w.x.first = true) (hl : ss.length ≤ 1048576) {s : Int} (hs0 : 0 ≤ s) (hs1 : s ≤ 9223372036854775806)
  {ps : List (Entry × DEnt)} (hpl : ps.length ≤ 1048576) {u : V} {K : List Fr} {Q : Po}
  (contN : ∀ (ρ' : Nat → V) (h' : H) (ov : V),(∀ w ∈ ss,atW w s = none) → ρ' 9 = u → ρ' 12 = ov → Out h' hL.size ov ps → Kp hL h' → XO P E none 85 r10_22 (.c .ret :: .b 5 :: K) ρ' h' Q)
  (contH : ∀ (ρ' : Nat → V) (h' : H) (ov : V) (p : Entry × DEnt) (x : Entry),hitG ss s = some p → ρ' 6 = sv → ρ' 9 = u → ρ' 13 = iI s → ρ' 12 = ov → Out h' hL.size ov (ps ++ [(x,p.2)]) → Kp hL h' → X P E none 85 K ρ' h' Q) :
  ∀ (d k : Nat) (ρ : Nat → V) (h : H) (ov : V),ss.length - k = d → k ≤ ss.length → ρ 6 = sv → ρ 9 = u → ρ 12 = ov → ρ 13 = iI s → ρ 64 = sv → ρ 65 = iI ss.length → ρ 66 = iI k → (∀ w ∈ ss.take k,atW w s = none) → Out h hL.size ov ps → Kp hL h →
   XL P E none 85 b10_21 (.b 6 :: .c (.seq (.region r10_22) (.ret)) :: .b 5 :: K) ρ h Q := by
 intro d
 induction d with
 | zero =>
  intro k ρ h ov hd hk q6 q9 q12 q13 q64 q65 q66 hn ho hkp
  have hke : ¬ k < ss.length := by omega
  rw [List.take_of_length_le (by omega)] at hn
  rw [u10_21]
  simp only [GR,evK,binV,intOp,strOp,unV,Nat.reduceLT,Nat.reduceEqDiff,↓reduceIte,q65,q66,Int.ofNat_lt,hke]
  exact contN _ h ov hn q9 q12 ho hkp
 | succ d ih =>
  intro k ρ h ov hd hk q6 q9 q12 q13 q64 q65 q66 hn ho hkp
  have hke : k < ss.length := by omega
  obtain ⟨b,o,cap,opn,cs,ty,op,ro,fz,v1,hg,hll,he⟩ := (hs.keep hkp).get (k := k) (x := ss[k].x.cells) (by simp [hke])
  have q64' : ρ 64 = V.slice (some (b,o)) ss.length cap opn := by rw [q64,v1,List.length_map]
  have hmem := List.getElem_mem hke
  have dx := (hins _ hmem).keep hkp
  have fl : ∀ z : View,z.cells.length = 21 := fun _ => rfl
  have p0 : ∀ z : View,List.take 21 z.cells = z.cells := fun _ => rfl
  obtain ⟨h3,e3,g3,k3,z3⟩ := put_ex (o := 0) (ws := ss[k].x.cells) (psh_same h (.cells View.zero.cells 63 false false none)) (by rw [fl,fl]; decide) dx.one rfl
  have g3' : h3.get h.size = some (.cells ss[k].x.cells 63 false false none) := g3
  have k3' : Kp h h3 := Keeps.trans (Keeps.psh (Nat.le_refl _) _) k3
  have dx3 := dx.keep k3'
  unfold getR at he
  have hw : IntKind.i64.wrap ((k : Int) + 1) = ((k + 1 : Nat) : Int) := wrap_nat (n := k + 1) (by omega)
  have flx := fl ss[k].x
  have p0x := p0 ss[k].x
  have sp := at31 (P := P) F (s := s) dx3 (hok _ hmem) (by omega) (by omega)
  generalize hxc : ss[k].x.cells = xc at *
  simp only [View.zero,View.cells] at e3
  rw [u10_21]
  simp only [GR,evK,binV,intOp,strOp,unV,Nat.reduceLT,Nat.reduceEqDiff,↓reduceIte,q65,q66,Int.ofNat_lt,hke,r10_17,r10_18,q64',hg,hll,he,Int.natCast_nonneg,Int.toNat_natCast,flx,p0x,e3,g3',q13]
  refine XC_of sp ?_
  rintro _ h4 ⟨rfl,k4⟩
  have fe : ∀ z : Entry,z.cells.length = 56 := fun _ => rfl
  have pe : ∀ z : Entry,List.take 56 z.cells = z.cells := fun _ => rfl
  have hone4 := entOf_one dx3 s
  obtain ⟨h5,e5,g5,k5,z5⟩ := put_ex (o := 0) (ws := (entOf (atW ss[k] s)).cells) (psh_same h4 (.cells Entry.zero.cells 49 false false none)) (by rw [fe,fe]; decide) hone4 rfl
  have g5' : cC h5 h4.size (entOf (atW ss[k] s)).cells 49 := g5
  have k5' : Kp h4 h5 := Keeps.trans (Keeps.psh (Nat.le_refl _) _) k5
  have kk := (k3'.trans k4).trans k5'
  have fle := fe (entOf (atW ss[k] s))
  have p0e := pe (entOf (atW ss[k] s))
  cases hp : atW ss[k] s with
  | none =>
   rw [hp] at e5 g5' fle p0e
   generalize hyc : (entOf none).cells = yc at *
   simp only [Entry.zero,Entry.cells,Opr.cells,Epoch.cells,Vec.cells,Part.cells] at e5
   simp only [GR,evK,binV,intOp,strOp,unV,Nat.reduceLT,Nat.reduceEqDiff,↓reduceIte,fle,e5,Option.isSome_none,r10_20,q66,hw]
   refine ih (k + 1) _ h5 ov (by omega) (by omega) q6 q9 q12 q13 q64 q65 rfl ?_ (ho.keep kk) (hkp.trans kk)
   rw [List.take_succ_eq_append_getElem hke]
   intro w hw'
   rcases List.mem_append.1 hw' with hw' | hw'
   ·exact hn w hw'
   ·rw [List.mem_singleton.1 hw']; exact hp
  | some p =>
   rw [hp] at e5 g5' fle p0e
   have hh := hit_first hke hn hp
   have ein := (at_in dx3 hp).keep (k4.trans k5')
   have sp2 := clone32 (P := P) F ein
   have hent : (entOf (some p)).cells = p.1.cells := rfl
   rw [hent] at e5 g5' fle p0e
   generalize hyc : p.1.cells = yc at *
   rw [hent]
   simp only [Entry.zero,Entry.cells,Opr.cells,Epoch.cells,Vec.cells,Part.cells] at e5
   simp only [GR,evK,binV,intOp,strOp,unV,Nat.reduceLT,Nat.reduceEqDiff,↓reduceIte,hyc,fle,e5,Option.isSome_some,r10_19,g5',p0e]
   refine XC_of sp2 ?_
   rintro _ h6 ⟨⟨x',rfl,hfr⟩,k6⟩
   obtain ⟨v',h8,e8,ho8,k8⟩ := ho.app (kk.trans k6) hkp.size kk.size hfr hpl
   have flx' := fe x'
   have hfill := Entry.hfill x'
   generalize hzc : x'.cells = zc at *
   simp only [GR,evK,binV,intOp,strOp,unV,Nat.reduceLT,Nat.reduceEqDiff,↓reduceIte,flx',hfill,q12,e8]
   exact contH _ h8 v' p x' hh q6 q9 q13 rfl ho8 (Keeps.trans (n := hL.size) (hkp.trans (kk.trans k6)) k8)
set_option maxHeartbeats 4000000 in
theorem outer10 (F : Fa E) {sv : V} {ss : List WV} {hL : H} (hs : Sl hL 21 sv (ss.map fun w => w.x.cells)) (hins : ∀ w ∈ ss,VIn hL w) (hok : ∀ w ∈ ss,okF w.x.first = true) (hl : ss.length ≤ 1048576) (htot : totG ss ≤ 1048576) (hl0 : 0 ≤ leastG ss) (hl1 : leastG ss ≤ 1099511627776) {Q : V → H → Prop} (hQ : ∀ r h',LogOutF hL.size h' ss r → Kp hL h' → Q r h') :
  ∀ (n i : Nat) (ps : List (Entry × DEnt)) (ρ : Nat → V) (h : H) (ov : V),fuelG ss - i = n → LI ss i ps → ρ 6 = sv → ρ 9 = iI (leastG ss) → ρ 12 = ov → ρ 13 = iI (leastG ss + i) → Out h hL.size ov ps → Kp hL h →
   XL P E none 85 b10_24 [.b 4] ρ h (Fin [.t 4,.t 5] Q) := by
 obtain ⟨a1,c1,o1,e1⟩ := hs.len
 rw [List.length_map] at e1
 intro n
 induction n with
 | zero =>
  intro i ps ρ h ov hn hi q6 q9 q12 q13 ho hkp
  have hle := hi.le
  rw [u10_24]
  simp only [GR,evK,binV,intOp,strOp,unV,Nat.reduceLT,Nat.reduceEqDiff,↓reduceIte,r10_16,q6,e1]
  refine inner10 F hs hins hok hl (s := leastG ss + i) (by omega) (by omega) (by rw [hi.len]; omega) (u := iI (leastG ss)) (fun ρ' h' ov' hno w9 w12 ho' k' => ?_) (fun ρ' h' ov' p x hh w6 w9 w13 w12 ho' k' => ?_) _ 0 _ h ov rfl (Nat.zero_le _) q6 q9 q12 q13 e1.symm rfl rfl (by simp) ho hkp
  ·simp only [GR,evK,binV,intOp,strOp,unV,Nat.reduceLT,Nat.reduceEqDiff,↓reduceIte,r10_22,w9,w12]
   exact hQ _ _ ⟨ov',ps,rfl,ho',hi.done (hit_none hno),by rw [hi.len]; omega⟩ k'
  ·have := hit_top hh
   unfold fuelG at hn
   omega
 | succ n ih =>
  intro i ps ρ h ov hn hi q6 q9 q12 q13 ho hkp
  have hle := hi.le
  rw [u10_24]
  simp only [GR,evK,binV,intOp,strOp,unV,Nat.reduceLT,Nat.reduceEqDiff,↓reduceIte,r10_16,q6,e1]
  refine inner10 F hs hins hok hl (s := leastG ss + i) (by omega) (by omega) (by rw [hi.len]; omega) (u := iI (leastG ss)) (fun ρ' h' ov' hno w9 w12 ho' k' => ?_) (fun ρ' h' ov' p x hh w6 w9 w13 w12 ho' k' => ?_) _ 0 _ h ov rfl (Nat.zero_le _) q6 q9 q12 q13 e1.symm rfl rfl (by simp) ho hkp
  ·simp only [GR,evK,binV,intOp,strOp,unV,Nat.reduceLT,Nat.reduceEqDiff,↓reduceIte,r10_22,w9,w12]
   exact hQ _ _ ⟨ov',ps,rfl,ho',hi.done (hit_none hno),by rw [hi.len]; omega⟩ k'
  ·have hw : IntKind.i64.wrap (leastG ss + i + 1) = leastG ss + ((i + 1 : Nat) : Int) := by rw [wrapI (by omega) (by omega)]; omega
   simp only [GR,evK,binV,intOp,strOp,unV,Nat.reduceLT,Nat.reduceEqDiff,↓reduceIte,r10_23,w13,hw]
   exact ih (i + 1) _ _ h' ov' (by omega) (hi.step hh) w6 w9 w12 rfl ho' k'
set_option maxHeartbeats 4000000 in
theorem log10 (F : Fa E) {v : V} {vs : List WV} {g : Int} {h0 : H} (hv : VsIn h0 v vs) (ht : totG vs ≤ 1048576) : Sp P E (.func 10 [] []) [v,iI g] h0 fun r h' => LogOutF h0.size h' (selG g vs) r ∧ Kp h0 h' := by
 obtain ⟨a1,c1,o1,e1⟩ := hv.sl.len
 rw [List.length_map] at e1
 have hl := hv.len
 have hsl := selG_len g vs
 obtain ⟨lk0,lk1⟩ := least_ok (g := g) (vs := vs)
 refine Sp_fn F.f10 F.p10 (by simp [fn10]) ?_
 simp only [GR,evK,binV,intOp,strOp,unV,Nat.reduceLT,Nat.reduceEqDiff,↓reduceIte,fn10,c10,r10_0,r10_1,e1]
 refine sel10 F hv (fun ρ1 h1 w1 ha k1 => ?_) _ 0 _ h0 rfl (Nat.zero_le _) rfl e1.symm rfl rfl (Acc.nil _ _ _ _) (Keeps.refl _ _)
 have hs := ha.sl
 obtain ⟨b1,c2,o2,e2⟩ := hs.len
 rw [List.length_map] at e2
 have hins : ∀ w ∈ selG g vs,VIn h1 w := fun w hw => (hv.ins w (sel_ok hw).1).keep k1
 have hok : ∀ w ∈ selG g vs,okF w.x.first = true := fun w hw => okF_iff.2 (sel_ok hw).2
 have htot : totG (selG g vs) ≤ 1048576 := Nat.le_trans (tot_filter _ _) ht
 cases hss : selG g vs with
 | nil =>
  rw [hss] at e2
  have z0 : (((0 : Nat) : Int) == 0) = true := rfl
  simp only [GR,evK,binV,intOp,strOp,unV,Nat.reduceLT,Nat.reduceEqDiff,↓reduceIte,r10_7,e2,List.length_nil,z0,r10_8]
  exact ⟨⟨sN,[],rfl,Out.nil _ _,rfl,by simp⟩,k1⟩
 | cons f r =>
  rw [hss] at e2 hs hins hok htot hsl lk0 lk1
  obtain ⟨b,o,cap,opn,cs,ty,op,ro,fz,v1,hg,hll,he⟩ := hs.get (k := 0) (x := f.x.cells) (by simp)
  rw [List.length_map,List.length_cons] at v1
  have f6 := cell_get he hll 6 _ (by decide) (View.g6 f.x)
  have z0 : (((r.length + 1 : Nat) : Int) == 0) = false := by
   rw [beq_eq_false_iff_ne]; omega
  have c00 : (0 : Int) ≤ 0 := Int.le_refl _
  have t00 : Int.toNat 0 = 0 := rfl
  have hn0 : (0 : Int) < ((r.length + 1 : Nat) : Int) := by omega
  simp only [GR,evK,binV,intOp,strOp,unV,Nat.reduceLT,Nat.reduceEqDiff,↓reduceIte,r10_7,v1,z0,r10_9,hn0,c00,t00,hg,f6,r10_10]
  refine least10 F hs (a0 := f.x.first) (fun w hw => (hins w hw).one) (by omega) (fun ρ2 h2 w6 w9 k2 => ?_) _ 0 _ h1 rfl (Nat.zero_le _) rfl v1.symm rfl rfl rfl (Keeps.refl _ _)
  have hfold : (f :: r).foldl (fun a w => lessI a w.x.first) f.x.first = leastG (f :: r) := by
   simp only [List.foldl_cons,leastG]
   congr 1
   unfold lessI; split <;> rfl
  rw [hfold] at w9
  have hz : leastG (f :: r) = leastG (f :: r) + ((0 : Nat) : Int) := by omega
  simp only [GR,evK,binV,intOp,strOp,unV,Nat.reduceLT,Nat.reduceEqDiff,↓reduceIte,r10_15,w9]
  exact outer10 F (hs.keep k2) (fun w hw => (hins w hw).keep k2) hok (by omega) htot lk0 lk1 (fun r' h' ho hk => ⟨ho.low (k1.trans k2).size,(k1.trans k2).trans hk⟩) _ 0 [] _ h2 _ rfl (LI.zero _) w6 w9 rfl (by rw [← hz]; rfl) (Out.nil _ _) (Keeps.refl _ _)
theorem least_snoc {S : List WV} {w : WV} : leastG (S ++ [w]) = if S.isEmpty then w.x.first else lessI (leastG S) w.x.first := by
 cases S with
 | nil => rfl
 | cons f r =>
  show leastG (f :: (r ++ [w])) = _
  simp only [leastG,List.foldl_append,List.foldl_cons,List.foldl_nil,List.isEmpty_cons,Bool.false_eq_true,if_false]
set_option maxHeartbeats 4000000 in
theorem least9 (F : Fa E) {v : V} {vs : List WV} {g : Int} {h0 : H} (hv : VsIn h0 v vs) {K : List Fr} {Q : Po}
  (cont : ∀ (ρ' : Nat → V) (h' : H),ρ' 0 = v → ρ' 1 = iI g → ρ' 6 = iI (leastG (selG g vs)) → ρ' 7 = .bool (!(selG g vs).isEmpty) → Kp h0 h' → X P E none 109 K ρ' h' Q) :
  ∀ (d k : Nat) (ρ : Nat → V) (h : H),vs.length - k = d → k ≤ vs.length → ρ 0 = v → ρ 1 = iI g → ρ 8 = iI k → ρ 6 = iI (leastG (selG g (vs.take k))) → ρ 7 = .bool (!(selG g (vs.take k)).isEmpty) → Kp h0 h →
   XL P E none 109 b9_5 (.b 0 :: K) ρ h Q := by
 obtain ⟨a1,c1,o1,e1⟩ := hv.sl.len
 rw [List.length_map] at e1
 have hl := hv.len
 intro d
 induction d with
 | zero =>
  intro k ρ h hd hk q0 q1 q8 q6 q7 hkp
  have hke : ¬ k < vs.length := by omega
  rw [List.take_of_length_le (by omega)] at q6 q7
  rw [u9_5]
  simp only [GR,evK,binV,intOp,strOp,unV,Nat.reduceLT,Nat.reduceEqDiff,↓reduceIte,r9_1,q0,e1,q8,Int.ofNat_lt,hke]
  exact cont _ _ q0 q1 q6 q7 hkp
 | succ d ih =>
  intro k ρ h hd hk q0 q1 q8 q6 q7 hkp
  have hke : k < vs.length := by omega
  obtain ⟨b,o,cap,opn,cs,ty,op,ro,fz,v1,hg,hll,he⟩ := (hv.sl.keep hkp).get (k := k) (x := vs[k].x.cells) (by simp [hke])
  have q0' : ρ 0 = V.slice (some (b,o)) vs.length cap opn := by rw [q0,v1,List.length_map]
  have f0 := cell_get he hll 0 _ (by decide) (View.g0 vs[k].x)
  rw [Nat.add_zero] at f0
  have f2 := cell_get he hll 2 _ (by decide) (View.g2 vs[k].x)
  have f6 := cell_get he hll 6 _ (by decide) (View.g6 vs[k].x)
  have he' := he
  unfold getR at he'
  have hw : IntKind.i64.wrap ((k : Int) + 1) = ((k + 1 : Nat) : Int) := wrap_nat (n := k + 1) (by omega)
  have htk := selG_take (g := g) hke
  have skip : ∀ (ρ' : Nat → V) (h' : H),isG g vs[k] = false → Kp h h' → ρ' 0 = ρ 0 → ρ' 1 = iI g → ρ' 8 = iI ((k + 1 : Nat) : Int) → ρ' 6 = ρ 6 → ρ' 7 = ρ 7 → XL P E none 109 b9_5 (.b 0 :: K) ρ' h' Q := by
   intro ρ' h' hi k' w0 w1 w8 w6 w7
   rw [hi] at htk
   have ht : selG g (vs.take (k + 1)) = selG g (vs.take k) := by rw [htk]; simp
   exact ih (k + 1) ρ' h' (by omega) (by omega) (w0.trans q0) w1 w8 (by rw [ht,w6,q6]) (by rw [ht,w7,q7]) (hkp.trans k')
  rw [u9_5]
  cases hu : vs[k].x.up with
  | false =>
   have hi : isG g vs[k] = false := by simp [isG,hu]
   rw [hu] at f2
   simp only [GR,evK,binV,intOp,strOp,unV,Nat.reduceLT,Nat.reduceEqDiff,↓reduceIte,r9_1,q0',q8,Int.ofNat_lt,hke,r9_2,hg,Int.natCast_nonneg,Int.toNat_natCast,f2,r9_4,hw]
   exact skip _ _ hi (Keeps.refl _ _) rfl q1 rfl rfl rfl
  | true =>
   rw [hu] at f2
   by_cases hgr : vs[k].x.at_.group = g
   ·have hb : (vs[k].x.at_.group == g) = true := by simp [hgr]
    have hi : isG g vs[k] = okF vs[k].x.first := by simp [isG,hu,hgr]
    simp only [GR,evK,binV,intOp,strOp,unV,Nat.reduceLT,Nat.reduceEqDiff,↓reduceIte,r9_1,q0',q8,Int.ofNat_lt,hke,r9_2,hg,Int.natCast_nonneg,Int.toNat_natCast,f2,Nat.add_zero,f0,q1,hb,hll,he']
    refine XC_of (starts27 F) ?_
    rintro _ h4 ⟨rfl,k4⟩
    have hg4 := Kp.of k4 hg
    cases hok : okF vs[k].x.first with
    | false =>
     rw [hok] at hi
     simp only [GR,evK,binV,intOp,strOp,unV,Nat.reduceLT,Nat.reduceEqDiff,↓reduceIte,r9_4,q8,hw]
     exact skip _ _ hi k4 rfl q1 rfl rfl rfl
    | true =>
     rw [hok] at hi
     rw [hi,if_pos rfl] at htk
     have hls := least_snoc (S := selG g (vs.take k)) (w := vs[k])
     rw [← htk] at hls
     have hne : (selG g (vs.take (k + 1))).isEmpty = false := by rw [htk]; simp
     cases hse : (selG g (vs.take k)).isEmpty with
     | true =>
      rw [hse] at q7 hls
      simp only [GR,evK,binV,intOp,strOp,unV,Nat.reduceLT,Nat.reduceEqDiff,↓reduceIte,q7,Bool.not_true,Bool.not_false,r9_3,q0',q8,hg4,Int.ofNat_lt,hke,Int.natCast_nonneg,Int.toNat_natCast,f6,r9_4,hw]
      exact ih (k + 1) _ h4 (by omega) (by omega) q0 q1 rfl (by rw [hls]; rfl) (by rw [hne]; rfl) (hkp.trans k4)
     | false =>
      rw [hse] at q7 hls
      simp only [Bool.false_eq_true,if_false] at hls
      by_cases hlt : vs[k].x.first < leastG (selG g (vs.take k))
      ·have hlI : lessI (leastG (selG g (vs.take k))) vs[k].x.first = vs[k].x.first := if_pos hlt
       simp only [GR,evK,binV,intOp,strOp,unV,Nat.reduceLT,Nat.reduceEqDiff,↓reduceIte,q7,Bool.not_true,Bool.not_false,q0',q8,q6,hg4,Int.ofNat_lt,hke,Int.natCast_nonneg,Int.toNat_natCast,f6,hlt,r9_3,r9_4,hw]
       exact ih (k + 1) _ h4 (by omega) (by omega) q0 q1 rfl (by rw [hls,hlI]; rfl) (by rw [hne]; rfl) (hkp.trans k4)
      ·have hlI : lessI (leastG (selG g (vs.take k))) vs[k].x.first = leastG (selG g (vs.take k)) := if_neg hlt
       simp only [GR,evK,binV,intOp,strOp,unV,Nat.reduceLT,Nat.reduceEqDiff,↓reduceIte,q7,Bool.not_true,Bool.not_false,q0',q8,q6,hg4,Int.ofNat_lt,hke,Int.natCast_nonneg,Int.toNat_natCast,f6,hlt,r9_4,hw]
       exact ih (k + 1) _ h4 (by omega) (by omega) q0 q1 rfl (by rw [hls,hlI]; exact q6) (by rw [hne]; exact q7) (hkp.trans k4)
   ·have hb : (vs[k].x.at_.group == g) = false := by simp [hgr]
    have hi : isG g vs[k] = false := by simp [isG,hgr]
    simp only [GR,evK,binV,intOp,strOp,unV,Nat.reduceLT,Nat.reduceEqDiff,↓reduceIte,r9_1,q0',q8,Int.ofNat_lt,hke,r9_2,hg,Int.natCast_nonneg,Int.toNat_natCast,f2,Nat.add_zero,f0,q1,hb,r9_4,hw]
    exact skip _ _ hi (Keeps.refl _ _) rfl q1 rfl rfl rfl
def nextR (g : Int) (s : Int) (w : WV) : Option (Entry × DEnt) := if isG g w = true then atW w s else none
theorem hitR {g s : Int} : ∀ vs : List WV,vs.findSome? (nextR g s) = hitG (selG g vs) s
 | [] => rfl
 | w :: vs => by
  have ih := hitR (g := g) (s := s) vs
  unfold hitG selG at ih ⊢
  rw [List.findSome?_cons,List.filter_cons]
  unfold nextR at ih ⊢
  cases hw : isG g w with
  | true => simp only [if_true,List.findSome?_cons]; cases atW w s <;> simp [ih]
  | false => simp [ih]
theorem hitR_first {l : List WV} {g s : Int} {k : Nat} (hk : k < l.length) (hn : ∀ w ∈ l.take k,nextR g s w = none) {p : Entry × DEnt} (hp : nextR g s l[k] = some p) : hitG (selG g l) s = some p := by
 rw [← hitR]
 rw [← List.take_append_drop k l,List.findSome?_append,List.findSome?_eq_none_iff.2 hn,List.drop_eq_getElem_cons hk,List.findSome?_cons,hp]
 rfl
theorem hitR_none {l : List WV} {g s : Int} (hn : ∀ w ∈ l,nextR g s w = none) : hitG (selG g l) s = none := by
 rw [← hitR]
 exact List.findSome?_eq_none_iff.2 hn
theorem entR_one {h : H} {w : WV} (hw : VIn h w) (s : Int) : (entOf (atR w s)).cells.all V.one = true := by
 unfold atR
 split
 ·exact entOf_one hw s
 ·exact zero_one
set_option maxHeartbeats 4000000 in
theorem inner9 (F : Fa E) {v : V} {vs : List WV} {g : Int} {hL : H} (hv : VsIn hL v vs) {s : Int} (hs0 : 0 ≤ s) (hs1 : s ≤ 9223372036854775806)
  {ps : List (Entry × DEnt)} (hpl : ps.length ≤ 1048576) {u u7 : V} {K : List Fr} {Q : Po}
  (contN : ∀ (ρ' : Nat → V) (h' : H) (ov : V),hitG (selG g vs) s = none → ρ' 6 = u → ρ' 9 = ov → ρ' 11 = .bool false → Out h' hL.size ov ps → Kp hL h' → X P E none 109 K ρ' h' Q)
  (contH : ∀ (ρ' : Nat → V) (h' : H) (ov : V) (p : Entry × DEnt) (x : Entry),hitG (selG g vs) s = some p → ρ' 0 = v → ρ' 1 = iI g → ρ' 6 = u → ρ' 7 = u7 → ρ' 10 = iI s → ρ' 9 = ov → ρ' 11 = .bool true → Out h' hL.size ov (ps ++ [(x,p.2)]) → Kp hL h' → X P E none 109 K ρ' h' Q) :
  ∀ (d k : Nat) (ρ : Nat → V) (h : H) (ov : V),vs.length - k = d → k ≤ vs.length → ρ 0 = v → ρ 1 = iI g → ρ 6 = u → ρ 7 = u7 → ρ 9 = ov → ρ 10 = iI s → ρ 11 = .bool false → ρ 12 = iI k → (∀ w ∈ vs.take k,nextR g s w = none) → Out h hL.size ov ps → Kp hL h →
   XL P E none 109 b9_12 (.b 4 :: K) ρ h Q := by
 obtain ⟨a1,c1,o1,e1⟩ := hv.sl.len
 rw [List.length_map] at e1
 have hl := hv.len
 intro d
 induction d with
 | zero =>
  intro k ρ h ov hd hk q0 q1 q6 q7 q9 q10 q11 q12 hn ho hkp
  have hke : ¬ k < vs.length := by omega
  rw [List.take_of_length_le (by omega)] at hn
  rw [u9_12]
  simp only [GR,evK,binV,intOp,strOp,unV,Nat.reduceLT,Nat.reduceEqDiff,↓reduceIte,r9_7,q0,e1,q12,Int.ofNat_lt,hke]
  exact contN _ h ov (hitR_none hn) q6 q9 q11 ho hkp
 | succ d ih =>
  intro k ρ h ov hd hk q0 q1 q6 q7 q9 q10 q11 q12 hn ho hkp
  have hke : k < vs.length := by omega
  obtain ⟨b,o,cap,opn,cs,ty,op,ro,fz,v1,hg,hll,he⟩ := (hv.sl.keep hkp).get (k := k) (x := vs[k].x.cells) (by simp [hke])
  have q0' : ρ 0 = V.slice (some (b,o)) vs.length cap opn := by rw [q0,v1,List.length_map]
  have f0 := cell_get he hll 0 _ (by decide) (View.g0 vs[k].x)
  rw [Nat.add_zero] at f0
  have f2 := cell_get he hll 2 _ (by decide) (View.g2 vs[k].x)
  have he' := he
  unfold getR at he'
  have hmem := List.getElem_mem hke
  have dx := (hv.ins _ hmem).keep hkp
  have hw : IntKind.i64.wrap ((k : Int) + 1) = ((k + 1 : Nat) : Int) := wrap_nat (n := k + 1) (by omega)
  have skip : ∀ (ρ' : Nat → V) (h' : H),nextR g s vs[k] = none → Kp h h' → ρ' 0 = ρ 0 → ρ' 1 = iI g → ρ' 6 = u → ρ' 7 = u7 → ρ' 9 = ov → ρ' 10 = iI s → ρ' 11 = .bool false → ρ' 12 = iI ((k + 1 : Nat) : Int) → XL P E none 109 b9_12 (.b 4 :: K) ρ' h' Q := by
   intro ρ' h' hi k' w0 w1 w6 w7 w9 w10 w11 w12
   refine ih (k + 1) ρ' h' ov (by omega) (by omega) (w0.trans q0) w1 w6 w7 w9 w10 w11 w12 ?_ (ho.keep k') (hkp.trans k')
   rw [List.take_succ_eq_append_getElem hke]
   intro w hw'
   rcases List.mem_append.1 hw' with hw' | hw'
   ·exact hn w hw'
   ·rw [List.mem_singleton.1 hw']; exact hi
  rw [u9_12]
  cases hu : vs[k].x.up with
  | false =>
   have hi : nextR g s vs[k] = none := by simp [nextR,isG,hu]
   rw [hu] at f2
   simp only [GR,evK,binV,intOp,strOp,unV,Nat.reduceLT,Nat.reduceEqDiff,↓reduceIte,r9_7,q0',q12,q11,Int.ofNat_lt,hke,Bool.not_false,r9_8,hg,Int.natCast_nonneg,Int.toNat_natCast,f2,r9_11,hw]
   exact skip _ _ hi (Keeps.refl _ _) rfl q1 q6 q7 q9 q10 q11 rfl
  | true =>
   rw [hu] at f2
   by_cases hgr : vs[k].x.at_.group = g
   ·have hb : (vs[k].x.at_.group == g) = true := by simp [hgr]
    have hi : nextR g s vs[k] = atR vs[k] s := by simp [nextR,isG,hu,hgr,atR]
    simp only [GR,evK,binV,intOp,strOp,unV,Nat.reduceLT,Nat.reduceEqDiff,↓reduceIte,r9_7,q0',q12,q11,Int.ofNat_lt,hke,Bool.not_false,r9_8,hg,Int.natCast_nonneg,Int.toNat_natCast,f2,Nat.add_zero,f0,q1,hb,r9_9,hll,he',q10]
    refine XC_of (at28 F dx (by omega) (by omega)) ?_
    rintro _ h4 ⟨rfl,k4⟩
    have fe : ∀ z : Entry,z.cells.length = 56 := fun _ => rfl
    have pe : ∀ z : Entry,List.take 56 z.cells = z.cells := fun _ => rfl
    obtain ⟨h5,e5,g5,k5,z5⟩ := put_ex (o := 0) (ws := (entOf (atR vs[k] s)).cells) (psh_same h4 (.cells Entry.zero.cells 49 false false none)) (by rw [fe,fe]; decide) (entR_one dx s) rfl
    have g5' : cC h5 h4.size (entOf (atR vs[k] s)).cells 49 := g5
    have k5' : Kp h4 h5 := Keeps.trans (Keeps.psh (Nat.le_refl _) _) k5
    have kk := k4.trans k5'
    have fle := fe (entOf (atR vs[k] s))
    have p0e := pe (entOf (atR vs[k] s))
    cases hp : atR vs[k] s with
    | none =>
     rw [hp] at e5 g5' fle p0e hi
     generalize hyc : (entOf none).cells = yc at *
     simp only [Entry.zero,Entry.cells,Opr.cells,Epoch.cells,Vec.cells,Part.cells] at e5
     simp only [GR,evK,binV,intOp,strOp,unV,Nat.reduceLT,Nat.reduceEqDiff,↓reduceIte,fle,e5,Option.isSome_none,r9_11,q12,hw]
     exact skip _ _ hi kk rfl q1 q6 q7 q9 q10 q11 rfl
    | some p =>
     rw [hp] at e5 g5' fle p0e hi
     have hh := hitR_first hke hn hi
     have hpw : atW vs[k] s = some p := by
      unfold nextR at hi
      split at hi
      ·exact hi
      ·cases hi
     have ein := (at_in dx hpw).keep kk
     have sp2 := clone29 (P := P) F ein
     have hent : (entOf (some p)).cells = p.1.cells := rfl
     rw [hent] at e5 g5' fle p0e
     generalize hyc : p.1.cells = yc at *
     rw [hent]
     simp only [Entry.zero,Entry.cells,Opr.cells,Epoch.cells,Vec.cells,Part.cells] at e5
     simp only [GR,evK,binV,intOp,strOp,unV,Nat.reduceLT,Nat.reduceEqDiff,↓reduceIte,hyc,fle,e5,Option.isSome_some,r9_10,g5',p0e]
     refine XC_of sp2 ?_
     rintro _ h6 ⟨⟨x',rfl,hfr⟩,k6⟩
     obtain ⟨v',h8,e8,ho8,k8⟩ := ho.app (kk.trans k6) hkp.size kk.size hfr hpl
     have flx' := fe x'
     have hfill := Entry.hfill x'
     generalize hzc : x'.cells = zc at *
     simp only [GR,evK,binV,intOp,strOp,unV,Nat.reduceLT,Nat.reduceEqDiff,↓reduceIte,flx',hfill,q9,e8,r9_11,q12,hw]
     rw [u9_12]
     have k08 : Kp hL h8 := Keeps.trans (n := hL.size) (hkp.trans (kk.trans k6)) k8
     by_cases hk2 : k + 1 < vs.length
     ·simp only [GR,evK,binV,intOp,strOp,unV,Nat.reduceLT,Nat.reduceEqDiff,↓reduceIte,r9_7,q0',Int.ofNat_lt,hk2,Bool.not_true]
      exact contH _ h8 v' p x' hh q0 q1 q6 q7 q10 rfl rfl ho8 k08
     ·simp only [GR,evK,binV,intOp,strOp,unV,Nat.reduceLT,Nat.reduceEqDiff,↓reduceIte,r9_7,q0',Int.ofNat_lt,hk2]
      exact contH _ h8 v' p x' hh q0 q1 q6 q7 q10 rfl rfl ho8 k08
   ·have hb : (vs[k].x.at_.group == g) = false := by simp [hgr]
    have hi : nextR g s vs[k] = none := by simp [nextR,isG,hgr]
    simp only [GR,evK,binV,intOp,strOp,unV,Nat.reduceLT,Nat.reduceEqDiff,↓reduceIte,r9_7,q0',q12,q11,Int.ofNat_lt,hke,Bool.not_false,r9_8,hg,Int.natCast_nonneg,Int.toNat_natCast,f2,Nat.add_zero,f0,q1,hb,r9_11,hw]
    exact skip _ _ hi (Keeps.refl _ _) rfl q1 q6 q7 q9 q10 q11 rfl
set_option maxHeartbeats 4000000 in
theorem outer9 (F : Fa E) {v : V} {vs : List WV} {g : Int} {hL : H} (hv : VsIn hL v vs) (htot : totG (selG g vs) ≤ 1048576) {Q : V → H → Prop} (hQ : ∀ r h',LogOut h' (selG g vs) r → Kp hL h' → Q r h') :
  ∀ (n i : Nat) (ps : List (Entry × DEnt)) (ρ : Nat → V) (h : H) (ov : V),fuelG (selG g vs) - i = n → LI (selG g vs) i ps → ρ 0 = v → ρ 1 = iI g → ρ 6 = iI (leastG (selG g vs)) → ρ 7 = .bool true → ρ 9 = ov → ρ 10 = iI (leastG (selG g vs) + i) → Out h hL.size ov ps → Kp hL h →
   XL P E none 109 b9_15 [.b 2,.c (.seq (.region r9_16) (.ret))] ρ h (Fin [.t 4,.t 5] Q) := by
 obtain ⟨lk0,lk1⟩ := least_ok (g := g) (vs := vs)
 intro n
 have stop : ∀ (i : Nat) (ps : List (Entry × DEnt)) (ρ' : Nat → V) (h' : H) (ov' : V),LI (selG g vs) i ps → hitG (selG g vs) (leastG (selG g vs) + i) = none → ρ' 6 = iI (leastG (selG g vs)) → ρ' 9 = ov' → Out h' hL.size ov' ps → Kp hL h' →
   X P E none 109 [.c (.seq (.region r9_16) (.ret))] ρ' h' (Fin [.t 4,.t 5] Q) := by
  intro i ps ρ' h' ov' hi hno w6 w9 ho' k'
  have hle := hi.le
  simp only [GR,evK,binV,intOp,strOp,unV,Nat.reduceLT,Nat.reduceEqDiff,↓reduceIte,r9_16,w6,w9]
  exact hQ _ _ ⟨ov',ps,rfl,ho'.acc.sl,fun p hp => ((ho'.ins p hp).kc (cut_kc _ _)).ein,hi.done hno,by rw [hi.len]; omega⟩ k'
 induction n with
 | zero =>
  intro i ps ρ h ov hn hi q0 q1 q6 q7 q9 q10 ho hkp
  have hle := hi.le
  rw [u9_15]
  simp only [GR,evK,binV,intOp,strOp,unV,Nat.reduceLT,Nat.reduceEqDiff,↓reduceIte,q7]
  refine inner9 F hv (s := leastG (selG g vs) + i) (by omega) (by omega) (by rw [hi.len]; omega) (u := iI (leastG (selG g vs))) (u7 := .bool true) (fun ρ' h' ov' hno w6 w9 w11 ho' k' => ?_) (fun ρ' h' ov' p x hh w0 w1 w6 w7 w10 w9 w11 ho' k' => ?_) _ 0 _ h ov rfl (Nat.zero_le _) q0 q1 q6 q7 q9 q10 rfl rfl (by simp) ho hkp
  ·simp only [GR,evK,binV,intOp,strOp,unV,Nat.reduceLT,Nat.reduceEqDiff,↓reduceIte,r9_13,w11,Bool.not_false,r9_16,w6,w9]
   exact hQ _ _ ⟨ov',ps,rfl,ho'.acc.sl,fun p hp => ((ho'.ins p hp).kc (cut_kc _ _)).ein,hi.done hno,by rw [hi.len]; omega⟩ k'
  ·have := hit_top hh
   unfold fuelG at hn
   omega
 | succ n ih =>
  intro i ps ρ h ov hn hi q0 q1 q6 q7 q9 q10 ho hkp
  have hle := hi.le
  rw [u9_15]
  simp only [GR,evK,binV,intOp,strOp,unV,Nat.reduceLT,Nat.reduceEqDiff,↓reduceIte,q7]
  refine inner9 F hv (s := leastG (selG g vs) + i) (by omega) (by omega) (by rw [hi.len]; omega) (u := iI (leastG (selG g vs))) (u7 := .bool true) (fun ρ' h' ov' hno w6 w9 w11 ho' k' => ?_) (fun ρ' h' ov' p x hh w0 w1 w6 w7 w10 w9 w11 ho' k' => ?_) _ 0 _ h ov rfl (Nat.zero_le _) q0 q1 q6 q7 q9 q10 rfl rfl (by simp) ho hkp
  ·simp only [GR,evK,binV,intOp,strOp,unV,Nat.reduceLT,Nat.reduceEqDiff,↓reduceIte,r9_13,w11,Bool.not_false,r9_16,w6,w9]
   exact hQ _ _ ⟨ov',ps,rfl,ho'.acc.sl,fun p hp => ((ho'.ins p hp).kc (cut_kc _ _)).ein,hi.done hno,by rw [hi.len]; omega⟩ k'
  ·have hw : IntKind.i64.wrap (leastG (selG g vs) + i + 1) = leastG (selG g vs) + ((i + 1 : Nat) : Int) := by rw [wrapI (by omega) (by omega)]; omega
   simp only [GR,evK,binV,intOp,strOp,unV,Nat.reduceLT,Nat.reduceEqDiff,↓reduceIte,r9_13,w11,Bool.not_true,r9_14,w10,hw]
   exact ih (i + 1) _ _ h' ov' (by omega) (hi.step hh) w0 w1 w6 w7 w9 rfl ho' k'
set_option maxHeartbeats 4000000 in
theorem log9 (F : Fa E) {v : V} {vs : List WV} {g : Int} {h0 : H} (hv : VsIn h0 v vs) (ht : totG vs ≤ 1048576) : Sp P E (.func 9 [] []) [v,iI g] h0 fun r h' => LogOut h' (selG g vs) r ∧ Kp h0 h' := by
 have hl := hv.len
 have htot : totG (selG g vs) ≤ 1048576 := Nat.le_trans (tot_filter _ _) ht
 refine Sp_fn F.f9 F.p9 (by simp [fn9]) ?_
 simp only [GR,evK,binV,intOp,strOp,unV,Nat.reduceLT,Nat.reduceEqDiff,↓reduceIte,fn9,c9,r9_0]
 refine least9 F hv (fun ρ1 h1 w0 w1 w6 w7 k1 => ?_) _ 0 _ h0 rfl (Nat.zero_le _) rfl rfl rfl rfl rfl (Keeps.refl _ _)
 cases hse : (selG g vs).isEmpty with
 | true =>
  rw [hse] at w7
  have hs := List.isEmpty_iff.1 hse
  simp only [GR,evK,binV,intOp,strOp,unV,Nat.reduceLT,Nat.reduceEqDiff,↓reduceIte,r9_6,w6]
  rw [u9_15]
  simp only [GR,evK,binV,intOp,strOp,unV,Nat.reduceLT,Nat.reduceEqDiff,↓reduceIte,w7,Bool.not_true,r9_16,w6]
  rw [hs]
  exact ⟨⟨sN,[],rfl,.nil _ _ _,by simp,rfl,by simp⟩,k1⟩
 | false =>
  rw [hse] at w7
  have hz : leastG (selG g vs) = leastG (selG g vs) + ((0 : Nat) : Int) := by omega
  simp only [GR,evK,binV,intOp,strOp,unV,Nat.reduceLT,Nat.reduceEqDiff,↓reduceIte,r9_6,w6]
  exact outer9 F (hv.keep k1) htot (fun r' h' ho hk => ⟨ho,k1.trans hk⟩) _ 0 [] _ h1 _ rfl (LI.zero _) w0 w1 w6 w7 rfl (by rw [← hz]; rfl) (Out.nil _ _) (Keeps.refl _ _)
variable {P : Program} {E : Env} {ro : Option Nat} {L : Nat} {K : List Fr} {ρ : Nat → V} {h : H} {Q : Po}
def r4_0 : List O := [⟨some 17,.call (.k (.func 6 [] [])) [],none,0,[17]⟩,
 ono 18 17 1]
def r4_1 : List O := [om 19 0 0,
 ⟨some 20,.call (.k (.func 7 [] [])) [(.t 19)],none,1,[20,19]⟩,
 ⟨some 5,.alloc 24 [sN],none,0,[5]⟩,
 ost 1 5 20 7]
def r4_2 : List O := [om 22 0 0,
 om 23 1 0,
 ⟨some 24,.call (.k (.func 9 [] [])) [(.t 22),(.t 23)],none,3,[24,22,23]⟩,
 om 21 24 7,
 ox 25 21 0 15,
 ox 26 21 1 15,
 om 6 25 31,
 om 7 26 127]
def r4_3 : List O := [om 28 0 0,
 om 29 1 0,
 ⟨some 30,.call (.k (.func 10 [] [])) [(.t 28),(.t 29)],none,3,[30,28,29]⟩,
 om 27 30 7,
 ox 31 27 0 15,
 ox 32 27 1 15,
 om 8 31 31,
 om 9 32 127]
def r4_4 : List O := [om 33 9 0,
 oL 34 33 1,
 ⟨some 35,.mv (.k (iI 0)),none,0,[35]⟩]
def r4_5 : List O := [om 37 35 0,
 om 10 37 1]
def r4_6 : List O := [om 38 9 0,
 om 39 10 0,
 oi 40 56 38 39 3,
 oa 41 13 40 7,
 ol 42 41 15,
 oL 43 42 31,
 ⟨some 44,.mv (.k (iI 0)),none,0,[44]⟩]
def r4_7 : List O := [om 46 44 0,
 om 11 46 1]
def r4_8 : List O := [om 47 9 0,
 om 48 10 0,
 oi 49 56 47 48 3,
 oa 50 13 49 7,
 ol 51 50 15,
 om 52 11 0,
 oi 53 8 51 52 63,
 oa 54 3 53 127,
 ⟨none,.store 1 (.t 54) (.k (iI (-9))),none,255,[54]⟩]
def r4_9 : List O := [op1 55 44 0,
 om 44 55 1]
abbrev e4_10 : C := .seq (.region [olt 45 44 43 0]) (.seq (.cond (.t 45) (.skip) (.exit 2)) (.seq (.block 3 (.seq (.region r4_7) (.region r4_8))) (.region r4_9)))
def b4_10 : C := e4_10
theorem u4_10 : XL P E ro L b4_10 K ρ h Q = X P E ro L (.c e4_10 :: .l b4_10 :: K) ρ h Q := XL_unroll b4_10
def r4_11 : List O := [om 56 9 0,
 om 57 10 0,
 oi 58 56 56 57 3,
 oa 59 0 58 7,
 ⟨none,.store 1 (.t 59) (.k (iI (-9))),none,15,[59]⟩]
def r4_12 : List O := [op1 60 35 0,
 om 35 60 1]
abbrev e4_13 : C := .seq (.region [olt 36 35 34 0]) (.seq (.cond (.t 36) (.skip) (.exit 0)) (.seq (.block 1 (.seq (.region r4_5) (.seq (.seq (.region r4_6) (.block 2 (.loop b4_10))) (.region r4_11)))) (.region r4_12)))
def b4_13 : C := e4_13
theorem u4_13 : XL P E ro L b4_13 K ρ h Q = X P E ro L (.c e4_13 :: .l b4_13 :: K) ρ h Q := XL_unroll b4_13
def r4_14 : List O := [om 62 0 0,
 om 63 1 0,
 ⟨some 64,.call (.k (.func 9 [] [])) [(.t 62),(.t 63)],none,3,[64,62,63]⟩,
 om 61 64 7,
 ox 65 61 0 15,
 ox 66 61 1 15,
 om 12 65 31,
 om 13 66 127]
def r4_15 : List O := [om 67 7 0,
 oL 68 67 1,
 om 69 13 0,
 oL 70 69 4,
 ⟨some 71,.bin .neq (some .int) false (.t 68) (.t 70),none,15,[71,68,70]⟩]
def r4_16 : List O := [om 72 13 0,
 oL 73 72 1,
 ⟨some 74,.mv (.k (iI 0)),none,0,[74]⟩]
def r4_17 : List O := [om 76 74 0,
 om 14 76 1]
def r4_18 : List O := [om 77 7 0,
 om 78 14 0,
 oi 79 56 77 78 3,
 oN 80 56 79 7,
 om 81 13 0,
 om 82 14 0,
 oi 83 56 81 82 48,
 oN 84 56 83 112,
 ⟨some 85,.call (.k (.func 11 [] [])) [(.t 80),(.t 84)],none,255,[85,80,84]⟩,
 ono 86 85 511]
theorem d4_18 (hx : XDO P E ro L r4_18 K ρ h Q) : XD P E ro L r4_18 K ρ h Q := XD_ord rfl hx
def r4_19 : List O := [op1 87 74 0,
 om 74 87 1]
abbrev e4_20 : C := .seq (.region [olt 75 74 73 0]) (.seq (.cond (.t 75) (.skip) (.exit 4)) (.seq (.block 5 (.seq (.region r4_17) (.seq (.draw r4_18) (.cond (.t 86) (.seq (.region [⟨none,.store 1 (.t 4) (.k (.bool false)),none,0,[4]⟩]) (.ret)) (.skip))))) (.region r4_19)))
def b4_20 : C := e4_20
theorem u4_20 : XL P E ro L b4_20 K ρ h Q = X P E ro L (.c e4_20 :: .l b4_20 :: K) ρ h Q := XL_unroll b4_20
def r4_21 : List O := [⟨some 15,.alloc 3 [(iI 0)],none,0,[15]⟩,
 ⟨none,.store 1 (.t 15) (.k (iI 0)),none,1,[15]⟩]
def r4_22 : List O := [om 88 0 0,
 ⟨some 89,.call (.k (.func 8 [] [])) [(.t 88)],none,1,[89,88]⟩]
def r4_23 : List O := [⟨some 16,.alloc 30 [(iI 0),(iI 0),(iI 0),(iI 0)],none,0,[16]⟩,
 ost 4 16 90 1]
def a4_24 : C := .region r4_23
def r4_25 : List O := [ol 91 15 0,
 ol 92 5 0,
 oL 93 92 2,
 ⟨some 94,.bin .geq (some .int) false (.t 91) (.t 93),none,7,[94,91,93]⟩,
 om 95 94 15,
 ⟨some 96,.loadN 4 (.t 16),some (95,false),31,[96,95,16]⟩,
 olf 97 5 95 31,
 olf 98 15 95 31,
 ⟨some 99,.iadrL 4 (.t 97) (.t 98),some (95,false),223,[99,95,97,98]⟩,
 ⟨some 100,.loadN 4 (.t 99),some (95,false),479,[100,95,99]⟩,
 ⟨some 101,.bin .neq (some (.fcons 0 1 false .int (.fcons 1 1 false .int (.fcons 2 1 false .int (.fcons 3 1 false .int .fnil))))) false (.t 96) (.t 100),some (95,false),1023,[101,95,96,100]⟩,
 ⟨some 102,.pick (.t 95) (.k (.bool true)) (.t 101),none,2047,[102,95,101]⟩]
theorem d4_25 : XD P E ro L r4_25 K ρ h Q = XO P E ro L r4_25 K ρ h Q := XD_still rfl
def r4_26 : List O := [ol 103 15 0,
 op1 104 103 1,
 ost 1 15 104 3]
def b4_27 : C := .block 7 (.seq (.seq (.draw r4_25) (.cond (.t 102) (.seq (.region [⟨none,.store 1 (.t 4) (.k (.bool false)),none,0,[4]⟩]) (.ret)) (.skip))) (.region r4_26))
def r4_28 : List O := [ol 105 15 0,
 ol 106 5 0,
 oL 107 106 2,
 ⟨some 108,.bin .eql (some .int) false (.t 105) (.t 107),none,7,[108,105,107]⟩,
 ost 1 4 108 15]
def c4 : C := .seq (.region [⟨some 4,.alloc 4 [(.bool false)],none,0,[4]⟩]) (.seq (.seq (.region r4_0) (.cond (.t 18) (.seq (.region [⟨none,.store 1 (.t 4) (.k (.bool false)),none,0,[4]⟩]) (.ret)) (.skip))) (.seq (.region r4_1) (.seq (.region r4_2) (.seq (.region r4_3) (.seq (.seq (.region r4_4) (.block 0 (.loop b4_13))) (.seq (.region r4_14) (.seq (.seq (.region r4_15) (.cond (.t 71) (.seq (.region [⟨none,.store 1 (.t 4) (.k (.bool false)),none,0,[4]⟩]) (.ret)) (.skip))) (.seq (.seq (.region r4_16) (.block 4 (.loop b4_20))) (.seq (.region r4_21) (.seq (.seq (.region r4_22) (.block 6 (.range (.t 89) [90] a4_24 b4_27))) (.seq (.region r4_28) (.ret))))))))))))
def fn4 : Fn := ⟨109,[.c 4 1 false],c4⟩
end Go.AM.Sc
namespace Go.AM.Sc
open Go.AM
variable {P : Program} {E : Env}
def OpsW (lo : Nat) (h : H) (b0 : Nat) (o : V) (m : Nat) : Prop := (∃ a c q,o = .slice a 0 c q ∧ m = 0) ∨ ∃ b ty cs,lo ≤ b ∧ b ≠ b0 ∧ o = .slice (some (b,0)) m m true ∧ h.get b = some (.cells cs ty true false none) ∧ cs.length = m * 8
structure Wr (lo : Nat) (h : H) (b : Nat) (ps : List (Entry × DEnt)) : Prop where
 vb : ∃ cs,h.get b = some (.cells cs 49 true false none) ∧ cs.length = ps.length * 56 ∧ ∀ i (hi : i < ps.length),cs[i * 56 + 13]? = some ps[i].1.ops
 low : lo ≤ b
 ops : ∀ p ∈ ps,OpsW lo h b p.1.ops p.2.ops.length
theorem Wr.setOps {lo : Nat} {h : H} {b : Nat} {ps : List (Entry × DEnt)} (a : Wr lo h b ps) {b2 ty : Nat} {cs cs' : List V} (hg : h.get b2 = some (.cells cs ty true false none)) (hne : b2 ≠ b) (hl : cs'.length = cs.length) : Wr lo (h.set b2 (.cells cs' ty true false none)) b ps := by
 have hlt := H.get_lt hg
 obtain ⟨vs,h1,h2,h3⟩ := a.vb
 refine ⟨⟨vs,by rw [hset_other hlt hne]; exact h1,h2,h3⟩,a.low,fun p hp => ?_⟩
 rcases a.ops p hp with h | ⟨b3,ty3,cs3,q1,q2,q3,q4,q5⟩
 ·exact .inl h
 ·by_cases hb : b2 = b3
  ·subst hb
   rw [hg] at q4; cases q4
   exact .inr ⟨b2,ty,cs',q1,q2,q3,hset_same hlt _,by omega⟩
  ·exact .inr ⟨b3,ty3,cs3,q1,q2,q3,by rw [hset_other hlt hb]; exact q4,q5⟩
theorem Wr.setKind {lo : Nat} {h : H} {b : Nat} {ps : List (Entry × DEnt)} (a : Wr lo h b ps) {cs : List V} (hg : h.get b = some (.cells cs 49 true false none)) {i : Nat} (x : V) : Wr lo (h.set b (.cells (cs.set (i * 56) x) 49 true false none)) b ps := by
 have hlt := H.get_lt hg
 obtain ⟨vs,h1,h2,h3⟩ := a.vb
 rw [hg] at h1; cases h1
 refine ⟨⟨_,hset_same hlt _,by rw [List.length_set]; exact h2,fun j hj => ?_⟩,a.low,fun p hp => ?_⟩
 ·rw [List.getElem?_set_ne (by omega)]; exact h3 j hj
 ·rcases a.ops p hp with h | ⟨b3,ty3,cs3,q1,q2,q3,q4,q5⟩
  ·exact .inl h
  ·exact .inr ⟨b3,ty3,cs3,q1,q2,q3,by rw [hset_other hlt (Ne.symm q2)]; exact q4,q5⟩
theorem flat_at {ps : List (Entry × DEnt)} {i : Nat} (hi : i < ps.length) : ((ps.map fun p => p.1.cells).flatten)[i * 56 + 13]? = some ps[i].1.ops := by
 have h1 := flat_get (ps.map fun p => p.1.cells) i ps[i].1.cells (sz := 56) (fun y hy => by obtain ⟨z,_,rfl⟩ := List.mem_map.1 hy; rfl) (by simp [hi])
 have h2 : (List.take 56 (List.drop (i * 56) (ps.map fun p => p.1.cells).flatten))[13]? = some ps[i].1.ops := by rw [h1]; rfl
 rw [List.getElem?_take_of_lt (by decide),List.getElem?_drop] at h2
 exact h2
theorem Wr.of {lo : Nat} {h : H} {v : V} {ps : List (Entry × DEnt)} (a : Out h lo v ps) (hne : ps ≠ []) : ∃ b,v = .slice (some (b,0)) ps.length ps.length true ∧ Wr lo h b ps := by
 rcases a.acc.shape with ⟨h0,_⟩ | ⟨b,rfl,h1,h2⟩
 ·exact (hne (List.map_eq_nil_iff.1 h0)).elim
 ·refine ⟨b,by simp,⟨_,h2,?_,fun i hi => flat_at hi⟩,h1,fun p hp => ?_⟩
  ·rw [flatten_length (sz := 56) (fun y hy => by obtain ⟨z,hz,rfl⟩ := List.mem_map.1 hy; exact ⟨rfl,(a.ins z hz).ein.one⟩),List.length_map]
  ·have he := a.ins p hp
   rcases he.ops with ⟨q,c,o,e1,e2⟩ | ⟨b3,ty,q1,q2,q3⟩
   ·refine .inl ⟨q,c,o,e1,?_⟩
    have := congrArg List.length e2
    simpa using this
   ·refine .inr ⟨b3,ty,_,q1,?_,by rw [q2,List.length_map],cut_kc _ _ _ _ _ _ _ _ q3,?_⟩
    ·rintro rfl
     have hlt := H.get_lt h2
     simp only [cutV,cutB_lt hlt,hset_same hlt] at q3
     cases q3
    ·rw [flatten_length (sz := 8) (fun y hy => by obtain ⟨z,_,rfl⟩ := List.mem_map.1 hy; exact ⟨rfl,rfl⟩),List.length_map]
set_option maxHeartbeats 1000000 in
theorem ops4 {lo : Nat} {hA : H} {b : Nat} {ps : List (Entry × DEnt)} {i : Nat} (hi : i < ps.length) (hpl : ps.length ≤ 1048576) (hml : ps[i].2.ops.length ≤ 1048576) {K : List Fr} {Q : Po} {ρ0 : Nat → V} (w9 : ρ0 9 = .slice (some (b,0)) ps.length ps.length true) (w10 : ρ0 10 = iI i) (w43 : ρ0 43 = iI ps[i].2.ops.length)
  (cont : ∀ (ρ' : Nat → V) (h' : H),(∀ j,j < 44 → j ≠ 11 → ρ' j = ρ0 j) → Wr lo h' b ps → Keeps lo hA h' → X P E none 109 K ρ' h' Q) :
  ∀ (d k : Nat) (ρ : Nat → V) (h : H),ps[i].2.ops.length - k = d → k ≤ ps[i].2.ops.length → (∀ j,j < 44 → j ≠ 11 → ρ j = ρ0 j) → ρ 44 = iI k → Wr lo h b ps → Keeps lo hA h → XL P E none 109 b4_10 (.b 2 :: K) ρ h Q := by
 intro d
 induction d with
 | zero =>
  intro k ρ h hd hk hr q44 wr kk
  have hke : ¬ k < ps[i].2.ops.length := by omega
  have q43 := (hr 43 (by decide) (by decide)).trans w43
  rw [u4_10]
  simp only [GR,evK,binV,intOp,strOp,unV,Nat.reduceLT,Nat.reduceEqDiff,↓reduceIte,q43,q44,Int.ofNat_lt,hke]
  refine cont _ h (fun j hj hn => ?_) wr kk
  simp only [up_app]
  repeat rw [if_neg (by omega)]
  exact hr j hj hn
 | succ d ih =>
  intro k ρ h hd hk hr q44 wr kk
  have hke : k < ps[i].2.ops.length := by omega
  have q43 := (hr 43 (by decide) (by decide)).trans w43
  have q9 := (hr 9 (by decide) (by decide)).trans w9
  have q10 := (hr 10 (by decide) (by decide)).trans w10
  obtain ⟨cs,hg,hcl,hco⟩ := wr.vb
  have hc := hco i hi
  rcases wr.ops _ (List.getElem_mem hi) with ⟨_,_,_,_,h0⟩ | ⟨b2,ty,cs2,hb2,hne,ho,hg2,hl2⟩
  ·omega
  rw [ho] at hc
  have e4 := put_at (ws := [iI (-9)]) (o := k * 8 + 3) hg2 (by simp only [List.length_singleton]; omega) rfl rfl
  have hset := setR_one cs2 (k * 8 + 3) (iI (-9)) (by omega)
  rw [hset] at e4
  have hw : IntKind.i64.wrap ((k : Int) + 1) = ((k + 1 : Nat) : Int) := wrap_nat (n := k + 1) (by omega)
  have wr4 := wr.setOps hg2 hne (cs' := cs2.set (k * 8 + 3) (iI (-9))) (by simp)
  have k4 : Keeps lo hA (h.set b2 (.cells (cs2.set (k * 8 + 3) (iI (-9))) ty true false none)) := Keeps.trans kk (Keeps.set (H.get_lt hg2) hb2 _)
  have hb1 := H.get_lt hg
  rw [u4_10]
  simp only [GR,evK,binV,intOp,strOp,unV,Nat.reduceLT,Nat.reduceEqDiff,↓reduceIte,q43,q44,Int.ofNat_lt,hke,r4_7,r4_8,q9,q10,hi,Int.natCast_nonneg,Int.toNat_natCast,hg,Nat.zero_add,hc,e4,r4_9,hw]
  refine ih (k + 1) _ _ (by omega) (by omega) (fun j hj hn => ?_) ?_ wr4 k4
  ·simp only [up_app]
   repeat rw [if_neg (by omega)]
   exact hr j hj hn
  ·rfl
set_option maxHeartbeats 1000000 in
theorem over4 {lo : Nat} {hA : H} {b : Nat} {ps : List (Entry × DEnt)} (hpl : ps.length ≤ 1048576) (hml : ∀ p ∈ ps,p.2.ops.length ≤ 1048576) {K : List Fr} {Q : Po} {ρ0 : Nat → V} (w9 : ρ0 9 = .slice (some (b,0)) ps.length ps.length true)
  (cont : ∀ (ρ' : Nat → V) (h' : H),(∀ j,j < 10 → ρ' j = ρ0 j) → Keeps lo hA h' → X P E none 109 K ρ' h' Q) :
  ∀ (d i : Nat) (ρ : Nat → V) (h : H),ps.length - i = d → i ≤ ps.length → (∀ j,j < 10 → ρ j = ρ0 j) → ρ 34 = iI ps.length → ρ 35 = iI i → Wr lo h b ps → Keeps lo hA h → XL P E none 109 b4_13 (.b 0 :: K) ρ h Q := by
 intro d
 induction d with
 | zero =>
  intro i ρ h hd hi hr q34 q35 wr kk
  have hie : ¬ i < ps.length := by omega
  rw [u4_13]
  simp only [GR,evK,binV,intOp,strOp,unV,Nat.reduceLT,Nat.reduceEqDiff,↓reduceIte,q34,q35,Int.ofNat_lt,hie]
  refine cont _ h (fun j hj => ?_) kk
  simp only [up_app]
  repeat rw [if_neg (by omega)]
  exact hr j hj
 | succ d ih =>
  intro i ρ h hd hi hr q34 q35 wr kk
  have hie : i < ps.length := by omega
  have q9 := (hr 9 (by decide)).trans w9
  obtain ⟨cs,hg,hcl,hco⟩ := wr.vb
  have hc := hco i hie
  obtain ⟨a1,c1,o1,hsl⟩ : ∃ a c o,ps[i].1.ops = .slice a ps[i].2.ops.length c o := by
   rcases wr.ops _ (List.getElem_mem hie) with ⟨a,c,q,h0,h1⟩ | ⟨b2,ty,cs2,hb2,hne,ho,hg2,hl2⟩
   ·exact ⟨a,c,q,by rw [h0,h1]⟩
   ·exact ⟨_,_,_,ho⟩
  rw [hsl] at hc
  have hw : IntKind.i64.wrap ((i : Int) + 1) = ((i + 1 : Nat) : Int) := wrap_nat (n := i + 1) (by omega)
  rw [u4_13]
  simp only [GR,evK,binV,intOp,strOp,unV,Nat.reduceLT,Nat.reduceEqDiff,↓reduceIte,q34,q35,Int.ofNat_lt,hie,r4_5,r4_6,q9,Int.natCast_nonneg,Int.toNat_natCast,hg,Nat.zero_add,hc]
  refine ops4 (lo := lo) (hA := hA) (b := b) (ps := ps) hie hpl (hml _ (List.getElem_mem hie)) (ρ0 := _) ?_ ?_ ?_ ?_ _ 0 _ h rfl (Nat.zero_le _) (fun j _ _ => rfl) ?_ wr kk
  ·exact q9
  ·rfl
  ·rfl
  ·intro ρ2 h2 hr2 wr2 k2
   obtain ⟨cs2,hg2,hcl2,_⟩ := wr2.vb
   have y9 : ρ2 9 = .slice (some (b,0)) ps.length ps.length true := (hr2 9 (by decide) (by decide)).trans q9
   have y10 : ρ2 10 = iI i := (hr2 10 (by decide) (by decide)).trans rfl
   have y34 : ρ2 34 = iI ps.length := (hr2 34 (by decide) (by decide)).trans q34
   have y35 : ρ2 35 = iI i := (hr2 35 (by decide) (by decide)).trans q35
   have e4 := put_at (ws := [iI (-9)]) (o := i * 56) hg2 (by simp only [List.length_singleton]; omega) rfl rfl
   have hset := setR_one cs2 (i * 56) (iI (-9)) (by omega)
   rw [hset] at e4
   have wr4 := wr2.setKind hg2 (i := i) (iI (-9))
   have k4 := Keeps.trans k2 (Keeps.set (H.get_lt hg2) wr2.low (.cells (cs2.set (i * 56) (iI (-9))) 49 true false none))
   simp only [GR,evK,binV,intOp,strOp,unV,Nat.reduceLT,Nat.reduceEqDiff,↓reduceIte,r4_11,y9,y10,hie,Int.ofNat_lt,Int.natCast_nonneg,Int.toNat_natCast,Nat.zero_add,Nat.add_zero,e4,r4_12,y35,hw]
   refine ih (i + 1) _ _ (by omega) (by omega) (fun j hj => ?_) ?_ ?_ wr4 k4
   ·simp only [up_app]
    repeat rw [if_neg (by omega)]
    refine (hr2 j (by omega) (by omega)).trans ?_
    simp only [up_app]
    repeat rw [if_neg (by omega)]
    exact hr j hj
   ·exact y34
   ·rfl
  ·rfl
structure C4 (lo : Nat) (h : H) (al : List Flaw) (bw bo br : Nat) (wv ov : V) : Prop where
 gw : cC h bw [wv] 24
 go : cC h bo [ov] 24
 gr : cC h br [.bool false] 4
 aw : Acc h lo 30 4 wv (al.map Flaw.cells)
 ao : Acc h lo 30 4 ov (al.map Flaw.cells)
variable {lo : Nat} {al : List Flaw} {bw bo br : Nat} {wv ov : V}
theorem C4.kp {h h' : H} (a : C4 lo h al bw bo br wv ov) (k : Kp h h') : C4 lo h' al bw bo br wv ov := ⟨k.of a.gw,k.of a.go,k.of a.gr,a.aw.keep k,a.ao.keep k⟩
theorem C4.set {h : H} (a : C4 lo h al bw bo br wv ov) {i : Nat} {o : Obj} (hg : h.get i = some o) (hn : ∀ vs ty op ro fz,o = .cells vs ty op ro fz → ty = 3) (o' : Obj) : C4 lo (h.set i o') al bw bo br wv ov := by
 have hlt := H.get_lt hg
 have ne : ∀ {j : Nat} {vs : List V} {ty : Nat} {op ro : Bool} {fz : Option Nat},h.get j = some (.cells vs ty op ro fz) → ty ≠ 3 → i ≠ j := by
  rintro j vs ty op ro fz hj ht rfl
  change _ = _ at hj; rw [hg] at hj; cases hj; exact ht (hn _ _ _ _ _ rfl)
 refine ⟨?_,?_,?_,Acc.set_o a.aw hg (fun vs e => by have := hn _ _ _ _ _ e; omega) o',Acc.set_o a.ao hg (fun vs e => by have := hn _ _ _ _ _ e; omega) o'⟩
 ·show _ = _; rw [hset_other hlt (ne a.gw (by decide))]; exact a.gw
 ·show _ = _; rw [hset_other hlt (ne a.go (by decide))]; exact a.go
 ·show _ = _; rw [hset_other hlt (ne a.gr (by decide))]; exact a.gr
structure R4 (h : H) (l bn : Nat) (o : Obj) (n : Int) : Prop where
 gl : h.get l = some o
 gn : cC h bn [iI n] 3
theorem R4.kp {h h' : H} {l bn : Nat} {o : Obj} {n : Int} (a : R4 h l bn o n) (k : Kp h h') : R4 h' l bn o n := ⟨k.of a.gl,k.of a.gn⟩
set_option maxHeartbeats 2000000 in
theorem yield4 {h : H} {l bn : Nat} {ρ : Nat → V} {k : Nat} (hm : al.length ≤ 1099511627775) (w5 : ρ 5 = pP bw) (w15 : ρ 15 = pP bn)
  (c : C4 lo h al bw bo br wv ov) (r : R4 h l bn (.loop .ready none (toL 109 ρ) [90] a4_24 b4_27) k) (hk : k < al.length)
  {Rp : V → H → Prop} (hRt : ∀ h',C4 lo h' al bw bo br wv ov → R4 h' l bn (.loop .ready none (toL 109 ρ) [90] a4_24 b4_27) ((k + 1 : Nat) : Int) → Rp (.bool true) h') :
  Sp P E (.yield l) [.agg al[k].cells] h Rp := by
 have nol : ∀ (st : LoopState) (pe : Option C) vs ty op ro fz,Obj.loop st pe (toL 109 ρ) [90] a4_24 b4_27 = .cells vs ty op ro fz → ty = 3 := by intro _ _ _ _ _ _ _ e; cases e
 refine Sp_yield r.gl rfl (zip1 _ _ _ _) (pend' := none) ?_
 obtain ⟨h3,e3,g3,k3,z3⟩ := put_fresh h (vs := [iI 0,iI 0,iI 0,iI 0]) (ws := al[k].cells) (ty := 30) rfl rfl rfl
 have hel : al[k].cells.length = 4 := rfl
 have hpl : List.take 4 al[k].cells = al[k].cells := rfl
 have nja : V.njL al[k].cells = true := rfl
 have c3 := c.kp k3
 have r3 := r.kp k3
 have heq : ∀ h : H,eqV h (.fcons 0 1 false .int (.fcons 1 1 false .int (.fcons 2 1 false .int (.fcons 3 1 false .int .fnil)))) (.agg al[k].cells) (.agg al[k].cells) = some true := fun h => (Flaw.eqv h _ _).trans (by simp)
 have hlt := H.get_lt r3.gl
 have cB := c3.set r3.gl (nol _ _) (.loop .busy none (toL 109 ρ) [90] a4_24 b4_27)
 have oth : ∀ {i : Nat} {vs : List V} {ty : Nat} {op ro : Bool} {fz : Option Nat},h3.get i = some (.cells vs ty op ro fz) → (h3.set l (.loop .busy none (toL 109 ρ) [90] a4_24 b4_27)).get i = some (.cells vs ty op ro fz) := by
  intro i vs ty op ro fz hg
  show _ = _; rw [hset_other hlt (by rintro rfl; change _ = _ at hg; rw [r3.gl] at hg; cases hg)]; exact hg
 have g9 := oth g3
 have gn := oth r3.gn
 have glB := hset_same hlt (.loop .busy none (toL 109 ρ) [90] a4_24 b4_27)
 obtain ⟨b,cs,hwv,hg,hll,he⟩ := acc_get cB.aw hk
 have gw := cB.gw
 rw [hwv] at gw
 have hge : ¬ ((k : Int) ≥ (al.length : Int)) := by omega
 have hki : (k : Int) < (al.length : Int) := by omega
 have hw : IntKind.i64.wrap ((k : Int) + 1) = ((k + 1 : Nat) : Int) := wrap_nat (n := k + 1) (by omega)
 have e4 := put_at (ws := [iI ((k + 1 : Nat) : Int)]) (o := 0) gn (by simp) rfl rfl
 have hset : setR [iI (k : Int)] 0 [iI ((k + 1 : Nat) : Int)] = [iI ((k + 1 : Nat) : Int)] := rfl
 rw [hset] at e4
 have hltn := H.get_lt gn
 have cN := cB.set gn (by intro vs ty op ro fz e; cases e; rfl) (.cells [iI ((k + 1 : Nat) : Int)] 3 false false none)
 have hln : bn ≠ l := by rintro rfl; change _ = _ at gn; rw [glB] at gn; cases gn
 have glN : ((h3.set l (.loop .busy none (toL 109 ρ) [90] a4_24 b4_27)).set bn (.cells [iI ((k + 1 : Nat) : Int)] 3 false false none)).get l = some (.loop .busy none (toL 109 ρ) [90] a4_24 b4_27) := by show _ = _; rw [hset_other hltn hln]; exact glB
 have gnN : cC ((h3.set l (.loop .busy none (toL 109 ρ) [90] a4_24 b4_27)).set bn (.cells [iI ((k + 1 : Nat) : Int)] 3 false false none)) bn [iI ((k + 1 : Nat) : Int)] 3 := hset_same hltn _
 have hl := H.get_lt glN
 have cF := cN.set glN (nol _ _) (.loop .ready none (toL 109 ρ) [90] a4_24 b4_27)
 have rF : R4 (((h3.set l (.loop .busy none (toL 109 ρ) [90] a4_24 b4_27)).set bn (.cells [iI ((k + 1 : Nat) : Int)] 3 false false none)).set l (.loop .ready none (toL 109 ρ) [90] a4_24 b4_27)) l bn (.loop .ready none (toL 109 ρ) [90] a4_24 b4_27) ((k + 1 : Nat) : Int) :=
  ⟨hset_same hl _,by show _ = _; rw [hset_other hl (Ne.symm hln)]; exact gnN⟩
 have gl3 := r3.gl
 have fin := hRt _ cF rF
 clear hRt nol cF rF
 generalize hxc : al[k].cells = xc at *
 generalize hbz : Obj.loop .busy none (toL 109 ρ) [90] a4_24 b4_27 = bz at *
 generalize hrz : Obj.loop .ready none (toL 109 ρ) [90] a4_24 b4_27 = rz at *
 simp only [GR,evK,binV,intOp,strOp,unV,Nat.reduceLT,Nat.reduceEqDiff,↓reduceIte,a4_24,r4_23,hel,e3]
 refine ⟨gl3,_,rfl,?_⟩
 generalize h3.set l bz = hB at *
 generalize hB.set bn (.cells [iI ((k + 1 : Nat) : Int)] 3 false false none) = hN at *
 simp only [GR,evK,binV,intOp,strOp,unV,Nat.reduceLT,Nat.reduceEqDiff,↓reduceIte,b4_27]
 rw [X_draw,d4_25]
 simp only [GR,evK,binV,intOp,strOp,unV,Nat.reduceLT,Nat.reduceEqDiff,↓reduceIte,r4_25,w15,gn,w5,gw,hge,g9,hel,hpl,nja,Int.natCast_nonneg,hki,Int.toNat_natCast,Nat.zero_add,hg,hll,he,heq,r4_26,hw,e4]
 exact ⟨glN,fin⟩
set_option maxHeartbeats 1000000 in
theorem range4 (F : Ff E) {h : H} {bn : Nat} {ρ : Nat → V} {K : List Fr} {Q : Po} (hm : al.length ≤ 1099511627775) (w5 : ρ 5 = pP bw) (w15 : ρ 15 = pP bn) (w89 : ρ 89 = .func 26 [] [pP bo])
  (c : C4 lo h al bw bo br wv ov) (gn : cC h bn [iI 0] 3)
  (cont : ∀ (h' : H),C4 lo h' al bw bo br wv ov → cC h' bn [iI al.length] 3 → X P E none 109 K ρ h' Q) :
  X P E none 109 (.c (.range (.t 89) [90] a4_24 b4_27) :: .b 6 :: K) ρ h Q := by
 have nol : ∀ (st : LoopState) (pe : Option C) (T : List V) (as bd : C) vs ty op ro fz,Obj.loop st pe T [90] as bd = .cells vs ty op ro fz → ty = 3 := by intro _ _ _ _ _ _ _ _ _ _ e; cases e
 have kL : Kp h (h.psh (.loop .ready none (toL 109 ρ) [90] a4_24 b4_27)) := Keeps.psh (Nat.le_refl _) _
 have glL := psh_same h (.loop .ready none (toL 109 ρ) [90] a4_24 b4_27)
 refine X_range (by rw [ev_t (by decide)]; exact congrArg some w89) rfl ?_
 refine Sp.mono (flaws26 F (l := h.size) (bo := bo) (lo := lo) (ov := ov) (all := al) hm
  (Inv := fun r h' => ∃ k : Nat,k ≤ al.length ∧ al.drop k = r ∧ C4 lo h' al bw bo br wv ov ∧ R4 h' h.size bn (.loop .ready none (toL 109 ρ) [90] a4_24 b4_27) k)
  (Stp := fun _ => False) ?_ ?_ ?_ ?_) ?_
 ·rintro r h1 h2 ⟨k,hk,hd,c1,r1⟩ k2
  exact ⟨k,hk,hd,c1.kp k2,r1.kp k2⟩
 ·rintro r h1 ⟨k,hk,hd,c1,r1⟩
  exact ⟨⟨24,c1.go⟩,c1.ao⟩
 ·rintro f r h1 ⟨k,hk,hd,c1,r1⟩
  have hlt : k < al.length := by
   rcases Nat.lt_or_ge k al.length with h | h
   ·exact h
   ·rw [List.drop_eq_nil_of_le h] at hd; cases hd
  rw [List.drop_eq_getElem_cons hlt] at hd
  have hf : al[k] = f := (List.cons.inj hd).1
  have hr : al.drop (k + 1) = r := (List.cons.inj hd).2
  rw [← hf]
  refine yield4 hm w5 w15 c1 r1 hlt ?_
  intro h' c2 r2
  exact .inl ⟨rfl,k + 1,hlt,hr,c2,r2⟩
 ·exact ⟨0,Nat.zero_le _,rfl,c.kp kL,⟨glL,kL.of gn⟩⟩
 ·rintro _ h2 (⟨k,hk,hd,c2,r2⟩ | h0)
  ·have hke : k = al.length := by
    have := congrArg List.length hd
    rw [List.length_drop,List.length_nil] at this; omega
   refine ⟨_,_,_,_,_,_,r2.gl,by decide,fun oe hoe => ?_⟩
   have hl := H.get_lt r2.gl
   have c3 := c2.set r2.gl (nol _ _ _ _ _) oe
   have g4 : cC (h2.set h.size oe) bn [iI k] 3 := by
    show _ = _; rw [hset_other hl (by rintro rfl; have := r2.gn; change _ = _ at this; rw [r2.gl] at this; cases this)]; exact r2.gn
   rw [hke] at g4
   simp only
   simp only [GR,evK,binV,intOp,strOp,unV,Nat.reduceLT,Nat.reduceEqDiff,↓reduceIte]
   exact cont _ c3 g4
  ·exact h0.elim
set_option maxHeartbeats 1000000 in
theorem same4 (G : Fa E) {ps qs : List (Entry × DEnt)} {w1 w2 : V} {hA : H} (hs1 : Sl hA 56 w1 (ps.map fun p => p.1.cells)) (hi1 : ∀ p ∈ ps,EIn hA p.1 p.2) (hs2 : Sl hA 56 w2 (qs.map fun p => p.1.cells)) (hi2 : ∀ p ∈ qs,EIn hA p.1 p.2) (heq : ps.map (·.2) = qs.map (·.2)) (hpl : ps.length ≤ 1048576) {K : List Fr} {Q : Po} {ρ0 : Nat → V} (w7 : ρ0 7 = w1)
  (cont : ∀ (ρ' : Nat → V) (h' : H),(∀ j,j < 10 → ρ' j = ρ0 j) → Kp hA h' → X P E none 109 K ρ' h' Q) :
  ∀ (d k : Nat) (ρ : Nat → V) (h : H),ps.length - k = d → k ≤ ps.length → (∀ j,j < 10 → ρ j = ρ0 j) → ρ 13 = w2 → ρ 73 = iI ps.length → ρ 74 = iI k → Kp hA h → XL P E none 109 b4_20 (.b 4 :: K) ρ h Q := by
 intro d
 have hlen : ps.length = qs.length := by simpa using congrArg List.length heq
 induction d with
 | zero =>
  intro k ρ h hd hk hr q13 q73 q74 kA
  have hke : ¬ k < ps.length := by omega
  rw [u4_20]
  simp only [GR,evK,binV,intOp,strOp,unV,Nat.reduceLT,Nat.reduceEqDiff,↓reduceIte,q73,q74,Int.ofNat_lt,hke]
  refine cont _ h (fun j hj => ?_) kA
  simp only [up_app]
  repeat rw [if_neg (by omega)]
  exact hr j hj
 | succ d ih =>
  intro k ρ h hd hk hr q13 q73 q74 kA
  have hke : k < ps.length := by omega
  have hky : k < qs.length := by omega
  obtain ⟨b,o,cap,opn,cs,ty,op,ro,fz,v1,hg,hll,he⟩ := (hs1.keep kA).get (k := k) (x := ps[k].1.cells) (by simp [hke])
  obtain ⟨b2,o2,cap2,opn2,cs2,ty2,op2,ro2,fz2,v2,hg2,hll2,he2⟩ := (hs2.keep kA).get (k := k) (x := qs[k].1.cells) (by simp [hky])
  rw [List.length_map] at v1 v2
  have q7' := ((hr 7 (by decide)).trans w7).trans v1
  have q13' := q13.trans v2
  have dx := (hi1 _ (List.getElem_mem hke)).keep kA
  have dy := (hi2 _ (List.getElem_mem hky)).keep kA
  have hde : ps[k].2 = qs[k].2 := by
   have : (ps.map (·.2))[k]'(by simp [hke]) = (qs.map (·.2))[k]'(by simp [hky]) := by simp only [heq]
   simpa using this
  unfold getR at he he2
  have hw : IntKind.i64.wrap ((k : Int) + 1) = ((k + 1 : Nat) : Int) := wrap_nat (n := k + 1) (by omega)
  have njx := dx.nj
  have njy := dy.nj
  have sp := ent11 (P := P) G dx dy
  rw [decide_eq_true hde] at sp
  generalize hxc : ps[k].1.cells = xc at *
  generalize hyc : qs[k].1.cells = yc at *
  rw [u4_20]
  simp only [GR,evK,binV,intOp,strOp,unV,Nat.reduceLT,Nat.reduceEqDiff,↓reduceIte,q73,q74,Int.ofNat_lt,hke,r4_17]
  rw [X_draw]
  refine d4_18 ?_
  simp only [GR,evK,binV,intOp,strOp,unV,Nat.reduceLT,Nat.reduceEqDiff,↓reduceIte,r4_18,q7',q13',Int.ofNat_lt,hke,hky,hg,hg2,hll,hll2,he,he2,Int.natCast_nonneg,Int.toNat_natCast,njx,njy]
  refine XCD_of sp ?_
  rintro _ h1 ⟨rfl,k1⟩
  simp only [GR,evK,binV,intOp,strOp,unV,Nat.reduceLT,Nat.reduceEqDiff,↓reduceIte,Bool.not_true,r4_19,q74,hw]
  refine ih (k + 1) _ h1 (by omega) (by omega) (fun j hj => ?_) ?_ ?_ ?_ (Kp.trans kA k1)
  ·simp only [up_app]
   repeat rw [if_neg (by omega)]
   exact hr j hj
  ·exact q13
  ·exact q73
  ·rfl
set_option maxHeartbeats 2000000 in
theorem law4 (F : Ff E) (f4 : E.fns 4 = some fn4) (p4 : E.prim 4 = none) (G : Fa E) (F23 : Fr23 E) (hfrom : FromE P E) (beg : ∀ h,Sp P E (.func 6 [] []) [] h fun r h' => r = .bool true ∧ h' = h) {v : V} {ws : List WV} {g : Int} {h0 : H} (hv : VsIn h0 v ws) (ht : totG ws ≤ 1048576) (hlen : (allF ws).length ≤ 1099511627775) :
  Sp P E (.func 4 [] []) [v,iI g] h0 fun r _ => r = .bool true := by
 refine Sp_fn f4 p4 (by simp [fn4]) ?_
 simp only [GR,evK,binV,intOp,strOp,unV,Nat.reduceLT,Nat.reduceEqDiff,↓reduceIte,fn4,c4]
 have k1 : Kp h0 (h0.psh (.cells [.bool false] 4 false false none)) := Keeps.psh (Nat.le_refl _) _
 have g1 := psh_same h0 (.cells [.bool false] 4 false false none)
 generalize h0.psh (.cells [.bool false] 4 false false none) = h1 at *
 simp only [GR,evK,binV,intOp,strOp,unV,Nat.reduceLT,Nat.reduceEqDiff,↓reduceIte,r4_0]
 refine XC_of (beg h1) ?_
 rintro _ hx ⟨rfl,e2⟩
 rw [e2]
 clear e2 hx
 simp only [GR,evK,binV,intOp,strOp,unV,Nat.reduceLT,Nat.reduceEqDiff,↓reduceIte,Bool.not_true,r4_1]
 refine XC_of (flaws7 (P := P) F G F23 (hv.keep k1) hlen) ?_
 rintro wv h3 ⟨accw,k3⟩
 obtain ⟨_,pw,cw,ow,hwv⟩ := acc_elems accw
 obtain ⟨h4,e4,g4,k4,z4⟩ := put_fresh h3 (vs := [sN]) (ws := [wv]) (ty := 24) rfl (by rw [hwv]; rfl) rfl
 have acc4 := accw.keep k4
 have k14 : Kp h0 h4 := Kp.trans k1 (Kp.trans k3 k4)
 have g14 := (Kp.trans k3 k4).of g1
 rw [hwv] at e4 g4 acc4 ⊢
 simp only [GR,evK,binV,intOp,strOp,unV,Nat.reduceLT,Nat.reduceEqDiff,↓reduceIte,e4,r4_2]
 refine XC_of (log9 G (hv.keep k14) ht) ?_
 rintro _ h5 ⟨⟨u1,ps,rfl,s1,i1,m1,n1⟩,k5⟩
 have k15 := Kp.trans k14 k5
 simp only [GR,evK,binV,intOp,strOp,unV,Nat.reduceLT,Nat.reduceEqDiff,↓reduceIte,r4_3]
 refine XC_of (log10 G (hv.keep k15) ht) ?_
 rintro _ h6 ⟨⟨u2,qs,rfl,oq,m2,n2⟩,k6⟩
 obtain ⟨b1,c1,o1,ew1⟩ := s1.len
 rw [List.length_map] at ew1
 obtain ⟨b2,c2,o2,ew2⟩ := oq.acc.sl.len
 rw [List.length_map] at ew2
 -- what is written over does not matter
 have tail : ∀ (ρ : Nat → V) (h7 : H),ρ 0 = v → ρ 1 = iI g → ρ 4 = pP h0.size → ρ 5 = pP h3.size → ρ 7 = u1 → Kp h5 h7 → XO P E none 109 r4_14 [.c (.seq (.seq (.region r4_15) (.cond (.t 71) (.seq (.region [⟨none,.store 1 (.t 4) (.k (.bool false)),none,0,[4]⟩]) (.ret)) (.skip))) (.seq (.seq (.region r4_16) (.block 4 (.loop b4_20))) (.seq (.region r4_21) (.seq (.seq (.region r4_22) (.block 6 (.range (.t 89) [90] a4_24 b4_27))) (.seq (.region r4_28) (.ret))))))] ρ h7 (Fin [.c 4 1 false] fun r _ => r = .bool true) := by
  intro ρ h7 q0 q1 q4 q5 q7 k7
  have k17 := Kp.trans k15 k7
  simp only [GR,evK,binV,intOp,strOp,unV,Nat.reduceLT,Nat.reduceEqDiff,↓reduceIte,r4_14,q0,q1]
  refine XC_of (log9 G (hv.keep k17) ht) ?_
  rintro _ h8 ⟨⟨u3,rs,rfl,s3,i3,m3,n3⟩,k8⟩
  have k18 := Kp.trans k17 k8
  obtain ⟨b3,c3,o3,ew3⟩ := s3.len
  rw [List.length_map] at ew3
  have heq : ps.map (·.2) = rs.map (·.2) := m1.trans m3.symm
  have hlen2 : ps.length = rs.length := by simpa using congrArg List.length heq
  have hne : ((ps.length : Int) != (rs.length : Int)) = false := by simp [hlen2]
  have q7' := q7.trans ew1
  simp only [GR,evK,binV,intOp,strOp,unV,Nat.reduceLT,Nat.reduceEqDiff,↓reduceIte,r4_15,q7',ew3,hne,r4_16]
  have k78 := Kp.trans k7 k8
  refine same4 G (s1.keep k78) (fun p hp => (i1 p hp).keep k78) s3 i3 heq n1 (ρ0 := ρ) q7 ?_ ps.length 0 _ h8 rfl (Nat.zero_le _) (fun j hj => ?_) ?_ ?_ ?_ (Keeps.refl _ _)
  ·intro ρ2 h9 hr2 k9
   have k19 := Kp.trans k18 k9
   have y0 := (hr2 0 (by decide)).trans q0
   have y4 := (hr2 4 (by decide)).trans q4
   have y5 := (hr2 5 (by decide)).trans q5
   obtain ⟨h10,e10,g10,k10,z10⟩ := put_fresh h9 (vs := [iI 0]) (ws := [iI 0]) (ty := 3) rfl rfl rfl
   simp only [GR,evK,binV,intOp,strOp,unV,Nat.reduceLT,Nat.reduceEqDiff,↓reduceIte,r4_21,e10,r4_22,y0]
   have k110 := Kp.trans k19 k10
   refine XC_of (flaws8 F (flawsP25 F G hfrom (hv.keep k110) hlen)) ?_
   rintro _ h11 ⟨bo,ov,rfl,g11,acco,k11⟩
   have k511 : Kp h5 h11 := Kp.trans k78 (Kp.trans k9 (Kp.trans k10 k11))
   have k411 : Kp h4 h11 := Kp.trans k5 k511
   simp only [GR,evK,binV,intOp,strOp,unV,Nat.reduceLT,Nat.reduceEqDiff,↓reduceIte]
   refine range4 F hlen ?_ ?_ ?_ (lo := 0) (bw := h3.size) (br := h0.size) (bn := h9.size) (wv := .slice pw (List.map Flaw.cells (allF ws)).length cw ow) (ov := ov) (bo := bo) ⟨k411.of g4,g11,k411.of g14,(acc4.keep k411).lo (Nat.zero_le _),acco.lo (Nat.zero_le _)⟩ (k11.of g10) ?_
   ·exact y5
   ·rfl
   ·rfl
   ·intro h12 c12 gn
    have gw := c12.gw
    have hb : (((allF ws).length : Int) == ((allF ws).length : Int)) = true := by simp
    rw [List.length_map] at gw
    have e6 := put_at (ws := [.bool true]) (o := 0) c12.gr (by simp) rfl rfl
    have hset : setR [V.bool false] 0 [.bool true] = [.bool true] := rfl
    rw [hset] at e6
    have g6 := hset_same (H.get_lt c12.gr) (.cells [.bool true] 4 false false none)
    simp only [GR,evK,binV,intOp,strOp,unV,Nat.reduceLT,Nat.reduceEqDiff,↓reduceIte,r4_28,gn,y5,gw,hb,y4,e6]
    rw [resVs_c (L := 109) (a := 4) (i := h0.size) (o := 0) (by decide) _ ?hp,g6,resVs_nil]
    case hp => exact y4
    exact rfl
  ·simp only [up_app]
   repeat rw [if_neg (by omega)]
  ·exact ew3.symm
  ·rw [hlen2]; rfl
  ·rfl
 by_cases hq : qs = []
 ·subst hq
  rw [List.length_nil] at ew2
  have hz : ¬ ((0 : Int) < ((0 : Nat) : Int)) := by decide
  simp only [GR,evK,binV,intOp,strOp,unV,Nat.reduceLT,Nat.reduceEqDiff,↓reduceIte,r4_4,ew2]
  rw [u4_13]
  simp only [GR,evK,binV,intOp,strOp,unV,Nat.reduceLT,Nat.reduceEqDiff,↓reduceIte,hz]
  refine tail _ h6 ?_ ?_ ?_ ?_ ?_ k6
  all_goals rfl
 ·obtain ⟨b,hvb,wr⟩ := Wr.of oq hq
  rw [hvb]
  simp only [GR,evK,binV,intOp,strOp,unV,Nat.reduceLT,Nat.reduceEqDiff,↓reduceIte,r4_4]
  have hml : ∀ p ∈ qs,p.2.ops.length ≤ 1048576 := fun p hp => (oq.ins p hp).len
  refine over4 (lo := h5.size) (hA := h6) (b := b) (ps := qs) n2 hml (ρ0 := _) ?_ ?_ _ 0 _ h6 rfl (Nat.zero_le _) (fun j _ => rfl) ?_ ?_ wr (Keeps.refl _ _)
  ·rfl
  ·intro ρ2 h7 hr2 k7
   simp only [GR,evK,binV,intOp,strOp,unV,Nat.reduceLT,Nat.reduceEqDiff,↓reduceIte]
   refine tail ρ2 h7 ?_ ?_ ?_ ?_ ?_ (Keeps.trans (n := h5.size) k6 k7)
   ·exact (hr2 0 (by decide)).trans rfl
   ·exact (hr2 1 (by decide)).trans rfl
   ·exact (hr2 4 (by decide)).trans rfl
   ·exact (hr2 5 (by decide)).trans rfl
   ·exact (hr2 7 (by decide)).trans rfl
  ·rfl
  ·rfl
end Go.AM.Sc
