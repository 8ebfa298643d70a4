/- My own texts, laid for this claim. -/
import Derived.Test.YtelbgimbkfjabaaAu9ToRf5a
set_option linter.unusedSimpArgs false
set_option linter.unusedVariables false
namespace Go.AM.Sc
open Go.AM
variable {P : Program} {E : Env}
theorem RT.put {lo : Nat} {h h' : H} {t : Nat} {xs : List TNode} (a : RT lo h t xs) (k : Kp h h') : RT lo h' t xs := a.kp k
theorem treeNP_top {ds : List DNode} {x : NP} (h : x ∈ treeNP ds) (ht : topI x.1 = true) : x.2 = 0 := by
 unfold treeNP at h
 rcases List.mem_append.1 h with h | h
 ·simp at h; rcases h with rfl | rfl <;> rfl
 ·obtain ⟨d,hd,rfl⟩ := List.mem_map.1 h
  have := (List.mem_filter.1 hd).2
  simp only at ht
  rw [ht] at this; cases this
structure LaidR (hb : H) (xs : List TNode) (ds : List DNode) (last : Int) : Prop where
 np : xs.map TNode.np = treeNP ds
 rd : ∀ x ∈ xs,RdA hb x
 srt : Srt (treeNP ds)
 le : ∀ x ∈ treeNP ds,topI x.1 = false → x.1 ≤ last
theorem treeNP_grf {ds : List DNode} (h : Srt (treeNP ds)) : Grf (treeNP ds) := by
 refine ⟨(List.Pairwise.imp (fun h => by omega) h : List.Pairwise (· ≠ ·) _),?_,?_⟩ <;> simp [treeNP]
set_option maxHeartbeats 4000000 in
theorem loop9 (F : Fr23 E) {hb : H} {t : Nat} {lv : V} {ns : List (TNode × DNode)} (hs : Sl hb 4 lv (ns.map fun p => p.1.cells)) (hin : ∀ p ∈ ns,NIn hb p.1 p.2) (hl : ns.length ≤ 1048576) {K : List Fr} {Q : Po}
  (contN : ∀ (ρ' : Nat → V) (h' : H) (xs : List TNode) (last : Int),nodesB 0 (ns.map (·.2)) = true → ρ' 4 = pP t → RT hb.size h' t xs → LaidR hb xs (ns.map (·.2)) last → Kp hb h' → X P E none 141 K ρ' h' Q)
  (contB : ∀ (ρ' : Nat → V) (h' : H),nodesB 0 (ns.map (·.2)) = false → ρ' 2 = .ptr none → ρ' 3 = .bool false → Kp hb h' → Q .ret (toL 141 ρ') h') :
  ∀ (d k : Nat) (last : Int) (xs : List TNode) (ρ : Nat → V) (h : H),ns.length - k = d → k ≤ ns.length → nodesB 0 (ns.map (·.2)) = nodesB last ((ns.map (·.2)).drop k) → 0 ≤ last → (∀ j,k = j + 1 → ((ns.map (·.2))[j]?).map DNode.node = some last) → (k = 0 → last = 0) → ρ 0 = lv → ρ 4 = pP t → ρ 5 = iI k → RT hb.size h t xs → LaidR hb xs ((ns.map (·.2)).take k) last → Kp hb h →
   XL P E none 141 b23_9 (.b 0 :: K) ρ h Q := by
 obtain ⟨la0,lc0,lo0,hlv⟩ := hs.len
 rw [List.length_map] at hlv
 intro d
 induction d with
 | zero =>
  intro k last xs ρ h hd hk hnb h0 hlast hl0 q0 q4 q5 rt la kk
  have hke : ¬ k < ns.length := by omega
  rw [List.drop_eq_nil_of_le (by simp; omega)] at hnb
  rw [List.take_of_length_le (by simp; omega)] at la
  have q0' := q0.trans hlv
  rw [u23_9]
  simp only [GR,evK,binV,intOp,strOp,unV,Nat.reduceLT,Nat.reduceEqDiff,↓reduceIte,r23_2,q0',q5,Int.ofNat_lt,hke]
  exact contN _ h xs last hnb q4 rt la kk
 | succ d ih =>
  intro k last xs ρ h hd hk hnb h0 hlast hl0 q0 q4 q5 rt la kk
  have hke : k < ns.length := by omega
  have hkm : k < (ns.map (·.2)).length := by simpa using hke
  obtain ⟨b,o,cap,opn,cs,ty,op,ro,fz,v1,hg,hll,he⟩ := (hs.keep kk).get (k := k) (x := ns[k].1.cells) (by simp [hke])
  have q0' : ρ 0 = V.slice (some (b,o)) ns.length cap opn := by rw [q0,v1,List.length_map]
  have nin := hin _ (List.getElem_mem hke)
  have hdk : (ns.map (·.2))[k] = ns[k].2 := by simp
  have hsa := nin.attrs
  obtain ⟨sa,sc,so,hav⟩ := hsa.len
  rw [List.length_map] at hav
  have hxc : ns[k].1.cells = [iI ns[k].2.node,iI ns[k].2.parent,.str ns[k].2.name,ns[k].1.attrs] := by
   simp only [TNode.cells,nin.node,nin.parent,nin.name]
  rw [hxc,hav] at he
  rw [hav] at hsa
  have hal := nin.len
  rw [nodesB_at hkm,hdk] at hnb
  have htk := treeNP_take hkm
  rw [hdk] at htk
  have hprev : 0 < k → cs[o + (k - 1) * 4]? = some (iI last) := fun hk0 => by
   obtain ⟨i,rfl⟩ : ∃ i,k = i + 1 := ⟨k - 1,by omega⟩
   have hi : i < ns.length := by omega
   obtain ⟨b2,o2,cap2,opn2,cs2,ty2,op2,ro2,fz2,v2,hg2,hll2,he2⟩ := (hs.keep kk).get (k := i) (x := ns[i].1.cells) (by simp [hi])
   rw [v1] at v2
   cases v2
   rw [hg] at hg2; cases hg2
   have h1 := getR_nth he2 (i := 0) (y := iI ns[i].1.node) rfl
   have h2 := hlast i rfl
   have h3 := (hin _ (List.getElem_mem hi)).node
   simp [hi] at h2
   rw [← h2,← h3]
   simpa using h1
  have hnext : ((ns.map (·.2))[k]?).map DNode.node = some ns[k].2.node := by simp [hke]
  obtain ⟨h3,e3,g3,k3,z3⟩ := put_fresh h (vs := [iI 0,iI 0,.str [],sN]) (ws := [iI ns[k].2.node,iI ns[k].2.parent,.str ns[k].2.name,.slice sa ns[k].2.attrs.length sc so]) (ty := 67) rfl rfl rfl
  generalize ns[k].2 = dn at *
  obtain ⟨nd,pa,nm,ats⟩ := dn
  simp only at *
  unfold getR at he
  have hw : IntKind.i64.wrap ((k : Int) + 1) = ((k + 1 : Nat) : Int) := wrap_nat (n := k + 1) (by omega)
  have kk3 := Kp.trans kk k3
  have rt3 := rt.kp k3
  have hl3 : hb.size ≤ h3.size := kk3.size
  have hgk : ∀ {h4},Kp h3 h4 → h4.get b = some (.cells cs ty op ro fz) := fun k4 => k4.of (k3.of hg)
  -- behind the checks
  have good : ∀ (ρ' : Nat → V) (h4 : H),headB last ⟨nd,pa,nm,ats⟩ = true → attrsB [] ats = true → Kp h3 h4 → ρ' 0 = lv → ρ' 4 = pP t → ρ' 5 = iI k → ρ' 6 = pP h.size →
    XO P E none 141 r23_7 (.b 1 :: .c (.region r23_8) :: .l b23_9 :: .b 0 :: K) ρ' h4 Q := by
   intro ρ' h4 hh hat k4 w0 w4 w5 w6
   have kk4 := Kp.trans kk3 k4
   have rt4 := rt3.kp k4
   have g4 := k4.of g3
   have hl4 : hb.size ≤ h4.size := kk4.size
   have hh0 := hh
   simp only [headB,Bool.and_eq_true,decide_eq_true_eq] at hh
   obtain ⟨hlt,hhd⟩ := hh
   have hnbk : nodesB 0 (ns.map (·.2)) = nodesB nd ((ns.map (·.2)).drop (k + 1)) := by rw [hnb,hh0,hat]; simp
   have hln : xs.length ≤ 1048578 := by
    have h1 := treeNP_len ((ns.map (·.2)).take k)
    rw [← la.np,List.length_map] at h1
    simp at h1; omega
   have hlen2 : 2 ≤ xs.length := by
    have h1 := congrArg List.length la.np
    simp [treeNP] at h1; omega
   have hxc2 : (TNode.mk nd pa nm (.slice sa ats.length sc so)).cells = [iI nd,iI pa,.str nm,.slice sa ats.length sc so] := rfl
   have hrdx : RdA hb (TNode.mk nd pa nm (.slice sa ats.length sc so)) := ⟨_,hsa,by intro y hy; obtain ⟨z,_,rfl⟩ := List.mem_map.1 hy; rfl,by rw [List.length_map]; exact hal⟩
   have hsrt : Srt (xs.map TNode.np) := by rw [la.np]; exact la.srt
   have tail : ∀ (xs' : List TNode) (v : V) (h5 : H),RT hb.size h5 t xs' → LaidR hb xs' ((ns.map (·.2)).take (k + 1)) nd → Keeps hb.size h4 h5 → ∀ ρ5 : Nat → V,ρ5 0 = lv → ρ5 4 = pP t → ρ5 5 = iI k →
     XO P E none 141 r23_8 (.l b23_9 :: .b 0 :: K) ρ5 h5 Q := by
    intro xs' v h5 rt5 la5 k5 ρ5 y0 y4 y5
    simp only [GR,evK,binV,intOp,strOp,unV,Nat.reduceLT,Nat.reduceEqDiff,↓reduceIte,r23_8,y5,hw]
    refine ih (k + 1) nd xs' _ h5 (by omega) (by omega) hnbk (by omega) ?_ (by omega) ?_ ?_ ?_ rt5 la5 (Keeps.trans kk4 k5)
    ·intro j hj
     have : k = j := by omega
     rw [← this]; exact hnext
    ·exact y0
    ·exact y4
    ·rfl
   cases htop : topI nd with
   | true =>
    rw [htop] at hhd
    simp only [if_true,Bool.and_eq_true,beq_iff_eq] at hhd
    obtain ⟨rfl,rfl⟩ := hhd
    have hmem : nd ∈ xs.map TNode.node := by
     rw [← np_node,la.np]; exact (treeNP_grf la.srt).tops htop
    obtain ⟨x0,hx0,he0⟩ := List.mem_map.1 hmem
    obtain ⟨i,hi,rfl⟩ := List.mem_iff_getElem.1 hx0
    obtain ⟨f1,f2⟩ := find_at hsrt hi
    rw [he0] at f1 f2
    have hnp0 : (xs[i]).np = (nd,0) := by
     have hm : xs[i].np ∈ treeNP ((ns.map (·.2)).take k) := by rw [← la.np]; exact List.mem_map.2 ⟨_,List.getElem_mem hi,rfl⟩
     have := treeNP_top hm (by simp only [TNode.np]; rw [he0]; exact htop)
     simp only [TNode.np] at this ⊢
     rw [he0,this]
    have sp := put47_top (P := P) F rt4 hl4 hln (x := TNode.mk nd 0 [] (.slice sa ats.length sc so)) ⟨_,_,_,_,rfl⟩ hi f1 f2
    rw [hxc2] at sp
    simp only [GR,evK,binV,intOp,strOp,unV,Nat.reduceLT,Nat.reduceEqDiff,↓reduceIte,r23_7,w4,w6,g4]
    refine XC_of sp ?_
    rintro v h5 ⟨rt5,k5⟩
    have hmapset : (xs.set i ⟨nd,0,[],.slice sa ats.length sc so⟩).map TNode.np = xs.map TNode.np := by
     rw [List.map_set]
     show (xs.map TNode.np).set i (nd,0) = _
     rw [← hnp0]
     refine List.ext_getElem? fun j => ?_
     rw [List.getElem?_set]
     split
     ·rename_i hij; subst hij
      simp [hi]
     ·rfl
    simp only [GR,evK,binV,intOp,strOp,unV,Nat.reduceLT,Nat.reduceEqDiff,↓reduceIte]
    refine tail _ v h5 rt5 ⟨?_,?_,?_,?_⟩ k5 _ ?_ ?_ ?_
    ·rw [hmapset,la.np,htk,htop]; rfl
    ·intro x hx
     rcases List.mem_or_eq_of_mem_set hx with hx | rfl
     ·exact la.rd x hx
     ·exact hrdx
    ·rw [htk,htop]; exact la.srt
    ·rw [htk,htop]
     intro x hx ht
     have := la.le x hx ht
     omega
    ·exact w0
    ·exact w4
    ·exact w5
   | false =>
    rw [htop] at hhd
    simp only [Bool.false_eq_true,if_false] at hhd
    have h3nd : 2 < nd := by
     have h1 : nd ≠ 1 := by rintro rfl; cases htop
     have h2 : nd ≠ 2 := by rintro rfl; cases htop
     omega
    have hall : ∀ x ∈ xs,x.node < nd := by
     intro x hx
     have hm : x.np ∈ treeNP ((ns.map (·.2)).take k) := by rw [← la.np]; exact List.mem_map.2 ⟨x,hx,rfl⟩
     cases ht : topI x.node with
     | true =>
      simp only [topI,Bool.or_eq_true,beq_iff_eq] at ht
      omega
     | false => have := la.le _ hm ht; simp only [TNode.np] at this; omega
    have f1 : findI xs nd = xs.length := findI_at (Nat.le_refl _) (fun x hx => hall x (List.mem_of_mem_take hx)) (fun h => by omega)
    have f2 : findB xs nd = false := find_no (by intro hm; obtain ⟨x,hx,e⟩ := List.mem_map.1 hm; have := hall x hx; omega)
    have sp := put47_new (P := P) F rt4 hl4 hln (x := TNode.mk nd pa nm (.slice sa ats.length sc so)) ⟨_,_,_,_,rfl⟩ f1 f2 (by omega)
    rw [hxc2] at sp
    simp only [GR,evK,binV,intOp,strOp,unV,Nat.reduceLT,Nat.reduceEqDiff,↓reduceIte,r23_7,w4,w6,g4]
    refine XC_of sp ?_
    rintro v h5 ⟨rt5,k5⟩
    simp only [GR,evK,binV,intOp,strOp,unV,Nat.reduceLT,Nat.reduceEqDiff,↓reduceIte]
    have htk2 : treeNP ((ns.map (·.2)).take (k + 1)) = treeNP ((ns.map (·.2)).take k) ++ [(nd,pa)] := by rw [htk,htop]; rfl
    refine tail _ v h5 rt5 ⟨?_,?_,?_,?_⟩ k5 _ ?_ ?_ ?_
    ·rw [List.map_append,la.np,htk2]; rfl
    ·intro x hx
     rcases List.mem_append.1 hx with hx | hx
     ·exact la.rd x hx
     ·rw [List.mem_singleton.1 hx]; exact hrdx
    ·rw [htk2]
     unfold Srt
     rw [List.map_append,List.pairwise_append]
     refine ⟨la.srt,by simp,fun a ha c hc => ?_⟩
     simp at hc; subst hc
     rw [← la.np,np_node] at ha
     obtain ⟨x,hx,rfl⟩ := List.mem_map.1 ha
     exact hall x hx
    ·rw [htk2]
     intro x hx ht
     rcases List.mem_append.1 hx with hx | hx
     ·have := la.le x hx ht; omega
     ·rw [List.mem_singleton.1 hx]; exact Int.le_refl _
    ·exact w0
    ·exact w4
    ·exact w5
  have chk : ∀ ρ' : Nat → V,ρ' 0 = lv → ρ' 4 = pP t → ρ' 5 = iI k → ρ' 6 = pP h.size → ρ' 7 = .bool (topI nd) →
    X P E none 141 (.c (.draw r23_5) :: .c (.cond (.t 78) (.seq (.region r23_6) (.ret)) (.skip)) :: .c (.region r23_7) :: .b 1 :: .c (.region r23_8) :: .l b23_9 :: .b 0 :: K) ρ' h3 Q := by
   intro ρ' w0 w4 w5 w6 w7
   have w0' : ρ' 0 = V.slice (some (b,o)) ns.length cap opn := by rw [w0,← q0,q0']
   rw [X_draw]
   refine d23_5 (chk23 (P := P) F (last := last) g3 (hsa.keep kk3) ⟨_,_,_,_,rfl⟩ hal w0' w5 w6 w7 (hgk (Keeps.refl _ _)) hke hl h0 hl0 hprev ?_)
   intro ρ2 e78 e0 e4 e5 e6
   cases hh : headB last ⟨nd,pa,nm,ats⟩ && attrsB [] ats with
   | false =>
    have hbad : nodesB 0 (ns.map (·.2)) = false := by rw [hnb,hh]; simp
    rw [hh,Bool.not_false] at e78
    simp only [GR,evK,binV,intOp,strOp,unV,Nat.reduceLT,Nat.reduceEqDiff,↓reduceIte,e78,r23_6]
    exact contB _ h3 hbad rfl rfl kk3
   | true =>
    rw [hh,Bool.not_true] at e78
    simp only [Bool.and_eq_true] at hh
    simp only [GR,evK,binV,intOp,strOp,unV,Nat.reduceLT,Nat.reduceEqDiff,↓reduceIte,e78]
    exact good _ h3 hh.1 hh.2 (Keeps.refl _ _) (e0.trans w0) (e4.trans w4) (e5.trans w5) (e6.trans w6)
  rw [u23_9]
  cases n1 : nd == 1 with
  | true =>
   simp only [GR,evK,binV,intOp,strOp,unV,Nat.reduceLT,Nat.reduceEqDiff,↓reduceIte,r23_2,q0',q5,Int.ofNat_lt,hke,r23_3,Int.natCast_nonneg,Int.toNat_natCast,hg,hll,he,e3,r23_4,g3,n1]
   refine chk _ ?_ ?_ ?_ ?_ ?_
   ·exact q0
   ·exact q4
   ·exact q5
   ·rfl
   ·show V.bool true = _; simp [topI,n1]
  | false =>
   cases n2 : nd == 2 with
   | true =>
    simp only [GR,evK,binV,intOp,strOp,unV,Nat.reduceLT,Nat.reduceEqDiff,↓reduceIte,r23_2,q0',q5,Int.ofNat_lt,hke,r23_3,Int.natCast_nonneg,Int.toNat_natCast,hg,hll,he,e3,r23_4,g3,n1,n2]
    refine chk _ ?_ ?_ ?_ ?_ ?_
    ·exact q0
    ·exact q4
    ·exact q5
    ·rfl
    ·show V.bool true = _; simp [topI,n1,n2]
   | false =>
    simp only [GR,evK,binV,intOp,strOp,unV,Nat.reduceLT,Nat.reduceEqDiff,↓reduceIte,r23_2,q0',q5,Int.ofNat_lt,hke,r23_3,Int.natCast_nonneg,Int.toNat_natCast,hg,hll,he,e3,r23_4,g3,n1,n2]
    refine chk _ ?_ ?_ ?_ ?_ ?_
    ·exact q0
    ·exact q4
    ·exact q5
    ·rfl
    ·show V.bool false = _; simp [topI,n1,n2]
set_option maxHeartbeats 1000000 in
theorem inner19 (F : Fr23 E) {lo : Nat} {h : H} {t : Nat} {ys : List TNode} (a : RT lo h t ys) (hl : ys.length ≤ 1048578) (g : Grf (ys.map TNode.np)) (hs : Srt (ys.map TNode.np)) {u8 : V} {c : Bool} {K : List Fr} {Q : Po}
  (contN : c = true → ∀ ρ' : Nat → V,ρ' 4 = pP t → ρ' 8 = u8 → X P E none 141 K ρ' h Q)
  (contB : c = false → ∀ ρ' : Nat → V,ρ' 2 = .ptr none → ρ' 3 = .bool false → Q .ret (toL 141 ρ') h) :
  ∀ (f k : Nat) (n : Int) (ρ : Nat → V),f + k = ys.length + 1 → climbB (ys.map TNode.np) f n = c → ρ 4 = pP t → ρ 8 = u8 → ρ 9 = iI n → ρ 10 = iI k → XL P E none 141 b23_19 (.b 4 :: K) ρ h Q := by
 obtain ⟨was,b,opn,gt,gb,hlo⟩ := a.ex
 have tops : ∀ (f k : Nat) (n : Int) (ρ : Nat → V),topI n = true → climbB (ys.map TNode.np) f n = c → ρ 4 = pP t → ρ 8 = u8 → ρ 9 = iI n → ρ 10 = iI k → XL P E none 141 b23_19 (.b 4 :: K) ρ h Q := by
  intro f k n ρ ht hc q4 q8 q9 q10
  have hct : c = true := by rw [← hc]; cases f <;> simp [climbB,ht]
  rw [u23_19]
  cases n1 : n == 1 with
  | true =>
   have m1 : (n != 1) = false := by simp only [bne,n1]; rfl
   simp only [GR,evK,binV,intOp,strOp,unV,Nat.reduceLT,Nat.reduceEqDiff,↓reduceIte,r23_13,q9,m1]
   exact contN hct _ q4 q8
  | false =>
   have n2 : (n == 2) = true := by simpa [topI,n1] using ht
   have m1 : (n != 1) = true := by simp only [bne,n1]; rfl
   have m2 : (n != 2) = false := by simp only [bne,n2]; rfl
   simp only [GR,evK,binV,intOp,strOp,unV,Nat.reduceLT,Nat.reduceEqDiff,↓reduceIte,r23_13,q9,m1,m2]
   exact contN hct _ q4 q8
 intro f
 induction f with
 | zero =>
  intro k n ρ hk hc q4 q8 q9 q10
  cases ht : topI n with
  | true => exact tops 0 k n ρ ht hc q4 q8 q9 q10
  | false =>
   have hcf : c = false := by rw [← hc]; exact ht
   simp only [topI,Bool.or_eq_false_iff] at ht
   have m1 : (n != 1) = true := by simp only [bne,ht.1]; rfl
   have m2 : (n != 2) = true := by simp only [bne,ht.2]; rfl
   have hgt : ((ys.length : Int) < (k : Int)) = True := by simp; omega
   rw [u23_19]
   simp only [GR,evK,binV,intOp,strOp,unV,Nat.reduceLT,Nat.reduceEqDiff,↓reduceIte,r23_13,q9,m1,m2,r23_14,q4]
   refine XC_of (find49 (P := P) F a hl n) ?_
   rintro _ hx ⟨rfl,e2⟩
   rw [e2]
   clear e2 hx
   cases hb : findB ys n with
   | false =>
    simp only [GR,evK,binV,intOp,strOp,unV,Nat.reduceLT,Nat.reduceEqDiff,↓reduceIte,r23_15,hb,Bool.not_false,r23_16]
    exact contB hcf _ rfl rfl
   | true =>
    simp only [GR,evK,binV,intOp,strOp,unV,Nat.reduceLT,Nat.reduceEqDiff,↓reduceIte,r23_15,hb,Bool.not_true,q10,q4,gt,gt_iff_lt,hgt,r23_16]
    exact contB hcf _ rfl rfl
 | succ f ih =>
  intro k n ρ hk hc q4 q8 q9 q10
  cases ht : topI n with
  | true => exact tops (f + 1) k n ρ ht hc q4 q8 q9 q10
  | false =>
   simp only [climbB,ht,Bool.false_or] at hc
   simp only [topI,Bool.or_eq_false_iff] at ht
   have m1 : (n != 1) = true := by simp only [bne,ht.1]; rfl
   have m2 : (n != 2) = true := by simp only [bne,ht.2]; rfl
   have hgt : ((ys.length : Int) < (k : Int)) = False := by simp; omega
   have hw : IntKind.i64.wrap ((k : Int) + 1) = ((k + 1 : Nat) : Int) := wrap_nat (n := k + 1) (by omega)
   rw [u23_19]
   simp only [GR,evK,binV,intOp,strOp,unV,Nat.reduceLT,Nat.reduceEqDiff,↓reduceIte,r23_13,q9,m1,m2,r23_14,q4]
   refine XC_of (find49 (P := P) F a hl n) ?_
   rintro _ hx ⟨rfl,e2⟩
   rw [e2]
   clear e2 hx
   rcases find_look g hs n with ⟨hb,hlk⟩ | ⟨hj,hb,hlk⟩
   ·rw [hlk] at hc
    simp only [GR,evK,binV,intOp,strOp,unV,Nat.reduceLT,Nat.reduceEqDiff,↓reduceIte,r23_15,hb,Bool.not_false,r23_16]
    exact contB hc.symm _ rfl rfl
   ·rw [hlk] at hc
    have e1 := tn_cell hj (i := 1) (y := iI ys[findI ys n].parent) rfl
    simp only [GR,evK,binV,intOp,strOp,unV,Nat.reduceLT,Nat.reduceEqDiff,↓reduceIte,r23_15,hb,Bool.not_true,q10,q4,gt,gt_iff_lt,hgt,r23_17,Int.natCast_nonneg,Int.ofNat_lt,hj,Int.toNat_natCast,gb,Nat.zero_add,e1,r23_18,hw]
    refine ih (k + 1) _ _ (by omega) hc ?_ ?_ ?_ ?_
    ·exact q4
    ·exact q8
    ·rfl
    ·rfl
def FromR (hb : H) (ds : List DNode) (v : V) (h' : H) : Prop := (∃ p,v = .tup [p,.bool (okT ds)]) ∧ Kp hb h'
set_option maxHeartbeats 1000000 in
theorem outer21 (F : Fr23 E) {hb h : H} {t : Nat} {ys : List TNode} {ds : List DNode} (a : RT hb.size h t ys) (hl : ys.length ≤ 1048578) (g : Grf (ys.map TNode.np)) (hs : Srt (ys.map TNode.np)) (hnp : ys.map TNode.np = treeNP ds) (hnb : nodesB 0 ds = true) (kk : Kp hb h) :
  ∀ (d i : Nat) (ρ : Nat → V),ys.length - i = d → i ≤ ys.length → (∀ j (hj : j < ys.length),j < i → Rch (treeNP ds) ys[j].node) → ρ 4 = pP t → ρ 8 = iI i →
   XL P E none 141 b23_21 [.b 2,.c (.seq (.region r23_22) (.ret))] ρ h (Fin [.t 2,.t 3] (FromR hb ds)) := by
 obtain ⟨was,b,opn,gt,gb,hlo⟩ := a.ex
 intro d
 induction d with
 | zero =>
  intro i ρ hd hi hall q4 q8
  have hie : ¬ i < ys.length := by omega
  have hok : okT ds = true := by
   have : wholeB (treeNP ds) = true := by
    rw [wholeB_iff]
    intro x hx
    rw [← hnp] at hx
    obtain ⟨y,hy,rfl⟩ := List.mem_map.1 hx
    obtain ⟨j,hj,rfl⟩ := List.mem_iff_getElem.1 hy
    exact hall j hj (by omega)
   simp [okT,hnb,this]
  rw [u23_21]
  simp only [GR,evK,binV,intOp,strOp,unV,Nat.reduceLT,Nat.reduceEqDiff,↓reduceIte,r23_11,q8,q4,gt,Int.ofNat_lt,hie,r23_22]
  exact ⟨⟨_,by rw [hok]⟩,kk⟩
 | succ d ih =>
  intro i ρ hd hi hall q4 q8
  have hie : i < ys.length := by omega
  have e0 : (ys.map TNode.cells).flatten[i * 4]? = some (iI ys[i].node) := by have := tn_cell hie (i := 0) (y := iI ys[i].node) rfl; simpa using this
  have hw : IntKind.i64.wrap ((i : Int) + 1) = ((i + 1 : Nat) : Int) := wrap_nat (n := i + 1) (by omega)
  rw [u23_21]
  simp only [GR,evK,binV,intOp,strOp,unV,Nat.reduceLT,Nat.reduceEqDiff,↓reduceIte,r23_11,q8,q4,gt,Int.ofNat_lt,hie,r23_12,Int.natCast_nonneg,Int.toNat_natCast,gb,Nat.zero_add,e0]
  refine inner19 F a hl g hs (u8 := iI i) (c := climbB (ys.map TNode.np) (ys.length + 1) ys[i].node) ?_ ?_ _ 0 _ _ rfl rfl ?_ ?_ ?_ ?_
  ·intro hc ρ' w4 w8
   have hr := (climb_rch g (by simp)).1 hc
   rw [hnp] at hr
   simp only [GR,evK,binV,intOp,strOp,unV,Nat.reduceLT,Nat.reduceEqDiff,↓reduceIte,r23_20,w8,hw]
   refine ih (i + 1) _ (by omega) (by omega) ?_ ?_ ?_
   ·intro j hj hji
    by_cases hjj : j < i
    ·exact hall j hj hjj
    ·have : j = i := by omega
     subst this; exact hr
   ·exact w4
   ·rfl
  ·intro hc ρ' w2 w3
   have hok : okT ds = false := by
    have : wholeB (treeNP ds) = false := by
     rw [Bool.eq_false_iff,ne_eq,wholeB_iff]
     intro hall2
     have := hall2 ys[i].np (by rw [← hnp]; exact List.mem_map.2 ⟨_,List.getElem_mem hie,rfl⟩)
     rw [← hnp] at this
     have := (climb_rch g (f := ys.length + 1) (by simp)).2 this
     simp only [TNode.np] at this hc
     change _ = _ at this; rw [hc] at this; cases this
    simp [okT,this]
   rw [Fin_ret,resVs_t (by decide),resVs_t (by decide),resVs_nil]
   simp only [Option.map_some,w2,w3,oneOr_two]
   exact ⟨⟨_,by rw [hok]⟩,kk⟩
  ·exact q4
  ·exact q8
  ·rfl
  ·rfl
set_option maxHeartbeats 1000000 in
theorem from23 (F : Fr23 E) {hb : H} {lv : V} {ns : List (TNode × DNode)} (hs : Sl hb 4 lv (ns.map fun p => p.1.cells)) (hin : ∀ p ∈ ns,NIn hb p.1 p.2) (hl : ns.length ≤ 1048576) : Sp P E (.func 23 [] []) [lv] hb (FromR hb (ns.map (·.2))) := by
 refine Sp_fn F.f23 F.p23 (by simp [fn23]) ?_
 simp only [GR,evK,binV,intOp,strOp,unV,Nat.reduceLT,Nat.reduceEqDiff,↓reduceIte,fn23,c23,r23_0,r23_1]
 refine XC_of (new44 F hb) ?_
 rintro _ h1 ⟨t,xs0,rfl,rt0,hnp0,hat0,k0⟩
 simp only [GR,evK,binV,intOp,strOp,unV,Nat.reduceLT,Nat.reduceEqDiff,↓reduceIte]
 refine loop9 F hs hin hl ?_ ?_ _ 0 0 xs0 _ h1 rfl (Nat.zero_le _) rfl (Int.le_refl _) (by intro j hj; omega) (fun _ => rfl) ?_ ?_ ?_ rt0 ?_ k0
 ·intro ρ' h2 xs last hnodes q4 rt la kk
  obtain ⟨was,b,opn,gt,gb,hlo⟩ := rt.ex
  have hln : xs.length ≤ 1048578 := by
   have h1 := treeNP_len (ns.map (·.2))
   rw [← la.np,List.length_map,List.length_map] at h1
   omega
  simp only [GR,evK,binV,intOp,strOp,unV,Nat.reduceLT,Nat.reduceEqDiff,↓reduceIte,r23_10,q4,gt]
  refine XC_of (clone48 (P := P) F gb hln rt.one fun x hx => (la.rd x hx).keep kk) ?_
  rintro v h3 ⟨ys,acc,hnp,hys,k3⟩
  have hlen : ys.length = xs.length := by have := congrArg List.length hnp; simpa using this
  have hlen2 : 2 ≤ xs.length := by
   have h1 := congrArg List.length la.np
   simp [treeNP] at h1; omega
  rcases acc.shape with ⟨h0,_⟩ | ⟨b3,rfl,hb3,gb3⟩
  ·have h9 : ys.length = 0 := by simpa using congrArg List.length h0
   omega
  have gt3 := k3.of gt
  have e5 : putCells h3 t 0 [.slice (some (b3,0)) (ys.map TNode.cells).length (ys.map TNode.cells).length true] = some (h3.set t (.cells [.slice (some (b3,0)) (ys.map TNode.cells).length (ys.map TNode.cells).length true,was] 97 false false none)) := by
   simp [putCells,gt3,fzFree,V.one,setR]
  simp only [GR,evK,binV,intOp,strOp,unV,Nat.reduceLT,Nat.reduceEqDiff,↓reduceIte,gt3,e5]
  have hne : t ≠ b3 := by have := H.get_lt gt; omega
  have rt5 : RT hb.size (h3.set t (.cells [.slice (some (b3,0)) (ys.map TNode.cells).length (ys.map TNode.cells).length true,was] 97 false false none)) t ys := by
   refine ⟨⟨was,b3,true,?_,?_,by have := kk.size; omega⟩,rt.low,hys⟩
   ·show _ = _; rw [hset_same (H.get_lt gt3)]; simp
   ·show _ = _; rw [hset_other (H.get_lt gt3) hne]; exact gb3
  have k5 : Kp hb (h3.set t (.cells [.slice (some (b3,0)) (ys.map TNode.cells).length (ys.map TNode.cells).length true,was] 97 false false none)) := Keeps.trans (n := hb.size) (Kp.trans kk k3) (Keeps.set (H.get_lt gt3) rt.low _)
  have hnpy : ys.map TNode.np = treeNP (ns.map (·.2)) := hnp.trans la.np
  refine outer21 F rt5 (by omega) (by rw [hnpy]; exact treeNP_grf la.srt) (by rw [hnpy]; exact la.srt) hnpy hnodes k5 _ 0 _ rfl (Nat.zero_le _) (by intro j _ h; omega) ?_ ?_
  ·exact q4
  ·rfl
 ·intro ρ' h2 hnodes w2 w3 kk
  rw [Fin_ret,resVs_t (by decide),resVs_t (by decide),resVs_nil]
  simp only [Option.map_some,w2,w3,oneOr_two]
  have hok : okT (ns.map (·.2)) = false := by simp [okT,hnodes]
  exact ⟨⟨_,by rw [hok]⟩,kk⟩
 ·rfl
 ·rfl
 ·rfl
 ·refine ⟨?_,fun x hx => ⟨[],?_,by simp,by simp⟩,?_,?_⟩
  ·rw [hnp0]; simp [treeNP]
  ·rw [hat0 x hx]; exact .nil _ _ _
  ·simp [treeNP,Srt]
  ·intro x hx ht
   simp [treeNP] at hx
   rcases hx with rfl | rfl <;> cases ht
structure Ff (E : Env) : Prop where
 f7 : E.fns 7 = some fn7
 p7 : E.prim 7 = none
 f8 : E.fns 8 = some fn8
 p8 : E.prim 8 = none
 f19 : E.fns 19 = some fn19
 p19 : E.prim 19 = none
 f20 : E.fns 20 = some fn20
 p20 : E.prim 20 = none
 f24 : E.fns 24 = some fn24
 p24 : E.prim 24 = none
 f25 : E.fns 25 = some fn25
 p25 : E.prim 25 = none
 f26 : E.fns 26 = some fn26
 p26 : E.prim 26 = none
 f50 : E.fns 50 = some fn50
 p50 : E.prim 50 = none
 f51 : E.fns 51 = some fn51
 p51 : E.prim 51 = none
 f52 : E.fns 52 = some fn52
 p52 : E.prim 52 = none
 f53 : E.fns 53 = some fn53
 p53 : E.prim 53 = none
 f54 : E.fns 54 = some fn54
 p54 : E.prim 54 = none
 f55 : E.fns 55 = some fn55
 p55 : E.prim 55 = none
 f64 : E.fns 64 = some fn64
 p64 : E.prim 64 = none
 f65 : E.fns 65 = some fn65
 p65 : E.prim 65 = none
 f66 : E.fns 66 = some fn66
 p66 : E.prim 66 = none
 f71 : E.fns 71 = some fn71
 p71 : E.prim 71 = none
 f72 : E.fns 72 = some fn72
 p72 : E.prim 72 = none
def siteB (n : Int) : Bool := decide (0 ≤ n) && decide (n < 8)
theorem isSite66 (F : Ff E) {x : View} {h : H} : Sp P E (.func 66 [] []) [.agg x.cells] h fun r h' => r = .bool (siteB x.at_.group) ∧ Kp h h' := by
 have hk0 : Kp h (h.psh (.cells x.cells 63 false false none)) := Keeps.psh (Nat.le_refl _) _
 have gx := psh_same h (.cells x.cells 63 false false none)
 refine Sp_fn F.f66 F.p66 (by simp [fn66]) ?_
 by_cases h0 : x.at_.group ≥ 0
 ·by_cases h1 : x.at_.group < 8
  ·simp only [GR,evK,binV,intOp,strOp,unV,Nat.reduceLT,Nat.reduceEqDiff,↓reduceIte,fn66,c66,r66_0,r66_1,gx,View.len,View.g0,h0,h1]
   exact ⟨by simp [siteB,h0,h1],hk0⟩
  ·simp only [GR,evK,binV,intOp,strOp,unV,Nat.reduceLT,Nat.reduceEqDiff,↓reduceIte,fn66,c66,r66_0,r66_1,gx,View.len,View.g0,h0,h1]
   exact ⟨by simp [siteB,h1],hk0⟩
 ·simp only [GR,evK,binV,intOp,strOp,unV,Nat.reduceLT,Nat.reduceEqDiff,↓reduceIte,fn66,c66,r66_0,r66_1,gx,View.len,View.g0,h0]
  have : ¬ 0 ≤ x.at_.group := h0
  exact ⟨by simp [siteB,this],hk0⟩
theorem site20 (F : Ff E) {n : Int} {h : H} : Sp P E (.func 20 [] []) [iI n] h fun r h' => r = .bool (siteB n) ∧ h' = h := by
 refine Sp_fn F.f20 F.p20 (by simp [fn20]) ?_
 by_cases h0 : n ≥ 0
 ·by_cases h1 : n < 8
  ·simp only [GR,evK,binV,intOp,strOp,unV,Nat.reduceLT,Nat.reduceEqDiff,↓reduceIte,fn20,c20,r20_0,h0,h1]
   simp [siteB,h0,h1]
  ·simp only [GR,evK,binV,intOp,strOp,unV,Nat.reduceLT,Nat.reduceEqDiff,↓reduceIte,fn20,c20,r20_0,h0,h1]
   simp [siteB,h1]
 ·simp only [GR,evK,binV,intOp,strOp,unV,Nat.reduceLT,Nat.reduceEqDiff,↓reduceIte,fn20,c20,r20_0,h0]
  have : ¬ 0 ≤ n := h0
  simp [siteB,this]
def innP (u : Nat → Bool) (a : Nat) : Nat → Nat → List (Nat × Nat)
 | 0,_ => []
 | d + 1,b => if u a && u b then (a,b) :: innP u a d (b + 1) else innP u a d (b + 1)
def outP (u : Nat → Bool) (m : Nat) : Nat → Nat → List (Nat × Nat)
 | 0,_ => []
 | d + 1,a => innP u a (m - (a + 1)) (a + 1) ++ outP u m d (a + 1)
def upW (ws : List WV) (a : Nat) : Bool := ((ws[a]?).map fun w => w.x.up).getD false
def pairsL (ws : List WV) : List (Nat × Nat) := outP (upW ws) ws.length ws.length 0
theorem upW_at {ws : List WV} {a : Nat} (h : a < ws.length) : upW ws a = ws[a].x.up := by simp [upW,h]
theorem view_nth {h : H} {lv : V} {ws : List WV} (hs : Sl h 21 lv (ws.map fun w => w.x.cells)) {k : Nat} (hk : k < ws.length) : ∃ b o cap opn cs ty op ro fz,lv = .slice (some (b,o)) ws.length cap opn ∧ h.get b = some (.cells cs ty op ro fz) ∧ o + k * 21 + 21 ≤ cs.length ∧ getR cs (o + k * 21) 21 = ws[k].x.cells ∧ ∀ (i : Nat) (y : V),ws[k].x.cells[i]? = some y → cs[o + k * 21 + i]? = some y := by
 obtain ⟨b,o,cap,opn,cs,ty,op,ro,fz,v1,hg,hll,he⟩ := hs.get (k := k) (x := ws[k].x.cells) (by simp [hk])
 rw [List.length_map] at v1
 exact ⟨b,o,cap,opn,cs,ty,op,ro,fz,v1,hg,hll,he,fun i y hi => getR_nth he hi⟩
set_option maxHeartbeats 1000000 in
theorem pairs71 (F : Ff E) {l bx : Nat} {lv : V} {ws : List WV} (hm : ws.length ≤ 1048576) {Inv : List (Nat × Nat) → H → Prop}
  (hI : ∀ r h,Inv r h → (∃ ty,cC h bx [lv] ty) ∧ Sl h 21 lv (ws.map fun w => w.x.cells))
  (hy : ∀ a b r h,a < ws.length → b < ws.length → upW ws a = true → upW ws b = true → Inv ((a,b) :: r) h → Sp P E (.yield l) [iI a,iI b] h fun v h' => v = .bool true ∧ Inv r h') {h0 : H} (h00 : Inv (pairsL ws) h0) :
  Sp P E (.func 71 [] [pP bx]) [.yield l] h0 fun _ h' => Inv [] h' := by
 have inner : ∀ (d b a : Nat) (r : List (Nat × Nat)) (ρ : Nat → V) (h : H) (K : List Fr) (Q : Po) (u5 u6 u7 : V),a < ws.length → ws.length - b = d → b ≤ ws.length → ρ 0 = .yield l → ρ 1 = pP bx → ρ 3 = iI a → ρ 4 = iI b → ρ 5 = u5 → ρ 6 = u6 → ρ 7 = u7 → Inv (innP (upW ws) a d b ++ r) h →
   (∀ (ρ' : Nat → V) (h' : H),ρ' 0 = .yield l → ρ' 1 = pP bx → ρ' 5 = u5 → ρ' 6 = u6 → ρ' 7 = u7 → Inv r h' → X P E none 38 K ρ' h' Q) →
   XL P E none 38 b71_6 (.b 2 :: K) ρ h Q := by
  intro d
  induction d with
  | zero =>
   intro b a r ρ h K Q u5 u6 u7 ha hd hb q0 q1 q3 q4 q5 q6 q7 inv cont
   have hbe : ¬ b < ws.length := by omega
   obtain ⟨⟨ty,gx⟩,hs⟩ := hI _ _ inv
   obtain ⟨sa,sc,so,hlv⟩ := hs.len
   rw [List.length_map] at hlv
   rw [hlv] at gx
   rw [u71_6]
   simp only [GR,evK,binV,intOp,strOp,unV,Nat.reduceLT,Nat.reduceEqDiff,↓reduceIte,r71_3,q4,q1,gx,Int.ofNat_lt,hbe]
   exact cont _ h q0 q1 q5 q6 q7 inv
  | succ d ih =>
   intro b a r ρ h K Q u5 u6 u7 ha hd hb q0 q1 q3 q4 q5 q6 q7 inv cont
   have hbe : b < ws.length := by omega
   obtain ⟨⟨ty,gx⟩,hs⟩ := hI _ _ inv
   obtain ⟨ba,oa,ca,pa,csa,tya,opa,roa,fza,va,hga,_,_,hna⟩ := view_nth hs ha
   obtain ⟨bb,ob,cb,pb,csb,tyb,opb,rob,fzb,vb,hgb,_,_,hnb⟩ := view_nth hs hbe
   have hv := va.symm.trans vb
   cases hv
   change _ = _ at hgb; rw [hga] at hgb; cases hgb
   have ea := hna 2 _ (View.g2 ws[a].x)
   have eb := hnb 2 _ (View.g2 ws[b].x)
   rw [va] at gx
   have hw : IntKind.i64.wrap ((b : Int) + 1) = ((b + 1 : Nat) : Int) := wrap_nat (n := b + 1) (by omega)
   have uA := upW_at ha
   have uB := upW_at hbe
   rw [u71_6]
   simp only [innP] at inv
   cases hua : ws[a].x.up with
   | false =>
    rw [hua] at ea uA
    rw [uA] at inv
    simp only [Bool.false_and,Bool.false_eq_true,if_false] at inv
    simp only [GR,evK,binV,intOp,strOp,unV,Nat.reduceLT,Nat.reduceEqDiff,↓reduceIte,r71_3,q4,q1,gx,Int.ofNat_lt,hbe,r71_4,q3,Int.natCast_nonneg,Int.toNat_natCast,ha,hga,ea,r71_5,hw]
    refine ih (b + 1) a r _ h K Q u5 u6 u7 ha (by omega) (by omega) ?_ ?_ ?_ ?_ ?_ ?_ ?_ inv cont
    ·exact q0
    ·exact q1
    ·exact q3
    ·rfl
    ·exact q5
    ·exact q6
    ·exact q7
   | true =>
    rw [hua] at ea uA
    cases hub : ws[b].x.up with
    | false =>
     rw [hub] at eb uB
     rw [uA,uB] at inv
     simp only [Bool.and_false,Bool.false_eq_true,if_false] at inv
     simp only [GR,evK,binV,intOp,strOp,unV,Nat.reduceLT,Nat.reduceEqDiff,↓reduceIte,r71_3,q4,q1,gx,Int.ofNat_lt,hbe,r71_4,q3,Int.natCast_nonneg,Int.toNat_natCast,ha,hga,ea,eb,r71_5,hw]
     refine ih (b + 1) a r _ h K Q u5 u6 u7 ha (by omega) (by omega) ?_ ?_ ?_ ?_ ?_ ?_ ?_ inv cont
     ·exact q0
     ·exact q1
     ·exact q3
     ·rfl
     ·exact q5
     ·exact q6
     ·exact q7
    | true =>
     rw [hub] at eb uB
     rw [uA,uB] at inv
     simp only [Bool.and_self,if_true,List.cons_append] at inv
     simp only [GR,evK,binV,intOp,strOp,unV,Nat.reduceLT,Nat.reduceEqDiff,↓reduceIte,r71_3,q4,q1,gx,Int.ofNat_lt,hbe,r71_4,q3,Int.natCast_nonneg,Int.toNat_natCast,ha,hga,ea,eb,q0]
     refine XC_of (hy a b _ h ha hbe uA uB inv) ?_
     rintro _ h1 ⟨rfl,inv1⟩
     simp only [GR,evK,binV,intOp,strOp,unV,Nat.reduceLT,Nat.reduceEqDiff,↓reduceIte,Bool.not_true,r71_5,q4,hw]
     refine ih (b + 1) a r _ h1 K Q u5 u6 u7 ha (by omega) (by omega) ?_ ?_ ?_ ?_ ?_ ?_ ?_ inv1 cont
     ·exact q0
     ·exact q1
     ·exact q3
     ·rfl
     ·exact q5
     ·exact q6
     ·exact q7
 have outer : ∀ (d a : Nat) (ρ : Nat → V) (h : H),ws.length - a = d → a ≤ ws.length → ρ 0 = .yield l → ρ 1 = pP bx → ρ 5 = lv → ρ 6 = iI ws.length → ρ 7 = iI a → Inv (outP (upW ws) ws.length d a) h →
   XL P E none 38 b71_8 [.b 0] ρ h (Fin [] fun _ h' => Inv [] h') := by
  intro d
  induction d with
  | zero =>
   intro a ρ h hd ha q0 q1 q5 q6 q7 inv
   have hae : ¬ a < ws.length := by omega
   rw [u71_8]
   simp only [GR,evK,binV,intOp,strOp,unV,Nat.reduceLT,Nat.reduceEqDiff,↓reduceIte,q6,q7,Int.ofNat_lt,hae]
   exact inv
  | succ d ih =>
   intro a ρ h hd ha q0 q1 q5 q6 q7 inv
   have hae : a < ws.length := by omega
   have hw : IntKind.i64.wrap ((a : Int) + 1) = ((a + 1 : Nat) : Int) := wrap_nat (n := a + 1) (by omega)
   simp only [outP] at inv
   rw [u71_8]
   simp only [GR,evK,binV,intOp,strOp,unV,Nat.reduceLT,Nat.reduceEqDiff,↓reduceIte,q6,q7,Int.ofNat_lt,hae,r71_1,r71_2,hw]
   refine inner (ws.length - (a + 1)) (a + 1) a _ _ h _ _ lv (iI ws.length) (iI a) hae rfl (by omega) ?_ ?_ ?_ ?_ ?_ ?_ ?_ inv ?_
   ·exact q0
   ·exact q1
   ·rfl
   ·rfl
   ·exact q5
   ·exact q6
   ·exact q7
   ·intro ρ' h' w0 w1 w5 w6 w7 inv'
    simp only [GR,evK,binV,intOp,strOp,unV,Nat.reduceLT,Nat.reduceEqDiff,↓reduceIte,r71_7,w7,hw]
    refine ih (a + 1) _ h' (by omega) (by omega) ?_ ?_ ?_ ?_ ?_ inv'
    ·exact w0
    ·exact w1
    ·exact w5
    ·exact w6
    ·rfl
 obtain ⟨⟨ty,gx⟩,hs⟩ := hI _ _ h00
 obtain ⟨sa,sc,so,hlv⟩ := hs.len
 rw [List.length_map] at hlv
 refine Sp_fn F.f71 F.p71 (by simp [fn71]) ?_
 rw [hlv] at gx
 simp only [GR,evK,binV,intOp,strOp,unV,Nat.reduceLT,Nat.reduceEqDiff,↓reduceIte,fn71,c71,r71_0,gx]
 refine outer ws.length 0 _ h0 rfl (Nat.zero_le _) ?_ ?_ ?_ ?_ ?_ h00
 ·rfl
 ·rfl
 ·exact hlv.symm
 ·rfl
 ·rfl
theorem pairs64 (F : Ff E) (a : Option (Nat × Nat)) (n c : Nat) (o : Bool) (h : H) : Sp P E (.func 64 [] []) [.slice a n c o] h fun v h' => v = .func 71 [] [pP h.size] ∧ h' = h.psh (.cells [.slice a n c o] 22 false false none) := by
 refine Sp_fn F.f64 F.p64 (by simp [fn64]) ?_
 simp only [GR,evK,binV,intOp,strOp,unV,Nat.reduceLT,Nat.reduceEqDiff,↓reduceIte,fn64,c64,r64_0,r64_1]
structure Flaw where
 kind : Int
 a : Int
 b : Int
 slot : Int
 deriving DecidableEq
def Flaw.cells (x : Flaw) : List V := [iI x.kind,iI x.a,iI x.b,iI x.slot]
theorem Flaw.len (x : Flaw) : x.cells.length = 4 := rfl
theorem Flaw.eqv (h : H) (x y : Flaw) : eqV h (.fcons 0 1 false .int (.fcons 1 1 false .int (.fcons 2 1 false .int (.fcons 3 1 false .int .fnil)))) (.agg x.cells) (.agg y.cells) = some (decide (x = y)) := (fcons_step rfl rfl (int_step _ _ _ _) (fcons_step rfl rfl (int_step _ _ _ _) (fcons_step rfl rfl (int_step _ _ _ _) (fcons_step rfl rfl (int_step _ _ _ _) (fnil_step _ _ _))))).trans (congrArg some (by cases x; cases y; simp [Bool.and_assoc]))
structure Ob (lo : Nat) (h : H) (b : Nat) (fs : List Flaw) : Prop where
 ex : ∃ ov,cC h b [ov] 24 ∧ Acc h lo 30 4 ov (fs.map Flaw.cells)
 low : lo ≤ b
theorem Ob.kb {lo : Nat} {h h' : H} {b : Nat} {fs : List Flaw} (a : Ob lo h b fs) (k : Kp h h') : Ob lo h' b fs := by
 obtain ⟨ov,h1,h2⟩ := a.ex
 exact ⟨⟨ov,k.of h1,h2.keep k⟩,a.low⟩
theorem Ob.set {lo : Nat} {h : H} {b : Nat} {fs : List Flaw} (a : Ob lo h b fs) {i : Nat} {o : Obj} (hg : h.get i = some o) (hn : ∀ vs ty op ro fz,o ≠ .cells vs ty op ro fz) (o' : Obj) : Ob lo (h.set i o') b fs := by
 obtain ⟨ov,h1,h2⟩ := a.ex
 have ne : ∀ {j vs ty op ro fz},h.get j = some (.cells vs ty op ro fz) → i ≠ j := by
  rintro j vs ty op ro fz hj rfl; change _ = _ at hj; rw [hg] at hj; cases hj; exact hn _ _ _ _ _ rfl
 refine ⟨⟨ov,by show _ = _; rw [hset_other (H.get_lt hg) (ne h1)]; exact h1,⟨?_,h2.elem⟩⟩,a.low⟩
 rcases h2.shape with h3 | ⟨b2,e1,e2,e3⟩
 ·exact .inl h3
 ·exact .inr ⟨b2,e1,e2,by show _ = _; rw [hset_other (H.get_lt hg) (ne e3)]; exact e3⟩
theorem app_fr {h : H} {lo ty sz bytes : Nat} {v x : V} {xs ys : List (List V)} (a : Acc h lo ty sz v xs) (hlo : lo ≤ h.size) (hl : lenV x = some ys.length) (he : elemsV h sz ys.length x = some ys.flatten)
  (hy : ∀ y ∈ ys,y.length = sz ∧ y.all V.one = true) (hb : xs.length + ys.length ≤ 1099511627776 ∧ (2 * (xs.length + ys.length) + 1024) * bytes ≤ 281474976710656) :
  ∃ v' h',appV h ty sz bytes v x = some (.eff v' h') ∧ Acc h' lo ty sz v' (xs ++ ys) ∧ Keeps lo h h' ∧ (∃ p n c o,v' = .slice p n c o) ∧ h.size ≤ h'.size ∧ (∀ i o,h.get i = some o → (∀ vs,o ≠ .cells vs ty true false none) → h'.get i = some o) := by
 have hall : ∀ z ∈ xs ++ ys,z.length = sz ∧ z.all V.one = true := fun z hz => (List.mem_append.1 hz).elim (a.elem z) (hy z)
 have hyo := flatten_one hy
 rcases a.shape with ⟨rfl,rfl⟩ | ⟨b,rfl,h2,h3⟩
 ·by_cases hn : ys.length = 0
  ·have : ys = [] := List.eq_nil_of_length_eq_zero hn
   subst this
   refine ⟨sN,h,?_,by simpa using Acc.nil h lo ty sz,Keeps.refl _ _,⟨_,_,_,_,rfl⟩,Nat.le_refl _,fun _ _ hg _ => hg⟩
   simp only [List.length_nil] at hl he
   unfold appV; simp [hl,he]
  ·refine ⟨.slice (some (h.size,0)) ys.length ys.length true,h.psh (.cells ys.flatten ty true false none),?_,⟨.inr ⟨h.size,by simp,hlo,by rw [psh_same]; simp⟩,hall⟩,Keeps.psh hlo _,⟨_,_,_,_,rfl⟩,Nat.le_succ _,fun _ _ hg _ => psh_old hg _⟩
   simp only [List.length_nil,Nat.zero_add] at hb
   have : ¬ ys.length ≤ 0 := by omega
   unfold appV
   simp only [hl,he,Nat.zero_add,this,if_false,hb,and_self,if_true,push_eq]
   simp [elemsV]
 ·have hbs := H.get_lt h3
  by_cases hn : ys.length = 0
  ·have : ys = [] := List.eq_nil_of_length_eq_zero hn
   subst this
   refine ⟨.slice (some (b,0)) xs.length xs.length true,h,?_,by simpa using a,Keeps.refl _ _,⟨_,_,_,_,rfl⟩,Nat.le_refl _,fun _ _ hg _ => hg⟩
   simp only [List.length_nil] at hl he
   unfold appV; simp [hl,he,putCells]
  ·have hfl := flatten_length a.elem
   refine ⟨.slice (some (h.size,0)) (xs.length + ys.length) (xs.length + ys.length) true,(h.set b .dead).psh (.cells (xs.flatten ++ ys.flatten) ty true false none),?_,⟨.inr ⟨h.size,by simp,hlo,?_⟩,hall⟩,?_,⟨_,_,_,_,rfl⟩,Nat.le_succ _,fun i o hg hn2 => ?_⟩
   ·have h1 : ¬ xs.length + ys.length ≤ xs.length := by omega
    have h4 : 0 + xs.length * sz = xs.flatten.length := by rw [hfl]; omega
    unfold appV
    simp only [hl,he,h1,if_false,hb,and_self,if_true,h3,Nat.le_refl,h4,hyo,fzFree]
    simp only [push_eq,Option.map_none]
    rw [getR_all (by rw [hfl])]
   ·have := psh_same (h.set b .dead) (.cells (xs.flatten ++ ys.flatten) ty true false none)
    rw [H.set_size] at this
    rw [this]; simp
   ·exact (Keeps.set hbs h2 _).trans (Keeps.psh (by rw [H.set_size]; exact hlo) _)
   ·have hne : b ≠ i := by rintro rfl; change _ = _ at hg; rw [h3] at hg; cases hg; exact hn2 _ rfl
    refine psh_old ?_ _
    show _ = _; rw [hset_other hbs hne]; exact hg
theorem Ob.app {lo : Nat} {h : H} {b : Nat} {fs : List Flaw} (a : Ob lo h b fs) (hlo : lo ≤ h.size) (hl : fs.length ≤ 1099511627775) (f : Flaw) :
  ∃ ov v' h1 h2,cC h b [ov] 24 ∧ appV (h.psh (.cells f.cells 30 false false none)) 30 4 32 ov (.slice (some (h.size,0)) 1 1 false) = some (.eff v' h1) ∧ (∃ p n c o,v' = .slice p n c o) ∧ putCells h1 b 0 [v'] = some h2 ∧ Ob lo h2 b (fs ++ [f]) ∧ Keeps lo h h2 ∧ KB b h h2 := by
 obtain ⟨ov,g1,acc⟩ := a.ex
 have k7 : Kp h (h.psh (.cells f.cells 30 false false none)) := Keeps.psh (Nat.le_refl _) _
 have g7 := k7.of g1
 have hs7 := psh_size h (.cells f.cells 30 false false none)
 have he := elems_psh (h := h) (cs := f.cells) (ty := 30) (sz := 4) rfl (by decide)
 obtain ⟨v',h1,e1,e2,e3,hv',hs1,e4⟩ := app_fr (ys := [f.cells]) (bytes := 32) (x := .slice (some (h.size,0)) 1 1 false) (acc.keep k7) (by omega) rfl (by simpa using he) (by intro y hy; rw [List.mem_singleton.1 hy]; exact ⟨rfl,rfl⟩) (by rw [List.length_map]; simp only [List.length_singleton]; omega)
 have g1' := e4 _ _ g7 (by intro vs e; cases e)
 have hp : putCells h1 b 0 [v'] = some (h1.set b (.cells [v'] 24 false false none)) := by
  obtain ⟨p,n,c,o,rfl⟩ := hv'
  rw [put_at g1' (by simp) rfl rfl]; rfl
 have hlt := H.get_lt g1'
 refine ⟨ov,v',h1,_,g1,e1,hv',hp,⟨⟨v',hset_same hlt _,?_⟩,a.low⟩,Keeps.trans (n := lo) (k7.mono hlo) (Keeps.trans (n := lo) e3 (Keeps.set hlt a.low _)),⟨by rw [H.set_size]; omega,fun i o hg hi hn => ?_⟩⟩
 ·rw [List.map_append]
  refine ⟨?_,e2.elem⟩
  rcases e2.shape with h9 | ⟨b2,q1,q2,q3⟩
  ·exact .inl h9
  ·refine .inr ⟨b2,q1,q2,?_⟩
   show _ = _; rw [hset_other hlt (by rintro rfl; rw [g1'] at q3; simp at q3)]
   exact q3
 ·show _ = _; rw [hset_other hlt (Ne.symm hi)]
  exact e4 _ _ (k7.of hg) hn
def chsL (A B : WV) : Nat → Nat → List Int
 | 0,_ => []
 | d + 1,i => match A.es[i]?,atW B (A.x.first + i) with
  | some e,some f => if e.2 = f.2 then chsL A B d (i + 1) else (A.x.first + i) :: chsL A B d (i + 1)
  | _,_ => chsL A B d (i + 1)
def chosenS (A B : WV) : List Int := chsL A B A.es.length 0
theorem at_mem {w : WV} {s : Int} {p : Entry × DEnt} (hp : atW w s = some p) : p ∈ w.es := by
 unfold atW at hp
 split at hp
 ·exact List.mem_of_getElem? hp
 ·cases hp
theorem entOf_one2 {h : H} {w : WV} (hw : VIn h w) (s : Int) : (entOf (atW w s)).cells.all V.one = true := by
 cases hp : atW w s with
 | none => show Entry.zero.cells.all V.one = true; decide
 | some p => exact (hw.ents p (at_mem hp)).one
theorem chosen65 (F : Ff E) (A B : View) (h : H) : Sp P E (.func 65 [] []) [.agg A.cells,.agg B.cells] h fun v h' => v = .func 72 [] [pP h.size,.ptr (some (h.size + 1,0))] ∧ h' = (h.psh (.cells A.cells 63 false false none)).psh (.cells B.cells 63 false false none) := by
 refine Sp_fn F.f65 F.p65 (by simp [fn65]) ?_
 simp only [GR,evK,binV,intOp,strOp,unV,Nat.reduceLT,Nat.reduceEqDiff,↓reduceIte,fn65,c65,r65_0,r65_1,psh_size]
set_option maxHeartbeats 4000000 in
theorem chosen72 (F : Ff E) (G : Fa E) {l ba bb : Nat} {A B : WV} (ha : okF A.x.first = true) (hb : okF B.x.first = true) {Inv : List Int → H → Prop}
  (hK : ∀ r h h',Inv r h → Kp h h' → Inv r h')
  (hI : ∀ r h,Inv r h → cC h ba A.x.cells 63 ∧ cC h bb B.x.cells 63 ∧ VIn h A ∧ VIn h B)
  (hy : ∀ s r h,Inv (s :: r) h → Sp P E (.yield l) [iI s] h fun v h' => v = .bool true ∧ Inv r h') {h0 : H} (h00 : Inv (chosenS A B) h0) :
  Sp P E (.func 72 [] [pP ba,pP bb]) [.yield l] h0 fun _ h' => Inv [] h' := by
 obtain ⟨fa0,fa1⟩ := okF_iff.1 ha
 have hael : ∀ r h,Inv r h → A.es.length ≤ 1048576 := fun r h i => (hI r h i).2.2.1.elen
 have hlen := hael _ _ h00
 have loop : ∀ (d i : Nat) (ρ : Nat → V) (h : H),A.es.length - i = d → i ≤ A.es.length → ρ 0 = .yield l → ρ 1 = pP ba → ρ 2 = pP bb → ρ 10 = A.x.chosen → ρ 11 = iI A.es.length → ρ 12 = iI i → Inv (chsL A B d i) h →
   XL P E none 41 b72_6 [.b 0] ρ h (Fin [] fun _ h' => Inv [] h') := by
  intro d
  induction d with
  | zero =>
   intro i ρ h hd hi q0 q1 q2 q10 q11 q12 inv
   have hie : ¬ i < A.es.length := by omega
   rw [u72_6]
   simp only [GR,evK,binV,intOp,strOp,unV,Nat.reduceLT,Nat.reduceEqDiff,↓reduceIte,q11,q12,Int.ofNat_lt,hie]
   exact inv
  | succ d ih =>
   intro i ρ h hd hi q0 q1 q2 q10 q11 q12 inv
   have hie : i < A.es.length := by omega
   obtain ⟨ga,gb,va,vb⟩ := hI _ _ inv
   obtain ⟨b,o,cap,opn,cs,ty,op,ro,fz,v1,hg,hll,he⟩ := va.chosen.get (k := i) (x := A.es[i].1.cells) (by simp [hie])
   have q10' : ρ 10 = V.slice (some (b,o)) A.es.length cap opn := by rw [q10,v1,List.length_map]
   have hmem := List.getElem_mem hie
   have fe : ∀ z : Entry,z.cells.length = 56 := fun _ => rfl
   have pe : ∀ z : Entry,List.take 56 z.cells = z.cells := fun _ => rfl
   have fv : ∀ z : View,z.cells.length = 21 := fun _ => rfl
   have pv : ∀ z : View,List.take 21 z.cells = z.cells := fun _ => rfl
   obtain ⟨h3,e3,g3,k3,z3⟩ := put_fresh h (vs := Entry.zero.cells) (ws := A.es[i].1.cells) (ty := 49) rfl (va.ents _ hmem).one rfl
   have inv3 := hK _ _ _ inv k3
   obtain ⟨ga3,gb3,va3,vb3⟩ := hI _ _ inv3
   unfold getR at he
   have hw : IntKind.i64.wrap ((i : Int) + 1) = ((i + 1 : Nat) : Int) := wrap_nat (n := i + 1) (by omega)
   have hw2 : IntKind.i64.wrap (A.x.first + (i : Int)) = A.x.first + i := wrapI (by omega) (by omega)
   have hel := fe A.es[i].1
   have hvl := fv B.x
   have hvp := pv B.x
   have gfa : A.x.cells[6]? = some (iI A.x.first) := View.g6 _
   have sp := at31 (P := P) G (s := A.x.first + i) vb3 hb (by omega) (by omega)
   have ein := va3.ents _ hmem
   simp only [chsL,List.getElem?_eq_getElem hie] at inv3
   generalize hxc : A.es[i].1.cells = xc at *
   simp only [Entry.zero,Entry.cells,Opr.cells,Epoch.cells,Vec.cells,Part.cells] at e3
   rw [u72_6]
   simp only [GR,evK,binV,intOp,strOp,unV,Nat.reduceLT,Nat.reduceEqDiff,↓reduceIte,q11,q12,Int.ofNat_lt,hie,r72_1,q10',Int.natCast_nonneg,Int.toNat_natCast,hg,hll,he,hel,e3,r72_2,q1,ga3,gfa,hw2,r72_3,q2,gb3,hvl,hvp]
   refine XC_of sp ?_
   rintro _ h4 ⟨rfl,k4⟩
   have inv4 := hK _ _ _ inv3 k4
   have hone4 := entOf_one2 vb3 (A.x.first + i)
   obtain ⟨h5,e5,g5,k5,z5⟩ := put_fresh h4 (vs := Entry.zero.cells) (ws := (entOf (atW B (A.x.first + i))).cells) (ty := 49) rfl hone4 rfl
   have inv5 := hK _ _ _ inv4 k5
   have g35 := k5.of (k4.of g3)
   have kk5 := Kp.trans k4 k5
   have fle := fe (entOf (atW B (A.x.first + i)))
   have ple := pe (entOf (atW B (A.x.first + i)))
   have plx : List.take 56 xc = xc := by rw [← hxc]; rfl
   cases hp : atW B (A.x.first + i) with
   | none =>
    rw [hp] at e5 g5 fle ple inv5
    generalize hyc : (entOf none).cells = yc at *
    simp only [Entry.zero,Entry.cells,Opr.cells,Epoch.cells,Vec.cells,Part.cells] at e5
    simp only [GR,evK,binV,intOp,strOp,unV,Nat.reduceLT,Nat.reduceEqDiff,↓reduceIte,fle,e5,Option.isSome_none,r72_4,r72_5,q12,hw]
    refine ih (i + 1) _ h5 (by omega) (by omega) ?_ ?_ ?_ ?_ ?_ ?_ inv5
    ·exact q0
    ·exact q1
    ·exact q2
    ·exact q10
    ·exact q11
    ·rfl
   | some p =>
    rw [hp] at e5 g5 fle ple inv5
    have hent : entOf (some p) = p.1 := rfl
    rw [hent] at e5 g5 fle ple
    have ep := (hI _ _ inv5).2.2.2.ents p (at_mem hp)
    have ein5 := ein.keep kk5
    have sp2 := ent39 (P := P) G ein5 ep
    rw [hxc] at sp2
    rw [hent]
    generalize hyc : p.1.cells = yc at *
    simp only [Entry.zero,Entry.cells,Opr.cells,Epoch.cells,Vec.cells,Part.cells] at e5
    simp only [GR,evK,binV,intOp,strOp,unV,Nat.reduceLT,Nat.reduceEqDiff,↓reduceIte,fle,e5,Option.isSome_some,r72_4,g35,hel,plx,g5,ple]
    refine XC_of sp2 ?_
    rintro _ h6 ⟨rfl,k6⟩
    have inv6 := hK _ _ _ inv5 k6
    by_cases heq : A.es[i].2 = p.2
    ·simp only [heq,if_true] at inv6
     have hd1 : decide (A.es[i].2 = p.2) = true := decide_eq_true heq
     simp only [GR,evK,binV,intOp,strOp,unV,Nat.reduceLT,Nat.reduceEqDiff,↓reduceIte,hd1,Bool.not_true,r72_5,q12,hw]
     refine ih (i + 1) _ h6 (by omega) (by omega) ?_ ?_ ?_ ?_ ?_ ?_ inv6
     ·exact q0
     ·exact q1
     ·exact q2
     ·exact q10
     ·exact q11
     ·rfl
    ·simp only [heq,if_false] at inv6
     have hd1 : decide (A.es[i].2 = p.2) = false := decide_eq_false heq
     simp only [GR,evK,binV,intOp,strOp,unV,Nat.reduceLT,Nat.reduceEqDiff,↓reduceIte,hd1,Bool.not_false,q0]
     refine XC_of (hy _ _ h6 inv6) ?_
     rintro _ h7 ⟨rfl,inv7⟩
     simp only [GR,evK,binV,intOp,strOp,unV,Nat.reduceLT,Nat.reduceEqDiff,↓reduceIte,Bool.not_true,r72_5,q12,hw]
     refine ih (i + 1) _ h7 (by omega) (by omega) ?_ ?_ ?_ ?_ ?_ ?_ inv7
     ·exact q0
     ·exact q1
     ·exact q2
     ·exact q10
     ·exact q11
     ·rfl
 obtain ⟨ga,gb,va,vb⟩ := hI _ _ h00
 obtain ⟨sa,sc,so,hlv⟩ := va.chosen.len
 rw [List.length_map] at hlv
 have gfc : A.x.cells[7]? = some A.x.chosen := View.g7 _
 rw [hlv] at gfc
 have hvl : A.x.cells.length = 21 := rfl
 refine Sp_fn F.f72 F.p72 (by simp [fn72]) ?_
 simp only [GR,evK,binV,intOp,strOp,unV,Nat.reduceLT,Nat.reduceEqDiff,↓reduceIte,fn72,c72,r72_0,ga,hvl,gfc]
 refine loop A.es.length 0 _ h0 rfl (Nat.zero_le _) ?_ ?_ ?_ ?_ ?_ ?_ h00
 ·rfl
 ·rfl
 ·rfl
 ·exact hlv.symm
 ·rfl
 ·rfl
def f1 (ws : List WV) (p : Nat × Nat) : List Flaw := match ws[p.1]?,ws[p.2]? with
 | some A,some B => if A.x.at_.group == B.x.at_.group && okF A.x.first && okF B.x.first then (chosenS A B).map fun s => ⟨1,p.1,p.2,s⟩ else []
 | _,_ => []
def F1 (ws : List WV) : List Flaw := (pairsL ws).flatMap (f1 ws)
theorem f1_at {ws : List WV} {a b : Nat} (ha : a < ws.length) (hb : b < ws.length) : f1 ws (a,b) = if ws[a].x.at_.group == ws[b].x.at_.group && okF ws[a].x.first && okF ws[b].x.first then (chosenS ws[a] ws[b]).map fun s => ⟨1,a,b,s⟩ else [] := by
 simp [f1,ha,hb]
theorem Ob.put {lo : Nat} {h h' : H} {b : Nat} {fs : List Flaw} (a : Ob lo h b fs) (k : Kp h h') : Ob lo h' b fs := a.kb k
theorem Ob.ne {lo : Nat} {h : H} {b : Nat} {fs : List Flaw} (a : Ob lo h b fs) {i : Nat} {o : Obj} (hg : h.get i = some o) (hn : ∀ ov,o ≠ .cells [ov] 24 false false none) : i ≠ b := by
 rintro rfl
 obtain ⟨ov,h1,_⟩ := a.ex
 change _ = _ at h1; rw [hg] at h1; cases h1; exact hn _ rfl
set_option maxHeartbeats 4000000 in
theorem slot51 (F : Ff E) {lo : Nat} {hh hL : H} {l b3 p4 p5 : Nat} {ρ : Nat → V} {a b : Nat} {s : Int} {fs : List Flaw} (w3 : ρ 3 = pP b3) (w4 : ρ 4 = pP p4) (w5 : ρ 5 = pP p5)
  (gl : hL.get l = some (.loop .ready none (toL 58 ρ) [49] a51_7 b51_9)) (g4 : cC hL p4 [iI a] 3) (g5 : cC hL p5 [iI b] 3) (hlb : l ≠ b3) (h4b : p4 ≠ b3) (h5b : p5 ≠ b3)
  (kb : KB b3 hL hh) (ob : Ob lo hh b3 fs) (hlo : lo ≤ hh.size) (hll : lo ≤ l) (hlen : fs.length ≤ 1099511627775) :
  Sp P E (.yield l) [iI s] hh fun v h' => v = .bool true ∧ KB b3 hL h' ∧ Ob lo h' b3 (fs ++ [⟨1,a,b,s⟩]) ∧ Keeps lo hh h' := by
 refine Sp_round gl kb hlb rfl (zip1 _ _ _ _) ?_
 intro bz rd hbz hrd
 have noc : ∀ vs,Obj.loop .ready none (toL 58 ρ) [49] a51_7 b51_9 ≠ .cells vs 30 true false none := by intro vs e; cases e
 have gl1 := kb.get _ _ gl hlb noc
 have nob : ∀ vs ty op ro fz,bz ≠ .cells vs ty op ro fz := by rw [hbz]; intro _ _ _ _ _ e; cases e
 have hlt := H.get_lt gl1
 have obB := ob.set gl1 (by intro _ _ _ _ _ e; cases e) bz
 have g4B : cC (hh.set l bz) p4 [iI a] 3 := by
  have := kb.get _ _ g4 h4b (by intro vs e; cases e)
  show _ = _; rw [hset_other hlt (by rintro rfl; change _ = _ at this; rw [gl1] at this; cases this)]; exact this
 have g5B : cC (hh.set l bz) p5 [iI b] 3 := by
  have := kb.get _ _ g5 h5b (by intro vs e; cases e)
  show _ = _; rw [hset_other hlt (by rintro rfl; change _ = _ at this; rw [gl1] at this; cases this)]; exact this
 have kB : Keeps lo hh (hh.set l bz) := Keeps.set hlt hll _
 have sB : (hh.set l bz).size = hh.size := rfl
 have glB := hset_same hlt bz
 clear hbz hrd
 simp only [GR,evK,binV,intOp,strOp,shOp,unV,Nat.reduceLT,Nat.reduceEqDiff,Nat.reduceAdd,↓reduceIte,Nat.reduceLeDiff,reduceCtorEq,a51_7]
 refine ⟨KB.refl _ _,_,rfl,?_⟩
 obtain ⟨ov,v',h1,h2,go,e1,⟨pv,nv,cv,ov',hv'⟩,e2,ob2,k2,kb2⟩ := obB.app (by omega) hlen ⟨1,a,b,s⟩
 subst hv'
 have hfc : (Flaw.mk 1 a b s).cells = [iI 1,iI a,iI b,iI s] := rfl
 rw [hfc] at e1
 have hd0 : List.drop 4 [iI 0,iI 0,iI 0,iI 0] = [] := rfl
 generalize hh.set l bz = hB at *
 simp only [GR,evK,binV,intOp,strOp,shOp,unV,Nat.reduceLT,Nat.reduceEqDiff,Nat.reduceAdd,↓reduceIte,Nat.reduceLeDiff,reduceCtorEq,b51_9,r51_8,w3,w4,w5,go,g4B,g5B,hd0,e1,e2]
 have gl2 := kb2.get _ _ glB hlb (fun vs => nob _ _ _ _ _)
 exact ⟨kb2,ob2.set gl2 nob _,Keeps.trans kB (Keeps.trans k2 (Keeps.set (H.get_lt gl2) hll _))⟩
theorem KB.set_new {b : Nat} {h h' : H} (k : KB b h h') {i : Nat} (hi : h.size ≤ i) (o : Obj) : KB b h (h'.set i o) := ⟨k.size,fun j x hg hb hn => by
 have hj := H.get_lt hg
 have := k.get j x hg hb hn
 by_cases hlt : i < h'.size
 ·rw [hset_other hlt (by omega)]; exact this
 ·have hj' := H.get_lt this
  unfold H.get at this ⊢
  rw [H.set_size]
  simp only [hj',if_true] at this ⊢
  unfold H.set
  simp only
  rw [Tr.get_set _ _ _ _ _ _ (by omega) (by omega),if_neg (by omega)]
  exact this⟩
set_option maxHeartbeats 1000000 in
theorem inner51 (F : Ff E) (G : Fa E) {h h7 : H} {lv : V} {ws : List WV} (hv : VsIn h lv ws) {b3 ba bb p4 p5 : Nat} {ρ : Nat → V} {fs : List Flaw} {a b : Nat} {A B : WV} (hA : A ∈ ws) (hB : B ∈ ws) (ca : okF A.x.first = true) (cb : okF B.x.first = true)
  (w3 : ρ 3 = pP b3) (w4 : ρ 4 = pP p4) (w5 : ρ 5 = pP p5) (gA : cC h7 ba A.x.cells 63) (gB : cC h7 bb B.x.cells 63)
  (g4 : cC h7 p4 [iI a] 3) (g5 : cC h7 p5 [iI b] 3) (n4 : p4 ≠ b3) (n5 : p5 ≠ b3) (ob : Ob h.size h7 b3 fs) (kk : Kp h h7)
  (hlen : (fs ++ (chosenS A B).map fun s => Flaw.mk 1 a b s).length ≤ 1099511627775) :
  Sp P E (.func 72 [] [pP ba,pP bb]) [.yield h7.size] (h7.psh (.loop .ready none (toL 58 ρ) [49] a51_7 b51_9)) fun _ h2 => h2.get h7.size = some (.loop .ready none (toL 58 ρ) [49] a51_7 b51_9) ∧ KB b3 h7 h2 ∧ Ob h.size h2 b3 (fs ++ (chosenS A B).map fun s => Flaw.mk 1 a b s) ∧ Kp h h2 := by
 have kL : Kp h7 (h7.psh (.loop .ready none (toL 58 ρ) [49] a51_7 b51_9)) := Keeps.psh (Nat.le_refl _) _
 have glL := psh_same h7 (.loop .ready none (toL 58 ρ) [49] a51_7 b51_9)
 have hbs : b3 < h7.size := by obtain ⟨ov,g,_⟩ := ob.ex; exact H.get_lt g
 have hlb : h7.size ≠ b3 := by omega
 have nA : ba ≠ b3 := ob.ne gA (by intro ov e; simp at e)
 have nB : bb ≠ b3 := ob.ne gB (by intro ov e; simp at e)
 refine Sp.mono (chosen72 F G (A := A) (B := B) ca cb (Inv := fun r h' => KB b3 (h7.psh (.loop .ready none (toL 58 ρ) [49] a51_7 b51_9)) h' ∧ Kp h h' ∧ ∃ gs,Ob h.size h' b3 gs ∧ gs ++ (r.map fun s => Flaw.mk 1 a b s) = fs ++ (chosenS A B).map fun s => Flaw.mk 1 a b s) ?_ ?_ ?_ ?_) ?_
 ·rintro r h1 h2 ⟨kb,k1,gs,o1,e1⟩ k
  exact ⟨kb.trans (KB.kp k),Kp.trans k1 k,gs,o1.kb k,e1⟩
 ·rintro r h1 ⟨kb,k1,_⟩
  exact ⟨kb.get _ _ (kL.of gA) nA (by intro vs e; simp at e),kb.get _ _ (kL.of gB) nB (by intro vs e; simp at e),(hv.ins A hA).keep k1,(hv.ins B hB).keep k1⟩
 ·rintro s r h1 ⟨kb,k1,gs,o1,e1⟩
  have hgl : gs.length ≤ 1099511627775 := by
   have := congrArg List.length e1
   simp only [List.length_append] at this hlen
   omega
  refine Sp.mono (slot51 F w3 w4 w5 glL (kL.of g4) (kL.of g5) hlb n4 n5 kb o1 k1.size kk.size hgl) ?_
  rintro v h2 ⟨rfl,kb2,o2,k2⟩
  refine ⟨rfl,kb2,Keeps.trans k1 k2,_,o2,?_⟩
  rw [← e1]; simp
 ·exact ⟨KB.refl _ _,Kp.trans kk kL,fs,ob.kb kL,rfl⟩
 ·rintro _ h2 ⟨kb,k1,gs,o1,e1⟩
  refine ⟨kb.get _ _ glL hlb (by intro vs e; cases e),(KB.kp kL).trans kb,?_,k1⟩
  rw [← e1]; simpa using o1
set_option maxHeartbeats 4000000 in
theorem pair51 (F : Ff E) (G : Fa E) {h hL hh : H} {lv : V} {ws : List WV} (hv : VsIn h lv ws) {l b3 bx : Nat} {ρ : Nat → V} {fs : List Flaw} {a b : Nat} (ha : a < ws.length) (hb : b < ws.length) (w1 : ρ 1 = pP bx) (w3 : ρ 3 = pP b3)
  (gl : hL.get l = some (.loop .ready none (toL 58 ρ) [9,10] a51_4 b51_10)) (gx : cC hL bx [lv] 22) (hlb : l ≠ b3) (hxb : bx ≠ b3) (hll : h.size ≤ l)
  (kb : KB b3 hL hh) (ob : Ob h.size hh b3 fs) (kk : Kp h hh) (hlen : (fs ++ f1 ws (a,b)).length ≤ 1099511627775) :
  Sp P E (.yield l) [iI a,iI b] hh fun v h' => v = .bool true ∧ KB b3 hL h' ∧ Ob h.size h' b3 (fs ++ f1 ws (a,b)) ∧ Kp h h' := by
 refine Sp_round gl kb hlb rfl (zip2 _ _ _ _ _ _) ?_
 intro bz rd hbz hrd
 have nob : ∀ vs ty op ro fz,bz ≠ .cells vs ty op ro fz := by rw [hbz]; intro _ _ _ _ _ e; cases e
 obtain ⟨h4,e4,g4,k4,z4⟩ := put_fresh hh (vs := [iI 0]) (ws := [iI a]) (ty := 3) rfl rfl rfl
 obtain ⟨h5,e5,g5,k5,z5⟩ := put_fresh h4 (vs := [iI 0]) (ws := [iI b]) (ty := 3) rfl rfl rfl
 have k45 := Kp.trans k4 k5
 have gl5 := k45.of (kb.get _ _ gl hlb (by intro vs e; cases e))
 have hlt := H.get_lt gl5
 have nocl : ∀ vs ty op ro fz,Obj.loop .ready none (toL 58 ρ) [9,10] a51_4 b51_10 ≠ .cells vs ty op ro fz := by intro _ _ _ _ _ e; cases e
 have obB := (ob.kb k45).set gl5 nocl bz
 have oth : ∀ {i o},h5.get i = some o → (∀ st p T q x y,o ≠ .loop st p T q x y) → (h5.set l bz).get i = some o := fun {i o} hg hn => by
  rw [hset_other hlt (by rintro rfl; rw [gl5] at hg; cases hg; exact hn _ _ _ _ _ _ rfl)]; exact hg
 have gxB := oth (k45.of (kb.get _ _ gx hxb (by intro vs e; cases e))) (by intro _ _ _ _ _ _ e; cases e)
 have g4B := oth (k5.of g4) (by intro _ _ _ _ _ _ e; cases e)
 have g5B := oth g5 (by intro _ _ _ _ _ _ e; cases e)
 have glB := hset_same hlt bz
 have kkB : Kp h (h5.set l bz) := Keeps.trans (Kp.trans kk k45) (Keeps.set hlt hll _)
 have sB : (h5.set l bz).size = h5.size := rfl
 have n4 : hh.size ≠ b3 := (ob.kb k4).ne g4 (by intro ov e; simp at e)
 have n5 : h4.size ≠ b3 := (ob.kb k45).ne g5 (by intro ov e; simp at e)
 have hroB : ∀ {x : H},x.get l = some bz → roOk x (some l) = true := fun hg => by simp only [roOk,hg,hbz]
 clear hbz hrd gl5 oth
 simp only [GR,evK,binV,intOp,strOp,unV,Nat.reduceLT,Nat.reduceEqDiff,↓reduceIte,a51_4,r51_2,r51_3,e4,e5]
 refine ⟨KB.kp k45,_,rfl,?_⟩
 generalize h5.set l bz = hB at *
 have hvB := hv.keep kkB
 obtain ⟨ba,oa,ca,pa,csa,tya,opa,roa,fza,va,hga,hla,hea,hna⟩ := view_nth hvB.sl ha
 obtain ⟨bb,o2,cb,pb,csb,tyb,opb,rob,fzb,vb,hgb,hlb2,heb,hnb⟩ := view_nth hvB.sl hb
 have hvv := va.symm.trans vb
 cases hvv
 rw [hga] at hgb; cases hgb
 have ea0 : csa[oa + a * 21]? = some (iI ws[a].x.at_.group) := by have := hna 0 _ (View.g0 ws[a].x); simpa using this
 have eb0 : csa[oa + b * 21]? = some (iI ws[b].x.at_.group) := by have := hnb 0 _ (View.g0 ws[b].x); simpa using this
 have ea6 := hna 6 _ (View.g6 ws[a].x)
 have eb6 := hnb 6 _ (View.g6 ws[b].x)
 rw [va] at gxB
 have f1a := f1_at ha hb
 -- no flaw
 have none_ : f1 ws (a,b) = [] → ∀ ρ2 : Nat → V,(KB b3 hB hB) ∧ (Ob h.size (hB.set l rd) b3 (fs ++ f1 ws (a,b)) ∧ Kp h (hB.set l rd)) := by
  intro h0 ρ2
  refine ⟨KB.refl _ _,?_,Keeps.trans kkB (Keeps.set (H.get_lt glB) hll _)⟩
  rw [h0,List.append_nil]
  exact obB.set glB nob _
 simp only [GR,evK,binV,intOp,strOp,unV,Nat.reduceLT,Nat.reduceEqDiff,↓reduceIte,b51_10]
 rw [X_draw]
 refine d51_5 ?_
 cases c1 : ws[a].x.at_.group == ws[b].x.at_.group with
 | false =>
  rw [c1] at f1a
  simp only [GR,evK,binV,intOp,strOp,unV,Nat.reduceLT,Nat.reduceEqDiff,↓reduceIte,r51_5,w1,gxB,g4B,g5B,Int.natCast_nonneg,Int.ofNat_lt,ha,hb,Int.toNat_natCast,hga,ea0,eb0,c1]
  exact none_ (by simpa using f1a) ρ
 | true =>
  simp only [GR,evK,binV,intOp,strOp,unV,Nat.reduceLT,Nat.reduceEqDiff,↓reduceIte,r51_5,w1,gxB,g4B,g5B,Int.natCast_nonneg,Int.ofNat_lt,ha,hb,Int.toNat_natCast,hga,ea0,eb0,c1,ea6]
  refine XCD_of (count30 (P := P) G) ?_
  rintro _ hx ⟨rfl,e2⟩
  rw [e2]
  clear e2 hx
  cases c2 : okF ws[a].x.first with
  | false =>
   rw [c1,c2] at f1a
   simp only [GR,evK,binV,intOp,strOp,unV,Nat.reduceLT,Nat.reduceEqDiff,↓reduceIte]
   exact none_ (by simpa using f1a) ρ
  | true =>
   simp only [GR,evK,binV,intOp,strOp,unV,Nat.reduceLT,Nat.reduceEqDiff,↓reduceIte,w1,gxB,g4B,g5B,Int.natCast_nonneg,Int.ofNat_lt,ha,hb,Int.toNat_natCast,hga,eb6]
   refine XCD_of (count30 (P := P) G) ?_
   rintro _ hx ⟨rfl,e2⟩
   rw [e2]
   clear e2 hx
   cases c3 : okF ws[b].x.first with
   | false =>
    rw [c1,c2,c3] at f1a
    simp only [GR,evK,binV,intOp,strOp,unV,Nat.reduceLT,Nat.reduceEqDiff,↓reduceIte]
    exact none_ (by simpa using f1a) ρ
   | true =>
    rw [c1,c2,c3] at f1a
    simp only [Bool.and_self,if_true] at f1a
    have nja := (hvB.ins _ (List.getElem_mem ha)).nj
    have njb := (hvB.ins _ (List.getElem_mem hb)).nj
    unfold getR at hea heb
    simp only [GR,evK,binV,intOp,strOp,unV,Nat.reduceLT,Nat.reduceEqDiff,↓reduceIte]
    rw [X_draw]
    refine d51_6 ?_
    simp only [GR,evK,binV,intOp,strOp,unV,Nat.reduceLT,Nat.reduceEqDiff,↓reduceIte,r51_6,w1,gxB,g4B,g5B,Int.natCast_nonneg,Int.ofNat_lt,ha,hb,Int.toNat_natCast,hga,hla,hlb2,hea,heb,nja,njb]
    refine XCD_of (chosen65 (P := P) F ws[a].x ws[b].x hB) ?_
    rintro _ hx ⟨rfl,e2⟩
    rw [e2]
    clear e2 hx
    have k7 : Kp hB ((hB.psh (.cells ws[a].x.cells 63 false false none)).psh (.cells ws[b].x.cells 63 false false none)) := Keeps.trans (n := hB.size) (Keeps.psh (Nat.le_refl _) _) (Keeps.psh (by rw [psh_size]; omega) _)
    have s7 : ((hB.psh (.cells ws[a].x.cells 63 false false none)).psh (.cells ws[b].x.cells 63 false false none)).size = hB.size + 2 := rfl
    have gA7 : ((hB.psh (.cells ws[a].x.cells 63 false false none)).psh (.cells ws[b].x.cells 63 false false none)).get hB.size = some (.cells ws[a].x.cells 63 false false none) := psh_old (psh_same _ _) _
    have gB7 : ((hB.psh (.cells ws[a].x.cells 63 false false none)).psh (.cells ws[b].x.cells 63 false false none)).get (hB.size + 1) = some (.cells ws[b].x.cells 63 false false none) := psh_same (hB.psh (.cells ws[a].x.cells 63 false false none)) _
    generalize (hB.psh (.cells ws[a].x.cells 63 false false none)).psh (.cells ws[b].x.cells 63 false false none) = h7 at *
    simp only [GR,evK,binV,intOp,strOp,unV,Nat.reduceLT,Nat.reduceEqDiff,↓reduceIte]
    have gl7 := k7.of glB
    refine X_range (by rw [ev_t (by decide)]; rfl) (hroB gl7) ?_
    refine Sp.mono (inner51 F G hv (fs := fs) (a := a) (b := b) (b3 := b3) (p4 := hh.size) (p5 := h4.size) (List.getElem_mem ha) (List.getElem_mem hb) c2 c3 ?_ ?_ ?_ gA7 gB7 (k7.of g4B) (k7.of g5B) n4 n5 (obB.kb k7) (Kp.trans kkB k7) (by rw [← f1a]; exact hlen)) ?_
    ·exact w3
    ·rfl
    ·rfl
    rintro _ h8 ⟨gl8,kb8,ob8,kk8⟩
    refine ⟨_,_,_,_,_,_,gl8,by decide,fun oe hoe => ?_⟩
    simp only
    have hs7 := k7.size
    have gl9 := kb8.get _ _ gl7 hlb (fun vs => nob _ _ _ _ _)
    have hne9 : h7.size ≠ l := by have := H.get_lt gl7; omega
    have kb9 : KB b3 hB (h8.set h7.size oe) := KB.set_new ((KB.kp k7).trans kb8) hs7 oe
    have gl10 : (h8.set h7.size oe).get l = some bz := by rw [hset_other (H.get_lt gl8) hne9]; exact gl9
    have ob9 : Ob h.size (h8.set h7.size oe) b3 (fs ++ f1 ws (a,b)) := by
     rw [f1a]
     exact ob8.set gl8 (by intro _ _ _ _ _ e; cases e) oe
    have kk9 : Kp h (h8.set h7.size oe) := Keeps.trans kk8 (Keeps.set (H.get_lt gl8) (by have := kkB.size; omega) oe)
    generalize h8.set h7.size oe = h9 at *
    simp only [GR,evK,binV,intOp,strOp,unV,Nat.reduceLT,Nat.reduceEqDiff,↓reduceIte]
    exact ⟨kb9,ob9.set gl10 nob _,Keeps.trans kk9 (Keeps.set (H.get_lt gl10) hll _)⟩
set_option maxHeartbeats 1000000 in
theorem outer51 (F : Ff E) (G : Fa E) {h h3 : H} {lv : V} {ws : List WV} (hv : VsIn h lv ws) {b3 bx b2 : Nat} {ρ : Nat → V} (w1 : ρ 1 = pP bx) (w3 : ρ 3 = pP b3)
  (gx : cC h3 bx [lv] 22) (g2 : cC h3 b2 [lv] 22) (ob : Ob h.size h3 b3 []) (kk : Kp h h3) (hlen : (F1 ws).length ≤ 1099511627775) :
  Sp P E (.func 71 [] [pP b2]) [.yield h3.size] (h3.psh (.loop .ready none (toL 58 ρ) [9,10] a51_4 b51_10)) fun _ h2 => h2.get h3.size = some (.loop .ready none (toL 58 ρ) [9,10] a51_4 b51_10) ∧ Ob h.size h2 b3 (F1 ws) ∧ Kp h h2 := by
 have kL : Kp h3 (h3.psh (.loop .ready none (toL 58 ρ) [9,10] a51_4 b51_10)) := Keeps.psh (Nat.le_refl _) _
 have glL := psh_same h3 (.loop .ready none (toL 58 ρ) [9,10] a51_4 b51_10)
 have hbs : b3 < h3.size := by obtain ⟨ov,g,_⟩ := ob.ex; exact H.get_lt g
 have hlb : h3.size ≠ b3 := by omega
 have nx : bx ≠ b3 := ob.ne gx (by intro ov e; simp at e)
 have n2 : b2 ≠ b3 := ob.ne g2 (by intro ov e; simp at e)
 refine Sp.mono (pairs71 F (bx := b2) (lv := lv) hv.len (Inv := fun r h' => KB b3 (h3.psh (.loop .ready none (toL 58 ρ) [9,10] a51_4 b51_10)) h' ∧ Kp h h' ∧ ∃ fs,Ob h.size h' b3 fs ∧ fs ++ r.flatMap (f1 ws) = F1 ws) ?_ ?_ ?_) ?_
 ·rintro r h1 ⟨kb,k1,_⟩
  exact ⟨⟨22,kb.get _ _ (kL.of g2) n2 (by intro vs e; simp at e)⟩,(hv.keep k1).sl⟩
 ·rintro a b r h1 ha hb _ _ ⟨kb,k1,fs,o1,e1⟩
  rw [List.flatMap_cons,← List.append_assoc] at e1
  have hgl : (fs ++ f1 ws (a,b)).length ≤ 1099511627775 := by
   have := congrArg List.length e1
   rw [List.length_append] at this
   omega
  refine Sp.mono (pair51 F G hv ha hb w1 w3 glL (kL.of gx) hlb nx kk.size kb o1 k1 hgl) ?_
  rintro v h2 ⟨rfl,kb2,o2,k2⟩
  exact ⟨rfl,kb2,k2,_,o2,e1⟩
 ·exact ⟨KB.refl _ _,Kp.trans kk kL,[],ob.kb kL,rfl⟩
 ·rintro _ h2 ⟨kb,k1,gs,o1,e1⟩
  simp only [List.flatMap_nil,List.append_nil] at e1
  subst e1
  exact ⟨kb.get _ _ glL hlb (by intro vs e; cases e),o1,k1⟩
set_option maxHeartbeats 1000000 in
theorem unlike51 (F : Ff E) (G : Fa E) {h : H} {lv : V} {ws : List WV} (hv : VsIn h lv ws) (hlen : (F1 ws).length ≤ 1099511627775) : Sp P E (.func 51 [] []) [lv] h fun v h' => Acc h' h.size 30 4 v ((F1 ws).map Flaw.cells) ∧ Kp h h' := by
 have hv0 := hv
 obtain ⟨sa,sc,so,hlv⟩ := hv.sl.len
 rw [List.length_map] at hlv
 rw [hlv] at hv
 have k1 : Kp h (h.psh (.cells [lv] 22 false false none)) := Keeps.psh (Nat.le_refl _) _
 have g1 := psh_same h (.cells [lv] 22 false false none)
 have s1 := psh_size h (.cells [lv] 22 false false none)
 refine Sp_fn F.f51 F.p51 (by simp [fn51]) ?_
 rw [hlv] at g1 k1 s1 ⊢
 simp only [GR,evK,binV,intOp,strOp,unV,Nat.reduceLT,Nat.reduceEqDiff,↓reduceIte,fn51,c51,r51_0]
 generalize h.psh (.cells [.slice sa ws.length sc so] 22 false false none) = h1 at *
 have k2 : Kp h1 (h1.psh (.cells [sN] 24 false false none)) := Keeps.psh (Nat.le_refl _) _
 have g2 := psh_same h1 (.cells [sN] 24 false false none)
 have s2 := psh_size h1 (.cells [sN] 24 false false none)
 have g12 := k2.of g1
 generalize h1.psh (.cells [sN] 24 false false none) = h2 at *
 simp only [GR,evK,binV,intOp,strOp,unV,Nat.reduceLT,Nat.reduceEqDiff,↓reduceIte,r51_1,g12]
 refine XC_of (pairs64 (P := P) F sa ws.length sc so h2) ?_
 rintro _ hx ⟨rfl,e2⟩
 rw [e2]
 clear e2 hx
 have k3 : Kp h2 (h2.psh (.cells [.slice sa ws.length sc so] 22 false false none)) := Keeps.psh (Nat.le_refl _) _
 have g3 := psh_same h2 (.cells [.slice sa ws.length sc so] 22 false false none)
 generalize h2.psh (.cells [.slice sa ws.length sc so] 22 false false none) = h3 at *
 simp only [GR,evK,binV,intOp,strOp,unV,Nat.reduceLT,Nat.reduceEqDiff,↓reduceIte]
 have ob3 : Ob h.size h3 h1.size [] := ⟨⟨_,k3.of g2,Acc.nil _ _ _ _⟩,by omega⟩
 refine X_range (by rw [ev_t (by decide)]; rfl) rfl ?_
 refine Sp.mono (outer51 F G hv (b3 := h1.size) (bx := h.size) ?_ ?_ (k3.of g12) g3 ob3 (Kp.trans k1 (Kp.trans k2 k3)) hlen) ?_
 ·rfl
 ·rfl
 rintro _ h4 ⟨gl,ob4,kk4⟩
 refine ⟨_,_,_,_,_,_,gl,by decide,fun oe hoe => ?_⟩
 simp only
 have ob5 := ob4.set gl (by intro _ _ _ _ _ e; cases e) oe
 have kk5 : Kp h (h4.set h3.size oe) := Keeps.trans kk4 (Keeps.set (H.get_lt gl) (by have := (Kp.trans k1 (Kp.trans k2 k3)).size; omega) oe)
 generalize h4.set h3.size oe = h5 at *
 obtain ⟨ov,go,acc⟩ := ob5.ex
 simp only [GR,evK,binV,intOp,strOp,unV,Nat.reduceLT,Nat.reduceEqDiff,↓reduceIte,r51_11,go]
 exact ⟨acc,kk5⟩
def f2 (ws : List WV) (p : Nat × Nat) : List Flaw := match ws[p.1]?,ws[p.2]? with
 | some A,some B => if A.x.at_.group == B.x.at_.group && siteB A.x.at_.group && A.x.told == B.x.told && !decide (eqState A B) then [⟨2,p.1,p.2,0⟩] else []
 | _,_ => []
def F2 (ws : List WV) : List Flaw := (pairsL ws).flatMap (f2 ws)
theorem f2_at {ws : List WV} {a b : Nat} (ha : a < ws.length) (hb : b < ws.length) : f2 ws (a,b) = if ws[a].x.at_.group == ws[b].x.at_.group && siteB ws[a].x.at_.group && ws[a].x.told == ws[b].x.told && !decide (eqState ws[a] ws[b]) then [⟨2,a,b,0⟩] else [] := by
 simp [f2,ha,hb]
set_option maxHeartbeats 4000000 in
theorem pair52 (F : Ff E) (G : Fa E) {h hL hh : H} {lv : V} {ws : List WV} (hv : VsIn h lv ws) {l b3 bx : Nat} {ρ : Nat → V} {fs : List Flaw} {a b : Nat} (ha : a < ws.length) (hb : b < ws.length) (w1 : ρ 1 = pP bx) (w3 : ρ 3 = pP b3)
  (gl : hL.get l = some (.loop .ready none (toL 62 ρ) [8,9] a52_2 b52_5)) (gx : cC hL bx [lv] 22) (hlb : l ≠ b3) (hxb : bx ≠ b3) (hll : h.size ≤ l)
  (kb : KB b3 hL hh) (ob : Ob h.size hh b3 fs) (kk : Kp h hh) (hlen : (fs ++ f2 ws (a,b)).length ≤ 1099511627775) :
  Sp P E (.yield l) [iI a,iI b] hh fun v h' => v = .bool true ∧ KB b3 hL h' ∧ Ob h.size h' b3 (fs ++ f2 ws (a,b)) ∧ Kp h h' := by
 refine Sp_round gl kb hlb rfl (zip2 _ _ _ _ _ _) ?_
 intro bz rd hbz hrd
 have nob : ∀ vs ty op ro fz,bz ≠ .cells vs ty op ro fz := by rw [hbz]; intro _ _ _ _ _ e; cases e
 have glh := kb.get _ _ gl hlb (by intro vs e; cases e)
 have hlt := H.get_lt glh
 have nocl : ∀ vs ty op ro fz,Obj.loop .ready none (toL 62 ρ) [8,9] a52_2 b52_5 ≠ .cells vs ty op ro fz := by intro _ _ _ _ _ e; cases e
 have obB := ob.set glh nocl bz
 have gxB : cC (hh.set l bz) bx [lv] 22 := by
  have hg := kb.get _ _ gx hxb (by intro vs e; cases e)
  show _ = _; rw [hset_other hlt (by rintro rfl; change _ = _ at hg; rw [glh] at hg; cases hg)]; exact hg
 have glB := hset_same hlt bz
 have kkB : Kp h (hh.set l bz) := Keeps.trans kk (Keeps.set hlt hll _)
 have sB : (hh.set l bz).size = hh.size := rfl
 clear hbz hrd glh
 simp only [GR,evK,binV,intOp,strOp,shOp,unV,Nat.reduceLT,Nat.reduceEqDiff,Nat.reduceAdd,↓reduceIte,Nat.reduceLeDiff,reduceCtorEq,a52_2]
 refine ⟨KB.refl _ _,_,rfl,?_⟩
 generalize hh.set l bz = hB at *
 have hvB := hv.keep kkB
 obtain ⟨ba,oa,ca,pa,csa,tya,opa,roa,fza,va,hga,hla,hea,hna⟩ := view_nth hvB.sl ha
 obtain ⟨bb,o2,cb,pb,csb,tyb,opb,rob,fzb,vb,hgb,hlb2,heb,hnb⟩ := view_nth hvB.sl hb
 have hvv := va.symm.trans vb
 cases hvv
 change _ = _ at hgb; rw [hga] at hgb; cases hgb
 have wA := hvB.ins _ (List.getElem_mem ha)
 have wB := hvB.ins _ (List.getElem_mem hb)
 have nja := wA.nj
 have njb := wB.nj
 have hea0 := hea
 have heb0 := heb
 unfold getR at hea heb
 have ea0 : csa[oa + a * 21]? = some (iI ws[a].x.at_.group) := by have := hna 0 _ (View.g0 ws[a].x); simpa using this
 have eb0 : csa[oa + b * 21]? = some (iI ws[b].x.at_.group) := by have := hnb 0 _ (View.g0 ws[b].x); simpa using this
 rw [va] at gxB
 have fa := f2_at ha hb
 have good : f2 ws (a,b) = [⟨2,a,b,0⟩] → ∀ (ρ2 : Nat → V) (h8 : H),ρ2 3 = pP b3 → ρ2 4 = iI a → ρ2 5 = iI b → Kp hB h8 → XO P E (some l) 62 r52_4 [.b 1] ρ2 h8 fun ex _ h2 => ex = .nrm ∧ KB b3 hB h2 ∧ Ob h.size (h2.set l rd) b3 (fs ++ f2 ws (a,b)) ∧ Kp h (h2.set l rd) := by
  intro h1 ρ2 h8 y3 y4 y5 k8
  rw [h1] at hlen ⊢
  have ob8 := obB.kb k8
  have kk8 := Kp.trans kkB k8
  obtain ⟨ov,v',h9,h10,go,e1,⟨pv,nv,cv,ov',hv'⟩,e2,ob2,k2,kb2⟩ := ob8.app kk8.size (by simp at hlen; omega) ⟨2,a,b,0⟩
  subst hv'
  have hfc : (Flaw.mk 2 a b 0).cells = [iI 2,iI a,iI b,iI 0] := rfl
  rw [hfc] at e1
  have hd0 : List.drop 3 [iI 0,iI 0,iI 0,iI 0] = [iI 0] := rfl
  have hd1 : List.drop 4 [iI 0,iI 0,iI 0,iI 0] = [] := rfl
  simp only [GR,evK,binV,intOp,strOp,shOp,unV,Nat.reduceLT,Nat.reduceEqDiff,Nat.reduceAdd,↓reduceIte,Nat.reduceLeDiff,reduceCtorEq,r52_4,y3,y4,y5,go,hd0,hd1,e1,e2]
  have gl8 := k8.of glB
  have gl2 := kb2.get _ _ gl8 hlb (fun vs => nob _ _ _ _ _)
  exact ⟨(KB.kp k8).trans kb2,ob2.set gl2 nob _,Keeps.trans kk8 (Keeps.trans k2 (Keeps.set (H.get_lt gl2) hll _))⟩
 have none_ : f2 ws (a,b) = [] → ∀ h8 : H,Kp hB h8 → (KB b3 hB h8) ∧ (Ob h.size (h8.set l rd) b3 (fs ++ f2 ws (a,b)) ∧ Kp h (h8.set l rd)) := by
  intro h0 h8 k8
  refine ⟨KB.kp k8,?_,Keeps.trans (Kp.trans kkB k8) (Keeps.set (H.get_lt (k8.of glB)) hll _)⟩
  rw [h0,List.append_nil]
  exact (obB.kb k8).set (k8.of glB) nob _
 simp only [GR,evK,binV,intOp,strOp,shOp,unV,Nat.reduceLT,Nat.reduceEqDiff,Nat.reduceAdd,↓reduceIte,Nat.reduceLeDiff,reduceCtorEq,b52_5]
 rw [X_draw]
 have ea5 := hna 5 _ (View.g5 ws[a].x)
 have eb5 := hnb 5 _ (View.g5 ws[b].x)
 refine d52_3 ?_
 cases c1 : ws[a].x.at_.group == ws[b].x.at_.group with
 | false =>
  rw [c1] at fa
  simp only [GR,evK,binV,intOp,strOp,shOp,unV,Nat.reduceLT,Nat.reduceEqDiff,Nat.reduceAdd,↓reduceIte,Nat.reduceLeDiff,reduceCtorEq,r52_3,w1,gxB,Int.natCast_nonneg,Int.ofNat_lt,ha,hb,Int.toNat_natCast,hga,hla,hlb2,hea,heb,nja,njb,ea0,eb0,c1]
  exact none_ (by simpa using fa) hB (Keeps.refl _ _)
 | true =>
  simp only [GR,evK,binV,intOp,strOp,shOp,unV,Nat.reduceLT,Nat.reduceEqDiff,Nat.reduceAdd,↓reduceIte,Nat.reduceLeDiff,reduceCtorEq,r52_3,w1,gxB,Int.natCast_nonneg,Int.ofNat_lt,ha,hb,Int.toNat_natCast,hga,hla,hlb2,hea,heb,nja,njb,ea0,eb0,c1]
  refine XCD_of (isSite66 (P := P) F) ?_
  rintro _ h1 ⟨rfl,k1⟩
  have gx1 := k1.of gxB
  have hg1 := k1.of hga
  cases c2 : siteB ws[a].x.at_.group with
  | false =>
   rw [c1,c2] at fa
   simp only [GR,evK,binV,intOp,strOp,shOp,unV,Nat.reduceLT,Nat.reduceEqDiff,Nat.reduceAdd,↓reduceIte,Nat.reduceLeDiff,reduceCtorEq]
   exact none_ (by simpa using fa) h1 k1
  | true =>
   cases c3 : ws[a].x.told == ws[b].x.told with
   | false =>
    rw [c1,c2,c3] at fa
    simp only [GR,evK,binV,intOp,strOp,shOp,unV,Nat.reduceLT,Nat.reduceEqDiff,Nat.reduceAdd,↓reduceIte,Nat.reduceLeDiff,reduceCtorEq,w1,gx1,Int.natCast_nonneg,Int.ofNat_lt,ha,hb,Int.toNat_natCast,hg1,ea5,eb5,c3]
    exact none_ (by simpa using fa) h1 k1
   | true =>
    simp only [GR,evK,binV,intOp,strOp,shOp,unV,Nat.reduceLT,Nat.reduceEqDiff,Nat.reduceAdd,↓reduceIte,Nat.reduceLeDiff,reduceCtorEq,w1,gx1,Int.natCast_nonneg,Int.ofNat_lt,ha,hb,Int.toNat_natCast,hg1,ea5,eb5,c3,hla,hlb2,hea,heb,nja,njb]
    refine XCD_of (state40 (P := P) G (x := ws[a].x) (y := ws[b].x) (es := ws[a].es) (ns := ws[a].ns) (rs := ws[a].rs) (es' := ws[b].es) (ns' := ws[b].ns) (rs' := ws[b].rs) (wA.keep k1) (wB.keep k1)) ?_
    rintro _ h2 ⟨rfl,k2⟩
    have k12 := Kp.trans k1 k2
    cases c4 : decide (eqState ws[a] ws[b]) with
    | true =>
     have c4' : decide (eqState ⟨ws[a].x,ws[a].es,ws[a].ns,ws[a].rs⟩ ⟨ws[b].x,ws[b].es,ws[b].ns,ws[b].rs⟩) = true := c4
     rw [c1,c2,c3,c4] at fa
     simp only [GR,evK,binV,intOp,strOp,shOp,unV,Nat.reduceLT,Nat.reduceEqDiff,Nat.reduceAdd,↓reduceIte,Nat.reduceLeDiff,reduceCtorEq,c4',Bool.not_true]
     exact none_ (by simpa using fa) h2 k12
    | false =>
     have c4' : decide (eqState ⟨ws[a].x,ws[a].es,ws[a].ns,ws[a].rs⟩ ⟨ws[b].x,ws[b].es,ws[b].ns,ws[b].rs⟩) = false := c4
     rw [c1,c2,c3,c4] at fa
     simp only [GR,evK,binV,intOp,strOp,shOp,unV,Nat.reduceLT,Nat.reduceEqDiff,Nat.reduceAdd,↓reduceIte,Nat.reduceLeDiff,reduceCtorEq,c4',Bool.not_false]
     refine good (by simpa using fa) _ h2 ?_ ?_ ?_ k12
     ·exact w3
     ·rfl
     ·rfl
set_option maxHeartbeats 1000000 in
theorem outer52 (F : Ff E) (G : Fa E) {h h3 : H} {lv : V} {ws : List WV} (hv : VsIn h lv ws) {b3 bx b2 : Nat} {ρ : Nat → V} (w1 : ρ 1 = pP bx) (w3 : ρ 3 = pP b3)
  (gx : cC h3 bx [lv] 22) (g2 : cC h3 b2 [lv] 22) (ob : Ob h.size h3 b3 []) (kk : Kp h h3) (hlen : (F2 ws).length ≤ 1099511627775) :
  Sp P E (.func 71 [] [pP b2]) [.yield h3.size] (h3.psh (.loop .ready none (toL 62 ρ) [8,9] a52_2 b52_5)) fun _ h2 => h2.get h3.size = some (.loop .ready none (toL 62 ρ) [8,9] a52_2 b52_5) ∧ Ob h.size h2 b3 (F2 ws) ∧ Kp h h2 := by
 have kL : Kp h3 (h3.psh (.loop .ready none (toL 62 ρ) [8,9] a52_2 b52_5)) := Keeps.psh (Nat.le_refl _) _
 have glL := psh_same h3 (.loop .ready none (toL 62 ρ) [8,9] a52_2 b52_5)
 have hbs : b3 < h3.size := by obtain ⟨ov,g,_⟩ := ob.ex; exact H.get_lt g
 have hlb : h3.size ≠ b3 := by omega
 have nx : bx ≠ b3 := ob.ne gx (by intro ov e; simp at e)
 have n2 : b2 ≠ b3 := ob.ne g2 (by intro ov e; simp at e)
 refine Sp.mono (pairs71 F (bx := b2) (lv := lv) hv.len (Inv := fun r h' => KB b3 (h3.psh (.loop .ready none (toL 62 ρ) [8,9] a52_2 b52_5)) h' ∧ Kp h h' ∧ ∃ fs,Ob h.size h' b3 fs ∧ fs ++ r.flatMap (f2 ws) = F2 ws) ?_ ?_ ?_) ?_
 ·rintro r h1 ⟨kb,k1,_⟩
  exact ⟨⟨22,kb.get _ _ (kL.of g2) n2 (by intro vs e; simp at e)⟩,(hv.keep k1).sl⟩
 ·rintro a b r h1 ha hb _ _ ⟨kb,k1,fs,o1,e1⟩
  rw [List.flatMap_cons,← List.append_assoc] at e1
  have hgl : (fs ++ f2 ws (a,b)).length ≤ 1099511627775 := by
   have := congrArg List.length e1
   rw [List.length_append] at this
   omega
  refine Sp.mono (pair52 F G hv ha hb w1 w3 glL (kL.of gx) hlb nx kk.size kb o1 k1 hgl) ?_
  rintro v h2 ⟨rfl,kb2,o2,k2⟩
  exact ⟨rfl,kb2,k2,_,o2,e1⟩
 ·exact ⟨KB.refl _ _,Kp.trans kk kL,[],ob.kb kL,rfl⟩
 ·rintro _ h2 ⟨kb,k1,gs,o1,e1⟩
  simp only [List.flatMap_nil,List.append_nil] at e1
  subst e1
  exact ⟨kb.get _ _ glL hlb (by intro vs e; cases e),o1,k1⟩
set_option maxHeartbeats 1000000 in
theorem unlike52 (F : Ff E) (G : Fa E) {h : H} {lv : V} {ws : List WV} (hv : VsIn h lv ws) (hlen : (F2 ws).length ≤ 1099511627775) : Sp P E (.func 52 [] []) [lv] h fun v h' => Acc h' h.size 30 4 v ((F2 ws).map Flaw.cells) ∧ Kp h h' := by
 have hv0 := hv
 obtain ⟨sa,sc,so,hlv⟩ := hv.sl.len
 rw [List.length_map] at hlv
 rw [hlv] at hv
 have k1 : Kp h (h.psh (.cells [lv] 22 false false none)) := Keeps.psh (Nat.le_refl _) _
 have g1 := psh_same h (.cells [lv] 22 false false none)
 have s1 := psh_size h (.cells [lv] 22 false false none)
 refine Sp_fn F.f52 F.p52 (by simp [fn52]) ?_
 rw [hlv] at g1 k1 s1 ⊢
 simp only [GR,evK,binV,intOp,strOp,shOp,unV,Nat.reduceLT,Nat.reduceEqDiff,Nat.reduceAdd,↓reduceIte,Nat.reduceLeDiff,reduceCtorEq,fn52,c52,r52_0]
 generalize h.psh (.cells [.slice sa ws.length sc so] 22 false false none) = h1 at *
 have k2 : Kp h1 (h1.psh (.cells [sN] 24 false false none)) := Keeps.psh (Nat.le_refl _) _
 have g2 := psh_same h1 (.cells [sN] 24 false false none)
 have s2 := psh_size h1 (.cells [sN] 24 false false none)
 have g12 := k2.of g1
 generalize h1.psh (.cells [sN] 24 false false none) = h2 at *
 simp only [GR,evK,binV,intOp,strOp,shOp,unV,Nat.reduceLT,Nat.reduceEqDiff,Nat.reduceAdd,↓reduceIte,Nat.reduceLeDiff,reduceCtorEq,r52_1,g12]
 refine XC_of (pairs64 (P := P) F sa ws.length sc so h2) ?_
 rintro _ hx ⟨rfl,e2⟩
 rw [e2]
 clear e2 hx
 have k3 : Kp h2 (h2.psh (.cells [.slice sa ws.length sc so] 22 false false none)) := Keeps.psh (Nat.le_refl _) _
 have g3 := psh_same h2 (.cells [.slice sa ws.length sc so] 22 false false none)
 generalize h2.psh (.cells [.slice sa ws.length sc so] 22 false false none) = h3 at *
 simp only [GR,evK,binV,intOp,strOp,shOp,unV,Nat.reduceLT,Nat.reduceEqDiff,Nat.reduceAdd,↓reduceIte,Nat.reduceLeDiff,reduceCtorEq]
 have ob3 : Ob h.size h3 h1.size [] := ⟨⟨_,k3.of g2,Acc.nil _ _ _ _⟩,by omega⟩
 refine X_range (by rw [ev_t (by decide)]; rfl) rfl ?_
 refine Sp.mono (outer52 F G hv (b3 := h1.size) (bx := h.size) ?_ ?_ (k3.of g12) g3 ob3 (Kp.trans k1 (Kp.trans k2 k3)) hlen) ?_
 ·rfl
 ·rfl
 rintro _ h4 ⟨gl,ob4,kk4⟩
 refine ⟨_,_,_,_,_,_,gl,by decide,fun oe hoe => ?_⟩
 simp only
 have ob5 := ob4.set gl (by intro _ _ _ _ _ e; cases e) oe
 have kk5 : Kp h (h4.set h3.size oe) := Keeps.trans kk4 (Keeps.set (H.get_lt gl) (by have := (Kp.trans k1 (Kp.trans k2 k3)).size; omega) oe)
 generalize h4.set h3.size oe = h5 at *
 obtain ⟨ov,go,acc⟩ := ob5.ex
 simp only [GR,evK,binV,intOp,strOp,shOp,unV,Nat.reduceLT,Nat.reduceEqDiff,Nat.reduceAdd,↓reduceIte,Nat.reduceLeDiff,reduceCtorEq,r52_6,go]
 exact ⟨acc,kk5⟩
theorem vec_at {cs : List V} {o : Nat} {x : View} (h : getR cs o 21 = x.cells) : List.take 8 (List.drop (o + 11) cs) = x.vector.cells := by
 have h2 : List.take 8 (List.drop 11 (getR cs o 21)) = x.vector.cells := by rw [h]; rfl
 unfold getR at h2
 rw [← h2,List.drop_take,List.take_take,List.drop_drop]
 rfl
def f4 (ws : List WV) (p : Nat × Nat) : List Flaw := match ws[p.1]?,ws[p.2]? with
 | some A,some B => if A.x.booted && B.x.booted && siteB A.x.at_.group && siteB B.x.at_.group && decide (A.x.vector = B.x.vector) && !decide (A.ns.map (·.2) = B.ns.map (·.2)) then [⟨4,p.1,p.2,0⟩] else []
 | _,_ => []
def F4 (ws : List WV) : List Flaw := (pairsL ws).flatMap (f4 ws)
theorem f4_at {ws : List WV} {a b : Nat} (ha : a < ws.length) (hb : b < ws.length) : f4 ws (a,b) = if ws[a].x.booted && ws[b].x.booted && siteB ws[a].x.at_.group && siteB ws[b].x.at_.group && decide (ws[a].x.vector = ws[b].x.vector) && !decide (ws[a].ns.map (·.2) = ws[b].ns.map (·.2)) then [⟨4,a,b,0⟩] else [] := by
 simp [f4,ha,hb]
set_option maxHeartbeats 4000000 in
theorem pair54 (F : Ff E) (G : Fa E) {h hL hh : H} {lv : V} {ws : List WV} (hv : VsIn h lv ws) {l b3 bx : Nat} {ρ : Nat → V} {fs : List Flaw} {a b : Nat} (ha : a < ws.length) (hb : b < ws.length) (w1 : ρ 1 = pP bx) (w3 : ρ 3 = pP b3)
  (gl : hL.get l = some (.loop .ready none (toL 70 ρ) [8,9] a54_2 b54_5)) (gx : cC hL bx [lv] 22) (hlb : l ≠ b3) (hxb : bx ≠ b3) (hll : h.size ≤ l)
  (kb : KB b3 hL hh) (ob : Ob h.size hh b3 fs) (kk : Kp h hh) (hlen : (fs ++ f4 ws (a,b)).length ≤ 1099511627775) :
  Sp P E (.yield l) [iI a,iI b] hh fun v h' => v = .bool true ∧ KB b3 hL h' ∧ Ob h.size h' b3 (fs ++ f4 ws (a,b)) ∧ Kp h h' := by
 refine Sp_round gl kb hlb rfl (zip2 _ _ _ _ _ _) ?_
 intro bz rd hbz hrd
 have nob : ∀ vs ty op ro fz,bz ≠ .cells vs ty op ro fz := by rw [hbz]; intro _ _ _ _ _ e; cases e
 have glh := kb.get _ _ gl hlb (by intro vs e; cases e)
 have hlt := H.get_lt glh
 have nocl : ∀ vs ty op ro fz,Obj.loop .ready none (toL 70 ρ) [8,9] a54_2 b54_5 ≠ .cells vs ty op ro fz := by intro _ _ _ _ _ e; cases e
 have obB := ob.set glh nocl bz
 have gxB : cC (hh.set l bz) bx [lv] 22 := by
  have hg := kb.get _ _ gx hxb (by intro vs e; cases e)
  show _ = _; rw [hset_other hlt (by rintro rfl; change _ = _ at hg; rw [glh] at hg; cases hg)]; exact hg
 have glB := hset_same hlt bz
 have kkB : Kp h (hh.set l bz) := Keeps.trans kk (Keeps.set hlt hll _)
 have sB : (hh.set l bz).size = hh.size := rfl
 clear hbz hrd glh
 simp only [GR,evK,binV,intOp,strOp,shOp,unV,Nat.reduceLT,Nat.reduceEqDiff,Nat.reduceAdd,↓reduceIte,Nat.reduceLeDiff,reduceCtorEq,a54_2]
 refine ⟨KB.refl _ _,_,rfl,?_⟩
 generalize hh.set l bz = hB at *
 have hvB := hv.keep kkB
 obtain ⟨ba,oa,ca,pa,csa,tya,opa,roa,fza,va,hga,hla,hea,hna⟩ := view_nth hvB.sl ha
 obtain ⟨bb,o2,cb,pb,csb,tyb,opb,rob,fzb,vb,hgb,hlb2,heb,hnb⟩ := view_nth hvB.sl hb
 have hvv := va.symm.trans vb
 cases hvv
 change _ = _ at hgb; rw [hga] at hgb; cases hgb
 have wA := hvB.ins _ (List.getElem_mem ha)
 have wB := hvB.ins _ (List.getElem_mem hb)
 have nja := wA.nj
 have njb := wB.nj
 have hea0 := hea
 have heb0 := heb
 unfold getR at hea heb
 have ea0 : csa[oa + a * 21]? = some (iI ws[a].x.at_.group) := by have := hna 0 _ (View.g0 ws[a].x); simpa using this
 have eb0 : csa[oa + b * 21]? = some (iI ws[b].x.at_.group) := by have := hnb 0 _ (View.g0 ws[b].x); simpa using this
 rw [va] at gxB
 have fa := f4_at ha hb
 have good : f4 ws (a,b) = [⟨4,a,b,0⟩] → ∀ (ρ2 : Nat → V) (h8 : H),ρ2 3 = pP b3 → ρ2 4 = iI a → ρ2 5 = iI b → Kp hB h8 → XO P E (some l) 70 r54_4 [.b 1] ρ2 h8 fun ex _ h2 => ex = .nrm ∧ KB b3 hB h2 ∧ Ob h.size (h2.set l rd) b3 (fs ++ f4 ws (a,b)) ∧ Kp h (h2.set l rd) := by
  intro h1 ρ2 h8 y3 y4 y5 k8
  rw [h1] at hlen ⊢
  have ob8 := obB.kb k8
  have kk8 := Kp.trans kkB k8
  obtain ⟨ov,v',h9,h10,go,e1,⟨pv,nv,cv,ov',hv'⟩,e2,ob2,k2,kb2⟩ := ob8.app kk8.size (by simp at hlen; omega) ⟨4,a,b,0⟩
  subst hv'
  have hfc : (Flaw.mk 4 a b 0).cells = [iI 4,iI a,iI b,iI 0] := rfl
  rw [hfc] at e1
  have hd0 : List.drop 3 [iI 0,iI 0,iI 0,iI 0] = [iI 0] := rfl
  have hd1 : List.drop 4 [iI 0,iI 0,iI 0,iI 0] = [] := rfl
  simp only [GR,evK,binV,intOp,strOp,shOp,unV,Nat.reduceLT,Nat.reduceEqDiff,Nat.reduceAdd,↓reduceIte,Nat.reduceLeDiff,reduceCtorEq,r54_4,y3,y4,y5,go,hd0,hd1,e1,e2]
  have gl8 := k8.of glB
  have gl2 := kb2.get _ _ gl8 hlb (fun vs => nob _ _ _ _ _)
  exact ⟨(KB.kp k8).trans kb2,ob2.set gl2 nob _,Keeps.trans kk8 (Keeps.trans k2 (Keeps.set (H.get_lt gl2) hll _))⟩
 have none_ : f4 ws (a,b) = [] → ∀ h8 : H,Kp hB h8 → (KB b3 hB h8) ∧ (Ob h.size (h8.set l rd) b3 (fs ++ f4 ws (a,b)) ∧ Kp h (h8.set l rd)) := by
  intro h0 h8 k8
  refine ⟨KB.kp k8,?_,Keeps.trans (Kp.trans kkB k8) (Keeps.set (H.get_lt (k8.of glB)) hll _)⟩
  rw [h0,List.append_nil]
  exact (obB.kb k8).set (k8.of glB) nob _
 simp only [GR,evK,binV,intOp,strOp,shOp,unV,Nat.reduceLT,Nat.reduceEqDiff,Nat.reduceAdd,↓reduceIte,Nat.reduceLeDiff,reduceCtorEq,b54_5]
 rw [X_draw]
 have ea4 := hna 4 _ (View.g4 ws[a].x)
 have eb4 := hnb 4 _ (View.g4 ws[b].x)
 have ea19 := hna 19 _ (View.g19 ws[a].x)
 have eb19 := hnb 19 _ (View.g19 ws[b].x)
 have eav : List.take 8 (List.drop (oa + a * 21 + 11) csa) = ws[a].x.vector.cells := vec_at hea0
 have ebv : List.take 8 (List.drop (oa + b * 21 + 11) csa) = ws[b].x.vector.cells := vec_at heb0
 have hla8 : oa + a * 21 + 11 + 8 ≤ csa.length := by omega
 have hlb8 : oa + b * 21 + 11 + 8 ≤ csa.length := by omega
 have hvn : ∀ z : Vec,V.njL z.cells = true := fun _ => rfl
 obtain ⟨sa1,sa2,sa3,sav⟩ := wA.nodes.len
 obtain ⟨sb1,sb2,sb3,sbv⟩ := wB.nodes.len
 refine d54_3 ?_
 cases c1 : ws[a].x.booted with
 | false =>
  rw [c1] at fa ea4
  simp only [GR,evK,binV,intOp,strOp,shOp,unV,Nat.reduceLT,Nat.reduceEqDiff,Nat.reduceAdd,↓reduceIte,Nat.reduceLeDiff,reduceCtorEq,r54_3,w1,gxB,Int.natCast_nonneg,Int.ofNat_lt,ha,hb,Int.toNat_natCast,hga,hla,hlb2,hea,heb,nja,njb,ea4]
  exact none_ (by simpa using fa) hB (Keeps.refl _ _)
 | true =>
 cases c1b : ws[b].x.booted with
 | false =>
  rw [c1] at ea4
  rw [c1b] at eb4
  rw [c1,c1b] at fa
  simp only [GR,evK,binV,intOp,strOp,shOp,unV,Nat.reduceLT,Nat.reduceEqDiff,Nat.reduceAdd,↓reduceIte,Nat.reduceLeDiff,reduceCtorEq,r54_3,w1,gxB,Int.natCast_nonneg,Int.ofNat_lt,ha,hb,Int.toNat_natCast,hga,hla,hlb2,hea,heb,nja,njb,ea4,eb4]
  exact none_ (by simpa using fa) hB (Keeps.refl _ _)
 | true =>
  rw [c1] at ea4
  rw [c1b] at eb4
  simp only [GR,evK,binV,intOp,strOp,shOp,unV,Nat.reduceLT,Nat.reduceEqDiff,Nat.reduceAdd,↓reduceIte,Nat.reduceLeDiff,reduceCtorEq,r54_3,w1,gxB,Int.natCast_nonneg,Int.ofNat_lt,ha,hb,Int.toNat_natCast,hga,hla,hlb2,hea,heb,nja,njb,ea4,eb4]
  refine XCD_of (isSite66 (P := P) F) ?_
  rintro _ h1 ⟨rfl,k1⟩
  have gx1 := k1.of gxB
  have hg1 := k1.of hga
  cases c2 : siteB ws[a].x.at_.group with
  | false =>
   rw [c1,c1b,c2] at fa
   simp only [GR,evK,binV,intOp,strOp,shOp,unV,Nat.reduceLT,Nat.reduceEqDiff,Nat.reduceAdd,↓reduceIte,Nat.reduceLeDiff,reduceCtorEq]
   exact none_ (by simpa using fa) h1 k1
  | true =>
   simp only [GR,evK,binV,intOp,strOp,shOp,unV,Nat.reduceLT,Nat.reduceEqDiff,Nat.reduceAdd,↓reduceIte,Nat.reduceLeDiff,reduceCtorEq,w1,gx1,Int.natCast_nonneg,Int.ofNat_lt,ha,hb,Int.toNat_natCast,hg1,hla,hlb2,hea,heb,nja,njb]
   refine XCD_of (isSite66 (P := P) F) ?_
   rintro _ h2 ⟨rfl,k2⟩
   have k12 := Kp.trans k1 k2
   have gx2 := k12.of gxB
   have hg2 := k12.of hga
   cases c3 : siteB ws[b].x.at_.group with
   | false =>
    rw [c1,c1b,c2,c3] at fa
    simp only [GR,evK,binV,intOp,strOp,shOp,unV,Nat.reduceLT,Nat.reduceEqDiff,Nat.reduceAdd,↓reduceIte,Nat.reduceLeDiff,reduceCtorEq]
    exact none_ (by simpa using fa) h2 k12
   | true =>
    have hveq := Vec.eqv h2 ws[a].x.vector ws[b].x.vector
    have hla9 : oa + a * 21 + 11 + 8 ≤ csa.length := hla8
    cases c4 : decide (ws[a].x.vector = ws[b].x.vector) with
    | false =>
     rw [c1,c1b,c2,c3,c4] at fa
     rw [c4] at hveq
     simp only [GR,evK,binV,intOp,strOp,shOp,unV,Nat.reduceLT,Nat.reduceEqDiff,Nat.reduceAdd,↓reduceIte,Nat.reduceLeDiff,reduceCtorEq,w1,gx2,Int.natCast_nonneg,Int.ofNat_lt,ha,hb,Int.toNat_natCast,hg2,hla8,hlb8,eav,ebv,hvn,hveq]
     exact none_ (by simpa using fa) h2 k12
    | true =>
     rw [c4] at hveq
     rw [sav] at ea19
     rw [sbv] at eb19
     have sp := nodes62 (P := P) G ((wA.keep k12).nodes) ((wA.keep k12).nds) ((wB.keep k12).nodes) ((wB.keep k12).nds) wA.nlen
     rw [sav,sbv] at sp
     simp only [GR,evK,binV,intOp,strOp,shOp,unV,Nat.reduceLT,Nat.reduceEqDiff,Nat.reduceAdd,↓reduceIte,Nat.reduceLeDiff,reduceCtorEq,w1,gx2,Int.natCast_nonneg,Int.ofNat_lt,ha,hb,Int.toNat_natCast,hg2,hla8,hlb8,eav,ebv,hvn,hveq,ea19,eb19]
     refine XCD_of sp ?_
     rintro _ h3 ⟨rfl,k3⟩
     have k123 := Kp.trans k12 k3
     cases c5 : decide (ws[a].ns.map (·.2) = ws[b].ns.map (·.2)) with
     | true =>
      rw [c1,c1b,c2,c3,c4,c5] at fa
      simp only [GR,evK,binV,intOp,strOp,shOp,unV,Nat.reduceLT,Nat.reduceEqDiff,Nat.reduceAdd,↓reduceIte,Nat.reduceLeDiff,reduceCtorEq,Bool.not_true]
      exact none_ (by simpa using fa) h3 k123
     | false =>
      rw [c1,c1b,c2,c3,c4,c5] at fa
      simp only [GR,evK,binV,intOp,strOp,shOp,unV,Nat.reduceLT,Nat.reduceEqDiff,Nat.reduceAdd,↓reduceIte,Nat.reduceLeDiff,reduceCtorEq,Bool.not_false]
      refine good (by simpa using fa) _ h3 ?_ ?_ ?_ k123
      ·exact w3
      ·rfl
      ·rfl
set_option maxHeartbeats 1000000 in
theorem outer54 (F : Ff E) (G : Fa E) {h h3 : H} {lv : V} {ws : List WV} (hv : VsIn h lv ws) {b3 bx b2 : Nat} {ρ : Nat → V} (w1 : ρ 1 = pP bx) (w3 : ρ 3 = pP b3)
  (gx : cC h3 bx [lv] 22) (g2 : cC h3 b2 [lv] 22) (ob : Ob h.size h3 b3 []) (kk : Kp h h3) (hlen : (F4 ws).length ≤ 1099511627775) :
  Sp P E (.func 71 [] [pP b2]) [.yield h3.size] (h3.psh (.loop .ready none (toL 70 ρ) [8,9] a54_2 b54_5)) fun _ h2 => h2.get h3.size = some (.loop .ready none (toL 70 ρ) [8,9] a54_2 b54_5) ∧ Ob h.size h2 b3 (F4 ws) ∧ Kp h h2 := by
 have kL : Kp h3 (h3.psh (.loop .ready none (toL 70 ρ) [8,9] a54_2 b54_5)) := Keeps.psh (Nat.le_refl _) _
 have glL := psh_same h3 (.loop .ready none (toL 70 ρ) [8,9] a54_2 b54_5)
 have hbs : b3 < h3.size := by obtain ⟨ov,g,_⟩ := ob.ex; exact H.get_lt g
 have hlb : h3.size ≠ b3 := by omega
 have nx : bx ≠ b3 := ob.ne gx (by intro ov e; simp at e)
 have n2 : b2 ≠ b3 := ob.ne g2 (by intro ov e; simp at e)
 refine Sp.mono (pairs71 F (bx := b2) (lv := lv) hv.len (Inv := fun r h' => KB b3 (h3.psh (.loop .ready none (toL 70 ρ) [8,9] a54_2 b54_5)) h' ∧ Kp h h' ∧ ∃ fs,Ob h.size h' b3 fs ∧ fs ++ r.flatMap (f4 ws) = F4 ws) ?_ ?_ ?_) ?_
 ·rintro r h1 ⟨kb,k1,_⟩
  exact ⟨⟨22,kb.get _ _ (kL.of g2) n2 (by intro vs e; simp at e)⟩,(hv.keep k1).sl⟩
 ·rintro a b r h1 ha hb _ _ ⟨kb,k1,fs,o1,e1⟩
  rw [List.flatMap_cons,← List.append_assoc] at e1
  have hgl : (fs ++ f4 ws (a,b)).length ≤ 1099511627775 := by
   have := congrArg List.length e1
   rw [List.length_append] at this
   omega
  refine Sp.mono (pair54 F G hv ha hb w1 w3 glL (kL.of gx) hlb nx kk.size kb o1 k1 hgl) ?_
  rintro v h2 ⟨rfl,kb2,o2,k2⟩
  exact ⟨rfl,kb2,k2,_,o2,e1⟩
 ·exact ⟨KB.refl _ _,Kp.trans kk kL,[],ob.kb kL,rfl⟩
 ·rintro _ h2 ⟨kb,k1,gs,o1,e1⟩
  simp only [List.flatMap_nil,List.append_nil] at e1
  subst e1
  exact ⟨kb.get _ _ glL hlb (by intro vs e; cases e),o1,k1⟩
set_option maxHeartbeats 1000000 in
theorem unlike54 (F : Ff E) (G : Fa E) {h : H} {lv : V} {ws : List WV} (hv : VsIn h lv ws) (hlen : (F4 ws).length ≤ 1099511627775) : Sp P E (.func 54 [] []) [lv] h fun v h' => Acc h' h.size 30 4 v ((F4 ws).map Flaw.cells) ∧ Kp h h' := by
 have hv0 := hv
 obtain ⟨sa,sc,so,hlv⟩ := hv.sl.len
 rw [List.length_map] at hlv
 rw [hlv] at hv
 have k1 : Kp h (h.psh (.cells [lv] 22 false false none)) := Keeps.psh (Nat.le_refl _) _
 have g1 := psh_same h (.cells [lv] 22 false false none)
 have s1 := psh_size h (.cells [lv] 22 false false none)
 refine Sp_fn F.f54 F.p54 (by simp [fn54]) ?_
 rw [hlv] at g1 k1 s1 ⊢
 simp only [GR,evK,binV,intOp,strOp,shOp,unV,Nat.reduceLT,Nat.reduceEqDiff,Nat.reduceAdd,↓reduceIte,Nat.reduceLeDiff,reduceCtorEq,fn54,c54,r54_0]
 generalize h.psh (.cells [.slice sa ws.length sc so] 22 false false none) = h1 at *
 have k2 : Kp h1 (h1.psh (.cells [sN] 24 false false none)) := Keeps.psh (Nat.le_refl _) _
 have g2 := psh_same h1 (.cells [sN] 24 false false none)
 have s2 := psh_size h1 (.cells [sN] 24 false false none)
 have g12 := k2.of g1
 generalize h1.psh (.cells [sN] 24 false false none) = h2 at *
 simp only [GR,evK,binV,intOp,strOp,shOp,unV,Nat.reduceLT,Nat.reduceEqDiff,Nat.reduceAdd,↓reduceIte,Nat.reduceLeDiff,reduceCtorEq,r54_1,g12]
 refine XC_of (pairs64 (P := P) F sa ws.length sc so h2) ?_
 rintro _ hx ⟨rfl,e2⟩
 rw [e2]
 clear e2 hx
 have k3 : Kp h2 (h2.psh (.cells [.slice sa ws.length sc so] 22 false false none)) := Keeps.psh (Nat.le_refl _) _
 have g3 := psh_same h2 (.cells [.slice sa ws.length sc so] 22 false false none)
 generalize h2.psh (.cells [.slice sa ws.length sc so] 22 false false none) = h3 at *
 simp only [GR,evK,binV,intOp,strOp,shOp,unV,Nat.reduceLT,Nat.reduceEqDiff,Nat.reduceAdd,↓reduceIte,Nat.reduceLeDiff,reduceCtorEq]
 have ob3 : Ob h.size h3 h1.size [] := ⟨⟨_,k3.of g2,Acc.nil _ _ _ _⟩,by omega⟩
 refine X_range (by rw [ev_t (by decide)]; rfl) rfl ?_
 refine Sp.mono (outer54 F G hv (b3 := h1.size) (bx := h.size) ?_ ?_ (k3.of g12) g3 ob3 (Kp.trans k1 (Kp.trans k2 k3)) hlen) ?_
 ·rfl
 ·rfl
 rintro _ h4 ⟨gl,ob4,kk4⟩
 refine ⟨_,_,_,_,_,_,gl,by decide,fun oe hoe => ?_⟩
 simp only
 have ob5 := ob4.set gl (by intro _ _ _ _ _ e; cases e) oe
 have kk5 : Kp h (h4.set h3.size oe) := Keeps.trans kk4 (Keeps.set (H.get_lt gl) (by have := (Kp.trans k1 (Kp.trans k2 k3)).size; omega) oe)
 generalize h4.set h3.size oe = h5 at *
 obtain ⟨ov,go,acc⟩ := ob5.ex
 simp only [GR,evK,binV,intOp,strOp,shOp,unV,Nat.reduceLT,Nat.reduceEqDiff,Nat.reduceAdd,↓reduceIte,Nat.reduceLeDiff,reduceCtorEq,r54_6,go]
 exact ⟨acc,kk5⟩
end Go.AM.Sc
