/- My own texts, laid for this claim. -/
import Derived.Test.YtelbgimbkfjabaaND2ToTf6
set_option linter.unusedSimpArgs false
set_option linter.unusedVariables false
namespace Go.AM.Sc
open Go.AM
variable {P : Program} {E : Env}
abbrev bareH (h : H) : H := ((h.psh (mo [])).psh (mo [])).psh (.cells [iI 0,.str [],.map (some h.size),.map (some (h.size + 1))] 141 false false none)
theorem bareH_size (h : H) : (bareH h).size = h.size + 3 := rfl
theorem bareH_kp (h : H) : Kp h (bareH h) := ((Keeps.psh (Nat.le_refl _) _).trans (Keeps.psh (by rw [psh_size]; omega) _)).trans (Keeps.psh (by rw [psh_size,psh_size]; omega) _)
theorem bareH_0 (h : H) : (bareH h).get h.size = some (mo []) := psh_old (psh_old (psh_same _ _) _) _
theorem bareH_1 (h : H) : (bareH h).get (h.size + 1) = some (mo []) := psh_old (psh_same (h.psh (mo [])) _) _
theorem bareH_2 (h : H) : cC (bareH h) (h.size + 2) [iI 0,.str [],.map (some h.size),.map (some (h.size + 1))] 141 := psh_same ((h.psh (mo [])).psh (mo [])) _
theorem TrG.add {lo : Nat} {h : H} {mp : Nat} {N : List Nd} {ks : Nd → List Int} (a : TrG lo h mp N ks) (hlo : lo ≤ h.size) {id : Int} (hid : id ∉ N.map Nd.id) (hks : ∀ r,ks r = []) :
  TrG lo ((bareH h).set mp (mo ((N ++ [Nd.mk id 0 [] (h.size + 2) h.size (h.size + 1)]).map Nd.ent))) mp (N ++ [Nd.mk id 0 [] (h.size + 2) h.size (h.size + 1)]) ks := by
 have hmp := H.get_lt a.nodes
 have hmb : mp < (bareH h).size := by rw [bareH_size]; omega
 have old : ∀ {i o},(bareH h).get i = some o → mp ≠ i → ((bareH h).set mp (mo ((N ++ [Nd.mk id 0 [] (h.size + 2) h.size (h.size + 1)]).map Nd.ent))).get i = some o := fun {i o} hg hn => by
  rw [hset_other hmb hn]; exact hg
 exact a.new hlo hid hks (fun i o hi hg => old ((bareH_kp h).of hg) (Ne.symm hi)) (hset_same hmb _) (old (bareH_0 h) (by omega)) (old (bareH_1 h) (by omega)) (old (bareH_2 h) (by omega))
set_option maxHeartbeats 1000000 in
theorem new73 (F : Ft E) (h : H) : Sp P E (.func 73 [] []) [] h fun v h' => ∃ t mp N,v = pP t ∧ TrG h.size h' mp N (fun _ => []) ∧ Rt h' t mp ∧ N.map Nd.np = [(1,0),(2,0)] ∧ (∀ r ∈ N,r.name = []) ∧ Kp h h' := by
 refine Sp_fn F.f73 F.p73 (by simp [fn73]) ?_
 simp only [GR,evK,binV,intOp,strOp,shOp,unV,Nat.reduceLT,Nat.reduceEqDiff,Nat.reduceAdd,↓reduceIte,Nat.reduceLeDiff,reduceCtorEq,fn73,c73,r73_0]
 have k1 : Kp h (h.psh (.map [] 0)) := Keeps.psh (Nat.le_refl _) _
 have t1 : TrG h.size (h.psh (.map [] 0)) h.size [] (fun _ => []) := ⟨psh_same _ _,List.nodup_nil,by simp,by simp,by simp,by simp,by simp,Nat.le_refl _,by simp⟩
 have s1 : (h.psh (.map [] 0)).size = h.size + 1 := psh_size _ _
 generalize h.psh (.map [] 0) = h1 at *
 refine XC_of (bare76 F h1) ?_
 rintro _ _ ⟨rfl,rfl⟩
 have g1 : (bareH h1).get h.size = some (.map [] 0) := (bareH_kp h1).of t1.nodes
 have t2 := t1.add (id := 1) (by omega) (by simp) (fun _ => rfl)
 have k2 : Keeps h.size h ((bareH h1).set h.size (mo (([] ++ [Nd.mk 1 0 [] (h1.size + 2) h1.size (h1.size + 1)]).map Nd.ent))) :=
  Keeps.trans (n := h.size) (Keeps.trans (n := h.size) k1 ((bareH_kp h1).mono (by omega))) (Keeps.set (h := bareH h1) (i := h.size) (by rw [bareH_size]; omega) (Nat.le_refl _) _)
 simp only [List.nil_append,List.map_cons,List.map_nil,Nd.ent,mo,mos,List.length_cons,List.length_nil,Nat.zero_add] at t2 k2
 simp only [GR,evK,binV,intOp,strOp,shOp,unV,Nat.reduceLT,Nat.reduceEqDiff,Nat.reduceAdd,↓reduceIte,Nat.reduceLeDiff,reduceCtorEq,g1,findK]
 have s2 : ((bareH h1).set h.size (.map [(iI 1,.ptr (some (h1.size + 2,0)),0)] 1)).size = h1.size + 3 := rfl
 generalize (bareH h1).set h.size (.map [(iI 1,.ptr (some (h1.size + 2,0)),0)] 1) = h2 at *
 refine XC_of (bare76 F h2) ?_
 rintro _ _ ⟨rfl,rfl⟩
 have g2 : (bareH h2).get h.size = some (.map [(iI 1,.ptr (some (h1.size + 2,0)),0)] 1) := (bareH_kp h2).of t2.nodes
 have t3 := t2.add (id := 2) (by omega) (by simp) (fun _ => rfl)
 have k3 : Keeps h.size h ((bareH h2).set h.size (mo (([Nd.mk 1 0 [] (h1.size + 2) h1.size (h1.size + 1)] ++ [Nd.mk 2 0 [] (h2.size + 2) h2.size (h2.size + 1)]).map Nd.ent))) :=
  Keeps.trans (n := h.size) (Keeps.trans (n := h.size) k2 ((bareH_kp h2).mono (by omega))) (Keeps.set (h := bareH h2) (i := h.size) (by rw [bareH_size]; omega) (Nat.le_refl _) _)
 simp only [List.cons_append,List.nil_append,List.map_cons,List.map_nil,Nd.ent,mo,mos,List.length_cons,List.length_nil,Nat.zero_add,Nat.reduceAdd] at t3 k3
 have hne : ((2 : Int) == 1) = false := rfl
 simp only [GR,evK,binV,intOp,strOp,shOp,unV,Nat.reduceLT,Nat.reduceEqDiff,Nat.reduceAdd,↓reduceIte,Nat.reduceLeDiff,reduceCtorEq,g2,findK,sameK,hne]
 generalize (bareH h2).set h.size (.map [(iI 1,.ptr (some (h1.size + 2,0)),0),(iI 2,.ptr (some (h2.size + 2,0)),1)] 2) = h3 at *
 have k45 : ∀ a b : Obj,Kp h3 ((h3.psh a).psh b) := fun a b => (Keeps.psh (Nat.le_refl _) a).trans (Keeps.psh (by rw [psh_size]; omega) b)
 refine ⟨_,_,_,rfl,t3.kp (k45 _ _),⟨_,_,_,_,_,psh_same _ _⟩,rfl,by simp,k3.trans' (by omega) (k45 _ _)⟩
theorem put_fresh (h : H) {vs ws : List V} {ty : Nat} (hl : ws.length = vs.length) (h1 : ws.all V.one = true) (hne : ws.isEmpty = false) :
  ∃ h',putCells (h.psh (.cells vs ty false false none)) h.size 0 ws = some h' ∧ cC h' h.size ws ty ∧ Kp h h' ∧ h'.size = h.size + 1 := by
 have hg := psh_same h (.cells vs ty false false none)
 have hset : setR vs 0 ws = ws := by simp [setR,hl]
 refine ⟨(h.psh (.cells vs ty false false none)).set h.size (.cells ws ty false false none),?_,hset_same (H.get_lt hg) _,Keeps.trans (n := h.size) (Keeps.psh (Nat.le_refl _) _) (Keeps.set (H.get_lt hg) (Nat.le_refl _) _),rfl⟩
 unfold putCells
 simp only [hne,Bool.false_eq_true,if_false,hg,Nat.zero_add,hl,Nat.le_refl,h1,fzFree,and_self,if_true,hset]
def leqB (a b : List UInt8) : Bool := Op.bytesLess a b || a == b
def attrsB : List UInt8 → List Attr → Bool
 | _,[] => true
 | key,a :: r => !(leqB a.key key) && !(a.value == []) && pairB a.key a.value && attrsB a.key r
theorem attrsB_at {as : List Attr} {j : Nat} {key : List UInt8} (hj : j < as.length) : attrsB key (as.drop j) = (!(leqB as[j].key key) && !(as[j].value == []) && pairB as[j].key as[j].value && attrsB as[j].key (as.drop (j + 1))) := by
 rw [List.drop_eq_getElem_cons hj]; rfl
set_option maxHeartbeats 1000000 in
theorem loop19 (F : Ft E) {hb : H} {t mp : Nat} {N : List Nd} {r : Nd} (hr : r ∈ N) {av : V} {as : List Attr} (hs : Sl hb 2 av (as.map Attr.cells)) (hl : as.length ≤ 1048576) {u4 u5 u16 u17 u18 : V} {K : List Fr} {Q : Po}
  (contN : ∀ (ρ' : Nat → V) (h' : H),attrsB [] as = true → ρ' 4 = u4 → ρ' 5 = u5 → ρ' 16 = u16 → ρ' 17 = u17 → ρ' 18 = u18 → TrG hb.size h' mp N (fun _ => []) → Rt h' t mp → Kp hb h' → X P E none 148 K ρ' h' Q)
  (contB : ∀ (ρ' : Nat → V) (h' : H),attrsB [] as = false → ρ' 2 = .ptr none → ρ' 3 = iI 121 → Kp hb h' → Q .ret (toL 148 ρ') h') :
  ∀ (d j : Nat) (key : List UInt8) (ρ : Nat → V) (h : H),as.length - j = d → j ≤ as.length → attrsB [] as = attrsB key (as.drop j) → ρ 4 = u4 → ρ 5 = u5 → ρ 16 = u16 → ρ 17 = u17 → ρ 18 = u18 → ρ 8 = .ptr (some (r.b,0)) → ρ 9 = .str key → ρ 80 = av → ρ 81 = iI as.length → ρ 82 = iI j → TrG hb.size h mp N (fun _ => []) → Rt h t mp → Kp hb h →
   XL P E none 148 b67_19 (.b 2 :: K) ρ h Q := by
 intro d
 induction d with
 | zero =>
  intro j key ρ h hd hj hat q4 q5 q16 q17 q18 q8 q9 q80 q81 q82 tr rt kk
  have hje : ¬ j < as.length := by omega
  rw [List.drop_eq_nil_of_le (by omega)] at hat
  rw [u67_19]
  simp only [GR,evK,binV,intOp,strOp,unV,Nat.reduceLT,Nat.reduceEqDiff,↓reduceIte,q81,q82,Int.ofNat_lt,hje]
  exact contN _ h hat q4 q5 q16 q17 q18 tr rt kk
 | succ d ih =>
  intro j key ρ h hd hj hat q4 q5 q16 q17 q18 q8 q9 q80 q81 q82 tr rt kk
  have hje : j < as.length := by omega
  obtain ⟨b,o,cap,opn,cs,ty,op,ro,fz,v1,hg,hll,he⟩ := (hs.keep kk).get (k := j) (x := as[j].cells) (by simp [hje])
  have q80' : ρ 80 = V.slice (some (b,o)) as.length cap opn := by rw [q80,v1,List.length_map]
  have fl : ∀ z : Attr,z.cells.length = 2 := fun _ => rfl
  obtain ⟨h3,e3,g3,k3,z3⟩ := put_fresh h (vs := [.str [],.str []]) (ws := as[j].cells) (ty := 115) rfl rfl rfl
  unfold getR at he
  have hw : IntKind.i64.wrap ((j : Int) + 1) = ((j + 1 : Nat) : Int) := wrap_nat (n := j + 1) (by omega)
  rw [attrsB_at hje] at hat
  have hc : as[j].cells = [.str as[j].key,.str as[j].value] := rfl
  rw [hc] at e3 g3 he
  generalize as[j].key = ak at *
  generalize as[j].value = av1 at *
  have kk3 := Kp.trans kk k3
  have tr3 := tr.kp k3
  have rt3 := rt.mc (MCk.kp k3)
  have hj' : ∀ n : Nat,((j : Int) < (n : Int)) = (j < n) := fun n => by apply propext; omega
  rw [u67_19]
  cases e1 : Op.bytesLess ak key || ak == key with
  | true =>
   have hbad : attrsB [] as = false := by rw [hat]; simp [leqB,e1]
   simp only [GR,evK,binV,intOp,strOp,unV,Nat.reduceLT,Nat.reduceEqDiff,↓reduceIte,q81,q82,Int.ofNat_lt,hje,r67_13,q80',Int.natCast_nonneg,Int.toNat_natCast,hg,hll,he,e3,r67_14,g3,q9,e1,r67_15]
   exact contB _ _ hbad rfl rfl kk3
  | false =>
   cases e2 : av1 == [] with
   | true =>
    have hbad : attrsB [] as = false := by rw [hat]; simp [leqB,e1,e2]
    simp only [GR,evK,binV,intOp,strOp,unV,Nat.reduceLT,Nat.reduceEqDiff,↓reduceIte,q81,q82,Int.ofNat_lt,hje,r67_13,q80',Int.natCast_nonneg,Int.toNat_natCast,hg,hll,he,e3,r67_14,g3,q9,e1,e2,r67_15]
    exact contB _ _ hbad rfl rfl kk3
   | false =>
    simp only [GR,evK,binV,intOp,strOp,unV,Nat.reduceLT,Nat.reduceEqDiff,↓reduceIte,q81,q82,Int.ofNat_lt,hje,r67_13,q80',Int.natCast_nonneg,Int.toNat_natCast,hg,hll,he,e3,r67_14,g3,q9,e1,e2]
    refine XC_of (pair77 F ak av1 h3) ?_
    rintro _ _ ⟨rfl,rfl⟩
    cases e5 : pairB ak av1 with
    | false =>
     have hbad : attrsB [] as = false := by rw [hat]; simp [e5]
     simp only [GR,evK,binV,intOp,strOp,unV,Nat.reduceLT,Nat.reduceEqDiff,↓reduceIte,r67_15]
     exact contB _ _ hbad rfl rfl kk3
    | true =>
     have hnd := tr3.at_ r hr
     have gc := hnd.cell
     obtain ⟨es,cl,ga,hes⟩ := hnd.attr
     obtain ⟨fr,hfr⟩ := findK_str (k := ak) (i := 0) hes
     have hlow := tr3.low.2 r hr
     simp only [GR,evK,binV,intOp,strOp,unV,Nat.reduceLT,Nat.reduceEqDiff,↓reduceIte,r67_16,g3]
     rw [X_draw]
     refine d67_17 ?_
     cases fr with
     | none =>
      simp only [GR,evK,binV,intOp,strOp,unV,Nat.reduceLT,Nat.reduceEqDiff,↓reduceIte,r67_17,q8,gc,g3,ga,hfr,r67_18,q82,hw]
      refine ih (j + 1) ak _ _ (by omega) (by omega) (by rw [hat]; simp [leqB,e1,e2,e5]) q4 q5 q16 q17 q18 q8 rfl q80 q81 rfl (tr3.setA hr ?_) (rt3.mc (MCk.set ga)) (Keeps.trans kk3 (Keeps.set (H.get_lt ga) hlow.2.1 _))
      intro e he
      rcases List.mem_append.1 he with he | he
      ·exact hes e he
      ·rw [List.mem_singleton.1 he]; exact ⟨_,rfl⟩
     | some p =>
      obtain ⟨i,u⟩ := p
      simp only [GR,evK,binV,intOp,strOp,unV,Nat.reduceLT,Nat.reduceEqDiff,↓reduceIte,r67_17,q8,gc,g3,ga,hfr,r67_18,q82,hw]
      refine ih (j + 1) ak _ _ (by omega) (by omega) (by rw [hat]; simp [leqB,e1,e2,e5]) q4 q5 q16 q17 q18 q8 rfl q80 q81 rfl (tr3.setA hr ?_) (rt3.mc (MCk.set ga)) (Keeps.trans kk3 (Keeps.set (H.get_lt ga) hlow.2.1 _))
      intro e he
      obtain ⟨n,hn⟩ := List.getElem?_of_mem he
      rw [List.getElem?_modify] at hn
      by_cases hin : i = n
      ·subst hin
       cases hx : es[i]? with
       | none => simp [hx] at hn
       | some x => simp [hx] at hn; subst hn; exact ⟨_,rfl⟩
      ·simp [hin] at hn
       exact hes e (List.mem_of_getElem? hn)
def headB (last : Int) (d : DNode) : Bool := decide (last < d.node) && (if topI d.node then (d.parent == 0 && d.name == []) else nameB d.name)
def nodesB : Int → List DNode → Bool
 | _,[] => true
 | last,d :: r => headB last d && attrsB [] d.attrs && nodesB d.node r
theorem nodesB_at {ds : List DNode} {k : Nat} {last : Int} (hk : k < ds.length) : nodesB last (ds.drop k) = (headB last ds[k] && attrsB [] ds[k].attrs && nodesB ds[k].node (ds.drop (k + 1))) := by
 rw [List.drop_eq_getElem_cons hk]; rfl
def treeNP (ds : List DNode) : List NP := [(1,0),(2,0)] ++ (ds.filter fun d => !topI d.node).map fun d => (d.node,d.parent)
theorem treeNP_take {ds : List DNode} {k : Nat} (hk : k < ds.length) : treeNP (ds.take (k + 1)) = if topI ds[k].node then treeNP (ds.take k) else treeNP (ds.take k) ++ [(ds[k].node,ds[k].parent)] := by
 unfold treeNP
 rw [List.take_succ_eq_append_getElem hk,List.filter_append,List.map_append]
 cases h : topI ds[k].node <;> simp [h]
structure Laid (N : List Nd) (ds : List DNode) (last : Int) : Prop where
 np : N.map Nd.np = treeNP ds
 tn : ∀ r ∈ N,topI r.id = true → r.par = 0 ∧ r.name = []
 le : ∀ r ∈ N,topI r.id = false → r.id ≤ last
theorem Laid.tops {N : List Nd} {ds : List DNode} {last : Int} (a : Laid N ds last) {n : Int} (hn : topI n = true) : n ∈ N.map Nd.id := by
 rw [← np_id,a.np]
 simp only [topI,Bool.or_eq_true,beq_iff_eq] at hn
 rcases hn with rfl | rfl <;> simp [treeNP]
set_option maxHeartbeats 4000000 in
theorem loop21 (F : Ft E) {hb : H} {t mp : Nat} {lv : V} {ns : List (TNode × DNode)} (hs : Sl hb 4 lv (ns.map fun p => p.1.cells)) (hin : ∀ p ∈ ns,NIn hb p.1 p.2) (hl : ns.length ≤ 1048576) {K : List Fr} {Q : Po}
  (contN : ∀ (ρ' : Nat → V) (h' : H) (N : List Nd) (last : Int),nodesB 0 (ns.map (·.2)) = true → ρ' 4 = .ptr (some (t,0)) → TrG hb.size h' mp N (fun _ => []) → Rt h' t mp → Laid N (ns.map (·.2)) last → Kp hb h' → X P E none 148 K ρ' h' Q)
  (contB : ∀ (ρ' : Nat → V) (h' : H),nodesB 0 (ns.map (·.2)) = false → ρ' 2 = .ptr none → ρ' 3 = .int .i64 121 → Kp hb h' → Q .ret (toL 148 ρ') h') :
  ∀ (d k : Nat) (last : Int) (N : List Nd) (ρ : Nat → V) (h : H),ns.length - k = d → k ≤ ns.length → nodesB 0 (ns.map (·.2)) = nodesB last ((ns.map (·.2)).drop k) → 0 ≤ last → ρ 4 = .ptr (some (t,0)) → ρ 5 = .int .i64 last → ρ 16 = lv → ρ 17 = .int .i64 ns.length → ρ 18 = .int .i64 k → TrG hb.size h mp N (fun _ => []) → Rt h t mp → Laid N ((ns.map (·.2)).take k) last → Kp hb h →
   XL P E none 148 b67_21 (.b 0 :: K) ρ h Q := by
 intro d
 induction d with
 | zero =>
  intro k last N ρ h hd hk hnb h0 q4 q5 q16 q17 q18 tr rt la kk
  have hke : ¬ k < ns.length := by omega
  rw [List.drop_eq_nil_of_le (by simp; omega)] at hnb
  rw [List.take_of_length_le (by simp; omega)] at la
  rw [u67_21]
  simp only [GR,evK,binV,intOp,strOp,shOp,unV,Nat.reduceLT,Nat.reduceEqDiff,Nat.reduceAdd,↓reduceIte,Nat.reduceLeDiff,reduceCtorEq,q17,q18,Int.ofNat_lt,hke]
  exact contN _ h N last hnb q4 tr rt la kk
 | succ d ih =>
  intro k last N ρ h hd hk hnb h0 q4 q5 q16 q17 q18 tr rt la kk
  have hke : k < ns.length := by omega
  have hkm : k < (ns.map (·.2)).length := by simpa using hke
  obtain ⟨b,o,cap,opn,cs,ty,op,ro,fz,v1,hg,hll,he⟩ := (hs.keep kk).get (k := k) (x := ns[k].1.cells) (by simp [hke])
  have q16' : ρ 16 = V.slice (some (b,o)) ns.length cap opn := by rw [q16,v1,List.length_map]
  have nin := hin _ (List.getElem_mem hke)
  have hdk : (ns.map (·.2))[k] = ns[k].2 := by simp
  have hsa := nin.attrs
  obtain ⟨sa,sc,so,hav⟩ := hsa.len
  rw [List.length_map] at hav
  have hxc : ns[k].1.cells = [.int .i64 ns[k].2.node,.int .i64 ns[k].2.parent,.str ns[k].2.name,ns[k].1.attrs] := by
   simp only [TNode.cells,nin.node,nin.parent,nin.name]
  rw [hxc,hav] at he
  rw [hav] at hsa
  have hal := nin.len
  rw [nodesB_at hkm,hdk] at hnb
  have htk := treeNP_take hkm
  rw [hdk] at htk
  obtain ⟨h3,e3,g3,k3,z3⟩ := put_fresh h (vs := [.int .i64 0,.int .i64 0,.str [],.slice none 0 0 false]) (ws := [.int .i64 ns[k].2.node,.int .i64 ns[k].2.parent,.str ns[k].2.name,.slice sa ns[k].2.attrs.length sc so]) (ty := 67) rfl rfl rfl
  generalize ns[k].2 = dn at *
  obtain ⟨nd,pa,nm,ats⟩ := dn
  simp only at *
  unfold getR at he
  have hw : IntKind.i64.wrap ((k : Int) + 1) = ((k + 1 : Nat) : Int) := wrap_nat (n := k + 1) (by omega)
  have kk3 := Kp.trans kk k3
  have tr3 := tr.kp k3
  have rt3 := rt.mc (MCk.kp k3)
  have hl3 : hb.size ≤ h3.size := kk3.size
  -- the rest,behind the head's checks
  have rest : ∀ (ρ' : Nat → V) (h4 : H),headB last ⟨nd,pa,nm,ats⟩ = true → Kp h3 h4 → ρ' 4 = .ptr (some (t,0)) → ρ' 7 = .ptr (some (h.size,0)) → ρ' 16 = lv → ρ' 17 = .int .i64 ns.length → ρ' 18 = .int .i64 k →
    XO P E none 148 r67_6 (.c (.seq (.draw r67_7) (.seq (.seq (.region r67_8) (.cond (.t 62) (.seq (.region r67_9) (.draw r67_10)) (.skip))) (.seq (.region r67_11) (.seq (.region [⟨some 9,.mv (.k (.str [])),none,0,[9]⟩]) (.seq (.region r67_12) (.block 2 (.loop b67_19))))))) :: .b 1 :: .c (.region r67_20) :: .l b67_21 :: .b 0 :: K) ρ' h4 Q := by
   intro ρ' h4 hh k4 w4 w7 w16 w17 w18
   have kk4 := Kp.trans kk3 k4
   have tr4 := tr3.kp k4
   have rt4 := rt3.mc (MCk.kp k4)
   have g4 := k4.of g3
   have hl4 : hb.size ≤ h4.size := kk4.size
   have hh0 := hh
   simp only [headB,Bool.and_eq_true,decide_eq_true_eq] at hh
   obtain ⟨hlt,hhd⟩ := hh
   have tail : ∀ (ρ5 : Nat → V) (h5 : H) (N' : List Nd) (r : Nd),r ∈ N' → ρ5 4 = .ptr (some (t,0)) → ρ5 5 = .int .i64 nd → ρ5 7 = .ptr (some (h.size,0)) → ρ5 8 = .ptr (some (r.b,0)) → ρ5 16 = lv → ρ5 17 = .int .i64 ns.length → ρ5 18 = .int .i64 k →
     h5.get r.b = some (.cells [.int .i64 r.par,.str r.name,.map (some r.am),.map (some r.km)] 141 false false none) → (∀ h6,h6 = h5.set r.b (.cells [.int .i64 pa,.str nm,.map (some r.am),.map (some r.km)] 141 false false none) → ∃ N2 r2,r2 ∈ N2 ∧ r2.b = r.b ∧ TrG hb.size h6 mp N2 (fun _ => []) ∧ Rt h6 t mp ∧ Laid N2 ((ns.map (·.2)).take (k + 1)) nd ∧ Kp hb h6 ∧ h6.get h.size = some (.cells [.int .i64 nd,.int .i64 pa,.str nm,.slice sa ats.length sc so] 67 false false none)) →
     XO P E none 148 r67_11 (.c (.seq (.region [⟨some 9,.mv (.k (.str [])),none,0,[9]⟩]) (.seq (.region r67_12) (.block 2 (.loop b67_19)))) :: .b 1 :: .c (.region r67_20) :: .l b67_21 :: .b 0 :: K) ρ5 h5 Q := by
    intro ρ5 h5 N' r hr x4 x5 x7 x8 x16 x17 x18 gb hh6
    have g5 : h5.get h.size = some (.cells [.int .i64 nd,.int .i64 pa,.str nm,.slice sa ats.length sc so] 67 false false none) := by
     obtain ⟨N2,r2,_,_,_,_,_,_,g6⟩ := hh6 _ rfl
     by_cases hbe : r.b = h.size
     ·rw [hbe,hset_same (by rw [← hbe]; exact H.get_lt gb)] at g6; cases g6
     ·rw [hset_other (H.get_lt gb) hbe] at g6; exact g6
    have e6 : putCells h5 r.b 0 [.int .i64 pa,.str nm] = some (h5.set r.b (.cells [.int .i64 pa,.str nm,.map (some r.am),.map (some r.km)] 141 false false none)) := by
     simp [putCells,gb,fzFree,V.one,setR]
    obtain ⟨N2,r2,hr2,hbb,tr6,rt6,la6,kk6,g6⟩ := hh6 _ rfl
    generalize h5.set r.b (.cells [.int .i64 pa,.str nm,.map (some r.am),.map (some r.km)] 141 false false none) = h6 at *
    simp only [GR,evK,binV,intOp,strOp,shOp,unV,Nat.reduceLT,Nat.reduceEqDiff,Nat.reduceAdd,↓reduceIte,Nat.reduceLeDiff,reduceCtorEq,r67_11,x8,x7,g5,e6,r67_12,g6]
    refine loop19 F hr2 (u4 := .ptr (some (t,0))) (u5 := .int .i64 nd) (u16 := lv) (u17 := .int .i64 ns.length) (u18 := .int .i64 k) hsa hal ?_ ?_ _ 0 [] _ _ rfl (Nat.zero_le _) rfl x4 x5 x16 x17 x18 (by rw [hbb]; exact x8) rfl rfl rfl rfl tr6 rt6 kk6
    ·intro ρ6 h7 hat y4 y5 y16 y17 y18 tr7 rt7 kk7
     simp only [GR,evK,binV,intOp,strOp,shOp,unV,Nat.reduceLT,Nat.reduceEqDiff,Nat.reduceAdd,↓reduceIte,Nat.reduceLeDiff,reduceCtorEq,r67_20,y18,hw]
     refine ih (k + 1) nd N2 _ h7 (by omega) (by omega) ?_ (by omega) y4 y5 y16 y17 rfl tr7 rt7 la6 kk7
     rw [hnb,hat,hh0]; simp
    ·intro ρ6 h7 hat y2 y3 kk7
     exact contB ρ6 h7 (by rw [hnb,hat]; simp) y2 y3 kk7
   have hgm : h4.get mp = some (.map (mos (N.map Nd.ent) 0) (N.map Nd.ent).length) := tr4.nodes
   obtain ⟨rcs,rty,rop,rro,rfz,hroot⟩ := rt4
   cases htop : topI nd with
   | true =>
    rw [htop] at hhd
    simp only [if_true,Bool.and_eq_true,beq_iff_eq] at hhd
    obtain ⟨rfl,rfl⟩ := hhd
    obtain ⟨r,hr,hid⟩ := List.mem_map.1 (la.tops htop)
    obtain ⟨i,hi⟩ := List.getElem?_of_mem hr
    have hf := findK_at (k := 0) (j := 0) tr4.nd hi hid
    have gc := (tr4.at_ r hr).cell
    obtain ⟨hp0,hn0⟩ := la.tn r hr (by rw [hid]; exact htop)
    simp only [GR,evK,binV,intOp,strOp,shOp,unV,Nat.reduceLT,Nat.reduceEqDiff,Nat.reduceAdd,↓reduceIte,Nat.reduceLeDiff,reduceCtorEq,r67_6,w7,g4]
    rw [X_draw,d67_7]
    simp only [GR,evK,binV,intOp,strOp,shOp,unV,Nat.reduceLT,Nat.reduceEqDiff,Nat.reduceAdd,↓reduceIte,Nat.reduceLeDiff,reduceCtorEq,r67_7,w4,w7,hroot,g4,hgm,hf,r67_8,eqV,Option.isNone_some]
    refine tail _ _ N r hr ?_ ?_ ?_ ?_ ?_ ?_ ?_ gc fun h6 e6 => ?_
    ·exact w4
    ·rfl
    ·exact w7
    ·rfl
    ·exact w16
    ·exact w17
    ·exact w18
    have hsame := set_self gc
    rw [hp0,hn0] at hsame
    rw [← e6] at hsame
    refine ⟨N,r,hr,rfl,tr4.same hsame,?_,⟨?_,la.tn,fun r hr ht => by have := la.le r hr ht; omega⟩,?_,hsame _ _ g4⟩
    ·exact ⟨rcs,rty,rop,rro,rfz,hsame _ _ hroot⟩
    ·rw [htk,htop,la.np]; rfl
    ·rw [e6]; exact Keeps.trans kk4 (Keeps.set (H.get_lt gc) (tr4.low.2 r hr).1 _)
   | false =>
    rw [htop] at hhd
    simp only [Bool.false_eq_true,if_false] at hhd
    have hno : nd ∉ N.map Nd.id := by
     intro hm
     obtain ⟨r,hr,rfl⟩ := List.mem_map.1 hm
     have := la.le r hr htop
     omega
    have hf := findK_no (k := 0) (j := 0) hno
    simp only [GR,evK,binV,intOp,strOp,shOp,unV,Nat.reduceLT,Nat.reduceEqDiff,Nat.reduceAdd,↓reduceIte,Nat.reduceLeDiff,reduceCtorEq,r67_6,w7,g4]
    rw [X_draw,d67_7]
    simp only [GR,evK,binV,intOp,strOp,shOp,unV,Nat.reduceLT,Nat.reduceEqDiff,Nat.reduceAdd,↓reduceIte,Nat.reduceLeDiff,reduceCtorEq,r67_7,w4,w7,hroot,g4,hgm,hf,r67_8,eqV,Option.isNone_none,r67_9]
    refine XC_of (bare76 F h4) ?_
    rintro _ _ ⟨rfl,rfl⟩
    have hroot' := (bareH_kp h4).of hroot
    have g4' := (bareH_kp h4).of g4
    have hgm' := (bareH_kp h4).of hgm
    have tr5 := tr4.add hl4 hno (fun _ => rfl)
    have gt5 : ((bareH h4).set mp (mo ((N ++ [Nd.mk nd 0 [] (h4.size + 2) h4.size (h4.size + 1)]).map Nd.ent))).get h.size = some (.cells [.int .i64 nd,.int .i64 pa,.str nm,.slice sa ats.length sc so] 67 false false none) := MCk.set hgm' _ _ g4' (by intro _ _ e; cases e)
    have rt5 : Rt ((bareH h4).set mp (mo ((N ++ [Nd.mk nd 0 [] (h4.size + 2) h4.size (h4.size + 1)]).map Nd.ent))) t mp := Rt.mc ⟨rcs,rty,rop,rro,rfz,hroot'⟩ (MCk.set hgm')
    have kk5 : Kp hb ((bareH h4).set mp (mo ((N ++ [Nd.mk nd 0 [] (h4.size + 2) h4.size (h4.size + 1)]).map Nd.ent))) := Keeps.trans (n := hb.size) (Keeps.trans' kk4 (Nat.le_refl _) (bareH_kp h4)) (Keeps.set (h := bareH h4) (i := mp) (H.get_lt hgm') tr4.low.1 _)
    have hmo : mo ((N ++ [Nd.mk nd 0 [] (h4.size + 2) h4.size (h4.size + 1)]).map Nd.ent) = .map (mos (N.map Nd.ent) 0 ++ [(.int .i64 nd,.ptr (some (h4.size + 2,0)),(N.map Nd.ent).length)]) ((N.map Nd.ent).length + 1) := by
     simp [mo,mos_append,Nd.ent]
    simp only [GR,evK,binV,intOp,strOp,shOp,unV,Nat.reduceLT,Nat.reduceEqDiff,Nat.reduceAdd,↓reduceIte,Nat.reduceLeDiff,reduceCtorEq]
    rw [X_draw]
    refine d67_10 ?_
    simp only [GR,evK,binV,intOp,strOp,shOp,unV,Nat.reduceLT,Nat.reduceEqDiff,Nat.reduceAdd,↓reduceIte,Nat.reduceLeDiff,reduceCtorEq,r67_10,w4,w7,hroot',g4',hgm',hf,← hmo]
    have hm5 : Nd.mk nd 0 [] (h4.size + 2) h4.size (h4.size + 1) ∈ N ++ [Nd.mk nd 0 [] (h4.size + 2) h4.size (h4.size + 1)] := by simp
    have gc := (tr5.at_ _ hm5).cell
    refine tail _ _ _ _ hm5 ?_ ?_ ?_ ?_ ?_ ?_ ?_ gc fun h6 e6 => ?_
    ·exact w4
    ·rfl
    ·exact w7
    ·rfl
    ·exact w16
    ·exact w17
    ·exact w18
    have hmp4 := H.get_lt hgm
    have hh4 := H.get_lt g4
    have hmb : mp < (bareH h4).size := by rw [bareH_size]; omega
    have hb2 : h4.size + 2 < ((bareH h4).set mp (mo ((N ++ [Nd.mk nd 0 [] (h4.size + 2) h4.size (h4.size + 1)]).map Nd.ent))).size := by rw [H.set_size,bareH_size]; omega
    have hb2' : h4.size + 2 < (bareH h4).size := by rw [bareH_size]; omega
    simp only at e6
    have old : ∀ i o,i ≠ mp → (bareH h4).get i = some o → i ≠ h4.size + 2 → h6.get i = some o := fun i o hi hg hi2 => by
     rw [e6,hset_other hb2 (Ne.symm hi2),hset_other hmb (Ne.symm hi)]; exact hg
    have g6 : h6.get h.size = some (.cells [.int .i64 nd,.int .i64 pa,.str nm,.slice sa ats.length sc so] 67 false false none) := by
     rw [e6,hset_other hb2 (by omega)]; exact gt5
    refine ⟨N ++ [Nd.mk nd pa nm (h4.size + 2) h4.size (h4.size + 1)],_,List.mem_append.2 (.inr (List.mem_singleton.2 rfl)),rfl,tr4.new hl4 hno (fun _ => rfl) (fun i o hi hg => ?_) ?_ ?_ ?_ ?_,?_,⟨?_,fun r hr ht => ?_,fun r hr ht => ?_⟩,?_,g6⟩
    ·have := H.get_lt hg
     exact old i o hi ((bareH_kp h4).of hg) (by omega)
    ·rw [e6,hset_other hb2 (by omega),hset_same hmb]
     simp [Nd.ent]
    ·exact old _ _ (by omega) (bareH_0 h4) (by omega)
    ·exact old _ _ (by omega) (bareH_1 h4) (by omega)
    ·rw [e6]; exact hset_same hb2 _
    ·obtain ⟨cs',ty',op',ro',fz',g'⟩ := rt5
     have hne : h4.size + 2 ≠ t := by have := H.get_lt hroot; omega
     exact ⟨cs',ty',op',ro',fz',by rw [e6,hset_other hb2 hne]; exact g'⟩
    ·rw [htk,htop,List.map_append,la.np]; rfl
    ·rcases List.mem_append.1 hr with hr | hr
     ·exact la.tn r hr ht
     ·rw [List.mem_singleton.1 hr] at ht; simp only at ht; rw [htop] at ht; cases ht
    ·rcases List.mem_append.1 hr with hr | hr
     ·have := la.le r hr ht; omega
     ·rw [List.mem_singleton.1 hr]; exact Int.le_refl _
    ·rw [e6]; exact Keeps.trans kk5 (Keeps.set hb2 (by omega) _)
  have hgt : ∀ z : Bool,(z == z) = true := fun z => by cases z <;> rfl
  have hnt : (true == false) = false := rfl
  have hnf : (false == true) = false := rfl
  rw [u67_21]
  by_cases hle : nd ≤ last
  ·have hbad : headB last ⟨nd,pa,nm,ats⟩ = false := by
    have : ¬ last < nd := by omega
    simp [headB,this]
   simp only [GR,evK,binV,intOp,strOp,shOp,unV,Nat.reduceLT,Nat.reduceEqDiff,Nat.reduceAdd,↓reduceIte,Nat.reduceLeDiff,reduceCtorEq,q17,q18,Int.ofNat_lt,hke,r67_3,q16',Int.natCast_nonneg,Int.toNat_natCast,hg,hll,he,e3]
   rw [X_draw]
   refine d67_4 ?_
   simp only [GR,evK,binV,intOp,strOp,shOp,unV,Nat.reduceLT,Nat.reduceEqDiff,Nat.reduceAdd,↓reduceIte,Nat.reduceLeDiff,reduceCtorEq,r67_4,g3,q5,hle,r67_5]
   exact contB _ h3 (by rw [hnb,hbad]; simp) rfl rfl kk3
  ·have hlt : last < nd := by omega
   simp only [GR,evK,binV,intOp,strOp,shOp,unV,Nat.reduceLT,Nat.reduceEqDiff,Nat.reduceAdd,↓reduceIte,Nat.reduceLeDiff,reduceCtorEq,q17,q18,Int.ofNat_lt,hke,r67_3,q16',Int.natCast_nonneg,Int.toNat_natCast,hg,hll,he,e3]
   rw [X_draw]
   refine d67_4 ?_
   simp only [GR,evK,binV,intOp,strOp,shOp,unV,Nat.reduceLT,Nat.reduceEqDiff,Nat.reduceAdd,↓reduceIte,Nat.reduceLeDiff,reduceCtorEq,r67_4,g3,q5,hle]
   refine XCQ_of (top74 F nd h3) ?_
   rintro _ hx ⟨rfl,e2⟩
   rw [e2]
   clear e2 hx
   refine ⟨Keeps.refl _ _,?_⟩
   cases htop : topI nd with
   | true =>
    cases hp : pa == 0 with
    | false =>
     have hbad : headB last ⟨nd,pa,nm,ats⟩ = false := by simp [headB,htop,hp]
     simp only [GR,evK,binV,intOp,strOp,shOp,unV,Nat.reduceLT,Nat.reduceEqDiff,Nat.reduceAdd,↓reduceIte,Nat.reduceLeDiff,reduceCtorEq,g3,hp,eqV,hnt,hnf,r67_5]
     exact contB _ _ (by rw [hnb,hbad]; simp) rfl rfl kk3
    | true =>
     cases hn : nm == [] with
     | false =>
      have hbad : headB last ⟨nd,pa,nm,ats⟩ = false := by simp [headB,htop,hn]
      simp only [GR,evK,binV,intOp,strOp,shOp,unV,Nat.reduceLT,Nat.reduceEqDiff,Nat.reduceAdd,↓reduceIte,Nat.reduceLeDiff,reduceCtorEq,g3,hp,hn,eqV,hnt,hnf,r67_5]
      exact contB _ _ (by rw [hnb,hbad]; simp) rfl rfl kk3
     | true =>
      have hgood : headB last ⟨nd,pa,nm,ats⟩ = true := by simp [headB,htop,hp,hn,hlt]
      simp only [GR,evK,binV,intOp,strOp,shOp,unV,Nat.reduceLT,Nat.reduceEqDiff,Nat.reduceAdd,↓reduceIte,Nat.reduceLeDiff,reduceCtorEq,g3,hp,hn,eqV,hnt,hnf,hgt]
      refine XCQ_of (top74 F nd h3) ?_
      rintro _ hx ⟨rfl,e2⟩
      rw [e2]
      clear e2 hx
      refine ⟨Keeps.refl _ _,?_⟩
      simp only [GR,evK,binV,intOp,strOp,shOp,unV,Nat.reduceLT,Nat.reduceEqDiff,Nat.reduceAdd,↓reduceIte,Nat.reduceLeDiff,reduceCtorEq,htop]
      refine rest _ _ hgood (Keeps.refl _ _) ?_ ?_ ?_ ?_ ?_
      ·exact q4
      ·rfl
      ·exact q16
      ·exact q17
      ·exact q18
   | false =>
    cases hp : pa == 0 with
    | false =>
     simp only [GR,evK,binV,intOp,strOp,shOp,unV,Nat.reduceLT,Nat.reduceEqDiff,Nat.reduceAdd,↓reduceIte,Nat.reduceLeDiff,reduceCtorEq,g3,hp,eqV,hnt,hnf,hgt]
     refine XCQ_of (top74 F nd h3) ?_
     rintro _ hx ⟨rfl,e2⟩
     rw [e2]
     clear e2 hx
     refine ⟨Keeps.refl _ _,?_⟩
     simp only [GR,evK,binV,intOp,strOp,shOp,unV,Nat.reduceLT,Nat.reduceEqDiff,Nat.reduceAdd,↓reduceIte,Nat.reduceLeDiff,reduceCtorEq,htop,g3]
     refine XCQ_of (name75 F nm h3) ?_
     rintro _ h4 ⟨rfl,k4⟩
     refine ⟨k4,?_⟩
     cases hnm : nameB nm with
     | false =>
      have hbad : headB last ⟨nd,pa,nm,ats⟩ = false := by simp [headB,htop,hnm]
      simp only [GR,evK,binV,intOp,strOp,shOp,unV,Nat.reduceLT,Nat.reduceEqDiff,Nat.reduceAdd,↓reduceIte,Nat.reduceLeDiff,reduceCtorEq,r67_5]
      exact contB _ h4 (by rw [hnb,hbad]; simp) rfl rfl (Kp.trans kk3 k4)
     | true =>
      have hgood : headB last ⟨nd,pa,nm,ats⟩ = true := by simp [headB,htop,hnm,hlt]
      simp only [GR,evK,binV,intOp,strOp,shOp,unV,Nat.reduceLT,Nat.reduceEqDiff,Nat.reduceAdd,↓reduceIte,Nat.reduceLeDiff,reduceCtorEq]
      refine rest _ h4 hgood k4 ?_ ?_ ?_ ?_ ?_
      ·exact q4
      ·rfl
      ·exact q16
      ·exact q17
      ·exact q18
    | true =>
     cases hn : nm == [] with
     | true =>
      have hnm : nameB nm = false := by simp [nameB,hn]
      have hbad : headB last ⟨nd,pa,nm,ats⟩ = false := by simp [headB,htop,hnm]
      simp only [GR,evK,binV,intOp,strOp,shOp,unV,Nat.reduceLT,Nat.reduceEqDiff,Nat.reduceAdd,↓reduceIte,Nat.reduceLeDiff,reduceCtorEq,g3,hp,hn,eqV,hnt,hnf,hgt,r67_5]
      exact contB _ _ (by rw [hnb,hbad]; simp) rfl rfl kk3
     | false =>
      simp only [GR,evK,binV,intOp,strOp,shOp,unV,Nat.reduceLT,Nat.reduceEqDiff,Nat.reduceAdd,↓reduceIte,Nat.reduceLeDiff,reduceCtorEq,g3,hp,hn,eqV,hnt,hnf,hgt]
      refine XCQ_of (top74 F nd h3) ?_
      rintro _ hx ⟨rfl,e2⟩
      rw [e2]
      clear e2 hx
      refine ⟨Keeps.refl _ _,?_⟩
      simp only [GR,evK,binV,intOp,strOp,shOp,unV,Nat.reduceLT,Nat.reduceEqDiff,Nat.reduceAdd,↓reduceIte,Nat.reduceLeDiff,reduceCtorEq,htop,g3]
      refine XCQ_of (name75 F nm h3) ?_
      rintro _ h4 ⟨rfl,k4⟩
      refine ⟨k4,?_⟩
      cases hnm : nameB nm with
      | false =>
       have hbad : headB last ⟨nd,pa,nm,ats⟩ = false := by simp [headB,htop,hnm]
       simp only [GR,evK,binV,intOp,strOp,shOp,unV,Nat.reduceLT,Nat.reduceEqDiff,Nat.reduceAdd,↓reduceIte,Nat.reduceLeDiff,reduceCtorEq,r67_5]
       exact contB _ h4 (by rw [hnb,hbad]; simp) rfl rfl (Kp.trans kk3 k4)
      | true =>
       have hgood : headB last ⟨nd,pa,nm,ats⟩ = true := by simp [headB,htop,hnm,hlt]
       simp only [GR,evK,binV,intOp,strOp,shOp,unV,Nat.reduceLT,Nat.reduceEqDiff,Nat.reduceAdd,↓reduceIte,Nat.reduceLeDiff,reduceCtorEq]
       refine rest _ h4 hgood k4 ?_ ?_ ?_ ?_ ?_
       ·exact q4
       ·rfl
       ·exact q16
       ·exact q17
       ·exact q18
def picked (N : List Nd) (S : List Nat) : List Nd := S.filterMap fun i => N[i]?
def ksOf (N : List Nd) (S : List Nat) (r : Nd) : List Int := ((picked N S).filter fun c => !topI c.id && c.par == r.id).map Nd.id
theorem picked_app {N : List Nd} {S : List Nat} {i : Nat} {r : Nd} (h : N[i]? = some r) : picked N (S ++ [i]) = picked N S ++ [r] := by
 simp [picked,List.filterMap_append,h]
theorem ksOf_app {N : List Nd} {S : List Nat} {i : Nat} {r : Nd} (h : N[i]? = some r) (x : Nd) : ksOf N (S ++ [i]) x = if !topI r.id && r.par == x.id then ksOf N S x ++ [r.id] else ksOf N S x := by
 unfold ksOf
 rw [picked_app h,List.filter_append]
 cases hb : !topI r.id && r.par == x.id <;> simp [hb]
theorem picked_mem {N : List Nd} {S : List Nat} {r : Nd} : r ∈ picked N S ↔ ∃ i ∈ S,N[i]? = some r := by
 simp [picked,List.mem_filterMap]
theorem ids_inj {N : List Nd} (nd : (N.map Nd.id).Nodup) {i j : Nat} {r s : Nd} (hi : N[i]? = some r) (hj : N[j]? = some s) (e : r.id = s.id) : i = j := by
 have hi' := List.getElem?_eq_some_iff.1 hi
 have hj' := List.getElem?_eq_some_iff.1 hj
 obtain ⟨li,ei⟩ := hi'
 obtain ⟨lj,ej⟩ := hj'
 exact (List.getElem?_inj (l := N.map Nd.id) (by simpa using li) nd).1 (by simp [hi,hj,e])
theorem picked_nd {N : List Nd} (nd : (N.map Nd.id).Nodup) : ∀ {S : List Nat},S.Nodup → ((picked N S).map Nd.id).Nodup
 | [],_ => by simp [picked]
 | i :: S,hS => by
  simp only [List.nodup_cons] at hS
  have ih := picked_nd nd hS.2
  cases h : N[i]? with
  | none => simpa [picked,h] using ih
  | some r =>
   have : picked N (i :: S) = r :: picked N S := by simp [picked,h]
   rw [this,List.map_cons,List.nodup_cons]
   refine ⟨?_,ih⟩
   intro hm
   obtain ⟨s,hs,he⟩ := List.mem_map.1 hm
   obtain ⟨j,hj,hsj⟩ := picked_mem.1 hs
   exact hS.1 (by rw [ids_inj nd h hsj he.symm]; exact hj)
theorem ksOf_spec {N : List Nd} (nd : (N.map Nd.id).Nodup) {S : List Nat} (hS : S.Nodup) (hall : ∀ i,i < N.length → i ∈ S) : KSpec N (ksOf N S) where
 nd := fun r _ => (List.filter_sublist.map Nd.id).nodup (picked_nd nd hS)
 mem := fun r hr c => by
  unfold ksOf
  simp only [List.mem_map,List.mem_filter,picked_mem,Bool.and_eq_true,Bool.not_eq_true',beq_iff_eq]
  constructor
  ·rintro ⟨x,⟨⟨i,hi,hx⟩,ht,hp⟩,rfl⟩
   exact ⟨x.np,⟨x,List.mem_of_getElem? hx,rfl⟩,rfl,ht,hp⟩
  ·rintro ⟨_,⟨x,hx,rfl⟩,rfl,ht,hp⟩
   obtain ⟨i,hi⟩ := List.getElem?_of_mem hx
   exact ⟨x,⟨⟨i,hall i (List.getElem?_eq_some_iff.1 hi).1,hi⟩,ht,hp⟩,rfl⟩
theorem ksOf_new {N : List Nd} (nd : (N.map Nd.id).Nodup) {S : List Nat} {i : Nat} {r : Nd} (h : N[i]? = some r) (hi : i ∉ S) (x : Nd) : r.id ∉ ksOf N S x := by
 unfold ksOf
 intro hm
 obtain ⟨s,hs,he⟩ := List.mem_map.1 hm
 obtain ⟨j,hj,hsj⟩ := picked_mem.1 (List.mem_filter.1 hs).1
 exact hi (by rw [ids_inj nd h hsj he.symm]; exact hj)
theorem TrG.it {lo : Nat} {h h' : H} {mp : Nat} {N : List Nd} {ks : Nd → List Int} (a : TrG lo h mp N ks) (hs : ∀ i o,h.get i = some o → (∀ m s e l,o ≠ .mapIter m s e l) → h'.get i = some o) : TrG lo h' mp N ks := by
 refine { a with nodes := hs _ _ a.nodes (by intro _ _ _ _ e; cases e),at_ := fun r hr => ?_ }
 obtain ⟨es,cl,h2,h3⟩ := (a.at_ r hr).attr
 exact ⟨hs _ _ (a.at_ r hr).cell (by intro _ _ _ _ e; cases e),⟨es,cl,hs _ _ h2 (by intro _ _ _ _ e; cases e),h3⟩,hs _ _ (a.at_ r hr).kids (by intro _ _ _ _ e; cases e)⟩
theorem TrG.setK {lo : Nat} {h : H} {mp : Nat} {N : List Nd} {ks ks' : Nd → List Int} (a : TrG lo h mp N ks) {r : Nd} (hr : r ∈ N) (ho : ∀ r' ∈ N,r' ≠ r → ks' r' = ks r') : TrG lo (h.set r.km (mo ((ks' r).map kidE))) mp N ks' := by
 have g0 := (a.at_ r hr).kids
 have hlt := H.get_lt g0
 have hs : ∀ {i o},h.get i = some o → r.km ≠ i → (h.set r.km (mo ((ks' r).map kidE))).get i = some o := fun {i o} hg hne => by rw [hset_other hlt hne]; exact hg
 have hc : ∀ {i vs ty op ro fz},h.get i = some (.cells vs ty op ro fz) → r.km ≠ i := by
  rintro i vs ty op ro fz hg rfl; rw [g0] at hg; cases hg
 refine { a with nodes := hs a.nodes (a.kmmp r hr),at_ := fun r' hr' => ?_ }
 obtain ⟨es1,cl1,g1,q1⟩ := (a.at_ r' hr').attr
 refine ⟨hs (a.at_ r' hr').cell (hc (a.at_ r' hr').cell),⟨es1,cl1,hs g1 (Ne.symm (a.amkm r' hr' r hr)),q1⟩,?_⟩
 by_cases he : r' = r
 ·rw [he]; exact hset_same hlt _
 ·rw [ho r' hr' he]
  exact hs (a.at_ r' hr').kids fun e => he (a.kmk r hr r' hr' e).symm
theorem findK_kid {n : Int} : ∀ {l : List Int} {k j : Nat},n ∉ l → findK .int (iI n) (mos (l.map kidE) k) j = some none
 | [],_,_,_ => rfl
 | r :: N,k,j,h => by
  simp only [List.mem_cons,not_or] at h
  have : (n == r) = false := by simpa using h.1
  simp only [List.map_cons,mos,kidE,findK,sameK,if_true,this]
  exact findK_kid h.2
theorem not_rch {N : List Nd} (nd : (N.map Nd.id).Nodup) (g : Grf (N.map Nd.np)) {r : Nd} (hr : r ∈ N) (ht : topI r.id = false) (hp : r.par ∉ N.map Nd.id) : ¬ ∀ x ∈ N.map Nd.np,Rch (N.map Nd.np) x.1 := by
 intro hall
 have h1 : r.np ∈ N.map Nd.np := List.mem_map.2 ⟨r,hr,rfl⟩
 have h2 := hall _ h1
 generalize hx : (r.np).1 = c at h2
 cases h2 with
 | top h => rw [← hx] at h; simp only [Nd.np] at h; rw [ht] at h; cases h
 | step hm _ hrc =>
  have := g.uniq h1 hm hx
  rw [← this] at hrc
  exact hp (by have := g.rch hrc; rw [np_id] at this; exact this)
set_option maxHeartbeats 2000000 in
theorem loop30 (F : Ft E) {hb : H} {t mp it : Nat} {N : List Nd} (g : Grf (N.map Nd.np)) (hit : hb.size ≤ it) {R : Ex → St → Prop}
  (cont : ∀ (ρ' : Nat → V) (h' : H) (ks : Nd → List Int),ρ' 4 = pP t → TrG hb.size h' mp N ks → KSpec N ks → Rt h' t mp → Kp hb h' → R (.exit 4) (toL 148 ρ',h'))
  (contB : ∀ (ρ' : Nat → V) (h' : H),(¬ ∀ x ∈ N.map Nd.np,Rch (N.map Nd.np) x.1) → ρ' 2 = .ptr none → ρ' 3 = iI 121 → Kp hb h' → R .ret (toL 148 ρ',h'))
  {ρ : Nat → V} {h : H} (q4 : ρ 4 = pP t) (q119 : ρ 119 = pP it) (hi : It h mp it (N.map Nd.ent) []) (tr : TrG hb.size h mp N (ksOf N [])) (rt : Rt h t mp) (kk : Kp hb h) : NC P E none (.loop b67_30) (toL 148 ρ,h) R := by
 refine NC.maps (q := 4) (mp := mp) (it := it) (l := N.map Nd.ent) (by decide) (by decide) (by decide)
  (fun seen ρ h => seen.Nodup ∧ ρ 119 = pP it ∧ It h mp it (N.map Nd.ent) seen ∧ ρ 4 = pP t ∧ TrG hb.size h mp N (ksOf N seen) ∧ Rt h t mp ∧ Kp hb h)
  (fun {seen ρ h2} inv => ⟨inv.2.1,inv.2.2.1⟩) ?_ ?_ N.length ⟨List.nodup_nil,q119,hi,q4,tr,rt,kk⟩ List.nodup_nil (by simp) (by simp)
 ·rintro seen ρ h2 ⟨nd,w119,hi2,w4,tr2,rt2,k2⟩ hall
  exact cont _ h2 _ w4 tr2 (ksOf_spec tr2.nd nd (by simpa using hall)) rt2 k2
 ·rintro seen ρ h2 ⟨nd,w119,hi2,w4,tr2,rt2,k2⟩ _ _ i k u hik hns
  rw [List.getElem?_map] at hik
  cases hr1 : N[i]? with
  | none => rw [hr1] at hik; cases hik
  | some r1 =>
  rw [hr1] at hik
  simp only [Option.map_some,Nd.ent,Option.some.injEq,Prod.mk.injEq] at hik
  obtain ⟨rfl,rfl⟩ := hik
  have hm1 := List.mem_of_getElem? hr1
  have hits := H.get_lt hi2.itr
  have hlast : (seen ++ [i]).getLast? = some i := by simp
  have hfind := mos_find (l := N.map Nd.ent) (k := 0) (i := i) (x := Nd.ent r1) (by simp [hr1])
  rw [Nat.zero_add] at hfind
  simp only [Nd.ent] at hfind
  have gi := hset_same hits (.mapIter (some mp) (N.map Nd.ent).length (seen ++ [i]) (N.map Nd.ent).length)
  have hold : ∀ j o,h2.get j = some o → (∀ m s e l,o ≠ .mapIter m s e l) → (h2.set it (.mapIter (some mp) (N.map Nd.ent).length (seen ++ [i]) (N.map Nd.ent).length)).get j = some o := by
   intro j o hg hn
   rw [hset_other hits (by rintro rfl; rw [hi2.itr] at hg; cases hg; exact hn _ _ _ _ rfl)]; exact hg
  have tr3 := tr2.it hold
  have rt3 : Rt (h2.set it (.mapIter (some mp) (N.map Nd.ent).length (seen ++ [i]) (N.map Nd.ent).length)) t mp := by
   obtain ⟨cs,ty,op,ro,fz,e⟩ := rt2
   exact ⟨cs,ty,op,ro,fz,hold _ _ e (by intro _ _ _ _ e; cases e)⟩
  have k3 := Keeps.trans k2 (Keeps.set hits hit (.mapIter (some mp) (N.map Nd.ent).length (seen ++ [i]) (N.map Nd.ent).length))
  generalize h2.set it (.mapIter (some mp) (N.map Nd.ent).length (seen ++ [i]) (N.map Nd.ent).length) = h3 at *
  have gm : h3.get mp = some (.map (mos (N.map Nd.ent) 0) (N.map Nd.ent).length) := tr3.nodes
  have gm' : h3.get mp = some (.map (mos (N.map fun r => (iI r.id,V.ptr (some (r.b,0)))) 0) (N.map Nd.ent).length) := gm
  have gc := (tr3.at_ r1 hm1).cell
  have hnd : (seen ++ [i]).Nodup := List.nodup_append.2 ⟨nd,by simp,by intro a ha b hb; simp at hb; subst hb; intro e; subst e; exact hns ha⟩
  obtain ⟨cs,ty,op,ro,fz,groot⟩ := rt3
  cases htop : topI r1.id with
  | true =>
   refine NC.run (Q := fun ex T h' => ∃ ρ',ex = .nrm ∧ T = toL 148 ρ' ∧ h3 = h' ∧ ρ' 119 = pP it ∧ ρ' 4 = pP t) (by intro b e; cases e) ?_ ?_
   ·simp only [GR,evK,binV,intOp,strOp,unV,Nat.reduceLT,Nat.reduceEqDiff,↓reduceIte,r67_24,w119,gi,gm,hlast,hfind,r67_25]
    refine XC_of (top74 F r1.id h3) ?_
    rintro _ h4 ⟨rfl,e2⟩
    rw [e2,htop]
    simp only [GR,evK,binV,intOp,strOp,unV,Nat.reduceLT,Nat.reduceEqDiff,↓reduceIte]
    exact ⟨_,rfl,w119,w4⟩
   ·rintro ex T h' ⟨ρ',rfl,rfl,e3,x119,x4⟩
    subst e3
    refine ⟨ρ',h3,rfl,hnd,x119,⟨tr3.nodes,gi⟩,x4,?_,⟨cs,ty,op,ro,fz,groot⟩,k3⟩
    have : ksOf N (seen ++ [i]) = ksOf N seen := by funext x; rw [ksOf_app hr1]; simp [htop]
    rw [this]; exact tr3
  | false =>
   by_cases hp : r1.par ∈ N.map Nd.id
   ·obtain ⟨r2,hm2,hid2⟩ := List.mem_map.1 hp
    obtain ⟨i2,hi2'⟩ := List.getElem?_of_mem hm2
    have hf := findK_at (k := 0) (j := 0) tr3.nd hi2' hid2
    have gc2 := (tr3.at_ r2 hm2).cell
    have gk2 : h3.get r2.km = some (.map (mos ((ksOf N seen r2).map kidE) 0) ((ksOf N seen r2).map kidE).length) := (tr3.at_ r2 hm2).kids
    have hfk := findK_kid (k := 0) (j := 0) (ksOf_new tr3.nd hr1 hns r2)
    have hmo : mo ((ksOf N (seen ++ [i]) r2).map kidE) = .map (mos ((ksOf N seen r2).map kidE) 0 ++ [(iI r1.id,iI 1,((ksOf N seen r2).map kidE).length)]) (((ksOf N seen r2).map kidE).length + 1) := by
     rw [ksOf_app hr1,htop,hid2]; simp [mo,mos_append,kidE]
    refine NC.run (Q := fun ex T h' => ∃ ρ',ex = .nrm ∧ T = toL 148 ρ' ∧ h3.set r2.km (mo ((ksOf N (seen ++ [i]) r2).map kidE)) = h' ∧ ρ' 119 = pP it ∧ ρ' 4 = pP t) (by intro b e; cases e) ?_ ?_
    ·simp only [GR,evK,binV,intOp,strOp,unV,Nat.reduceLT,Nat.reduceEqDiff,↓reduceIte,r67_24,w119,gi,gm,hlast,hfind,r67_25]
     refine XC_of (top74 F r1.id h3) ?_
     rintro _ h4 ⟨rfl,e2⟩
     rw [e2,htop]
     simp only [GR,evK,binV,intOp,strOp,unV,Nat.reduceLT,Nat.reduceEqDiff,↓reduceIte]
     rw [X_draw,d67_26]
     simp only [GR,evK,binV,intOp,strOp,unV,Nat.reduceLT,Nat.reduceEqDiff,↓reduceIte,r67_26,w4,groot,gc,gm,hf,r67_27,eqV,Option.isNone_some,r67_29,gc2,gk2,hfk,← hmo]
     exact ⟨_,rfl,w119,w4⟩
    ·rintro ex T h' ⟨ρ',rfl,rfl,e3,x119,x4⟩
     have hne : r2.km ≠ it := by rintro e; rw [e] at gk2; rw [gk2] at gi; cases gi
     have hlk := H.get_lt gk2
     have tr5 := tr3.setK (ks' := ksOf N (seen ++ [i])) hm2 (fun r' hr' hne => by
      rw [ksOf_app hr1]
      have : (r1.par == r'.id) = false := by
       simp only [beq_eq_false_iff_ne,ne_eq]
       intro e
       obtain ⟨j,hj⟩ := List.getElem?_of_mem hr'
       have := ids_inj tr3.nd hi2' hj (by rw [hid2,e])
       subst this
       rw [hi2'] at hj; cases hj; exact hne rfl
      simp [this])
     rw [e3] at tr5
     refine ⟨ρ',h',rfl,hnd,x119,⟨tr5.nodes,?_⟩,x4,tr5,?_,?_⟩
     ·rw [← e3,hset_other hlk hne]; exact gi
     ·refine ⟨cs,ty,op,ro,fz,?_⟩
      rw [← e3,hset_other hlk (by rintro e; rw [e] at gk2; rw [gk2] at groot; cases groot)]; exact groot
     ·rw [← e3]; exact Keeps.trans k3 (Keeps.set hlk (tr3.low.2 r2 hm2).2.2 _)
   ·have hf := findK_no (k := 0) (j := 0) hp
    refine NC.run (Q := fun ex T h' => ∃ ρ',ex = .ret ∧ T = toL 148 ρ' ∧ h3 = h' ∧ ρ' 2 = .ptr none ∧ ρ' 3 = iI 121) (by intro b e; cases e) ?_ ?_
    ·simp only [GR,evK,binV,intOp,strOp,unV,Nat.reduceLT,Nat.reduceEqDiff,↓reduceIte,r67_24,w119,gi,gm,hlast,hfind,r67_25]
     refine XC_of (top74 F r1.id h3) ?_
     rintro _ h4 ⟨rfl,e2⟩
     rw [e2,htop]
     simp only [GR,evK,binV,intOp,strOp,unV,Nat.reduceLT,Nat.reduceEqDiff,↓reduceIte]
     rw [X_draw,d67_26]
     simp only [GR,evK,binV,intOp,strOp,unV,Nat.reduceLT,Nat.reduceEqDiff,↓reduceIte,r67_26,w4,groot,gc,gm,hf,r67_27,eqV,Option.isNone_none,r67_28]
     exact ⟨_,rfl,rfl,rfl⟩
    ·rintro ex T h' ⟨ρ',rfl,rfl,e3,x2,x3⟩
     subst e3
     exact contB ρ' h3 (not_rch tr3.nd g hm1 htop hp) x2 x3 k3
noncomputable def okT (ds : List DNode) : Bool := nodesB 0 ds && wholeB (treeNP ds)
noncomputable def codeT (ds : List DNode) : Int := if okT ds then 0 else 121
theorem wholeB_iff {M : List NP} : wholeB M = true ↔ ∀ x ∈ M,Rch M x.1 := by simp [wholeB]
theorem treeNP_len (ds : List DNode) : (treeNP ds).length ≤ ds.length + 2 := by
 have := List.length_filter_le (fun d : DNode => !topI d.node) ds
 simp [treeNP]; omega
def FromA (hb : H) (ds : List DNode) (v : V) (h' : H) : Prop := (∃ p,v = .tup [p,iI (codeT ds)] ∧ (p = .ptr none ∨ ∃ i,p = pP i)) ∧ Kp hb h'
set_option maxHeartbeats 2000000 in
theorem from67 (F : Ft E) {hb : H} {lv : V} {ns : List (TNode × DNode)} (hs : Sl hb 4 lv (ns.map fun p => p.1.cells)) (hin : ∀ p ∈ ns,NIn hb p.1 p.2) (hl : ns.length ≤ 1048576) : NSp P E fn67 [lv] hb (FromA hb (ns.map (·.2))) := by
 refine ⟨(by decide : (1 : Nat) ≤ 148),?_⟩
 show NC P E none c67 (toL 148 (argF [lv]),hb) fun ex s' => Fin [.t 2,.t 3] (FromA hb (ns.map (·.2))) ex s'.1 s'.2
 have bad : okT (ns.map (·.2)) = false → ∀ (ρ' : Nat → V) (h' : H),ρ' 2 = .ptr none → ρ' 3 = iI 121 → Kp hb h' → Fin [.t 2,.t 3] (FromA hb (ns.map (·.2))) .ret (toL 148 ρ') h' := by
  intro hb2 ρ' h' x2 x3 kk
  have hc : codeT (ns.map (·.2)) = 121 := by simp [codeT,hb2]
  rw [Fin_ret,resVs_t (by decide),resVs_t (by decide),resVs_nil]
  simp only [Option.map_some,x2,x3,oneOr_two]
  exact ⟨⟨_,by rw [hc],.inl rfl⟩,kk⟩
 obtain ⟨la0,lc0,lo0,hlv⟩ := hs.len
 rw [List.length_map] at hlv
 refine NC.pre (as := [.region r67_0,.region r67_1,.region [⟨some 5,.mv (.k (iI 0)),none,0,[5]⟩],.seq (.region r67_2) (.block 0 (.loop b67_21))]) (c := .seq (.seq (.region r67_22) (.block 4 (.loop b67_30))) (.seq (.seq (.region r67_31) (.cond (.t 146) (.seq (.region r67_32) (.ret)) (.skip))) (.seq (.region r67_33) (.ret)))) (by intro a ha b e; simp at ha; rcases ha with rfl | rfl | rfl | rfl <;> cases e) ?_
 simp only [GR,evK,binV,intOp,strOp,unV,Nat.reduceLT,Nat.reduceEqDiff,↓reduceIte,List.map_cons,List.map_nil,r67_0,r67_1]
 refine XC_of (new73 F hb) ?_
 rintro _ h1 ⟨t,mp,N0,rfl,tr0,rt0,hnp0,hnm0,k0⟩
 simp only [GR,evK,binV,intOp,strOp,unV,Nat.reduceLT,Nat.reduceEqDiff,↓reduceIte,r67_2,hlv]
 refine loop21 F hs hin hl ?_ ?_ _ 0 0 N0 _ h1 rfl (Nat.zero_le _) rfl (Int.le_refl _) ?_ ?_ ?_ ?_ ?_ tr0 rt0 ?_ k0
 ·intro ρ' h' N last hnodes q4 tr rt la kk
  rw [X_nil]
  have g : Grf (N.map Nd.np) := ⟨by rw [np_id]; exact tr.nd,by rw [np_id]; exact la.tops rfl,by rw [np_id]; exact la.tops rfl⟩
  have hNl : N.length ≤ 1048578 := by
   have h1 := treeNP_len (ns.map (·.2))
   rw [← la.np,List.length_map,List.length_map] at h1
   omega
  obtain ⟨cs,ty,op,ro,fz,groot⟩ := rt
  have gm : h'.get mp = some (.map (mos (N.map Nd.ent) 0) (N.map Nd.ent).length) := tr.nodes
  have kit : Kp h' (h'.psh (.mapIter (some mp) (N.map Nd.ent).length [] (N.map Nd.ent).length)) := Keeps.psh (Nat.le_refl _) _
  refine NC.sq (NC.pre (as := [.region r67_22]) (c := .block 4 (.loop b67_30)) (by intro a ha b e; simp at ha; subst ha; cases e) ?_)
  simp only [GR,evK,binV,intOp,strOp,unV,Nat.reduceLT,Nat.reduceEqDiff,↓reduceIte,List.map_cons,List.map_nil,r67_22,q4,groot,gm]
  refine NC.blk (loop30 F g kk.size ?_ ?_ ?_ ?_ ⟨kit.of gm,psh_same _ _⟩ (tr.kp kit) (Rt.mc ⟨cs,ty,op,ro,fz,groot⟩ (MCk.kp kit)) (Kp.trans kk kit))
  ·intro ρ2 h2 ks w4 tr2 sp rt2 k2
   simp only [if_true]
   have trk := tr2.trk rt2
   have sp78 : Sp P E (.func 78 [] []) [pP t] h2 fun v h' => v = .bool (wholeB (N.map Nd.np)) ∧ h' = h2 := ⟨_,_,by rw [AP_prim F.p78]; exact wholeP_eq trk g sp hNl,rfl,rfl⟩
   refine NC.run (Q := fun ex T h' => Fin [.t 2,.t 3] (FromA hb (ns.map (·.2))) ex T h') (by intro b e; cases e) ?_ (fun _ _ _ h => h)
   simp only [GR,evK,binV,intOp,strOp,unV,Nat.reduceLT,Nat.reduceEqDiff,↓reduceIte,r67_31,w4]
   refine XC_of sp78 ?_
   rintro _ h3 ⟨rfl,e3⟩
   rw [e3]
   cases hw : wholeB (N.map Nd.np) with
   | true =>
    have hc : codeT (ns.map (·.2)) = 0 := by rw [la.np] at hw; simp [codeT,okT,hnodes,hw]
    simp only [GR,evK,binV,intOp,strOp,unV,Nat.reduceLT,Nat.reduceEqDiff,↓reduceIte,r67_33,w4]
    exact ⟨⟨_,by rw [hc],.inr ⟨t,rfl⟩⟩,k2⟩
   | false =>
    have hc : codeT (ns.map (·.2)) = 121 := by rw [la.np] at hw; simp [codeT,okT,hw]
    simp only [GR,evK,binV,intOp,strOp,unV,Nat.reduceLT,Nat.reduceEqDiff,↓reduceIte,r67_32]
    exact ⟨⟨_,by rw [hc],.inl rfl⟩,k2⟩
  ·intro ρ2 h2 hno x2 x3 k2
   refine bad ?_ ρ2 h2 x2 x3 k2
   rw [la.np,← wholeB_iff] at hno
   simp [okT,hno]
  ·exact q4
  ·rfl
 ·intro ρ' h' hnodes x2 x3 kk
  exact bad (by simp [okT,hnodes]) ρ' h' x2 x3 kk
 ·rfl
 ·rfl
 ·exact hlv.symm
 ·rfl
 ·rfl
 ·refine ⟨?_,fun r hr ht => ?_,fun r hr ht => ?_⟩
  ·rw [hnp0]; simp [treeNP]
  ·have : r.np ∈ N0.map Nd.np := List.mem_map.2 ⟨r,hr,rfl⟩
   rw [hnp0] at this
   refine ⟨?_,hnm0 r hr⟩
   simp [Nd.np] at this
   rcases this with h | h <;> exact h.2
  ·have : r.np ∈ N0.map Nd.np := List.mem_map.2 ⟨r,hr,rfl⟩
   rw [hnp0] at this
   simp [Nd.np] at this
   rcases this with h | h <;> (rw [h.1] at ht; cases ht)
end Go.AM.Sc
