/- My own texts, laid for this claim. -/
import Derived.Test.YtelbgimbkfjabaaAf1ToTf4
set_option linter.unusedSimpArgs false
set_option linter.unusedVariables false
namespace Go.AM.Sc
open Go.AM
variable {P : Program} {E : Env}
theorem contains_take {s : List UInt8} {k : Nat} (hk : k < s.length) (hn : (s.take k).contains 47 = false) : (s.take (k + 1)).contains 47 = (s[k] == 47) := by
 rw [List.take_succ_eq_append_getElem hk]
 simp only [List.contains_eq_mem,List.mem_append,List.mem_singleton] at hn ⊢
 have h1 : ¬ (47 : UInt8) ∈ s.take k := by simpa using hn
 simp only [h1,false_or]
 by_cases h2 : s[k] = 47
 ·simp [h2]
 ·have h3 : ¬ (47 : UInt8) = s[k] := fun h => h2 h.symm
  simp [h2,h3]
theorem contains_more {s : List UInt8} {k : Nat} (h : (s.take k).contains 47 = true) : s.contains 47 = true := by
 simp only [List.contains_eq_mem,decide_eq_true_eq] at h ⊢
 exact List.mem_of_mem_take h
theorem u8_eq (b : UInt8) : (((b.toNat : Nat) : Int) == 47) = (b == 47) := by
 rw [Bool.eq_iff_iff]
 simp only [beq_iff_eq]
 constructor
 ·intro h
  have : b.toNat = 47 := by omega
  exact UInt8.toNat_inj.1 (by simpa using this)
 ·rintro rfl; rfl
theorem nameB_head {s : List UInt8} (h1 : (s == []) = false) (h2 : s.length ≤ 255) (h3 : (s == [46]) = false) (h4 : (s == [46,46]) = false) : nameB s = !s.contains 47 := by
 unfold nameB; rw [h1,h3,h4,decide_eq_true h2]; simp
theorem loop75 {h : H} {b : Nat} {s : List UInt8} (hg : h.get b = some (.cells (s.map fun b => .int .u8 b.toNat) 5 true false (some 0))) (hl : s.length ≤ 255) {Q : V → H → Prop} (hQ : ∀ c,s.contains 47 = c → Q (.bool (!c)) h) :
  ∀ (d k : Nat) (ρ : Nat → V),s.length - k = d → k ≤ s.length → ρ 21 = .slice (some (b,0)) s.length s.length true → ρ 22 = .int .i64 s.length → ρ 23 = .int .i64 k → (s.take k).contains 47 = false →
   XL P E none 30 b75_5 [.b 0,.c (.seq (.region [⟨some 2,.mv (.k (.bool true)),none,0,[2]⟩]) (.ret))] ρ h (Fin [.t 2] Q) := by
 intro d
 induction d with
 | zero =>
  intro k ρ hd hk q21 q22 q23 hn
  have hke : ¬ k < s.length := by omega
  rw [List.take_of_length_le (by omega)] at hn
  rw [u75_5]
  simp only [GR,evK,binV,intOp,strOp,shOp,unV,Nat.reduceLT,Nat.reduceEqDiff,Nat.reduceAdd,↓reduceIte,Nat.reduceLeDiff,reduceCtorEq,q22,q23,Int.ofNat_lt,hke]
  exact hQ false hn
 | succ d ih =>
  intro k ρ hd hk q21 q22 q23 hn
  have hke : k < s.length := by omega
  have hget : (s.map fun b => V.int .u8 b.toNat)[k]? = some (.int .u8 s[k].toNat) := by simp [hke]
  have hw : IntKind.i64.wrap ((k : Int) + 1) = ((k + 1 : Nat) : Int) := wrap_nat (n := k + 1) (by omega)
  have ht := contains_take hke hn
  rw [u75_5]
  cases he : s[k] == 47 with
  | true =>
   rw [he] at ht
   simp only [GR,evK,binV,intOp,strOp,shOp,unV,Nat.reduceLT,Nat.reduceEqDiff,Nat.reduceAdd,↓reduceIte,Nat.reduceLeDiff,reduceCtorEq,q22,q23,Int.ofNat_lt,hke,r75_2,q21,Int.natCast_nonneg,Int.toNat_natCast,hg,Nat.mul_one,Nat.zero_add,hget,r75_3,u8_eq,he]
   exact hQ true (contains_more ht)
  | false =>
   rw [he] at ht
   simp only [GR,evK,binV,intOp,strOp,shOp,unV,Nat.reduceLT,Nat.reduceEqDiff,Nat.reduceAdd,↓reduceIte,Nat.reduceLeDiff,reduceCtorEq,q22,q23,Int.ofNat_lt,hke,r75_2,q21,Int.natCast_nonneg,Int.toNat_natCast,hg,Nat.mul_one,Nat.zero_add,hget,r75_3,u8_eq,he,r75_4,hw]
   exact ih (k + 1) _ (by omega) (by omega) q21 q22 rfl ht
theorem name75 (F : Ft E) (s : List UInt8) (h : H) : Sp P E (.func 75 [] []) [.str s] h fun v h' => v = .bool (nameB s) ∧ Kp h h' := by
 refine Sp_fn F.f75 F.p75 (by simp [fn75]) ?_
 have l1 : ((255 : Int) < (s.length : Int)) = (255 < s.length) := by apply propext; omega
 cases e1 : (s == []) with
 | true =>
  simp only [GR,evK,binV,intOp,strOp,shOp,unV,Nat.reduceLT,Nat.reduceEqDiff,Nat.reduceAdd,↓reduceIte,Nat.reduceLeDiff,reduceCtorEq,fn75,c75,r75_0,e1]
  exact ⟨by simp [nameB,e1],Keeps.refl _ _⟩
 | false =>
  by_cases e2 : 255 < s.length
  ·have : ¬ s.length ≤ 255 := by omega
   simp only [GR,evK,binV,intOp,strOp,shOp,unV,Nat.reduceLT,Nat.reduceEqDiff,Nat.reduceAdd,↓reduceIte,Nat.reduceLeDiff,reduceCtorEq,fn75,c75,r75_0,e1,gt_iff_lt,l1,e2]
   exact ⟨by simp [nameB,this],Keeps.refl _ _⟩
  ·cases e3 : (s == [46]) with
   | true =>
    simp only [GR,evK,binV,intOp,strOp,shOp,unV,Nat.reduceLT,Nat.reduceEqDiff,Nat.reduceAdd,↓reduceIte,Nat.reduceLeDiff,reduceCtorEq,fn75,c75,r75_0,e1,gt_iff_lt,l1,e2,e3]
    exact ⟨by simp [nameB,e3],Keeps.refl _ _⟩
   | false =>
    cases e4 : (s == [46,46]) with
    | true =>
     simp only [GR,evK,binV,intOp,strOp,shOp,unV,Nat.reduceLT,Nat.reduceEqDiff,Nat.reduceAdd,↓reduceIte,Nat.reduceLeDiff,reduceCtorEq,fn75,c75,r75_0,e1,gt_iff_lt,l1,e2,e3,e4]
     exact ⟨by simp [nameB,e4],Keeps.refl _ _⟩
    | false =>
     simp only [GR,evK,binV,intOp,strOp,shOp,unV,Nat.reduceLT,Nat.reduceEqDiff,Nat.reduceAdd,↓reduceIte,Nat.reduceLeDiff,reduceCtorEq,fn75,c75,r75_0,e1,gt_iff_lt,l1,e2,e3,e4,r75_1]
     refine loop75 (s := s) (psh_same _ _) (by omega) ?_ _ 0 _ rfl (Nat.zero_le _) rfl rfl rfl (by simp)
     intro c hc
     exact ⟨by rw [nameB_head e1 (by omega) e3 e4,hc],Keeps.psh (Nat.le_refl _) _⟩
end Go.AM.Sc
namespace Go.AM.Sc
open Go.AM
structure Attr where
 key : List UInt8
 value : List UInt8
 deriving DecidableEq
def Attr.cells (x : Attr) : List V := [.str x.key,.str x.value]
theorem Attr.len (x : Attr) : x.cells.length = 2 := rfl
theorem Attr.g0 (x : Attr) : x.cells[0]? = some (.str x.key) := rfl
theorem Attr.g1 (x : Attr) : x.cells[1]? = some (.str x.value) := rfl
theorem Attr.r0 (x : Attr) : getR x.cells 0 2 = x.cells := rfl
theorem Attr.eqv (h : H) (x y : Attr) : eqV h (.fcons 0 1 false .str (.fcons 1 1 false .str .fnil)) (.agg x.cells) (.agg y.cells) = some (decide (x = y)) := (fcons_step rfl rfl (str_step _ _ _) (fcons_step rfl rfl (str_step _ _ _) (fnil_step _ _ _))).trans (congrArg some (decide_eq_decide.2 ⟨fun e => by cases x; cases y; simpa [and_assoc] using e,fun e => by subst e; simp⟩))
structure Reply where
 err : Int
 stamp : Stamp
 node : Int
 deriving DecidableEq
def Reply.cells (x : Reply) : List V := [.int .i64 x.err,.int .i64 x.stamp.time,.int .i64 x.stamp.site,.int .i64 x.node]
theorem Reply.len (x : Reply) : x.cells.length = 4 := rfl
theorem Reply.g0 (x : Reply) : x.cells[0]? = some (.int .i64 x.err) := rfl
theorem Reply.g1 (x : Reply) : x.cells[1]? = some (.int .i64 x.stamp.time) := rfl
theorem Reply.g2 (x : Reply) : x.cells[2]? = some (.int .i64 x.stamp.site) := rfl
theorem Reply.g3 (x : Reply) : x.cells[3]? = some (.int .i64 x.node) := rfl
theorem Reply.r0 (x : Reply) : getR x.cells 0 4 = x.cells := rfl
theorem Reply.eqv (h : H) (x y : Reply) : eqV h (.fcons 0 1 false .int (.fcons 1 2 true (.fcons 0 1 false .int (.fcons 1 1 false .int .fnil)) (.fcons 3 1 false .int .fnil))) (.agg x.cells) (.agg y.cells) = some (decide (x = y)) := (fcons_step rfl rfl (int_step _ _ _ _) (fcons_step rfl rfl (Stamp.eqv h _ _) (fcons_step rfl rfl (int_step _ _ _ _) (fnil_step _ _ _)))).trans (congrArg some (decide_eq_decide.2 ⟨fun e => by cases x; cases y; simpa [and_assoc] using e,fun e => by subst e; simp⟩))
structure Row where
 session : Int
 request : Int
 reply : Reply
 deriving DecidableEq
def Row.cells (x : Row) : List V := [.int .i64 x.session,.int .i64 x.request,.int .i64 x.reply.err,.int .i64 x.reply.stamp.time,.int .i64 x.reply.stamp.site,.int .i64 x.reply.node]
theorem Row.len (x : Row) : x.cells.length = 6 := rfl
theorem Row.g0 (x : Row) : x.cells[0]? = some (.int .i64 x.session) := rfl
theorem Row.g1 (x : Row) : x.cells[1]? = some (.int .i64 x.request) := rfl
theorem Row.g2 (x : Row) : x.cells[2]? = some (.int .i64 x.reply.err) := rfl
theorem Row.r3_2 (x : Row) : getR x.cells 3 2 = x.reply.stamp.cells := rfl
theorem Row.g3 (x : Row) : x.cells[3]? = some (.int .i64 x.reply.stamp.time) := rfl
theorem Row.g4 (x : Row) : x.cells[4]? = some (.int .i64 x.reply.stamp.site) := rfl
theorem Row.g5 (x : Row) : x.cells[5]? = some (.int .i64 x.reply.node) := rfl
theorem Row.r0 (x : Row) : getR x.cells 0 6 = x.cells := rfl
theorem Row.eqv (h : H) (x y : Row) : eqV h (.fcons 0 1 false .int (.fcons 1 1 false .int (.fcons 2 4 true (.fcons 0 1 false .int (.fcons 1 2 true (.fcons 0 1 false .int (.fcons 1 1 false .int .fnil)) (.fcons 3 1 false .int .fnil))) .fnil))) (.agg x.cells) (.agg y.cells) = some (decide (x = y)) := (fcons_step rfl rfl (int_step _ _ _ _) (fcons_step rfl rfl (int_step _ _ _ _) (fcons_step rfl rfl (Reply.eqv h _ _) (fnil_step _ _ _)))).trans (congrArg some (decide_eq_decide.2 ⟨fun e => by cases x; cases y; simpa [and_assoc] using e,fun e => by subst e; simp⟩))
structure TNode where
 node : Int
 parent : Int
 name : List UInt8
 attrs : V
def TNode.cells (x : TNode) : List V := [.int .i64 x.node,.int .i64 x.parent,.str x.name,x.attrs]
theorem TNode.len (x : TNode) : x.cells.length = 4 := rfl
theorem TNode.g0 (x : TNode) : x.cells[0]? = some (.int .i64 x.node) := rfl
theorem TNode.g1 (x : TNode) : x.cells[1]? = some (.int .i64 x.parent) := rfl
theorem TNode.g2 (x : TNode) : x.cells[2]? = some (.str x.name) := rfl
theorem TNode.g3 (x : TNode) : x.cells[3]? = some (x.attrs) := rfl
theorem TNode.r0 (x : TNode) : getR x.cells 0 4 = x.cells := rfl
structure View where
 at_ : Addr
 up : Bool
 leads : Bool
 booted : Bool
 told : Int
 first : Int
 chosen : V
 epoch : Int
 clock : Int
 frontier : Int
 vector : Vec
 nodes : V
 rows : V
def View.cells (x : View) : List V := [.int .i64 x.at_.group,.int .i64 x.at_.replica,.bool x.up,.bool x.leads,.bool x.booted,.int .i64 x.told,.int .i64 x.first,x.chosen,.int .i64 x.epoch,.int .i64 x.clock,.int .i64 x.frontier,.int .i64 x.vector.v0,.int .i64 x.vector.v1,.int .i64 x.vector.v2,.int .i64 x.vector.v3,.int .i64 x.vector.v4,.int .i64 x.vector.v5,.int .i64 x.vector.v6,.int .i64 x.vector.v7,x.nodes,x.rows]
theorem View.len (x : View) : x.cells.length = 21 := rfl
theorem View.g0 (x : View) : x.cells[0]? = some (.int .i64 x.at_.group) := rfl
theorem View.g1 (x : View) : x.cells[1]? = some (.int .i64 x.at_.replica) := rfl
theorem View.g2 (x : View) : x.cells[2]? = some (.bool x.up) := rfl
theorem View.g3 (x : View) : x.cells[3]? = some (.bool x.leads) := rfl
theorem View.g4 (x : View) : x.cells[4]? = some (.bool x.booted) := rfl
theorem View.g5 (x : View) : x.cells[5]? = some (.int .i64 x.told) := rfl
theorem View.g6 (x : View) : x.cells[6]? = some (.int .i64 x.first) := rfl
theorem View.g7 (x : View) : x.cells[7]? = some (x.chosen) := rfl
theorem View.g8 (x : View) : x.cells[8]? = some (.int .i64 x.epoch) := rfl
theorem View.g9 (x : View) : x.cells[9]? = some (.int .i64 x.clock) := rfl
theorem View.g10 (x : View) : x.cells[10]? = some (.int .i64 x.frontier) := rfl
theorem View.g11 (x : View) : x.cells[11]? = some (.int .i64 x.vector.v0) := rfl
theorem View.g12 (x : View) : x.cells[12]? = some (.int .i64 x.vector.v1) := rfl
theorem View.g13 (x : View) : x.cells[13]? = some (.int .i64 x.vector.v2) := rfl
theorem View.g19 (x : View) : x.cells[19]? = some (x.nodes) := rfl
theorem View.g20 (x : View) : x.cells[20]? = some (x.rows) := rfl
theorem View.r0 (x : View) : getR x.cells 0 21 = x.cells := rfl
structure VFlat where
 at_ : Addr
 up : Bool
 leads : Bool
 booted : Bool
 told : Int
 first : Int
 epoch : Int
 clock : Int
 frontier : Int
 vector : Vec
 deriving DecidableEq
def VFlat.cells (x : VFlat) : List V := [.int .i64 x.at_.group,.int .i64 x.at_.replica,.bool x.up,.bool x.leads,.bool x.booted,.int .i64 x.told,.int .i64 x.first,.int .i64 x.epoch,.int .i64 x.clock,.int .i64 x.frontier,.int .i64 x.vector.v0,.int .i64 x.vector.v1,.int .i64 x.vector.v2,.int .i64 x.vector.v3,.int .i64 x.vector.v4,.int .i64 x.vector.v5,.int .i64 x.vector.v6,.int .i64 x.vector.v7]
theorem VFlat.len (x : VFlat) : x.cells.length = 18 := rfl
theorem VFlat.g0 (x : VFlat) : x.cells[0]? = some (.int .i64 x.at_.group) := rfl
theorem VFlat.g1 (x : VFlat) : x.cells[1]? = some (.int .i64 x.at_.replica) := rfl
theorem VFlat.g2 (x : VFlat) : x.cells[2]? = some (.bool x.up) := rfl
theorem VFlat.g3 (x : VFlat) : x.cells[3]? = some (.bool x.leads) := rfl
theorem VFlat.g4 (x : VFlat) : x.cells[4]? = some (.bool x.booted) := rfl
theorem VFlat.g5 (x : VFlat) : x.cells[5]? = some (.int .i64 x.told) := rfl
theorem VFlat.g6 (x : VFlat) : x.cells[6]? = some (.int .i64 x.first) := rfl
theorem VFlat.g7 (x : VFlat) : x.cells[7]? = some (.int .i64 x.epoch) := rfl
theorem VFlat.g8 (x : VFlat) : x.cells[8]? = some (.int .i64 x.clock) := rfl
theorem VFlat.g9 (x : VFlat) : x.cells[9]? = some (.int .i64 x.frontier) := rfl
theorem VFlat.g10 (x : VFlat) : x.cells[10]? = some (.int .i64 x.vector.v0) := rfl
theorem VFlat.g11 (x : VFlat) : x.cells[11]? = some (.int .i64 x.vector.v1) := rfl
theorem VFlat.g12 (x : VFlat) : x.cells[12]? = some (.int .i64 x.vector.v2) := rfl
theorem VFlat.g13 (x : VFlat) : x.cells[13]? = some (.int .i64 x.vector.v3) := rfl
theorem VFlat.r0 (x : VFlat) : getR x.cells 0 18 = x.cells := rfl
def flatOf (x : Entry) : Flat := ⟨x.kind,x.session,x.request,x.op,x.origin,x.seq,x.epoch,x.frm,x.vector,x.clock,x.part.snap,x.part.index,x.part.many,x.site,x.sponsor,x.length⟩
def Str (h : H) (v : V) (s : List UInt8) : Prop :=
 (∃ c o,v = .slice none 0 c o ∧ s = []) ∨ ∃ p n c o cs,v = .slice (some p) n c o ∧ elemsV h 1 n (.slice (some p) n c o) = some cs ∧ bytesV cs = some s
theorem elems_none (h : H) (c : Nat) (o : Bool) : elemsV h 1 0 (.slice none 0 c o) = some [] := rfl
structure DEnt where
 flat : Flat
 ops : List Opr
 data : List UInt8
 deriving DecidableEq
structure DNode where
 node : Int
 parent : Int
 name : List UInt8
 attrs : List Attr
 deriving DecidableEq
structure EIn (h : H) (x : Entry) (d : DEnt) : Prop where
 flat : flatOf x = d.flat
 ops : Sl h 8 x.ops (d.ops.map Opr.cells)
 len : d.ops.length ≤ 1048576
 dat : Str h x.part.data d.data
 dlen : d.data.length ≤ 1048576
structure NIn (h : H) (x : TNode) (d : DNode) : Prop where
 node : x.node = d.node
 parent : x.parent = d.parent
 name : x.name = d.name
 attrs : Sl h 2 x.attrs (d.attrs.map Attr.cells)
 len : d.attrs.length ≤ 1048576
structure WV where
 x : View
 es : List (Entry × DEnt)
 ns : List (TNode × DNode)
 rs : List Row
structure VIn (h : H) (v : WV) : Prop where
 chosen : Sl h 56 v.x.chosen (v.es.map fun p => p.1.cells)
 ents : ∀ p ∈ v.es,EIn h p.1 p.2
 elen : v.es.length ≤ 1048576
 nodes : Sl h 4 v.x.nodes (v.ns.map fun p => p.1.cells)
 nds : ∀ p ∈ v.ns,NIn h p.1 p.2
 nlen : v.ns.length ≤ 1048576
 rows : Sl h 6 v.x.rows (v.rs.map Row.cells)
 rlen : v.rs.length ≤ 1048576
theorem Str.keep {h h' : H} {v : V} {s : List UInt8} (a : Str h v s) (hk : Kp h h') : Str h' v s := by
 rcases a with a | ⟨p,n,c,o,cs,h1,h2,h3⟩
 ·exact .inl a
 ·refine .inr ⟨p,n,c,o,cs,h1,?_,h3⟩
  obtain ⟨i,q⟩ := p
  rw [← h2]
  simp only [elemsV]
  cases hg : h.get i with
  | none =>
   rw [elemsV] at h2
   simp [hg] at h2
   simp [h2.1]
  | some ob => rw [hk.of hg]
theorem EIn.keep {h h' : H} {x : Entry} {d : DEnt} (a : EIn h x d) (hk : Kp h h') : EIn h' x d := ⟨a.flat,a.ops.keep hk,a.len,a.dat.keep hk,a.dlen⟩
theorem NIn.keep {h h' : H} {x : TNode} {d : DNode} (a : NIn h x d) (hk : Kp h h') : NIn h' x d := ⟨a.node,a.parent,a.name,a.attrs.keep hk,a.len⟩
theorem VIn.keep {h h' : H} {v : WV} (a : VIn h v) (hk : Kp h h') : VIn h' v := ⟨a.chosen.keep hk,fun p hp => (a.ents p hp).keep hk,a.elen,a.nodes.keep hk,fun p hp => (a.nds p hp).keep hk,a.nlen,a.rows.keep hk,a.rlen⟩
end Go.AM.Sc
namespace Go.AM.Sc
open Go.AM
variable {P : Program} {E : Env}
structure NdF (h : H) (r : Nd) (ks : List Int) : Prop where
 cell : h.get r.b = some (.cells [.int .i64 r.par,.str r.name,.map (some r.am),.map (some r.km)] 141 false false none)
 attr : ∃ es cl,h.get r.am = some (.map es cl) ∧ ∀ e ∈ es, ∃ s,e.1 = .str s
 kids : h.get r.km = some (mo (ks.map kidE))
structure TrG (lo : Nat) (h : H) (mp : Nat) (N : List Nd) (ks : Nd → List Int) : Prop where
 nodes : h.get mp = some (mo (N.map Nd.ent))
 nd : (N.map Nd.id).Nodup
 at_ : ∀ r ∈ N,NdF h r (ks r)
 amkm : ∀ r ∈ N, ∀ r' ∈ N,r.am ≠ r'.km
 ammp : ∀ r ∈ N,r.am ≠ mp
 kmmp : ∀ r ∈ N,r.km ≠ mp
 kmk : ∀ r ∈ N, ∀ r' ∈ N,r.km = r'.km → r = r'
 low : lo ≤ mp ∧ ∀ r ∈ N,lo ≤ r.b ∧ lo ≤ r.am ∧ lo ≤ r.km
def Rt (h : H) (t mp : Nat) : Prop := ∃ cs ty op ro fz,h.get t = some (.cells (.map (some mp) :: cs) ty op ro fz)
def MCk (h h' : H) : Prop := ∀ i o,h.get i = some o → (∀ es cl,o ≠ .map es cl) → h'.get i = some o
theorem MCk.kp {h h' : H} (k : Kp h h') : MCk h h' := fun _ _ hg _ => k.of hg
theorem MCk.trans {a b c : H} (x : MCk a b) (y : MCk b c) : MCk a c := fun i o hg hn => y i o (x i o hg hn) hn
theorem MCk.set {h : H} {i : Nat} {es es' : List (V × V × Nat)} {cl cl' : Nat} (hg : h.get i = some (.map es cl)) : MCk h (h.set i (.map es' cl')) := fun j o hj hn => by
 rw [hset_other (H.get_lt hg) (by rintro rfl; rw [hg] at hj; cases hj; exact hn _ _ rfl)]; exact hj
theorem Rt.mc {h h' : H} {t mp : Nat} (a : Rt h t mp) (k : MCk h h') : Rt h' t mp := by
 obtain ⟨cs,ty,op,ro,fz,h1⟩ := a
 exact ⟨cs,ty,op,ro,fz,k _ _ h1 (by intro _ _ e; cases e)⟩
theorem TrG.trk {lo : Nat} {h : H} {t mp : Nat} {N : List Nd} {ks : Nd → List Int} (a : TrG lo h mp N ks) (r : Rt h t mp) : TrK h t mp N ks :=
 ⟨r,a.nodes,a.nd,fun r hr => ⟨⟨_,_,_,_,(a.at_ r hr).cell⟩,(a.at_ r hr).kids⟩⟩
theorem TrG.same {lo : Nat} {h h' : H} {mp : Nat} {N : List Nd} {ks : Nd → List Int} (a : TrG lo h mp N ks) (hs : ∀ i o,h.get i = some o → h'.get i = some o) : TrG lo h' mp N ks := by
 refine { a with nodes := hs _ _ a.nodes,at_ := fun r hr => ?_ }
 obtain ⟨es,cl,h2,h3⟩ := (a.at_ r hr).attr
 exact ⟨hs _ _ (a.at_ r hr).cell,⟨es,cl,hs _ _ h2,h3⟩,hs _ _ (a.at_ r hr).kids⟩
theorem TrG.kp {lo : Nat} {h h' : H} {mp : Nat} {N : List Nd} {ks : Nd → List Int} (a : TrG lo h mp N ks) (k : Kp h h') : TrG lo h' mp N ks := a.same fun _ _ hg => k.of hg
theorem TrG.setA {lo : Nat} {h : H} {mp : Nat} {N : List Nd} {ks : Nd → List Int} (a : TrG lo h mp N ks) {r : Nd} (hr : r ∈ N) {es : List (V × V × Nat)} {cl : Nat} (hes : ∀ e ∈ es, ∃ s,e.1 = .str s) : TrG lo (h.set r.am (.map es cl)) mp N ks := by
 obtain ⟨es0,cl0,g0,_⟩ := (a.at_ r hr).attr
 have hlt := H.get_lt g0
 have hs : ∀ {i o},h.get i = some o → r.am ≠ i → (h.set r.am (.map es cl)).get i = some o := fun {i o} hg hne => by rw [hset_other hlt hne]; exact hg
 have hc : ∀ {i vs ty op ro fz},h.get i = some (.cells vs ty op ro fz) → r.am ≠ i := by
  rintro i vs ty op ro fz hg rfl; rw [g0] at hg; cases hg
 refine { a with nodes := hs a.nodes (a.ammp r hr),at_ := fun r' hr' => ?_ }
 refine ⟨hs (a.at_ r' hr').cell (hc (a.at_ r' hr').cell),?_,hs (a.at_ r' hr').kids (a.amkm r hr r' hr')⟩
 by_cases he : r.am = r'.am
 ·exact ⟨es,cl,by rw [← he]; exact hset_same hlt _,hes⟩
 ·obtain ⟨es1,cl1,g1,q1⟩ := (a.at_ r' hr').attr
  exact ⟨es1,cl1,hs g1 he,q1⟩
theorem set_self {h : H} {b : Nat} {o : Obj} (g0 : h.get b = some o) : ∀ i x,h.get i = some x → (h.set b o).get i = some x := fun i x hg => by
 by_cases he : b = i
 ·subst he
  rw [g0] at hg; cases hg
  exact hset_same (H.get_lt g0) _
 ·rw [hset_other (H.get_lt g0) he]; exact hg
theorem TrG.new {lo : Nat} {h h' : H} {mp : Nat} {N : List Nd} {ks : Nd → List Int} (a : TrG lo h mp N ks) (hlo : lo ≤ h.size) {id par : Int} {name : List UInt8} (hid : id ∉ N.map Nd.id) (hks : ∀ r,ks r = [])
  (ho : ∀ i o,i ≠ mp → h.get i = some o → h'.get i = some o) (hm : h'.get mp = some (mo ((N ++ [Nd.mk id par name (h.size + 2) h.size (h.size + 1)]).map Nd.ent)))
  (h1 : h'.get h.size = some (mo [])) (h2 : h'.get (h.size + 1) = some (mo [])) (h3 : h'.get (h.size + 2) = some (.cells [.int .i64 par,.str name,.map (some h.size),.map (some (h.size + 1))] 141 false false none)) :
  TrG lo h' mp (N ++ [Nd.mk id par name (h.size + 2) h.size (h.size + 1)]) ks := by
 have hmp := H.get_lt a.nodes
 have lt : ∀ r ∈ N,r.b < h.size ∧ r.am < h.size ∧ r.km < h.size := fun r hr => by
  obtain ⟨es,cl,q1,_⟩ := (a.at_ r hr).attr
  exact ⟨H.get_lt (a.at_ r hr).cell,H.get_lt q1,H.get_lt (a.at_ r hr).kids⟩
 have hc : ∀ {i vs ty op ro fz},h.get i = some (.cells vs ty op ro fz) → i ≠ mp := by
  rintro i vs ty op ro fz hg rfl; rw [a.nodes] at hg; cases hg
 refine ⟨hm,?_,fun r hr => ?_,fun r hr r' hr' => ?_,fun r hr => ?_,fun r hr => ?_,fun r hr r' hr' => ?_,a.low.1,fun r hr => ?_⟩
 ·rw [List.map_append]
  exact List.nodup_append.2 ⟨a.nd,by simp,by intro x hx y hy; simp at hy; subst hy; rintro rfl; exact hid hx⟩
 ·rcases List.mem_append.1 hr with hr | hr
  ·obtain ⟨es,cl,q1,q2⟩ := (a.at_ r hr).attr
   exact ⟨ho _ _ (hc (a.at_ r hr).cell) (a.at_ r hr).cell,⟨es,cl,ho _ _ (a.ammp r hr) q1,q2⟩,ho _ _ (a.kmmp r hr) (a.at_ r hr).kids⟩
  ·rw [List.mem_singleton.1 hr]
   exact ⟨h3,⟨[],0,h1,by simp⟩,by rw [hks]; exact h2⟩
 ·rcases List.mem_append.1 hr with hr | hr <;> rcases List.mem_append.1 hr' with hr' | hr'
  ·exact a.amkm r hr r' hr'
  ·rw [List.mem_singleton.1 hr']; have := lt r hr; simp only; omega
  ·rw [List.mem_singleton.1 hr]; have := lt r' hr'; simp only; omega
  ·rw [List.mem_singleton.1 hr,List.mem_singleton.1 hr']; simp
 ·rcases List.mem_append.1 hr with hr | hr
  ·exact a.ammp r hr
  ·rw [List.mem_singleton.1 hr]; simp only; omega
 ·rcases List.mem_append.1 hr with hr | hr
  ·exact a.kmmp r hr
  ·rw [List.mem_singleton.1 hr]; simp only; omega
 ·rcases List.mem_append.1 hr with hr | hr <;> rcases List.mem_append.1 hr' with hr' | hr'
  ·exact a.kmk r hr r' hr'
  ·rw [List.mem_singleton.1 hr']; have := lt r hr; simp only; omega
  ·rw [List.mem_singleton.1 hr]; have := lt r' hr'; simp only; omega
  ·rw [List.mem_singleton.1 hr,List.mem_singleton.1 hr']; simp
 ·rcases List.mem_append.1 hr with hr | hr
  ·exact a.low.2 r hr
  ·rw [List.mem_singleton.1 hr]; simp only; omega
theorem findK_str {k : List UInt8} : ∀ {es : List (V × V × Nat)} {i : Nat},(∀ e ∈ es, ∃ s,e.1 = .str s) → ∃ r,findK .str (.str k) es i = some r
 | [],i,_ => ⟨none,rfl⟩
 | e :: es,i,h => by
  obtain ⟨s,hs⟩ := h e List.mem_cons_self
  obtain ⟨r,hr⟩ := findK_str (k := k) (es := es) (i := i + 1) fun e he => h e (List.mem_cons_of_mem _ he)
  cases hb : k == s with
  | true => exact ⟨_,by simp only [findK,hs,sameK,hb]; rfl⟩
  | false => exact ⟨r,by simp only [findK,hs,sameK,hb]; exact hr⟩
abbrev bareH (h : H) : H := ((h.psh (mo [])).psh (mo [])).psh (.cells [.int .i64 0,.str [],.map (some h.size),.map (some (h.size + 1))] 141 false false none)
theorem bareH_size (h : H) : (bareH h).size = h.size + 3 := rfl
theorem bareH_kp (h : H) : Kp h (bareH h) := ((Keeps.psh (Nat.le_refl _) _).trans (Keeps.psh (by rw [psh_size]; omega) _)).trans (Keeps.psh (by rw [psh_size,psh_size]; omega) _)
theorem bareH_0 (h : H) : (bareH h).get h.size = some (mo []) := psh_old (psh_old (psh_same _ _) _) _
theorem bareH_1 (h : H) : (bareH h).get (h.size + 1) = some (mo []) := psh_old (psh_same (h.psh (mo [])) _) _
theorem bareH_2 (h : H) : (bareH h).get (h.size + 2) = some (.cells [.int .i64 0,.str [],.map (some h.size),.map (some (h.size + 1))] 141 false false none) := psh_same ((h.psh (mo [])).psh (mo [])) _
theorem TrG.add {lo : Nat} {h : H} {mp : Nat} {N : List Nd} {ks : Nd → List Int} (a : TrG lo h mp N ks) (hlo : lo ≤ h.size) {id : Int} (hid : id ∉ N.map Nd.id) (hks : ∀ r,ks r = []) :
  TrG lo ((bareH h).set mp (mo ((N ++ [Nd.mk id 0 [] (h.size + 2) h.size (h.size + 1)]).map Nd.ent))) mp (N ++ [Nd.mk id 0 [] (h.size + 2) h.size (h.size + 1)]) ks := by
 have hmp := H.get_lt a.nodes
 have hmb : mp < (bareH h).size := by rw [bareH_size]; omega
 have old : ∀ {i o},(bareH h).get i = some o → mp ≠ i → ((bareH h).set mp (mo ((N ++ [Nd.mk id 0 [] (h.size + 2) h.size (h.size + 1)]).map Nd.ent))).get i = some o := fun {i o} hg hn => by
  rw [hset_other hmb hn]; exact hg
 exact a.new hlo hid hks (fun i o hi hg => old ((bareH_kp h).of hg) (Ne.symm hi)) (hset_same hmb _) (old (bareH_0 h) (by omega)) (old (bareH_1 h) (by omega)) (old (bareH_2 h) (by omega))
set_option maxHeartbeats 1000000 in
theorem new73 (F : Ft E) (h : H) : Sp P E (.func 73 [] []) [] h fun v h' => ∃ t mp N,v = .ptr (some (t,0)) ∧ TrG h.size h' mp N (fun _ => []) ∧ Rt h' t mp ∧ N.map Nd.np = [(1,0),(2,0)] ∧ (∀ r ∈ N,r.name = []) ∧ Kp h h' := by
 refine Sp_fn F.f73 F.p73 (by simp [fn73]) ?_
 simp only [GR,evK,binV,intOp,strOp,shOp,unV,Nat.reduceLT,Nat.reduceEqDiff,Nat.reduceAdd,↓reduceIte,Nat.reduceLeDiff,reduceCtorEq,fn73,c73,r73_0]
 have k1 : Kp h (h.psh (.map [] 0)) := Keeps.psh (Nat.le_refl _) _
 have t1 : TrG h.size (h.psh (.map [] 0)) h.size [] (fun _ => []) := ⟨psh_same _ _,List.nodup_nil,by simp,by simp,by simp,by simp,by simp,Nat.le_refl _,by simp⟩
 have s1 : (h.psh (.map [] 0)).size = h.size + 1 := psh_size _ _
 generalize h.psh (.map [] 0) = h1 at *
 refine XC_of (bare76 F h1) ?_
 rintro _ _ ⟨rfl,rfl⟩
 have g1 : (bareH h1).get h.size = some (.map [] 0) := (bareH_kp h1).of t1.nodes
 have t2 := t1.add (id := 1) (by omega) (by simp) (fun _ => rfl)
 have k2 : Keeps h.size h ((bareH h1).set h.size (mo (([] ++ [Nd.mk 1 0 [] (h1.size + 2) h1.size (h1.size + 1)]).map Nd.ent))) :=
  Keeps.trans (n := h.size) (Keeps.trans (n := h.size) k1 ((bareH_kp h1).mono (by omega))) (Keeps.set (h := bareH h1) (i := h.size) (by rw [bareH_size]; omega) (Nat.le_refl _) _)
 simp only [List.nil_append,List.map_cons,List.map_nil,Nd.ent,mo,mos,List.length_cons,List.length_nil,Nat.zero_add] at t2 k2
 simp only [GR,evK,binV,intOp,strOp,shOp,unV,Nat.reduceLT,Nat.reduceEqDiff,Nat.reduceAdd,↓reduceIte,Nat.reduceLeDiff,reduceCtorEq,g1,findK]
 have s2 : ((bareH h1).set h.size (.map [(.int .i64 1,.ptr (some (h1.size + 2,0)),0)] 1)).size = h1.size + 3 := rfl
 generalize (bareH h1).set h.size (.map [(.int .i64 1,.ptr (some (h1.size + 2,0)),0)] 1) = h2 at *
 refine XC_of (bare76 F h2) ?_
 rintro _ _ ⟨rfl,rfl⟩
 have g2 : (bareH h2).get h.size = some (.map [(.int .i64 1,.ptr (some (h1.size + 2,0)),0)] 1) := (bareH_kp h2).of t2.nodes
 have t3 := t2.add (id := 2) (by omega) (by simp) (fun _ => rfl)
 have k3 : Keeps h.size h ((bareH h2).set h.size (mo (([Nd.mk 1 0 [] (h1.size + 2) h1.size (h1.size + 1)] ++ [Nd.mk 2 0 [] (h2.size + 2) h2.size (h2.size + 1)]).map Nd.ent))) :=
  Keeps.trans (n := h.size) (Keeps.trans (n := h.size) k2 ((bareH_kp h2).mono (by omega))) (Keeps.set (h := bareH h2) (i := h.size) (by rw [bareH_size]; omega) (Nat.le_refl _) _)
 simp only [List.cons_append,List.nil_append,List.map_cons,List.map_nil,Nd.ent,mo,mos,List.length_cons,List.length_nil,Nat.zero_add,Nat.reduceAdd] at t3 k3
 have hne : ((2 : Int) == 1) = false := rfl
 simp only [GR,evK,binV,intOp,strOp,shOp,unV,Nat.reduceLT,Nat.reduceEqDiff,Nat.reduceAdd,↓reduceIte,Nat.reduceLeDiff,reduceCtorEq,g2,findK,sameK,hne]
 generalize (bareH h2).set h.size (.map [(.int .i64 1,.ptr (some (h1.size + 2,0)),0),(.int .i64 2,.ptr (some (h2.size + 2,0)),1)] 2) = h3 at *
 have k45 : ∀ a b : Obj,Kp h3 ((h3.psh a).psh b) := fun a b => (Keeps.psh (Nat.le_refl _) a).trans (Keeps.psh (by rw [psh_size]; omega) b)
 refine ⟨_,_,_,rfl,t3.kp (k45 _ _),⟨_,_,_,_,_,psh_same _ _⟩,rfl,by simp,k3.trans' (by omega) (k45 _ _)⟩
theorem put_fresh (h : H) {vs ws : List V} {ty : Nat} (hl : ws.length = vs.length) (h1 : ws.all V.one = true) (hne : ws.isEmpty = false) :
  ∃ h',putCells (h.psh (.cells vs ty false false none)) h.size 0 ws = some h' ∧ h'.get h.size = some (.cells ws ty false false none) ∧ Kp h h' ∧ h'.size = h.size + 1 := by
 have hg := psh_same h (.cells vs ty false false none)
 have hset : setR vs 0 ws = ws := by simp [setR,hl]
 refine ⟨(h.psh (.cells vs ty false false none)).set h.size (.cells ws ty false false none),?_,hset_same (H.get_lt hg) _,Keeps.trans (n := h.size) (Keeps.psh (Nat.le_refl _) _) (Keeps.set (H.get_lt hg) (Nat.le_refl _) _),rfl⟩
 unfold putCells
 simp only [hne,Bool.false_eq_true,if_false,hg,Nat.zero_add,hl,Nat.le_refl,h1,fzFree,and_self,if_true,hset]
def leqB (a b : List UInt8) : Bool := Op.bytesLess a b || a == b
def attrsB : List UInt8 → List Attr → Bool
 | _,[] => true
 | key,a :: r => !(leqB a.key key) && !(a.value == []) && pairB a.key a.value && attrsB a.key r
theorem attrsB_at {as : List Attr} {j : Nat} {key : List UInt8} (hj : j < as.length) : attrsB key (as.drop j) = (!(leqB as[j].key key) && !(as[j].value == []) && pairB as[j].key as[j].value && attrsB as[j].key (as.drop (j + 1))) := by
 rw [List.drop_eq_getElem_cons hj]; rfl
set_option maxHeartbeats 1000000 in
theorem loop19 (F : Ft E) {hb : H} {t mp : Nat} {N : List Nd} {r : Nd} (hr : r ∈ N) {av : V} {as : List Attr} (hs : Sl hb 2 av (as.map Attr.cells)) (hl : as.length ≤ 1048576) {u4 u5 u16 u17 u18 : V} {K : List Fr} {Q : Po}
  (contN : ∀ (ρ' : Nat → V) (h' : H),attrsB [] as = true → ρ' 4 = u4 → ρ' 5 = u5 → ρ' 16 = u16 → ρ' 17 = u17 → ρ' 18 = u18 → TrG hb.size h' mp N (fun _ => []) → Rt h' t mp → Kp hb h' → X P E none 148 K ρ' h' Q)
  (contB : ∀ (ρ' : Nat → V) (h' : H),attrsB [] as = false → ρ' 2 = .ptr none → ρ' 3 = .int .i64 121 → Kp hb h' → Q .ret (toL 148 ρ') h') :
  ∀ (d j : Nat) (key : List UInt8) (ρ : Nat → V) (h : H),as.length - j = d → j ≤ as.length → attrsB [] as = attrsB key (as.drop j) → ρ 4 = u4 → ρ 5 = u5 → ρ 16 = u16 → ρ 17 = u17 → ρ 18 = u18 → ρ 8 = .ptr (some (r.b,0)) → ρ 9 = .str key → ρ 80 = av → ρ 81 = .int .i64 as.length → ρ 82 = .int .i64 j → TrG hb.size h mp N (fun _ => []) → Rt h t mp → Kp hb h →
   XL P E none 148 b67_19 (.b 2 :: K) ρ h Q := by
 intro d
 induction d with
 | zero =>
  intro j key ρ h hd hj hat q4 q5 q16 q17 q18 q8 q9 q80 q81 q82 tr rt kk
  have hje : ¬ j < as.length := by omega
  rw [List.drop_eq_nil_of_le (by omega)] at hat
  rw [u67_19]
  simp only [GR,evK,binV,intOp,strOp,shOp,unV,Nat.reduceLT,Nat.reduceEqDiff,Nat.reduceAdd,↓reduceIte,Nat.reduceLeDiff,reduceCtorEq,q81,q82,Int.ofNat_lt,hje]
  exact contN _ h hat q4 q5 q16 q17 q18 tr rt kk
 | succ d ih =>
  intro j key ρ h hd hj hat q4 q5 q16 q17 q18 q8 q9 q80 q81 q82 tr rt kk
  have hje : j < as.length := by omega
  obtain ⟨b,o,cap,opn,cs,ty,op,ro,fz,v1,hg,hll,he⟩ := (hs.keep kk).get (k := j) (x := as[j].cells) (by simp [hje])
  have q80' : ρ 80 = V.slice (some (b,o)) as.length cap opn := by rw [q80,v1,List.length_map]
  have fl : ∀ z : Attr,z.cells.length = 2 := fun _ => rfl
  obtain ⟨h3,e3,g3,k3,z3⟩ := put_fresh h (vs := [.str [],.str []]) (ws := as[j].cells) (ty := 115) rfl rfl rfl
  unfold getR at he
  have hw : IntKind.i64.wrap ((j : Int) + 1) = ((j + 1 : Nat) : Int) := wrap_nat (n := j + 1) (by omega)
  rw [attrsB_at hje] at hat
  have hc : as[j].cells = [.str as[j].key,.str as[j].value] := rfl
  rw [hc] at e3 g3 he
  generalize as[j].key = ak at *
  generalize as[j].value = av1 at *
  have kk3 := Kp.trans kk k3
  have tr3 := tr.kp k3
  have rt3 := rt.mc (MCk.kp k3)
  have hj' : ∀ n : Nat,((j : Int) < (n : Int)) = (j < n) := fun n => by apply propext; omega
  rw [u67_19]
  cases e1 : Op.bytesLess ak key || ak == key with
  | true =>
   have hbad : attrsB [] as = false := by rw [hat]; simp [leqB,e1]
   simp only [GR,evK,binV,intOp,strOp,shOp,unV,Nat.reduceLT,Nat.reduceEqDiff,Nat.reduceAdd,↓reduceIte,Nat.reduceLeDiff,reduceCtorEq,q81,q82,Int.ofNat_lt,hje,r67_13,q80',Int.natCast_nonneg,Int.toNat_natCast,hg,hll,he,e3,r67_14,g3,q9,e1,r67_15]
   exact contB _ _ hbad rfl rfl kk3
  | false =>
   cases e2 : av1 == [] with
   | true =>
    have hbad : attrsB [] as = false := by rw [hat]; simp [leqB,e1,e2]
    simp only [GR,evK,binV,intOp,strOp,shOp,unV,Nat.reduceLT,Nat.reduceEqDiff,Nat.reduceAdd,↓reduceIte,Nat.reduceLeDiff,reduceCtorEq,q81,q82,Int.ofNat_lt,hje,r67_13,q80',Int.natCast_nonneg,Int.toNat_natCast,hg,hll,he,e3,r67_14,g3,q9,e1,e2,r67_15]
    exact contB _ _ hbad rfl rfl kk3
   | false =>
    simp only [GR,evK,binV,intOp,strOp,shOp,unV,Nat.reduceLT,Nat.reduceEqDiff,Nat.reduceAdd,↓reduceIte,Nat.reduceLeDiff,reduceCtorEq,q81,q82,Int.ofNat_lt,hje,r67_13,q80',Int.natCast_nonneg,Int.toNat_natCast,hg,hll,he,e3,r67_14,g3,q9,e1,e2]
    refine XC_of (pair77 F ak av1 h3) ?_
    rintro _ _ ⟨rfl,rfl⟩
    cases e5 : pairB ak av1 with
    | false =>
     have hbad : attrsB [] as = false := by rw [hat]; simp [e5]
     simp only [GR,evK,binV,intOp,strOp,shOp,unV,Nat.reduceLT,Nat.reduceEqDiff,Nat.reduceAdd,↓reduceIte,Nat.reduceLeDiff,reduceCtorEq,r67_15]
     exact contB _ _ hbad rfl rfl kk3
    | true =>
     have hnd := tr3.at_ r hr
     have gc := hnd.cell
     obtain ⟨es,cl,ga,hes⟩ := hnd.attr
     obtain ⟨fr,hfr⟩ := findK_str (k := ak) (i := 0) hes
     have hlow := tr3.low.2 r hr
     simp only [GR,evK,binV,intOp,strOp,shOp,unV,Nat.reduceLT,Nat.reduceEqDiff,Nat.reduceAdd,↓reduceIte,Nat.reduceLeDiff,reduceCtorEq,r67_16,g3]
     rw [X_draw]
     refine d67_17 ?_
     cases fr with
     | none =>
      simp only [GR,evK,binV,intOp,strOp,shOp,unV,Nat.reduceLT,Nat.reduceEqDiff,Nat.reduceAdd,↓reduceIte,Nat.reduceLeDiff,reduceCtorEq,r67_17,q8,gc,g3,ga,hfr,r67_18,q82,hw]
      refine ih (j + 1) ak _ _ (by omega) (by omega) (by rw [hat]; simp [leqB,e1,e2,e5]) q4 q5 q16 q17 q18 q8 rfl q80 q81 rfl (tr3.setA hr ?_) (rt3.mc (MCk.set ga)) (Keeps.trans kk3 (Keeps.set (H.get_lt ga) hlow.2.1 _))
      intro e he
      rcases List.mem_append.1 he with he | he
      ·exact hes e he
      ·rw [List.mem_singleton.1 he]; exact ⟨_,rfl⟩
     | some p =>
      obtain ⟨i,u⟩ := p
      simp only [GR,evK,binV,intOp,strOp,shOp,unV,Nat.reduceLT,Nat.reduceEqDiff,Nat.reduceAdd,↓reduceIte,Nat.reduceLeDiff,reduceCtorEq,r67_17,q8,gc,g3,ga,hfr,r67_18,q82,hw]
      refine ih (j + 1) ak _ _ (by omega) (by omega) (by rw [hat]; simp [leqB,e1,e2,e5]) q4 q5 q16 q17 q18 q8 rfl q80 q81 rfl (tr3.setA hr ?_) (rt3.mc (MCk.set ga)) (Keeps.trans kk3 (Keeps.set (H.get_lt ga) hlow.2.1 _))
      intro e he
      obtain ⟨n,hn⟩ := List.getElem?_of_mem he
      rw [List.getElem?_modify] at hn
      by_cases hin : i = n
      ·subst hin
       cases hx : es[i]? with
       | none => simp [hx] at hn
       | some x => simp [hx] at hn; subst hn; exact ⟨_,rfl⟩
      ·simp [hin] at hn
       exact hes e (List.mem_of_getElem? hn)
def headB (last : Int) (d : DNode) : Bool := decide (last < d.node) && (if topI d.node then (d.parent == 0 && d.name == []) else nameB d.name)
def nodesB : Int → List DNode → Bool
 | _,[] => true
 | last,d :: r => headB last d && attrsB [] d.attrs && nodesB d.node r
theorem nodesB_at {ds : List DNode} {k : Nat} {last : Int} (hk : k < ds.length) : nodesB last (ds.drop k) = (headB last ds[k] && attrsB [] ds[k].attrs && nodesB ds[k].node (ds.drop (k + 1))) := by
 rw [List.drop_eq_getElem_cons hk]; rfl
def treeNP (ds : List DNode) : List NP := [(1,0),(2,0)] ++ (ds.filter fun d => !topI d.node).map fun d => (d.node,d.parent)
theorem treeNP_take {ds : List DNode} {k : Nat} (hk : k < ds.length) : treeNP (ds.take (k + 1)) = if topI ds[k].node then treeNP (ds.take k) else treeNP (ds.take k) ++ [(ds[k].node,ds[k].parent)] := by
 unfold treeNP
 rw [List.take_succ_eq_append_getElem hk,List.filter_append,List.map_append]
 cases h : topI ds[k].node <;> simp [h]
structure Laid (N : List Nd) (ds : List DNode) (last : Int) : Prop where
 np : N.map Nd.np = treeNP ds
 tn : ∀ r ∈ N,topI r.id = true → r.par = 0 ∧ r.name = []
 le : ∀ r ∈ N,topI r.id = false → r.id ≤ last
theorem Laid.tops {N : List Nd} {ds : List DNode} {last : Int} (a : Laid N ds last) {n : Int} (hn : topI n = true) : n ∈ N.map Nd.id := by
 rw [← np_id,a.np]
 simp only [topI,Bool.or_eq_true,beq_iff_eq] at hn
 rcases hn with rfl | rfl <;> simp [treeNP]
set_option maxHeartbeats 4000000 in
theorem loop21 (F : Ft E) {hb : H} {t mp : Nat} {lv : V} {ns : List (TNode × DNode)} (hs : Sl hb 4 lv (ns.map fun p => p.1.cells)) (hin : ∀ p ∈ ns,NIn hb p.1 p.2) (hl : ns.length ≤ 1048576) {K : List Fr} {Q : Po}
  (contN : ∀ (ρ' : Nat → V) (h' : H) (N : List Nd) (last : Int),nodesB 0 (ns.map (·.2)) = true → ρ' 4 = .ptr (some (t,0)) → TrG hb.size h' mp N (fun _ => []) → Rt h' t mp → Laid N (ns.map (·.2)) last → Kp hb h' → X P E none 148 K ρ' h' Q)
  (contB : ∀ (ρ' : Nat → V) (h' : H),nodesB 0 (ns.map (·.2)) = false → ρ' 2 = .ptr none → ρ' 3 = .int .i64 121 → Kp hb h' → Q .ret (toL 148 ρ') h') :
  ∀ (d k : Nat) (last : Int) (N : List Nd) (ρ : Nat → V) (h : H),ns.length - k = d → k ≤ ns.length → nodesB 0 (ns.map (·.2)) = nodesB last ((ns.map (·.2)).drop k) → 0 ≤ last → ρ 4 = .ptr (some (t,0)) → ρ 5 = .int .i64 last → ρ 16 = lv → ρ 17 = .int .i64 ns.length → ρ 18 = .int .i64 k → TrG hb.size h mp N (fun _ => []) → Rt h t mp → Laid N ((ns.map (·.2)).take k) last → Kp hb h →
   XL P E none 148 b67_21 (.b 0 :: K) ρ h Q := by
 intro d
 induction d with
 | zero =>
  intro k last N ρ h hd hk hnb h0 q4 q5 q16 q17 q18 tr rt la kk
  have hke : ¬ k < ns.length := by omega
  rw [List.drop_eq_nil_of_le (by simp; omega)] at hnb
  rw [List.take_of_length_le (by simp; omega)] at la
  rw [u67_21]
  simp only [GR,evK,binV,intOp,strOp,shOp,unV,Nat.reduceLT,Nat.reduceEqDiff,Nat.reduceAdd,↓reduceIte,Nat.reduceLeDiff,reduceCtorEq,q17,q18,Int.ofNat_lt,hke]
  exact contN _ h N last hnb q4 tr rt la kk
 | succ d ih =>
  intro k last N ρ h hd hk hnb h0 q4 q5 q16 q17 q18 tr rt la kk
  have hke : k < ns.length := by omega
  have hkm : k < (ns.map (·.2)).length := by simpa using hke
  obtain ⟨b,o,cap,opn,cs,ty,op,ro,fz,v1,hg,hll,he⟩ := (hs.keep kk).get (k := k) (x := ns[k].1.cells) (by simp [hke])
  have q16' : ρ 16 = V.slice (some (b,o)) ns.length cap opn := by rw [q16,v1,List.length_map]
  have nin := hin _ (List.getElem_mem hke)
  have hdk : (ns.map (·.2))[k] = ns[k].2 := by simp
  have hsa := nin.attrs
  obtain ⟨sa,sc,so,hav⟩ := hsa.len
  rw [List.length_map] at hav
  have hxc : ns[k].1.cells = [.int .i64 ns[k].2.node,.int .i64 ns[k].2.parent,.str ns[k].2.name,ns[k].1.attrs] := by
   simp only [TNode.cells,nin.node,nin.parent,nin.name]
  rw [hxc,hav] at he
  rw [hav] at hsa
  have hal := nin.len
  rw [nodesB_at hkm,hdk] at hnb
  have htk := treeNP_take hkm
  rw [hdk] at htk
  obtain ⟨h3,e3,g3,k3,z3⟩ := put_fresh h (vs := [.int .i64 0,.int .i64 0,.str [],.slice none 0 0 false]) (ws := [.int .i64 ns[k].2.node,.int .i64 ns[k].2.parent,.str ns[k].2.name,.slice sa ns[k].2.attrs.length sc so]) (ty := 67) rfl rfl rfl
  generalize ns[k].2 = dn at *
  obtain ⟨nd,pa,nm,ats⟩ := dn
  simp only at *
  unfold getR at he
  have hw : IntKind.i64.wrap ((k : Int) + 1) = ((k + 1 : Nat) : Int) := wrap_nat (n := k + 1) (by omega)
  have kk3 := Kp.trans kk k3
  have tr3 := tr.kp k3
  have rt3 := rt.mc (MCk.kp k3)
  have hl3 : hb.size ≤ h3.size := kk3.size
  -- the rest,behind the head's checks
  have rest : ∀ (ρ' : Nat → V) (h4 : H),headB last ⟨nd,pa,nm,ats⟩ = true → Kp h3 h4 → ρ' 4 = .ptr (some (t,0)) → ρ' 7 = .ptr (some (h.size,0)) → ρ' 16 = lv → ρ' 17 = .int .i64 ns.length → ρ' 18 = .int .i64 k →
    XO P E none 148 r67_6 (.c (.seq (.draw r67_7) (.seq (.seq (.region r67_8) (.cond (.t 62) (.seq (.region r67_9) (.draw r67_10)) (.skip))) (.seq (.region r67_11) (.seq (.region [⟨some 9,.mv (.k (.str [])),none,0,[9]⟩]) (.seq (.region r67_12) (.block 2 (.loop b67_19))))))) :: .b 1 :: .c (.region r67_20) :: .l b67_21 :: .b 0 :: K) ρ' h4 Q := by
   intro ρ' h4 hh k4 w4 w7 w16 w17 w18
   have kk4 := Kp.trans kk3 k4
   have tr4 := tr3.kp k4
   have rt4 := rt3.mc (MCk.kp k4)
   have g4 := k4.of g3
   have hl4 : hb.size ≤ h4.size := kk4.size
   have hh0 := hh
   simp only [headB,Bool.and_eq_true,decide_eq_true_eq] at hh
   obtain ⟨hlt,hhd⟩ := hh
   have tail : ∀ (ρ5 : Nat → V) (h5 : H) (N' : List Nd) (r : Nd),r ∈ N' → ρ5 4 = .ptr (some (t,0)) → ρ5 5 = .int .i64 nd → ρ5 7 = .ptr (some (h.size,0)) → ρ5 8 = .ptr (some (r.b,0)) → ρ5 16 = lv → ρ5 17 = .int .i64 ns.length → ρ5 18 = .int .i64 k →
     h5.get r.b = some (.cells [.int .i64 r.par,.str r.name,.map (some r.am),.map (some r.km)] 141 false false none) → (∀ h6,h6 = h5.set r.b (.cells [.int .i64 pa,.str nm,.map (some r.am),.map (some r.km)] 141 false false none) → ∃ N2 r2,r2 ∈ N2 ∧ r2.b = r.b ∧ TrG hb.size h6 mp N2 (fun _ => []) ∧ Rt h6 t mp ∧ Laid N2 ((ns.map (·.2)).take (k + 1)) nd ∧ Kp hb h6 ∧ h6.get h.size = some (.cells [.int .i64 nd,.int .i64 pa,.str nm,.slice sa ats.length sc so] 67 false false none)) →
     XO P E none 148 r67_11 (.c (.seq (.region [⟨some 9,.mv (.k (.str [])),none,0,[9]⟩]) (.seq (.region r67_12) (.block 2 (.loop b67_19)))) :: .b 1 :: .c (.region r67_20) :: .l b67_21 :: .b 0 :: K) ρ5 h5 Q := by
    intro ρ5 h5 N' r hr x4 x5 x7 x8 x16 x17 x18 gb hh6
    have g5 : h5.get h.size = some (.cells [.int .i64 nd,.int .i64 pa,.str nm,.slice sa ats.length sc so] 67 false false none) := by
     obtain ⟨N2,r2,_,_,_,_,_,_,g6⟩ := hh6 _ rfl
     by_cases hbe : r.b = h.size
     ·rw [hbe,hset_same (by rw [← hbe]; exact H.get_lt gb)] at g6; cases g6
     ·rw [hset_other (H.get_lt gb) hbe] at g6; exact g6
    have e6 : putCells h5 r.b 0 [.int .i64 pa,.str nm] = some (h5.set r.b (.cells [.int .i64 pa,.str nm,.map (some r.am),.map (some r.km)] 141 false false none)) := by
     simp [putCells,gb,fzFree,V.one,setR]
    obtain ⟨N2,r2,hr2,hbb,tr6,rt6,la6,kk6,g6⟩ := hh6 _ rfl
    generalize h5.set r.b (.cells [.int .i64 pa,.str nm,.map (some r.am),.map (some r.km)] 141 false false none) = h6 at *
    simp only [GR,evK,binV,intOp,strOp,shOp,unV,Nat.reduceLT,Nat.reduceEqDiff,Nat.reduceAdd,↓reduceIte,Nat.reduceLeDiff,reduceCtorEq,r67_11,x8,x7,g5,e6,r67_12,g6]
    refine loop19 F hr2 (u4 := .ptr (some (t,0))) (u5 := .int .i64 nd) (u16 := lv) (u17 := .int .i64 ns.length) (u18 := .int .i64 k) hsa hal ?_ ?_ _ 0 [] _ _ rfl (Nat.zero_le _) rfl x4 x5 x16 x17 x18 (by rw [hbb]; exact x8) rfl rfl rfl rfl tr6 rt6 kk6
    ·intro ρ6 h7 hat y4 y5 y16 y17 y18 tr7 rt7 kk7
     simp only [GR,evK,binV,intOp,strOp,shOp,unV,Nat.reduceLT,Nat.reduceEqDiff,Nat.reduceAdd,↓reduceIte,Nat.reduceLeDiff,reduceCtorEq,r67_20,y18,hw]
     refine ih (k + 1) nd N2 _ h7 (by omega) (by omega) ?_ (by omega) y4 y5 y16 y17 rfl tr7 rt7 la6 kk7
     rw [hnb,hat,hh0]; simp
    ·intro ρ6 h7 hat y2 y3 kk7
     exact contB ρ6 h7 (by rw [hnb,hat]; simp) y2 y3 kk7
   have hgm : h4.get mp = some (.map (mos (N.map Nd.ent) 0) (N.map Nd.ent).length) := tr4.nodes
   obtain ⟨rcs,rty,rop,rro,rfz,hroot⟩ := rt4
   cases htop : topI nd with
   | true =>
    rw [htop] at hhd
    simp only [if_true,Bool.and_eq_true,beq_iff_eq] at hhd
    obtain ⟨rfl,rfl⟩ := hhd
    obtain ⟨r,hr,hid⟩ := List.mem_map.1 (la.tops htop)
    obtain ⟨i,hi⟩ := List.getElem?_of_mem hr
    have hf := findK_at (k := 0) (j := 0) tr4.nd hi hid
    have gc := (tr4.at_ r hr).cell
    obtain ⟨hp0,hn0⟩ := la.tn r hr (by rw [hid]; exact htop)
    simp only [GR,evK,binV,intOp,strOp,shOp,unV,Nat.reduceLT,Nat.reduceEqDiff,Nat.reduceAdd,↓reduceIte,Nat.reduceLeDiff,reduceCtorEq,r67_6,w7,g4]
    rw [X_draw,d67_7]
    simp only [GR,evK,binV,intOp,strOp,shOp,unV,Nat.reduceLT,Nat.reduceEqDiff,Nat.reduceAdd,↓reduceIte,Nat.reduceLeDiff,reduceCtorEq,r67_7,w4,w7,hroot,g4,hgm,hf,r67_8,eqV,Option.isNone_some]
    refine tail _ _ N r hr ?_ ?_ ?_ ?_ ?_ ?_ ?_ gc fun h6 e6 => ?_
    ·exact w4
    ·rfl
    ·exact w7
    ·rfl
    ·exact w16
    ·exact w17
    ·exact w18
    have hsame := set_self gc
    rw [hp0,hn0] at hsame
    rw [← e6] at hsame
    refine ⟨N,r,hr,rfl,tr4.same hsame,?_,⟨?_,la.tn,fun r hr ht => by have := la.le r hr ht; omega⟩,?_,hsame _ _ g4⟩
    ·exact ⟨rcs,rty,rop,rro,rfz,hsame _ _ hroot⟩
    ·rw [htk,htop,la.np]; rfl
    ·rw [e6]; exact Keeps.trans kk4 (Keeps.set (H.get_lt gc) (tr4.low.2 r hr).1 _)
   | false =>
    rw [htop] at hhd
    simp only [Bool.false_eq_true,if_false] at hhd
    have hno : nd ∉ N.map Nd.id := by
     intro hm
     obtain ⟨r,hr,rfl⟩ := List.mem_map.1 hm
     have := la.le r hr htop
     omega
    have hf := findK_no (k := 0) (j := 0) hno
    simp only [GR,evK,binV,intOp,strOp,shOp,unV,Nat.reduceLT,Nat.reduceEqDiff,Nat.reduceAdd,↓reduceIte,Nat.reduceLeDiff,reduceCtorEq,r67_6,w7,g4]
    rw [X_draw,d67_7]
    simp only [GR,evK,binV,intOp,strOp,shOp,unV,Nat.reduceLT,Nat.reduceEqDiff,Nat.reduceAdd,↓reduceIte,Nat.reduceLeDiff,reduceCtorEq,r67_7,w4,w7,hroot,g4,hgm,hf,r67_8,eqV,Option.isNone_none,r67_9]
    refine XC_of (bare76 F h4) ?_
    rintro _ _ ⟨rfl,rfl⟩
    have hroot' := (bareH_kp h4).of hroot
    have g4' := (bareH_kp h4).of g4
    have hgm' := (bareH_kp h4).of hgm
    have tr5 := tr4.add hl4 hno (fun _ => rfl)
    have gt5 : ((bareH h4).set mp (mo ((N ++ [Nd.mk nd 0 [] (h4.size + 2) h4.size (h4.size + 1)]).map Nd.ent))).get h.size = some (.cells [.int .i64 nd,.int .i64 pa,.str nm,.slice sa ats.length sc so] 67 false false none) := MCk.set hgm' _ _ g4' (by intro _ _ e; cases e)
    have rt5 : Rt ((bareH h4).set mp (mo ((N ++ [Nd.mk nd 0 [] (h4.size + 2) h4.size (h4.size + 1)]).map Nd.ent))) t mp := Rt.mc ⟨rcs,rty,rop,rro,rfz,hroot'⟩ (MCk.set hgm')
    have kk5 : Kp hb ((bareH h4).set mp (mo ((N ++ [Nd.mk nd 0 [] (h4.size + 2) h4.size (h4.size + 1)]).map Nd.ent))) := Keeps.trans (n := hb.size) (Keeps.trans' kk4 (Nat.le_refl _) (bareH_kp h4)) (Keeps.set (h := bareH h4) (i := mp) (H.get_lt hgm') tr4.low.1 _)
    have hmo : mo ((N ++ [Nd.mk nd 0 [] (h4.size + 2) h4.size (h4.size + 1)]).map Nd.ent) = .map (mos (N.map Nd.ent) 0 ++ [(.int .i64 nd,.ptr (some (h4.size + 2,0)),(N.map Nd.ent).length)]) ((N.map Nd.ent).length + 1) := by
     simp [mo,mos_append,Nd.ent]
    simp only [GR,evK,binV,intOp,strOp,shOp,unV,Nat.reduceLT,Nat.reduceEqDiff,Nat.reduceAdd,↓reduceIte,Nat.reduceLeDiff,reduceCtorEq]
    rw [X_draw]
    refine d67_10 ?_
    simp only [GR,evK,binV,intOp,strOp,shOp,unV,Nat.reduceLT,Nat.reduceEqDiff,Nat.reduceAdd,↓reduceIte,Nat.reduceLeDiff,reduceCtorEq,r67_10,w4,w7,hroot',g4',hgm',hf,← hmo]
    have hm5 : Nd.mk nd 0 [] (h4.size + 2) h4.size (h4.size + 1) ∈ N ++ [Nd.mk nd 0 [] (h4.size + 2) h4.size (h4.size + 1)] := by simp
    have gc := (tr5.at_ _ hm5).cell
    refine tail _ _ _ _ hm5 ?_ ?_ ?_ ?_ ?_ ?_ ?_ gc fun h6 e6 => ?_
    ·exact w4
    ·rfl
    ·exact w7
    ·rfl
    ·exact w16
    ·exact w17
    ·exact w18
    have hmp4 := H.get_lt hgm
    have hh4 := H.get_lt g4
    have hmb : mp < (bareH h4).size := by rw [bareH_size]; omega
    have hb2 : h4.size + 2 < ((bareH h4).set mp (mo ((N ++ [Nd.mk nd 0 [] (h4.size + 2) h4.size (h4.size + 1)]).map Nd.ent))).size := by rw [H.set_size,bareH_size]; omega
    have hb2' : h4.size + 2 < (bareH h4).size := by rw [bareH_size]; omega
    simp only at e6
    have old : ∀ i o,i ≠ mp → (bareH h4).get i = some o → i ≠ h4.size + 2 → h6.get i = some o := fun i o hi hg hi2 => by
     rw [e6,hset_other hb2 (Ne.symm hi2),hset_other hmb (Ne.symm hi)]; exact hg
    have g6 : h6.get h.size = some (.cells [.int .i64 nd,.int .i64 pa,.str nm,.slice sa ats.length sc so] 67 false false none) := by
     rw [e6,hset_other hb2 (by omega)]; exact gt5
    refine ⟨N ++ [Nd.mk nd pa nm (h4.size + 2) h4.size (h4.size + 1)],_,List.mem_append.2 (.inr (List.mem_singleton.2 rfl)),rfl,tr4.new hl4 hno (fun _ => rfl) (fun i o hi hg => ?_) ?_ ?_ ?_ ?_,?_,⟨?_,fun r hr ht => ?_,fun r hr ht => ?_⟩,?_,g6⟩
    ·have := H.get_lt hg
     exact old i o hi ((bareH_kp h4).of hg) (by omega)
    ·rw [e6,hset_other hb2 (by omega),hset_same hmb]
     simp [Nd.ent]
    ·exact old _ _ (by omega) (bareH_0 h4) (by omega)
    ·exact old _ _ (by omega) (bareH_1 h4) (by omega)
    ·rw [e6]; exact hset_same hb2 _
    ·obtain ⟨cs',ty',op',ro',fz',g'⟩ := rt5
     have hne : h4.size + 2 ≠ t := by have := H.get_lt hroot; omega
     exact ⟨cs',ty',op',ro',fz',by rw [e6,hset_other hb2 hne]; exact g'⟩
    ·rw [htk,htop,List.map_append,la.np]; rfl
    ·rcases List.mem_append.1 hr with hr | hr
     ·exact la.tn r hr ht
     ·rw [List.mem_singleton.1 hr] at ht; simp only at ht; rw [htop] at ht; cases ht
    ·rcases List.mem_append.1 hr with hr | hr
     ·have := la.le r hr ht; omega
     ·rw [List.mem_singleton.1 hr]; exact Int.le_refl _
    ·rw [e6]; exact Keeps.trans kk5 (Keeps.set hb2 (by omega) _)
  have hgt : ∀ z : Bool,(z == z) = true := fun z => by cases z <;> rfl
  have hnt : (true == false) = false := rfl
  have hnf : (false == true) = false := rfl
  rw [u67_21]
  by_cases hle : nd ≤ last
  ·have hbad : headB last ⟨nd,pa,nm,ats⟩ = false := by
    have : ¬ last < nd := by omega
    simp [headB,this]
   simp only [GR,evK,binV,intOp,strOp,shOp,unV,Nat.reduceLT,Nat.reduceEqDiff,Nat.reduceAdd,↓reduceIte,Nat.reduceLeDiff,reduceCtorEq,q17,q18,Int.ofNat_lt,hke,r67_3,q16',Int.natCast_nonneg,Int.toNat_natCast,hg,hll,he,e3]
   rw [X_draw]
   refine d67_4 ?_
   simp only [GR,evK,binV,intOp,strOp,shOp,unV,Nat.reduceLT,Nat.reduceEqDiff,Nat.reduceAdd,↓reduceIte,Nat.reduceLeDiff,reduceCtorEq,r67_4,g3,q5,hle,r67_5]
   exact contB _ h3 (by rw [hnb,hbad]; simp) rfl rfl kk3
  ·have hlt : last < nd := by omega
   simp only [GR,evK,binV,intOp,strOp,shOp,unV,Nat.reduceLT,Nat.reduceEqDiff,Nat.reduceAdd,↓reduceIte,Nat.reduceLeDiff,reduceCtorEq,q17,q18,Int.ofNat_lt,hke,r67_3,q16',Int.natCast_nonneg,Int.toNat_natCast,hg,hll,he,e3]
   rw [X_draw]
   refine d67_4 ?_
   simp only [GR,evK,binV,intOp,strOp,shOp,unV,Nat.reduceLT,Nat.reduceEqDiff,Nat.reduceAdd,↓reduceIte,Nat.reduceLeDiff,reduceCtorEq,r67_4,g3,q5,hle]
   refine XCQ_of (top74 F nd h3) ?_
   rintro _ hx ⟨rfl,e2⟩
   rw [e2]
   clear e2 hx
   refine ⟨Keeps.refl _ _,?_⟩
   cases htop : topI nd with
   | true =>
    cases hp : pa == 0 with
    | false =>
     have hbad : headB last ⟨nd,pa,nm,ats⟩ = false := by simp [headB,htop,hp]
     simp only [GR,evK,binV,intOp,strOp,shOp,unV,Nat.reduceLT,Nat.reduceEqDiff,Nat.reduceAdd,↓reduceIte,Nat.reduceLeDiff,reduceCtorEq,g3,hp,eqV,hnt,hnf,r67_5]
     exact contB _ _ (by rw [hnb,hbad]; simp) rfl rfl kk3
    | true =>
     cases hn : nm == [] with
     | false =>
      have hbad : headB last ⟨nd,pa,nm,ats⟩ = false := by simp [headB,htop,hn]
      simp only [GR,evK,binV,intOp,strOp,shOp,unV,Nat.reduceLT,Nat.reduceEqDiff,Nat.reduceAdd,↓reduceIte,Nat.reduceLeDiff,reduceCtorEq,g3,hp,hn,eqV,hnt,hnf,r67_5]
      exact contB _ _ (by rw [hnb,hbad]; simp) rfl rfl kk3
     | true =>
      have hgood : headB last ⟨nd,pa,nm,ats⟩ = true := by simp [headB,htop,hp,hn,hlt]
      simp only [GR,evK,binV,intOp,strOp,shOp,unV,Nat.reduceLT,Nat.reduceEqDiff,Nat.reduceAdd,↓reduceIte,Nat.reduceLeDiff,reduceCtorEq,g3,hp,hn,eqV,hnt,hnf,hgt]
      refine XCQ_of (top74 F nd h3) ?_
      rintro _ hx ⟨rfl,e2⟩
      rw [e2]
      clear e2 hx
      refine ⟨Keeps.refl _ _,?_⟩
      simp only [GR,evK,binV,intOp,strOp,shOp,unV,Nat.reduceLT,Nat.reduceEqDiff,Nat.reduceAdd,↓reduceIte,Nat.reduceLeDiff,reduceCtorEq,htop]
      refine rest _ _ hgood (Keeps.refl _ _) ?_ ?_ ?_ ?_ ?_
      ·exact q4
      ·rfl
      ·exact q16
      ·exact q17
      ·exact q18
   | false =>
    cases hp : pa == 0 with
    | false =>
     simp only [GR,evK,binV,intOp,strOp,shOp,unV,Nat.reduceLT,Nat.reduceEqDiff,Nat.reduceAdd,↓reduceIte,Nat.reduceLeDiff,reduceCtorEq,g3,hp,eqV,hnt,hnf,hgt]
     refine XCQ_of (top74 F nd h3) ?_
     rintro _ hx ⟨rfl,e2⟩
     rw [e2]
     clear e2 hx
     refine ⟨Keeps.refl _ _,?_⟩
     simp only [GR,evK,binV,intOp,strOp,shOp,unV,Nat.reduceLT,Nat.reduceEqDiff,Nat.reduceAdd,↓reduceIte,Nat.reduceLeDiff,reduceCtorEq,htop,g3]
     refine XCQ_of (name75 F nm h3) ?_
     rintro _ h4 ⟨rfl,k4⟩
     refine ⟨k4,?_⟩
     cases hnm : nameB nm with
     | false =>
      have hbad : headB last ⟨nd,pa,nm,ats⟩ = false := by simp [headB,htop,hnm]
      simp only [GR,evK,binV,intOp,strOp,shOp,unV,Nat.reduceLT,Nat.reduceEqDiff,Nat.reduceAdd,↓reduceIte,Nat.reduceLeDiff,reduceCtorEq,r67_5]
      exact contB _ h4 (by rw [hnb,hbad]; simp) rfl rfl (Kp.trans kk3 k4)
     | true =>
      have hgood : headB last ⟨nd,pa,nm,ats⟩ = true := by simp [headB,htop,hnm,hlt]
      simp only [GR,evK,binV,intOp,strOp,shOp,unV,Nat.reduceLT,Nat.reduceEqDiff,Nat.reduceAdd,↓reduceIte,Nat.reduceLeDiff,reduceCtorEq]
      refine rest _ h4 hgood k4 ?_ ?_ ?_ ?_ ?_
      ·exact q4
      ·rfl
      ·exact q16
      ·exact q17
      ·exact q18
    | true =>
     cases hn : nm == [] with
     | true =>
      have hnm : nameB nm = false := by simp [nameB,hn]
      have hbad : headB last ⟨nd,pa,nm,ats⟩ = false := by simp [headB,htop,hnm]
      simp only [GR,evK,binV,intOp,strOp,shOp,unV,Nat.reduceLT,Nat.reduceEqDiff,Nat.reduceAdd,↓reduceIte,Nat.reduceLeDiff,reduceCtorEq,g3,hp,hn,eqV,hnt,hnf,hgt,r67_5]
      exact contB _ _ (by rw [hnb,hbad]; simp) rfl rfl kk3
     | false =>
      simp only [GR,evK,binV,intOp,strOp,shOp,unV,Nat.reduceLT,Nat.reduceEqDiff,Nat.reduceAdd,↓reduceIte,Nat.reduceLeDiff,reduceCtorEq,g3,hp,hn,eqV,hnt,hnf,hgt]
      refine XCQ_of (top74 F nd h3) ?_
      rintro _ hx ⟨rfl,e2⟩
      rw [e2]
      clear e2 hx
      refine ⟨Keeps.refl _ _,?_⟩
      simp only [GR,evK,binV,intOp,strOp,shOp,unV,Nat.reduceLT,Nat.reduceEqDiff,Nat.reduceAdd,↓reduceIte,Nat.reduceLeDiff,reduceCtorEq,htop,g3]
      refine XCQ_of (name75 F nm h3) ?_
      rintro _ h4 ⟨rfl,k4⟩
      refine ⟨k4,?_⟩
      cases hnm : nameB nm with
      | false =>
       have hbad : headB last ⟨nd,pa,nm,ats⟩ = false := by simp [headB,htop,hnm]
       simp only [GR,evK,binV,intOp,strOp,shOp,unV,Nat.reduceLT,Nat.reduceEqDiff,Nat.reduceAdd,↓reduceIte,Nat.reduceLeDiff,reduceCtorEq,r67_5]
       exact contB _ h4 (by rw [hnb,hbad]; simp) rfl rfl (Kp.trans kk3 k4)
      | true =>
       have hgood : headB last ⟨nd,pa,nm,ats⟩ = true := by simp [headB,htop,hnm,hlt]
       simp only [GR,evK,binV,intOp,strOp,shOp,unV,Nat.reduceLT,Nat.reduceEqDiff,Nat.reduceAdd,↓reduceIte,Nat.reduceLeDiff,reduceCtorEq]
       refine rest _ h4 hgood k4 ?_ ?_ ?_ ?_ ?_
       ·exact q4
       ·rfl
       ·exact q16
       ·exact q17
       ·exact q18
def picked (N : List Nd) (S : List Nat) : List Nd := S.filterMap fun i => N[i]?
def ksOf (N : List Nd) (S : List Nat) (r : Nd) : List Int := ((picked N S).filter fun c => !topI c.id && c.par == r.id).map Nd.id
theorem picked_app {N : List Nd} {S : List Nat} {i : Nat} {r : Nd} (h : N[i]? = some r) : picked N (S ++ [i]) = picked N S ++ [r] := by
 simp [picked,List.filterMap_append,h]
theorem ksOf_app {N : List Nd} {S : List Nat} {i : Nat} {r : Nd} (h : N[i]? = some r) (x : Nd) : ksOf N (S ++ [i]) x = if !topI r.id && r.par == x.id then ksOf N S x ++ [r.id] else ksOf N S x := by
 unfold ksOf
 rw [picked_app h,List.filter_append]
 cases hb : !topI r.id && r.par == x.id <;> simp [hb]
theorem picked_mem {N : List Nd} {S : List Nat} {r : Nd} : r ∈ picked N S ↔ ∃ i ∈ S,N[i]? = some r := by
 simp [picked,List.mem_filterMap]
theorem ids_inj {N : List Nd} (nd : (N.map Nd.id).Nodup) {i j : Nat} {r s : Nd} (hi : N[i]? = some r) (hj : N[j]? = some s) (e : r.id = s.id) : i = j := by
 have hi' := List.getElem?_eq_some_iff.1 hi
 have hj' := List.getElem?_eq_some_iff.1 hj
 obtain ⟨li,ei⟩ := hi'
 obtain ⟨lj,ej⟩ := hj'
 exact (List.getElem?_inj (l := N.map Nd.id) (by simpa using li) nd).1 (by simp [hi,hj,e])
theorem picked_nd {N : List Nd} (nd : (N.map Nd.id).Nodup) : ∀ {S : List Nat},S.Nodup → ((picked N S).map Nd.id).Nodup
 | [],_ => by simp [picked]
 | i :: S,hS => by
  simp only [List.nodup_cons] at hS
  have ih := picked_nd nd hS.2
  cases h : N[i]? with
  | none => simpa [picked,h] using ih
  | some r =>
   have : picked N (i :: S) = r :: picked N S := by simp [picked,h]
   rw [this,List.map_cons,List.nodup_cons]
   refine ⟨?_,ih⟩
   intro hm
   obtain ⟨s,hs,he⟩ := List.mem_map.1 hm
   obtain ⟨j,hj,hsj⟩ := picked_mem.1 hs
   exact hS.1 (by rw [ids_inj nd h hsj he.symm]; exact hj)
theorem ksOf_spec {N : List Nd} (nd : (N.map Nd.id).Nodup) {S : List Nat} (hS : S.Nodup) (hall : ∀ i,i < N.length → i ∈ S) : KSpec N (ksOf N S) where
 nd := fun r _ => (List.filter_sublist.map Nd.id).nodup (picked_nd nd hS)
 mem := fun r hr c => by
  unfold ksOf
  simp only [List.mem_map,List.mem_filter,picked_mem,Bool.and_eq_true,Bool.not_eq_true',beq_iff_eq]
  constructor
  ·rintro ⟨x,⟨⟨i,hi,hx⟩,ht,hp⟩,rfl⟩
   exact ⟨x.np,⟨x,List.mem_of_getElem? hx,rfl⟩,rfl,ht,hp⟩
  ·rintro ⟨_,⟨x,hx,rfl⟩,rfl,ht,hp⟩
   obtain ⟨i,hi⟩ := List.getElem?_of_mem hx
   exact ⟨x,⟨⟨i,hall i (List.getElem?_eq_some_iff.1 hi).1,hi⟩,ht,hp⟩,rfl⟩
theorem ksOf_new {N : List Nd} (nd : (N.map Nd.id).Nodup) {S : List Nat} {i : Nat} {r : Nd} (h : N[i]? = some r) (hi : i ∉ S) (x : Nd) : r.id ∉ ksOf N S x := by
 unfold ksOf
 intro hm
 obtain ⟨s,hs,he⟩ := List.mem_map.1 hm
 obtain ⟨j,hj,hsj⟩ := picked_mem.1 (List.mem_filter.1 hs).1
 exact hi (by rw [ids_inj nd h hsj he.symm]; exact hj)
theorem TrG.it {lo : Nat} {h h' : H} {mp : Nat} {N : List Nd} {ks : Nd → List Int} (a : TrG lo h mp N ks) (hs : ∀ i o,h.get i = some o → (∀ m s e l,o ≠ .mapIter m s e l) → h'.get i = some o) : TrG lo h' mp N ks := by
 refine { a with nodes := hs _ _ a.nodes (by intro _ _ _ _ e; cases e),at_ := fun r hr => ?_ }
 obtain ⟨es,cl,h2,h3⟩ := (a.at_ r hr).attr
 exact ⟨hs _ _ (a.at_ r hr).cell (by intro _ _ _ _ e; cases e),⟨es,cl,hs _ _ h2 (by intro _ _ _ _ e; cases e),h3⟩,hs _ _ (a.at_ r hr).kids (by intro _ _ _ _ e; cases e)⟩
theorem TrG.setK {lo : Nat} {h : H} {mp : Nat} {N : List Nd} {ks ks' : Nd → List Int} (a : TrG lo h mp N ks) {r : Nd} (hr : r ∈ N) (ho : ∀ r' ∈ N,r' ≠ r → ks' r' = ks r') : TrG lo (h.set r.km (mo ((ks' r).map kidE))) mp N ks' := by
 have g0 := (a.at_ r hr).kids
 have hlt := H.get_lt g0
 have hs : ∀ {i o},h.get i = some o → r.km ≠ i → (h.set r.km (mo ((ks' r).map kidE))).get i = some o := fun {i o} hg hne => by rw [hset_other hlt hne]; exact hg
 have hc : ∀ {i vs ty op ro fz},h.get i = some (.cells vs ty op ro fz) → r.km ≠ i := by
  rintro i vs ty op ro fz hg rfl; rw [g0] at hg; cases hg
 refine { a with nodes := hs a.nodes (a.kmmp r hr),at_ := fun r' hr' => ?_ }
 obtain ⟨es1,cl1,g1,q1⟩ := (a.at_ r' hr').attr
 refine ⟨hs (a.at_ r' hr').cell (hc (a.at_ r' hr').cell),⟨es1,cl1,hs g1 (Ne.symm (a.amkm r' hr' r hr)),q1⟩,?_⟩
 by_cases he : r' = r
 ·rw [he]; exact hset_same hlt _
 ·rw [ho r' hr' he]
  exact hs (a.at_ r' hr').kids fun e => he (a.kmk r hr r' hr' e).symm
theorem findK_kid {n : Int} : ∀ {l : List Int} {k j : Nat},n ∉ l → findK .int (.int .i64 n) (mos (l.map kidE) k) j = some none
 | [],_,_,_ => rfl
 | r :: N,k,j,h => by
  simp only [List.mem_cons,not_or] at h
  have : (n == r) = false := by simpa using h.1
  simp only [List.map_cons,mos,kidE,findK,sameK,if_true,this]
  exact findK_kid h.2
theorem not_rch {N : List Nd} (nd : (N.map Nd.id).Nodup) (g : Grf (N.map Nd.np)) {r : Nd} (hr : r ∈ N) (ht : topI r.id = false) (hp : r.par ∉ N.map Nd.id) : ¬ ∀ x ∈ N.map Nd.np,Rch (N.map Nd.np) x.1 := by
 intro hall
 have h1 : r.np ∈ N.map Nd.np := List.mem_map.2 ⟨r,hr,rfl⟩
 have h2 := hall _ h1
 generalize hx : (r.np).1 = c at h2
 cases h2 with
 | top h => rw [← hx] at h; simp only [Nd.np] at h; rw [ht] at h; cases h
 | step hm _ hrc =>
  have := g.uniq h1 hm hx
  rw [← this] at hrc
  exact hp (by have := g.rch hrc; rw [np_id] at this; exact this)
set_option maxHeartbeats 2000000 in
theorem loop30 (F : Ft E) {hb : H} {t mp it : Nat} {N : List Nd} (g : Grf (N.map Nd.np)) (hit : hb.size ≤ it) {R : Ex → St → Prop}
  (cont : ∀ (ρ' : Nat → V) (h' : H) (ks : Nd → List Int),ρ' 4 = .ptr (some (t,0)) → TrG hb.size h' mp N ks → KSpec N ks → Rt h' t mp → Kp hb h' → R (.exit 4) (toL 148 ρ',h'))
  (contB : ∀ (ρ' : Nat → V) (h' : H),(¬ ∀ x ∈ N.map Nd.np,Rch (N.map Nd.np) x.1) → ρ' 2 = .ptr none → ρ' 3 = .int .i64 121 → Kp hb h' → R .ret (toL 148 ρ',h'))
  {ρ : Nat → V} {h : H} (q4 : ρ 4 = .ptr (some (t,0))) (q119 : ρ 119 = .ptr (some (it,0))) (hi : It h mp it (N.map Nd.ent) []) (tr : TrG hb.size h mp N (ksOf N [])) (rt : Rt h t mp) (kk : Kp hb h) : NC P E none (.loop b67_30) (toL 148 ρ,h) R := by
 refine NC.maps (q := 4) (mp := mp) (it := it) (l := N.map Nd.ent) (by decide) (by decide) (by decide)
  (fun seen ρ h => seen.Nodup ∧ ρ 119 = .ptr (some (it,0)) ∧ It h mp it (N.map Nd.ent) seen ∧ ρ 4 = .ptr (some (t,0)) ∧ TrG hb.size h mp N (ksOf N seen) ∧ Rt h t mp ∧ Kp hb h)
  (fun {seen ρ h2} inv => ⟨inv.2.1,inv.2.2.1⟩) ?_ ?_ N.length ⟨List.nodup_nil,q119,hi,q4,tr,rt,kk⟩ List.nodup_nil (by simp) (by simp)
 ·rintro seen ρ h2 ⟨nd,w119,hi2,w4,tr2,rt2,k2⟩ hall
  exact cont _ h2 _ w4 tr2 (ksOf_spec tr2.nd nd (by simpa using hall)) rt2 k2
 ·rintro seen ρ h2 ⟨nd,w119,hi2,w4,tr2,rt2,k2⟩ _ _ i k u hik hns
  rw [List.getElem?_map] at hik
  cases hr1 : N[i]? with
  | none => rw [hr1] at hik; cases hik
  | some r1 =>
  rw [hr1] at hik
  simp only [Option.map_some,Nd.ent,Option.some.injEq,Prod.mk.injEq] at hik
  obtain ⟨rfl,rfl⟩ := hik
  have hm1 := List.mem_of_getElem? hr1
  have hits := H.get_lt hi2.itr
  have hlast : (seen ++ [i]).getLast? = some i := by simp
  have hfind := mos_find (l := N.map Nd.ent) (k := 0) (i := i) (x := Nd.ent r1) (by simp [hr1])
  rw [Nat.zero_add] at hfind
  simp only [Nd.ent] at hfind
  have gi := hset_same hits (.mapIter (some mp) (N.map Nd.ent).length (seen ++ [i]) (N.map Nd.ent).length)
  have hold : ∀ j o,h2.get j = some o → (∀ m s e l,o ≠ .mapIter m s e l) → (h2.set it (.mapIter (some mp) (N.map Nd.ent).length (seen ++ [i]) (N.map Nd.ent).length)).get j = some o := by
   intro j o hg hn
   rw [hset_other hits (by rintro rfl; rw [hi2.itr] at hg; cases hg; exact hn _ _ _ _ rfl)]; exact hg
  have tr3 := tr2.it hold
  have rt3 : Rt (h2.set it (.mapIter (some mp) (N.map Nd.ent).length (seen ++ [i]) (N.map Nd.ent).length)) t mp := by
   obtain ⟨cs,ty,op,ro,fz,e⟩ := rt2
   exact ⟨cs,ty,op,ro,fz,hold _ _ e (by intro _ _ _ _ e; cases e)⟩
  have k3 := Keeps.trans k2 (Keeps.set hits hit (.mapIter (some mp) (N.map Nd.ent).length (seen ++ [i]) (N.map Nd.ent).length))
  generalize h2.set it (.mapIter (some mp) (N.map Nd.ent).length (seen ++ [i]) (N.map Nd.ent).length) = h3 at *
  have gm : h3.get mp = some (.map (mos (N.map Nd.ent) 0) (N.map Nd.ent).length) := tr3.nodes
  have gm' : h3.get mp = some (.map (mos (N.map fun r => (V.int .i64 r.id,V.ptr (some (r.b,0)))) 0) (N.map Nd.ent).length) := gm
  have gc := (tr3.at_ r1 hm1).cell
  have hnd : (seen ++ [i]).Nodup := List.nodup_append.2 ⟨nd,by simp,by intro a ha b hb; simp at hb; subst hb; intro e; subst e; exact hns ha⟩
  obtain ⟨cs,ty,op,ro,fz,groot⟩ := rt3
  cases htop : topI r1.id with
  | true =>
   refine NC.run (Q := fun ex T h' => ∃ ρ',ex = .nrm ∧ T = toL 148 ρ' ∧ h3 = h' ∧ ρ' 119 = .ptr (some (it,0)) ∧ ρ' 4 = .ptr (some (t,0))) (by intro b e; cases e) ?_ ?_
   ·simp only [GR,evK,binV,intOp,strOp,shOp,unV,Nat.reduceLT,Nat.reduceEqDiff,Nat.reduceAdd,↓reduceIte,Nat.reduceLeDiff,reduceCtorEq,r67_24,w119,gi,gm,hlast,hfind,r67_25]
    refine XC_of (top74 F r1.id h3) ?_
    rintro _ h4 ⟨rfl,e2⟩
    rw [e2,htop]
    simp only [GR,evK,binV,intOp,strOp,shOp,unV,Nat.reduceLT,Nat.reduceEqDiff,Nat.reduceAdd,↓reduceIte,Nat.reduceLeDiff,reduceCtorEq]
    exact ⟨_,rfl,w119,w4⟩
   ·rintro ex T h' ⟨ρ',rfl,rfl,e3,x119,x4⟩
    subst e3
    refine ⟨ρ',h3,rfl,hnd,x119,⟨tr3.nodes,gi⟩,x4,?_,⟨cs,ty,op,ro,fz,groot⟩,k3⟩
    have : ksOf N (seen ++ [i]) = ksOf N seen := by funext x; rw [ksOf_app hr1]; simp [htop]
    rw [this]; exact tr3
  | false =>
   by_cases hp : r1.par ∈ N.map Nd.id
   ·obtain ⟨r2,hm2,hid2⟩ := List.mem_map.1 hp
    obtain ⟨i2,hi2'⟩ := List.getElem?_of_mem hm2
    have hf := findK_at (k := 0) (j := 0) tr3.nd hi2' hid2
    have gc2 := (tr3.at_ r2 hm2).cell
    have gk2 : h3.get r2.km = some (.map (mos ((ksOf N seen r2).map kidE) 0) ((ksOf N seen r2).map kidE).length) := (tr3.at_ r2 hm2).kids
    have hfk := findK_kid (k := 0) (j := 0) (ksOf_new tr3.nd hr1 hns r2)
    have hmo : mo ((ksOf N (seen ++ [i]) r2).map kidE) = .map (mos ((ksOf N seen r2).map kidE) 0 ++ [(.int .i64 r1.id,.int .i64 1,((ksOf N seen r2).map kidE).length)]) (((ksOf N seen r2).map kidE).length + 1) := by
     rw [ksOf_app hr1,htop,hid2]; simp [mo,mos_append,kidE]
    refine NC.run (Q := fun ex T h' => ∃ ρ',ex = .nrm ∧ T = toL 148 ρ' ∧ h3.set r2.km (mo ((ksOf N (seen ++ [i]) r2).map kidE)) = h' ∧ ρ' 119 = .ptr (some (it,0)) ∧ ρ' 4 = .ptr (some (t,0))) (by intro b e; cases e) ?_ ?_
    ·simp only [GR,evK,binV,intOp,strOp,shOp,unV,Nat.reduceLT,Nat.reduceEqDiff,Nat.reduceAdd,↓reduceIte,Nat.reduceLeDiff,reduceCtorEq,r67_24,w119,gi,gm,hlast,hfind,r67_25]
     refine XC_of (top74 F r1.id h3) ?_
     rintro _ h4 ⟨rfl,e2⟩
     rw [e2,htop]
     simp only [GR,evK,binV,intOp,strOp,shOp,unV,Nat.reduceLT,Nat.reduceEqDiff,Nat.reduceAdd,↓reduceIte,Nat.reduceLeDiff,reduceCtorEq]
     rw [X_draw,d67_26]
     simp only [GR,evK,binV,intOp,strOp,shOp,unV,Nat.reduceLT,Nat.reduceEqDiff,Nat.reduceAdd,↓reduceIte,Nat.reduceLeDiff,reduceCtorEq,r67_26,w4,groot,gc,gm,hf,r67_27,eqV,Option.isNone_some,r67_29,gc2,gk2,hfk,← hmo]
     exact ⟨_,rfl,w119,w4⟩
    ·rintro ex T h' ⟨ρ',rfl,rfl,e3,x119,x4⟩
     have hne : r2.km ≠ it := by rintro e; rw [e] at gk2; rw [gk2] at gi; cases gi
     have hlk := H.get_lt gk2
     have tr5 := tr3.setK (ks' := ksOf N (seen ++ [i])) hm2 (fun r' hr' hne => by
      rw [ksOf_app hr1]
      have : (r1.par == r'.id) = false := by
       simp only [beq_eq_false_iff_ne,ne_eq]
       intro e
       obtain ⟨j,hj⟩ := List.getElem?_of_mem hr'
       have := ids_inj tr3.nd hi2' hj (by rw [hid2,e])
       subst this
       rw [hi2'] at hj; cases hj; exact hne rfl
      simp [this])
     rw [e3] at tr5
     refine ⟨ρ',h',rfl,hnd,x119,⟨tr5.nodes,?_⟩,x4,tr5,?_,?_⟩
     ·rw [← e3,hset_other hlk hne]; exact gi
     ·refine ⟨cs,ty,op,ro,fz,?_⟩
      rw [← e3,hset_other hlk (by rintro e; rw [e] at gk2; rw [gk2] at groot; cases groot)]; exact groot
     ·rw [← e3]; exact Keeps.trans k3 (Keeps.set hlk (tr3.low.2 r2 hm2).2.2 _)
   ·have hf := findK_no (k := 0) (j := 0) hp
    refine NC.run (Q := fun ex T h' => ∃ ρ',ex = .ret ∧ T = toL 148 ρ' ∧ h3 = h' ∧ ρ' 2 = .ptr none ∧ ρ' 3 = .int .i64 121) (by intro b e; cases e) ?_ ?_
    ·simp only [GR,evK,binV,intOp,strOp,shOp,unV,Nat.reduceLT,Nat.reduceEqDiff,Nat.reduceAdd,↓reduceIte,Nat.reduceLeDiff,reduceCtorEq,r67_24,w119,gi,gm,hlast,hfind,r67_25]
     refine XC_of (top74 F r1.id h3) ?_
     rintro _ h4 ⟨rfl,e2⟩
     rw [e2,htop]
     simp only [GR,evK,binV,intOp,strOp,shOp,unV,Nat.reduceLT,Nat.reduceEqDiff,Nat.reduceAdd,↓reduceIte,Nat.reduceLeDiff,reduceCtorEq]
     rw [X_draw,d67_26]
     simp only [GR,evK,binV,intOp,strOp,shOp,unV,Nat.reduceLT,Nat.reduceEqDiff,Nat.reduceAdd,↓reduceIte,Nat.reduceLeDiff,reduceCtorEq,r67_26,w4,groot,gc,gm,hf,r67_27,eqV,Option.isNone_none,r67_28]
     exact ⟨_,rfl,rfl,rfl⟩
    ·rintro ex T h' ⟨ρ',rfl,rfl,e3,x2,x3⟩
     subst e3
     exact contB ρ' h3 (not_rch tr3.nd g hm1 htop hp) x2 x3 k3
end Go.AM.Sc
