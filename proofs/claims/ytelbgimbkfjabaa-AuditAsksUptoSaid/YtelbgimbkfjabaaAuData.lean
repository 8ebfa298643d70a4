/- My own texts of the evaluator, its soundness and its symbolic runs, laid for this claim. -/
import Derived.Test.YtelbgimbkfjabaaScData
set_option linter.unusedSimpArgs false
set_option linter.unusedVariables false
/-! Structs of views, printed by austruct.py; what lies behind their slices. -/
namespace Go.AM.Sc
open Go.AM
structure Attr where
  key : List UInt8
  value : List UInt8
  deriving DecidableEq
def Attr.cells (x : Attr) : List V := [.str x.key, .str x.value]
theorem Attr.len (x : Attr) : x.cells.length = 2 := rfl
theorem Attr.g0 (x : Attr) : x.cells[0]? = some (.str x.key) := rfl
theorem Attr.g1 (x : Attr) : x.cells[1]? = some (.str x.value) := rfl
theorem Attr.r0 (x : Attr) : getR x.cells 0 2 = x.cells := rfl
theorem Attr.eqv (h : H) (x y : Attr) : eqV h (.fcons 0 1 false .str (.fcons 1 1 false .str .fnil)) (.agg x.cells) (.agg y.cells) = some (decide (x = y)) := (fcons_step rfl rfl (str_step _ _ _) (fcons_step rfl rfl (str_step _ _ _) (fnil_step _ _ _))).trans (congrArg some (decide_eq_decide.2 ⟨fun e => by cases x; cases y; simpa [and_assoc] using e, fun e => by subst e; simp⟩))
structure Reply where
  err : Int
  stamp : Stamp
  node : Int
  deriving DecidableEq
def Reply.cells (x : Reply) : List V := [.int .i64 x.err, .int .i64 x.stamp.time, .int .i64 x.stamp.site, .int .i64 x.node]
theorem Reply.len (x : Reply) : x.cells.length = 4 := rfl
theorem Reply.g0 (x : Reply) : x.cells[0]? = some (.int .i64 x.err) := rfl
theorem Reply.r1_2 (x : Reply) : getR x.cells 1 2 = x.stamp.cells := rfl
theorem Reply.g1 (x : Reply) : x.cells[1]? = some (.int .i64 x.stamp.time) := rfl
theorem Reply.g2 (x : Reply) : x.cells[2]? = some (.int .i64 x.stamp.site) := rfl
theorem Reply.g3 (x : Reply) : x.cells[3]? = some (.int .i64 x.node) := rfl
theorem Reply.r0 (x : Reply) : getR x.cells 0 4 = x.cells := rfl
theorem Reply.eqv (h : H) (x y : Reply) : eqV h (.fcons 0 1 false .int (.fcons 1 2 true (.fcons 0 1 false .int (.fcons 1 1 false .int .fnil)) (.fcons 3 1 false .int .fnil))) (.agg x.cells) (.agg y.cells) = some (decide (x = y)) := (fcons_step rfl rfl (int_step _ _ _ _) (fcons_step rfl rfl (Stamp.eqv h _ _) (fcons_step rfl rfl (int_step _ _ _ _) (fnil_step _ _ _)))).trans (congrArg some (decide_eq_decide.2 ⟨fun e => by cases x; cases y; simpa [and_assoc] using e, fun e => by subst e; simp⟩))
structure Row where
  session : Int
  request : Int
  reply : Reply
  deriving DecidableEq
def Row.cells (x : Row) : List V := [.int .i64 x.session, .int .i64 x.request, .int .i64 x.reply.err, .int .i64 x.reply.stamp.time, .int .i64 x.reply.stamp.site, .int .i64 x.reply.node]
theorem Row.len (x : Row) : x.cells.length = 6 := rfl
theorem Row.g0 (x : Row) : x.cells[0]? = some (.int .i64 x.session) := rfl
theorem Row.g1 (x : Row) : x.cells[1]? = some (.int .i64 x.request) := rfl
theorem Row.r2_4 (x : Row) : getR x.cells 2 4 = x.reply.cells := rfl
theorem Row.g2 (x : Row) : x.cells[2]? = some (.int .i64 x.reply.err) := rfl
theorem Row.r3_2 (x : Row) : getR x.cells 3 2 = x.reply.stamp.cells := rfl
theorem Row.g3 (x : Row) : x.cells[3]? = some (.int .i64 x.reply.stamp.time) := rfl
theorem Row.g4 (x : Row) : x.cells[4]? = some (.int .i64 x.reply.stamp.site) := rfl
theorem Row.g5 (x : Row) : x.cells[5]? = some (.int .i64 x.reply.node) := rfl
theorem Row.r0 (x : Row) : getR x.cells 0 6 = x.cells := rfl
theorem Row.eqv (h : H) (x y : Row) : eqV h (.fcons 0 1 false .int (.fcons 1 1 false .int (.fcons 2 4 true (.fcons 0 1 false .int (.fcons 1 2 true (.fcons 0 1 false .int (.fcons 1 1 false .int .fnil)) (.fcons 3 1 false .int .fnil))) .fnil))) (.agg x.cells) (.agg y.cells) = some (decide (x = y)) := (fcons_step rfl rfl (int_step _ _ _ _) (fcons_step rfl rfl (int_step _ _ _ _) (fcons_step rfl rfl (Reply.eqv h _ _) (fnil_step _ _ _)))).trans (congrArg some (decide_eq_decide.2 ⟨fun e => by cases x; cases y; simpa [and_assoc] using e, fun e => by subst e; simp⟩))
structure TNode where
  node : Int
  parent : Int
  name : List UInt8
  attrs : V
def TNode.cells (x : TNode) : List V := [.int .i64 x.node, .int .i64 x.parent, .str x.name, x.attrs]
theorem TNode.len (x : TNode) : x.cells.length = 4 := rfl
theorem TNode.g0 (x : TNode) : x.cells[0]? = some (.int .i64 x.node) := rfl
theorem TNode.g1 (x : TNode) : x.cells[1]? = some (.int .i64 x.parent) := rfl
theorem TNode.g2 (x : TNode) : x.cells[2]? = some (.str x.name) := rfl
theorem TNode.g3 (x : TNode) : x.cells[3]? = some (x.attrs) := rfl
theorem TNode.r0 (x : TNode) : getR x.cells 0 4 = x.cells := rfl
structure View where
  at_ : Addr
  up : Bool
  leads : Bool
  booted : Bool
  told : Int
  first : Int
  chosen : V
  epoch : Int
  clock : Int
  frontier : Int
  vector : Vec
  nodes : V
  rows : V
def View.cells (x : View) : List V := [.int .i64 x.at_.group, .int .i64 x.at_.replica, .bool x.up, .bool x.leads, .bool x.booted, .int .i64 x.told, .int .i64 x.first, x.chosen, .int .i64 x.epoch, .int .i64 x.clock, .int .i64 x.frontier, .int .i64 x.vector.v0, .int .i64 x.vector.v1, .int .i64 x.vector.v2, .int .i64 x.vector.v3, .int .i64 x.vector.v4, .int .i64 x.vector.v5, .int .i64 x.vector.v6, .int .i64 x.vector.v7, x.nodes, x.rows]
theorem View.len (x : View) : x.cells.length = 21 := rfl
theorem View.r0_2 (x : View) : getR x.cells 0 2 = x.at_.cells := rfl
theorem View.g0 (x : View) : x.cells[0]? = some (.int .i64 x.at_.group) := rfl
theorem View.g1 (x : View) : x.cells[1]? = some (.int .i64 x.at_.replica) := rfl
theorem View.g2 (x : View) : x.cells[2]? = some (.bool x.up) := rfl
theorem View.g3 (x : View) : x.cells[3]? = some (.bool x.leads) := rfl
theorem View.g4 (x : View) : x.cells[4]? = some (.bool x.booted) := rfl
theorem View.g5 (x : View) : x.cells[5]? = some (.int .i64 x.told) := rfl
theorem View.g6 (x : View) : x.cells[6]? = some (.int .i64 x.first) := rfl
theorem View.g7 (x : View) : x.cells[7]? = some (x.chosen) := rfl
theorem View.g8 (x : View) : x.cells[8]? = some (.int .i64 x.epoch) := rfl
theorem View.g9 (x : View) : x.cells[9]? = some (.int .i64 x.clock) := rfl
theorem View.g10 (x : View) : x.cells[10]? = some (.int .i64 x.frontier) := rfl
theorem View.r11_8 (x : View) : getR x.cells 11 8 = x.vector.cells := rfl
theorem View.g11 (x : View) : x.cells[11]? = some (.int .i64 x.vector.v0) := rfl
theorem View.g12 (x : View) : x.cells[12]? = some (.int .i64 x.vector.v1) := rfl
theorem View.g13 (x : View) : x.cells[13]? = some (.int .i64 x.vector.v2) := rfl
theorem View.g14 (x : View) : x.cells[14]? = some (.int .i64 x.vector.v3) := rfl
theorem View.g15 (x : View) : x.cells[15]? = some (.int .i64 x.vector.v4) := rfl
theorem View.g16 (x : View) : x.cells[16]? = some (.int .i64 x.vector.v5) := rfl
theorem View.g17 (x : View) : x.cells[17]? = some (.int .i64 x.vector.v6) := rfl
theorem View.g18 (x : View) : x.cells[18]? = some (.int .i64 x.vector.v7) := rfl
theorem View.g19 (x : View) : x.cells[19]? = some (x.nodes) := rfl
theorem View.g20 (x : View) : x.cells[20]? = some (x.rows) := rfl
theorem View.r0 (x : View) : getR x.cells 0 21 = x.cells := rfl
structure VFlat where
  at_ : Addr
  up : Bool
  leads : Bool
  booted : Bool
  told : Int
  first : Int
  epoch : Int
  clock : Int
  frontier : Int
  vector : Vec
  deriving DecidableEq
def VFlat.cells (x : VFlat) : List V := [.int .i64 x.at_.group, .int .i64 x.at_.replica, .bool x.up, .bool x.leads, .bool x.booted, .int .i64 x.told, .int .i64 x.first, .int .i64 x.epoch, .int .i64 x.clock, .int .i64 x.frontier, .int .i64 x.vector.v0, .int .i64 x.vector.v1, .int .i64 x.vector.v2, .int .i64 x.vector.v3, .int .i64 x.vector.v4, .int .i64 x.vector.v5, .int .i64 x.vector.v6, .int .i64 x.vector.v7]
theorem VFlat.len (x : VFlat) : x.cells.length = 18 := rfl
theorem VFlat.r0_2 (x : VFlat) : getR x.cells 0 2 = x.at_.cells := rfl
theorem VFlat.g0 (x : VFlat) : x.cells[0]? = some (.int .i64 x.at_.group) := rfl
theorem VFlat.g1 (x : VFlat) : x.cells[1]? = some (.int .i64 x.at_.replica) := rfl
theorem VFlat.g2 (x : VFlat) : x.cells[2]? = some (.bool x.up) := rfl
theorem VFlat.g3 (x : VFlat) : x.cells[3]? = some (.bool x.leads) := rfl
theorem VFlat.g4 (x : VFlat) : x.cells[4]? = some (.bool x.booted) := rfl
theorem VFlat.g5 (x : VFlat) : x.cells[5]? = some (.int .i64 x.told) := rfl
theorem VFlat.g6 (x : VFlat) : x.cells[6]? = some (.int .i64 x.first) := rfl
theorem VFlat.g7 (x : VFlat) : x.cells[7]? = some (.int .i64 x.epoch) := rfl
theorem VFlat.g8 (x : VFlat) : x.cells[8]? = some (.int .i64 x.clock) := rfl
theorem VFlat.g9 (x : VFlat) : x.cells[9]? = some (.int .i64 x.frontier) := rfl
theorem VFlat.r10_8 (x : VFlat) : getR x.cells 10 8 = x.vector.cells := rfl
theorem VFlat.g10 (x : VFlat) : x.cells[10]? = some (.int .i64 x.vector.v0) := rfl
theorem VFlat.g11 (x : VFlat) : x.cells[11]? = some (.int .i64 x.vector.v1) := rfl
theorem VFlat.g12 (x : VFlat) : x.cells[12]? = some (.int .i64 x.vector.v2) := rfl
theorem VFlat.g13 (x : VFlat) : x.cells[13]? = some (.int .i64 x.vector.v3) := rfl
theorem VFlat.g14 (x : VFlat) : x.cells[14]? = some (.int .i64 x.vector.v4) := rfl
theorem VFlat.g15 (x : VFlat) : x.cells[15]? = some (.int .i64 x.vector.v5) := rfl
theorem VFlat.g16 (x : VFlat) : x.cells[16]? = some (.int .i64 x.vector.v6) := rfl
theorem VFlat.g17 (x : VFlat) : x.cells[17]? = some (.int .i64 x.vector.v7) := rfl
theorem VFlat.r0 (x : VFlat) : getR x.cells 0 18 = x.cells := rfl
def flatOf (x : Entry) : Flat := ⟨x.kind, x.session, x.request, x.op, x.origin, x.seq, x.epoch, x.frm, x.vector, x.clock, x.part.snap, x.part.index, x.part.many, x.site, x.sponsor, x.length⟩
def Str (h : H) (v : V) (s : List UInt8) : Prop :=
  (∃ c o, v = .slice none 0 c o ∧ s = []) ∨ ∃ p n c o cs, v = .slice (some p) n c o ∧ elemsV h 1 n (.slice (some p) n c o) = some cs ∧ bytesV cs = some s
theorem elems_none (h : H) (c : Nat) (o : Bool) : elemsV h 1 0 (.slice none 0 c o) = some [] := rfl
structure DEnt where
  flat : Flat
  ops : List Opr
  data : List UInt8
  deriving DecidableEq
structure DNode where
  node : Int
  parent : Int
  name : List UInt8
  attrs : List Attr
  deriving DecidableEq

structure EIn (h : H) (x : Entry) (d : DEnt) : Prop where
  flat : flatOf x = d.flat
  ops : Sl h 8 x.ops (d.ops.map Opr.cells)
  len : d.ops.length ≤ 1048576
  dat : Str h x.part.data d.data
  dlen : d.data.length ≤ 1048576
structure NIn (h : H) (x : TNode) (d : DNode) : Prop where
  node : x.node = d.node
  parent : x.parent = d.parent
  name : x.name = d.name
  attrs : Sl h 2 x.attrs (d.attrs.map Attr.cells)
  len : d.attrs.length ≤ 1048576
structure WV where
  x : View
  es : List (Entry × DEnt)
  ns : List (TNode × DNode)
  rs : List Row
structure VIn (h : H) (v : WV) : Prop where
  chosen : Sl h 56 v.x.chosen (v.es.map fun p => p.1.cells)
  ents : ∀ p ∈ v.es, EIn h p.1 p.2
  elen : v.es.length ≤ 1048576
  nodes : Sl h 4 v.x.nodes (v.ns.map fun p => p.1.cells)
  nds : ∀ p ∈ v.ns, NIn h p.1 p.2
  nlen : v.ns.length ≤ 1048576
  rows : Sl h 6 v.x.rows (v.rs.map Row.cells)
  rlen : v.rs.length ≤ 1048576
theorem Str.keep {h h' : H} {v : V} {s : List UInt8} (a : Str h v s) (hk : Kp h h') : Str h' v s := by
  rcases a with a | ⟨p, n, c, o, cs, h1, h2, h3⟩
  · exact .inl a
  · refine .inr ⟨p, n, c, o, cs, h1, ?_, h3⟩
    obtain ⟨i, q⟩ := p
    rw [← h2]
    simp only [elemsV]
    cases hg : h.get i with
    | none =>
      rw [elemsV] at h2
      simp [hg] at h2
      simp [h2.1]
    | some ob => rw [hk.of hg]
theorem EIn.keep {h h' : H} {x : Entry} {d : DEnt} (a : EIn h x d) (hk : Kp h h') : EIn h' x d := ⟨a.flat, a.ops.keep hk, a.len, a.dat.keep hk, a.dlen⟩
theorem NIn.keep {h h' : H} {x : TNode} {d : DNode} (a : NIn h x d) (hk : Kp h h') : NIn h' x d := ⟨a.node, a.parent, a.name, a.attrs.keep hk, a.len⟩
theorem VIn.keep {h h' : H} {v : WV} (a : VIn h v) (hk : Kp h h') : VIn h' v := ⟨a.chosen.keep hk, fun p hp => (a.ents p hp).keep hk, a.elen, a.nodes.keep hk, fun p hp => (a.nds p hp).keep hk, a.nlen, a.rows.keep hk, a.rlen⟩
end Go.AM.Sc
