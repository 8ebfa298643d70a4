/- My own texts of the evaluator, its soundness and its symbolic runs, laid for this claim. -/
import Derived.Test.YtelbgimbkfjabaaXJToXPrim
set_option linter.unusedSimpArgs false
set_option linter.unusedVariables false
/-! Structs of the program as cells, printed by gstruct.py. -/
namespace Go.AM.Sc
theorem fcons_step {h : H} {o n : Nat} {a : Bool} {e r : EqT} {xs ys : List V} {x y : V} {p q : Prop} [Decidable p] [Decidable q] (h1 : partV xs o n a = some x) (h2 : partV ys o n a = some y) (h3 : eqV h e x y = some (decide p)) (h4 : eqV h r (.agg xs) (.agg ys) = some (decide q)) :
    eqV h (.fcons o n a e r) (.agg xs) (.agg ys) = some (decide (p ∧ q)) := by
  simp only [eqV, h1, h2, h3]
  by_cases hp : p
  · simp [hp, h4]
  · simp [hp]
theorem fnil_step (h : H) (xs ys : List V) : eqV h .fnil (.agg xs) (.agg ys) = some (decide True) := by simp [eqV]
theorem allM_nil {f : Nat → Option Bool} {i : Nat} : allM f 0 i = some (decide True) := by simp [allM]
theorem allM_step {f : Nat → Option Bool} {n i : Nat} {p q : Prop} [Decidable p] [Decidable q] (h1 : f i = some (decide p)) (h2 : allM f n (i + 1) = some (decide q)) : allM f (n + 1) i = some (decide (p ∧ q)) := by
  simp only [allM, h1]
  by_cases hp : p
  · simp [hp, h2]
  · simp [hp]
theorem eqV_ar_eq (h : H) (len size : Nat) (g : Bool) (e : EqT) (xs ys : List V) : eqV h (.ar len size g e) (.agg xs) (.agg ys) = allM (fun i => match partV xs (i * size) size g, partV ys (i * size) size g with
      | some x, some y => eqV h e x y
      | _, _ => none) len 0 := by simp only [eqV]; rfl
theorem int_step (h : H) (k : IntKind) (a b : Int) : eqV h .int (.int k a) (.int k b) = some (decide (a = b)) := by
  simp only [eqV, if_true]
  congr 1
theorem str_step (h : H) (a b : List UInt8) : eqV h .str (.str a) (.str b) = some (decide (a = b)) := by
  simp only [eqV]
  congr 1
  rw [Bool.eq_iff_iff]; simp

structure Stamp where
  time : Int
  site : Int
  deriving DecidableEq
def Stamp.cells (x : Stamp) : List V := [.int .i64 x.time, .int .i64 x.site]
theorem Stamp.len (x : Stamp) : x.cells.length = 2 := rfl
theorem Stamp.g0 (x : Stamp) : x.cells[0]? = some (.int .i64 x.time) := rfl
theorem Stamp.g1 (x : Stamp) : x.cells[1]? = some (.int .i64 x.site) := rfl
theorem Stamp.r0 (x : Stamp) : getR x.cells 0 2 = x.cells := rfl
theorem Stamp.eqv (h : H) (x y : Stamp) : eqV h (.fcons 0 1 false .int (.fcons 1 1 false .int .fnil)) (.agg x.cells) (.agg y.cells) = some (decide (x = y)) := (fcons_step rfl rfl (int_step _ _ _ _) (fcons_step rfl rfl (int_step _ _ _ _) (fnil_step _ _ _))).trans (congrArg some (decide_eq_decide.2 ⟨fun e => by cases x; cases y; simpa [and_assoc] using e, fun e => by subst e; simp⟩))
structure Vec where
  v0 : Int
  v1 : Int
  v2 : Int
  v3 : Int
  v4 : Int
  v5 : Int
  v6 : Int
  v7 : Int
  deriving DecidableEq
def Vec.cells (x : Vec) : List V := [.int .i64 x.v0, .int .i64 x.v1, .int .i64 x.v2, .int .i64 x.v3, .int .i64 x.v4, .int .i64 x.v5, .int .i64 x.v6, .int .i64 x.v7]
theorem Vec.len (x : Vec) : x.cells.length = 8 := rfl
theorem Vec.g0 (x : Vec) : x.cells[0]? = some (.int .i64 x.v0) := rfl
theorem Vec.g1 (x : Vec) : x.cells[1]? = some (.int .i64 x.v1) := rfl
theorem Vec.g2 (x : Vec) : x.cells[2]? = some (.int .i64 x.v2) := rfl
theorem Vec.g3 (x : Vec) : x.cells[3]? = some (.int .i64 x.v3) := rfl
theorem Vec.g4 (x : Vec) : x.cells[4]? = some (.int .i64 x.v4) := rfl
theorem Vec.g5 (x : Vec) : x.cells[5]? = some (.int .i64 x.v5) := rfl
theorem Vec.g6 (x : Vec) : x.cells[6]? = some (.int .i64 x.v6) := rfl
theorem Vec.g7 (x : Vec) : x.cells[7]? = some (.int .i64 x.v7) := rfl
theorem Vec.r0 (x : Vec) : getR x.cells 0 8 = x.cells := rfl
theorem Vec.eqv (h : H) (x y : Vec) : eqV h (.ar 8 1 false .int) (.agg x.cells) (.agg y.cells) = some (decide (x = y)) := (eqV_ar_eq _ _ _ _ _ _ _).trans ((allM_step (int_step h .i64 _ _) (allM_step (int_step h .i64 _ _) (allM_step (int_step h .i64 _ _) (allM_step (int_step h .i64 _ _) (allM_step (int_step h .i64 _ _) (allM_step (int_step h .i64 _ _) (allM_step (int_step h .i64 _ _) (allM_step (int_step h .i64 _ _) allM_nil)))))))).trans (congrArg some (decide_eq_decide.2 ⟨fun e => by cases x; cases y; simpa [and_assoc] using e, fun e => by subst e; simp⟩)))
structure Opr where
  time : Int
  site : Int
  kind : Int
  node : Int
  parent : Int
  name : List UInt8
  key : List UInt8
  value : List UInt8
  deriving DecidableEq
def Opr.cells (x : Opr) : List V := [.int .i64 x.time, .int .i64 x.site, .int .i64 x.kind, .int .i64 x.node, .int .i64 x.parent, .str x.name, .str x.key, .str x.value]
theorem Opr.len (x : Opr) : x.cells.length = 8 := rfl
theorem Opr.g0 (x : Opr) : x.cells[0]? = some (.int .i64 x.time) := rfl
theorem Opr.g1 (x : Opr) : x.cells[1]? = some (.int .i64 x.site) := rfl
theorem Opr.g2 (x : Opr) : x.cells[2]? = some (.int .i64 x.kind) := rfl
theorem Opr.g3 (x : Opr) : x.cells[3]? = some (.int .i64 x.node) := rfl
theorem Opr.g4 (x : Opr) : x.cells[4]? = some (.int .i64 x.parent) := rfl
theorem Opr.g5 (x : Opr) : x.cells[5]? = some (.str x.name) := rfl
theorem Opr.g6 (x : Opr) : x.cells[6]? = some (.str x.key) := rfl
theorem Opr.g7 (x : Opr) : x.cells[7]? = some (.str x.value) := rfl
theorem Opr.r0 (x : Opr) : getR x.cells 0 8 = x.cells := rfl
theorem Opr.eqv (h : H) (x y : Opr) : eqV h (.fcons 0 2 true (.fcons 0 1 false .int (.fcons 1 1 false .int .fnil)) (.fcons 2 1 false .int (.fcons 3 1 false .int (.fcons 4 1 false .int (.fcons 5 1 false .str (.fcons 6 1 false .str (.fcons 7 1 false .str .fnil))))))) (.agg x.cells) (.agg y.cells) = some (decide (x = y)) := (fcons_step rfl rfl (fcons_step rfl rfl (int_step _ _ _ _) (fcons_step rfl rfl (int_step _ _ _ _) (fnil_step _ _ _))) (fcons_step rfl rfl (int_step _ _ _ _) (fcons_step rfl rfl (int_step _ _ _ _) (fcons_step rfl rfl (int_step _ _ _ _) (fcons_step rfl rfl (str_step _ _ _) (fcons_step rfl rfl (str_step _ _ _) (fcons_step rfl rfl (str_step _ _ _) (fnil_step _ _ _)))))))).trans (congrArg some (decide_eq_decide.2 ⟨fun e => by cases x; cases y; simpa [and_assoc] using e, fun e => by subst e; simp⟩))
structure Epoch where
  number : Int
  states : Vec
  seals : Vec
  sponsor : Vec
  deriving DecidableEq
def Epoch.cells (x : Epoch) : List V := [.int .i64 x.number, .int .i64 x.states.v0, .int .i64 x.states.v1, .int .i64 x.states.v2, .int .i64 x.states.v3, .int .i64 x.states.v4, .int .i64 x.states.v5, .int .i64 x.states.v6, .int .i64 x.states.v7, .int .i64 x.seals.v0, .int .i64 x.seals.v1, .int .i64 x.seals.v2, .int .i64 x.seals.v3, .int .i64 x.seals.v4, .int .i64 x.seals.v5, .int .i64 x.seals.v6, .int .i64 x.seals.v7, .int .i64 x.sponsor.v0, .int .i64 x.sponsor.v1, .int .i64 x.sponsor.v2, .int .i64 x.sponsor.v3, .int .i64 x.sponsor.v4, .int .i64 x.sponsor.v5, .int .i64 x.sponsor.v6, .int .i64 x.sponsor.v7]
theorem Epoch.len (x : Epoch) : x.cells.length = 25 := rfl
theorem Epoch.g0 (x : Epoch) : x.cells[0]? = some (.int .i64 x.number) := rfl
theorem Epoch.r1_8 (x : Epoch) : getR x.cells 1 8 = x.states.cells := rfl
theorem Epoch.g1 (x : Epoch) : x.cells[1]? = some (.int .i64 x.states.v0) := rfl
theorem Epoch.g2 (x : Epoch) : x.cells[2]? = some (.int .i64 x.states.v1) := rfl
theorem Epoch.g3 (x : Epoch) : x.cells[3]? = some (.int .i64 x.states.v2) := rfl
theorem Epoch.g4 (x : Epoch) : x.cells[4]? = some (.int .i64 x.states.v3) := rfl
theorem Epoch.g5 (x : Epoch) : x.cells[5]? = some (.int .i64 x.states.v4) := rfl
theorem Epoch.g6 (x : Epoch) : x.cells[6]? = some (.int .i64 x.states.v5) := rfl
theorem Epoch.g7 (x : Epoch) : x.cells[7]? = some (.int .i64 x.states.v6) := rfl
theorem Epoch.g8 (x : Epoch) : x.cells[8]? = some (.int .i64 x.states.v7) := rfl
theorem Epoch.r9_8 (x : Epoch) : getR x.cells 9 8 = x.seals.cells := rfl
theorem Epoch.g9 (x : Epoch) : x.cells[9]? = some (.int .i64 x.seals.v0) := rfl
theorem Epoch.g10 (x : Epoch) : x.cells[10]? = some (.int .i64 x.seals.v1) := rfl
theorem Epoch.g11 (x : Epoch) : x.cells[11]? = some (.int .i64 x.seals.v2) := rfl
theorem Epoch.g12 (x : Epoch) : x.cells[12]? = some (.int .i64 x.seals.v3) := rfl
theorem Epoch.g13 (x : Epoch) : x.cells[13]? = some (.int .i64 x.seals.v4) := rfl
theorem Epoch.g14 (x : Epoch) : x.cells[14]? = some (.int .i64 x.seals.v5) := rfl
theorem Epoch.g15 (x : Epoch) : x.cells[15]? = some (.int .i64 x.seals.v6) := rfl
theorem Epoch.g16 (x : Epoch) : x.cells[16]? = some (.int .i64 x.seals.v7) := rfl
theorem Epoch.r17_8 (x : Epoch) : getR x.cells 17 8 = x.sponsor.cells := rfl
theorem Epoch.g17 (x : Epoch) : x.cells[17]? = some (.int .i64 x.sponsor.v0) := rfl
theorem Epoch.g18 (x : Epoch) : x.cells[18]? = some (.int .i64 x.sponsor.v1) := rfl
theorem Epoch.g19 (x : Epoch) : x.cells[19]? = some (.int .i64 x.sponsor.v2) := rfl
theorem Epoch.g20 (x : Epoch) : x.cells[20]? = some (.int .i64 x.sponsor.v3) := rfl
theorem Epoch.g21 (x : Epoch) : x.cells[21]? = some (.int .i64 x.sponsor.v4) := rfl
theorem Epoch.g22 (x : Epoch) : x.cells[22]? = some (.int .i64 x.sponsor.v5) := rfl
theorem Epoch.g23 (x : Epoch) : x.cells[23]? = some (.int .i64 x.sponsor.v6) := rfl
theorem Epoch.g24 (x : Epoch) : x.cells[24]? = some (.int .i64 x.sponsor.v7) := rfl
theorem Epoch.r0 (x : Epoch) : getR x.cells 0 25 = x.cells := rfl
theorem Epoch.eqv (h : H) (x y : Epoch) : eqV h (.fcons 0 1 false .int (.fcons 1 8 true (.ar 8 1 false .int) (.fcons 9 8 true (.ar 8 1 false .int) (.fcons 17 8 true (.ar 8 1 false .int) .fnil)))) (.agg x.cells) (.agg y.cells) = some (decide (x = y)) := (fcons_step rfl rfl (int_step _ _ _ _) (fcons_step rfl rfl (Vec.eqv h _ _) (fcons_step rfl rfl (Vec.eqv h _ _) (fcons_step rfl rfl (Vec.eqv h _ _) (fnil_step _ _ _))))).trans (congrArg some (decide_eq_decide.2 ⟨fun e => by cases x; cases y; simpa [and_assoc] using e, fun e => by subst e; simp⟩))
structure Part where
  snap : Int
  index : Int
  many : Int
  data : V
def Part.cells (x : Part) : List V := [.int .i64 x.snap, .int .i64 x.index, .int .i64 x.many, x.data]
theorem Part.len (x : Part) : x.cells.length = 4 := rfl
theorem Part.g0 (x : Part) : x.cells[0]? = some (.int .i64 x.snap) := rfl
theorem Part.g1 (x : Part) : x.cells[1]? = some (.int .i64 x.index) := rfl
theorem Part.g2 (x : Part) : x.cells[2]? = some (.int .i64 x.many) := rfl
theorem Part.g3 (x : Part) : x.cells[3]? = some (x.data) := rfl
theorem Part.r0 (x : Part) : getR x.cells 0 4 = x.cells := rfl
structure Query where
  kind : Int
  path : List UInt8
  node : Int
  deriving DecidableEq
def Query.cells (x : Query) : List V := [.int .i64 x.kind, .str x.path, .int .i64 x.node]
theorem Query.len (x : Query) : x.cells.length = 3 := rfl
theorem Query.g0 (x : Query) : x.cells[0]? = some (.int .i64 x.kind) := rfl
theorem Query.g1 (x : Query) : x.cells[1]? = some (.str x.path) := rfl
theorem Query.g2 (x : Query) : x.cells[2]? = some (.int .i64 x.node) := rfl
theorem Query.r0 (x : Query) : getR x.cells 0 3 = x.cells := rfl
theorem Query.eqv (h : H) (x y : Query) : eqV h (.fcons 0 1 false .int (.fcons 1 1 false .str (.fcons 2 1 false .int .fnil))) (.agg x.cells) (.agg y.cells) = some (decide (x = y)) := (fcons_step rfl rfl (int_step _ _ _ _) (fcons_step rfl rfl (str_step _ _ _) (fcons_step rfl rfl (int_step _ _ _ _) (fnil_step _ _ _)))).trans (congrArg some (decide_eq_decide.2 ⟨fun e => by cases x; cases y; simpa [and_assoc] using e, fun e => by subst e; simp⟩))
structure Addr where
  group : Int
  replica : Int
  deriving DecidableEq
def Addr.cells (x : Addr) : List V := [.int .i64 x.group, .int .i64 x.replica]
theorem Addr.len (x : Addr) : x.cells.length = 2 := rfl
theorem Addr.g0 (x : Addr) : x.cells[0]? = some (.int .i64 x.group) := rfl
theorem Addr.g1 (x : Addr) : x.cells[1]? = some (.int .i64 x.replica) := rfl
theorem Addr.r0 (x : Addr) : getR x.cells 0 2 = x.cells := rfl
theorem Addr.eqv (h : H) (x y : Addr) : eqV h (.fcons 0 1 false .int (.fcons 1 1 false .int .fnil)) (.agg x.cells) (.agg y.cells) = some (decide (x = y)) := (fcons_step rfl rfl (int_step _ _ _ _) (fcons_step rfl rfl (int_step _ _ _ _) (fnil_step _ _ _))).trans (congrArg some (decide_eq_decide.2 ⟨fun e => by cases x; cases y; simpa [and_assoc] using e, fun e => by subst e; simp⟩))
structure Entry where
  kind : Int
  session : Int
  request : Int
  op : Opr
  origin : Int
  seq : Int
  ops : V
  epoch : Epoch
  frm : Int
  vector : Vec
  clock : Int
  part : Part
  site : Int
  sponsor : Int
  length : Int
def Entry.cells (x : Entry) : List V := [.int .i64 x.kind, .int .i64 x.session, .int .i64 x.request, .int .i64 x.op.time, .int .i64 x.op.site, .int .i64 x.op.kind, .int .i64 x.op.node, .int .i64 x.op.parent, .str x.op.name, .str x.op.key, .str x.op.value, .int .i64 x.origin, .int .i64 x.seq, x.ops, .int .i64 x.epoch.number, .int .i64 x.epoch.states.v0, .int .i64 x.epoch.states.v1, .int .i64 x.epoch.states.v2, .int .i64 x.epoch.states.v3, .int .i64 x.epoch.states.v4, .int .i64 x.epoch.states.v5, .int .i64 x.epoch.states.v6, .int .i64 x.epoch.states.v7, .int .i64 x.epoch.seals.v0, .int .i64 x.epoch.seals.v1, .int .i64 x.epoch.seals.v2, .int .i64 x.epoch.seals.v3, .int .i64 x.epoch.seals.v4, .int .i64 x.epoch.seals.v5, .int .i64 x.epoch.seals.v6, .int .i64 x.epoch.seals.v7, .int .i64 x.epoch.sponsor.v0, .int .i64 x.epoch.sponsor.v1, .int .i64 x.epoch.sponsor.v2, .int .i64 x.epoch.sponsor.v3, .int .i64 x.epoch.sponsor.v4, .int .i64 x.epoch.sponsor.v5, .int .i64 x.epoch.sponsor.v6, .int .i64 x.epoch.sponsor.v7, .int .i64 x.frm, .int .i64 x.vector.v0, .int .i64 x.vector.v1, .int .i64 x.vector.v2, .int .i64 x.vector.v3, .int .i64 x.vector.v4, .int .i64 x.vector.v5, .int .i64 x.vector.v6, .int .i64 x.vector.v7, .int .i64 x.clock, .int .i64 x.part.snap, .int .i64 x.part.index, .int .i64 x.part.many, x.part.data, .int .i64 x.site, .int .i64 x.sponsor, .int .i64 x.length]
theorem Entry.len (x : Entry) : x.cells.length = 56 := rfl
theorem Entry.g0 (x : Entry) : x.cells[0]? = some (.int .i64 x.kind) := rfl
theorem Entry.g1 (x : Entry) : x.cells[1]? = some (.int .i64 x.session) := rfl
theorem Entry.g2 (x : Entry) : x.cells[2]? = some (.int .i64 x.request) := rfl
theorem Entry.r3_8 (x : Entry) : getR x.cells 3 8 = x.op.cells := rfl
theorem Entry.g3 (x : Entry) : x.cells[3]? = some (.int .i64 x.op.time) := rfl
theorem Entry.g4 (x : Entry) : x.cells[4]? = some (.int .i64 x.op.site) := rfl
theorem Entry.g5 (x : Entry) : x.cells[5]? = some (.int .i64 x.op.kind) := rfl
theorem Entry.g6 (x : Entry) : x.cells[6]? = some (.int .i64 x.op.node) := rfl
theorem Entry.g7 (x : Entry) : x.cells[7]? = some (.int .i64 x.op.parent) := rfl
theorem Entry.g8 (x : Entry) : x.cells[8]? = some (.str x.op.name) := rfl
theorem Entry.g9 (x : Entry) : x.cells[9]? = some (.str x.op.key) := rfl
theorem Entry.g10 (x : Entry) : x.cells[10]? = some (.str x.op.value) := rfl
theorem Entry.g11 (x : Entry) : x.cells[11]? = some (.int .i64 x.origin) := rfl
theorem Entry.g12 (x : Entry) : x.cells[12]? = some (.int .i64 x.seq) := rfl
theorem Entry.g13 (x : Entry) : x.cells[13]? = some (x.ops) := rfl
theorem Entry.r14_25 (x : Entry) : getR x.cells 14 25 = x.epoch.cells := rfl
theorem Entry.g14 (x : Entry) : x.cells[14]? = some (.int .i64 x.epoch.number) := rfl
theorem Entry.r15_8 (x : Entry) : getR x.cells 15 8 = x.epoch.states.cells := rfl
theorem Entry.g15 (x : Entry) : x.cells[15]? = some (.int .i64 x.epoch.states.v0) := rfl
theorem Entry.g16 (x : Entry) : x.cells[16]? = some (.int .i64 x.epoch.states.v1) := rfl
theorem Entry.g17 (x : Entry) : x.cells[17]? = some (.int .i64 x.epoch.states.v2) := rfl
theorem Entry.g18 (x : Entry) : x.cells[18]? = some (.int .i64 x.epoch.states.v3) := rfl
theorem Entry.g19 (x : Entry) : x.cells[19]? = some (.int .i64 x.epoch.states.v4) := rfl
theorem Entry.g20 (x : Entry) : x.cells[20]? = some (.int .i64 x.epoch.states.v5) := rfl
theorem Entry.g21 (x : Entry) : x.cells[21]? = some (.int .i64 x.epoch.states.v6) := rfl
theorem Entry.g22 (x : Entry) : x.cells[22]? = some (.int .i64 x.epoch.states.v7) := rfl
theorem Entry.r23_8 (x : Entry) : getR x.cells 23 8 = x.epoch.seals.cells := rfl
theorem Entry.g23 (x : Entry) : x.cells[23]? = some (.int .i64 x.epoch.seals.v0) := rfl
theorem Entry.g24 (x : Entry) : x.cells[24]? = some (.int .i64 x.epoch.seals.v1) := rfl
theorem Entry.g25 (x : Entry) : x.cells[25]? = some (.int .i64 x.epoch.seals.v2) := rfl
theorem Entry.g26 (x : Entry) : x.cells[26]? = some (.int .i64 x.epoch.seals.v3) := rfl
theorem Entry.g27 (x : Entry) : x.cells[27]? = some (.int .i64 x.epoch.seals.v4) := rfl
theorem Entry.g28 (x : Entry) : x.cells[28]? = some (.int .i64 x.epoch.seals.v5) := rfl
theorem Entry.g29 (x : Entry) : x.cells[29]? = some (.int .i64 x.epoch.seals.v6) := rfl
theorem Entry.g30 (x : Entry) : x.cells[30]? = some (.int .i64 x.epoch.seals.v7) := rfl
theorem Entry.r31_8 (x : Entry) : getR x.cells 31 8 = x.epoch.sponsor.cells := rfl
theorem Entry.g31 (x : Entry) : x.cells[31]? = some (.int .i64 x.epoch.sponsor.v0) := rfl
theorem Entry.g32 (x : Entry) : x.cells[32]? = some (.int .i64 x.epoch.sponsor.v1) := rfl
theorem Entry.g33 (x : Entry) : x.cells[33]? = some (.int .i64 x.epoch.sponsor.v2) := rfl
theorem Entry.g34 (x : Entry) : x.cells[34]? = some (.int .i64 x.epoch.sponsor.v3) := rfl
theorem Entry.g35 (x : Entry) : x.cells[35]? = some (.int .i64 x.epoch.sponsor.v4) := rfl
theorem Entry.g36 (x : Entry) : x.cells[36]? = some (.int .i64 x.epoch.sponsor.v5) := rfl
theorem Entry.g37 (x : Entry) : x.cells[37]? = some (.int .i64 x.epoch.sponsor.v6) := rfl
theorem Entry.g38 (x : Entry) : x.cells[38]? = some (.int .i64 x.epoch.sponsor.v7) := rfl
theorem Entry.g39 (x : Entry) : x.cells[39]? = some (.int .i64 x.frm) := rfl
theorem Entry.r40_8 (x : Entry) : getR x.cells 40 8 = x.vector.cells := rfl
theorem Entry.g40 (x : Entry) : x.cells[40]? = some (.int .i64 x.vector.v0) := rfl
theorem Entry.g41 (x : Entry) : x.cells[41]? = some (.int .i64 x.vector.v1) := rfl
theorem Entry.g42 (x : Entry) : x.cells[42]? = some (.int .i64 x.vector.v2) := rfl
theorem Entry.g43 (x : Entry) : x.cells[43]? = some (.int .i64 x.vector.v3) := rfl
theorem Entry.g44 (x : Entry) : x.cells[44]? = some (.int .i64 x.vector.v4) := rfl
theorem Entry.g45 (x : Entry) : x.cells[45]? = some (.int .i64 x.vector.v5) := rfl
theorem Entry.g46 (x : Entry) : x.cells[46]? = some (.int .i64 x.vector.v6) := rfl
theorem Entry.g47 (x : Entry) : x.cells[47]? = some (.int .i64 x.vector.v7) := rfl
theorem Entry.g48 (x : Entry) : x.cells[48]? = some (.int .i64 x.clock) := rfl
theorem Entry.r49_4 (x : Entry) : getR x.cells 49 4 = x.part.cells := rfl
theorem Entry.g49 (x : Entry) : x.cells[49]? = some (.int .i64 x.part.snap) := rfl
theorem Entry.g50 (x : Entry) : x.cells[50]? = some (.int .i64 x.part.index) := rfl
theorem Entry.g51 (x : Entry) : x.cells[51]? = some (.int .i64 x.part.many) := rfl
theorem Entry.g52 (x : Entry) : x.cells[52]? = some (x.part.data) := rfl
theorem Entry.g53 (x : Entry) : x.cells[53]? = some (.int .i64 x.site) := rfl
theorem Entry.g54 (x : Entry) : x.cells[54]? = some (.int .i64 x.sponsor) := rfl
theorem Entry.g55 (x : Entry) : x.cells[55]? = some (.int .i64 x.length) := rfl
theorem Entry.r0 (x : Entry) : getR x.cells 0 56 = x.cells := rfl
structure WStep where
  kind : Int
  at_ : Addr
  client : Int
  op : Opr
  query : Query
  entry : Entry
  number : Int
  place : Int
  wth : Int
  count : Int
  keep : Int
def WStep.cells (x : WStep) : List V := [.int .i64 x.kind, .int .i64 x.at_.group, .int .i64 x.at_.replica, .int .i64 x.client, .int .i64 x.op.time, .int .i64 x.op.site, .int .i64 x.op.kind, .int .i64 x.op.node, .int .i64 x.op.parent, .str x.op.name, .str x.op.key, .str x.op.value, .int .i64 x.query.kind, .str x.query.path, .int .i64 x.query.node, .int .i64 x.entry.kind, .int .i64 x.entry.session, .int .i64 x.entry.request, .int .i64 x.entry.op.time, .int .i64 x.entry.op.site, .int .i64 x.entry.op.kind, .int .i64 x.entry.op.node, .int .i64 x.entry.op.parent, .str x.entry.op.name, .str x.entry.op.key, .str x.entry.op.value, .int .i64 x.entry.origin, .int .i64 x.entry.seq, x.entry.ops, .int .i64 x.entry.epoch.number, .int .i64 x.entry.epoch.states.v0, .int .i64 x.entry.epoch.states.v1, .int .i64 x.entry.epoch.states.v2, .int .i64 x.entry.epoch.states.v3, .int .i64 x.entry.epoch.states.v4, .int .i64 x.entry.epoch.states.v5, .int .i64 x.entry.epoch.states.v6, .int .i64 x.entry.epoch.states.v7, .int .i64 x.entry.epoch.seals.v0, .int .i64 x.entry.epoch.seals.v1, .int .i64 x.entry.epoch.seals.v2, .int .i64 x.entry.epoch.seals.v3, .int .i64 x.entry.epoch.seals.v4, .int .i64 x.entry.epoch.seals.v5, .int .i64 x.entry.epoch.seals.v6, .int .i64 x.entry.epoch.seals.v7, .int .i64 x.entry.epoch.sponsor.v0, .int .i64 x.entry.epoch.sponsor.v1, .int .i64 x.entry.epoch.sponsor.v2, .int .i64 x.entry.epoch.sponsor.v3, .int .i64 x.entry.epoch.sponsor.v4, .int .i64 x.entry.epoch.sponsor.v5, .int .i64 x.entry.epoch.sponsor.v6, .int .i64 x.entry.epoch.sponsor.v7, .int .i64 x.entry.frm, .int .i64 x.entry.vector.v0, .int .i64 x.entry.vector.v1, .int .i64 x.entry.vector.v2, .int .i64 x.entry.vector.v3, .int .i64 x.entry.vector.v4, .int .i64 x.entry.vector.v5, .int .i64 x.entry.vector.v6, .int .i64 x.entry.vector.v7, .int .i64 x.entry.clock, .int .i64 x.entry.part.snap, .int .i64 x.entry.part.index, .int .i64 x.entry.part.many, x.entry.part.data, .int .i64 x.entry.site, .int .i64 x.entry.sponsor, .int .i64 x.entry.length, .int .i64 x.number, .int .i64 x.place, .int .u8 x.wth, .int .i64 x.count, .int .i64 x.keep]
theorem WStep.len (x : WStep) : x.cells.length = 76 := rfl
theorem WStep.g0 (x : WStep) : x.cells[0]? = some (.int .i64 x.kind) := rfl
theorem WStep.r1_2 (x : WStep) : getR x.cells 1 2 = x.at_.cells := rfl
theorem WStep.g1 (x : WStep) : x.cells[1]? = some (.int .i64 x.at_.group) := rfl
theorem WStep.g2 (x : WStep) : x.cells[2]? = some (.int .i64 x.at_.replica) := rfl
theorem WStep.g3 (x : WStep) : x.cells[3]? = some (.int .i64 x.client) := rfl
theorem WStep.r4_8 (x : WStep) : getR x.cells 4 8 = x.op.cells := rfl
theorem WStep.g4 (x : WStep) : x.cells[4]? = some (.int .i64 x.op.time) := rfl
theorem WStep.g5 (x : WStep) : x.cells[5]? = some (.int .i64 x.op.site) := rfl
theorem WStep.g6 (x : WStep) : x.cells[6]? = some (.int .i64 x.op.kind) := rfl
theorem WStep.g7 (x : WStep) : x.cells[7]? = some (.int .i64 x.op.node) := rfl
theorem WStep.g8 (x : WStep) : x.cells[8]? = some (.int .i64 x.op.parent) := rfl
theorem WStep.g9 (x : WStep) : x.cells[9]? = some (.str x.op.name) := rfl
theorem WStep.g10 (x : WStep) : x.cells[10]? = some (.str x.op.key) := rfl
theorem WStep.g11 (x : WStep) : x.cells[11]? = some (.str x.op.value) := rfl
theorem WStep.r12_3 (x : WStep) : getR x.cells 12 3 = x.query.cells := rfl
theorem WStep.g12 (x : WStep) : x.cells[12]? = some (.int .i64 x.query.kind) := rfl
theorem WStep.g13 (x : WStep) : x.cells[13]? = some (.str x.query.path) := rfl
theorem WStep.g14 (x : WStep) : x.cells[14]? = some (.int .i64 x.query.node) := rfl
theorem WStep.r15_56 (x : WStep) : getR x.cells 15 56 = x.entry.cells := rfl
theorem WStep.g15 (x : WStep) : x.cells[15]? = some (.int .i64 x.entry.kind) := rfl
theorem WStep.g16 (x : WStep) : x.cells[16]? = some (.int .i64 x.entry.session) := rfl
theorem WStep.g17 (x : WStep) : x.cells[17]? = some (.int .i64 x.entry.request) := rfl
theorem WStep.r18_8 (x : WStep) : getR x.cells 18 8 = x.entry.op.cells := rfl
theorem WStep.g18 (x : WStep) : x.cells[18]? = some (.int .i64 x.entry.op.time) := rfl
theorem WStep.g19 (x : WStep) : x.cells[19]? = some (.int .i64 x.entry.op.site) := rfl
theorem WStep.g20 (x : WStep) : x.cells[20]? = some (.int .i64 x.entry.op.kind) := rfl
theorem WStep.g21 (x : WStep) : x.cells[21]? = some (.int .i64 x.entry.op.node) := rfl
theorem WStep.g22 (x : WStep) : x.cells[22]? = some (.int .i64 x.entry.op.parent) := rfl
theorem WStep.g23 (x : WStep) : x.cells[23]? = some (.str x.entry.op.name) := rfl
theorem WStep.g24 (x : WStep) : x.cells[24]? = some (.str x.entry.op.key) := rfl
theorem WStep.g25 (x : WStep) : x.cells[25]? = some (.str x.entry.op.value) := rfl
theorem WStep.g26 (x : WStep) : x.cells[26]? = some (.int .i64 x.entry.origin) := rfl
theorem WStep.g27 (x : WStep) : x.cells[27]? = some (.int .i64 x.entry.seq) := rfl
theorem WStep.g28 (x : WStep) : x.cells[28]? = some (x.entry.ops) := rfl
theorem WStep.r29_25 (x : WStep) : getR x.cells 29 25 = x.entry.epoch.cells := rfl
theorem WStep.g29 (x : WStep) : x.cells[29]? = some (.int .i64 x.entry.epoch.number) := rfl
theorem WStep.r30_8 (x : WStep) : getR x.cells 30 8 = x.entry.epoch.states.cells := rfl
theorem WStep.g30 (x : WStep) : x.cells[30]? = some (.int .i64 x.entry.epoch.states.v0) := rfl
theorem WStep.g31 (x : WStep) : x.cells[31]? = some (.int .i64 x.entry.epoch.states.v1) := rfl
theorem WStep.g32 (x : WStep) : x.cells[32]? = some (.int .i64 x.entry.epoch.states.v2) := rfl
theorem WStep.g33 (x : WStep) : x.cells[33]? = some (.int .i64 x.entry.epoch.states.v3) := rfl
theorem WStep.g34 (x : WStep) : x.cells[34]? = some (.int .i64 x.entry.epoch.states.v4) := rfl
theorem WStep.g35 (x : WStep) : x.cells[35]? = some (.int .i64 x.entry.epoch.states.v5) := rfl
theorem WStep.g36 (x : WStep) : x.cells[36]? = some (.int .i64 x.entry.epoch.states.v6) := rfl
theorem WStep.g37 (x : WStep) : x.cells[37]? = some (.int .i64 x.entry.epoch.states.v7) := rfl
theorem WStep.r38_8 (x : WStep) : getR x.cells 38 8 = x.entry.epoch.seals.cells := rfl
theorem WStep.g38 (x : WStep) : x.cells[38]? = some (.int .i64 x.entry.epoch.seals.v0) := rfl
theorem WStep.g39 (x : WStep) : x.cells[39]? = some (.int .i64 x.entry.epoch.seals.v1) := rfl
theorem WStep.g40 (x : WStep) : x.cells[40]? = some (.int .i64 x.entry.epoch.seals.v2) := rfl
theorem WStep.g41 (x : WStep) : x.cells[41]? = some (.int .i64 x.entry.epoch.seals.v3) := rfl
theorem WStep.g42 (x : WStep) : x.cells[42]? = some (.int .i64 x.entry.epoch.seals.v4) := rfl
theorem WStep.g43 (x : WStep) : x.cells[43]? = some (.int .i64 x.entry.epoch.seals.v5) := rfl
theorem WStep.g44 (x : WStep) : x.cells[44]? = some (.int .i64 x.entry.epoch.seals.v6) := rfl
theorem WStep.g45 (x : WStep) : x.cells[45]? = some (.int .i64 x.entry.epoch.seals.v7) := rfl
theorem WStep.r46_8 (x : WStep) : getR x.cells 46 8 = x.entry.epoch.sponsor.cells := rfl
theorem WStep.g46 (x : WStep) : x.cells[46]? = some (.int .i64 x.entry.epoch.sponsor.v0) := rfl
theorem WStep.g47 (x : WStep) : x.cells[47]? = some (.int .i64 x.entry.epoch.sponsor.v1) := rfl
theorem WStep.g48 (x : WStep) : x.cells[48]? = some (.int .i64 x.entry.epoch.sponsor.v2) := rfl
theorem WStep.g49 (x : WStep) : x.cells[49]? = some (.int .i64 x.entry.epoch.sponsor.v3) := rfl
theorem WStep.g50 (x : WStep) : x.cells[50]? = some (.int .i64 x.entry.epoch.sponsor.v4) := rfl
theorem WStep.g51 (x : WStep) : x.cells[51]? = some (.int .i64 x.entry.epoch.sponsor.v5) := rfl
theorem WStep.g52 (x : WStep) : x.cells[52]? = some (.int .i64 x.entry.epoch.sponsor.v6) := rfl
theorem WStep.g53 (x : WStep) : x.cells[53]? = some (.int .i64 x.entry.epoch.sponsor.v7) := rfl
theorem WStep.g54 (x : WStep) : x.cells[54]? = some (.int .i64 x.entry.frm) := rfl
theorem WStep.r55_8 (x : WStep) : getR x.cells 55 8 = x.entry.vector.cells := rfl
theorem WStep.g55 (x : WStep) : x.cells[55]? = some (.int .i64 x.entry.vector.v0) := rfl
theorem WStep.g56 (x : WStep) : x.cells[56]? = some (.int .i64 x.entry.vector.v1) := rfl
theorem WStep.g57 (x : WStep) : x.cells[57]? = some (.int .i64 x.entry.vector.v2) := rfl
theorem WStep.g58 (x : WStep) : x.cells[58]? = some (.int .i64 x.entry.vector.v3) := rfl
theorem WStep.g59 (x : WStep) : x.cells[59]? = some (.int .i64 x.entry.vector.v4) := rfl
theorem WStep.g60 (x : WStep) : x.cells[60]? = some (.int .i64 x.entry.vector.v5) := rfl
theorem WStep.g61 (x : WStep) : x.cells[61]? = some (.int .i64 x.entry.vector.v6) := rfl
theorem WStep.g62 (x : WStep) : x.cells[62]? = some (.int .i64 x.entry.vector.v7) := rfl
theorem WStep.g63 (x : WStep) : x.cells[63]? = some (.int .i64 x.entry.clock) := rfl
theorem WStep.r64_4 (x : WStep) : getR x.cells 64 4 = x.entry.part.cells := rfl
theorem WStep.g64 (x : WStep) : x.cells[64]? = some (.int .i64 x.entry.part.snap) := rfl
theorem WStep.g65 (x : WStep) : x.cells[65]? = some (.int .i64 x.entry.part.index) := rfl
theorem WStep.g66 (x : WStep) : x.cells[66]? = some (.int .i64 x.entry.part.many) := rfl
theorem WStep.g67 (x : WStep) : x.cells[67]? = some (x.entry.part.data) := rfl
theorem WStep.g68 (x : WStep) : x.cells[68]? = some (.int .i64 x.entry.site) := rfl
theorem WStep.g69 (x : WStep) : x.cells[69]? = some (.int .i64 x.entry.sponsor) := rfl
theorem WStep.g70 (x : WStep) : x.cells[70]? = some (.int .i64 x.entry.length) := rfl
theorem WStep.g71 (x : WStep) : x.cells[71]? = some (.int .i64 x.number) := rfl
theorem WStep.g72 (x : WStep) : x.cells[72]? = some (.int .i64 x.place) := rfl
theorem WStep.g73 (x : WStep) : x.cells[73]? = some (.int .u8 x.wth) := rfl
theorem WStep.g74 (x : WStep) : x.cells[74]? = some (.int .i64 x.count) := rfl
theorem WStep.g75 (x : WStep) : x.cells[75]? = some (.int .i64 x.keep) := rfl
theorem WStep.r0 (x : WStep) : getR x.cells 0 76 = x.cells := rfl
structure WConfig where
  n : Int
  room : Int
  clients : Int
  members : V
def WConfig.cells (x : WConfig) : List V := [.int .i64 x.n, .int .i64 x.room, .int .i64 x.clients, x.members]
theorem WConfig.len (x : WConfig) : x.cells.length = 4 := rfl
theorem WConfig.g0 (x : WConfig) : x.cells[0]? = some (.int .i64 x.n) := rfl
theorem WConfig.g1 (x : WConfig) : x.cells[1]? = some (.int .i64 x.room) := rfl
theorem WConfig.g2 (x : WConfig) : x.cells[2]? = some (.int .i64 x.clients) := rfl
theorem WConfig.g3 (x : WConfig) : x.cells[3]? = some (x.members) := rfl
theorem WConfig.r0 (x : WConfig) : getR x.cells 0 4 = x.cells := rfl
structure Flat where
  kind : Int
  session : Int
  request : Int
  op : Opr
  origin : Int
  seq : Int
  epoch : Epoch
  frm : Int
  vector : Vec
  clock : Int
  snap : Int
  index : Int
  many : Int
  site : Int
  sponsor : Int
  length : Int
  deriving DecidableEq
def Flat.cells (x : Flat) : List V := [.int .i64 x.kind, .int .i64 x.session, .int .i64 x.request, .int .i64 x.op.time, .int .i64 x.op.site, .int .i64 x.op.kind, .int .i64 x.op.node, .int .i64 x.op.parent, .str x.op.name, .str x.op.key, .str x.op.value, .int .i64 x.origin, .int .i64 x.seq, .int .i64 x.epoch.number, .int .i64 x.epoch.states.v0, .int .i64 x.epoch.states.v1, .int .i64 x.epoch.states.v2, .int .i64 x.epoch.states.v3, .int .i64 x.epoch.states.v4, .int .i64 x.epoch.states.v5, .int .i64 x.epoch.states.v6, .int .i64 x.epoch.states.v7, .int .i64 x.epoch.seals.v0, .int .i64 x.epoch.seals.v1, .int .i64 x.epoch.seals.v2, .int .i64 x.epoch.seals.v3, .int .i64 x.epoch.seals.v4, .int .i64 x.epoch.seals.v5, .int .i64 x.epoch.seals.v6, .int .i64 x.epoch.seals.v7, .int .i64 x.epoch.sponsor.v0, .int .i64 x.epoch.sponsor.v1, .int .i64 x.epoch.sponsor.v2, .int .i64 x.epoch.sponsor.v3, .int .i64 x.epoch.sponsor.v4, .int .i64 x.epoch.sponsor.v5, .int .i64 x.epoch.sponsor.v6, .int .i64 x.epoch.sponsor.v7, .int .i64 x.frm, .int .i64 x.vector.v0, .int .i64 x.vector.v1, .int .i64 x.vector.v2, .int .i64 x.vector.v3, .int .i64 x.vector.v4, .int .i64 x.vector.v5, .int .i64 x.vector.v6, .int .i64 x.vector.v7, .int .i64 x.clock, .int .i64 x.snap, .int .i64 x.index, .int .i64 x.many, .int .i64 x.site, .int .i64 x.sponsor, .int .i64 x.length]
theorem Flat.len (x : Flat) : x.cells.length = 54 := rfl
theorem Flat.g0 (x : Flat) : x.cells[0]? = some (.int .i64 x.kind) := rfl
theorem Flat.g1 (x : Flat) : x.cells[1]? = some (.int .i64 x.session) := rfl
theorem Flat.g2 (x : Flat) : x.cells[2]? = some (.int .i64 x.request) := rfl
theorem Flat.r3_8 (x : Flat) : getR x.cells 3 8 = x.op.cells := rfl
theorem Flat.g3 (x : Flat) : x.cells[3]? = some (.int .i64 x.op.time) := rfl
theorem Flat.g4 (x : Flat) : x.cells[4]? = some (.int .i64 x.op.site) := rfl
theorem Flat.g5 (x : Flat) : x.cells[5]? = some (.int .i64 x.op.kind) := rfl
theorem Flat.g6 (x : Flat) : x.cells[6]? = some (.int .i64 x.op.node) := rfl
theorem Flat.g7 (x : Flat) : x.cells[7]? = some (.int .i64 x.op.parent) := rfl
theorem Flat.g8 (x : Flat) : x.cells[8]? = some (.str x.op.name) := rfl
theorem Flat.g9 (x : Flat) : x.cells[9]? = some (.str x.op.key) := rfl
theorem Flat.g10 (x : Flat) : x.cells[10]? = some (.str x.op.value) := rfl
theorem Flat.g11 (x : Flat) : x.cells[11]? = some (.int .i64 x.origin) := rfl
theorem Flat.g12 (x : Flat) : x.cells[12]? = some (.int .i64 x.seq) := rfl
theorem Flat.r13_25 (x : Flat) : getR x.cells 13 25 = x.epoch.cells := rfl
theorem Flat.g13 (x : Flat) : x.cells[13]? = some (.int .i64 x.epoch.number) := rfl
theorem Flat.r14_8 (x : Flat) : getR x.cells 14 8 = x.epoch.states.cells := rfl
theorem Flat.g14 (x : Flat) : x.cells[14]? = some (.int .i64 x.epoch.states.v0) := rfl
theorem Flat.g15 (x : Flat) : x.cells[15]? = some (.int .i64 x.epoch.states.v1) := rfl
theorem Flat.g16 (x : Flat) : x.cells[16]? = some (.int .i64 x.epoch.states.v2) := rfl
theorem Flat.g17 (x : Flat) : x.cells[17]? = some (.int .i64 x.epoch.states.v3) := rfl
theorem Flat.g18 (x : Flat) : x.cells[18]? = some (.int .i64 x.epoch.states.v4) := rfl
theorem Flat.g19 (x : Flat) : x.cells[19]? = some (.int .i64 x.epoch.states.v5) := rfl
theorem Flat.g20 (x : Flat) : x.cells[20]? = some (.int .i64 x.epoch.states.v6) := rfl
theorem Flat.g21 (x : Flat) : x.cells[21]? = some (.int .i64 x.epoch.states.v7) := rfl
theorem Flat.r22_8 (x : Flat) : getR x.cells 22 8 = x.epoch.seals.cells := rfl
theorem Flat.g22 (x : Flat) : x.cells[22]? = some (.int .i64 x.epoch.seals.v0) := rfl
theorem Flat.g23 (x : Flat) : x.cells[23]? = some (.int .i64 x.epoch.seals.v1) := rfl
theorem Flat.g24 (x : Flat) : x.cells[24]? = some (.int .i64 x.epoch.seals.v2) := rfl
theorem Flat.g25 (x : Flat) : x.cells[25]? = some (.int .i64 x.epoch.seals.v3) := rfl
theorem Flat.g26 (x : Flat) : x.cells[26]? = some (.int .i64 x.epoch.seals.v4) := rfl
theorem Flat.g27 (x : Flat) : x.cells[27]? = some (.int .i64 x.epoch.seals.v5) := rfl
theorem Flat.g28 (x : Flat) : x.cells[28]? = some (.int .i64 x.epoch.seals.v6) := rfl
theorem Flat.g29 (x : Flat) : x.cells[29]? = some (.int .i64 x.epoch.seals.v7) := rfl
theorem Flat.r30_8 (x : Flat) : getR x.cells 30 8 = x.epoch.sponsor.cells := rfl
theorem Flat.g30 (x : Flat) : x.cells[30]? = some (.int .i64 x.epoch.sponsor.v0) := rfl
theorem Flat.g31 (x : Flat) : x.cells[31]? = some (.int .i64 x.epoch.sponsor.v1) := rfl
theorem Flat.g32 (x : Flat) : x.cells[32]? = some (.int .i64 x.epoch.sponsor.v2) := rfl
theorem Flat.g33 (x : Flat) : x.cells[33]? = some (.int .i64 x.epoch.sponsor.v3) := rfl
theorem Flat.g34 (x : Flat) : x.cells[34]? = some (.int .i64 x.epoch.sponsor.v4) := rfl
theorem Flat.g35 (x : Flat) : x.cells[35]? = some (.int .i64 x.epoch.sponsor.v5) := rfl
theorem Flat.g36 (x : Flat) : x.cells[36]? = some (.int .i64 x.epoch.sponsor.v6) := rfl
theorem Flat.g37 (x : Flat) : x.cells[37]? = some (.int .i64 x.epoch.sponsor.v7) := rfl
theorem Flat.g38 (x : Flat) : x.cells[38]? = some (.int .i64 x.frm) := rfl
theorem Flat.r39_8 (x : Flat) : getR x.cells 39 8 = x.vector.cells := rfl
theorem Flat.g39 (x : Flat) : x.cells[39]? = some (.int .i64 x.vector.v0) := rfl
theorem Flat.g40 (x : Flat) : x.cells[40]? = some (.int .i64 x.vector.v1) := rfl
theorem Flat.g41 (x : Flat) : x.cells[41]? = some (.int .i64 x.vector.v2) := rfl
theorem Flat.g42 (x : Flat) : x.cells[42]? = some (.int .i64 x.vector.v3) := rfl
theorem Flat.g43 (x : Flat) : x.cells[43]? = some (.int .i64 x.vector.v4) := rfl
theorem Flat.g44 (x : Flat) : x.cells[44]? = some (.int .i64 x.vector.v5) := rfl
theorem Flat.g45 (x : Flat) : x.cells[45]? = some (.int .i64 x.vector.v6) := rfl
theorem Flat.g46 (x : Flat) : x.cells[46]? = some (.int .i64 x.vector.v7) := rfl
theorem Flat.g47 (x : Flat) : x.cells[47]? = some (.int .i64 x.clock) := rfl
theorem Flat.g48 (x : Flat) : x.cells[48]? = some (.int .i64 x.snap) := rfl
theorem Flat.g49 (x : Flat) : x.cells[49]? = some (.int .i64 x.index) := rfl
theorem Flat.g50 (x : Flat) : x.cells[50]? = some (.int .i64 x.many) := rfl
theorem Flat.g51 (x : Flat) : x.cells[51]? = some (.int .i64 x.site) := rfl
theorem Flat.g52 (x : Flat) : x.cells[52]? = some (.int .i64 x.sponsor) := rfl
theorem Flat.g53 (x : Flat) : x.cells[53]? = some (.int .i64 x.length) := rfl
theorem Flat.r0 (x : Flat) : getR x.cells 0 54 = x.cells := rfl
theorem Flat.eqv (h : H) (x y : Flat) : eqV h (.fcons 0 1 false .int (.fcons 1 1 false .int (.fcons 2 1 false .int (.fcons 3 8 true (.fcons 0 2 true (.fcons 0 1 false .int (.fcons 1 1 false .int .fnil)) (.fcons 2 1 false .int (.fcons 3 1 false .int (.fcons 4 1 false .int (.fcons 5 1 false .str (.fcons 6 1 false .str (.fcons 7 1 false .str .fnil))))))) (.fcons 11 1 false .int (.fcons 12 1 false .int (.fcons 13 25 true (.fcons 0 1 false .int (.fcons 1 8 true (.ar 8 1 false .int) (.fcons 9 8 true (.ar 8 1 false .int) (.fcons 17 8 true (.ar 8 1 false .int) .fnil)))) (.fcons 38 1 false .int (.fcons 39 8 true (.ar 8 1 false .int) (.fcons 47 1 false .int (.fcons 48 1 false .int (.fcons 49 1 false .int (.fcons 50 1 false .int (.fcons 51 1 false .int (.fcons 52 1 false .int (.fcons 53 1 false .int .fnil)))))))))))))))) (.agg x.cells) (.agg y.cells) = some (decide (x = y)) := (fcons_step rfl rfl (int_step _ _ _ _) (fcons_step rfl rfl (int_step _ _ _ _) (fcons_step rfl rfl (int_step _ _ _ _) (fcons_step rfl rfl (Opr.eqv h _ _) (fcons_step rfl rfl (int_step _ _ _ _) (fcons_step rfl rfl (int_step _ _ _ _) (fcons_step rfl rfl (Epoch.eqv h _ _) (fcons_step rfl rfl (int_step _ _ _ _) (fcons_step rfl rfl (Vec.eqv h _ _) (fcons_step rfl rfl (int_step _ _ _ _) (fcons_step rfl rfl (int_step _ _ _ _) (fcons_step rfl rfl (int_step _ _ _ _) (fcons_step rfl rfl (int_step _ _ _ _) (fcons_step rfl rfl (int_step _ _ _ _) (fcons_step rfl rfl (int_step _ _ _ _) (fcons_step rfl rfl (int_step _ _ _ _) (fnil_step _ _ _))))))))))))))))).trans (congrArg some (decide_eq_decide.2 ⟨fun e => by cases x; cases y; simpa [and_assoc] using e, fun e => by subst e; simp⟩))
end Go.AM.Sc
