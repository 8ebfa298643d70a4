/- My own texts, laid for this claim. -/
import Derived.RangeFuncLeaves
import Derived.RangeFuncCalls
import Derived.OrdersIn
import Derived.KernelRfl
import Derived.Laws.Sem
import Derived.Laws.World
set_option linter.unusedSimpArgs false
set_option linter.unusedVariables false
namespace Go.AM
inductive V where
 | bool (b : Bool)
 | int (k : IntKind) (n : Int)
 | str (s : List UInt8)
 | ptr (a : Option (Nat × Nat))
 | slice (a : Option (Nat × Nat)) (len cap : Nat) (opn : Bool)
 | map (r : Option Nat)
 | func (f : Nat) (fs cs : List V)
 | yield (l : Nat)
 | nilFunc
 | iface (t : Nat) (v : V)
 | nilIface
 | agg (cs : List V)
 | tup (vs : List V)
 | junk
 deriving Inhabited
inductive EqT where
 | bool | int | str | ptr | sl | mp | fn | ifc
 | fnil
 | fcons (off size : Nat) (agg : Bool) (e rest : EqT)
 | ar (len size : Nat) (agg : Bool) (e : EqT)
 deriving Inhabited
inductive A where
 | t (i : Nat)
 | k (v : V)
 deriving Inhabited
inductive K where
 | mv (a : A)
 | pick (c a b : A)
 | alloc (ty : Nat) (z : List V)
 | box (ty : Nat) (a : A)
 | build (z : List V) (ps : List (Nat × Nat × A))
 | bslice (ty len : Nat) (z : List V) (ps : List (Nat × Nat × A))
 | load1 (a : A)
 | loadN (n : Nat) (a : A)
 | store (n : Nat) (a v : A)
 | nilck (a : A)
 | bin (op : BinOp) (eq : Option EqT) (lit : Bool) (x y : A)
 | un (op : UnOp) (x : A)
 | cvt (k : IntKind) (x : A)
 | s2b (ty : Nat) (x : A)
 | b2s (x : A)
 | mkI (ty : Nat) (x : A)
 | mkF (f : Nat) (fs cs : List A)
 | mkMap
 | mkSlice (ty bytes : Nat) (z : List V) (len cap : A)
 | slS (x : A) (lo hi : Option A)
 | slL (size : Nat) (x : A) (lo hi mx : Option A)
 | fadr (off : Nat) (x : A)
 | iadrL (size : Nat) (x i : A)
 | iadrA (len size : Nat) (x i : A)
 | fld (off size : Nat) (agg : Bool) (x : A)
 | idxA (len size : Nat) (agg : Bool) (x i : A)
 | idxS (x i : A)
 | lookup (kt : EqT) (z : V) (ok : Bool) (m k : A)
 | mapUpd (kt : EqT) (m k v : A)
 | mapDel (kt : EqT) (m k : A)
 | rng (isStr : Bool) (x : A)
 | next (isStr : Bool) (x : A)
 | entry (x : A)
 | extract (x : A) (i : Nat)
 | lenS (x : A)
 | lenL (x : A)
 | lenM (x : A)
 | app (ty size bytes : Nat) (s x : A)
 | copy (size : Nat) (d s : A)
 | minmax (mx : Bool) (xs : List A)
 | call (f : A) (args : List A)
 | bad
 | slA (n size : Nat) (x : A) (lo hi mx : Option A)
 | capL (x : A)
 | appZ (ty size bytes : Nat) (z : List V) (s x : A)
 | i2s (x : A)
 | sid (x : A)
 | same (x : A)
 | p2u (x : A)
 | u2p (u : Nat) (x : A)
 | usd (x : A)
 | ustr (u : Nat) (x n : A)
 | mkNZ (ty : Nat) (x : A)
 | tass (ty : Nat) (z : V) (ok : Bool) (x : A)
 | inv (name : String) (x : A) (args : List A)
 | mlit (kt : EqT) (es : List (V × V × Nat)) (z : V) (ok : Bool) (x : A)
 deriving Inhabited
structure O where
 dst : Option Nat
 op : K
 guard : Option (Nat × Bool)
 pre : Nat      -- which operations of the region come ahead of it,as bits
 names : List Nat
 deriving Inhabited
inductive C where
 | skip
 | region (ops : List O)
 | draw (ops : List O)
 | seq (a b : C)
 | cond (c : A) (thn els : C)
 | block (id : Nat) (body : C)
 | loop (body : C)
 | range (f : A) (params : List Nat) (assign body : C)
 | exit (id : Nat)
 | ret
 | bad
 deriving Inhabited
inductive Obj where
 | cells (vs : List V) (ty : Nat) (opn ro : Bool) (fz : Option Nat)
 | map (es : List (V × V × Nat)) (clock : Nat)
 | mapIter (m : Option Nat) (since : Nat) (seen : List Nat) (stepped : Nat)
 | strIter (s : List UInt8) (pos : Nat)
 | loop (st : LoopState) (pending : Option C) (tmps : List V) (params : List Nat) (assign body : C)
 | dead
 deriving Inhabited
inductive Tr where
 | nil
 | node (o : Option Obj) (l r : Tr)
 deriving Inhabited
def Tr.get : Nat → Tr → Nat → Option Obj
 | f + 1,.node o l r,i => if i = 0 then o else if i % 2 = 1 then l.get f ((i - 1) / 2) else r.get f ((i - 1) / 2)
 | _,_,_ => none
def Tr.set : Nat → Tr → Nat → Obj → Tr
 | 0,t,_,_ => t
 | f + 1,.node x l r,i,o => if i = 0 then .node (some o) l r else if i % 2 = 1 then .node x (l.set f ((i - 1) / 2) o) r else .node x l (r.set f ((i - 1) / 2) o)
 | f + 1,.nil,i,o => if i = 0 then .node (some o) .nil .nil else if i % 2 = 1 then .node none (Tr.set f .nil ((i - 1) / 2) o) .nil else .node none .nil (Tr.set f .nil ((i - 1) / 2) o)
theorem Tr.get_nil (f i : Nat) : Tr.nil.get f i = none := by cases f <;> rfl
theorem Tr.set_nil (f : Nat) (i : Nat) (o : Obj) : Tr.nil.set f i o = (Tr.node none .nil .nil).set f i o ∨ f = 0 := by
 cases f with
 | zero => exact .inr rfl
 | succ f => exact .inl (by simp only [Tr.set])
theorem Tr.get_set (f : Nat) : ∀ (g : Nat) (t : Tr) (i j : Nat) (o : Obj),i < f → j < g → (t.set f i o).get g j = if i = j then some o else t.get g j := by
 induction f with
 | zero => intro g t i j o hi; omega
 | succ f ih =>
  intro g t i j o hi hj
  obtain ⟨g,rfl⟩ : ∃ g',g = g' + 1 := ⟨g - 1,by omega⟩
  have key : ∀ x (l r : Tr),((Tr.node x l r).set (f + 1) i o).get (g + 1) j = if i = j then some o else (Tr.node x l r).get (g + 1) j := by
   intro x l r
   by_cases hi0 : i = 0
   ·subst hi0
    by_cases hj0 : j = 0
    ·subst hj0; simp [Tr.set,Tr.get]
    ·have hne : 0 ≠ j := fun h => hj0 h.symm
     simp [Tr.set,Tr.get,hj0,hne]
   ·have hif : (i - 1) / 2 < f := by omega
    by_cases hj0 : j = 0
    ·subst hj0
     by_cases hp : i % 2 = 1 <;> simp [Tr.set,Tr.get,hi0,hp]
    ·have hjg : (j - 1) / 2 < g := by omega
     by_cases hp : i % 2 = 1 <;> by_cases hq : j % 2 = 1
     ·simp only [Tr.set,Tr.get,hi0,hj0,hp,hq,if_true,if_false]
      rw [ih _ _ _ _ _ hif hjg]
      by_cases e : i = j
      ·subst e; simp
      ·rw [if_neg e,if_neg (by omega)]
     ·simp only [Tr.set,Tr.get,hi0,hj0,hp,hq,if_true,if_false]
      rw [if_neg (by omega)]
     ·simp only [Tr.set,Tr.get,hi0,hj0,hp,hq,if_true,if_false]
      rw [if_neg (by omega)]
     ·simp only [Tr.set,Tr.get,hi0,hj0,hp,hq,if_false]
      rw [ih _ _ _ _ _ hif hjg]
      by_cases e : i = j
      ·subst e; simp
      ·rw [if_neg e,if_neg (by omega)]
  cases t with
  | node x l r => exact key x l r
  | nil =>
   rcases Tr.set_nil (f + 1) i o with h | h
   ·rw [h,key none .nil .nil]
    by_cases e : i = j
    ·simp [e]
    ·rw [if_neg e,if_neg e]
     simp only [Tr.get,Tr.get_nil,ite_self]
   ·omega
structure H where
 size : Nat
 t : Tr
 deriving Inhabited
def H.get (h : H) (i : Nat) : Option Obj := if i < h.size then h.t.get (i + 1) i else none
def H.set (h : H) (i : Nat) (o : Obj) : H := { h with t := h.t.set (i + 1) i o }
def H.psh (h : H) (o : Obj) : H := { size := h.size + 1,t := h.t.set (h.size + 1) h.size o }
def H.push (h : H) (o : Obj) : Option H := some (h.psh o)
def H.ok (_ : H) : Prop := True
theorem H.get_set {h : H} (_ : h.ok) {i j : Nat} {o : Obj} (hi : i < h.size) : (h.set i o).get j = if i = j then some o else h.get j := by
 unfold H.get H.set
 by_cases hj : j < h.size
 ·simp only [hj,if_true]; exact Tr.get_set _ _ _ _ _ _ (by omega) (by omega)
 ·simp only [hj,if_false]
  by_cases e : i = j
  ·omega
  ·simp [e]
theorem H.get_psh (h : H) (o : Obj) (j : Nat) : (h.psh o).get j = if j = h.size then some o else h.get j := by
 unfold H.get H.psh
 by_cases hj : j < h.size
 ·have : j ≠ h.size := by omega
  have h1 : j < h.size + 1 := by omega
  simp only [hj,this,h1,if_true,if_false]
  rw [Tr.get_set _ _ _ _ _ _ (by omega) (by omega)]
  simp [Ne.symm this]
 ·by_cases e : j = h.size
  ·subst e
   simp only [Nat.lt_succ_self,if_true]
   rw [Tr.get_set _ _ _ _ _ _ (by omega) (by omega)]; simp
  ·have h1 : ¬ j < h.size + 1 := by omega
   simp [hj,e,h1]
theorem H.get_push {h h' : H} {o : Obj} (hp : h.push o = some h') (j : Nat) : h'.get j = if j = h.size then some o else h.get j := by
 unfold H.push at hp
 cases hp
 exact H.get_psh h o j
theorem H.size_push {h h' : H} {o : Obj} (hp : h.push o = some h') : h'.size = h.size + 1 ∧ h'.ok := by
 unfold H.push at hp
 cases hp
 exact ⟨rfl,trivial⟩
theorem H.set_size (h : H) (i : Nat) (o : Obj) : (h.set i o).size = h.size := rfl
theorem H.set_ok {h : H} (hk : h.ok) (i : Nat) (o : Obj) : (h.set i o).ok := hk
theorem H.get_lt {h : H} {i : Nat} {o : Obj} (hg : h.get i = some o) : i < h.size := by
 unfold H.get at hg; split at hg
 ·assumption
 ·cases hg
def H.lay (size : Nat) (l : List (Nat × Obj)) : H := l.foldl (fun h x => h.set x.1 x.2) { size := size,t := .nil }
def undefV : V := .tup []
def A.ev (T : List V) : A → Option V
 | .t i => T[i]?
 | .k v => some v
def evs (T : List V) : List A → Option (List V)
 | [] => some []
 | a :: r => match a.ev T,evs T r with
  | some v,some vs => some (v :: vs)
  | _,_ => none
def evo (T : List V) : Option A → Option (Option V)
 | none => some none
 | some a => match a.ev T with
  | some v => some (some v)
  | none => none
def V.cells : V → List V
 | .agg cs => cs
 | v => [v]
def V.one : V → Bool
 | .agg _ | .tup _ => false
 | _ => true
def getR (cs : List V) (off n : Nat) : List V := (cs.drop off).take n
def setR (cs : List V) (off : Nat) (vs : List V) : List V := cs.take off ++ vs ++ cs.drop (off + vs.length)
def partV (cs : List V) (off size : Nat) (agg : Bool) : Option V := if agg then some (.agg (getR cs off size)) else cs[off]?
def allM (f : Nat → Option Bool) : Nat → Nat → Option Bool
 | 0,_ => some true
 | n + 1,i => match f i with
  | some true => allM f n (i + 1)
  | r => r
def ptrEq (h : H) (a b : Nat × Nat) : Option Bool :=
 if a.1 = b.1 then some (a.2 == b.2) else
 match h.get a.1,h.get b.1 with
 | some (.cells _ _ _ false none),some (.cells _ _ _ false none) => some false
 | _,_ => none
def eqV (h : H) : EqT → V → V → Option Bool
 | .bool,.bool a,.bool b => some (a == b)
 | .int,.int k a,.int k' b => if k = k' then some (a == b) else none
 | .str,.str a,.str b => some (a == b)
 | .ptr,.ptr none,.ptr b => some b.isNone
 | .ptr,.ptr (some _),.ptr none => some false
 | .ptr,.ptr (some a),.ptr (some b) => ptrEq h a b
 | .sl,.slice none _ _ _,.slice b _ _ _ => some b.isNone
 | .sl,.slice (some _) _ _ _,.slice none _ _ _ => some false
 | .mp,.map none,.map b => some b.isNone
 | .mp,.map (some _),.map none => some false
 | .fn,.nilFunc,.nilFunc => some true
 | .fn,.nilFunc,.func .. => some false
 | .fn,.func ..,.nilFunc => some false
 | .fn,.nilFunc,.yield .. => some false
 | .fn,.yield ..,.nilFunc => some false
 | .ifc,.nilIface,.nilIface => some true
 | .ifc,.nilIface,.iface .. => some false
 | .ifc,.iface ..,.nilIface => some false
 | .ifc,.iface t _,.iface u _ => if t ≠ u then some false else none
 | .fnil,.agg _,.agg _ => some true
 | .fcons off size agg e rest,.agg xs,.agg ys =>
  match partV xs off size agg,partV ys off size agg with
  | some x,some y => match eqV h e x y with
   | some true => eqV h rest (.agg xs) (.agg ys)
   | r => r
  | _,_ => none
 | .ar len size agg e,.agg xs,.agg ys =>
  allM (fun i => match partV xs (i * size) size agg,partV ys (i * size) size agg with
   | some x,some y => eqV h e x y
   | _,_ => none) len 0
 | _,_,_ => none
def intOp (op : BinOp) (k : IntKind) (x y : Int) : Option V :=
 match op with
 | .add => some (.int k (k.wrap (x + y)))
 | .sub => some (.int k (k.wrap (x - y)))
 | .mul => some (.int k (k.wrap (x * y)))
 | .quo => if y = 0 then none else some (.int k (k.wrap (x.tdiv y)))
 | .rem => if y = 0 then none else some (.int k (x.tmod y))
 | .and => some (.int k (k.wrap (BitVec.ofInt k.bits x &&& BitVec.ofInt k.bits y).toNat))
 | .or => some (.int k (k.wrap (BitVec.ofInt k.bits x ||| BitVec.ofInt k.bits y).toNat))
 | .xor => some (.int k (k.wrap (BitVec.ofInt k.bits x ^^^ BitVec.ofInt k.bits y).toNat))
 | .andNot => some (.int k (k.wrap (BitVec.ofInt k.bits x &&& ~~~BitVec.ofInt k.bits y).toNat))
 | .eql => some (.bool (x == y))
 | .neq => some (.bool (x != y))
 | .lss => some (.bool (x < y))
 | .leq => some (.bool (x ≤ y))
 | .gtr => some (.bool (x > y))
 | .geq => some (.bool (x ≥ y))
 | _ => none
def shOp (op : BinOp) (k : IntKind) (x y : Int) : Option V :=
 if y < 0 then none else
 match op with
 | .shl => some (.int k (k.wrap (x * 2 ^ (min y.toNat k.bits))))
 | .shr => some (.int k (x.fdiv (2 ^ (min y.toNat k.bits))))
 | _ => none
def strOp (op : BinOp) (x y : List UInt8) : Option V :=
 match op with
 | .add => if x.length + y.length ≤ 9223372036854775807 then some (.str (x ++ y)) else none
 | .eql => some (.bool (x == y))
 | .neq => some (.bool (!(x == y)))
 | .lss => some (.bool (Op.bytesLess x y))
 | .leq => some (.bool (Op.bytesLess x y || x == y))
 | .gtr => some (.bool (!(Op.bytesLess x y || x == y)))
 | .geq => some (.bool (!Op.bytesLess x y))
 | _ => none
inductive Res where
 | pur (v : V)
 | rd (v : V)
 | eff (v : V) (h : H)
 | call (f : V) (args : List V)
def binV (h : H) (op : BinOp) (eq : Option EqT) (lit : Bool) (x y : V) : Option Res :=
 match x,y with
 | .int k a,.int k' b =>
  match op with
  | .shl | .shr => (shOp op k a b).map .pur
  | _ => if k = k' then (intOp op k a b).map .pur else none
 | .str a,.str b => (strOp op a b).map .pur
 | x,y =>
  match eq with
  | none => none
  | some e =>
   match x,y,lit with
   | .nilIface,.nilIface,false => none
   | _,_,_ =>
    match op,eqV h e x y with
    | .eql,some b => some (.rd (.bool b))
    | .neq,some b => some (.rd (.bool !b))
    | _,_ => none
def unV (op : UnOp) (x : V) : Option V :=
 match op,x with
 | .neg,.int k n => some (.int k (k.wrap (0 - n)))
 | .xor,.int k n => some (.int k (k.wrap (BitVec.ofInt k.bits (if k.signed then -1 else k.max) ^^^ BitVec.ofInt k.bits n).toNat))
 | .not,.bool b => some (.bool !b)
 | _,_ => none
def fillV (T : List V) (z : List V) : List (Nat × Nat × A) → Option (List V)
 | [] => some z
 | (off,size,a) :: r =>
  match a.ev T with
  | some v => if v.cells.length = size ∧ off + size ≤ z.length then fillV T (setR z off v.cells) r else none
  | none => none
def boundV (y : Nat) : V → Option Nat
 | .int _ n => if 0 ≤ n ∧ n ≤ y then some n.toNat else none
 | _ => none
def boundsV (len cap : Nat) (lo hi mx : Option V) : Option (Nat × Nat × Nat) :=
 match (match mx with | some v => boundV cap v | none => some cap) with
 | none => none
 | some m =>
  match (match hi,mx with | some v,_ => boundV m v | none,none => some len | none,some _ => none) with
  | none => none
  | some h =>
   match (match lo with | some v => boundV h v | none => some 0) with
   | none => none
   | some l => some (l,h,m)
def elemsV (h : H) (size n : Nat) : V → Option (List V)
 | .slice (some (i,o)) _ _ _ =>
  if n * size = 0 then some [] else
  match h.get i with
  | some (.cells vs _ _ _ _) => if o + n * size ≤ vs.length then some (getR vs o (n * size)) else none
  | _ => none
 | .slice none _ _ _ => if n * size = 0 then some [] else none
 | .str s => if size = 1 then some ((s.take n).map fun b => .int .u8 b.toNat) else none
 | _ => none
def lenV : V → Option Nat
 | .slice _ n _ _ => some n
 | .str s => some s.length
 | _ => none
def fzFree (fz : Option Nat) (q : Nat) : Bool :=
 match fz with
 | none => true
 | some f => decide (f ≤ q)
def putCells (h : H) (i o : Nat) (ws : List V) : Option H :=
 if ws.isEmpty then some h else
 match h.get i with
 | some (.cells vs ty opn false fz) =>
  if o + ws.length ≤ vs.length ∧ ws.all V.one = true ∧ fzFree fz o = true then some (h.set i (.cells (setR vs o ws) ty opn false fz)) else none
 | _ => none
def appV (h : H) (ty size bytes : Nat) (s x : V) : Option Res :=
 match s,lenV x with
 | .slice base len cap opn,some n =>
  match elemsV h size n x with
  | none => none
  | some new =>
   let need := len + n
   if need ≤ cap then
    match base with
    | none => some (.eff (.slice none need cap opn) h)
    | some (i,o) =>
     match putCells h i (o + len * size) new with
     | some h' => some (.eff (.slice base need cap opn) h')
     | none => none
   else if need ≤ 1099511627776 ∧ (2 * need + 1024) * bytes ≤ 281474976710656 then
    match opn,base with
    | true,some (i,o) =>
     match h.get i with
     | some (.cells vs ty' true false fz) =>
      if ty' = ty ∧ len ≤ cap ∧ o + cap * size = vs.length ∧ new.all V.one = true ∧ fzFree fz (o + len * size) = true then
       match (h.set i .dead).push (.cells (getR vs o (len * size) ++ new) ty true false (fz.map fun f => if f = 0 then 0 else max 1 (f - o))) with
       | some h' => some (.eff (.slice (some (h.size,0)) need need true) h')
       | none => none
      else none
     | _ => none
    | _,_ =>
     match elemsV h size len s with
     | none => none
     | some old =>
      match h.push (.cells (old ++ new) ty true false none) with
      | some h' => some (.eff (.slice (some (h.size,0)) need need true) h')
      | none => none
   else none
 | _,_ => none
def sameK : EqT → V → V → Option Bool
 | .int,.int k a,.int k' b => if k = k' then some (a == b) else none
 | .str,.str a,.str b => some (a == b)
 | .bool,.bool a,.bool b => some (a == b)
 | _,_,_ => none
def findK (kt : EqT) (k : V) : List (V × V × Nat) → Nat → Option (Option (Nat × V))
 | [],_ => some none
 | e :: es,i => match sameK kt k e.1 with
  | some true => some (some (i,e.2.1))
  | some false => findK kt k es (i + 1)
  | none => none
def bytesV : List V → Option (List UInt8)
 | [] => some []
 | .int .u8 n :: r => match bytesV r with
  | some bs => some (UInt8.ofNat n.toNat :: bs)
  | none => none
 | _ => none
def minmaxV (mx : Bool) : V → List V → Option V
 | v,[] => some v
 | .int k x,.int _ y :: r => minmaxV mx (.int k (if mx then (if y > x then y else x) else (if y < x then y else x))) r
 | _,_ => none
def methOf (P : Program) (t : TypeId) (name : String) : Option FuncId :=
 match P.info? t with
 | some i => match i.methods.find? (·.name == name) with
  | some m => if m.path.isEmpty then
    match m.func,P.underlying t with
    | some (f,true),some (.pointer _) => some f
    | some (_,false),some (.pointer _) => none
    | some (f,false),some _ => some f
    | _,_ => none
   else none
  | none => none
 | none => none
def evK (P : Program) (T : List V) (h : H) : K → Option Res
 | .mv a => (a.ev T).map .pur
 | .pick c a b =>
  match c.ev T,a.ev T,b.ev T with
  | some (.bool c),some a,some b => some (.pur (if c then a else b))
  | _,_,_ => none
 | .alloc ty z =>
  match h.push (.cells z ty false false none) with
  | some h' => some (.eff (.ptr (some (h.size,0))) h')
  | none => none
 | .box ty a =>
  match a.ev T with
  | some v => match h.push (.cells v.cells ty false false none) with
   | some h' => some (.eff (.ptr (some (h.size,0))) h')
   | none => none
  | none => none
 | .build z ps => (fillV T z ps).map fun cs => .pur (.agg cs)
 | .bslice ty len z ps =>
  match fillV T z ps with
  | some cs => match h.push (.cells cs ty false false none) with
   | some h' => some (.eff (.slice (some (h.size,0)) len len false) h')
   | none => none
  | none => none
 | .load1 a =>
  match a.ev T with
  | some (.ptr (some (i,o))) => match h.get i with
   | some (.cells vs _ _ _ _) => (vs[o]?).map .rd
   | _ => none
  | _ => none
 | .loadN n a =>
  match a.ev T with
  | some (.ptr (some (i,o))) => match h.get i with
   | some (.cells vs _ _ _ _) => if o + n ≤ vs.length then some (.rd (.agg (getR vs o n))) else none
   | _ => none
  | _ => none
 | .store n a v =>
  match a.ev T,v.ev T with
  | some (.ptr (some (i,o))),some v =>
   if v.cells.length = n then (putCells h i o v.cells).map fun h' => .eff undefV h' else none
  | _,_ => none
 | .nilck a =>
  match a.ev T with
  | some (.ptr none) | some .nilIface | some .nilFunc | some .junk => none
  | some v => some (.pur v)
  | none => none
 | .bin op eq lit x y =>
  match x.ev T,y.ev T with
  | some x,some y => binV h op eq lit x y
  | _,_ => none
 | .un op x => match x.ev T with
  | some x => (unV op x).map .pur
  | none => none
 | .cvt k x => match x.ev T with
  | some (.int _ n) => some (.pur (.int k (k.wrap n)))
  | _ => none
 | .s2b ty x => match x.ev T with
  | some (.str s) => match h.push (.cells (s.map fun b => .int .u8 b.toNat) ty true false (some 0)) with
   | some h' => some (.eff (.slice (some (h.size,0)) s.length s.length true) h')
   | none => none
  | _ => none
 | .b2s x => match x.ev T with
  | some (.slice a len c o) => match elemsV h 1 len (.slice a len c o) with
   | some cs => if a.isNone then some (.rd (.str [])) else (bytesV cs).map fun bs => .rd (.str bs)
   | none => none
  | _ => none
 | .mkI ty x => (x.ev T).map fun v => .pur (.iface ty v)
 | .mkF f fs cs => match evs T fs,evs T cs with
  | some fs,some cs => some (.pur (.func f fs cs))
  | _,_ => none
 | .mkMap => match h.push (.map [] 0) with
  | some h' => some (.eff (.map (some h.size)) h')
  | none => none
 | .mkSlice ty bytes z len cap => match len.ev T,cap.ev T with
  | some (.int _ l),some (.int _ c) =>
   if 0 ≤ l ∧ l ≤ c ∧ c ≤ 1099511627776 ∧ c * bytes ≤ 281474976710656 then
    match h.push (.cells (List.replicate c.toNat z).flatten ty false false none) with
    | some h' => some (.eff (.slice (some (h.size,0)) l.toNat c.toNat false) h')
    | none => none
   else none
  | _,_ => none
 | .slS x lo hi => match x.ev T,evo T lo,evo T hi with
  | some (.str s),some lo,some hi => match boundsV s.length s.length lo hi none with
   | some (l,h,_) => some (.pur (.str ((s.drop l).take (h - l))))
   | none => none
  | _,_,_ => none
 | .slL size x lo hi mx => match x.ev T,evo T lo,evo T hi,evo T mx with
  | some (.slice a len cap opn),some lo,some hi,some mx => if len ≤ cap then match boundsV len cap lo hi mx with
   | some (l,h,m) => some (.pur (.slice (a.map fun (i,o) => (i,o + l * size)) (h - l) (m - l) (opn && mx.isNone)))
   | none => none
   else none
  | _,_,_,_ => none
 | .fadr off x => match x.ev T with
  | some (.ptr (some (i,o))) => some (.pur (.ptr (some (i,o + off))))
  | _ => none
 | .iadrL size x i => match x.ev T,i.ev T with
  | some (.slice (some (b,o)) len _ _),some (.int _ n) => if 0 ≤ n ∧ n < len then some (.pur (.ptr (some (b,o + n.toNat * size)))) else none
  | _,_ => none
 | .iadrA len size x i => match x.ev T,i.ev T with
  | some (.ptr (some (b,o))),some (.int _ n) => if 0 ≤ n ∧ n < len then some (.pur (.ptr (some (b,o + n.toNat * size)))) else none
  | _,_ => none
 | .fld off size agg x => match x.ev T with
  | some (.agg cs) => (partV cs off size agg).map .pur
  | _ => none
 | .idxA len size agg x i => match x.ev T,i.ev T with
  | some (.agg cs),some (.int _ n) => if 0 ≤ n ∧ n < len then (partV cs (n.toNat * size) size agg).map .pur else none
  | _,_ => none
 | .idxS x i => match x.ev T,i.ev T with
  | some (.str s),some (.int _ n) => if 0 ≤ n then (s[n.toNat]?).map fun b => .pur (.int .u8 b.toNat) else none
  | _,_ => none
 | .lookup kt z ok m k => match m.ev T,k.ev T with
  | some (.map none),some k =>
   if k.one then some (.rd (if ok then .tup [z,.bool false] else z)) else none
  | some (.map (some r)),some k => match h.get r with
   | some (.map es _) => match findK kt k es 0 with
    | some (some (_,v)) => some (.rd (if ok then .tup [v,.bool true] else v))
    | some none => some (.rd (if ok then .tup [z,.bool false] else z))
    | none => none
   | _ => none
  | _,_ => none
 | .mapUpd kt m k v => match m.ev T,k.ev T,v.ev T with
  | some (.map (some r)),some k,some v => match h.get r with
   | some (.map es clock) => match findK kt k es 0 with
    | some (some (i,_)) => some (.eff undefV (h.set r (.map (es.modify i fun e => (k,v,e.2.2)) clock)))
    | some none => some (.eff undefV (h.set r (.map (es ++ [(k,v,clock)]) (clock + 1))))
    | none => none
   | _ => none
  | _,_,_ => none
 | .mapDel kt m k => match m.ev T,k.ev T with
  | some (.map (some r)),some k => match h.get r with
   | some (.map es clock) => match findK kt k es 0 with
    | some (some (i,_)) => some (.eff (.tup []) (h.set r (.map (es.eraseIdx i) clock)))
    | some none => some (.eff (.tup []) h)
    | none => none
   | _ => none
  | _,_ => none
 | .rng isStr x => match x.ev T,isStr with
  | some (.str s),true => match h.push (.strIter s 0) with
   | some h' => some (.eff (.ptr (some (h.size,0))) h')
   | none => none
  | some (.map none),false => match h.push (.mapIter none 0 [] 0) with
   | some h' => some (.eff (.ptr (some (h.size,0))) h')
   | none => none
  | some (.map (some r)),false => match h.get r with
   | some (.map _ clock) => match h.push (.mapIter (some r) clock [] clock) with
    | some h' => some (.eff (.ptr (some (h.size,0))) h')
    | none => none
   | _ => none
  | _,_ => none
 | .next isStr x => match x.ev T with
  | some (.ptr (some (r,0))) => match h.get r,isStr with
   | some (.strIter s pos),true =>
    if pos < s.length then
     let cw := Utf8.decode ⟨s.toArray⟩ pos
     some (.eff (.tup [.bool true,.int .i64 pos,.int .i32 cw.1]) (h.set r (.strIter s (pos + cw.2))))
    else some (.eff (.tup [.bool false]) h)
   | some (.mapIter none _ _ _),false => some (.eff (.tup [.bool false]) h)
   | some (.mapIter (some m) since seen last),false => match h.get m with
    | some (.map es clock) =>
     if !seen.isEmpty && !es.isEmpty && es.all (fun e => decide (e.2.2 ≥ last)) then none else
     let left := es.filter fun e => !seen.contains e.2.2
     let old := left.filter fun e => decide (e.2.2 < since)
     let new := left.filter fun e => decide (e.2.2 ≥ since)
     match old,new with
     | [],[] => some (.eff (.tup [.bool false]) h)
     | [e],[] => some (.eff (.tup [.bool true,e.1,e.2.1]) (h.set r (.mapIter (some m) since (seen ++ [e.2.2]) clock)))
     | _,_ => none
    | _ => none
   | _,_ => none
  | _ => none
 | .entry x => match x.ev T with
  | some (.ptr (some (r,0))) => match h.get r with
   | some (.mapIter (some m) _ seen stepped) => match seen.getLast?,h.get m with
    | some stamp,some (.map es clock) =>
     if clock = stepped then (es.find? fun e => e.2.2 == stamp).map fun e => .rd (.tup [e.1,e.2.1]) else none
    | _,_ => none
   | _ => none
  | _ => none
 | .extract x i => match x.ev T with
  | some (.tup vs) => (vs[i]?).map .pur
  | _ => none
 | .lenS x => match x.ev T with
  | some (.str s) => some (.pur (.int .i64 s.length))
  | _ => none
 | .lenL x => match x.ev T with
  | some (.slice _ n _ _) => some (.pur (.int .i64 n))
  | _ => none
 | .lenM x => match x.ev T with
  | some (.map none) => some (.rd (.int .i64 0))
  | some (.map (some r)) => match h.get r with
   | some (.map es _) => some (.rd (.int .i64 es.length))
   | _ => none
  | _ => none
 | .app ty size bytes s x => match s.ev T,x.ev T with
  | some s,some x => appV h ty size bytes s x
  | _,_ => none
 | .copy size d s => match d.ev T,s.ev T with
  | some (.slice base dlen _ _),some s => match lenV s with
   | none => none
   | some sl => match elemsV h size (Nat.min sl dlen) s with
    | none => none
    | some cs => match base with
     | none => some (.eff (.int .i64 (Nat.min sl dlen : Nat)) h)
     | some (i,o) => (putCells h i o cs).map fun h' => .eff (.int .i64 (Nat.min sl dlen : Nat)) h'
  | _,_ => none
 | .minmax mx xs => match evs T xs with
  | some (v :: r) => (minmaxV mx v r).map .pur
  | _ => none
 | .call f args => match f.ev T,evs T args with
  | some f,some args => some (.call f args)
  | _,_ => none
 | .bad => none
 | .slA n size x lo hi mx => match x.ev T,evo T lo,evo T hi,evo T mx with
  | some (.ptr (some (i,o))),some lo,some hi,some mx => match boundsV n n lo hi mx with
   | some (l,h,m) => some (.pur (.slice (some (i,o + l * size)) (h - l) (m - l) false))
   | none => none
  | _,_,_,_ => none
 | .capL x => match x.ev T with
  | some (.slice _ _ n false) => some (.pur (.int .i64 n))
  | _ => none
 | .appZ ty size bytes z s x => match s.ev T,x.ev T with
  | some (.slice base len cap opn),some (.int _ n) =>
   if 0 ≤ n ∧ n ≤ 1099511627776 ∧ n.toNat * bytes ≤ 281474976710656 then
    if len + n.toNat ≤ cap then
     match base with
     | none => some (.eff (.slice none (len + n.toNat) cap opn) h)
     | some (i,o) => match putCells h i (o + len * size) (List.replicate n.toNat z).flatten with
      | some h' => some (.eff (.slice base (len + n.toNat) cap opn) h')
      | none => none
    else if len + n.toNat ≤ 1099511627776 ∧ (2 * (len + n.toNat) + 1024) * bytes ≤ 281474976710656 ∧ opn = false then
     match elemsV h size len (.slice base len cap opn) with
     | none => none
     | some old => match h.push (.cells (old ++ (List.replicate n.toNat z).flatten) ty true false none) with
      | some h' => some (.eff (.slice (some (h.size,0)) (len + n.toNat) (len + n.toNat) true) h')
      | none => none
    else none
   else none
  | _,_ => none
 | .i2s x => match x.ev T with
  | some (.int _ n) => some (.pur (.str (Utf8.encode n).data.toList))
  | _ => none
 | .sid x => match x.ev T with
  | some (.str s) => some (.pur (.str s))
  | _ => none
 | .same x => match x.ev T with
  | some (.slice (some (i,o)) l c opn) => match h.get i with
   | some (.cells vs ty op false fz) => if fz.getD 0 = 0 ∧ (opn = true ∨ 0 < c) then some (.eff (.slice (some (i,o)) l c opn) (h.set i (.cells vs ty op false (some 0)))) else none
   | _ => none
  | _ => none
 | .p2u x => match x.ev T with
  | some (.ptr none) => some (.pur (.ptr none))
  | some (.ptr (some (i,o))) => match h.get i with
   | some (.cells vs _ _ _ _) => if o < vs.length then some (.rd (.ptr (some (i,o)))) else none
   | _ => none
  | _ => none
 | .u2p u x => match x.ev T with
  | some (.ptr none) => some (.pur (.ptr none))
  | some (.ptr (some (i,o))) => match h.get i with
   | some (.cells vs ty false _ _) => if liesAt P P.depth ty (vs.length / P.cellsOf ty) o u 1 then some (.rd (.ptr (some (i,o)))) else none
   | _ => none
  | _ => none
 | .usd x => match x.ev T with
  | some (.slice none _ _ _) => some (.pur (.ptr none))
  | some (.slice (some a) _ (_ + 1) _) => some (.pur (.ptr (some a)))
  | _ => none
 | .ustr u x n => match x.ev T,n.ev T with
  | some (.ptr p),some (.int _ n) =>
   if n = 0 then some (.pur (.str [])) else
   if n < 0 ∨ n > 1099511627776 then none else
   match p with
   | none => none
   | some (i,o) => match h.get i with
    | some (.cells vs ty op false fz) =>
     if ty = u ∧ o + n.toNat ≤ vs.length ∧ fz ≠ some 0 then
      match bytesV (getR vs o n.toNat) with
      | some bs => some (.eff (.str bs) (h.set i (.cells vs ty op false (some (max (fz.getD 0) (o + n.toNat))))))
      | none => none
     else none
    | _ => none
  | _,_ => none
 | .mkNZ ty x => match x.ev T with
  | some (.int .i64 n) =>
   if 0 ≤ n ∧ n ≤ 1099511627776 then
    match h.push (.cells (List.replicate n.toNat .junk) ty true false none) with
    | some h' => some (.eff (.slice (some (h.size,0)) n.toNat n.toNat true) h')
    | none => none
   else none
  | _ => none
 | .tass t z ok x => match x.ev T with
  | some (.iface u v) => if u = t then some (.pur (if ok then .tup [v,.bool true] else v)) else if ok then some (.pur (.tup [z,.bool false])) else none
  | some .nilIface => if ok then some (.pur (.tup [z,.bool false])) else none
  | _ => none
 | .inv name x args => match x.ev T,evs T args with
  | some (.iface t v),some vs => match methOf P t name with
   | some f => some (.call (.func f [] []) (v :: vs))
   | none => none
  | _,_ => none
 | .mlit kt es z ok k => match k.ev T with
  | some k => match findK kt k es 0 with
   | some (some (_,v)) => some (.pur (if ok then .tup [v,.bool true] else v))
   | some none => some (.pur (if ok then .tup [z,.bool false] else z))
   | none => none
  | none => none
abbrev Ap := V → List V → H → Option (V × H)
def putV (T : List V) (dst : Option Nat) (v : V) : List V :=
 match dst with
 | some d => T.set d v
 | none => T
def wantV (T : List V) : Option (Nat × Bool) → Bool
 | none => true
 | some (t,w) => match T[t]? with
  | some (.bool b) => b == w
  | _ => false
def evO (P : Program) (ap : Ap) (o : O) (T : List V) (h : H) : Option (List V × H) :=
 if wantV T o.guard then
  match evK P T h o.op with
  | some (.pur v) => some (putV T o.dst v,h)
  | some (.rd v) => some (putV T o.dst v,h)
  | some (.eff v h') => some (putV T o.dst v,h')
  | some (.call f args) => match ap f args h with
   | some (v,h') => some (putV T o.dst v,h')
   | none => none
  | none => none
 else some (putV T o.dst undefV,h)
def evOs (P : Program) (ap : Ap) : List O → List V → H → Option (List V × H)
 | [],T,h => some (T,h)
 | o :: r,T,h => match evO P ap o T h with
  | some (T',h') => evOs P ap r T' h'
  | none => none
inductive Ex where
 | nrm
 | exit (id : Nat)
 | ret
 deriving DecidableEq
abbrev St := List V × H
def iter (f : St → Option (Ex × St)) : Nat → St → Option (Ex × St)
 | 0,_ => none
 | n + 1,s => match f s with
  | some (.nrm,s') => iter f n s'
  | r => r
def A.tm : A → List Nat
 | .t i => [i]
 | .k _ => []
def K.as : K → List A
 | .mv a | .box _ a | .load1 a | .loadN _ a | .nilck a | .un _ a | .cvt _ a | .s2b _ a | .b2s a | .mkI _ a | .fadr _ a | .fld _ _ _ a | .rng _ a | .next _ a | .entry a | .extract a _ | .lenS a | .lenL a | .lenM a
 | .mlit _ _ _ _ a | .capL a | .i2s a | .sid a | .same a | .p2u a | .u2p _ a | .usd a | .mkNZ _ a | .tass _ _ _ a => [a]
 | .pick c a b => [c,a,b]
 | .build _ ps | .bslice _ _ _ ps => ps.map (·.2.2)
 | .store _ a v => [a,v]
 | .bin _ _ _ x y => [x,y]
 | .mkF _ fs cs => fs ++ cs
 | .mkSlice _ _ _ l c => [l,c]
 | .slS x lo hi => x :: (lo.toList ++ hi.toList)
 | .slL _ x lo hi mx | .slA _ _ x lo hi mx => x :: (lo.toList ++ hi.toList ++ mx.toList)
 | .iadrL _ x i | .iadrA _ _ x i | .idxA _ _ _ x i | .idxS x i => [x,i]
 | .lookup _ _ _ m k | .mapDel _ m k => [m,k]
 | .mapUpd _ m k v => [m,k,v]
 | .app _ _ _ s x | .copy _ s x | .appZ _ _ _ _ s x | .ustr _ s x => [s,x]
 | .minmax _ xs => xs
 | .call f args | .inv _ f args => f :: args
 | .alloc .. | .mkMap | .bad => []
def K.tms (k : K) : List Nat := k.as.flatMap A.tm
mutual
def V.beq : V → V → Bool
 | .bool a,.bool b => a == b
 | .int k a,.int k' b => decide (k = k') && a == b
 | .str a,.str b => a == b
 | .ptr a,.ptr b => a == b
 | .slice a l c o,.slice a' l' c' o' => a == a' && l == l' && c == c' && o == o'
 | .map a,.map b => a == b
 | .func f fs cs,.func f' fs' cs' => f == f' && V.beqL fs fs' && V.beqL cs cs'
 | .yield a,.yield b => a == b
 | .nilFunc,.nilFunc => true
 | .iface t v,.iface t' v' => t == t' && V.beq v v'
 | .nilIface,.nilIface => true
 | .agg a,.agg b => V.beqL a b
 | .tup a,.tup b => V.beqL a b
 | _,_ => false
def V.beqL : List V → List V → Bool
 | [],[] => true
 | a :: r,b :: s => V.beq a b && V.beqL r s
 | _,_ => false
end
mutual
theorem V.eq_of_beq : ∀ (a b : V),V.beq a b = true → a = b
 | .bool a,b,h => by cases b <;> simp_all [V.beq]
 | .int k a,b,h => by cases b <;> simp_all [V.beq]
 | .str a,b,h => by cases b <;> simp_all [V.beq]
 | .ptr a,b,h => by cases b <;> simp_all [V.beq]
 | .slice a l c o,b,h => by cases b <;> simp_all [V.beq]
 | .map a,b,h => by cases b <;> simp_all [V.beq]
 | .func f fs cs,b,h => by
  cases b <;> simp [V.beq] at h
  obtain ⟨⟨h1,h2⟩,h3⟩ := h
  rw [h1,V.eqL_of_beqL _ _ h2,V.eqL_of_beqL _ _ h3]
 | .yield a,b,h => by cases b <;> simp_all [V.beq]
 | .nilFunc,b,h => by cases b <;> simp_all [V.beq]
 | .iface t v,b,h => by
  cases b <;> simp [V.beq] at h
  rw [h.1,V.eq_of_beq _ _ h.2]
 | .nilIface,b,h => by cases b <;> simp_all [V.beq]
 | .agg a,b,h => by
  cases b <;> simp [V.beq] at h
  rw [V.eqL_of_beqL _ _ h]
 | .tup a,b,h => by
  cases b <;> simp [V.beq] at h
  rw [V.eqL_of_beqL _ _ h]
 | .junk,b,h => by cases b <;> simp [V.beq] at h
theorem V.eqL_of_beqL : ∀ (a b : List V),V.beqL a b = true → a = b
 | [],b,h => by cases b <;> simp_all [V.beqL]
 | a :: r,b,h => by
  cases b <;> simp [V.beqL] at h
  rw [V.eq_of_beq _ _ h.1,V.eqL_of_beqL _ _ h.2]
end
structure Ent where
 T : List V
 h : H
 h' : H
 v : V
 act : Bool
 rd : Bool
def evDr (P : Program) (ap : Ap) : List O → List V → H → Option (List Ent × List V × H)
 | [],T,h => some ([],T,h)
 | o :: r,T,h =>
  if wantV T o.guard then
   match evK P T h o.op with
   | some (.pur v) => (evDr P ap r (putV T o.dst v) h).map fun (es,x) => (⟨T,h,h,v,false,false⟩ :: es,x)
   | some (.rd v) => (evDr P ap r (putV T o.dst v) h).map fun (es,x) => (⟨T,h,h,v,false,true⟩ :: es,x)
   | some (.eff v h') => (evDr P ap r (putV T o.dst v) h').map fun (es,x) => (⟨T,h,h',v,true,false⟩ :: es,x)
   | some (.call f args) => match ap f args h with
    | some (v,h') => (evDr P ap r (putV T o.dst v) h').map fun (es,x) => (⟨T,h,h',v,true,false⟩ :: es,x)
    | none => none
   | none => none
  else (evDr P ap r (putV T o.dst undefV) h).map fun (es,x) => (⟨T,h,h,undefV,false,false⟩ :: es,x)
def actsOf : List O → List Ent → Nat → List (Nat × Nat × H)
 | o :: r,e :: es,i => if e.act then (i,o.pre,e.h') :: actsOf r es (i + 1) else actsOf r es (i + 1)
 | _,_,_ => []
def chain : List (Nat × Nat × H) → Bool
 | [] => true
 | a :: r => r.all (fun b => b.2.1.testBit a.1) && chain r
def sameAt (P : Program) (o : O) (e : Ent) (h : H) : Bool :=
 match evK P e.T h o.op with
 | some (.rd v) => v.beq e.v
 | _ => false
def readsOk (P : Program) (o : O) (e : Ent) (i : Nat) (h : H) : List (Nat × Nat × H) → Bool
 | [] => sameAt P o e h
 | a :: r => ((o.pre.testBit a.1 || r.any (fun b => o.pre.testBit b.1)) || sameAt P o e h) && (a.2.1.testBit i || readsOk P o e i a.2.2 r)
def rdsOk (P : Program) (acts : List (Nat × Nat × H)) (h0 : H) : List O → List Ent → Nat → Bool
 | o :: r,e :: es,i => (!e.rd || readsOk P o e i h0 acts) && rdsOk P acts h0 r es (i + 1)
 | _,_,_ => true
def K.fl : K → Bool
 | .alloc .. | .box .. | .bslice .. => true
 | _ => false
def actsF : List O → List Ent → Nat → List (Nat × Nat × Bool)
 | o :: r,e :: es,i => if e.act then (i,o.pre,o.op.fl) :: actsF r es (i + 1) else actsF r es (i + 1)
 | _,_,_ => []
def chainF : List (Nat × Nat × Bool) → Bool
 | [] => true
 | a :: r => r.all (fun b => b.2.2 || b.2.1.testBit a.1) && chainF r
def floatOk (acts : List (Nat × Nat × Bool)) (ops : List O) : Bool :=
 ops.all fun o => acts.all fun p => !(p.2.2 && o.pre.testBit p.1) || acts.all fun a => !decide (a.1 < p.1) || o.pre.testBit a.1
def evDraw (P : Program) (ap : Ap) (ops : List O) (T : List V) (h : H) : Option (List V × H) :=
 match evDr P ap ops T h with
 | some (es,T',h') =>
  if (actsOf ops es 0).isEmpty || (chainF (actsF ops es 0) && floatOk (actsF ops es 0) ops && rdsOk P (actsOf ops es 0) h ops es 0) then some (T',h') else none
 | none => none
def zipSet : List V → List Nat → List V → List V
 | T,t :: ts,v :: vs => zipSet (T.set t v) ts vs
 | T,_,_ => T
def roOk (h : H) : Option Nat → Bool
 | none => true
 | some l => match h.get l with
  | some (.loop ..) => true
  | _ => false
def evC (P : Program) (ap : Ap) (n : Nat) (ro : Option Nat) : C → St → Option (Ex × St)
 | .skip,s => some (.nrm,s)
 | .region ops,(T,h) => (evOs P ap ops T h).map fun s => (.nrm,s)
 | .draw ops,(T,h) => (evDraw P ap ops T h).map fun s => (.nrm,s)
 | .seq a b,s => match evC P ap n ro a s with
  | some (.nrm,s') => evC P ap n ro b s'
  | r => r
 | .cond c a b,s => match c.ev s.1 with
  | some (.bool t) => if t then evC P ap n ro a s else evC P ap n ro b s
  | _ => none
 | .block id b,s => match evC P ap n ro b s with
  | some (.exit id',s') => if id' = id then some (.nrm,s') else some (.exit id',s')
  | r => r
 | .loop b,s => iter (evC P ap n ro b) n s
 | .exit id,s => some (.exit id,s)
 | .ret,s => some (.ret,s)
 | .bad,_ => none
 | .range f ps as b,(T,h) =>
  if roOk h ro then match f.ev T with
  | some (.func g fs cs) => match h.push (.loop .ready none T ps as b) with
   | some h1 => match ap (.func g fs cs) [.yield h.size] h1 with
    | some (_,h2) => match h2.get h.size with
     | some (.loop st pend T' ps' as' b') =>
      if st = .busy then none else
      let h3 := h2.set h.size (.loop .exhausted pend T' ps' as' b')
      match pend with
      | none => some (.nrm,(T,h3))
      | some .ret => some (.ret,(T,h3))
      | some (.exit id) => some (.exit id,(T,h3))
      | some _ => none
     | _ => none
    | none => none
   | none => none
  | _ => none
  else none
inductive RV where
 | t (i : Nat)
 | c (a n : Nat) (agg : Bool)
structure Fn where
 ntmps : Nat
 results : List RV
 body : C
structure Env where
 fns : Nat → Option Fn
 prim : Nat → Option (List V → H → Option (V × H))
def resV (T : List V) (h : H) : RV → Option V
 | .t i => T[i]?
 | .c a n agg => match T[a]? with
  | some (.ptr (some (i,o))) => match h.get i with
   | some (.cells vs _ _ _ _) => if agg then (if o + n ≤ vs.length then some (.agg (getR vs o n)) else none) else vs[o]?
   | _ => none
  | _ => none
def resVs (T : List V) (h : H) : List RV → Option (List V)
 | [] => some []
 | r :: rs => match resV T h r,resVs T h rs with
  | some v,some vs => some (v :: vs)
  | _,_ => none
def oneOr : List V → V
 | [v] => v
 | vs => .tup vs
def evFn (P : Program) (ap : Ap) (n : Nat) (fn : Fn) (args : List V) (h : H) : Option (V × H) :=
 if args.length ≤ fn.ntmps then
  match evC P ap n none fn.body (args ++ List.replicate (fn.ntmps - args.length) undefV,h) with
  | some (.nrm,(T',h')) => (resVs T' h' fn.results).map fun vs => (oneOr vs,h')
  | some (.ret,(T',h')) => (resVs T' h' fn.results).map fun vs => (oneOr vs,h')
  | _ => none
 else none
def evRound (P : Program) (ap : Ap) (n : Nat) (l : Nat) (args : List V) (h : H) : Option (V × H) :=
 match h.get l with
 | some (.loop _ _ T ps as b) =>
  if args.length = ps.length then
   match evC P ap n (some l) as (zipSet T ps args,h) with
   | some (.nrm,(T1,h1)) => match h1.get l with
    | some (.loop .ready pend T ps as b') =>
     match evC P ap n (some l) b (T1,h1.set l (.loop .busy pend T ps as b')) with
     | some (ex,(_,h2)) => match h2.get l with
      | some (.loop _ _ T ps as b') =>
       match ex with
       | .nrm => some (.bool true,h2.set l (.loop .ready none T ps as b'))
       | .ret => some (.bool false,h2.set l (.loop .done (some .ret) T ps as b'))
       | .exit id => some (.bool false,h2.set l (.loop .done (some (.exit id)) T ps as b'))
      | _ => none
     | none => none
    | _ => none
   | _ => none
  else none
 | _ => none
def ap (P : Program) (E : Env) : Nat → Ap
 | 0 => fun _ _ _ => none
 | n + 1 => fun f args h =>
  match f with
  | .func f fs cs => match E.prim f with
   | some g => g (fs ++ args ++ cs) h
   | none => match E.fns f with
    | some fn => evFn P (ap P E n) n fn (fs ++ args ++ cs) h
    | none => none
  | .yield l => evRound P (ap P E n) n l args h
  | _ => none
def vOf : Nat → Value → Option V
 | 0,_ => none
 | d + 1,v =>
  match v with
  | .bool b => some (.bool b)
  | .int k n => some (.int k n)
  | .string s => some (.str s.data.toList)
  | .pointer none => some (.ptr none)
  | .slice none l c => some (.slice none l c false)
  | .map none => some (.map none)
  | .nilFunc => some .nilFunc
  | .nilIface => some .nilIface
  | .iface t x => (vOf d x).map (.iface t)
  | .agg cs => (cs.toList.mapM (vOf d)).map .agg
  | .tuple cs => (cs.toList.mapM (vOf d)).map .tup
  | .func (.func f) fs cs => match fs.toList.mapM (vOf d),cs.toList.mapM (vOf d) with
   | some fs,some cs => some (.func f fs cs)
   | _,_ => none
  | _ => none
section
variable (P : Program)
def cA : Operand → Option A
 | .tmp t => some (.t t)
 | .const v => (vOf 64 v).map .k
 | .global g => if g < P.globals.size then some (.k (.ptr (some (g,0)))) else none
 | .func f => some (.k (.func f [] []))
def cAo : Option Operand → Option (Option A)
 | none => some none
 | some x => (cA P x).map some
def aggT (t : TypeId) : Bool :=
 match P.underlying t with
 | some (.struct _) | some (.array _ _) => true
 | _ => false
def sizeT (t : TypeId) : Option Nat :=
 match P.info? t,P.underlying t with
 | some i,some _ => some i.size
 | _,_ => none
def zeroT (t : TypeId) : Option V := ((P.info? t).bind (·.zero)).bind (vOf 64)
def eqFields (f : TypeId → Option EqT) : List Field → Option EqT
 | [] => some .fnil
 | x :: r => match eqFields f r with
  | none => none
  | some rest =>
   if x.name = "_" then some rest else
   match f x.type,sizeT P x.type with
   | some e,some s => some (.fcons x.offset s (aggT P x.type) e rest)
   | _,_ => none
def eqT : Nat → TypeId → Option EqT
 | 0,_ => none
 | d + 1,t =>
  match P.underlying t with
  | some .bool => some .bool
  | some (.int _) => some .int
  | some .string => some .str
  | some (.pointer e) => match sizeT P e with
   | some (_ + 1) => some .ptr
   | _ => none
  | some (.slice _) => some .sl
  | some (.map _ _) => some .mp
  | some (.func _ _ _) => some .fn
  | some (.interface _) => some .ifc
  | some (.struct fs) => if P.stoodInHeld t then none else eqFields P (eqT d) fs.toList
  | some (.array len e) => match eqT d e,sizeT P e with
   | some q,some s => some (.ar len s (aggT P e) q)
   | _,_ => none
  | _ => none
def eqTop (t : TypeId) : Option EqT :=
 if aggT P t && P.eqGuardType P.depth t then none else eqT P 40 t
def keyT (t : TypeId) : Option EqT :=
 match P.underlying t with
 | some .bool => some .bool
 | some (.int _) => some .int
 | some .string => some .str
 | _ => none
def cParts (f : Nat → Option (Nat × Nat)) : List (Nat × Operand) → Option (List (Nat × Nat × A))
 | [] => some []
 | (i,x) :: r => match f i,cA P x,cParts f r with
  | some (o,s),some a,some l => some ((o,s,a) :: l)
  | _,_,_ => none
def cAs : List Operand → Option (List A)
 | [] => some []
 | x :: r => match cA P x,cAs r with
  | some a,some l => some (a :: l)
  | _,_ => none
def isLit : Operand → Bool
 | .const _ => true
 | _ => false
def cBuiltin (b : Builtin) (args : List Operand) (tys : List TypeId) : Option K :=
 match b,args,tys with
 | .len,[x],[t] => match P.underlying t,cA P x with
  | some .string,some a => some (.lenS a)
  | some (.slice _),some a => some (.lenL a)
  | some (.map _ _),some a => some (.lenM a)
  | some (.array n _),_ => some (.mv (.k (.int .i64 n)))
  | some (.pointer arr),_ => match P.underlying arr with
   | some (.array n _) => some (.mv (.k (.int .i64 n)))
   | _ => none
  | _,_ => none
 | .append,[s,x],[t,u] => match P.underlying t,P.underlying u,cA P s,cA P x with
  | some (.slice e),some d,some s,some x => match d with
   | .int _ => match P.info? e,zeroT P e with
    | some i,some z => if z.cells.length = i.size then some (.appZ e i.size i.bytes z.cells s x) else none
    | _,_ => none
   | _ => match P.info? e,zeroT P e with
    | some i,some z => if z.cells.length = i.size then some (.app e i.size i.bytes s x) else none
    | _,_ => none
  | _,_,_,_ => none
 | .copy,[s,x],t :: _ => match P.underlying t,cA P s,cA P x with
  | some (.slice e),some s,some x => (sizeT P e).map fun z => .copy z s x
  | _,_,_ => none
 | .delete,[m,k],t :: _ => match P.underlying t,cA P m,cA P k with
  | some (.map kt _),some m,some k => (keyT P kt).map fun q => .mapDel q m k
  | _,_,_ => none
 | .cap,[x],[t] => match P.underlying t,cA P x with
  | some (.slice _),some a => some (.capL a)
  | _,_ => none
 | .unsafeSliceData,[x],_ => (cA P x).map .usd
 | .unsafeString,[x,n],t :: _ => match P.underlying t,cA P x,cA P n with
  | some (.pointer e),some x,some n => if sizeT P e = some 1 then some (.ustr e x n) else none
  | _,_,_ => none
 | .min,args,_ => (cAs P args).map (.minmax false)
 | .max,args,_ => (cAs P args).map (.minmax true)
 | _,_,_ => none
def cK (op : Op) : Option K :=
 match op with
 | .move x | .assign x => (cA P x).map .mv
 | .pick c a b => match cA P c,cA P a,cA P b with
  | some c,some a,some b => some (.pick c a b)
  | _,_,_ => none
 | .alloc e => (zeroT P e).map fun z => .alloc e z.cells
 | .box e x => (cA P x).map (.box e)
 | .build t parts => match P.underlying t,zeroT P t with
  | some (.struct fs),some z =>
   if fs.toList.all (fun f => (sizeT P f.type).isSome) then
    (cParts P (fun i => (fs[i]?).bind fun f => (sizeT P f.type).map fun s => (f.offset,s)) parts.toList).map (.build z.cells)
   else none
  | some (.array _ e),some z => match sizeT P e with
   | some s => (cParts P (fun i => some (i * s,s)) parts.toList).map (.build z.cells)
   | none => none
  | _,_ => none
 | .buildSlice t len parts => match P.underlying t with
  | some (.slice e) => match sizeT P e,zeroT P e with
   | some s,some z =>
    if len * s ≤ 16777216 ∧ z.cells.length = s then
     (cParts P (fun i => some (i * s,s)) parts.toList).map (.bslice e len (List.replicate len z.cells).flatten)
    else none
   | _,_ => none
  | _ => none
 | .load t a => match cA P a,sizeT P t with
  | some a,some s => if aggT P t then some (.loadN s a) else some (.load1 a)
  | _,_ => none
 | .store t a v => match cA P a,cA P v,sizeT P t with
  | some a,some v,some s => some (.store s a v)
  | _,_,_ => none
 | .nilCheck x => (cA P x).map .nilck
 | .binOp op t x y _ => match cA P x,cA P y with
  | some a,some b => some (.bin op (eqTop P t) (isLit x || isLit y) a b)
  | _,_ => none
 | .unOp op _ x => (cA P x).map (.un op)
 | .convert s d x => match P.underlying s,P.underlying d,cA P x with
  | some (.int _),some (.int k),some a => some (.cvt k a)
  | some (.int _),some .string,some a => some (.i2s a)
  | some (.slice e),some (.slice e'),some a => if s = d ∧ e = e' then match P.underlying e with
   | some (.int .u8) => some (.same a)
   | _ => none else none
  | some (.pointer e),some .unsafePointer,some a => if (sizeT P e).getD 0 = 0 then none else some (.p2u a)
  | some .unsafePointer,some (.pointer e),some a => if (sizeT P e).getD 0 = 0 then none else some (.u2p e a)
  | some .string,some .string,some a => some (.sid a)
  | some .string,some (.slice e),some a => match P.underlying e with
   | some (.int .u8) => if sizeT P e = some 1 then some (.s2b e a) else none
   | _ => none
  | some (.slice e),some .string,some a => match P.underlying e with
   | some (.int .u8) => some (.b2s a)
   | _ => none
  | _,_,_ => none
 | .makeInterface t x => match P.underlying t,cA P x with
  | some (.interface _),_ => none
  | some _,some a => some (.mkI t a)
  | _,_ => none
 | .makeFunc (.func f) fs cs => match cAs P fs.toList,cAs P cs.toList with
  | some fs,some cs => some (.mkF f fs cs)
  | _,_ => none
 | .makeMap t r => match r,P.underlying t with
  | none,_ => some .mkMap
  | some (.const (.int _ _)),some (.map _ _) => some .mkMap
  | _,_ => none
 | .makeSlice t l c => match P.underlying t,cA P l,cA P c with
  | some (.slice e),some l,some c => match P.info? e,zeroT P e with
   | some i,some z => if z.cells.length = i.size then some (.mkSlice e i.bytes z.cells l c) else none
   | _,_ => none
  | _,_,_ => none
 | .slice t x lo hi mx => match P.underlying t,cA P x,cAo P lo,cAo P hi,cAo P mx with
  | some .string,some x,some lo,some hi,some none => some (.slS x lo hi)
  | some (.slice e),some x,some lo,some hi,some mx => (sizeT P e).map fun s => .slL s x lo hi mx
  | some (.array n e),some x,some lo,some hi,some mx => (sizeT P e).map fun s => .slA n s x lo hi mx
  | _,_,_,_,_ => none
 | .fieldAddr s x f => match P.underlying s,cA P x with
  | some (.struct fs),some a => match fs[f]? with
   | some fd => match sizeT P fd.type with
    | some (_ + 1) => some (.fadr fd.offset a)
    | _ => none
   | none => none
  | _,_ => none
 | .indexAddr t x i => match P.underlying t,cA P x,cA P i with
  | some (.slice e),some x,some i => (sizeT P e).map fun s => .iadrL s x i
  | some (.array n e),some x,some i => (sizeT P e).map fun s => .iadrA n s x i
  | _,_,_ => none
 | .field t x f => match P.underlying t,cA P x with
  | some (.struct fs),some a => match fs[f]? with
   | some fd => (sizeT P fd.type).map fun s => .fld fd.offset s (aggT P fd.type) a
   | none => none
  | _,_ => none
 | .index t x i => match P.underlying t,cA P x,cA P i with
  | some (.array n e),some x,some i => (sizeT P e).map fun s => .idxA n s (aggT P e) x i
  | some .string,some x,some i => some (.idxS x i)
  | _,_,_ => none
 | .lookup t m k ok => match P.underlying t,cA P m,cA P k with
  | some (.map kt et),some m,some k => match keyT P kt,zeroT P et with
   | some q,some z => some (.lookup q z ok m k)
   | _,_ => none
  | _,_,_ => none
 | .mapUpdate t m k v | .insert t m k v => match P.underlying t,cA P m,cA P k,cA P v with
  | some (.map kt _),some m,some k,some v => (keyT P kt).map fun q => .mapUpd q m k v
  | _,_,_,_ => none
 | .range t x => match P.underlying t,cA P x with
  | some .string,some x => some (.rng true x)
  | some (.map _ _),some x => some (.rng false x)
  | _,_ => none
 | .next x s => (cA P x).map (.next s)
 | .entry x => (cA P x).map .entry
 | .extract x i => (cA P x).map fun a => .extract a i
 | .call c => match c.callee with
  | .builtin b => cBuiltin P b c.args.toList c.argTypes.toList
  | .value f => match cA P f,cAs P c.args.toList with
   | some f,some l => match f with
    | .k (.func g [] []) => match P.funcs[g]? with
     | some fn => if fn.body.isNone then
       if fn.origin ≠ "" then none else if fn.name = "internal/abi.NoEscape" then (match l with | [a] => some (.mv a) | _ => none)
       else if fn.name = "internal/bytealg.MakeNoZero" then (match l, fn.resultTypes[0]? with
        | [a],some t => match P.underlying t with
         | some (.slice e) => if sizeT P e = some 1 then some (.mkNZ e a) else none
         | _ => none
        | _,_ => none)
       else none
      else some (.call f l)
     | none => none
    | _ => some (.call f l)
   | _,_ => none
  | .invoke x name => match cA P x,cAs P c.args.toList with
   | some x,some l => some (.inv name x l)
   | _,_ => none
 | .panic _ => some .bad
 | .typeAssert x _ t ok => match P.underlying t,cA P x,zeroT P t with
  | some (.interface _),_,_ => none
  | some _,some a,some z => some (.tass t z ok a)
  | _,_,_ => none
 | _ => none
def cGuard (dsts : List (Option Nat)) : Option (Nat × Bool) → Option (Option (Nat × Bool))
 | none => some none
 | some (j,w) => match dsts[j]? with
  | some (some t) => some (some (t,w))
  | _ => none
def cO (dsts : List (Option Nat)) (pre : Nat) (o : Oper) : Option O :=
 match cK P o.op,cGuard dsts o.guard with
 | some k,some g => some ⟨o.dst,k,g,pre,o.dst.toList ++ (match g with | some (t,_) => [t] | none => []) ++ k.tms⟩
 | _,_ => none
def preOf (acc : List Nat) (es : List Edge) : Nat :=
 es.foldl (fun s e => if Region.binds .any e then s ||| 2 ^ e.on ||| acc.getD e.on 0 else s) 0
def cOsFrom (dsts : List (Option Nat)) : List Oper → List Nat → Option (List O)
 | [],_ => some []
 | o :: r,acc =>
  let pre := preOf acc o.after.toList
  match cO P dsts pre o,cOsFrom dsts r (acc ++ [pre]) with
  | some x,some l => some (x :: l)
  | _,_ => none
def edgesBelow : List Oper → Nat → Bool
 | [],_ => true
 | o :: r,i => o.after.toList.all (fun e => !Region.binds .any e || decide (e.on < i)) && edgesBelow r (i + 1)
def namesOk : List O → Nat → Bool
 | [],_ => true
 | o :: r,i => (r.all fun x => x.pre.testBit i || ((match o.dst with | some d => !x.names.contains d | none => true) && (match x.dst with | some d => !o.names.contains d | none => true))) && namesOk r (i + 1)
structure Grp where
 i0 : Nat
 d : Nat
 ins : List (Nat × V × V)
 cp : List (Nat × Nat)
def mlHead : List O → Nat → Option (Nat × Nat)
 | [],_ => none
 | o :: r,i => match o.op,o.dst,o.guard with
  | .mkMap,some d,none => some (i,d)
  | _,_,_ => mlHead r (i + 1)
def mlInsOf (d : Nat) : K → Option (V × V)
 | .mapUpd .int (.t t) (.k k) (.k v) => if t = d then some (k,v) else none
 | _ => none
def mlIns (d : Nat) : List O → Nat → List (Nat × V × V)
 | [],_ => []
 | o :: r,i => match mlInsOf d o.op with
  | some (k,v) => (i,k,v) :: mlIns d r (i + 1)
  | none => mlIns d r (i + 1)
def mlCpOf (d : Nat) (o : O) : Option Nat :=
 match o.op,o.guard with
 | .mv (.t t),none => if t = d then o.dst else none
 | _,_ => none
def mlCps (d : Nat) : List O → Nat → List (Nat × Nat)
 | [],_ => []
 | o :: r,i => match mlCpOf d o with
  | some t => (i,t) :: mlCps d r (i + 1)
  | none => mlCps d r (i + 1)
def mlHold (g : Grp) (o : O) (t : Nat) : Bool := t == g.d || g.cp.any fun x => x.2 == t && o.pre.testBit x.1
def mlLookOf (g : Grp) (o : O) : Option (Nat × V × Bool × A) :=
 match o.op with
 | .lookup .int z ok (.t t) k => if mlHold g o t then some (t,z,ok,k) else none
 | _ => none
def mlTmp (g : Grp) (t : Nat) : Bool := t == g.d || g.cp.any fun x => x.2 == t
def mlOne (g : Grp) (i : Nat) (o : O) : Bool :=
 if i = g.i0 then true else
 match mlInsOf g.d o.op with
 | some _ => o.dst.isNone && o.guard.isNone && o.pre.testBit g.i0
 | none => match mlCpOf g.d o with
  | some t => decide (t ≠ g.d) && o.pre.testBit g.i0
  | none => match mlLookOf g o with
   | some (_,_,_,k) => (!(k.tm.any (mlTmp g)) && (match o.dst with | some t => !(mlTmp g t) | none => true) && (match o.guard with | some (t,_) => !(mlTmp g t) | none => true)) && (o.pre.testBit g.i0 && g.ins.all fun x => o.pre.testBit x.1)
   | none => !(o.names.any (mlTmp g))
def distinctKeys : List (Nat × V × V) → Bool
 | [] => true
 | x :: r => r.all (fun y => (match sameK .int x.2.1 y.2.1 with | some false => true | _ => false) && (match sameK .int y.2.1 x.2.1 with | some false => true | _ => false)) && distinctKeys r
def allIdx (f : Nat → O → Bool) : List O → Nat → Bool
 | [],_ => true
 | o :: r,i => f i o && allIdx f r (i + 1)
def mlGrp (l : List O) : Option Grp :=
 match mlHead l 0 with
 | some (i0,d) => if !(mlIns d l 0).isEmpty && distinctKeys (mlIns d l 0) && allIdx (mlOne ⟨i0,d,mlIns d l 0,mlCps d l 0⟩) l 0 then some ⟨i0,d,mlIns d l 0,mlCps d l 0⟩ else none
 | none => none
def mlO (g : Grp) (i : Nat) (o : O) : O :=
 if i = g.i0 then { o with op := .mv (.k .junk) } else
 match mlInsOf g.d o.op with
 | some _ => { o with op := .mv (.t g.d) }
 | none => match mlCpOf g.d o with
  | some t => { o with op := .pick (.k (.bool true)) (.k .junk) (.t t) }
  | none => match mlLookOf g o with
   | some (_,z,ok,k) => { o with op := .mlit .int (g.ins.map fun x => (x.2.1,x.2.2,0)) z ok k }
   | none => o
def mlAll (g : Grp) : List O → Nat → List O
 | [],_ => []
 | o :: r,i => mlO g i o :: mlAll g r (i + 1)
def cRegion (ops : List Oper) (draw : Bool) : Option C :=
 match cOsFrom P (ops.map (·.dst)) ops [] with
 | none => none
 | some l =>
  if draw then (if edgesBelow ops 0 && namesOk l 0 then some (.draw (match mlGrp l with | some g => mlAll g l 0 | none => l)) else none) else some (.region l)
def cC : Code → Option C
 | .skip => some .skip
 | .region _ ops draw => cRegion P ops.toList draw
 | .seq a b => match cC a,cC b with
  | some a,some b => some (.seq a b)
  | _,_ => none
 | .cond c a b => match cA P c,cC a,cC b with
  | some c,some a,some b => some (.cond c a b)
  | _,_,_ => none
 | .block id b => (cC b).map (.block id)
 | .loop b => (cC b).map .loop
 | .rangeFunc f ps as b => match cA P f,cC as,cC b with
  | some f,some as,some b => some (.range f ps.toList as b)
  | _,_,_ => none
 | .exit id => some (.exit id)
 | .scope b => cC b
 | .label _ => some .skip
 | .ret => some .ret
 | .refuse _ => some .bad
 | _ => none
def cRV : List ResultVar → Option (List RV)
 | [] => some []
 | .tmp t :: r => (cRV r).map (.t t :: ·)
 | .cell a t :: r => match sizeT P t,cRV r with
  | some s,some l => some (.c a s (aggT P t) :: l)
  | _,_ => none
def cFn (fn : Func) : Option Fn :=
 if fn.name == "runtime.NumGoroutine" then none else
 match fn.body with
 | none => none
 | some b => match cC P b,cRV P fn.results.toList with
  | some c,some rs => some ⟨fn.ntmps,rs,c⟩
  | _,_ => none
end
def envOf (P : Program) (prim : Nat → Option (List V → H → Option (V × H))) : Env :=
 { fns := fun f => (P.funcs[f]?).bind (cFn P),prim }
end Go.AM
namespace Go.AM
abbrev Mp := Nat → Option (Nat × Nat × Nat)
mutual
def VR (m : Mp) : V → Value → Prop
 | .bool b,x => x = .bool b
 | .int k n,x => x = .int k n
 | .str s,x => x = .string ⟨s.toArray⟩
 | .ptr none,x => x = .pointer none
 | .ptr (some (i,o)),x => ∃ r sh e,m i = some (r,sh,e) ∧ x = .pointer (some ⟨r,sh + o,none⟩)
 | .slice none len cap _,x => x = .slice none len cap
 | .slice (some (i,o)) len cap opn,x => ∃ r sh e addr,m i = some (r,sh,e) ∧ x = .slice (some addr) len (cap + if opn then e else 0) ∧
   (addr = ⟨r,sh + o,none⟩ ∨ (len = 0 ∧ cap + (if opn then e else 0) = 0 ∧ (opn = true → addr.block = r)))
 | .map none,x => x = .map none
 | .map (some i),x => ∃ r sh e,m i = some (r,sh,e) ∧ x = .map (some r)
 | .func f fs cs,x => ∃ xs ys,VRL m fs xs ∧ VRL m cs ys ∧ x = .func (.func f) xs.toArray ys.toArray
 | .yield l,x => ∃ r sh e,m l = some (r,sh,e) ∧ x = .func (.yield r) #[] #[]
 | .nilFunc,x => x = .nilFunc
 | .iface t v,x => ∃ y,VR m v y ∧ x = .iface t y
 | .nilIface,x => x = .nilIface
 | .agg cs,x => ∃ ys,VRL m cs ys ∧ x = .agg ys.toArray
 | .tup cs,x => ∃ ys,VRL m cs ys ∧ x = .tuple ys.toArray
 | .junk,x => x.oneCell' = true ∧ (∀ b,x ≠ .bool b) ∧ x ≠ .nilIface
def VRL (m : Mp) : List V → List Value → Prop
 | [],ys => ys = []
 | v :: vs,ys => ∃ y ys',VR m v y ∧ VRL m vs ys' ∧ ys = y :: ys'
end
def Sub (m m' : Mp) : Prop := ∀ i x,m i = some x → m' i = some x
theorem Sub.refl (m : Mp) : Sub m m := fun _ _ h => h
theorem Sub.trans {a b c : Mp} (h : Sub a b) (h' : Sub b c) : Sub a c := fun i x hx => h' i x (h i x hx)
mutual
theorem VR.mono {m m' : Mp} (hs : Sub m m') : ∀ (v : V) (x : Value),VR m v x → VR m' v x
 | .bool _,_,h => h
 | .int _ _,_,h => h
 | .str _,_,h => h
 | .ptr none,_,h => h
 | .ptr (some (i,o)),x,h => by obtain ⟨r,sh,e,h1,h2⟩ := h; exact ⟨r,sh,e,hs _ _ h1,h2⟩
 | .slice none _ _ _,_,h => h
 | .slice (some (i,o)) len cap opn,x,h => by obtain ⟨r,sh,e,ad,h1,h2⟩ := h; exact ⟨r,sh,e,ad,hs _ _ h1,h2⟩
 | .map none,_,h => h
 | .map (some i),x,h => by obtain ⟨r,sh,e,h1,h2⟩ := h; exact ⟨r,sh,e,hs _ _ h1,h2⟩
 | .func f fs cs,x,h => by obtain ⟨xs,ys,h1,h2,h3⟩ := h; exact ⟨xs,ys,VRL.mono hs _ _ h1,VRL.mono hs _ _ h2,h3⟩
 | .yield l,x,h => by obtain ⟨r,sh,e,h1,h2⟩ := h; exact ⟨r,sh,e,hs _ _ h1,h2⟩
 | .nilFunc,_,h => h
 | .iface t v,x,h => by obtain ⟨y,h1,h2⟩ := h; exact ⟨y,VR.mono hs _ _ h1,h2⟩
 | .nilIface,_,h => h
 | .agg cs,x,h => by obtain ⟨ys,h1,h2⟩ := h; exact ⟨ys,VRL.mono hs _ _ h1,h2⟩
 | .tup cs,x,h => by obtain ⟨ys,h1,h2⟩ := h; exact ⟨ys,VRL.mono hs _ _ h1,h2⟩
 | .junk,_,h => h
theorem VRL.mono {m m' : Mp} (hs : Sub m m') : ∀ (v : List V) (x : List Value),VRL m v x → VRL m' v x
 | [],_,h => h
 | v :: vs,x,h => by obtain ⟨y,ys,h1,h2,h3⟩ := h; exact ⟨y,ys,VR.mono hs _ _ h1,VRL.mono hs _ _ h2,h3⟩
end
section lists
variable {m : Mp}
theorem VRL.nil : VRL m [] [] := rfl
theorem VRL.cons {v : V} {x : Value} {vs : List V} {xs : List Value} (h : VR m v x) (h' : VRL m vs xs) : VRL m (v :: vs) (x :: xs) := ⟨x,xs,h,h',rfl⟩
theorem VRL.one {v : V} {x : Value} (h : VR m v x) : VRL m [v] [x] := VRL.cons h VRL.nil
theorem VRL.length : ∀ {vs : List V} {xs : List Value},VRL m vs xs → xs.length = vs.length
 | [],_,h => by cases h; rfl
 | _ :: vs,_,h => by obtain ⟨y,ys,_,h2,rfl⟩ := h; simp [VRL.length h2]
theorem VRL.get : ∀ {vs : List V} {xs : List Value},VRL m vs xs → ∀ {i : Nat} {v : V},vs[i]? = some v → ∃ x,xs[i]? = some x ∧ VR m v x
 | [],_,_,i,v,hi => by simp at hi
 | u :: vs,_,h,i,v,hi => by
  obtain ⟨y,ys,h1,h2,rfl⟩ := h
  cases i with
  | zero => simp at hi; subst hi; exact ⟨y,rfl,h1⟩
  | succ i => simpa using VRL.get h2 (by simpa using hi)
theorem VRL.of_get : ∀ {vs : List V} {xs : List Value},xs.length = vs.length → (∀ (i : Nat) (v : V),vs[i]? = some v → ∃ x,xs[i]? = some x ∧ VR m v x) → VRL m vs xs
 | [],xs,hl,_ => by cases xs with | nil => rfl | cons a b => simp at hl
 | v :: vs,[],hl,_ => by simp at hl
 | v :: vs,x :: xs,hl,h => by
  obtain ⟨y,hy,hv⟩ := h 0 v rfl
  simp at hy; subst hy
  exact VRL.cons hv (VRL.of_get (by simpa using hl) fun i u hu => by simpa using h (i + 1) u (by simpa using hu))
theorem VRL.append : ∀ {vs us : List V} {xs ys : List Value},VRL m vs xs → VRL m us ys → VRL m (vs ++ us) (xs ++ ys)
 | [],_,_,_,h,h' => by cases h; exact h'
 | _ :: vs,_,_,_,h,h' => by obtain ⟨y,ys,h1,h2,rfl⟩ := h; exact VRL.cons h1 (VRL.append h2 h')
theorem VRL.take : ∀ {vs : List V} {xs : List Value},VRL m vs xs → ∀ n,VRL m (vs.take n) (xs.take n)
 | [],_,h,n => by cases h; simp [VRL.nil]
 | v :: vs,_,h,n => by
  obtain ⟨y,ys,h1,h2,rfl⟩ := h
  cases n with
  | zero => exact VRL.nil
  | succ n => exact VRL.cons h1 (VRL.take h2 n)
theorem VRL.drop : ∀ {vs : List V} {xs : List Value},VRL m vs xs → ∀ n,VRL m (vs.drop n) (xs.drop n)
 | [],_,h,n => by cases h; simp [VRL.nil]
 | v :: vs,_,h,n => by
  obtain ⟨y,ys,h1,h2,rfl⟩ := h
  cases n with
  | zero => exact VRL.cons h1 h2
  | succ n => exact VRL.drop h2 n
theorem VRL.set {vs : List V} {xs : List Value} (h : VRL m vs xs) {v : V} {x : Value} (hv : VR m v x) (d : Nat) : VRL m (vs.set d v) (xs.set d x) := by
 refine VRL.of_get (by simp [h.length]) fun i u hu => ?_
 rw [List.getElem?_set] at hu
 by_cases hd : d = i
 ·subst hd
  rw [if_pos rfl] at hu
  split at hu
  ·rename_i hlt
   cases hu
   exact ⟨x,by rw [List.getElem?_set,if_pos rfl,if_pos (by rw [h.length]; exact hlt)],hv⟩
  ·cases hu
 ·rw [if_neg hd] at hu
  obtain ⟨y,hy,hr⟩ := h.get hu
  exact ⟨y,by rw [List.getElem?_set,if_neg hd]; exact hy,hr⟩
theorem VRL.replicate {v : V} {x : Value} (h : VR m v x) : ∀ n,VRL m (List.replicate n v) (List.replicate n x)
 | 0 => VRL.nil
 | n + 1 => VRL.cons h (VRL.replicate h n)
theorem VRL.range {vs : List V} {xs : List Value} (h : VRL m vs xs) (o n : Nat) : VRL m (getR vs o n) ((xs.drop o).take n) := (h.drop o).take n
end lists
def TR (m : Mp) (T : List V) (tmps : Array Value) : Prop := VRL m T tmps.toList
def pendR : Option C → Option Code → Prop
 | none,none => True
 | some .ret,some .ret => True
 | some (.exit a),some (.exit b) => a = b
 | _,_ => False
def ER (m : Mp) : List (V × V × Nat) → List MapEntry → Prop
 | [],ys => ys = []
 | e :: es,ys => ∃ y ys',VR m e.1 y.key ∧ VR m e.2.1 y.val ∧ y.born = e.2.2 ∧ ER m es ys' ∧ ys = y :: ys'
def IterR (m : Mp) (mm : Option Nat) (r : Option Nat) : Prop :=
 match mm with
 | none => r = none
 | some i => ∃ b sh e,m i = some (b,sh,e) ∧ r = some b
def FzOK (fz : Option Nat) (sh n : Nat) (fzr : Nat × Nat) : Prop :=
 match fz with
 | none => fzr = (0,0)
 | some f => fzr.1 ≤ fzr.2 ∧ ∀ j,fzr.1 ≤ j → j < fzr.2 → if f = 0 then n ≤ j else j < sh + f
def OR (P : Program) (m : Mp) (ob : Go.Obj) (sh e : Nat) : Obj → Prop
 | .cells vs ty opn ro fz => ∃ c fzr,ob = .cells c ty fzr ∧ VRL m vs ((c.toList.drop sh).take vs.length) ∧
   (if opn then sh + vs.length + e * P.cellsOf ty ≤ c.size else sh = 0 ∧ e = 0 ∧ c.size = vs.length) ∧
   (ro = false → FzOK fz sh c.size fzr)
 | .map es clock => ∃ es',ob = .map es' clock ∧ ER m es es'.toList
 | .mapIter mm since seen stepped => sh = 0 ∧ ∃ r,ob = .mapIter r since seen.toArray stepped ∧ IterR m mm r
 | .strIter s pos => sh = 0 ∧ ob = .stringIter ⟨s.toArray⟩ pos
 | .loop st pend T ps as b => ∃ L : Loop,ob = .loop L ∧ L.state = st ∧ pendR pend L.pending ∧ TR m T L.tmps ∧ L.params = ps.toArray ∧
   cC P L.assign = some as ∧ cC P L.body = some b
 | .dead => True
theorem ER.mono {m m' : Mp} (hs : Sub m m') : ∀ {es : List (V × V × Nat)} {ys : List MapEntry},ER m es ys → ER m' es ys
 | [],_,h => h
 | _ :: _,_,h => by
  obtain ⟨y,ys,h1,h2,h3,h4,h5⟩ := h
  exact ⟨y,ys,VR.mono hs _ _ h1,VR.mono hs _ _ h2,h3,ER.mono hs h4,h5⟩
theorem OR.mono {P : Program} {m m' : Mp} (hs : Sub m m') {ob : Go.Obj} {sh e : Nat} : ∀ {o : Obj},OR P m ob sh e o → OR P m' ob sh e o
 | .cells ..,h => by obtain ⟨c,fzr,h1,h2,h3⟩ := h; exact ⟨c,fzr,h1,VRL.mono hs _ _ h2,h3⟩
 | .map ..,h => by obtain ⟨es',h1,h2⟩ := h; exact ⟨es',h1,h2.mono hs⟩
 | .mapIter mm _ _ _,h => by
  obtain ⟨h0,r,h1,h2⟩ := h
  refine ⟨h0,r,h1,?_⟩
  cases mm with
  | none => exact h2
  | some i => obtain ⟨b,sh,e,h3,h4⟩ := h2; exact ⟨b,sh,e,hs _ _ h3,h4⟩
 | .strIter ..,h => h
 | .loop ..,h => by obtain ⟨L,h1,h2,h3,h4,h5⟩ := h; exact ⟨L,h1,h2,h3,VRL.mono hs _ _ h4,h5⟩
 | .dead,h => h
def Obj.live : Obj → Bool
 | .dead => false
 | _ => true
def Obj.mut : Obj → Bool
 | .dead => false
 | .cells _ _ _ true _ => false
 | _ => true
theorem Obj.live_of_mut {o : Obj} (h : o.mut = true) : o.live = true := by cases o <;> simp_all [Obj.mut,Obj.live]
structure HR (P : Program) (m : Mp) (h : H) (w : World) : Prop where
 ok : h.ok
 dom : ∀ i x,m i = some x → i < h.size
 glob : ∀ g,g < P.globals.size → m g = some (g,0,0)
 blk : ∀ i r sh e,m i = some (r,sh,e) → r < w.heap.size
 obj : ∀ i o,h.get i = some o → o.live = true → ∃ r sh e ob,m i = some (r,sh,e) ∧ w.heap[r]? = some ob ∧ OR P m ob sh e o
 inj : ∀ i j o o' r sh e sh' e',h.get i = some o → h.get j = some o' → o.mut = true → o'.live = true →
  m i = some (r,sh,e) → m j = some (r,sh',e') → i = j
def Own (m : Mp) (h : H) (b : Nat) : Prop := ∃ i o sh e,h.get i = some o ∧ o.mut = true ∧ m i = some (b,sh,e)
structure Ext (m : Mp) (h : H) (w : World) (m' : Mp) (h' : H) (w' : World) : Prop where
 sub : Sub m m'
 hsize : h.size ≤ h'.size
 wsize : w.heap.size ≤ w'.heap.size
 frame : ∀ b,b < w.heap.size → ¬ Own m h b → w'.heap[b]? = w.heap[b]?
 own : ∀ b,b < w.heap.size → Own m' h' b → Own m h b
 os : w'.os = w.os
 output : w'.output = w.output
 tape : w'.tape = w.tape
 rng : ∀ b,b < w.heap.size → (∃ i y,m' i = some (b,y)) → ∃ i y,m i = some (b,y)
theorem Ext.refl (m : Mp) (h : H) (w : World) : Ext m h w m h w := ⟨Sub.refl m,Nat.le_refl _,Nat.le_refl _,fun _ _ _ => rfl,fun _ _ h => h,rfl,rfl,rfl,fun _ _ h => h⟩
theorem Ext.trans {m m1 m2 : Mp} {h h1 h2 : H} {w w1 w2 : World} (a : Ext m h w m1 h1 w1) (b : Ext m1 h1 w1 m2 h2 w2) : Ext m h w m2 h2 w2 where
 sub := a.sub.trans b.sub
 hsize := Nat.le_trans a.hsize b.hsize
 wsize := Nat.le_trans a.wsize b.wsize
 frame := fun x hx hn => by
  rw [b.frame x (Nat.lt_of_lt_of_le hx a.wsize) (fun ho => hn (a.own x hx ho))]
  exact a.frame x hx hn
 own := fun x hx ho => a.own x hx (b.own x (Nat.lt_of_lt_of_le hx a.wsize) ho)
 os := b.os.trans a.os
 output := b.output.trans a.output
 tape := b.tape.trans a.tape
 rng := fun x hx h => a.rng x hx (b.rng x (Nat.lt_of_lt_of_le hx a.wsize) h)
structure Drew (w w' : World) : Prop where
 heap : w'.heap = w.heap
 os : w'.os = w.os
 output : w'.output = w.output
 tape : w'.tape = w.tape
 drawn : w.drawn ≤ w'.drawn
theorem Drew.refl (w : World) : Drew w w := ⟨rfl,rfl,rfl,rfl,Nat.le_refl _⟩
theorem Drew.one (w : World) : Drew w { w with drawn := w.drawn + 1 } := ⟨rfl,rfl,rfl,rfl,Nat.le_succ _⟩
theorem Drew.trans {a b c : World} (x : Drew a b) (y : Drew b c) : Drew a c := ⟨y.heap.trans x.heap,y.os.trans x.os,y.output.trans x.output,y.tape.trans x.tape,Nat.le_trans x.drawn y.drawn⟩
theorem HR.drew {P : Program} {m : Mp} {h : H} {w w' : World} (hr : HR P m h w) (d : Drew w w') : HR P m h w' where
 ok := hr.ok
 dom := hr.dom
 glob := hr.glob
 blk := by rw [d.heap]; exact hr.blk
 obj := by rw [d.heap]; exact hr.obj
 inj := hr.inj
theorem Ext.drew (m : Mp) (h : H) {w w' : World} (d : Drew w w') : Ext m h w m h w' where
 sub := Sub.refl m
 hsize := Nat.le_refl _
 wsize := by rw [d.heap]; exact Nat.le_refl _
 frame := fun b _ _ => by rw [d.heap]
 own := fun _ _ h => h
 os := d.os
 output := d.output
 tape := d.tape
 rng := fun _ _ h => h
structure New (w : World) (ob : Go.Obj) (w' : World) : Prop where
 heap : w'.heap = w.heap.push ob
 os : w'.os = w.os
 output : w'.output = w.output
 tape : w'.tape = w.tape
 drawn : w.drawn ≤ w'.drawn
theorem New.alloc (w : World) (ob : Go.Obj) : New w ob { w with heap := w.heap.push ob } := ⟨rfl,rfl,rfl,rfl,Nat.le_refl _⟩
theorem New.of_drew {w w1 w2 : World} {ob : Go.Obj} (d : Drew w w1) (n : New w1 ob w2) : New w ob w2 :=
 ⟨by rw [n.heap,d.heap],n.os.trans d.os,n.output.trans d.output,n.tape.trans d.tape,Nat.le_trans d.drawn n.drawn⟩
structure Upd (w : World) (r : Nat) (ob : Go.Obj) (w' : World) : Prop where
 size : w'.heap.size = w.heap.size
 here : w'.heap[r]? = some ob
 there : ∀ b,b ≠ r → w'.heap[b]? = w.heap[b]?
 os : w'.os = w.os
 output : w'.output = w.output
 tape : w'.tape = w.tape
 drawn : w.drawn ≤ w'.drawn
def upd (m : Mp) (i : Nat) (x : Nat × Nat × Nat) : Mp := fun j => if j = i then some x else m j
theorem sub_upd {m : Mp} {i : Nat} {x : Nat × Nat × Nat} (h : m i = none) : Sub m (upd m i x) := fun j y hy => by
 unfold upd; split
 ·rename_i e; subst e; rw [h] at hy; cases hy
 ·exact hy
theorem upd_self (m : Mp) (i : Nat) (x : Nat × Nat × Nat) : upd m i x i = some x := by simp [upd]
theorem HR.fresh {P : Program} {m : Mp} {h : H} {w : World} (hr : HR P m h w) : m h.size = none := by
 cases hm : m h.size with
 | none => rfl
 | some x => exact absurd (hr.dom _ _ hm) (Nat.lt_irrefl _)
theorem HR.push {P : Program} {m : Mp} {h h' : H} {w w' : World} {o : Obj} {ob : Go.Obj} {e : Nat} (hr : HR P m h w) (hp : h.push o = some h') (hn : New w ob w')
  (hor : OR P m ob 0 e o) :
  HR P (upd m h.size (w.heap.size,0,e)) h' w' ∧ Ext m h w (upd m h.size (w.heap.size,0,e)) h' w' := by
 have hs := sub_upd (x := (w.heap.size,0,e)) hr.fresh
 have hsz := H.size_push hp
 have hget : ∀ b,b < w.heap.size → w'.heap[b]? = w.heap[b]? := fun b hb => by
  rw [hn.heap,Array.getElem?_push]; rw [if_neg (by omega)]
 have hlast : w'.heap[w.heap.size]? = some ob := by rw [hn.heap]; simp
 have hws : w'.heap.size = w.heap.size + 1 := by rw [hn.heap]; simp
 have hold : ∀ i o,i ≠ h.size → h'.get i = some o → h.get i = some o := fun i o hi hg => by rw [H.get_push hp,if_neg hi] at hg; exact hg
 have hup : ∀ i x,i ≠ h.size → upd m h.size (w.heap.size,0,e) i = some x → m i = some x := fun i x hi hx => by simpa [upd,hi] using hx
 refine ⟨?_,?_⟩
 ·constructor
  ·exact hsz.2
  ·intro i x hx
   by_cases hi : i = h.size
   ·omega
   ·have := hr.dom _ _ (hup i x hi hx); omega
  ·intro g hg; exact hs _ _ (hr.glob g hg)
  ·intro i r sh e' hx
   by_cases hi : i = h.size
   ·subst hi; rw [upd_self] at hx; cases hx; omega
   ·have := hr.blk _ _ _ _ (hup i _ hi hx); omega
  ·intro i o' hg hl
   by_cases hi : i = h.size
   ·subst hi
    rw [H.get_push hp,if_pos rfl] at hg; cases hg
    exact ⟨_,_,_,ob,upd_self _ _ _,hlast,hor.mono hs⟩
   ·obtain ⟨r,sh,e',ob',h1,h2,h3⟩ := hr.obj i o' (hold i o' hi hg) hl
    exact ⟨r,sh,e',ob',hs _ _ h1,by rw [hget r (hr.blk _ _ _ _ h1)]; exact h2,h3.mono hs⟩
  ·intro i j o1 o2 r sh e1 sh' e2 hi hj hl1 hl2 hm1 hm2
   by_cases hi' : i = h.size <;> by_cases hj' : j = h.size
   ·omega
   ·subst hi'; rw [upd_self] at hm1; cases hm1
    have := hr.blk _ _ _ _ (hup j _ hj' hm2); omega
   ·subst hj'; rw [upd_self] at hm2; cases hm2
    have := hr.blk _ _ _ _ (hup i _ hi' hm1); omega
   ·exact hr.inj i j o1 o2 r sh e1 sh' e2 (hold i _ hi' hi) (hold j _ hj' hj) hl1 hl2 (hup i _ hi' hm1) (hup j _ hj' hm2)
 ·constructor
  ·exact hs
  ·omega
  ·omega
  ·intro b hb _; exact hget b hb
  ·rintro b hb ⟨i,o',sh,e',hg,hm,hmi⟩
   by_cases hi : i = h.size
   ·subst hi; rw [upd_self] at hmi; cases hmi; omega
   ·exact ⟨i,o',sh,e',hold i o' hi hg,hm,hup i _ hi hmi⟩
  ·exact hn.os
  ·exact hn.output
  ·exact hn.tape
  ·rintro b hb ⟨i,y,hm⟩
   by_cases hi : i = h.size
   ·subst hi; rw [upd_self] at hm; cases hm; omega
   ·exact ⟨i,y,hup i _ hi hm⟩
theorem HR.set {P : Program} {m : Mp} {h : H} {w w' : World} {i r sh e : Nat} {o o' : Obj} {ob : Go.Obj} (hr : HR P m h w) (hg : h.get i = some o) (hm : o.mut = true)
  (hi : m i = some (r,sh,e)) (hu : Upd w r ob w') (hor : OR P m ob sh e o') :
  HR P m (h.set i o') w' ∧ Ext m h w m (h.set i o') w' := by
 have hlt := H.get_lt hg
 have hlv := Obj.live_of_mut hm
 have hr' : r < w.heap.size := hr.blk _ _ _ _ hi
 refine ⟨?_,?_⟩
 ·constructor
  ·exact H.set_ok hr.ok i o'
  ·exact hr.dom
  ·exact hr.glob
  ·intro j r' sh' e' hj; rw [hu.size]; exact hr.blk _ _ _ _ hj
  ·intro j oj hgj hlj
   rw [H.get_set hr.ok hlt] at hgj
   by_cases hij : i = j
   ·subst hij; rw [if_pos rfl] at hgj; cases hgj
    exact ⟨r,sh,e,ob,hi,hu.here,hor⟩
   ·rw [if_neg hij] at hgj
    obtain ⟨r2,sh2,e2,ob2,h1,h2,h3⟩ := hr.obj j oj hgj hlj
    refine ⟨r2,sh2,e2,ob2,h1,?_,h3⟩
    rw [hu.there r2 ?_]; · exact h2
    intro he; subst he
    exact hij (hr.inj i j o oj r2 sh e sh2 e2 hg hgj hm hlj hi h1)
  ·intro a b oa ob' r2 sh1 e1 sh2 e2 ha hb hla hlb hma hmb
   have key : ∀ a oa,(h.set i o').get a = some oa → oa.live = true → ∃ o2,h.get a = some o2 ∧ o2.live = true := fun a oa ha hla => by
    rw [H.get_set hr.ok hlt] at ha
    by_cases hia : i = a
    ·subst hia; exact ⟨o,hg,hlv⟩
    ·rw [if_neg hia] at ha; exact ⟨oa,ha,hla⟩
   have keym : ∀ a oa,(h.set i o').get a = some oa → oa.mut = true → ∃ o2,h.get a = some o2 ∧ o2.mut = true := fun a oa ha hla => by
    rw [H.get_set hr.ok hlt] at ha
    by_cases hia : i = a
    ·subst hia; exact ⟨o,hg,hm⟩
    ·rw [if_neg hia] at ha; exact ⟨oa,ha,hla⟩
   obtain ⟨o2,h2,l2⟩ := keym a oa ha hla
   obtain ⟨o3,h3,l3⟩ := key b ob' hb hlb
   exact hr.inj a b o2 o3 r2 sh1 e1 sh2 e2 h2 h3 l2 l3 hma hmb
 ·constructor
  ·exact Sub.refl m
  ·exact Nat.le_refl _
  ·rw [hu.size]; exact Nat.le_refl _
  ·intro b hb hn
   exact hu.there b (fun he => hn (by subst he; exact ⟨i,o,sh,e,hg,hm,hi⟩))
  ·rintro b hb ⟨j,oj,sh',e',hgj,hmj,hj⟩
   rw [H.get_set hr.ok hlt] at hgj
   by_cases hij : i = j
   ·subst hij; exact ⟨i,o,sh',e',hg,hm,hj⟩
   ·rw [if_neg hij] at hgj; exact ⟨j,oj,sh',e',hgj,hmj,hj⟩
  ·exact hu.os
  ·exact hu.output
  ·exact hu.tape
  ·exact fun _ _ hh => hh
theorem HR.move {P : Program} {m : Mp} {h h' : H} {w w' : World} {i r sh e sh2 e2 : Nat} {o o' : Obj} {ob : Go.Obj} (hr : HR P m h w) (hg : h.get i = some o) (hm : o.mut = true)
  (hi : m i = some (r,sh,e)) (hu : Upd w r ob w') (hp : (h.set i .dead).push o' = some h') (hor : OR P m ob sh2 e2 o') :
  HR P (upd m h.size (r,sh2,e2)) h' w' ∧ Ext m h w (upd m h.size (r,sh2,e2)) h' w' := by
 have hlt := H.get_lt hg
 have hlv := Obj.live_of_mut hm
 have hs := sub_upd (x := (r,sh2,e2)) hr.fresh
 have hsz := H.size_push hp
 rw [H.set_size] at hsz
 have hr' : r < w.heap.size := hr.blk _ _ _ _ hi
 have hget : ∀ j o,h'.get j = some o → o.live = true → (j = h.size ∧ o = o') ∨ (j ≠ h.size ∧ i ≠ j ∧ h.get j = some o) := fun j oj hj hlj => by
  rw [H.get_push hp,H.set_size] at hj
  by_cases hjs : j = h.size
  ·rw [if_pos hjs] at hj; cases hj; exact .inl ⟨hjs,rfl⟩
  ·rw [if_neg hjs,H.get_set hr.ok hlt] at hj
   by_cases hij : i = j
   ·rw [if_pos hij] at hj; cases hj; simp [Obj.live] at hlj
   ·rw [if_neg hij] at hj; exact .inr ⟨hjs,hij,hj⟩
 have hup : ∀ j x,j ≠ h.size → upd m h.size (r,sh2,e2) j = some x → m j = some x := fun j x hj hx => by simpa [upd,hj] using hx
 refine ⟨?_,?_⟩
 ·constructor
  ·exact hsz.2
  ·intro j x hx
   by_cases hj : j = h.size
   ·omega
   ·have := hr.dom _ _ (hup j x hj hx); omega
  ·intro g hgl; exact hs _ _ (hr.glob g hgl)
  ·intro j r2 sh' e' hx
   rw [hu.size]
   by_cases hj : j = h.size
   ·subst hj; rw [upd_self] at hx; cases hx; exact hr'
   ·exact hr.blk _ _ _ _ (hup j _ hj hx)
  ·intro j oj hgj hlj
   rcases hget j oj hgj hlj with ⟨rfl,rfl⟩ | ⟨hj,hij,hgj'⟩
   ·exact ⟨r,sh2,e2,ob,upd_self _ _ _,hu.here,hor.mono hs⟩
   ·obtain ⟨r2,sh',e',ob2,h1,h2,h3⟩ := hr.obj j oj hgj' hlj
    refine ⟨r2,sh',e',ob2,hs _ _ h1,?_,h3.mono hs⟩
    rw [hu.there r2 ?_]; · exact h2
    intro he; subst he
    exact hij (hr.inj i j o oj r2 sh e sh' e' hg hgj' hm hlj hi h1)
  ·intro a b oa ob' r2 sh1 e1 sh3 e3 ha hb hla hlb hma hmb
   rcases hget a oa ha (Obj.live_of_mut hla) with ⟨rfl,_⟩ | ⟨ha',hia,hga⟩ <;> rcases hget b ob' hb hlb with ⟨rfl,_⟩ | ⟨hb',hib,hgb⟩
   ·rfl
   ·rw [upd_self] at hma; cases hma
    exact absurd (hr.inj i b o ob' r sh e sh3 e3 hg hgb hm hlb hi (hup b _ hb' hmb)) hib
   ·rw [upd_self] at hmb; cases hmb
    exact absurd (hr.inj a i oa o r sh1 e1 sh e hga hg hla hlv (hup a _ ha' hma) hi).symm hia
   ·exact hr.inj a b oa ob' r2 sh1 e1 sh3 e3 hga hgb hla hlb (hup a _ ha' hma) (hup b _ hb' hmb)
 ·constructor
  ·exact hs
  ·omega
  ·rw [hu.size]; exact Nat.le_refl _
  ·intro b hb hn
   exact hu.there b (fun he => hn (by subst he; exact ⟨i,o,sh,e,hg,hm,hi⟩))
  ·rintro b hb ⟨j,oj,sh',e',hgj,hmj,hj⟩
   rcases hget j oj hgj (Obj.live_of_mut hmj) with ⟨rfl,_⟩ | ⟨hj',hij,hgj'⟩
   ·rw [upd_self] at hj; cases hj; exact ⟨i,o,sh,e,hg,hm,hi⟩
   ·exact ⟨j,oj,sh',e',hgj',hmj,hup j _ hj' hj⟩
  ·exact hu.os
  ·exact hu.output
  ·exact hu.tape
  ·rintro b hb ⟨j,y,hj⟩
   by_cases hjs : j = h.size
   ·subst hjs; rw [upd_self] at hj; cases hj; exact ⟨i,_,hi⟩
   ·exact ⟨j,y,hup j _ hjs hj⟩
theorem HR.kill {P : Program} {m : Mp} {h : H} {w : World} {i : Nat} {o : Obj} (hr : HR P m h w) (hg : h.get i = some o) : HR P m (h.set i .dead) w ∧ Ext m h w m (h.set i .dead) w := by
 have hlt := H.get_lt hg
 have hget : ∀ j oj,(h.set i .dead).get j = some oj → oj.live = true → h.get j = some oj := fun j oj hj hl => by
  rw [H.get_set hr.ok hlt] at hj
  by_cases hij : i = j
  ·rw [if_pos hij] at hj; cases hj; simp [Obj.live] at hl
  ·rw [if_neg hij] at hj; exact hj
 refine ⟨⟨H.set_ok hr.ok i _,hr.dom,hr.glob,hr.blk,fun j oj hj hl => hr.obj j oj (hget j oj hj hl) hl,fun a b oa ob r sh e sh' e' ha hb hla hlb => hr.inj a b oa ob r sh e sh' e' (hget a oa ha (Obj.live_of_mut hla)) (hget b ob hb hlb) hla hlb⟩,?_⟩
 refine ⟨Sub.refl m,Nat.le_refl _,Nat.le_refl _,fun _ _ _ => rfl,?_,rfl,rfl,rfl,fun _ _ h => h⟩
 rintro b hb ⟨j,oj,sh',e',hgj,hmj,hj⟩
 exact ⟨j,oj,sh',e',hget j oj hgj (Obj.live_of_mut hmj),hmj,hj⟩
end Go.AM
namespace Go.AM
variable {P : Program} {m : Mp} {h : H} {w : World}
theorem run_underlying {t : TypeId} {d : TypeDesc} (hd : P.underlying t = some d) (w : World) : (underlying t).run P w = .ok d w := by
 simp [underlying,hd]
theorem run_typeInfo {t : TypeId} {i : TypeInfo} (hi : P.info? t = some i) (w : World) : (typeInfo t).run P w = .ok i w := by
 simp [typeInfo,hi]
theorem sizeT_spec {t : TypeId} {s : Nat} (hs : sizeT P t = some s) : ∃ i d,P.info? t = some i ∧ P.underlying t = some d ∧ i.size = s := by
 unfold sizeT at hs
 split at hs
 ·rename_i i d h1 h2; cases hs; exact ⟨i,d,h1,h2,rfl⟩
 ·cases hs
theorem sizeT_cells {t : TypeId} {s : Nat} (hs : sizeT P t = some s) : P.cellsOf t = s := by
 obtain ⟨i,d,h1,_,h3⟩ := sizeT_spec hs
 simp [Program.cellsOf,h1,h3]
theorem run_sizeOf {t : TypeId} {s : Nat} (hs : sizeT P t = some s) (w : World) : (sizeOf t).run P w = .ok s w := by
 obtain ⟨i,d,h1,h2,h3⟩ := sizeT_spec hs
 simp [sizeOf,run_typeInfo h1,h3]
theorem run_isAgg {t : TypeId} {d : TypeDesc} (hd : P.underlying t = some d) (w : World) : (isAgg t).run P w = .ok (aggT P t) w := by
 simp only [isAgg,Sem.run_bind,run_underlying hd,Result.andThen_ok,aggT,hd]
 cases d <;> rfl
theorem run_isAgg' {t : TypeId} {s : Nat} (hs : sizeT P t = some s) (w : World) : (isAgg t).run P w = .ok (aggT P t) w := by
 obtain ⟨i,d,h1,h2,h3⟩ := sizeT_spec hs
 exact run_isAgg h2 w
theorem mapM_VRL {d : Nat} (ih : ∀ (x : Value) (v : V),vOf d x = some v → VR m v x) : ∀ (xs : List Value) (vs : List V),xs.mapM (vOf d) = some vs → VRL m vs xs
 | [],vs,h => by simp at h; subst h; rfl
 | x :: xs,vs,h => by
  rw [List.mapM_cons] at h
  cases hx : vOf d x with
  | none => simp [hx] at h
  | some v =>
   cases hxs : xs.mapM (vOf d) with
   | none => simp [hx,hxs] at h
   | some vs' =>
    simp [hx,hxs] at h
    subst h
    exact VRL.cons (ih x v hx) (mapM_VRL ih xs vs' hxs)
theorem vOf_sound : ∀ (d : Nat) (x : Value) (v : V),vOf d x = some v → VR m v x
 | 0,_,_,h => by simp [vOf] at h
 | d + 1,x,v,h => by
  unfold vOf at h
  split at h
  case h_1 => cases h; rfl
  case h_2 => cases h; rfl
  case h_3 s => cases h; cases s; simp [VR]
  case h_4 => cases h; rfl
  case h_5 => cases h; simp [VR]
  case h_6 => cases h; rfl
  case h_7 => cases h; rfl
  case h_8 => cases h; rfl
  case h_9 t y =>
   cases hy : vOf d y with
   | none => simp [hy] at h
   | some u => simp [hy] at h; subst h; exact ⟨y,vOf_sound d y u hy,rfl⟩
  case h_10 cs =>
   cases hy : cs.toList.mapM (vOf d) with
   | none => rw [hy] at h; cases h
   | some u => rw [hy] at h; cases h; exact ⟨cs.toList,mapM_VRL (vOf_sound d) _ _ hy,rfl⟩
  case h_11 cs =>
   cases hy : cs.toList.mapM (vOf d) with
   | none => rw [hy] at h; cases h
   | some u => rw [hy] at h; cases h; exact ⟨cs.toList,mapM_VRL (vOf_sound d) _ _ hy,rfl⟩
  case h_12 f fs cs =>
   split at h
   ·rename_i a b ha hb
    cases h
    exact ⟨fs.toList,cs.toList,mapM_VRL (vOf_sound d) _ _ ha,mapM_VRL (vOf_sound d) _ _ hb,rfl⟩
   ·cases h
  case h_13 => cases h
theorem evA {T : List V} {a : Act} {x : Operand} {y : A} {v : V} (hT : TR m T a.tmps) (hg : ∀ g,g < P.globals.size → m g = some (g,0,0))
  (hc : cA P x = some y) (hv : y.ev T = some v) : VR m v (a.eval x) := by
 cases x with
 | tmp t =>
  simp [cA] at hc; subst hc
  obtain ⟨z,h1,h2⟩ := VRL.get hT hv
  simp only [Act.eval]
  have : a.tmps.getD t undef = z := by
   rw [Array.getElem?_toList] at h1
   simp [Array.getD_eq_getD_getElem?,h1]
  rw [this]; exact h2
 | const c =>
  simp only [cA] at hc
  cases hy : vOf 64 c with
  | none => simp [hy] at hc
  | some u =>
   simp [hy] at hc; subst hc
   simp [A.ev] at hv; subst hv
   exact vOf_sound 64 c u hy
 | global g =>
  simp only [cA] at hc
  split at hc
  ·rename_i hlt
   cases hc
   simp [A.ev] at hv; subst hv
   exact ⟨g,0,0,hg g hlt,rfl⟩
  ·cases hc
 | func f =>
  simp [cA] at hc; subst hc
  simp [A.ev] at hv; subst hv
  exact ⟨[],[],rfl,rfl,rfl⟩
theorem evAs {T : List V} {a : Act} (hT : TR m T a.tmps) (hg : ∀ g,g < P.globals.size → m g = some (g,0,0)) : ∀ {xs : List Operand} {ys : List A} {vs : List V},
  cAs P xs = some ys → evs T ys = some vs → VRL m vs (xs.map a.eval)
 | [],ys,vs,hc,hv => by simp [cAs] at hc; subst hc; simp [evs] at hv; subst hv; rfl
 | x :: xs,ys,vs,hc,hv => by
  simp only [cAs] at hc
  split at hc
  ·rename_i y l h1 h2
   cases hc
   simp only [evs] at hv
   split at hv
   ·rename_i v vs' h3 h4
    cases hv
    exact VRL.cons (evA hT hg h1 h3) (evAs hT hg h2 h4)
   ·cases hv
  ·cases hc
def OptR (m : Mp) (v : Option V) (x : Option Value) : Prop :=
 match v with
 | none => x = none
 | some u => ∃ z,x = some z ∧ VR m u z
theorem evAo {T : List V} {a : Act} (hT : TR m T a.tmps) (hg : ∀ g,g < P.globals.size → m g = some (g,0,0)) {x : Option Operand} {y : Option A} {v : Option V}
  (hc : cAo P x = some y) (hv : evo T y = some v) : OptR m v (x.map a.eval) := by
 cases x with
 | none => simp [cAo] at hc; subst hc; simp [evo] at hv; subst hv; rfl
 | some x =>
  simp only [cAo] at hc
  cases h1 : cA P x with
  | none => simp [h1] at hc
  | some z =>
   simp [h1] at hc; subst hc
   simp only [evo] at hv
   split at hv
   ·rename_i u hu; cases hv; exact ⟨a.eval x,rfl,evA hT hg h1 hu⟩
   ·cases hv
theorem VR.one {v : V} {x : Value} (h : VR m v x) (ho : v.one = true) : x.oneCell' = true := by
 cases v with
 | bool b => cases h; rfl
 | int k n => cases h; rfl
 | str s => cases h; rfl
 | ptr a => cases a with
  | none => cases h; rfl
  | some a => obtain ⟨r,sh,e,_,rfl⟩ := h; rfl
 | slice a l c o => cases a with
  | none => cases h; rfl
  | some a => obtain ⟨r,sh,e,ad,_,rfl,_⟩ := h; rfl
 | map a => cases a with
  | none => cases h; rfl
  | some a => obtain ⟨r,sh,e,_,rfl⟩ := h; rfl
 | func f fs cs => obtain ⟨xs,ys,_,_,rfl⟩ := h; rfl
 | yield l => obtain ⟨r,sh,e,_,rfl⟩ := h; rfl
 | nilFunc => cases h; rfl
 | iface t v => obtain ⟨y,_,rfl⟩ := h; rfl
 | nilIface => cases h; rfl
 | agg cs => simp [V.one] at ho
 | tup cs => simp [V.one] at ho
 | junk => exact h.1
theorem VR.cells {v : V} {x : Value} (h : VR m v x) : VRL m v.cells x.cells.toList := by
 cases v with
 | agg cs => obtain ⟨ys,h1,rfl⟩ := h; simpa [V.cells,Value.cells] using h1
 | tup cs =>
  have h0 := h
  obtain ⟨ys,h1,rfl⟩ := h
  exact VRL.one h0
 | _ =>
  have h0 := h
  have ho := VR.one h rfl
  have hx : x.cells = #[x] := by cases x <;> first | rfl | simp [Value.oneCell'] at ho
  rw [hx]
  exact VRL.one h0
theorem cell_at {r o : Nat} {c : Array Value} {ty : TypeId} {fz : Nat × Nat} (hb : w.heap[r]? = some (.cells c ty fz)) : w.cell? ⟨r,o,none⟩ = c[o]? := by
 simp [World.cell?,hb]
theorem run_loadCellsFrom {r o : Nat} {c : Array Value} {ty : TypeId} {fz : Nat × Nat} (hb : w.heap[r]? = some (.cells c ty fz)) :
  ∀ (n i : Nat) (acc : Array Value),o + i + n ≤ c.size → (loadCellsFrom ⟨r,o,none⟩ i n acc).run P w = .ok (acc ++ ((c.toList.drop (o + i)).take n).toArray) w
 | 0,i,acc,_ => by simp [loadCellsFrom]
 | n + 1,i,acc,hn => by
  have hlt : o + i < c.size := by omega
  have hadd : Addr.add ⟨r,o,none⟩ i = ⟨r,o + i,none⟩ := by unfold Addr.add; split <;> simp_all
  have hc : w.cell? ⟨r,o + i,none⟩ = some c[o + i] := by rw [cell_at hb]; simp [hlt]
  simp only [loadCellsFrom,Sem.run_bind,run_load,hadd,hc,Result.andThen_ok]
  rw [run_loadCellsFrom hb n (i + 1) _ (by omega)]
  congr 1
  have hd : c.toList.drop (o + i) = c[o + i] :: c.toList.drop (o + (i + 1)) := by
   rw [← Array.getElem_toList hlt,show o + (i + 1) = (o + i) + 1 by omega]; exact List.drop_eq_getElem_cons (by simpa using hlt)
  rw [hd,List.take_succ_cons]
  simp
theorem run_loadCells {r o n : Nat} {c : Array Value} {ty : TypeId} {fz : Nat × Nat} (hb : w.heap[r]? = some (.cells c ty fz)) (hn : o + n ≤ c.size) :
  (loadCells ⟨r,o,none⟩ n).run P w = .ok ((c.toList.drop o).take n).toArray w := by
 simp only [loadCells]
 rw [run_loadCellsFrom hb n 0 #[] (by omega)]
 simp
theorem run_loadCells_zero (a : Addr) (w : World) : (loadCells a 0).run P w = .ok #[] w := by simp [loadCells,loadCellsFrom]
theorem getElem?_splice {α : Type} (l xs : List α) (k j : Nat) (hk : k + xs.length ≤ l.length) :
  (l.take k ++ xs ++ l.drop (k + xs.length))[j]? = if j < k then l[j]? else if j < k + xs.length then xs[j - k]? else l[j]? := by
 have h1 : (l.take k).length = k := by simp; omega
 by_cases hj : j < k
 ·rw [if_pos hj,List.append_assoc,List.getElem?_append_left (by omega)]
  rw [List.getElem?_take,if_pos hj]
 ·rw [if_neg hj,List.append_assoc,List.getElem?_append_right (by omega),h1]
  by_cases hj2 : j < k + xs.length
  ·rw [if_pos hj2,List.getElem?_append_left (by omega)]
  ·rw [if_neg hj2,List.getElem?_append_right (by omega),List.getElem?_drop]
   congr 1; omega
theorem run_storeCells {r o : Nat} {ty : TypeId} {fz : Nat × Nat} : ∀ (xs : List Value) (i : Nat) (c : Array Value) (w : World),
  w.heap[r]? = some (.cells c ty fz) → (∀ x ∈ xs,x.oneCell' = true) → o + i + xs.length ≤ c.size → (∀ j,o + i ≤ j → j < o + i + xs.length → ¬ (fz.1 ≤ j ∧ j < fz.2)) →
  ∃ w' c',(storeCells ⟨r,o,none⟩ xs i).run P w = .ok () w' ∧ Upd w r (.cells c' ty fz) w' ∧ c'.toList = c.toList.take (o + i) ++ xs ++ c.toList.drop (o + i + xs.length)
 | [],i,c,w,hb,_,_,_ => by
  refine ⟨w,c,by simp [storeCells],⟨rfl,hb,fun _ _ => rfl,rfl,rfl,rfl,Nat.le_refl _⟩,?_⟩
  simp
 | x :: xs,i,c,w,hb,h1,h2,h3 => by
  simp only [List.length_cons] at h2 h3
  have hlt : o + i < c.size := by omega
  have hadd : Addr.add ⟨r,o,none⟩ i = ⟨r,o + i,none⟩ := by unfold Addr.add; split <;> simp_all
  have hc : w.cell? ⟨r,o + i,none⟩ = some c[o + i] := by rw [cell_at hb]; simp [hlt]
  have hf : w.frozen? ⟨r,o + i,none⟩ = false := by
   have := h3 (o + i) (by omega) (by omega)
   simp only [World.frozen?,hb]
   obtain ⟨lo,hi⟩ := fz
   simp only at this ⊢
   simp; omega
  have hrs : r < w.heap.size := by
   rcases Nat.lt_or_ge r w.heap.size with h | h
   ·exact h
   ·simp [Array.getElem?_eq_none h] at hb
  have hset : (w.setCell ⟨r,o + i,none⟩ x).heap[r]? = some (.cells (c.setIfInBounds (o + i) x) ty fz) := by
   simp [World.setCell,Array.getElem?_modify,hb]
  have h4 : ∀ j,o + (i + 1) ≤ j → j < o + (i + 1) + xs.length → ¬ (fz.1 ≤ j ∧ j < fz.2) := fun j hj1 hj2 => h3 j (by omega) (by omega)
  obtain ⟨w',c',hr,hu,hl⟩ := run_storeCells xs (i + 1) (c.setIfInBounds (o + i) x) (w.setCell ⟨r,o + i,none⟩ x) hset (fun y hy => h1 y (List.mem_cons_of_mem _ hy))
   (by rw [Array.size_setIfInBounds]; omega) h4
  refine ⟨w',c',?_,?_,?_⟩
  ·simp only [storeCells,Sem.run_bind,hadd,run_store P w _ _ _ (h1 x (List.mem_cons_self ..)),hc,hf,Bool.false_eq_true,if_false,Result.andThen_ok]
   exact hr
  ·refine ⟨hu.size.trans (World.size_setCell _ _ _),hu.here,fun b hb' => ?_,hu.os,hu.output,hu.tape,hu.drawn⟩
   rw [hu.there b hb']
   simp [World.setCell,Array.getElem?_modify,Ne.symm hb']
  ·rw [hl]
   refine List.ext_getElem? fun j => ?_
   have e1 : o + (i + 1) = o + i + 1 := by omega
   rw [e1]
   rw [getElem?_splice (c.setIfInBounds (o + i) x).toList xs (o + i + 1) j (by simp; omega)]
   rw [getElem?_splice c.toList (x :: xs) (o + i) j (by simp; omega)]
   simp only [Array.toList_setIfInBounds,List.getElem?_set,Array.length_toList]
   have e2 : (x :: xs).length = xs.length + 1 := rfl
   by_cases a1 : j < o + i
   ·rw [if_pos (by omega),if_pos a1,if_neg (by omega)]
   ·rw [if_neg a1]
    by_cases a2 : j = o + i
    ·subst a2
     rw [if_pos (by omega),if_pos rfl,if_pos hlt,if_pos (by omega)]; simp
    ·rw [if_neg (by omega)]
     by_cases a3 : j < o + i + 1 + xs.length
     ·rw [if_pos a3,if_pos (by omega),show j - (o + i) = (j - (o + i + 1)) + 1 by omega,List.getElem?_cons_succ]
     ·rw [if_neg a3,if_neg (by omega),if_neg (by omega)]
end Go.AM
