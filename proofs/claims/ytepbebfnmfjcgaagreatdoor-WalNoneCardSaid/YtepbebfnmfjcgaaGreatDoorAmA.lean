/- My own text of the evaluator and its soundness (abstract machine), laid for this claim. -/
import Derived.RangeFuncLeaves
import Derived.RangeFuncCalls
import Derived.OrdersIn
import Derived.KernelRfl
/-! The abstract machine: values, objects, heap, the compiled code. -/
namespace Go.AM

/-- Abstract values: a pointer names an abstract block. -/
inductive V where
  | bool (b : Bool)
  | int (k : IntKind) (n : Int)
  | str (s : List UInt8)
  | ptr (a : Option (Nat × Nat))
  | slice (a : Option (Nat × Nat)) (len cap : Nat) (opn : Bool)
  | map (r : Option Nat)
  | func (f : Nat) (fs cs : List V)
  | yield (l : Nat)
  | nilFunc
  | iface (t : Nat) (v : V)
  | nilIface
  | agg (cs : List V)
  | tup (vs : List V)
  | junk
  deriving Inhabited

/-- How types are compared. -/
inductive EqT where
  | bool | int | str | ptr | sl | mp | fn | ifc
  | fnil
  | fcons (off size : Nat) (agg : Bool) (e rest : EqT)
  | ar (len size : Nat) (agg : Bool) (e : EqT)
  deriving Inhabited

inductive A where
  | t (i : Nat)
  | k (v : V)
  deriving Inhabited

inductive K where
  | mv (a : A)
  | pick (c a b : A)
  | alloc (ty : Nat) (z : List V)
  | box (ty : Nat) (a : A)
  | build (z : List V) (ps : List (Nat × Nat × A))
  | bslice (ty len : Nat) (z : List V) (ps : List (Nat × Nat × A))
  | load1 (a : A)
  | loadN (n : Nat) (a : A)
  | store (n : Nat) (a v : A)
  | nilck (a : A)
  | bin (op : BinOp) (eq : Option EqT) (lit : Bool) (x y : A)
  | un (op : UnOp) (x : A)
  | cvt (k : IntKind) (x : A)
  | s2b (ty : Nat) (x : A)
  | b2s (x : A)
  | mkI (ty : Nat) (x : A)
  | mkF (f : Nat) (fs cs : List A)
  | mkMap
  | mkSlice (ty bytes : Nat) (z : List V) (len cap : A)
  | slS (x : A) (lo hi : Option A)
  | slL (size : Nat) (x : A) (lo hi mx : Option A)
  | fadr (off : Nat) (x : A)
  | iadrL (size : Nat) (x i : A)
  | iadrA (len size : Nat) (x i : A)
  | fld (off size : Nat) (agg : Bool) (x : A)
  | idxA (len size : Nat) (agg : Bool) (x i : A)
  | idxS (x i : A)
  | lookup (kt : EqT) (z : V) (ok : Bool) (m k : A)
  | mapUpd (kt : EqT) (m k v : A)
  | mapDel (kt : EqT) (m k : A)
  | rng (isStr : Bool) (x : A)
  | next (isStr : Bool) (x : A)
  | entry (x : A)
  | extract (x : A) (i : Nat)
  | lenS (x : A)
  | lenL (x : A)
  | lenM (x : A)
  | app (ty size bytes : Nat) (s x : A)
  | copy (size : Nat) (d s : A)
  | minmax (mx : Bool) (xs : List A)
  | call (f : A) (args : List A)
  | bad
  | slA (n size : Nat) (x : A) (lo hi mx : Option A)
  | capL (x : A)
  | appZ (ty size bytes : Nat) (z : List V) (s x : A)
  | i2s (x : A)
  | sid (x : A)
  | same (x : A)
  | p2u (x : A)
  | u2p (u : Nat) (x : A)
  | usd (x : A)
  | ustr (u : Nat) (x n : A)
  | mkNZ (ty : Nat) (x : A)
  deriving Inhabited

structure O where
  dst : Option Nat
  op : K
  guard : Option (Nat × Bool)
  pre : Nat      -- which operations of the region come ahead of it, as bits
  names : List Nat
  deriving Inhabited

inductive C where
  | skip
  | region (ops : List O)
  | draw (ops : List O)
  | seq (a b : C)
  | cond (c : A) (thn els : C)
  | block (id : Nat) (body : C)
  | loop (body : C)
  | range (f : A) (params : List Nat) (assign body : C)
  | exit (id : Nat)
  | ret
  | bad
  deriving Inhabited

inductive Obj where
  | cells (vs : List V) (ty : Nat) (opn ro : Bool) (fz : Option Nat)
  | map (es : List (V × V × Nat)) (clock : Nat)
  | mapIter (m : Option Nat) (since : Nat) (seen : List Nat) (stepped : Nat)
  | strIter (s : List UInt8) (pos : Nat)
  | loop (st : LoopState) (pending : Option C) (tmps : List V) (params : List Nat) (assign body : C)
  | dead
  deriving Inhabited

/-! ### the heap -/
inductive Tr where
  | nil
  | leaf (o : Obj)
  | node (l r : Tr)
  deriving Inhabited

def Tr.get : Nat → Tr → Nat → Option Obj
  | 0, .leaf o, _ => some o
  | d + 1, .node l r, i => if i % 2 = 0 then l.get d (i / 2) else r.get d (i / 2)
  | _, _, _ => none

def Tr.set : Nat → Tr → Nat → Obj → Tr
  | 0, _, _, o => .leaf o
  | d + 1, .node l r, i, o => if i % 2 = 0 then .node (l.set d (i / 2) o) r else .node l (r.set d (i / 2) o)
  | d + 1, _, i, o => if i % 2 = 0 then .node (Tr.set d .nil (i / 2) o) .nil else .node .nil (Tr.set d .nil (i / 2) o)

theorem Tr.get_nil (d i : Nat) : Tr.nil.get d i = none := by cases d <;> rfl

theorem Tr.get_set (d : Nat) : ∀ (t : Tr) (i j : Nat) (o : Obj), i < 2 ^ d → j < 2 ^ d → (t.set d i o).get d j = if i = j then some o else t.get d j := by
  induction d with
  | zero =>
    intro t i j o hi hj
    have : i = j := by simp at hi hj; omega
    subst this
    cases t <;> simp [Tr.set, Tr.get]
  | succ d ih =>
    intro t i j o hi hj
    have hi' : i / 2 < 2 ^ d := by rw [Nat.pow_succ] at hi; omega
    have hj' : j / 2 < 2 ^ d := by rw [Nat.pow_succ] at hj; omega
    have hij : i = j ↔ (i % 2 = j % 2 ∧ i / 2 = j / 2) := by omega
    have key : ∀ (l r : Tr), ((if i % 2 = 0 then Tr.node (l.set d (i / 2) o) r else Tr.node l (r.set d (i / 2) o)) : Tr).get (d + 1) j = if i = j then some o else (Tr.node l r).get (d + 1) j := by
      intro l r
      by_cases h1 : i % 2 = 0 <;> by_cases h2 : j % 2 = 0 <;> simp only [h1, h2, Tr.get, if_true, if_false]
      · rw [ih _ _ _ _ hi' hj']
        by_cases h3 : i / 2 = j / 2
        · rw [if_pos h3, if_pos (by omega)]
        · rw [if_neg h3, if_neg (by omega)]
      · rw [if_neg (by omega)]
      · rw [if_neg (by omega)]
      · rw [ih _ _ _ _ hi' hj']
        by_cases h3 : i / 2 = j / 2
        · rw [if_pos h3, if_pos (by omega)]
        · rw [if_neg h3, if_neg (by omega)]
    have hn : (Tr.node .nil .nil).get (d + 1) j = none := by simp only [Tr.get, Tr.get_nil, ite_self]
    cases t with
    | node l r => exact key l r
    | nil => have := key .nil .nil; rw [hn] at this; simpa only [Tr.set, Tr.get] using this
    | leaf x => have := key .nil .nil; rw [hn] at this; simpa only [Tr.set, Tr.get] using this

def depth : Nat := 20

structure H where
  size : Nat
  t : Tr
  deriving Inhabited

def H.get (h : H) (i : Nat) : Option Obj := if i < h.size then h.t.get depth i else none
def H.set (h : H) (i : Nat) (o : Obj) : H := { h with t := h.t.set depth i o }
def H.push (h : H) (o : Obj) : Option H := if h.size < 2 ^ depth then some { size := h.size + 1, t := h.t.set depth h.size o } else none
def H.ok (h : H) : Prop := h.size ≤ 2 ^ depth

theorem H.get_set {h : H} (hk : h.ok) {i j : Nat} {o : Obj} (hi : i < h.size) : (h.set i o).get j = if i = j then some o else h.get j := by
  unfold H.ok at hk
  unfold H.get H.set
  by_cases hj : j < h.size
  · simp only [hj, if_true]; exact Tr.get_set depth _ _ _ _ (by omega) (by omega)
  · simp only [hj, if_false]
    by_cases e : i = j
    · omega
    · simp [e]
theorem H.get_push {h h' : H} {o : Obj} (hp : h.push o = some h') (j : Nat) : h'.get j = if j = h.size then some o else h.get j := by
  unfold H.push at hp
  split at hp
  · rename_i hlt
    cases hp
    unfold H.get
    by_cases hj : j < h.size
    · have : j ≠ h.size := by omega
      have h1 : j < h.size + 1 := by omega
      simp only [hj, this, h1, if_true, if_false]
      rw [Tr.get_set depth _ _ _ _ (by omega) (by omega)]
      simp [Ne.symm this]
    · by_cases e : j = h.size
      · subst e
        simp only [Nat.lt_succ_self, if_true]
        rw [Tr.get_set depth _ _ _ _ (by omega) (by omega)]; simp
      · have h1 : ¬ j < h.size + 1 := by omega
        simp [hj, e, h1]
  · cases hp
theorem H.size_push {h h' : H} {o : Obj} (hp : h.push o = some h') : h'.size = h.size + 1 ∧ h'.ok := by
  unfold H.push at hp
  split at hp
  · cases hp; refine ⟨rfl, ?_⟩; unfold H.ok; simp only; omega
  · cases hp
theorem H.set_size (h : H) (i : Nat) (o : Obj) : (h.set i o).size = h.size := rfl
theorem H.set_ok {h : H} (hk : h.ok) (i : Nat) (o : Obj) : (h.set i o).ok := hk
theorem H.get_lt {h : H} {i : Nat} {o : Obj} (hg : h.get i = some o) : i < h.size := by
  unfold H.get at hg; split at hg
  · assumption
  · cases hg
end Go.AM
