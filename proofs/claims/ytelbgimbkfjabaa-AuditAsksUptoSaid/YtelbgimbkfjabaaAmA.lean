/- My own texts of the evaluator, its soundness and its symbolic runs, laid for this claim. -/
import Derived.RangeFuncLeaves
import Derived.RangeFuncCalls
import Derived.OrdersIn
import Derived.KernelRfl
set_option linter.unusedSimpArgs false
set_option linter.unusedVariables false
/-! The abstract machine: values, objects, heap, the compiled code. -/
namespace Go.AM

inductive V where
  | bool (b : Bool)
  | int (k : IntKind) (n : Int)
  | str (s : List UInt8)
  | ptr (a : Option (Nat × Nat))
  | slice (a : Option (Nat × Nat)) (len cap : Nat) (opn : Bool)
  | map (r : Option Nat)
  | func (f : Nat) (fs cs : List V)
  | yield (l : Nat)
  | nilFunc
  | iface (t : Nat) (v : V)
  | nilIface
  | agg (cs : List V)
  | tup (vs : List V)
  | junk
  deriving Inhabited

inductive EqT where
  | bool | int | str | ptr | sl | mp | fn | ifc
  | fnil
  | fcons (off size : Nat) (agg : Bool) (e rest : EqT)
  | ar (len size : Nat) (agg : Bool) (e : EqT)
  deriving Inhabited

inductive A where
  | t (i : Nat)
  | k (v : V)
  deriving Inhabited

inductive K where
  | mv (a : A)
  | pick (c a b : A)
  | alloc (ty : Nat) (z : List V)
  | box (ty : Nat) (a : A)
  | build (z : List V) (ps : List (Nat × Nat × A))
  | bslice (ty len : Nat) (z : List V) (ps : List (Nat × Nat × A))
  | load1 (a : A)
  | loadN (n : Nat) (a : A)
  | store (n : Nat) (a v : A)
  | nilck (a : A)
  | bin (op : BinOp) (eq : Option EqT) (lit : Bool) (x y : A)
  | un (op : UnOp) (x : A)
  | cvt (k : IntKind) (x : A)
  | s2b (ty : Nat) (x : A)
  | b2s (x : A)
  | mkI (ty : Nat) (x : A)
  | mkF (f : Nat) (fs cs : List A)
  | mkMap
  | mkSlice (ty bytes : Nat) (z : List V) (len cap : A)
  | slS (x : A) (lo hi : Option A)
  | slL (size : Nat) (x : A) (lo hi mx : Option A)
  | fadr (off : Nat) (x : A)
  | iadrL (size : Nat) (x i : A)
  | iadrA (len size : Nat) (x i : A)
  | fld (off size : Nat) (agg : Bool) (x : A)
  | idxA (len size : Nat) (agg : Bool) (x i : A)
  | idxS (x i : A)
  | lookup (kt : EqT) (z : V) (ok : Bool) (m k : A)
  | mapUpd (kt : EqT) (m k v : A)
  | mapDel (kt : EqT) (m k : A)
  | rng (isStr : Bool) (x : A)
  | next (isStr : Bool) (x : A)
  | entry (x : A)
  | extract (x : A) (i : Nat)
  | lenS (x : A)
  | lenL (x : A)
  | lenM (x : A)
  | app (ty size bytes : Nat) (s x : A)
  | copy (size : Nat) (d s : A)
  | minmax (mx : Bool) (xs : List A)
  | call (f : A) (args : List A)
  | bad
  | slA (n size : Nat) (x : A) (lo hi mx : Option A)
  | capL (x : A)
  | appZ (ty size bytes : Nat) (z : List V) (s x : A)
  | i2s (x : A)
  | sid (x : A)
  | same (x : A)
  | p2u (x : A)
  | u2p (u : Nat) (x : A)
  | usd (x : A)
  | ustr (u : Nat) (x n : A)
  | mkNZ (ty : Nat) (x : A)
  | tass (ty : Nat) (z : V) (ok : Bool) (x : A)
  | inv (name : String) (x : A) (args : List A)
  | mlit (kt : EqT) (es : List (V × V × Nat)) (z : V) (ok : Bool) (x : A)
  deriving Inhabited

structure O where
  dst : Option Nat
  op : K
  guard : Option (Nat × Bool)
  pre : Nat      -- which operations of the region come ahead of it, as bits
  names : List Nat
  deriving Inhabited

inductive C where
  | skip
  | region (ops : List O)
  | draw (ops : List O)
  | seq (a b : C)
  | cond (c : A) (thn els : C)
  | block (id : Nat) (body : C)
  | loop (body : C)
  | range (f : A) (params : List Nat) (assign body : C)
  | exit (id : Nat)
  | ret
  | bad
  deriving Inhabited

inductive Obj where
  | cells (vs : List V) (ty : Nat) (opn ro : Bool) (fz : Option Nat)
  | map (es : List (V × V × Nat)) (clock : Nat)
  | mapIter (m : Option Nat) (since : Nat) (seen : List Nat) (stepped : Nat)
  | strIter (s : List UInt8) (pos : Nat)
  | loop (st : LoopState) (pending : Option C) (tmps : List V) (params : List Nat) (assign body : C)
  | dead
  deriving Inhabited

/-! ### the heap -/
inductive Tr where
  | nil
  | node (o : Option Obj) (l r : Tr)
  deriving Inhabited

def Tr.get : Nat → Tr → Nat → Option Obj
  | f + 1, .node o l r, i => if i = 0 then o else if i % 2 = 1 then l.get f ((i - 1) / 2) else r.get f ((i - 1) / 2)
  | _, _, _ => none

def Tr.set : Nat → Tr → Nat → Obj → Tr
  | 0, t, _, _ => t
  | f + 1, .node x l r, i, o => if i = 0 then .node (some o) l r else if i % 2 = 1 then .node x (l.set f ((i - 1) / 2) o) r else .node x l (r.set f ((i - 1) / 2) o)
  | f + 1, .nil, i, o => if i = 0 then .node (some o) .nil .nil else if i % 2 = 1 then .node none (Tr.set f .nil ((i - 1) / 2) o) .nil else .node none .nil (Tr.set f .nil ((i - 1) / 2) o)

theorem Tr.get_nil (f i : Nat) : Tr.nil.get f i = none := by cases f <;> rfl

theorem Tr.set_nil (f : Nat) (i : Nat) (o : Obj) : Tr.nil.set f i o = (Tr.node none .nil .nil).set f i o ∨ f = 0 := by
  cases f with
  | zero => exact .inr rfl
  | succ f => exact .inl (by simp only [Tr.set])

theorem Tr.get_set (f : Nat) : ∀ (g : Nat) (t : Tr) (i j : Nat) (o : Obj), i < f → j < g → (t.set f i o).get g j = if i = j then some o else t.get g j := by
  induction f with
  | zero => intro g t i j o hi; omega
  | succ f ih =>
    intro g t i j o hi hj
    obtain ⟨g, rfl⟩ : ∃ g', g = g' + 1 := ⟨g - 1, by omega⟩
    have key : ∀ x (l r : Tr), ((Tr.node x l r).set (f + 1) i o).get (g + 1) j = if i = j then some o else (Tr.node x l r).get (g + 1) j := by
      intro x l r
      by_cases hi0 : i = 0
      · subst hi0
        by_cases hj0 : j = 0
        · subst hj0; simp [Tr.set, Tr.get]
        · have hne : 0 ≠ j := fun h => hj0 h.symm
          simp [Tr.set, Tr.get, hj0, hne]
      · have hif : (i - 1) / 2 < f := by omega
        by_cases hj0 : j = 0
        · subst hj0
          by_cases hp : i % 2 = 1 <;> simp [Tr.set, Tr.get, hi0, hp]
        · have hjg : (j - 1) / 2 < g := by omega
          by_cases hp : i % 2 = 1 <;> by_cases hq : j % 2 = 1
          · simp only [Tr.set, Tr.get, hi0, hj0, hp, hq, if_true, if_false]
            rw [ih _ _ _ _ _ hif hjg]
            by_cases e : i = j
            · subst e; simp
            · rw [if_neg e, if_neg (by omega)]
          · simp only [Tr.set, Tr.get, hi0, hj0, hp, hq, if_true, if_false]
            rw [if_neg (by omega)]
          · simp only [Tr.set, Tr.get, hi0, hj0, hp, hq, if_true, if_false]
            rw [if_neg (by omega)]
          · simp only [Tr.set, Tr.get, hi0, hj0, hp, hq, if_false]
            rw [ih _ _ _ _ _ hif hjg]
            by_cases e : i = j
            · subst e; simp
            · rw [if_neg e, if_neg (by omega)]
    cases t with
    | node x l r => exact key x l r
    | nil =>
      rcases Tr.set_nil (f + 1) i o with h | h
      · rw [h, key none .nil .nil]
        by_cases e : i = j
        · simp [e]
        · rw [if_neg e, if_neg e]
          simp only [Tr.get, Tr.get_nil, ite_self]
      · omega

structure H where
  size : Nat
  t : Tr
  deriving Inhabited

def H.get (h : H) (i : Nat) : Option Obj := if i < h.size then h.t.get (i + 1) i else none
def H.set (h : H) (i : Nat) (o : Obj) : H := { h with t := h.t.set (i + 1) i o }
def H.psh (h : H) (o : Obj) : H := { size := h.size + 1, t := h.t.set (h.size + 1) h.size o }
def H.push (h : H) (o : Obj) : Option H := some (h.psh o)
def H.ok (_ : H) : Prop := True

theorem H.get_set {h : H} (_ : h.ok) {i j : Nat} {o : Obj} (hi : i < h.size) : (h.set i o).get j = if i = j then some o else h.get j := by
  unfold H.get H.set
  by_cases hj : j < h.size
  · simp only [hj, if_true]; exact Tr.get_set _ _ _ _ _ _ (by omega) (by omega)
  · simp only [hj, if_false]
    by_cases e : i = j
    · omega
    · simp [e]
theorem H.get_psh (h : H) (o : Obj) (j : Nat) : (h.psh o).get j = if j = h.size then some o else h.get j := by
  unfold H.get H.psh
  by_cases hj : j < h.size
  · have : j ≠ h.size := by omega
    have h1 : j < h.size + 1 := by omega
    simp only [hj, this, h1, if_true, if_false]
    rw [Tr.get_set _ _ _ _ _ _ (by omega) (by omega)]
    simp [Ne.symm this]
  · by_cases e : j = h.size
    · subst e
      simp only [Nat.lt_succ_self, if_true]
      rw [Tr.get_set _ _ _ _ _ _ (by omega) (by omega)]; simp
    · have h1 : ¬ j < h.size + 1 := by omega
      simp [hj, e, h1]
theorem H.get_push {h h' : H} {o : Obj} (hp : h.push o = some h') (j : Nat) : h'.get j = if j = h.size then some o else h.get j := by
  unfold H.push at hp
  cases hp
  exact H.get_psh h o j
theorem H.size_push {h h' : H} {o : Obj} (hp : h.push o = some h') : h'.size = h.size + 1 ∧ h'.ok := by
  unfold H.push at hp
  cases hp
  exact ⟨rfl, trivial⟩
theorem H.set_size (h : H) (i : Nat) (o : Obj) : (h.set i o).size = h.size := rfl
theorem H.set_ok {h : H} (hk : h.ok) (i : Nat) (o : Obj) : (h.set i o).ok := hk
theorem H.get_lt {h : H} {i : Nat} {o : Obj} (hg : h.get i = some o) : i < h.size := by
  unfold H.get at hg; split at hg
  · assumption
  · cases hg
def H.lay (size : Nat) (l : List (Nat × Obj)) : H := l.foldl (fun h x => h.set x.1 x.2) { size := size, t := .nil }
end Go.AM
