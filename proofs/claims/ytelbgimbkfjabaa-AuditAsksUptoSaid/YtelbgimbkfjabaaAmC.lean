/- My own texts of the evaluator, its soundness and its symbolic runs, laid for this claim. -/
import Derived.Test.YtelbgimbkfjabaaAmB
set_option linter.unusedSimpArgs false
set_option linter.unusedVariables false
/-! The abstract machine: regions that draw their order, code, functions. -/
namespace Go.AM

mutual
def V.beq : V → V → Bool
  | .bool a, .bool b => a == b
  | .int k a, .int k' b => decide (k = k') && a == b
  | .str a, .str b => a == b
  | .ptr a, .ptr b => a == b
  | .slice a l c o, .slice a' l' c' o' => a == a' && l == l' && c == c' && o == o'
  | .map a, .map b => a == b
  | .func f fs cs, .func f' fs' cs' => f == f' && V.beqL fs fs' && V.beqL cs cs'
  | .yield a, .yield b => a == b
  | .nilFunc, .nilFunc => true
  | .iface t v, .iface t' v' => t == t' && V.beq v v'
  | .nilIface, .nilIface => true
  | .agg a, .agg b => V.beqL a b
  | .tup a, .tup b => V.beqL a b
  | _, _ => false
def V.beqL : List V → List V → Bool
  | [], [] => true
  | a :: r, b :: s => V.beq a b && V.beqL r s
  | _, _ => false
end

mutual
theorem V.eq_of_beq : ∀ (a b : V), V.beq a b = true → a = b
  | .bool a, b, h => by cases b <;> simp_all [V.beq]
  | .int k a, b, h => by cases b <;> simp_all [V.beq]
  | .str a, b, h => by cases b <;> simp_all [V.beq]
  | .ptr a, b, h => by cases b <;> simp_all [V.beq]
  | .slice a l c o, b, h => by cases b <;> simp_all [V.beq]
  | .map a, b, h => by cases b <;> simp_all [V.beq]
  | .func f fs cs, b, h => by
    cases b <;> simp [V.beq] at h
    obtain ⟨⟨h1, h2⟩, h3⟩ := h
    rw [h1, V.eqL_of_beqL _ _ h2, V.eqL_of_beqL _ _ h3]
  | .yield a, b, h => by cases b <;> simp_all [V.beq]
  | .nilFunc, b, h => by cases b <;> simp_all [V.beq]
  | .iface t v, b, h => by
    cases b <;> simp [V.beq] at h
    rw [h.1, V.eq_of_beq _ _ h.2]
  | .nilIface, b, h => by cases b <;> simp_all [V.beq]
  | .agg a, b, h => by
    cases b <;> simp [V.beq] at h
    rw [V.eqL_of_beqL _ _ h]
  | .tup a, b, h => by
    cases b <;> simp [V.beq] at h
    rw [V.eqL_of_beqL _ _ h]
  | .junk, b, h => by cases b <;> simp [V.beq] at h
theorem V.eqL_of_beqL : ∀ (a b : List V), V.beqL a b = true → a = b
  | [], b, h => by cases b <;> simp_all [V.beqL]
  | a :: r, b, h => by
    cases b <;> simp [V.beqL] at h
    rw [V.eq_of_beq _ _ h.1, V.eqL_of_beqL _ _ h.2]
end

structure Ent where
  T : List V
  h : H
  h' : H
  v : V
  act : Bool
  rd : Bool

def evDr (P : Program) (ap : Ap) : List O → List V → H → Option (List Ent × List V × H)
  | [], T, h => some ([], T, h)
  | o :: r, T, h =>
    if wantV T o.guard then
      match evK P T h o.op with
      | some (.pur v) => (evDr P ap r (putV T o.dst v) h).map fun (es, x) => (⟨T, h, h, v, false, false⟩ :: es, x)
      | some (.rd v) => (evDr P ap r (putV T o.dst v) h).map fun (es, x) => (⟨T, h, h, v, false, true⟩ :: es, x)
      | some (.eff v h') => (evDr P ap r (putV T o.dst v) h').map fun (es, x) => (⟨T, h, h', v, true, false⟩ :: es, x)
      | some (.call f args) => match ap f args h with
        | some (v, h') => (evDr P ap r (putV T o.dst v) h').map fun (es, x) => (⟨T, h, h', v, true, false⟩ :: es, x)
        | none => none
      | none => none
    else (evDr P ap r (putV T o.dst undefV) h).map fun (es, x) => (⟨T, h, h, undefV, false, false⟩ :: es, x)

def actsOf : List O → List Ent → Nat → List (Nat × Nat × H)
  | o :: r, e :: es, i => if e.act then (i, o.pre, e.h') :: actsOf r es (i + 1) else actsOf r es (i + 1)
  | _, _, _ => []

def chain : List (Nat × Nat × H) → Bool
  | [] => true
  | a :: r => r.all (fun b => b.2.1.testBit a.1) && chain r

def sameAt (P : Program) (o : O) (e : Ent) (h : H) : Bool :=
  match evK P e.T h o.op with
  | some (.rd v) => v.beq e.v
  | _ => false

def readsOk (P : Program) (o : O) (e : Ent) (i : Nat) (h : H) : List (Nat × Nat × H) → Bool
  | [] => sameAt P o e h
  | a :: r => ((o.pre.testBit a.1 || r.any (fun b => o.pre.testBit b.1)) || sameAt P o e h) && (a.2.1.testBit i || readsOk P o e i a.2.2 r)

def rdsOk (P : Program) (acts : List (Nat × Nat × H)) (h0 : H) : List O → List Ent → Nat → Bool
  | o :: r, e :: es, i => (!e.rd || readsOk P o e i h0 acts) && rdsOk P acts h0 r es (i + 1)
  | _, _, _ => true

def K.fl : K → Bool
  | .alloc .. | .box .. | .bslice .. => true
  | _ => false

def actsF : List O → List Ent → Nat → List (Nat × Nat × Bool)
  | o :: r, e :: es, i => if e.act then (i, o.pre, o.op.fl) :: actsF r es (i + 1) else actsF r es (i + 1)
  | _, _, _ => []

def chainF : List (Nat × Nat × Bool) → Bool
  | [] => true
  | a :: r => r.all (fun b => b.2.2 || b.2.1.testBit a.1) && chainF r

def floatOk (acts : List (Nat × Nat × Bool)) (ops : List O) : Bool :=
  ops.all fun o => acts.all fun p => !(p.2.2 && o.pre.testBit p.1) || acts.all fun a => !decide (a.1 < p.1) || o.pre.testBit a.1

def evDraw (P : Program) (ap : Ap) (ops : List O) (T : List V) (h : H) : Option (List V × H) :=
  match evDr P ap ops T h with
  | some (es, T', h') =>
    if (actsOf ops es 0).isEmpty || (chainF (actsF ops es 0) && floatOk (actsF ops es 0) ops && rdsOk P (actsOf ops es 0) h ops es 0) then some (T', h') else none
  | none => none

def zipSet : List V → List Nat → List V → List V
  | T, t :: ts, v :: vs => zipSet (T.set t v) ts vs
  | T, _, _ => T

def roOk (h : H) : Option Nat → Bool
  | none => true
  | some l => match h.get l with
    | some (.loop ..) => true
    | _ => false

def evC (P : Program) (ap : Ap) (n : Nat) (ro : Option Nat) : C → St → Option (Ex × St)
  | .skip, s => some (.nrm, s)
  | .region ops, (T, h) => (evOs P ap ops T h).map fun s => (.nrm, s)
  | .draw ops, (T, h) => (evDraw P ap ops T h).map fun s => (.nrm, s)
  | .seq a b, s => match evC P ap n ro a s with
    | some (.nrm, s') => evC P ap n ro b s'
    | r => r
  | .cond c a b, s => match c.ev s.1 with
    | some (.bool t) => if t then evC P ap n ro a s else evC P ap n ro b s
    | _ => none
  | .block id b, s => match evC P ap n ro b s with
    | some (.exit id', s') => if id' = id then some (.nrm, s') else some (.exit id', s')
    | r => r
  | .loop b, s => iter (evC P ap n ro b) n s
  | .exit id, s => some (.exit id, s)
  | .ret, s => some (.ret, s)
  | .bad, _ => none
  | .range f ps as b, (T, h) =>
    if roOk h ro then match f.ev T with
    | some (.func g fs cs) => match h.push (.loop .ready none T ps as b) with
      | some h1 => match ap (.func g fs cs) [.yield h.size] h1 with
        | some (_, h2) => match h2.get h.size with
          | some (.loop st pend T' ps' as' b') =>
            if st = .busy then none else
            let h3 := h2.set h.size (.loop .exhausted pend T' ps' as' b')
            match pend with
            | none => some (.nrm, (T, h3))
            | some .ret => some (.ret, (T, h3))
            | some (.exit id) => some (.exit id, (T, h3))
            | some _ => none
          | _ => none
        | none => none
      | none => none
    | _ => none
    else none

inductive RV where
  | t (i : Nat)
  | c (a n : Nat) (agg : Bool)

structure Fn where
  ntmps : Nat
  results : List RV
  body : C

structure Env where
  fns : Nat → Option Fn
  prim : Nat → Option (List V → H → Option (V × H))

def resV (T : List V) (h : H) : RV → Option V
  | .t i => T[i]?
  | .c a n agg => match T[a]? with
    | some (.ptr (some (i, o))) => match h.get i with
      | some (.cells vs _ _ _ _) => if agg then (if o + n ≤ vs.length then some (.agg (getR vs o n)) else none) else vs[o]?
      | _ => none
    | _ => none

def resVs (T : List V) (h : H) : List RV → Option (List V)
  | [] => some []
  | r :: rs => match resV T h r, resVs T h rs with
    | some v, some vs => some (v :: vs)
    | _, _ => none

def oneOr : List V → V
  | [v] => v
  | vs => .tup vs

def evFn (P : Program) (ap : Ap) (n : Nat) (fn : Fn) (args : List V) (h : H) : Option (V × H) :=
  if args.length ≤ fn.ntmps then
    match evC P ap n none fn.body (args ++ List.replicate (fn.ntmps - args.length) undefV, h) with
    | some (.nrm, (T', h')) => (resVs T' h' fn.results).map fun vs => (oneOr vs, h')
    | some (.ret, (T', h')) => (resVs T' h' fn.results).map fun vs => (oneOr vs, h')
    | _ => none
  else none

def evRound (P : Program) (ap : Ap) (n : Nat) (l : Nat) (args : List V) (h : H) : Option (V × H) :=
  match h.get l with
  | some (.loop _ _ T ps as b) =>
    if args.length = ps.length then
      match evC P ap n (some l) as (zipSet T ps args, h) with
      | some (.nrm, (T1, h1)) => match h1.get l with
        | some (.loop .ready pend T ps as b') =>
          match evC P ap n (some l) b (T1, h1.set l (.loop .busy pend T ps as b')) with
          | some (ex, (_, h2)) => match h2.get l with
            | some (.loop _ _ T ps as b') =>
              match ex with
              | .nrm => some (.bool true, h2.set l (.loop .ready none T ps as b'))
              | .ret => some (.bool false, h2.set l (.loop .done (some .ret) T ps as b'))
              | .exit id => some (.bool false, h2.set l (.loop .done (some (.exit id)) T ps as b'))
            | _ => none
          | none => none
        | _ => none
      | _ => none
    else none
  | _ => none

def ap (P : Program) (E : Env) : Nat → Ap
  | 0 => fun _ _ _ => none
  | n + 1 => fun f args h =>
    match f with
    | .func f fs cs => match E.prim f with
      | some g => g (fs ++ args ++ cs) h
      | none => match E.fns f with
        | some fn => evFn P (ap P E n) n fn (fs ++ args ++ cs) h
        | none => none
    | .yield l => evRound P (ap P E n) n l args h
    | _ => none
end Go.AM
