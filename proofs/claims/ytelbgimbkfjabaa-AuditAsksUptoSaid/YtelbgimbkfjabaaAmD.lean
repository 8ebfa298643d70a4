/- My own texts of the evaluator, its soundness and its symbolic runs, laid for this claim. -/
import Derived.Test.YtelbgimbkfjabaaAmC
set_option linter.unusedSimpArgs false
set_option linter.unusedVariables false
/-! The abstract machine: a program's code, compiled. -/
namespace Go.AM

def vOf : Nat → Value → Option V
  | 0, _ => none
  | d + 1, v =>
    match v with
    | .bool b => some (.bool b)
    | .int k n => some (.int k n)
    | .string s => some (.str s.data.toList)
    | .pointer none => some (.ptr none)
    | .slice none l c => some (.slice none l c false)
    | .map none => some (.map none)
    | .nilFunc => some .nilFunc
    | .nilIface => some .nilIface
    | .iface t x => (vOf d x).map (.iface t)
    | .agg cs => (cs.toList.mapM (vOf d)).map .agg
    | .tuple cs => (cs.toList.mapM (vOf d)).map .tup
    | .func (.func f) fs cs => match fs.toList.mapM (vOf d), cs.toList.mapM (vOf d) with
      | some fs, some cs => some (.func f fs cs)
      | _, _ => none
    | _ => none

section
variable (P : Program)

def cA : Operand → Option A
  | .tmp t => some (.t t)
  | .const v => (vOf 64 v).map .k
  | .global g => if g < P.globals.size then some (.k (.ptr (some (g, 0)))) else none
  | .func f => some (.k (.func f [] []))

def cAo : Option Operand → Option (Option A)
  | none => some none
  | some x => (cA P x).map some

def aggT (t : TypeId) : Bool :=
  match P.underlying t with
  | some (.struct _) | some (.array _ _) => true
  | _ => false

def sizeT (t : TypeId) : Option Nat :=
  match P.info? t, P.underlying t with
  | some i, some _ => some i.size
  | _, _ => none

def zeroT (t : TypeId) : Option V := ((P.info? t).bind (·.zero)).bind (vOf 64)

def eqFields (f : TypeId → Option EqT) : List Field → Option EqT
  | [] => some .fnil
  | x :: r => match eqFields f r with
    | none => none
    | some rest =>
      if x.name = "_" then some rest else
      match f x.type, sizeT P x.type with
      | some e, some s => some (.fcons x.offset s (aggT P x.type) e rest)
      | _, _ => none

def eqT : Nat → TypeId → Option EqT
  | 0, _ => none
  | d + 1, t =>
    match P.underlying t with
    | some .bool => some .bool
    | some (.int _) => some .int
    | some .string => some .str
    | some (.pointer e) => match sizeT P e with
      | some (_ + 1) => some .ptr
      | _ => none
    | some (.slice _) => some .sl
    | some (.map _ _) => some .mp
    | some (.func _ _ _) => some .fn
    | some (.interface _) => some .ifc
    | some (.struct fs) => if P.stoodInHeld t then none else eqFields P (eqT d) fs.toList
    | some (.array len e) => match eqT d e, sizeT P e with
      | some q, some s => some (.ar len s (aggT P e) q)
      | _, _ => none
    | _ => none

def eqTop (t : TypeId) : Option EqT :=
  if aggT P t && P.eqGuardType P.depth t then none else eqT P 40 t

def keyT (t : TypeId) : Option EqT :=
  match P.underlying t with
  | some .bool => some .bool
  | some (.int _) => some .int
  | some .string => some .str
  | _ => none

def cParts (f : Nat → Option (Nat × Nat)) : List (Nat × Operand) → Option (List (Nat × Nat × A))
  | [] => some []
  | (i, x) :: r => match f i, cA P x, cParts f r with
    | some (o, s), some a, some l => some ((o, s, a) :: l)
    | _, _, _ => none

def cAs : List Operand → Option (List A)
  | [] => some []
  | x :: r => match cA P x, cAs r with
    | some a, some l => some (a :: l)
    | _, _ => none

def isLit : Operand → Bool
  | .const _ => true
  | _ => false

def cBuiltin (b : Builtin) (args : List Operand) (tys : List TypeId) : Option K :=
  match b, args, tys with
  | .len, [x], [t] => match P.underlying t, cA P x with
    | some .string, some a => some (.lenS a)
    | some (.slice _), some a => some (.lenL a)
    | some (.map _ _), some a => some (.lenM a)
    | some (.array n _), _ => some (.mv (.k (.int .i64 n)))
    | some (.pointer arr), _ => match P.underlying arr with
      | some (.array n _) => some (.mv (.k (.int .i64 n)))
      | _ => none
    | _, _ => none
  | .append, [s, x], [t, u] => match P.underlying t, P.underlying u, cA P s, cA P x with
    | some (.slice e), some d, some s, some x => match d with
      | .int _ => match P.info? e, zeroT P e with
        | some i, some z => if z.cells.length = i.size then some (.appZ e i.size i.bytes z.cells s x) else none
        | _, _ => none
      | _ => match P.info? e, zeroT P e with
        | some i, some z => if z.cells.length = i.size then some (.app e i.size i.bytes s x) else none
        | _, _ => none
    | _, _, _, _ => none
  | .copy, [s, x], t :: _ => match P.underlying t, cA P s, cA P x with
    | some (.slice e), some s, some x => (sizeT P e).map fun z => .copy z s x
    | _, _, _ => none
  | .delete, [m, k], t :: _ => match P.underlying t, cA P m, cA P k with
    | some (.map kt _), some m, some k => (keyT P kt).map fun q => .mapDel q m k
    | _, _, _ => none
  | .cap, [x], [t] => match P.underlying t, cA P x with
    | some (.slice _), some a => some (.capL a)
    | _, _ => none
  | .unsafeSliceData, [x], _ => (cA P x).map .usd
  | .unsafeString, [x, n], t :: _ => match P.underlying t, cA P x, cA P n with
    | some (.pointer e), some x, some n => if sizeT P e = some 1 then some (.ustr e x n) else none
    | _, _, _ => none
  | .min, args, _ => (cAs P args).map (.minmax false)
  | .max, args, _ => (cAs P args).map (.minmax true)
  | _, _, _ => none

def cK (op : Op) : Option K :=
  match op with
  | .move x | .assign x => (cA P x).map .mv
  | .pick c a b => match cA P c, cA P a, cA P b with
    | some c, some a, some b => some (.pick c a b)
    | _, _, _ => none
  | .alloc e => (zeroT P e).map fun z => .alloc e z.cells
  | .box e x => (cA P x).map (.box e)
  | .build t parts => match P.underlying t, zeroT P t with
    | some (.struct fs), some z =>
      if fs.toList.all (fun f => (sizeT P f.type).isSome) then
        (cParts P (fun i => (fs[i]?).bind fun f => (sizeT P f.type).map fun s => (f.offset, s)) parts.toList).map (.build z.cells)
      else none
    | some (.array _ e), some z => match sizeT P e with
      | some s => (cParts P (fun i => some (i * s, s)) parts.toList).map (.build z.cells)
      | none => none
    | _, _ => none
  | .buildSlice t len parts => match P.underlying t with
    | some (.slice e) => match sizeT P e, zeroT P e with
      | some s, some z =>
        if len * s ≤ 16777216 ∧ z.cells.length = s then
          (cParts P (fun i => some (i * s, s)) parts.toList).map (.bslice e len (List.replicate len z.cells).flatten)
        else none
      | _, _ => none
    | _ => none
  | .load t a => match cA P a, sizeT P t with
    | some a, some s => if aggT P t then some (.loadN s a) else some (.load1 a)
    | _, _ => none
  | .store t a v => match cA P a, cA P v, sizeT P t with
    | some a, some v, some s => some (.store s a v)
    | _, _, _ => none
  | .nilCheck x => (cA P x).map .nilck
  | .binOp op t x y _ => match cA P x, cA P y with
    | some a, some b => some (.bin op (eqTop P t) (isLit x || isLit y) a b)
    | _, _ => none
  | .unOp op _ x => (cA P x).map (.un op)
  | .convert s d x => match P.underlying s, P.underlying d, cA P x with
    | some (.int _), some (.int k), some a => some (.cvt k a)
    | some (.int _), some .string, some a => some (.i2s a)
    | some (.slice e), some (.slice e'), some a => if s = d ∧ e = e' then match P.underlying e with
      | some (.int .u8) => some (.same a)
      | _ => none else none
    | some (.pointer e), some .unsafePointer, some a => if (sizeT P e).getD 0 = 0 then none else some (.p2u a)
    | some .unsafePointer, some (.pointer e), some a => if (sizeT P e).getD 0 = 0 then none else some (.u2p e a)
    | some .string, some .string, some a => some (.sid a)
    | some .string, some (.slice e), some a => match P.underlying e with
      | some (.int .u8) => if sizeT P e = some 1 then some (.s2b e a) else none
      | _ => none
    | some (.slice e), some .string, some a => match P.underlying e with
      | some (.int .u8) => some (.b2s a)
      | _ => none
    | _, _, _ => none
  | .makeInterface t x => match P.underlying t, cA P x with
    | some (.interface _), _ => none
    | some _, some a => some (.mkI t a)
    | _, _ => none
  | .makeFunc (.func f) fs cs => match cAs P fs.toList, cAs P cs.toList with
    | some fs, some cs => some (.mkF f fs cs)
    | _, _ => none
  | .makeMap t r => match r, P.underlying t with
    | none, _ => some .mkMap
    | some (.const (.int _ _)), some (.map _ _) => some .mkMap
    | _, _ => none
  | .makeSlice t l c => match P.underlying t, cA P l, cA P c with
    | some (.slice e), some l, some c => match P.info? e, zeroT P e with
      | some i, some z => if z.cells.length = i.size then some (.mkSlice e i.bytes z.cells l c) else none
      | _, _ => none
    | _, _, _ => none
  | .slice t x lo hi mx => match P.underlying t, cA P x, cAo P lo, cAo P hi, cAo P mx with
    | some .string, some x, some lo, some hi, some none => some (.slS x lo hi)
    | some (.slice e), some x, some lo, some hi, some mx => (sizeT P e).map fun s => .slL s x lo hi mx
    | some (.array n e), some x, some lo, some hi, some mx => (sizeT P e).map fun s => .slA n s x lo hi mx
    | _, _, _, _, _ => none
  | .fieldAddr s x f => match P.underlying s, cA P x with
    | some (.struct fs), some a => match fs[f]? with
      | some fd => match sizeT P fd.type with
        | some (_ + 1) => some (.fadr fd.offset a)
        | _ => none
      | none => none
    | _, _ => none
  | .indexAddr t x i => match P.underlying t, cA P x, cA P i with
    | some (.slice e), some x, some i => (sizeT P e).map fun s => .iadrL s x i
    | some (.array n e), some x, some i => (sizeT P e).map fun s => .iadrA n s x i
    | _, _, _ => none
  | .field t x f => match P.underlying t, cA P x with
    | some (.struct fs), some a => match fs[f]? with
      | some fd => (sizeT P fd.type).map fun s => .fld fd.offset s (aggT P fd.type) a
      | none => none
    | _, _ => none
  | .index t x i => match P.underlying t, cA P x, cA P i with
    | some (.array n e), some x, some i => (sizeT P e).map fun s => .idxA n s (aggT P e) x i
    | some .string, some x, some i => some (.idxS x i)
    | _, _, _ => none
  | .lookup t m k ok => match P.underlying t, cA P m, cA P k with
    | some (.map kt et), some m, some k => match keyT P kt, zeroT P et with
      | some q, some z => some (.lookup q z ok m k)
      | _, _ => none
    | _, _, _ => none
  | .mapUpdate t m k v | .insert t m k v => match P.underlying t, cA P m, cA P k, cA P v with
    | some (.map kt _), some m, some k, some v => (keyT P kt).map fun q => .mapUpd q m k v
    | _, _, _, _ => none
  | .range t x => match P.underlying t, cA P x with
    | some .string, some x => some (.rng true x)
    | some (.map _ _), some x => some (.rng false x)
    | _, _ => none
  | .next x s => (cA P x).map (.next s)
  | .entry x => (cA P x).map .entry
  | .extract x i => (cA P x).map fun a => .extract a i
  | .call c => match c.callee with
    | .builtin b => cBuiltin P b c.args.toList c.argTypes.toList
    | .value f => match cA P f, cAs P c.args.toList with
      | some f, some l => match f with
        | .k (.func g [] []) => match P.funcs[g]? with
          | some fn => if fn.body.isNone then
              if fn.origin ≠ "" then none else if fn.name = "internal/abi.NoEscape" then (match l with | [a] => some (.mv a) | _ => none)
              else if fn.name = "internal/bytealg.MakeNoZero" then (match l, fn.resultTypes[0]? with
                | [a], some t => match P.underlying t with
                  | some (.slice e) => if sizeT P e = some 1 then some (.mkNZ e a) else none
                  | _ => none
                | _, _ => none)
              else none
            else some (.call f l)
          | none => none
        | _ => some (.call f l)
      | _, _ => none
    | .invoke x name => match cA P x, cAs P c.args.toList with
      | some x, some l => some (.inv name x l)
      | _, _ => none
  | .panic _ => some .bad
  | .typeAssert x _ t ok => match P.underlying t, cA P x, zeroT P t with
    | some (.interface _), _, _ => none
    | some _, some a, some z => some (.tass t z ok a)
    | _, _, _ => none
  | _ => none

def cGuard (dsts : List (Option Nat)) : Option (Nat × Bool) → Option (Option (Nat × Bool))
  | none => some none
  | some (j, w) => match dsts[j]? with
    | some (some t) => some (some (t, w))
    | _ => none

def cO (dsts : List (Option Nat)) (pre : Nat) (o : Oper) : Option O :=
  match cK P o.op, cGuard dsts o.guard with
  | some k, some g => some ⟨o.dst, k, g, pre, o.dst.toList ++ (match g with | some (t, _) => [t] | none => []) ++ k.tms⟩
  | _, _ => none

def preOf (acc : List Nat) (es : List Edge) : Nat :=
  es.foldl (fun s e => if Region.binds .any e then s ||| 2 ^ e.on ||| acc.getD e.on 0 else s) 0

def cOsFrom (dsts : List (Option Nat)) : List Oper → List Nat → Option (List O)
  | [], _ => some []
  | o :: r, acc =>
    let pre := preOf acc o.after.toList
    match cO P dsts pre o, cOsFrom dsts r (acc ++ [pre]) with
    | some x, some l => some (x :: l)
    | _, _ => none

def edgesBelow : List Oper → Nat → Bool
  | [], _ => true
  | o :: r, i => o.after.toList.all (fun e => !Region.binds .any e || decide (e.on < i)) && edgesBelow r (i + 1)

def namesOk : List O → Nat → Bool
  | [], _ => true
  | o :: r, i => (r.all fun x => x.pre.testBit i || ((match o.dst with | some d => !x.names.contains d | none => true) && (match x.dst with | some d => !o.names.contains d | none => true))) && namesOk r (i + 1)

/-! Map literals whose places are laid in an open order. -/
structure Grp where
  i0 : Nat
  d : Nat
  ins : List (Nat × V × V)
  cp : List (Nat × Nat)

def mlHead : List O → Nat → Option (Nat × Nat)
  | [], _ => none
  | o :: r, i => match o.op, o.dst, o.guard with
    | .mkMap, some d, none => some (i, d)
    | _, _, _ => mlHead r (i + 1)

def mlInsOf (d : Nat) : K → Option (V × V)
  | .mapUpd .int (.t t) (.k k) (.k v) => if t = d then some (k, v) else none
  | _ => none

def mlIns (d : Nat) : List O → Nat → List (Nat × V × V)
  | [], _ => []
  | o :: r, i => match mlInsOf d o.op with
    | some (k, v) => (i, k, v) :: mlIns d r (i + 1)
    | none => mlIns d r (i + 1)

def mlCpOf (d : Nat) (o : O) : Option Nat :=
  match o.op, o.guard with
  | .mv (.t t), none => if t = d then o.dst else none
  | _, _ => none

def mlCps (d : Nat) : List O → Nat → List (Nat × Nat)
  | [], _ => []
  | o :: r, i => match mlCpOf d o with
    | some t => (i, t) :: mlCps d r (i + 1)
    | none => mlCps d r (i + 1)

def mlHold (g : Grp) (o : O) (t : Nat) : Bool := t == g.d || g.cp.any fun x => x.2 == t && o.pre.testBit x.1

def mlLookOf (g : Grp) (o : O) : Option (Nat × V × Bool × A) :=
  match o.op with
  | .lookup .int z ok (.t t) k => if mlHold g o t then some (t, z, ok, k) else none
  | _ => none

def mlTmp (g : Grp) (t : Nat) : Bool := t == g.d || g.cp.any fun x => x.2 == t

def mlOne (g : Grp) (i : Nat) (o : O) : Bool :=
  if i = g.i0 then true else
  match mlInsOf g.d o.op with
  | some _ => o.dst.isNone && o.guard.isNone && o.pre.testBit g.i0
  | none => match mlCpOf g.d o with
    | some t => decide (t ≠ g.d) && o.pre.testBit g.i0
    | none => match mlLookOf g o with
      | some (_, _, _, k) => (!(k.tm.any (mlTmp g)) && (match o.dst with | some t => !(mlTmp g t) | none => true) && (match o.guard with | some (t, _) => !(mlTmp g t) | none => true)) && (o.pre.testBit g.i0 && g.ins.all fun x => o.pre.testBit x.1)
      | none => !(o.names.any (mlTmp g))

def distinctKeys : List (Nat × V × V) → Bool
  | [] => true
  | x :: r => r.all (fun y => (match sameK .int x.2.1 y.2.1 with | some false => true | _ => false) && (match sameK .int y.2.1 x.2.1 with | some false => true | _ => false)) && distinctKeys r

def allIdx (f : Nat → O → Bool) : List O → Nat → Bool
  | [], _ => true
  | o :: r, i => f i o && allIdx f r (i + 1)

def mlGrp (l : List O) : Option Grp :=
  match mlHead l 0 with
  | some (i0, d) => if !(mlIns d l 0).isEmpty && distinctKeys (mlIns d l 0) && allIdx (mlOne ⟨i0, d, mlIns d l 0, mlCps d l 0⟩) l 0 then some ⟨i0, d, mlIns d l 0, mlCps d l 0⟩ else none
  | none => none

def mlO (g : Grp) (i : Nat) (o : O) : O :=
  if i = g.i0 then { o with op := .mv (.k .junk) } else
  match mlInsOf g.d o.op with
  | some _ => { o with op := .mv (.t g.d) }
  | none => match mlCpOf g.d o with
    | some t => { o with op := .pick (.k (.bool true)) (.k .junk) (.t t) }
    | none => match mlLookOf g o with
      | some (_, z, ok, k) => { o with op := .mlit .int (g.ins.map fun x => (x.2.1, x.2.2, 0)) z ok k }
      | none => o

def mlAll (g : Grp) : List O → Nat → List O
  | [], _ => []
  | o :: r, i => mlO g i o :: mlAll g r (i + 1)

def cRegion (ops : List Oper) (draw : Bool) : Option C :=
  match cOsFrom P (ops.map (·.dst)) ops [] with
  | none => none
  | some l =>
    if draw then (if edgesBelow ops 0 && namesOk l 0 then some (.draw (match mlGrp l with | some g => mlAll g l 0 | none => l)) else none) else some (.region l)

def cC : Code → Option C
  | .skip => some .skip
  | .region _ ops draw => cRegion P ops.toList draw
  | .seq a b => match cC a, cC b with
    | some a, some b => some (.seq a b)
    | _, _ => none
  | .cond c a b => match cA P c, cC a, cC b with
    | some c, some a, some b => some (.cond c a b)
    | _, _, _ => none
  | .block id b => (cC b).map (.block id)
  | .loop b => (cC b).map .loop
  | .rangeFunc f ps as b => match cA P f, cC as, cC b with
    | some f, some as, some b => some (.range f ps.toList as b)
    | _, _, _ => none
  | .exit id => some (.exit id)
  | .scope b => cC b
  | .label _ => some .skip
  | .ret => some .ret
  | .refuse _ => some .bad
  | _ => none

def cRV : List ResultVar → Option (List RV)
  | [] => some []
  | .tmp t :: r => (cRV r).map (.t t :: ·)
  | .cell a t :: r => match sizeT P t, cRV r with
    | some s, some l => some (.c a s (aggT P t) :: l)
    | _, _ => none

def cFn (fn : Func) : Option Fn :=
  if fn.name == "runtime.NumGoroutine" then none else
  match fn.body with
  | none => none
  | some b => match cC P b, cRV P fn.results.toList with
    | some c, some rs => some ⟨fn.ntmps, rs, c⟩
    | _, _ => none

end

def envOf (P : Program) (prim : Nat → Option (List V → H → Option (V × H))) : Env :=
  { fns := fun f => (P.funcs[f]?).bind (cFn P), prim }
end Go.AM
