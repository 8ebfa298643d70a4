/- My own texts of the evaluator, its soundness and its symbolic runs, laid for this claim. -/
import Derived.Test.YtelbgimbkfjabaaAmA
set_option linter.unusedSimpArgs false
set_option linter.unusedVariables false
/-! The abstract machine: how code is evaluated. -/
namespace Go.AM

def undefV : V := .tup []

def A.ev (T : List V) : A → Option V
  | .t i => T[i]?
  | .k v => some v

def evs (T : List V) : List A → Option (List V)
  | [] => some []
  | a :: r => match a.ev T, evs T r with
    | some v, some vs => some (v :: vs)
    | _, _ => none

def evo (T : List V) : Option A → Option (Option V)
  | none => some none
  | some a => match a.ev T with
    | some v => some (some v)
    | none => none

def V.cells : V → List V
  | .agg cs => cs
  | v => [v]

def V.one : V → Bool
  | .agg _ | .tup _ => false
  | _ => true

def getR (cs : List V) (off n : Nat) : List V := (cs.drop off).take n
def setR (cs : List V) (off : Nat) (vs : List V) : List V := cs.take off ++ vs ++ cs.drop (off + vs.length)

def partV (cs : List V) (off size : Nat) (agg : Bool) : Option V := if agg then some (.agg (getR cs off size)) else cs[off]?

def allM (f : Nat → Option Bool) : Nat → Nat → Option Bool
  | 0, _ => some true
  | n + 1, i => match f i with
    | some true => allM f n (i + 1)
    | r => r

def ptrEq (h : H) (a b : Nat × Nat) : Option Bool :=
  if a.1 = b.1 then some (a.2 == b.2) else
  match h.get a.1, h.get b.1 with
  | some (.cells _ _ _ false none), some (.cells _ _ _ false none) => some false
  | _, _ => none

def eqV (h : H) : EqT → V → V → Option Bool
  | .bool, .bool a, .bool b => some (a == b)
  | .int, .int k a, .int k' b => if k = k' then some (a == b) else none
  | .str, .str a, .str b => some (a == b)
  | .ptr, .ptr none, .ptr b => some b.isNone
  | .ptr, .ptr (some _), .ptr none => some false
  | .ptr, .ptr (some a), .ptr (some b) => ptrEq h a b
  | .sl, .slice none _ _ _, .slice b _ _ _ => some b.isNone
  | .sl, .slice (some _) _ _ _, .slice none _ _ _ => some false
  | .mp, .map none, .map b => some b.isNone
  | .mp, .map (some _), .map none => some false
  | .fn, .nilFunc, .nilFunc => some true
  | .fn, .nilFunc, .func .. => some false
  | .fn, .func .., .nilFunc => some false
  | .fn, .nilFunc, .yield .. => some false
  | .fn, .yield .., .nilFunc => some false
  | .ifc, .nilIface, .nilIface => some true
  | .ifc, .nilIface, .iface .. => some false
  | .ifc, .iface .., .nilIface => some false
  | .ifc, .iface t _, .iface u _ => if t ≠ u then some false else none
  | .fnil, .agg _, .agg _ => some true
  | .fcons off size agg e rest, .agg xs, .agg ys =>
    match partV xs off size agg, partV ys off size agg with
    | some x, some y => match eqV h e x y with
      | some true => eqV h rest (.agg xs) (.agg ys)
      | r => r
    | _, _ => none
  | .ar len size agg e, .agg xs, .agg ys =>
    allM (fun i => match partV xs (i * size) size agg, partV ys (i * size) size agg with
      | some x, some y => eqV h e x y
      | _, _ => none) len 0
  | _, _, _ => none

def intOp (op : BinOp) (k : IntKind) (x y : Int) : Option V :=
  match op with
  | .add => some (.int k (k.wrap (x + y)))
  | .sub => some (.int k (k.wrap (x - y)))
  | .mul => some (.int k (k.wrap (x * y)))
  | .quo => if y = 0 then none else some (.int k (k.wrap (x.tdiv y)))
  | .rem => if y = 0 then none else some (.int k (x.tmod y))
  | .and => some (.int k (k.wrap (BitVec.ofInt k.bits x &&& BitVec.ofInt k.bits y).toNat))
  | .or => some (.int k (k.wrap (BitVec.ofInt k.bits x ||| BitVec.ofInt k.bits y).toNat))
  | .xor => some (.int k (k.wrap (BitVec.ofInt k.bits x ^^^ BitVec.ofInt k.bits y).toNat))
  | .andNot => some (.int k (k.wrap (BitVec.ofInt k.bits x &&& ~~~BitVec.ofInt k.bits y).toNat))
  | .eql => some (.bool (x == y))
  | .neq => some (.bool (x != y))
  | .lss => some (.bool (x < y))
  | .leq => some (.bool (x ≤ y))
  | .gtr => some (.bool (x > y))
  | .geq => some (.bool (x ≥ y))
  | _ => none

def shOp (op : BinOp) (k : IntKind) (x y : Int) : Option V :=
  if y < 0 then none else
  match op with
  | .shl => some (.int k (k.wrap (x * 2 ^ (min y.toNat k.bits))))
  | .shr => some (.int k (x.fdiv (2 ^ (min y.toNat k.bits))))
  | _ => none

def strOp (op : BinOp) (x y : List UInt8) : Option V :=
  match op with
  | .add => if x.length + y.length ≤ 9223372036854775807 then some (.str (x ++ y)) else none
  | .eql => some (.bool (x == y))
  | .neq => some (.bool (!(x == y)))
  | .lss => some (.bool (Op.bytesLess x y))
  | .leq => some (.bool (Op.bytesLess x y || x == y))
  | .gtr => some (.bool (!(Op.bytesLess x y || x == y)))
  | .geq => some (.bool (!Op.bytesLess x y))
  | _ => none

inductive Res where
  | pur (v : V)
  | rd (v : V)
  | eff (v : V) (h : H)
  | call (f : V) (args : List V)

def binV (h : H) (op : BinOp) (eq : Option EqT) (lit : Bool) (x y : V) : Option Res :=
  match x, y with
  | .int k a, .int k' b =>
    match op with
    | .shl | .shr => (shOp op k a b).map .pur
    | _ => if k = k' then (intOp op k a b).map .pur else none
  | .str a, .str b => (strOp op a b).map .pur
  | x, y =>
    match eq with
    | none => none
    | some e =>
      match x, y, lit with
      | .nilIface, .nilIface, false => none
      | _, _, _ =>
        match op, eqV h e x y with
        | .eql, some b => some (.rd (.bool b))
        | .neq, some b => some (.rd (.bool !b))
        | _, _ => none

def unV (op : UnOp) (x : V) : Option V :=
  match op, x with
  | .neg, .int k n => some (.int k (k.wrap (0 - n)))
  | .xor, .int k n => some (.int k (k.wrap (BitVec.ofInt k.bits (if k.signed then -1 else k.max) ^^^ BitVec.ofInt k.bits n).toNat))
  | .not, .bool b => some (.bool !b)
  | _, _ => none

def fillV (T : List V) (z : List V) : List (Nat × Nat × A) → Option (List V)
  | [] => some z
  | (off, size, a) :: r =>
    match a.ev T with
    | some v => if v.cells.length = size ∧ off + size ≤ z.length then fillV T (setR z off v.cells) r else none
    | none => none

def boundV (y : Nat) : V → Option Nat
  | .int _ n => if 0 ≤ n ∧ n ≤ y then some n.toNat else none
  | _ => none

def boundsV (len cap : Nat) (lo hi mx : Option V) : Option (Nat × Nat × Nat) :=
  match (match mx with | some v => boundV cap v | none => some cap) with
  | none => none
  | some m =>
    match (match hi, mx with | some v, _ => boundV m v | none, none => some len | none, some _ => none) with
    | none => none
    | some h =>
      match (match lo with | some v => boundV h v | none => some 0) with
      | none => none
      | some l => some (l, h, m)

def elemsV (h : H) (size n : Nat) : V → Option (List V)
  | .slice (some (i, o)) _ _ _ =>
    if n * size = 0 then some [] else
    match h.get i with
    | some (.cells vs _ _ _ _) => if o + n * size ≤ vs.length then some (getR vs o (n * size)) else none
    | _ => none
  | .slice none _ _ _ => if n * size = 0 then some [] else none
  | .str s => if size = 1 then some ((s.take n).map fun b => .int .u8 b.toNat) else none
  | _ => none

def lenV : V → Option Nat
  | .slice _ n _ _ => some n
  | .str s => some s.length
  | _ => none

def fzFree (fz : Option Nat) (q : Nat) : Bool :=
  match fz with
  | none => true
  | some f => decide (f ≤ q)

def putCells (h : H) (i o : Nat) (ws : List V) : Option H :=
  if ws.isEmpty then some h else
  match h.get i with
  | some (.cells vs ty opn false fz) =>
    if o + ws.length ≤ vs.length ∧ ws.all V.one = true ∧ fzFree fz o = true then some (h.set i (.cells (setR vs o ws) ty opn false fz)) else none
  | _ => none

def appV (h : H) (ty size bytes : Nat) (s x : V) : Option Res :=
  match s, lenV x with
  | .slice base len cap opn, some n =>
    match elemsV h size n x with
    | none => none
    | some new =>
      let need := len + n
      if need ≤ cap then
        match base with
        | none => some (.eff (.slice none need cap opn) h)
        | some (i, o) =>
          match putCells h i (o + len * size) new with
          | some h' => some (.eff (.slice base need cap opn) h')
          | none => none
      else if need ≤ 1099511627776 ∧ (2 * need + 1024) * bytes ≤ 281474976710656 then
        match opn, base with
        | true, some (i, o) =>
          match h.get i with
          | some (.cells vs ty' true false fz) =>
            if ty' = ty ∧ len ≤ cap ∧ o + cap * size = vs.length ∧ new.all V.one = true ∧ fzFree fz (o + len * size) = true then
              match (h.set i .dead).push (.cells (getR vs o (len * size) ++ new) ty true false (fz.map fun f => if f = 0 then 0 else max 1 (f - o))) with
              | some h' => some (.eff (.slice (some (h.size, 0)) need need true) h')
              | none => none
            else none
          | _ => none
        | _, _ =>
          match elemsV h size len s with
          | none => none
          | some old =>
            match h.push (.cells (old ++ new) ty true false none) with
            | some h' => some (.eff (.slice (some (h.size, 0)) need need true) h')
            | none => none
      else none
  | _, _ => none

def sameK : EqT → V → V → Option Bool
  | .int, .int k a, .int k' b => if k = k' then some (a == b) else none
  | .str, .str a, .str b => some (a == b)
  | .bool, .bool a, .bool b => some (a == b)
  | _, _, _ => none

def findK (kt : EqT) (k : V) : List (V × V × Nat) → Nat → Option (Option (Nat × V))
  | [], _ => some none
  | e :: es, i => match sameK kt k e.1 with
    | some true => some (some (i, e.2.1))
    | some false => findK kt k es (i + 1)
    | none => none

def bytesV : List V → Option (List UInt8)
  | [] => some []
  | .int .u8 n :: r => match bytesV r with
    | some bs => some (UInt8.ofNat n.toNat :: bs)
    | none => none
  | _ => none

def minmaxV (mx : Bool) : V → List V → Option V
  | v, [] => some v
  | .int k x, .int _ y :: r => minmaxV mx (.int k (if mx then (if y > x then y else x) else (if y < x then y else x))) r
  | _, _ => none

def methOf (P : Program) (t : TypeId) (name : String) : Option FuncId :=
  match P.info? t with
  | some i => match i.methods.find? (·.name == name) with
    | some m => if m.path.isEmpty then
        match m.func, P.underlying t with
        | some (f, true), some (.pointer _) => some f
        | some (_, false), some (.pointer _) => none
        | some (f, false), some _ => some f
        | _, _ => none
      else none
    | none => none
  | none => none

def evK (P : Program) (T : List V) (h : H) : K → Option Res
  | .mv a => (a.ev T).map .pur
  | .pick c a b =>
    match c.ev T, a.ev T, b.ev T with
    | some (.bool c), some a, some b => some (.pur (if c then a else b))
    | _, _, _ => none
  | .alloc ty z =>
    match h.push (.cells z ty false false none) with
    | some h' => some (.eff (.ptr (some (h.size, 0))) h')
    | none => none
  | .box ty a =>
    match a.ev T with
    | some v => match h.push (.cells v.cells ty false false none) with
      | some h' => some (.eff (.ptr (some (h.size, 0))) h')
      | none => none
    | none => none
  | .build z ps => (fillV T z ps).map fun cs => .pur (.agg cs)
  | .bslice ty len z ps =>
    match fillV T z ps with
    | some cs => match h.push (.cells cs ty false false none) with
      | some h' => some (.eff (.slice (some (h.size, 0)) len len false) h')
      | none => none
    | none => none
  | .load1 a =>
    match a.ev T with
    | some (.ptr (some (i, o))) => match h.get i with
      | some (.cells vs _ _ _ _) => (vs[o]?).map .rd
      | _ => none
    | _ => none
  | .loadN n a =>
    match a.ev T with
    | some (.ptr (some (i, o))) => match h.get i with
      | some (.cells vs _ _ _ _) => if o + n ≤ vs.length then some (.rd (.agg (getR vs o n))) else none
      | _ => none
    | _ => none
  | .store n a v =>
    match a.ev T, v.ev T with
    | some (.ptr (some (i, o))), some v =>
      if v.cells.length = n then (putCells h i o v.cells).map fun h' => .eff undefV h' else none
    | _, _ => none
  | .nilck a =>
    match a.ev T with
    | some (.ptr none) | some .nilIface | some .nilFunc | some .junk => none
    | some v => some (.pur v)
    | none => none
  | .bin op eq lit x y =>
    match x.ev T, y.ev T with
    | some x, some y => binV h op eq lit x y
    | _, _ => none
  | .un op x => match x.ev T with
    | some x => (unV op x).map .pur
    | none => none
  | .cvt k x => match x.ev T with
    | some (.int _ n) => some (.pur (.int k (k.wrap n)))
    | _ => none
  | .s2b ty x => match x.ev T with
    | some (.str s) => match h.push (.cells (s.map fun b => .int .u8 b.toNat) ty true false (some 0)) with
      | some h' => some (.eff (.slice (some (h.size, 0)) s.length s.length true) h')
      | none => none
    | _ => none
  | .b2s x => match x.ev T with
    | some (.slice a len c o) => match elemsV h 1 len (.slice a len c o) with
      | some cs => if a.isNone then some (.rd (.str [])) else (bytesV cs).map fun bs => .rd (.str bs)
      | none => none
    | _ => none
  | .mkI ty x => (x.ev T).map fun v => .pur (.iface ty v)
  | .mkF f fs cs => match evs T fs, evs T cs with
    | some fs, some cs => some (.pur (.func f fs cs))
    | _, _ => none
  | .mkMap => match h.push (.map [] 0) with
    | some h' => some (.eff (.map (some h.size)) h')
    | none => none
  | .mkSlice ty bytes z len cap => match len.ev T, cap.ev T with
    | some (.int _ l), some (.int _ c) =>
      if 0 ≤ l ∧ l ≤ c ∧ c ≤ 1099511627776 ∧ c * bytes ≤ 281474976710656 then
        match h.push (.cells (List.replicate c.toNat z).flatten ty false false none) with
        | some h' => some (.eff (.slice (some (h.size, 0)) l.toNat c.toNat false) h')
        | none => none
      else none
    | _, _ => none
  | .slS x lo hi => match x.ev T, evo T lo, evo T hi with
    | some (.str s), some lo, some hi => match boundsV s.length s.length lo hi none with
      | some (l, h, _) => some (.pur (.str ((s.drop l).take (h - l))))
      | none => none
    | _, _, _ => none
  | .slL size x lo hi mx => match x.ev T, evo T lo, evo T hi, evo T mx with
    | some (.slice a len cap opn), some lo, some hi, some mx => if len ≤ cap then match boundsV len cap lo hi mx with
      | some (l, h, m) => some (.pur (.slice (a.map fun (i, o) => (i, o + l * size)) (h - l) (m - l) (opn && mx.isNone)))
      | none => none
      else none
    | _, _, _, _ => none
  | .fadr off x => match x.ev T with
    | some (.ptr (some (i, o))) => some (.pur (.ptr (some (i, o + off))))
    | _ => none
  | .iadrL size x i => match x.ev T, i.ev T with
    | some (.slice (some (b, o)) len _ _), some (.int _ n) => if 0 ≤ n ∧ n < len then some (.pur (.ptr (some (b, o + n.toNat * size)))) else none
    | _, _ => none
  | .iadrA len size x i => match x.ev T, i.ev T with
    | some (.ptr (some (b, o))), some (.int _ n) => if 0 ≤ n ∧ n < len then some (.pur (.ptr (some (b, o + n.toNat * size)))) else none
    | _, _ => none
  | .fld off size agg x => match x.ev T with
    | some (.agg cs) => (partV cs off size agg).map .pur
    | _ => none
  | .idxA len size agg x i => match x.ev T, i.ev T with
    | some (.agg cs), some (.int _ n) => if 0 ≤ n ∧ n < len then (partV cs (n.toNat * size) size agg).map .pur else none
    | _, _ => none
  | .idxS x i => match x.ev T, i.ev T with
    | some (.str s), some (.int _ n) => if 0 ≤ n then (s[n.toNat]?).map fun b => .pur (.int .u8 b.toNat) else none
    | _, _ => none
  | .lookup kt z ok m k => match m.ev T, k.ev T with
    | some (.map none), some k =>
      if k.one then some (.rd (if ok then .tup [z, .bool false] else z)) else none
    | some (.map (some r)), some k => match h.get r with
      | some (.map es _) => match findK kt k es 0 with
        | some (some (_, v)) => some (.rd (if ok then .tup [v, .bool true] else v))
        | some none => some (.rd (if ok then .tup [z, .bool false] else z))
        | none => none
      | _ => none
    | _, _ => none
  | .mapUpd kt m k v => match m.ev T, k.ev T, v.ev T with
    | some (.map (some r)), some k, some v => match h.get r with
      | some (.map es clock) => match findK kt k es 0 with
        | some (some (i, _)) => some (.eff undefV (h.set r (.map (es.modify i fun e => (k, v, e.2.2)) clock)))
        | some none => some (.eff undefV (h.set r (.map (es ++ [(k, v, clock)]) (clock + 1))))
        | none => none
      | _ => none
    | _, _, _ => none
  | .mapDel kt m k => match m.ev T, k.ev T with
    | some (.map (some r)), some k => match h.get r with
      | some (.map es clock) => match findK kt k es 0 with
        | some (some (i, _)) => some (.eff (.tup []) (h.set r (.map (es.eraseIdx i) clock)))
        | some none => some (.eff (.tup []) h)
        | none => none
      | _ => none
    | _, _ => none
  | .rng isStr x => match x.ev T, isStr with
    | some (.str s), true => match h.push (.strIter s 0) with
      | some h' => some (.eff (.ptr (some (h.size, 0))) h')
      | none => none
    | some (.map none), false => match h.push (.mapIter none 0 [] 0) with
      | some h' => some (.eff (.ptr (some (h.size, 0))) h')
      | none => none
    | some (.map (some r)), false => match h.get r with
      | some (.map _ clock) => match h.push (.mapIter (some r) clock [] clock) with
        | some h' => some (.eff (.ptr (some (h.size, 0))) h')
        | none => none
      | _ => none
    | _, _ => none
  | .next isStr x => match x.ev T with
    | some (.ptr (some (r, 0))) => match h.get r, isStr with
      | some (.strIter s pos), true =>
        if pos < s.length then
          let cw := Utf8.decode ⟨s.toArray⟩ pos
          some (.eff (.tup [.bool true, .int .i64 pos, .int .i32 cw.1]) (h.set r (.strIter s (pos + cw.2))))
        else some (.eff (.tup [.bool false]) h)
      | some (.mapIter none _ _ _), false => some (.eff (.tup [.bool false]) h)
      | some (.mapIter (some m) since seen last), false => match h.get m with
        | some (.map es clock) =>
          if !seen.isEmpty && !es.isEmpty && es.all (fun e => decide (e.2.2 ≥ last)) then none else
          let left := es.filter fun e => !seen.contains e.2.2
          let old := left.filter fun e => decide (e.2.2 < since)
          let new := left.filter fun e => decide (e.2.2 ≥ since)
          match old, new with
          | [], [] => some (.eff (.tup [.bool false]) h)
          | [e], [] => some (.eff (.tup [.bool true, e.1, e.2.1]) (h.set r (.mapIter (some m) since (seen ++ [e.2.2]) clock)))
          | _, _ => none
        | _ => none
      | _, _ => none
    | _ => none
  | .entry x => match x.ev T with
    | some (.ptr (some (r, 0))) => match h.get r with
      | some (.mapIter (some m) _ seen stepped) => match seen.getLast?, h.get m with
        | some stamp, some (.map es clock) =>
          if clock = stepped then (es.find? fun e => e.2.2 == stamp).map fun e => .rd (.tup [e.1, e.2.1]) else none
        | _, _ => none
      | _ => none
    | _ => none
  | .extract x i => match x.ev T with
    | some (.tup vs) => (vs[i]?).map .pur
    | _ => none
  | .lenS x => match x.ev T with
    | some (.str s) => some (.pur (.int .i64 s.length))
    | _ => none
  | .lenL x => match x.ev T with
    | some (.slice _ n _ _) => some (.pur (.int .i64 n))
    | _ => none
  | .lenM x => match x.ev T with
    | some (.map none) => some (.rd (.int .i64 0))
    | some (.map (some r)) => match h.get r with
      | some (.map es _) => some (.rd (.int .i64 es.length))
      | _ => none
    | _ => none
  | .app ty size bytes s x => match s.ev T, x.ev T with
    | some s, some x => appV h ty size bytes s x
    | _, _ => none
  | .copy size d s => match d.ev T, s.ev T with
    | some (.slice base dlen _ _), some s => match lenV s with
      | none => none
      | some sl => match elemsV h size (Nat.min sl dlen) s with
        | none => none
        | some cs => match base with
          | none => some (.eff (.int .i64 (Nat.min sl dlen : Nat)) h)
          | some (i, o) => (putCells h i o cs).map fun h' => .eff (.int .i64 (Nat.min sl dlen : Nat)) h'
    | _, _ => none
  | .minmax mx xs => match evs T xs with
    | some (v :: r) => (minmaxV mx v r).map .pur
    | _ => none
  | .call f args => match f.ev T, evs T args with
    | some f, some args => some (.call f args)
    | _, _ => none
  | .bad => none
  | .slA n size x lo hi mx => match x.ev T, evo T lo, evo T hi, evo T mx with
    | some (.ptr (some (i, o))), some lo, some hi, some mx => match boundsV n n lo hi mx with
      | some (l, h, m) => some (.pur (.slice (some (i, o + l * size)) (h - l) (m - l) false))
      | none => none
    | _, _, _, _ => none
  | .capL x => match x.ev T with
    | some (.slice _ _ n false) => some (.pur (.int .i64 n))
    | _ => none
  | .appZ ty size bytes z s x => match s.ev T, x.ev T with
    | some (.slice base len cap opn), some (.int _ n) =>
      if 0 ≤ n ∧ n ≤ 1099511627776 ∧ n.toNat * bytes ≤ 281474976710656 then
        if len + n.toNat ≤ cap then
          match base with
          | none => some (.eff (.slice none (len + n.toNat) cap opn) h)
          | some (i, o) => match putCells h i (o + len * size) (List.replicate n.toNat z).flatten with
            | some h' => some (.eff (.slice base (len + n.toNat) cap opn) h')
            | none => none
        else if len + n.toNat ≤ 1099511627776 ∧ (2 * (len + n.toNat) + 1024) * bytes ≤ 281474976710656 ∧ opn = false then
          match elemsV h size len (.slice base len cap opn) with
          | none => none
          | some old => match h.push (.cells (old ++ (List.replicate n.toNat z).flatten) ty true false none) with
            | some h' => some (.eff (.slice (some (h.size, 0)) (len + n.toNat) (len + n.toNat) true) h')
            | none => none
        else none
      else none
    | _, _ => none
  | .i2s x => match x.ev T with
    | some (.int _ n) => some (.pur (.str (Utf8.encode n).data.toList))
    | _ => none
  | .sid x => match x.ev T with
    | some (.str s) => some (.pur (.str s))
    | _ => none
  | .same x => match x.ev T with
    | some (.slice (some (i, o)) l c opn) => match h.get i with
      | some (.cells vs ty op false fz) => if fz.getD 0 = 0 ∧ (opn = true ∨ 0 < c) then some (.eff (.slice (some (i, o)) l c opn) (h.set i (.cells vs ty op false (some 0)))) else none
      | _ => none
    | _ => none
  | .p2u x => match x.ev T with
    | some (.ptr none) => some (.pur (.ptr none))
    | some (.ptr (some (i, o))) => match h.get i with
      | some (.cells vs _ _ _ _) => if o < vs.length then some (.rd (.ptr (some (i, o)))) else none
      | _ => none
    | _ => none
  | .u2p u x => match x.ev T with
    | some (.ptr none) => some (.pur (.ptr none))
    | some (.ptr (some (i, o))) => match h.get i with
      | some (.cells vs ty false _ _) => if liesAt P P.depth ty (vs.length / P.cellsOf ty) o u 1 then some (.rd (.ptr (some (i, o)))) else none
      | _ => none
    | _ => none
  | .usd x => match x.ev T with
    | some (.slice none _ _ _) => some (.pur (.ptr none))
    | some (.slice (some a) _ (_ + 1) _) => some (.pur (.ptr (some a)))
    | _ => none
  | .ustr u x n => match x.ev T, n.ev T with
    | some (.ptr p), some (.int _ n) =>
      if n = 0 then some (.pur (.str [])) else
      if n < 0 ∨ n > 1099511627776 then none else
      match p with
      | none => none
      | some (i, o) => match h.get i with
        | some (.cells vs ty op false fz) =>
          if ty = u ∧ o + n.toNat ≤ vs.length ∧ fz ≠ some 0 then
            match bytesV (getR vs o n.toNat) with
            | some bs => some (.eff (.str bs) (h.set i (.cells vs ty op false (some (max (fz.getD 0) (o + n.toNat))))))
            | none => none
          else none
        | _ => none
    | _, _ => none
  | .mkNZ ty x => match x.ev T with
    | some (.int .i64 n) =>
      if 0 ≤ n ∧ n ≤ 1099511627776 then
        match h.push (.cells (List.replicate n.toNat .junk) ty true false none) with
        | some h' => some (.eff (.slice (some (h.size, 0)) n.toNat n.toNat true) h')
        | none => none
      else none
    | _ => none

  | .tass t z ok x => match x.ev T with
    | some (.iface u v) => if u = t then some (.pur (if ok then .tup [v, .bool true] else v)) else if ok then some (.pur (.tup [z, .bool false])) else none
    | some .nilIface => if ok then some (.pur (.tup [z, .bool false])) else none
    | _ => none
  | .inv name x args => match x.ev T, evs T args with
    | some (.iface t v), some vs => match methOf P t name with
      | some f => some (.call (.func f [] []) (v :: vs))
      | none => none
    | _, _ => none
  | .mlit kt es z ok k => match k.ev T with
    | some k => match findK kt k es 0 with
      | some (some (_, v)) => some (.pur (if ok then .tup [v, .bool true] else v))
      | some none => some (.pur (if ok then .tup [z, .bool false] else z))
      | none => none
    | none => none

/-! ### operations, regions -/
abbrev Ap := V → List V → H → Option (V × H)

def putV (T : List V) (dst : Option Nat) (v : V) : List V :=
  match dst with
  | some d => T.set d v
  | none => T

def wantV (T : List V) : Option (Nat × Bool) → Bool
  | none => true
  | some (t, w) => match T[t]? with
    | some (.bool b) => b == w
    | _ => false

def evO (P : Program) (ap : Ap) (o : O) (T : List V) (h : H) : Option (List V × H) :=
  if wantV T o.guard then
    match evK P T h o.op with
    | some (.pur v) => some (putV T o.dst v, h)
    | some (.rd v) => some (putV T o.dst v, h)
    | some (.eff v h') => some (putV T o.dst v, h')
    | some (.call f args) => match ap f args h with
      | some (v, h') => some (putV T o.dst v, h')
      | none => none
    | none => none
  else some (putV T o.dst undefV, h)

def evOs (P : Program) (ap : Ap) : List O → List V → H → Option (List V × H)
  | [], T, h => some (T, h)
  | o :: r, T, h => match evO P ap o T h with
    | some (T', h') => evOs P ap r T' h'
    | none => none

/-! ### code -/
inductive Ex where
  | nrm
  | exit (id : Nat)
  | ret
  deriving DecidableEq

abbrev St := List V × H

def iter (f : St → Option (Ex × St)) : Nat → St → Option (Ex × St)
  | 0, _ => none
  | n + 1, s => match f s with
    | some (.nrm, s') => iter f n s'
    | r => r
/-! ### what an operation looks at -/
def A.tm : A → List Nat
  | .t i => [i]
  | .k _ => []

def K.as : K → List A
  | .mv a | .box _ a | .load1 a | .loadN _ a | .nilck a | .un _ a | .cvt _ a | .s2b _ a | .b2s a | .mkI _ a | .fadr _ a | .fld _ _ _ a | .rng _ a | .next _ a | .entry a | .extract a _ | .lenS a | .lenL a | .lenM a
  | .mlit _ _ _ _ a | .capL a | .i2s a | .sid a | .same a | .p2u a | .u2p _ a | .usd a | .mkNZ _ a | .tass _ _ _ a => [a]
  | .pick c a b => [c, a, b]
  | .build _ ps | .bslice _ _ _ ps => ps.map (·.2.2)
  | .store _ a v => [a, v]
  | .bin _ _ _ x y => [x, y]
  | .mkF _ fs cs => fs ++ cs
  | .mkSlice _ _ _ l c => [l, c]
  | .slS x lo hi => x :: (lo.toList ++ hi.toList)
  | .slL _ x lo hi mx | .slA _ _ x lo hi mx => x :: (lo.toList ++ hi.toList ++ mx.toList)
  | .iadrL _ x i | .iadrA _ _ x i | .idxA _ _ _ x i | .idxS x i => [x, i]
  | .lookup _ _ _ m k | .mapDel _ m k => [m, k]
  | .mapUpd _ m k v => [m, k, v]
  | .app _ _ _ s x | .copy _ s x | .appZ _ _ _ _ s x | .ustr _ s x => [s, x]
  | .minmax _ xs => xs
  | .call f args | .inv _ f args => f :: args
  | .alloc .. | .mkMap | .bad => []

def K.tms (k : K) : List Nat := k.as.flatMap A.tm
end Go.AM
