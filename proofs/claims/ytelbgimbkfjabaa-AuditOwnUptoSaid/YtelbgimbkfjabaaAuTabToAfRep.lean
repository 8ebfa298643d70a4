/- What the arguments' readings hold, in the evaluator's heap: views. -/
import Derived.Test.YtelbgimbkfjabaaRows
import Derived.Deep.DeepWitnessRowRef
import Derived.Test.YtelbgimbkfjabaaAg6ToAu13
set_option linter.unusedSimpArgs false
set_option linter.unusedVariables false
namespace Go.Proofs.Ytelbgimbkfjabaa.audit
open Go.ChangeShapes Go.WideShapes Go.ChangeAt Go.RowKit Go.AM
set_option maxRecDepth 100000
theorem own : ownKnob Try.prog.godebug = none := by kernel_rfl
theorem mixed : Try.prog.follows .mixedOrders = true := by kernel_rfl
theorem laidOut : laidOutB Try.prog = true := by kernel_rfl
theorem globals : Try.prog.globals.size = 0 := by kernel_rfl
abbrev nodeV : List V := [.int .i64 5,.int .i64 5,.str [97],.slice none 0 0 false]
def hN : H := H.lay 1 [(0,.cells nodeV 67 false true none)]
noncomputable def E1 : Env := envOf Try.prog fun _ => none
def isErr (n : Int) : V → Bool
 | .tup [.ptr none,.int .i64 k] => k == n
 | _ => false
theorem isErr_eq {n : Int} {v : V} (h : isErr n v = true) : v = .tup [.ptr none,.int .i64 n] := by
 unfold isErr at h
 split at h
 ·rw [beq_iff_eq.1 h]
 ·cases h
noncomputable abbrev f67c : AM.Fn := (cFn Try.prog Try.f67).getD ⟨0,[],.skip⟩
theorem c67 : cFn Try.prog Try.f67 = some f67c := by kernel_rfl
theorem from_runs : ncFnB Try.prog (ap Try.prog E1 40) 40 f67c [.slice (some (0,0)) 1 1 false] hN (isErr 121) = true := by kernel_rfl
theorem hN_get (i : Nat) (o : AM.Obj) (h : hN.get i = some o) : i = 0 ∧ o = .cells nodeV 67 false true none := by
 have hlt : i < 1 := H.get_lt h
 match i,hlt with
 | 0,_ => exact ⟨rfl,Option.some.inj (h.symm.trans (show hN.get 0 = some (.cells nodeV 67 false true none) from rfl))⟩
theorem hN_ro (i : Nat) (o : AM.Obj) (h : hN.get i = some o) : o.mut = false := by
 obtain ⟨_,rfl⟩ := hN_get i o h; rfl
theorem flatN (m m' : Mp) (ys : List Value) (h : VRL m nodeV ys) : VRL m' nodeV ys := by
 obtain ⟨y1,ys1,e1,⟨y2,ys2,e2,⟨y3,ys3,e3,⟨y4,ys4,e4,e5,rfl⟩,rfl⟩,rfl⟩,rfl⟩ := h
 exact ⟨_,_,e1,⟨_,_,e2,⟨_,_,e3,⟨_,_,e4,e5,rfl⟩,rfl⟩,rfl⟩,rfl⟩
def fromP : List V → H → Option (V × H) := fun args h => match args with
 | [.slice (some (b,0)) 1 1 false] => match h.get b with
  | some (.cells [.int .i64 5,.int .i64 5,.str [97],.slice none 0 0 false] 67 false _ _) => some (.tup [.ptr none,.int .i64 121],h)
  | _ => none
 | _ => none
def prim1 : Nat → Option (List V → H → Option (V × H))
 | 67 => some fromP
 | _ => none
theorem prim1OK : PrimOK Try.prog prim1 := by
 intro g f hf
 unfold prim1 at hf
 split at hf
 ·cases hf
  refine ⟨⟨_,Try.func67,by kernel_rfl,by decide⟩,fun args h v h' m w xs he hr hx n => ?_⟩
  unfold fromP at he
  split at he
  ·rename_i b
   split at he
   ·rename_i ro fz hb
    cases he
    obtain ⟨y,ys,e1,e2,rfl⟩ := hx
    cases e2
    have hr0 : HR Try.prog (mapA Try.prog (m b)) hN w := hr.arg trivial (by rw [globals]; rfl) hb (fun i o hg => by rw [globals]; exact hN_get i o hg) flatN
    obtain ⟨r,sh,e,ad,q1,q2,q3⟩ := e1
    have hx0 : VRL (mapA Try.prog (m b)) [.slice (some (0,0)) 1 1 false] [y] := VRL.one ⟨r,sh,e,ad,by simp [mapA,globals,q1],q2,q3⟩
    refine CallsIn.mono (nc_run mixed noPrim Try.func67 c67 from_runs hN_ro hr0 hx0 n) fun e w' ⟨m',v,x,h1,h2,h3,h4⟩ => ?_
    rw [isErr_eq h1] at h3
    obtain ⟨ys,k1,rfl⟩ := h3
    obtain ⟨y1,ys1,z1,⟨y2,ys2,z2,z3,rfl⟩,rfl⟩ := k1
    cases z1; cases z2; cases z3
    obtain ⟨a,b⟩ := hr.below h4
    exact ⟨m,_,h2,⟨_,⟨_,_,rfl,⟨_,_,rfl,rfl,rfl⟩,rfl⟩,rfl⟩,a,b⟩
   ·cases he
  ·cases he
 ·cases hf
noncomputable def E2 : Env := envOf Try.prog prim1
def h0 : H := H.lay 0 []
def isTrue : Option (V × H) → Bool
 | some (.bool b,_) => b
 | _ => false
theorem isTrue_spec {r : Option (V × H)} (h : isTrue r = true) : ∃ h',r = some (.bool true,h') := by
 unfold isTrue at h
 split at h
 ·subst h; exact ⟨_,rfl⟩
 ·cases h
theorem begun_runs : isTrue (ap Try.prog E2 60 (.func 6 [] []) [] h0) = true := by kernel_rfl
end Go.Proofs.Ytelbgimbkfjabaa.audit
namespace Go.Proofs.Ytelbgimbkfjabaa.audit
open Go.AM Go.AM.Sc
set_option maxRecDepth 100000
noncomputable def primT : Nat → Option (List V → H → Option (V × H))
 | 78 => some wholeP
 | _ => none
theorem primTOK : PrimOK Try.prog primT := by
 intro g f hf
 unfold primT at hf
 split at hf
 ·cases hf
  exact ⟨⟨_,Try.func78,by kernel_rfl,by decide⟩,fun args h v h' m w xs he hr hx n => whole_ok mixed Try.func78 (by kernel_rfl) he hr hx n⟩
 ·cases hf
theorem fnsT : Ft (envOf Try.prog primT) where
 f67 := by kernel_rfl
 f73 := by kernel_rfl
 p73 := rfl
 f74 := by kernel_rfl
 p74 := rfl
 f75 := by kernel_rfl
 p75 := rfl
 f76 := by kernel_rfl
 p76 := rfl
 f77 := by kernel_rfl
 p77 := rfl
 p78 := rfl
noncomputable def prim : Nat → Option (List V → H → Option (V × H))
 | 6 => some (yesP fun _ => true)
 | 67 => some fromG
 | _ => none
theorem h0_get (i : Nat) (o : AM.Obj) (h : h0.get i = some o) : False := Nat.not_lt_zero _ (show i < 0 from H.get_lt h)
theorem primOK : PrimOK Try.prog prim := by
 intro g f hf
 unfold prim at hf
 split at hf
 ·cases hf
  obtain ⟨h1,hrun⟩ := isTrue_spec begun_runs
  refine ⟨⟨_,Try.func6,by kernel_rfl,by decide⟩,fun args h v h' m w xs he hr hx n => ?_⟩
  exact yes_ok mixed prim1OK hrun trivial globals.symm (fun i o hg => (h0_get i o hg).elim) (fun h hc i o hg => (h0_get i o hg).elim) he hr hx n
 ·cases hf
  exact ⟨⟨_,Try.func67,by kernel_rfl,by decide⟩,fun args h v h' m w xs he hr hx n => from_ok mixed primTOK fnsT Try.func67 (by kernel_rfl) he hr hx n⟩
 ·cases hf
noncomputable def E0 : Env := envOf Try.prog prim
theorem begun (h : H) : Sp Try.prog E0 (.func 6 [] []) [] h fun v h' => v = .bool true ∧ h' = h := by
 refine ⟨.bool true,h,?_,rfl,rfl⟩
 rw [AP_prim (show E0.prim 6 = some (yesP fun _ => true) from rfl)]
 rfl
theorem fns : Fa E0 where
 f9 := by kernel_rfl
 p9 := rfl
 f10 := by kernel_rfl
 p10 := rfl
 f11 := by kernel_rfl
 p11 := rfl
 f21 := by kernel_rfl
 p21 := rfl
 f22 := by kernel_rfl
 p22 := rfl
 f27 := by kernel_rfl
 p27 := rfl
 f28 := by kernel_rfl
 p28 := rfl
 f29 := by kernel_rfl
 p29 := rfl
 f30 := by kernel_rfl
 p30 := rfl
 f31 := by kernel_rfl
 p31 := rfl
 f32 := by kernel_rfl
 p32 := rfl
 f33 := by kernel_rfl
 p33 := rfl
 f34 := by kernel_rfl
 p34 := rfl
 f39 := by kernel_rfl
 p39 := rfl
 f40 := by kernel_rfl
 p40 := rfl
 f42 := by kernel_rfl
 p42 := rfl
 f43 := by kernel_rfl
 p43 := rfl
 f56 := by kernel_rfl
 p56 := rfl
 f57 := by kernel_rfl
 p57 := rfl
 f60 := by kernel_rfl
 p60 := rfl
 f61 := by kernel_rfl
 p61 := rfl
 f62 := by kernel_rfl
 p62 := rfl
 f63 := by kernel_rfl
 p63 := rfl
 f68 := by kernel_rfl
 p68 := rfl
 f69 := by kernel_rfl
 p69 := rfl
 f70 := by kernel_rfl
 p70 := rfl
theorem fnsF : Ff E0 where
 f7 := by kernel_rfl
 p7 := rfl
 f8 := by kernel_rfl
 p8 := rfl
 f19 := by kernel_rfl
 p19 := rfl
 f20 := by kernel_rfl
 p20 := rfl
 f24 := by kernel_rfl
 p24 := rfl
 f25 := by kernel_rfl
 p25 := rfl
 f26 := by kernel_rfl
 p26 := rfl
 f50 := by kernel_rfl
 p50 := rfl
 f51 := by kernel_rfl
 p51 := rfl
 f52 := by kernel_rfl
 p52 := rfl
 f53 := by kernel_rfl
 p53 := rfl
 f54 := by kernel_rfl
 p54 := rfl
 f55 := by kernel_rfl
 p55 := rfl
 f64 := by kernel_rfl
 p64 := rfl
 f65 := by kernel_rfl
 p65 := rfl
 f66 := by kernel_rfl
 p66 := rfl
 f71 := by kernel_rfl
 p71 := rfl
 f72 := by kernel_rfl
 p72 := rfl
theorem fnsR : Fr23 E0 where
 f23 := by kernel_rfl
 p23 := rfl
 f44 := by kernel_rfl
 p44 := rfl
 f45 := by kernel_rfl
 p45 := rfl
 f46 := by kernel_rfl
 p46 := rfl
 f47 := by kernel_rfl
 p47 := rfl
 f48 := by kernel_rfl
 p48 := rfl
 f49 := by kernel_rfl
 p49 := rfl
theorem fromE : FromE Try.prog E0 := fromE_of rfl
end Go.Proofs.Ytelbgimbkfjabaa.audit
namespace Go.Proofs.Ytelbgimbkfjabaa.audit
open Go.ChangeShapes Go.WideShapes Go.ChangeAt Go.RowKit Go.AM Go.AM.Sc
set_option maxRecDepth 100000
noncomputable abbrev PP : Program := Try.prog
variable {H' : Type} {h : H} {f : Nat} {t : TypeId} {d : DataW H'} {vs : List V}
theorem bulk_part {d : DataW H'} {l : List (DataW H')} (h : d ∈ l) : Rows.uptoBulk d ≤ Rows.uptoBulkAll l := by
 induction l with
 | nil => cases h
 | cons x r ih =>
  simp only [Rows.uptoBulkAll]
  cases List.mem_cons.1 h with
  | inl e => subst e; omega
  | inr e => have := ih e; omega
theorem bulk_one (d : DataW H') : 1 ≤ Rows.uptoBulk d := by
 cases d with
 | lit l => cases l <;> simp [Rows.uptoBulk]
 | nil => simp [Rows.uptoBulk]
 | ptr d => simp [Rows.uptoBulk]
 | slice elems spare => simp [Rows.uptoBulk]
 | agg parts => simp [Rows.uptoBulk]
 | iface t d => simp [Rows.uptoBulk]
 | map entries => simp [Rows.uptoBulk]
 | held h => simp [Rows.uptoBulk]
theorem bulk_len (l : List (DataW H')) : l.length ≤ Rows.uptoBulkAll l := by
 induction l with
 | nil => simp [Rows.uptoBulkAll]
 | cons x r ih => have := bulk_one x; simp only [Rows.uptoBulkAll,List.length_cons]; omega
theorem bulk_agg {d : DataW H'} {l : List (DataW H')} (h : d ∈ l) (hb : Rows.uptoBulk (.agg l) ≤ 1048576) : Rows.uptoBulk d ≤ 1048576 := by
 have := bulk_part h
 simp only [Rows.uptoBulk] at hb
 omega
theorem bulk_slice {d : DataW H'} {l s : List (DataW H')} (h : d ∈ l) (hb : Rows.uptoBulk (.slice l s) ≤ 1048576) : Rows.uptoBulk d ≤ 1048576 := by
 have := bulk_part h
 simp only [Rows.uptoBulk] at hb
 omega
def InI (n : Int) : Prop := -9223372036854775808 ≤ n ∧ n ≤ 9223372036854775807
theorem rep_bool (hu : PP.underlying t = some .bool) (r : Rep PP h f t d vs) : ∃ b,vs = [.bool b] ∧ True := by
 cases f with
 | zero => exact r.elim
 | succ f =>
  unfold Rep at r
  rw [hu] at r
  obtain ⟨b,_,h2⟩ := r
  exact ⟨b,h2,trivial⟩
theorem rep_int (hu : PP.underlying t = some (.int .i64)) (r : Rep PP h f t d vs) : ∃ n,vs = [iI n] ∧ InI n := by
 cases f with
 | zero => exact r.elim
 | succ f =>
  unfold Rep at r
  rw [hu] at r
  obtain ⟨n,_,h2,h3⟩ := r
  exact ⟨n,h2,by simp [Lit.wf,IntKind.min,IntKind.max,IntKind.signed,IntKind.bits] at h3; exact ⟨by omega,by omega⟩⟩
theorem rep_u8 (hu : PP.underlying t = some (.int .u8)) (r : Rep PP h f t d vs) : ∃ n,vs = [.int .u8 n] ∧ 0 ≤ n ∧ n ≤ 255 := by
 cases f with
 | zero => exact r.elim
 | succ f =>
  unfold Rep at r
  rw [hu] at r
  obtain ⟨n,_,h2,h3⟩ := r
  exact ⟨n,h2,by simp [Lit.wf,IntKind.min,IntKind.max,IntKind.signed,IntKind.bits] at h3; omega⟩
theorem rep_str (hu : PP.underlying t = some .string) (r : Rep PP h f t d vs) (hb : Rows.uptoBulk d ≤ 1048576) : ∃ s,vs = [.str s] ∧ s.length ≤ 1048576 := by
 cases f with
 | zero => exact r.elim
 | succ f =>
  unfold Rep at r
  rw [hu] at r
  obtain ⟨s,rfl,h2⟩ := r
  refine ⟨s,h2,?_⟩
  simp only [Rows.uptoBulk] at hb
  omega
theorem rep_struct {fs : Array Field} (hu : PP.underlying t = some (.struct fs)) (r : Rep PP h f t d vs) :
  ∃ g ds,d = .agg ds ∧ vs.length = PP.cellsOf t ∧ ds.length = fs.size ∧ ∀ (i : Nat) fd y,fs[i]? = some fd → ds[i]? = some y → Rep PP h g fd.type y (getR vs fd.offset (PP.cellsOf fd.type)) := by
 cases f with
 | zero => exact r.elim
 | succ f =>
  unfold Rep at r
  rw [hu] at r
  exact ⟨f,r⟩
theorem rep_arr {n : Nat} {e : TypeId} (hu : PP.underlying t = some (.array n e)) (r : Rep PP h f t d vs) :
  ∃ g ds,d = .agg ds ∧ vs.length = PP.cellsOf t ∧ ds.length = n ∧ ∀ (i : Nat) y,i < n → ds[i]? = some y → Rep PP h g e y (getR vs (i * PP.cellsOf e) (PP.cellsOf e)) := by
 cases f with
 | zero => exact r.elim
 | succ f =>
  unfold Rep at r
  rw [hu] at r
  exact ⟨f,r⟩
theorem getR_add (vs : List V) (o n m : Nat) : getR vs o (n + m) = getR vs o n ++ getR vs (o + n) m := by
 unfold getR
 rw [List.take_add,List.drop_drop]
theorem getR_whole {vs : List V} {n : Nat} (h : vs.length = n) : vs = getR vs 0 n := by
 unfold getR; subst h; simp
theorem sl_elems1 {v : V} {ws : List V} (hs : Sl h 1 v (ws.map fun w => [w])) : elemsV h 1 ws.length v = some ws := by
 generalize hx : (ws.map fun w => [w]) = xs at hs
 cases hs with
 | nil a cap opn =>
  have : ws = [] := by simpa using hx
  subst this
  cases a with
  | none => rfl
  | some p => obtain ⟨i,o⟩ := p; rfl
 | «at» b o cap opn _ vs ty op ro fz hg hl he =>
  subst hx
  rw [List.length_map] at hl
  have hget : getR vs o (ws.length * 1) = ws := by
   apply List.ext_getElem?
   intro k
   unfold getR
   rw [List.getElem?_take]
   by_cases hk : k < ws.length
   ·rw [if_pos (by omega),List.getElem?_eq_getElem hk]
    have := he k [ws[k]] (by simp [hk])
    rw [Nat.mul_one] at this
    have := getR_one this
    rw [List.getElem?_drop]; exact this
   ·rw [if_neg (by omega),List.getElem?_eq_none (by omega)]
  simp only [elemsV,hg]
  by_cases h0 : ws.length * 1 = 0
  ·have : ws = [] := List.eq_nil_of_length_eq_zero (by omega)
   subst this; rfl
  ·rw [if_neg h0,if_pos hl,hget]
theorem bytesV_map : ∀ ns : List Int,bytesV (ns.map fun n => .int .u8 n) = some (ns.map fun n => UInt8.ofNat n.toNat)
 | [] => rfl
 | n :: ns => by simp [bytesV,bytesV_map ns]
theorem map_ex {α β : Type} {p : α → β → Prop} : ∀ {xs : List α},(∀ x ∈ xs, ∃ y,p x y) → ∃ ys : List β,ys.length = xs.length ∧ ∀ (i : Nat) x y,xs[i]? = some x → ys[i]? = some y → p x y
 | [],_ => ⟨[],rfl,by simp⟩
 | x :: xs,h => by
  obtain ⟨y,hy⟩ := h x List.mem_cons_self
  obtain ⟨ys,h1,h2⟩ := map_ex (xs := xs) fun z hz => h z (List.mem_cons_of_mem _ hz)
  refine ⟨y :: ys,by simp [h1],fun i a b ha hb => ?_⟩
  cases i with
  | zero => simp at ha hb; subst ha hb; exact hy
  | succ i => exact h2 i a b (by simpa using ha) (by simpa using hb)
theorem of_parts {α : Type} {g : α → List V} {xs : List (List V)} {ys : List α} (h1 : ys.length = xs.length) (h2 : ∀ (i : Nat) x y,xs[i]? = some x → ys[i]? = some y → x = g y) : xs = ys.map g := by
 apply List.ext_getElem?
 intro i
 rw [List.getElem?_map]
 by_cases hi : i < xs.length
 ·rw [List.getElem?_eq_getElem hi,List.getElem?_eq_getElem (by omega),Option.map_some]
  exact congrArg some (h2 i _ _ (List.getElem?_eq_getElem hi) (List.getElem?_eq_getElem (by omega)))
 ·rw [List.getElem?_eq_none (by omega),List.getElem?_eq_none (by omega)]; rfl
theorem sum_le {α : Type} {q : α → Nat} : ∀ {ys : List α} {es : List (DataW H')},ys.length = es.length → (∀ (i : Nat) y e,ys[i]? = some y → es[i]? = some e → q y ≤ Rows.uptoBulk e) → (ys.map q).sum ≤ Rows.uptoBulkAll es
 | [],[],_,_ => by simp [Rows.uptoBulkAll]
 | [],_ :: _,h,_ => by simp at h
 | _ :: _,[],h,_ => by simp at h
 | y :: ys,e :: es,h,hq => by
  have h1 := hq 0 y e rfl rfl
  have h2 := sum_le (q := q) (ys := ys) (es := es) (by simpa using h) fun i y e hy he => hq (i + 1) y e (by simpa using hy) (by simpa using he)
  simp only [List.map_cons,List.sum_cons,Rows.uptoBulkAll]
  omega
theorem rep_elems {e : TypeId} {α : Type} {g : α → List V} {p : α → Prop} (q : α → Nat) (hu : PP.underlying t = some (.slice e)) (hb : Rows.uptoBulk d ≤ 1048576) (hone : ∀ {g' : Nat} {y : DataW H'} {x : List V},Rep PP h g' e y x → Rows.uptoBulk y ≤ 1048576 → ∃ a,x = g a ∧ p a ∧ q a ≤ Rows.uptoBulk y) (r : Rep PP h f t d vs) :
  ∃ (v : V) (ys : List α),vs = [v] ∧ Sl h (PP.cellsOf e) v (ys.map g) ∧ (∀ y ∈ ys,p y) ∧ ys.length ≤ Rows.uptoBulk d ∧ (ys.map q).sum ≤ Rows.uptoBulk d := by
 cases f with
 | zero => exact r.elim
 | succ f =>
  unfold Rep at r
  rw [hu] at r
  rcases r with ⟨_,h2⟩ | ⟨es,sp,a,cap,xs,rfl,h2,h3,h4,h5⟩
  ·exact ⟨_,[],h2,.nil _ _ _,by simp,by simp,by simp⟩
  ·have hall : ∀ x ∈ xs.zip es, ∃ b,x.1 = g b ∧ p b ∧ q b ≤ Rows.uptoBulk x.2 := by
    intro x hx
    obtain ⟨i,hi,rfl⟩ := List.getElem_of_mem hx
    rw [List.length_zip] at hi
    have hie : i < es.length := by omega
    have hix : i < xs.length := by omega
    rw [List.getElem_zip]
    exact hone (h5 i xs[i] es[i] (List.getElem?_eq_getElem hix) (List.getElem?_eq_getElem hie)) (bulk_slice (List.getElem_mem hie) hb)
   obtain ⟨ys,q1,q2⟩ := map_ex hall
   rw [List.length_zip] at q1
   have hz : ∀ (i : Nat) (hx : i < xs.length) (he : i < es.length),(xs.zip es)[i]? = some (xs[i],es[i]) := fun i hx he => by
    rw [List.getElem?_eq_getElem (by rw [List.length_zip]; omega),List.getElem_zip]
   have hxs : xs = ys.map g := of_parts (by omega) fun i x y hx hy => by
    obtain ⟨hix,rfl⟩ := List.getElem?_eq_some_iff.1 hx
    exact (q2 i _ y (hz i hix (by omega)) hy).1
   refine ⟨_,ys,h2,?_,fun y hy => ?_,?_,?_⟩
   ·rw [← hxs]; exact h3
   ·obtain ⟨i,hi,rfl⟩ := List.getElem_of_mem hy
    exact (q2 i _ ys[i] (hz i (by omega) (by omega)) (List.getElem?_eq_getElem hi)).2.1
   ·have := bulk_len es
    simp only [Rows.uptoBulk]; omega
   ·have := sum_le (q := q) (ys := ys) (es := es) (by omega) fun i y e hy he => by
     obtain ⟨hie,rfl⟩ := List.getElem?_eq_some_iff.1 he
     obtain ⟨hiy,rfl⟩ := List.getElem?_eq_some_iff.1 hy
     exact (q2 i _ ys[i] (hz i (by omega) hie) (List.getElem?_eq_getElem hiy)).2.2
    simp only [Rows.uptoBulk]; omega
theorem cells5 : PP.cellsOf 5 = 1 := by kernel_rfl
theorem cells3 : PP.cellsOf 3 = 1 := by kernel_rfl
theorem rep_bytes (hb : Rows.uptoBulk d ≤ 1048576) (r : Rep PP h f 45 d vs) : ∃ v s,vs = [v] ∧ Str h v s ∧ s.length ≤ 1048576 := by
 obtain ⟨v,ns,h1,h2,_,h5,_⟩ := rep_elems (g := fun n : Int => [.int .u8 n]) (p := fun _ => True) (fun _ => 0) Try.underlying45 hb (fun r _ => (rep_u8 Try.underlying5 r).elim fun n hn => ⟨n,hn.1,trivial,Nat.zero_le _⟩) r
 rw [cells5] at h2
 have h2' : Sl h 1 v ((ns.map fun n => V.int .u8 n).map fun w => [w]) := by rw [List.map_map]; exact h2
 have he := sl_elems1 h2'
 obtain ⟨a,cap,opn,hv⟩ := h2.len
 rw [List.length_map] at he hv
 refine ⟨v,ns.map fun n => UInt8.ofNat n.toNat,h1,?_,by rw [List.length_map]; omega⟩
 cases a with
 | none =>
  rw [hv] at he
  have : ns = [] := by
   cases ns with
   | nil => rfl
   | cons x r => simp [elemsV] at he
  subst this
  exact .inl ⟨_,_,hv,rfl⟩
 | some q => exact .inr ⟨q,_,_,_,_,hv,by rw [hv] at he; exact he,bytesV_map ns⟩
theorem cells36 : PP.cellsOf 36 = 2 := by kernel_rfl
theorem cells38 : PP.cellsOf 38 = 8 := by kernel_rfl
theorem cells40 : PP.cellsOf 40 = 8 := by kernel_rfl
theorem cells42 : PP.cellsOf 42 = 8 := by kernel_rfl
theorem cells44 : PP.cellsOf 44 = 25 := by kernel_rfl
theorem cells47 : PP.cellsOf 47 = 4 := by kernel_rfl
theorem cells49 : PP.cellsOf 49 = 56 := by kernel_rfl
theorem cells59 : PP.cellsOf 59 = 2 := by kernel_rfl
theorem cells63 : PP.cellsOf 63 = 21 := by kernel_rfl
theorem cells67 : PP.cellsOf 67 = 4 := by kernel_rfl
theorem cells115 : PP.cellsOf 115 = 2 := by kernel_rfl
theorem cells113 : PP.cellsOf 113 = 6 := by kernel_rfl
theorem cells111 : PP.cellsOf 111 = 4 := by kernel_rfl
theorem cells2 : PP.cellsOf 2 = 1 := by kernel_rfl
theorem cells4 : PP.cellsOf 4 = 1 := by kernel_rfl
theorem cells9 : PP.cellsOf 9 = 1 := by kernel_rfl
theorem cells109 : PP.cellsOf 109 = 1 := by kernel_rfl
theorem cells39 : PP.cellsOf 39 = 1 := by kernel_rfl
theorem cells45 : PP.cellsOf 45 = 1 := by kernel_rfl
theorem cells32 : PP.cellsOf 32 = 1 := by kernel_rfl
theorem cells60 : PP.cellsOf 60 = 1 := by kernel_rfl
theorem cells61 : PP.cellsOf 61 = 1 := by kernel_rfl
theorem cells65 : PP.cellsOf 65 = 1 := by kernel_rfl
theorem rep_Vec40 (r : Rep PP h f 40 d vs) : ∃ x : Vec,vs = x.cells ∧ (InI x.v0 ∧ InI x.v1 ∧ InI x.v2 ∧ InI x.v3 ∧ InI x.v4 ∧ InI x.v5 ∧ InI x.v6 ∧ InI x.v7) := by
 obtain ⟨g,ds,rfl,hl,hn,hf⟩ := rep_arr Try.underlying40 r
 match ds,hn with
 | [d0,d1,d2,d3,d4,d5,d6,d7],_ =>
  have r0 : Rep PP h g 3 d0 (getR vs (0 * PP.cellsOf 3) (PP.cellsOf 3)) := hf 0 d0 (by decide) rfl
  rw [cells3] at r0
  obtain ⟨x0,e0,p0⟩ := rep_int Try.underlying3 r0
  have r1 : Rep PP h g 3 d1 (getR vs (1 * PP.cellsOf 3) (PP.cellsOf 3)) := hf 1 d1 (by decide) rfl
  rw [cells3] at r1
  obtain ⟨x1,e1,p1⟩ := rep_int Try.underlying3 r1
  have r2 : Rep PP h g 3 d2 (getR vs (2 * PP.cellsOf 3) (PP.cellsOf 3)) := hf 2 d2 (by decide) rfl
  rw [cells3] at r2
  obtain ⟨x2,e2,p2⟩ := rep_int Try.underlying3 r2
  have r3 : Rep PP h g 3 d3 (getR vs (3 * PP.cellsOf 3) (PP.cellsOf 3)) := hf 3 d3 (by decide) rfl
  rw [cells3] at r3
  obtain ⟨x3,e3,p3⟩ := rep_int Try.underlying3 r3
  have r4 : Rep PP h g 3 d4 (getR vs (4 * PP.cellsOf 3) (PP.cellsOf 3)) := hf 4 d4 (by decide) rfl
  rw [cells3] at r4
  obtain ⟨x4,e4,p4⟩ := rep_int Try.underlying3 r4
  have r5 : Rep PP h g 3 d5 (getR vs (5 * PP.cellsOf 3) (PP.cellsOf 3)) := hf 5 d5 (by decide) rfl
  rw [cells3] at r5
  obtain ⟨x5,e5,p5⟩ := rep_int Try.underlying3 r5
  have r6 : Rep PP h g 3 d6 (getR vs (6 * PP.cellsOf 3) (PP.cellsOf 3)) := hf 6 d6 (by decide) rfl
  rw [cells3] at r6
  obtain ⟨x6,e6,p6⟩ := rep_int Try.underlying3 r6
  have r7 : Rep PP h g 3 d7 (getR vs (7 * PP.cellsOf 3) (PP.cellsOf 3)) := hf 7 d7 (by decide) rfl
  rw [cells3] at r7
  obtain ⟨x7,e7,p7⟩ := rep_int Try.underlying3 r7
  refine ⟨⟨x0,x1,x2,x3,x4,x5,x6,x7⟩,?_,p0,p1,p2,p3,p4,p5,p6,p7⟩
  have q0 : getR vs 0 8 = getR vs (0 * 1) 1 ++ getR vs 1 7 := getR_add vs 0 1 7
  have q1 : getR vs 1 7 = getR vs (1 * 1) 1 ++ getR vs 2 6 := getR_add vs 1 1 6
  have q2 : getR vs 2 6 = getR vs (2 * 1) 1 ++ getR vs 3 5 := getR_add vs 2 1 5
  have q3 : getR vs 3 5 = getR vs (3 * 1) 1 ++ getR vs 4 4 := getR_add vs 3 1 4
  have q4 : getR vs 4 4 = getR vs (4 * 1) 1 ++ getR vs 5 3 := getR_add vs 4 1 3
  have q5 : getR vs 5 3 = getR vs (5 * 1) 1 ++ getR vs 6 2 := getR_add vs 5 1 2
  have q6 : getR vs 6 2 = getR vs (6 * 1) 1 ++ getR vs 7 1 := getR_add vs 6 1 1
  have q7 : getR vs 7 1 = getR vs (7 * 1) 1 := rfl
  rw [getR_whole (hl.trans cells40),q0,e0,q1,e1,q2,e2,q3,e3,q4,e4,q5,e5,q6,e6,q7,e7]
  rfl
theorem rep_Vec42 (r : Rep PP h f 42 d vs) : ∃ x : Vec,vs = x.cells ∧ (InI x.v0 ∧ InI x.v1 ∧ InI x.v2 ∧ InI x.v3 ∧ InI x.v4 ∧ InI x.v5 ∧ InI x.v6 ∧ InI x.v7) := by
 obtain ⟨g,ds,rfl,hl,hn,hf⟩ := rep_arr Try.underlying42 r
 match ds,hn with
 | [d0,d1,d2,d3,d4,d5,d6,d7],_ =>
  have r0 : Rep PP h g 2 d0 (getR vs (0 * PP.cellsOf 2) (PP.cellsOf 2)) := hf 0 d0 (by decide) rfl
  rw [cells2] at r0
  obtain ⟨x0,e0,p0⟩ := rep_int Try.underlying2 r0
  have r1 : Rep PP h g 2 d1 (getR vs (1 * PP.cellsOf 2) (PP.cellsOf 2)) := hf 1 d1 (by decide) rfl
  rw [cells2] at r1
  obtain ⟨x1,e1,p1⟩ := rep_int Try.underlying2 r1
  have r2 : Rep PP h g 2 d2 (getR vs (2 * PP.cellsOf 2) (PP.cellsOf 2)) := hf 2 d2 (by decide) rfl
  rw [cells2] at r2
  obtain ⟨x2,e2,p2⟩ := rep_int Try.underlying2 r2
  have r3 : Rep PP h g 2 d3 (getR vs (3 * PP.cellsOf 2) (PP.cellsOf 2)) := hf 3 d3 (by decide) rfl
  rw [cells2] at r3
  obtain ⟨x3,e3,p3⟩ := rep_int Try.underlying2 r3
  have r4 : Rep PP h g 2 d4 (getR vs (4 * PP.cellsOf 2) (PP.cellsOf 2)) := hf 4 d4 (by decide) rfl
  rw [cells2] at r4
  obtain ⟨x4,e4,p4⟩ := rep_int Try.underlying2 r4
  have r5 : Rep PP h g 2 d5 (getR vs (5 * PP.cellsOf 2) (PP.cellsOf 2)) := hf 5 d5 (by decide) rfl
  rw [cells2] at r5
  obtain ⟨x5,e5,p5⟩ := rep_int Try.underlying2 r5
  have r6 : Rep PP h g 2 d6 (getR vs (6 * PP.cellsOf 2) (PP.cellsOf 2)) := hf 6 d6 (by decide) rfl
  rw [cells2] at r6
  obtain ⟨x6,e6,p6⟩ := rep_int Try.underlying2 r6
  have r7 : Rep PP h g 2 d7 (getR vs (7 * PP.cellsOf 2) (PP.cellsOf 2)) := hf 7 d7 (by decide) rfl
  rw [cells2] at r7
  obtain ⟨x7,e7,p7⟩ := rep_int Try.underlying2 r7
  refine ⟨⟨x0,x1,x2,x3,x4,x5,x6,x7⟩,?_,p0,p1,p2,p3,p4,p5,p6,p7⟩
  have q0 : getR vs 0 8 = getR vs (0 * 1) 1 ++ getR vs 1 7 := getR_add vs 0 1 7
  have q1 : getR vs 1 7 = getR vs (1 * 1) 1 ++ getR vs 2 6 := getR_add vs 1 1 6
  have q2 : getR vs 2 6 = getR vs (2 * 1) 1 ++ getR vs 3 5 := getR_add vs 2 1 5
  have q3 : getR vs 3 5 = getR vs (3 * 1) 1 ++ getR vs 4 4 := getR_add vs 3 1 4
  have q4 : getR vs 4 4 = getR vs (4 * 1) 1 ++ getR vs 5 3 := getR_add vs 4 1 3
  have q5 : getR vs 5 3 = getR vs (5 * 1) 1 ++ getR vs 6 2 := getR_add vs 5 1 2
  have q6 : getR vs 6 2 = getR vs (6 * 1) 1 ++ getR vs 7 1 := getR_add vs 6 1 1
  have q7 : getR vs 7 1 = getR vs (7 * 1) 1 := rfl
  rw [getR_whole (hl.trans cells42),q0,e0,q1,e1,q2,e2,q3,e3,q4,e4,q5,e5,q6,e6,q7,e7]
  rfl
theorem rep_Stamp (hb : Rows.uptoBulk d ≤ 1048576) (r : Rep PP h f 36 d vs) : ∃ x : Sc.Stamp,vs = x.cells ∧ True := by
 obtain ⟨g,ds,rfl,hl,hn,hf⟩ := rep_struct Try.underlying36 r
 have hn' : ds.length = 2 := hn
 match ds,hn' with
 | [d0,d1],_ =>
  have r0 : Rep PP h g 2 d0 (getR vs 0 (PP.cellsOf 2)) := hf 0 _ d0 rfl rfl
  rw [cells2] at r0
  obtain ⟨x0,e0,p0⟩ := rep_int Try.underlying2 r0
  have r1 : Rep PP h g 3 d1 (getR vs 1 (PP.cellsOf 3)) := hf 1 _ d1 rfl rfl
  rw [cells3] at r1
  obtain ⟨x1,e1,p1⟩ := rep_int Try.underlying3 r1
  refine ⟨⟨x0,x1⟩,?_,trivial⟩
  have q0 : getR vs 0 2 = getR vs 0 1 ++ getR vs 1 1 := getR_add vs 0 1 1
  rw [getR_whole (hl.trans cells36),q0,e0,e1]
  rfl
theorem rep_Opr (hb : Rows.uptoBulk d ≤ 1048576) (r : Rep PP h f 38 d vs) : ∃ x : Sc.Opr,vs = x.cells ∧ True := by
 obtain ⟨g,ds,rfl,hl,hn,hf⟩ := rep_struct Try.underlying38 r
 have hn' : ds.length = 7 := hn
 match ds,hn' with
 | [d0,d1,d2,d3,d4,d5,d6],_ =>
  have r0 : Rep PP h g 36 d0 (getR vs 0 (PP.cellsOf 36)) := hf 0 _ d0 rfl rfl
  rw [cells36] at r0
  obtain ⟨x0,e0,p0⟩ := rep_Stamp (bulk_agg (by simp) hb) r0
  have r1 : Rep PP h g 3 d1 (getR vs 2 (PP.cellsOf 3)) := hf 1 _ d1 rfl rfl
  rw [cells3] at r1
  obtain ⟨x1,e1,p1⟩ := rep_int Try.underlying3 r1
  have r2 : Rep PP h g 2 d2 (getR vs 3 (PP.cellsOf 2)) := hf 2 _ d2 rfl rfl
  rw [cells2] at r2
  obtain ⟨x2,e2,p2⟩ := rep_int Try.underlying2 r2
  have r3 : Rep PP h g 2 d3 (getR vs 4 (PP.cellsOf 2)) := hf 3 _ d3 rfl rfl
  rw [cells2] at r3
  obtain ⟨x3,e3,p3⟩ := rep_int Try.underlying2 r3
  have r4 : Rep PP h g 9 d4 (getR vs 5 (PP.cellsOf 9)) := hf 4 _ d4 rfl rfl
  rw [cells9] at r4
  obtain ⟨x4,e4,p4⟩ := rep_str Try.underlying9 r4 (bulk_agg (by simp) hb)
  have r5 : Rep PP h g 9 d5 (getR vs 6 (PP.cellsOf 9)) := hf 5 _ d5 rfl rfl
  rw [cells9] at r5
  obtain ⟨x5,e5,p5⟩ := rep_str Try.underlying9 r5 (bulk_agg (by simp) hb)
  have r6 : Rep PP h g 9 d6 (getR vs 7 (PP.cellsOf 9)) := hf 6 _ d6 rfl rfl
  rw [cells9] at r6
  obtain ⟨x6,e6,p6⟩ := rep_str Try.underlying9 r6 (bulk_agg (by simp) hb)
  refine ⟨⟨x0.time,x0.site,x1,x2,x3,x4,x5,x6⟩,?_,trivial⟩
  have q0 : getR vs 0 8 = getR vs 0 2 ++ getR vs 2 6 := getR_add vs 0 2 6
  have q1 : getR vs 2 6 = getR vs 2 1 ++ getR vs 3 5 := getR_add vs 2 1 5
  have q2 : getR vs 3 5 = getR vs 3 1 ++ getR vs 4 4 := getR_add vs 3 1 4
  have q3 : getR vs 4 4 = getR vs 4 1 ++ getR vs 5 3 := getR_add vs 4 1 3
  have q4 : getR vs 5 3 = getR vs 5 1 ++ getR vs 6 2 := getR_add vs 5 1 2
  have q5 : getR vs 6 2 = getR vs 6 1 ++ getR vs 7 1 := getR_add vs 6 1 1
  rw [getR_whole (hl.trans cells38),q0,e0,q1,e1,q2,e2,q3,e3,q4,e4,q5,e5,e6]
  rfl
theorem rep_ops (hb : Rows.uptoBulk d ≤ 1048576) (r : Rep PP h f 39 d vs) : ∃ (v : V) (xs : List (Opr)),vs = [v] ∧ Sl h 8 v (xs.map Opr.cells) ∧ (∀ p ∈ xs,True) ∧ xs.length ≤ Rows.uptoBulk d := by
 obtain ⟨v,xs,h1,h2,h3,h4,_⟩ := rep_elems (g := Opr.cells) (p := fun p => True) (fun _ => 0) Try.underlying39 hb (fun r hb => (rep_Opr hb r).elim fun x hx => ⟨x,hx.1,trivial,Nat.zero_le _⟩) r
 rw [cells38] at h2
 exact ⟨v,xs,h1,h2,h3,h4⟩
theorem rep_Epoch (hb : Rows.uptoBulk d ≤ 1048576) (r : Rep PP h f 44 d vs) : ∃ x : Sc.Epoch,vs = x.cells ∧ True := by
 obtain ⟨g,ds,rfl,hl,hn,hf⟩ := rep_struct Try.underlying44 r
 have hn' : ds.length = 4 := hn
 match ds,hn' with
 | [d0,d1,d2,d3],_ =>
  have r0 : Rep PP h g 2 d0 (getR vs 0 (PP.cellsOf 2)) := hf 0 _ d0 rfl rfl
  rw [cells2] at r0
  obtain ⟨x0,e0,p0⟩ := rep_int Try.underlying2 r0
  have r1 : Rep PP h g 40 d1 (getR vs 1 (PP.cellsOf 40)) := hf 1 _ d1 rfl rfl
  rw [cells40] at r1
  obtain ⟨x1,e1,p1⟩ := rep_Vec40 r1
  have r2 : Rep PP h g 42 d2 (getR vs 9 (PP.cellsOf 42)) := hf 2 _ d2 rfl rfl
  rw [cells42] at r2
  obtain ⟨x2,e2,p2⟩ := rep_Vec42 r2
  have r3 : Rep PP h g 40 d3 (getR vs 17 (PP.cellsOf 40)) := hf 3 _ d3 rfl rfl
  rw [cells40] at r3
  obtain ⟨x3,e3,p3⟩ := rep_Vec40 r3
  refine ⟨⟨x0,x1,x2,x3⟩,?_,trivial⟩
  have q0 : getR vs 0 25 = getR vs 0 1 ++ getR vs 1 24 := getR_add vs 0 1 24
  have q1 : getR vs 1 24 = getR vs 1 8 ++ getR vs 9 16 := getR_add vs 1 8 16
  have q2 : getR vs 9 16 = getR vs 9 8 ++ getR vs 17 8 := getR_add vs 9 8 8
  rw [getR_whole (hl.trans cells44),q0,e0,q1,e1,q2,e2,e3]
  rfl
theorem rep_Part (hb : Rows.uptoBulk d ≤ 1048576) (r : Rep PP h f 47 d vs) : ∃ x : Sc.Part,vs = x.cells ∧ ∃ s,Str h x.data s ∧ s.length ≤ 1048576 := by
 obtain ⟨g,ds,rfl,hl,hn,hf⟩ := rep_struct Try.underlying47 r
 have hn' : ds.length = 4 := hn
 match ds,hn' with
 | [d0,d1,d2,d3],_ =>
  have r0 : Rep PP h g 2 d0 (getR vs 0 (PP.cellsOf 2)) := hf 0 _ d0 rfl rfl
  rw [cells2] at r0
  obtain ⟨x0,e0,p0⟩ := rep_int Try.underlying2 r0
  have r1 : Rep PP h g 3 d1 (getR vs 1 (PP.cellsOf 3)) := hf 1 _ d1 rfl rfl
  rw [cells3] at r1
  obtain ⟨x1,e1,p1⟩ := rep_int Try.underlying3 r1
  have r2 : Rep PP h g 3 d2 (getR vs 2 (PP.cellsOf 3)) := hf 2 _ d2 rfl rfl
  rw [cells3] at r2
  obtain ⟨x2,e2,p2⟩ := rep_int Try.underlying3 r2
  have r3 : Rep PP h g 45 d3 (getR vs 3 (PP.cellsOf 45)) := hf 3 _ d3 rfl rfl
  rw [cells45] at r3
  obtain ⟨x3,s3,e3,p3⟩ := rep_bytes (bulk_agg (by simp) hb) r3
  refine ⟨⟨x0,x1,x2,x3⟩,?_,⟨s3,p3⟩⟩
  have q0 : getR vs 0 4 = getR vs 0 1 ++ getR vs 1 3 := getR_add vs 0 1 3
  have q1 : getR vs 1 3 = getR vs 1 1 ++ getR vs 2 2 := getR_add vs 1 1 2
  have q2 : getR vs 2 2 = getR vs 2 1 ++ getR vs 3 1 := getR_add vs 2 1 1
  rw [getR_whole (hl.trans cells47),q0,e0,q1,e1,q2,e2,e3]
  rfl
theorem rep_Addr (hb : Rows.uptoBulk d ≤ 1048576) (r : Rep PP h f 59 d vs) : ∃ x : Sc.Addr,vs = x.cells ∧ True := by
 obtain ⟨g,ds,rfl,hl,hn,hf⟩ := rep_struct Try.underlying59 r
 have hn' : ds.length = 2 := hn
 match ds,hn' with
 | [d0,d1],_ =>
  have r0 : Rep PP h g 3 d0 (getR vs 0 (PP.cellsOf 3)) := hf 0 _ d0 rfl rfl
  rw [cells3] at r0
  obtain ⟨x0,e0,p0⟩ := rep_int Try.underlying3 r0
  have r1 : Rep PP h g 3 d1 (getR vs 1 (PP.cellsOf 3)) := hf 1 _ d1 rfl rfl
  rw [cells3] at r1
  obtain ⟨x1,e1,p1⟩ := rep_int Try.underlying3 r1
  refine ⟨⟨x0,x1⟩,?_,trivial⟩
  have q0 : getR vs 0 2 = getR vs 0 1 ++ getR vs 1 1 := getR_add vs 0 1 1
  rw [getR_whole (hl.trans cells59),q0,e0,e1]
  rfl
theorem rep_Entry (hb : Rows.uptoBulk d ≤ 1048576) (r : Rep PP h f 49 d vs) : ∃ x : Sc.Entry,vs = x.cells ∧ ∃ d,EIn h x d := by
 obtain ⟨g,ds,rfl,hl,hn,hf⟩ := rep_struct Try.underlying49 r
 have hn' : ds.length = 15 := hn
 match ds,hn' with
 | [d0,d1,d2,d3,d4,d5,d6,d7,d8,d9,d10,d11,d12,d13,d14],_ =>
  have r0 : Rep PP h g 3 d0 (getR vs 0 (PP.cellsOf 3)) := hf 0 _ d0 rfl rfl
  rw [cells3] at r0
  obtain ⟨x0,e0,p0⟩ := rep_int Try.underlying3 r0
  have r1 : Rep PP h g 2 d1 (getR vs 1 (PP.cellsOf 2)) := hf 1 _ d1 rfl rfl
  rw [cells2] at r1
  obtain ⟨x1,e1,p1⟩ := rep_int Try.underlying2 r1
  have r2 : Rep PP h g 2 d2 (getR vs 2 (PP.cellsOf 2)) := hf 2 _ d2 rfl rfl
  rw [cells2] at r2
  obtain ⟨x2,e2,p2⟩ := rep_int Try.underlying2 r2
  have r3 : Rep PP h g 38 d3 (getR vs 3 (PP.cellsOf 38)) := hf 3 _ d3 rfl rfl
  rw [cells38] at r3
  obtain ⟨x3,e3,p3⟩ := rep_Opr (bulk_agg (by simp) hb) r3
  have r4 : Rep PP h g 3 d4 (getR vs 11 (PP.cellsOf 3)) := hf 4 _ d4 rfl rfl
  rw [cells3] at r4
  obtain ⟨x4,e4,p4⟩ := rep_int Try.underlying3 r4
  have r5 : Rep PP h g 2 d5 (getR vs 12 (PP.cellsOf 2)) := hf 5 _ d5 rfl rfl
  rw [cells2] at r5
  obtain ⟨x5,e5,p5⟩ := rep_int Try.underlying2 r5
  have r6 : Rep PP h g 39 d6 (getR vs 13 (PP.cellsOf 39)) := hf 6 _ d6 rfl rfl
  rw [cells39] at r6
  obtain ⟨x6,s6,e6,p6⟩ := rep_ops (bulk_agg (by simp) hb) r6
  have r7 : Rep PP h g 44 d7 (getR vs 14 (PP.cellsOf 44)) := hf 7 _ d7 rfl rfl
  rw [cells44] at r7
  obtain ⟨x7,e7,p7⟩ := rep_Epoch (bulk_agg (by simp) hb) r7
  have r8 : Rep PP h g 3 d8 (getR vs 39 (PP.cellsOf 3)) := hf 8 _ d8 rfl rfl
  rw [cells3] at r8
  obtain ⟨x8,e8,p8⟩ := rep_int Try.underlying3 r8
  have r9 : Rep PP h g 42 d9 (getR vs 40 (PP.cellsOf 42)) := hf 9 _ d9 rfl rfl
  rw [cells42] at r9
  obtain ⟨x9,e9,p9⟩ := rep_Vec42 r9
  have r10 : Rep PP h g 2 d10 (getR vs 48 (PP.cellsOf 2)) := hf 10 _ d10 rfl rfl
  rw [cells2] at r10
  obtain ⟨x10,e10,p10⟩ := rep_int Try.underlying2 r10
  have r11 : Rep PP h g 47 d11 (getR vs 49 (PP.cellsOf 47)) := hf 11 _ d11 rfl rfl
  rw [cells47] at r11
  obtain ⟨x11,e11,p11⟩ := rep_Part (bulk_agg (by simp) hb) r11
  have r12 : Rep PP h g 3 d12 (getR vs 53 (PP.cellsOf 3)) := hf 12 _ d12 rfl rfl
  rw [cells3] at r12
  obtain ⟨x12,e12,p12⟩ := rep_int Try.underlying3 r12
  have r13 : Rep PP h g 3 d13 (getR vs 54 (PP.cellsOf 3)) := hf 13 _ d13 rfl rfl
  rw [cells3] at r13
  obtain ⟨x13,e13,p13⟩ := rep_int Try.underlying3 r13
  have r14 : Rep PP h g 2 d14 (getR vs 55 (PP.cellsOf 2)) := hf 14 _ d14 rfl rfl
  rw [cells2] at r14
  obtain ⟨x14,e14,p14⟩ := rep_int Try.underlying2 r14
  refine ⟨⟨x0,x1,x2,x3,x4,x5,x6,x7,x8,x9,x10,x11,x12,x13,x14⟩,?_,p11.elim fun s hs => ⟨⟨_,s6,s⟩,rfl,p6.1,Nat.le_trans p6.2.2 (bulk_agg (by simp) hb),hs.1,hs.2⟩⟩
  have q0 : getR vs 0 56 = getR vs 0 1 ++ getR vs 1 55 := getR_add vs 0 1 55
  have q1 : getR vs 1 55 = getR vs 1 1 ++ getR vs 2 54 := getR_add vs 1 1 54
  have q2 : getR vs 2 54 = getR vs 2 1 ++ getR vs 3 53 := getR_add vs 2 1 53
  have q3 : getR vs 3 53 = getR vs 3 8 ++ getR vs 11 45 := getR_add vs 3 8 45
  have q4 : getR vs 11 45 = getR vs 11 1 ++ getR vs 12 44 := getR_add vs 11 1 44
  have q5 : getR vs 12 44 = getR vs 12 1 ++ getR vs 13 43 := getR_add vs 12 1 43
  have q6 : getR vs 13 43 = getR vs 13 1 ++ getR vs 14 42 := getR_add vs 13 1 42
  have q7 : getR vs 14 42 = getR vs 14 25 ++ getR vs 39 17 := getR_add vs 14 25 17
  have q8 : getR vs 39 17 = getR vs 39 1 ++ getR vs 40 16 := getR_add vs 39 1 16
  have q9 : getR vs 40 16 = getR vs 40 8 ++ getR vs 48 8 := getR_add vs 40 8 8
  have q10 : getR vs 48 8 = getR vs 48 1 ++ getR vs 49 7 := getR_add vs 48 1 7
  have q11 : getR vs 49 7 = getR vs 49 4 ++ getR vs 53 3 := getR_add vs 49 4 3
  have q12 : getR vs 53 3 = getR vs 53 1 ++ getR vs 54 2 := getR_add vs 53 1 2
  have q13 : getR vs 54 2 = getR vs 54 1 ++ getR vs 55 1 := getR_add vs 54 1 1
  rw [getR_whole (hl.trans cells49),q0,e0,q1,e1,q2,e2,q3,e3,q4,e4,q5,e5,q6,e6,q7,e7,q8,e8,q9,e9,q10,e10,q11,e11,q12,e12,q13,e13,e14]
  rfl
theorem rep_Attr (hb : Rows.uptoBulk d ≤ 1048576) (r : Rep PP h f 115 d vs) : ∃ x : Sc.Attr,vs = x.cells ∧ True := by
 obtain ⟨g,ds,rfl,hl,hn,hf⟩ := rep_struct Try.underlying115 r
 have hn' : ds.length = 2 := hn
 match ds,hn' with
 | [d0,d1],_ =>
  have r0 : Rep PP h g 9 d0 (getR vs 0 (PP.cellsOf 9)) := hf 0 _ d0 rfl rfl
  rw [cells9] at r0
  obtain ⟨x0,e0,p0⟩ := rep_str Try.underlying9 r0 (bulk_agg (by simp) hb)
  have r1 : Rep PP h g 9 d1 (getR vs 1 (PP.cellsOf 9)) := hf 1 _ d1 rfl rfl
  rw [cells9] at r1
  obtain ⟨x1,e1,p1⟩ := rep_str Try.underlying9 r1 (bulk_agg (by simp) hb)
  refine ⟨⟨x0,x1⟩,?_,trivial⟩
  have q0 : getR vs 0 2 = getR vs 0 1 ++ getR vs 1 1 := getR_add vs 0 1 1
  rw [getR_whole (hl.trans cells115),q0,e0,e1]
  rfl
theorem rep_attrs (hb : Rows.uptoBulk d ≤ 1048576) (r : Rep PP h f 65 d vs) : ∃ (v : V) (xs : List (Attr)),vs = [v] ∧ Sl h 2 v (xs.map Attr.cells) ∧ (∀ p ∈ xs,True) ∧ xs.length ≤ Rows.uptoBulk d := by
 obtain ⟨v,xs,h1,h2,h3,h4,_⟩ := rep_elems (g := Attr.cells) (p := fun p => True) (fun _ => 0) Try.underlying65 hb (fun r hb => (rep_Attr hb r).elim fun x hx => ⟨x,hx.1,trivial,Nat.zero_le _⟩) r
 rw [cells115] at h2
 exact ⟨v,xs,h1,h2,h3,h4⟩
theorem rep_TNode (hb : Rows.uptoBulk d ≤ 1048576) (r : Rep PP h f 67 d vs) : ∃ x : Sc.TNode,vs = x.cells ∧ ∃ d,NIn h x d := by
 obtain ⟨g,ds,rfl,hl,hn,hf⟩ := rep_struct Try.underlying67 r
 have hn' : ds.length = 4 := hn
 match ds,hn' with
 | [d0,d1,d2,d3],_ =>
  have r0 : Rep PP h g 2 d0 (getR vs 0 (PP.cellsOf 2)) := hf 0 _ d0 rfl rfl
  rw [cells2] at r0
  obtain ⟨x0,e0,p0⟩ := rep_int Try.underlying2 r0
  have r1 : Rep PP h g 2 d1 (getR vs 1 (PP.cellsOf 2)) := hf 1 _ d1 rfl rfl
  rw [cells2] at r1
  obtain ⟨x1,e1,p1⟩ := rep_int Try.underlying2 r1
  have r2 : Rep PP h g 9 d2 (getR vs 2 (PP.cellsOf 9)) := hf 2 _ d2 rfl rfl
  rw [cells9] at r2
  obtain ⟨x2,e2,p2⟩ := rep_str Try.underlying9 r2 (bulk_agg (by simp) hb)
  have r3 : Rep PP h g 65 d3 (getR vs 3 (PP.cellsOf 65)) := hf 3 _ d3 rfl rfl
  rw [cells65] at r3
  obtain ⟨x3,s3,e3,p3⟩ := rep_attrs (bulk_agg (by simp) hb) r3
  refine ⟨⟨x0,x1,x2,x3⟩,?_,⟨⟨x0,x1,x2,s3⟩,rfl,rfl,rfl,p3.1,Nat.le_trans p3.2.2 (bulk_agg (by simp) hb)⟩⟩
  have q0 : getR vs 0 4 = getR vs 0 1 ++ getR vs 1 3 := getR_add vs 0 1 3
  have q1 : getR vs 1 3 = getR vs 1 1 ++ getR vs 2 2 := getR_add vs 1 1 2
  have q2 : getR vs 2 2 = getR vs 2 1 ++ getR vs 3 1 := getR_add vs 2 1 1
  rw [getR_whole (hl.trans cells67),q0,e0,q1,e1,q2,e2,e3]
  rfl
theorem rep_Reply (hb : Rows.uptoBulk d ≤ 1048576) (r : Rep PP h f 111 d vs) : ∃ x : Sc.Reply,vs = x.cells ∧ True := by
 obtain ⟨g,ds,rfl,hl,hn,hf⟩ := rep_struct Try.underlying111 r
 have hn' : ds.length = 3 := hn
 match ds,hn' with
 | [d0,d1,d2],_ =>
  have r0 : Rep PP h g 109 d0 (getR vs 0 (PP.cellsOf 109)) := hf 0 _ d0 rfl rfl
  rw [cells109] at r0
  obtain ⟨x0,e0,p0⟩ := rep_int Try.underlying109 r0
  have r1 : Rep PP h g 36 d1 (getR vs 1 (PP.cellsOf 36)) := hf 1 _ d1 rfl rfl
  rw [cells36] at r1
  obtain ⟨x1,e1,p1⟩ := rep_Stamp (bulk_agg (by simp) hb) r1
  have r2 : Rep PP h g 2 d2 (getR vs 3 (PP.cellsOf 2)) := hf 2 _ d2 rfl rfl
  rw [cells2] at r2
  obtain ⟨x2,e2,p2⟩ := rep_int Try.underlying2 r2
  refine ⟨⟨x0,x1,x2⟩,?_,trivial⟩
  have q0 : getR vs 0 4 = getR vs 0 1 ++ getR vs 1 3 := getR_add vs 0 1 3
  have q1 : getR vs 1 3 = getR vs 1 2 ++ getR vs 3 1 := getR_add vs 1 2 1
  rw [getR_whole (hl.trans cells111),q0,e0,q1,e1,e2]
  rfl
theorem rep_Row (hb : Rows.uptoBulk d ≤ 1048576) (r : Rep PP h f 113 d vs) : ∃ x : Sc.Row,vs = x.cells ∧ True := by
 obtain ⟨g,ds,rfl,hl,hn,hf⟩ := rep_struct Try.underlying113 r
 have hn' : ds.length = 3 := hn
 match ds,hn' with
 | [d0,d1,d2],_ =>
  have r0 : Rep PP h g 2 d0 (getR vs 0 (PP.cellsOf 2)) := hf 0 _ d0 rfl rfl
  rw [cells2] at r0
  obtain ⟨x0,e0,p0⟩ := rep_int Try.underlying2 r0
  have r1 : Rep PP h g 2 d1 (getR vs 1 (PP.cellsOf 2)) := hf 1 _ d1 rfl rfl
  rw [cells2] at r1
  obtain ⟨x1,e1,p1⟩ := rep_int Try.underlying2 r1
  have r2 : Rep PP h g 111 d2 (getR vs 2 (PP.cellsOf 111)) := hf 2 _ d2 rfl rfl
  rw [cells111] at r2
  obtain ⟨x2,e2,p2⟩ := rep_Reply (bulk_agg (by simp) hb) r2
  refine ⟨⟨x0,x1,x2⟩,?_,trivial⟩
  have q0 : getR vs 0 6 = getR vs 0 1 ++ getR vs 1 5 := getR_add vs 0 1 5
  have q1 : getR vs 1 5 = getR vs 1 1 ++ getR vs 2 4 := getR_add vs 1 1 4
  rw [getR_whole (hl.trans cells113),q0,e0,q1,e1,e2]
  rfl
theorem rep_rws (hb : Rows.uptoBulk d ≤ 1048576) (r : Rep PP h f 61 d vs) : ∃ (v : V) (xs : List (Row)),vs = [v] ∧ Sl h 6 v (xs.map Row.cells) ∧ (∀ p ∈ xs,True) ∧ xs.length ≤ Rows.uptoBulk d := by
 obtain ⟨v,xs,h1,h2,h3,h4,_⟩ := rep_elems (g := Row.cells) (p := fun p => True) (fun _ => 0) Try.underlying61 hb (fun r hb => (rep_Row hb r).elim fun x hx => ⟨x,hx.1,trivial,Nat.zero_le _⟩) r
 rw [cells113] at h2
 exact ⟨v,xs,h1,h2,h3,h4⟩
theorem rep_ents (hb : Rows.uptoBulk d ≤ 1048576) (r : Rep PP h f 32 d vs) : ∃ (v : V) (xs : List (Entry × DEnt)),vs = [v] ∧ Sl h 56 v (xs.map fun p => p.1.cells) ∧ (∀ p ∈ xs,EIn h p.1 p.2) ∧ xs.length ≤ Rows.uptoBulk d := by
 obtain ⟨v,xs,h1,h2,h3,h4,_⟩ := rep_elems (g := fun p => p.1.cells) (p := fun p => EIn h p.1 p.2) (fun _ => 0) Try.underlying32 hb (fun r hb => (rep_Entry hb r).elim fun x hx => hx.2.elim fun d hd => ⟨(x,d),hx.1,hd,Nat.zero_le _⟩) r
 rw [cells49] at h2
 exact ⟨v,xs,h1,h2,h3,h4⟩
theorem rep_nodes (hb : Rows.uptoBulk d ≤ 1048576) (r : Rep PP h f 60 d vs) : ∃ (v : V) (xs : List (TNode × DNode)),vs = [v] ∧ Sl h 4 v (xs.map fun p => p.1.cells) ∧ (∀ p ∈ xs,NIn h p.1 p.2) ∧ xs.length ≤ Rows.uptoBulk d := by
 obtain ⟨v,xs,h1,h2,h3,h4,_⟩ := rep_elems (g := fun p => p.1.cells) (p := fun p => NIn h p.1 p.2) (fun _ => 0) Try.underlying60 hb (fun r hb => (rep_TNode hb r).elim fun x hx => hx.2.elim fun d hd => ⟨(x,d),hx.1,hd,Nat.zero_le _⟩) r
 rw [cells67] at h2
 exact ⟨v,xs,h1,h2,h3,h4⟩
theorem bulk_view {d0 d1 d2 d3 d4 d5 d6 d7 d8 d9 d10 d11 d12 : DataW H'} {n : Nat} (h : n ≤ Rows.uptoBulk d6) : n + 4 ≤ Rows.uptoBulk (.agg [d0,d1,d2,d3,d4,d5,d6,d7,d8,d9,d10,d11,d12]) := by
 have := bulk_one d0; have := bulk_one d1; have := bulk_one d2; have := bulk_one d3
 simp only [Rows.uptoBulk,Rows.uptoBulkAll]
 omega
theorem rep_View (hb : Rows.uptoBulk d ≤ 1048576) (r : Rep PP h f 63 d vs) : ∃ x : Sc.View,vs = x.cells ∧ ∃ w : WV,w.x = x ∧ VIn h w ∧ w.es.length + 4 ≤ Rows.uptoBulk d := by
 obtain ⟨g,ds,rfl,hl,hn,hf⟩ := rep_struct Try.underlying63 r
 have hn' : ds.length = 13 := hn
 match ds,hn' with
 | [d0,d1,d2,d3,d4,d5,d6,d7,d8,d9,d10,d11,d12],_ =>
  have r0 : Rep PP h g 59 d0 (getR vs 0 (PP.cellsOf 59)) := hf 0 _ d0 rfl rfl
  rw [cells59] at r0
  obtain ⟨x0,e0,p0⟩ := rep_Addr (bulk_agg (by simp) hb) r0
  have r1 : Rep PP h g 4 d1 (getR vs 2 (PP.cellsOf 4)) := hf 1 _ d1 rfl rfl
  rw [cells4] at r1
  obtain ⟨x1,e1,p1⟩ := rep_bool Try.underlying4 r1
  have r2 : Rep PP h g 4 d2 (getR vs 3 (PP.cellsOf 4)) := hf 2 _ d2 rfl rfl
  rw [cells4] at r2
  obtain ⟨x2,e2,p2⟩ := rep_bool Try.underlying4 r2
  have r3 : Rep PP h g 4 d3 (getR vs 4 (PP.cellsOf 4)) := hf 3 _ d3 rfl rfl
  rw [cells4] at r3
  obtain ⟨x3,e3,p3⟩ := rep_bool Try.underlying4 r3
  have r4 : Rep PP h g 2 d4 (getR vs 5 (PP.cellsOf 2)) := hf 4 _ d4 rfl rfl
  rw [cells2] at r4
  obtain ⟨x4,e4,p4⟩ := rep_int Try.underlying2 r4
  have r5 : Rep PP h g 2 d5 (getR vs 6 (PP.cellsOf 2)) := hf 5 _ d5 rfl rfl
  rw [cells2] at r5
  obtain ⟨x5,e5,p5⟩ := rep_int Try.underlying2 r5
  have r6 : Rep PP h g 32 d6 (getR vs 7 (PP.cellsOf 32)) := hf 6 _ d6 rfl rfl
  rw [cells32] at r6
  obtain ⟨x6,s6,e6,p6⟩ := rep_ents (bulk_agg (by simp) hb) r6
  have r7 : Rep PP h g 2 d7 (getR vs 8 (PP.cellsOf 2)) := hf 7 _ d7 rfl rfl
  rw [cells2] at r7
  obtain ⟨x7,e7,p7⟩ := rep_int Try.underlying2 r7
  have r8 : Rep PP h g 2 d8 (getR vs 9 (PP.cellsOf 2)) := hf 8 _ d8 rfl rfl
  rw [cells2] at r8
  obtain ⟨x8,e8,p8⟩ := rep_int Try.underlying2 r8
  have r9 : Rep PP h g 2 d9 (getR vs 10 (PP.cellsOf 2)) := hf 9 _ d9 rfl rfl
  rw [cells2] at r9
  obtain ⟨x9,e9,p9⟩ := rep_int Try.underlying2 r9
  have r10 : Rep PP h g 42 d10 (getR vs 11 (PP.cellsOf 42)) := hf 10 _ d10 rfl rfl
  rw [cells42] at r10
  obtain ⟨x10,e10,p10⟩ := rep_Vec42 r10
  have r11 : Rep PP h g 60 d11 (getR vs 19 (PP.cellsOf 60)) := hf 11 _ d11 rfl rfl
  rw [cells60] at r11
  obtain ⟨x11,s11,e11,p11⟩ := rep_nodes (bulk_agg (by simp) hb) r11
  have r12 : Rep PP h g 61 d12 (getR vs 20 (PP.cellsOf 61)) := hf 12 _ d12 rfl rfl
  rw [cells61] at r12
  obtain ⟨x12,s12,e12,p12⟩ := rep_rws (bulk_agg (by simp) hb) r12
  refine ⟨⟨x0,x1,x2,x3,x4,x5,x6,x7,x8,x9,x10,x11,x12⟩,?_,⟨⟨_,s6,s11,s12⟩,rfl,⟨p6.1,p6.2.1,Nat.le_trans p6.2.2 (bulk_agg (by simp) hb),p11.1,p11.2.1,Nat.le_trans p11.2.2 (bulk_agg (by simp) hb),p12.1,Nat.le_trans p12.2.2 (bulk_agg (by simp) hb)⟩,bulk_view p6.2.2⟩⟩
  have q0 : getR vs 0 21 = getR vs 0 2 ++ getR vs 2 19 := getR_add vs 0 2 19
  have q1 : getR vs 2 19 = getR vs 2 1 ++ getR vs 3 18 := getR_add vs 2 1 18
  have q2 : getR vs 3 18 = getR vs 3 1 ++ getR vs 4 17 := getR_add vs 3 1 17
  have q3 : getR vs 4 17 = getR vs 4 1 ++ getR vs 5 16 := getR_add vs 4 1 16
  have q4 : getR vs 5 16 = getR vs 5 1 ++ getR vs 6 15 := getR_add vs 5 1 15
  have q5 : getR vs 6 15 = getR vs 6 1 ++ getR vs 7 14 := getR_add vs 6 1 14
  have q6 : getR vs 7 14 = getR vs 7 1 ++ getR vs 8 13 := getR_add vs 7 1 13
  have q7 : getR vs 8 13 = getR vs 8 1 ++ getR vs 9 12 := getR_add vs 8 1 12
  have q8 : getR vs 9 12 = getR vs 9 1 ++ getR vs 10 11 := getR_add vs 9 1 11
  have q9 : getR vs 10 11 = getR vs 10 1 ++ getR vs 11 10 := getR_add vs 10 1 10
  have q10 : getR vs 11 10 = getR vs 11 8 ++ getR vs 19 2 := getR_add vs 11 8 2
  have q11 : getR vs 19 2 = getR vs 19 1 ++ getR vs 20 1 := getR_add vs 19 1 1
  rw [getR_whole (hl.trans cells63),q0,e0,q1,e1,q2,e2,q3,e3,q4,e4,q5,e5,q6,e6,q7,e7,q8,e8,q9,e9,q10,e10,q11,e11,e12]
  rfl
theorem rep_views (hb : Rows.uptoBulk d ≤ 1048576) (r : Rep PP h f 22 d vs) : ∃ (v : V) (ws : List WV),vs = [v] ∧ VsIn h v ws ∧ (ws.map fun w => w.es.length + 4).sum ≤ 1048576 := by
 obtain ⟨v,ws,h1,h2,h3,h4,h5⟩ := rep_elems (g := fun w : WV => w.x.cells) (p := fun w => VIn h w) (fun w => w.es.length + 4) Try.underlying22 hb (fun r hb => (rep_View hb r).elim fun x hx => hx.2.elim fun w hw => ⟨w,by rw [hw.1]; exact hx.1,hw.2.1,hw.2.2⟩) r
 rw [cells63] at h2
 exact ⟨v,ws,h1,⟨h2,h3,by omega⟩,Nat.le_trans h5 hb⟩
end Go.Proofs.Ytelbgimbkfjabaa.audit
