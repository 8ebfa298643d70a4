/- The table that the law's row lists, the evaluator's first heap, the program's functions as the evaluator holds them. -/
import Derived.Test.YtpijmjmbjoopaaaDoorCards
import Derived.Test.YtpijmjmbjoopaaaDoorTie
import Derived.Deep.DeepWitnessRowRef
import Derived.Stop.LaidErr
import Derived.Test.YtpijmjmbjoopaaaDoorScZ4ToScZ6
import Derived.Test.YtpijmjmbjoopaaaDoorScErr
import Derived.Test.YtpijmjmbjoopaaaDoorScShelf
import Derived.Test.YtpijmjmbjoopaaaDoorScShelf2
set_option linter.unusedSimpArgs false
set_option linter.unusedVariables false
namespace Go.Proofs.YtpijmjmbjoopaaaDoor.script
open Go.ChangeShapes Go.WideShapes Go.ChangeAt Go.RowKit Go.AM Go.AM.Sc
set_option maxRecDepth 100000
theorem own : ownKnob Tryd.prog.godebug = none := by kernel_rfl
theorem mixed : Tryd.prog.follows .mixedOrders = true := by kernel_rfl
theorem laidOut : laidOutB Tryd.prog = true := by kernel_rfl
def powTab : List Int := [1,10,100,1000,10000,100000,1000000,10000000,100000000,1000000000,10000000000,100000000000,1000000000000,10000000000000,100000000000000,1000000000000000,10000000000000000,100000000000000000,1000000000000000000,10000000000000000000]
theorem pow_eq : powTab = Lib.pow10Tab := by decide
def h0 : H := H.lay 6 [(0,.cells (ints .u64 powTab) 118 false true none),(1,.cells [.iface 127 .junk] 66 false true none)]
theorem h0_get (i : Nat) (o : AM.Obj) (h : h0.get i = some o) : (i = 0 ∧ o = .cells (ints .u64 powTab) 118 false true none) ∨ (i = 1 ∧ o = .cells [.iface 127 .junk] 66 false true none) := by
  have hlt' : i < 6 := H.get_lt h
  match i,hlt' with
  | 0,_ => exact .inl ⟨rfl,Option.some.inj (h.symm.trans (show h0.get 0 = some (.cells (ints .u64 powTab) 118 false true none) from rfl))⟩
  | 1,_ => exact .inr ⟨rfl,Option.some.inj (h.symm.trans (show h0.get 1 = some (.cells [.iface 127 .junk] 66 false true none) from rfl))⟩
  | 2,_ => exact absurd (h.symm.trans (show h0.get 2 = none from rfl)) (by simp)
  | 3,_ => exact absurd (h.symm.trans (show h0.get 3 = none from rfl)) (by simp)
  | 4,_ => exact absurd (h.symm.trans (show h0.get 4 = none from rfl)) (by simp)
  | 5,_ => exact absurd (h.symm.trans (show h0.get 5 = none from rfl)) (by simp)
theorem h0_tb : Tb 0 118 h0 := by
  unfold Tb
  rw [← pow_eq]; rfl
def T1 (h : H) : Prop := Tb 0 118 h ∧ Es 1 127 66 h
theorem h0_t : T1 h0 := ⟨h0_tb,rfl⟩
theorem globals : Tryd.prog.globals.size = 6 := by kernel_rfl
theorem g_pow : Tryd.prog.globalNamed "internal/strconv.uint64pow10" = some 0 := by kernel_rfl
theorem row_pow : (((begin Tryd.prog (fun _ _ => 0) default).world.heap[0]?).bind Obj.row?).map (·.2) = some 118 := by kernel_rfl
theorem block_of_tab {W : World} {name : String} {k : IntKind} {zs : List Int} {g : Nat} {ty : TypeId} {zero : Array Value} (ht : Lib.TabIs Tryd.prog W name k zs) (hg : Tryd.prog.globalNamed name = some g) (hs : W.ShapedOpen Tryd.prog) (hlt : g < Tryd.prog.globals.size)
    (hrow : ((begin Tryd.prog (fun _ _ => 0) default).world.heap[g]?).bind Obj.row? = some (zero,ty)) : W.heap[g]? = some (.cells (zs.map fun z => Value.int k z).toArray ty) := by
  obtain ⟨cs,h1,_⟩ := hs.1 g zero ty hlt hrow
  unfold Lib.TabIs World.var? at ht
  rw [hg] at ht
  simp only [Option.bind_some,h1,Option.some.injEq] at ht
  rw [h1,ht]
theorem g_es : Tryd.prog.globalNamed "strconv.ErrSyntax" = some 1 := by kernel_rfl
theorem row_es : (((begin Tryd.prog (fun _ _ => 0) default).world.heap[1]?).bind Obj.row?).map (·.2) = some 66 := by kernel_rfl
theorem startHR_of {W : World} (ht : Lib.TabIs Tryd.prog W "internal/strconv.uint64pow10" .u64 powTab) (he : ∃ a, W.var? Tryd.prog "strconv.ErrSyntax" = some #[.iface 127 (.pointer (some a))]) (hs : W.ShapedOpen Tryd.prog) (hsz : 6 ≤ W.heap.size) : HR Tryd.prog (map0 Tryd.prog) h0 W := by
  obtain ⟨⟨z0,t0⟩,r0,e0⟩ := Option.map_eq_some_iff.1 row_pow
  simp only at e0
  subst e0
  have b0 := block_of_tab ht g_pow hs (by rw [globals]; decide) r0
  obtain ⟨⟨z1,t1⟩,r1,e1⟩ := Option.map_eq_some_iff.1 row_es
  simp only at e1
  subst e1
  obtain ⟨a,ha⟩ := he
  have b1 : W.heap[1]? = some (.cells #[.iface 127 (.pointer (some a))] 66) := by
    obtain ⟨cs,h1,_⟩ := hs.1 1 z1 66 (by rw [globals]; decide) r1
    unfold World.var? at ha
    rw [g_es] at ha
    simp only [Option.bind_some,h1,Option.some.injEq] at ha
    rw [h1,ha]
  refine HR.init2 trivial globals.symm (by rw [globals]; exact hsz) fun i o hg => .inr ?_
  rcases h0_get i o hg with ⟨rfl,rfl⟩ | ⟨rfl,rfl⟩
  · exact ⟨_,_,_,rfl,b0,VRL_ints _ _ _⟩
  · exact ⟨_,[.iface 127 (.pointer (some a))],_,rfl,b1,_,_,⟨_,⟨rfl,fun b hb => (by cases hb),fun hb => (by cases hb)⟩,rfl⟩,rfl,rfl⟩
theorem h0_ro : RO h0 := fun i o h => by
  rcases h0_get i o h with ⟨_,rfl⟩ | ⟨_,rfl⟩ <;> rfl
noncomputable def prim : Nat → Option (List V → H → Option (V × H))
  | 53 => some (itoaP 0 118)
  | 54 => some (fmt10P 0 118)
  | 58 => some (toErrP 1 127 66)
  | _ => none
theorem primOK : PrimOK Tryd.prog prim := by
  intro g f hf
  unfold prim at hf
  split at hf
  · cases hf
    exact ⟨⟨_,Tryd.func53,by kernel_rfl,by decide⟩,fun args h v h' m w xs he hr hx n => itoa_ok g_pow (by rw [globals]; decide) (fun n h1 h2 w ht => Tryd.internal_strconv_Itoa n h1 h2 w ht) he hr hx n⟩
  · cases hf
    exact ⟨⟨_,Tryd.func54,by kernel_rfl,by decide⟩,fun args h v h' m w xs he hr hx n => fmt10_ok g_pow (by rw [globals]; decide) (fun n h1 h2 w ht => Tryd.internal_strconv_FormatInt_10 n h1 h2 w ht) he hr hx n⟩
  · cases hf
    exact ⟨⟨_,Tryd.func58,by kernel_rfl,by decide⟩,fun args h v h' m w xs he hr hx n => toErr_ok (by rw [globals]; decide) (fun fn s base bits ev w hl hv hev => Tryd.strconv_toError_syntax fn s base bits ev w hl hv hev) he hr hx n⟩
  · cases hf
noncomputable def E0 : Env := envOf Tryd.prog prim
theorem fns : Fnz Tryd.prog E0 T1 where
  tkeep h h' t hk := ⟨Tb.keep h h' t.1 hk,Es.keep h h' t.2 hk⟩
  num53 n h hn ht := by
    refine ⟨.str (Lib.itoa n),h,?_,rfl,rfl⟩
    rw [AP_prim (show E0.prim 53 = some (itoaP 0 118) from rfl)]
    exact if_pos ⟨ht.1,hn.1,hn.2⟩
  num54 n h hn ht := by
    refine ⟨.str (Lib.itoa n),h,?_,rfl,rfl⟩
    rw [AP_prim (show E0.prim 54 = some (fmt10P 0 118) from rfl)]
    exact if_pos ⟨ht.1,hn.1,hn.2⟩
  f16 := by kernel_rfl
  p16 := rfl
  f17 := by kernel_rfl
  p17 := rfl
  f18 := by kernel_rfl
  p18 := rfl
  f19 := by kernel_rfl
  p19 := rfl
  f24 := by kernel_rfl
  p24 := rfl
  f25 := by kernel_rfl
  p25 := rfl
  f26 := by kernel_rfl
  p26 := rfl
  f44 := by kernel_rfl
  p44 := rfl
  f45 := by kernel_rfl
  p45 := rfl
  f27 := by kernel_rfl
  p27 := rfl
  f30 := by kernel_rfl
  p30 := rfl
  f31 := by kernel_rfl
  p31 := rfl
  f39 := by kernel_rfl
  p39 := rfl
  f41 := by kernel_rfl
  p41 := rfl
  f42 := by kernel_rfl
  p42 := rfl
  f9 := by kernel_rfl
  p9 := rfl
  f10 := by kernel_rfl
  p10 := rfl
  f12 := by kernel_rfl
  p12 := rfl
  f13 := by kernel_rfl
  p13 := rfl
  f6 := by kernel_rfl
  p6 := rfl
  f21 := by kernel_rfl
  p21 := rfl
  f28 := by kernel_rfl
  p28 := rfl
  f29 := by kernel_rfl
  p29 := rfl
  f32 := by kernel_rfl
  p32 := rfl
  f33 := by kernel_rfl
  p33 := rfl
  f34 := by kernel_rfl
  p34 := rfl
  f35 := by kernel_rfl
  p35 := rfl
  f43 := by kernel_rfl
  p43 := rfl
  f46 := by kernel_rfl
  p46 := rfl
  f47 := by kernel_rfl
  p47 := rfl
  f8 := by kernel_rfl
  p8 := rfl
  f20 := by kernel_rfl
  p20 := rfl
  f22 := by kernel_rfl
  p22 := rfl
  f38 := by kernel_rfl
  p38 := rfl
  f40 := by kernel_rfl
  p40 := rfl
  f51 := by kernel_rfl
  p51 := rfl
  f59 := by kernel_rfl
  p59 := rfl
  bt := by unfold BT; kernel_rfl
  toErr s h hs ht := by
    refine ⟨.junk,h,?_,rfl,rfl⟩
    rw [AP_prim (show E0.prim 58 = some (toErrP 1 127 66) from rfl)]
    exact if_pos ⟨ht.2,hs⟩
  f5 := by kernel_rfl
  p5 := rfl
  f14 := by kernel_rfl
  p14 := rfl
  f15 := by kernel_rfl
  p15 := rfl
  f36 := by kernel_rfl
  p36 := rfl
  f37 := by kernel_rfl
  p37 := rfl
  f48 := by kernel_rfl
  p48 := rfl
  f49 := by kernel_rfl
  p49 := rfl
  f50 := by kernel_rfl
  p50 := rfl
  f55 := by kernel_rfl
  p55 := rfl
  f56 := by kernel_rfl
  p56 := rfl
  f57 := by kernel_rfl
  p57 := rfl
  f64 := by kernel_rfl
  p64 := rfl
  f65 := by kernel_rfl
  p65 := rfl
  f66 := by kernel_rfl
  p66 := rfl
end Go.Proofs.YtpijmjmbjoopaaaDoor.script
/- What the arguments' readings hold, in the evaluator's heap: steps, entries, worlds. -/
namespace Go.Proofs.YtpijmjmbjoopaaaDoor.script
open Go.ChangeShapes Go.WideShapes Go.ChangeAt Go.RowKit Go.AM Go.AM.Sc
set_option maxRecDepth 100000
noncomputable abbrev PP : Program := Tryd.prog
variable {H' : Type} {h : H} {f N : Nat} {t : TypeId} {d : DataW H'} {vs : List V}
theorem bulk_part {d : DataW H'} {l : List (DataW H')} (h : d ∈ l) : Rows.uptoBulk d ≤ Rows.uptoBulkAll l := by
  induction l with
  | nil => cases h
  | cons x r ih =>
    simp only [Rows.uptoBulkAll]
    cases List.mem_cons.1 h with
    | inl e => subst e; omega
    | inr e => have := ih e; omega
theorem bulk_one (d : DataW H') : 1 ≤ Rows.uptoBulk d := by
  cases d with
  | lit l => cases l <;> simp [Rows.uptoBulk]
  | nil => simp [Rows.uptoBulk]
  | ptr d => simp [Rows.uptoBulk]
  | slice elems spare => simp [Rows.uptoBulk]
  | agg parts => simp [Rows.uptoBulk]
  | iface t d => simp [Rows.uptoBulk]
  | map entries => simp [Rows.uptoBulk]
  | held h => simp [Rows.uptoBulk]
theorem bulk_len (l : List (DataW H')) : l.length ≤ Rows.uptoBulkAll l := by
  induction l with
  | nil => simp [Rows.uptoBulkAll]
  | cons x r ih => have := bulk_one x; simp only [Rows.uptoBulkAll,List.length_cons]; omega
theorem bulk_agg {d : DataW H'} {l : List (DataW H')} (h : d ∈ l) (hb : Rows.uptoBulk (.agg l) ≤ N) : Rows.uptoBulk d ≤ N := by
  have := bulk_part h
  simp only [Rows.uptoBulk] at hb
  omega
theorem bulk_slice {d : DataW H'} {l s : List (DataW H')} (h : d ∈ l) (hb : Rows.uptoBulk (.slice l s) ≤ N) : Rows.uptoBulk d ≤ N := by
  have := bulk_part h
  simp only [Rows.uptoBulk] at hb
  omega
theorem bulk_slen {l s : List (DataW H')} (hb : Rows.uptoBulk (.slice l s) ≤ N) : l.length ≤ N := by
  have := bulk_len l
  simp only [Rows.uptoBulk] at hb
  omega
theorem rep_int (hu : PP.underlying t = some (.int .i64)) (r : Rep PP h f t d vs) : ∃ n,vs = [.int .i64 n] ∧ InI n := by
  cases f with
  | zero => exact r.elim
  | succ f =>
    unfold Rep at r
    rw [hu] at r
    obtain ⟨n,_,h2,h3⟩ := r
    exact ⟨n,h2,by simp [Lit.wf,IntKind.min,IntKind.max,IntKind.signed,IntKind.bits] at h3; exact ⟨by omega,by omega⟩⟩
theorem rep_u8 (hu : PP.underlying t = some (.int .u8)) (r : Rep PP h f t d vs) : ∃ n,vs = [.int .u8 n] ∧ 0 ≤ n ∧ n ≤ 255 := by
  cases f with
  | zero => exact r.elim
  | succ f =>
    unfold Rep at r
    rw [hu] at r
    obtain ⟨n,_,h2,h3⟩ := r
    exact ⟨n,h2,by simp [Lit.wf,IntKind.min,IntKind.max,IntKind.signed,IntKind.bits] at h3; omega⟩
theorem rep_str (hu : PP.underlying t = some .string) (r : Rep PP h f t d vs) (hb : Rows.uptoBulk d ≤ N) : ∃ s,vs = [.str s] ∧ s.length ≤ N := by
  cases f with
  | zero => exact r.elim
  | succ f =>
    unfold Rep at r
    rw [hu] at r
    obtain ⟨s,rfl,h2⟩ := r
    refine ⟨s,h2,?_⟩
    simp only [Rows.uptoBulk] at hb
    omega
theorem rep_slice {e : TypeId} (hu : PP.underlying t = some (.slice e)) (r : Rep PP h f t d vs) : ∃ a n c o,vs = [.slice a n c o] := by
  cases f with
  | zero => exact r.elim
  | succ f =>
    unfold Rep at r
    rw [hu] at r
    rcases r with ⟨_,h2⟩ | ⟨es,sp,a,cap,xs,_,h2,_⟩
    · exact ⟨_,_,_,_,h2⟩
    · exact ⟨_,_,_,_,h2⟩
theorem rep_struct {fs : Array Field} (hu : PP.underlying t = some (.struct fs)) (r : Rep PP h f t d vs) :
    ∃ g ds,d = .agg ds ∧ vs.length = PP.cellsOf t ∧ ds.length = fs.size ∧ ∀ (i : Nat) fd y,fs[i]? = some fd → ds[i]? = some y → Rep PP h g fd.type y (getR vs fd.offset (PP.cellsOf fd.type)) := by
  cases f with
  | zero => exact r.elim
  | succ f =>
    unfold Rep at r
    rw [hu] at r
    exact ⟨f,r⟩
theorem rep_arr {n : Nat} {e : TypeId} (hu : PP.underlying t = some (.array n e)) (r : Rep PP h f t d vs) :
    ∃ g ds,d = .agg ds ∧ vs.length = PP.cellsOf t ∧ ds.length = n ∧ ∀ (i : Nat) y,i < n → ds[i]? = some y → Rep PP h g e y (getR vs (i * PP.cellsOf e) (PP.cellsOf e)) := by
  cases f with
  | zero => exact r.elim
  | succ f =>
    unfold Rep at r
    rw [hu] at r
    exact ⟨f,r⟩
theorem getR_add (vs : List V) (o n m : Nat) : getR vs o (n + m) = getR vs o n ++ getR vs (o + n) m := by
  unfold getR
  rw [List.take_add,List.drop_drop]
theorem getR_whole {vs : List V} {n : Nat} (h : vs.length = n) : vs = getR vs 0 n := by
  unfold getR; subst h; simp
theorem sl_elems1 {v : V} {ws : List V} (hs : Sl h 1 v (ws.map fun w => [w])) : elemsV h 1 ws.length v = some ws := by
  generalize hx : (ws.map fun w => [w]) = xs at hs
  cases hs with
  | nil a cap opn =>
    have : ws = [] := by simpa using hx
    subst this
    cases a with
    | none => rfl
    | some p => obtain ⟨i,o⟩ := p; rfl
  | «at» b o cap opn _ vs ty op ro fz hg hl he =>
    subst hx
    rw [List.length_map] at hl
    have hget : getR vs o (ws.length * 1) = ws := by
      apply List.ext_getElem?
      intro k
      unfold getR
      rw [List.getElem?_take]
      by_cases hk : k < ws.length
      · rw [if_pos (by omega),List.getElem?_eq_getElem hk]
        have := he k [ws[k]] (by simp [hk])
        rw [Nat.mul_one] at this
        have := getR_one this
        rw [List.getElem?_drop]; exact this
      · rw [if_neg (by omega),List.getElem?_eq_none (by omega)]
    simp only [elemsV,hg]
    by_cases h0 : ws.length * 1 = 0
    · have : ws = [] := List.eq_nil_of_length_eq_zero (by omega)
      subst this; rfl
    · rw [if_neg h0,if_pos hl,hget]
theorem bytesV_map : ∀ ns : List Int,bytesV (ns.map fun n => .int .u8 n) = some (ns.map fun n => UInt8.ofNat n.toNat)
  | [] => rfl
  | n :: ns => by simp [bytesV,bytesV_map ns]
theorem map_ex {α β : Type} {p : α → β → Prop} : ∀ {xs : List α},(∀ x ∈ xs, ∃ y,p x y) → ∃ ys : List β,ys.length = xs.length ∧ ∀ (i : Nat) x y,xs[i]? = some x → ys[i]? = some y → p x y
  | [],_ => ⟨[],rfl,by simp⟩
  | x :: xs,h => by
    obtain ⟨y,hy⟩ := h x List.mem_cons_self
    obtain ⟨ys,h1,h2⟩ := map_ex (xs := xs) fun z hz => h z (List.mem_cons_of_mem _ hz)
    refine ⟨y :: ys,by simp [h1],fun i a b ha hb => ?_⟩
    cases i with
    | zero => simp at ha hb; subst ha hb; exact hy
    | succ i => exact h2 i a b (by simpa using ha) (by simpa using hb)
theorem of_parts {α : Type} {g : α → List V} {xs : List (List V)} {ys : List α} (h1 : ys.length = xs.length) (h2 : ∀ (i : Nat) x y,xs[i]? = some x → ys[i]? = some y → x = g y) : xs = ys.map g := by
  apply List.ext_getElem?
  intro i
  rw [List.getElem?_map]
  by_cases hi : i < xs.length
  · rw [List.getElem?_eq_getElem hi,List.getElem?_eq_getElem (by omega),Option.map_some]
    exact congrArg some (h2 i _ _ (List.getElem?_eq_getElem hi) (List.getElem?_eq_getElem (by omega)))
  · rw [List.getElem?_eq_none (by omega),List.getElem?_eq_none (by omega)]; rfl
theorem rep_elems {e : TypeId} {α : Type} {g : α → List V} {p : α → Prop} (hu : PP.underlying t = some (.slice e)) (hb : Rows.uptoBulk d ≤ N) (hone : ∀ {g' : Nat} {y : DataW H'} {x : List V},Rep PP h g' e y x → Rows.uptoBulk y ≤ N → ∃ a,x = g a ∧ p a) (r : Rep PP h f t d vs) :
    ∃ (v : V) (ys : List α),vs = [v] ∧ Sl h (PP.cellsOf e) v (ys.map g) ∧ (∀ y ∈ ys,p y) ∧ ys.length ≤ N := by
  cases f with
  | zero => exact r.elim
  | succ f =>
    unfold Rep at r
    rw [hu] at r
    rcases r with ⟨_,h2⟩ | ⟨es,sp,a,cap,xs,rfl,h2,h3,h4,h5⟩
    · exact ⟨_,[],h2,.nil _ _ _,by simp,by simp⟩
    · have hall : ∀ x ∈ xs, ∃ b,x = g b ∧ p b := by
        intro x hx
        obtain ⟨i,hi,rfl⟩ := List.getElem_of_mem hx
        have hie : i < es.length := by omega
        exact hone (h5 i xs[i] es[i] (List.getElem?_eq_getElem hi) (List.getElem?_eq_getElem hie)) (bulk_slice (List.getElem_mem hie) hb)
      obtain ⟨ys,q1,q2⟩ := map_ex hall
      have hxs : xs = ys.map g := of_parts q1 fun i x y hx hy => (q2 i x y hx hy).1
      refine ⟨_,ys,h2,?_,fun y hy => ?_,?_⟩
      · rw [← hxs]; exact h3
      · obtain ⟨i,hi,rfl⟩ := List.getElem_of_mem hy
        exact (q2 i xs[i] ys[i] (List.getElem?_eq_getElem (by omega)) (List.getElem?_eq_getElem hi)).2
      · have := bulk_slen hb; omega
theorem cells5 : PP.cellsOf 5 = 1 := by kernel_rfl
theorem cells3 : PP.cellsOf 3 = 1 := by kernel_rfl
theorem rep_bytes (hb : Rows.uptoBulk d ≤ N) (r : Rep PP h f 46 d vs) : ∃ v s,vs = [v] ∧ Str h v s := by
  obtain ⟨v,ns,h1,h2,_,_⟩ := rep_elems (g := fun n : Int => [.int .u8 n]) (p := fun _ => True) Tryd.underlying46 hb (fun r _ => (rep_u8 Tryd.underlying5 r).elim fun n hn => ⟨n,hn.1,trivial⟩) r
  rw [cells5] at h2
  have h2' : Sl h 1 v ((ns.map fun n => V.int .u8 n).map fun w => [w]) := by rw [List.map_map]; exact h2
  have he := sl_elems1 h2'
  obtain ⟨a,cap,opn,hv⟩ := h2.len
  rw [List.length_map] at he hv
  refine ⟨v,ns.map fun n => UInt8.ofNat n.toNat,h1,?_⟩
  cases a with
  | none =>
    rw [hv] at he
    have : ns = [] := by
      cases ns with
      | nil => rfl
      | cons x r => simp [elemsV] at he
    subst this
    exact .inl ⟨_,_,hv,rfl⟩
  | some q => exact .inr ⟨q,_,_,_,_,hv,by rw [hv] at he; exact he,bytesV_map ns⟩
theorem cells2 : PP.cellsOf 2 = 1 := by kernel_rfl
theorem cells9 : PP.cellsOf 9 = 1 := by kernel_rfl
theorem cells40 : PP.cellsOf 40 = 1 := by kernel_rfl
theorem cells46 : PP.cellsOf 46 = 1 := by kernel_rfl
theorem cells35 : PP.cellsOf 35 = 2 := by kernel_rfl
theorem cells37 : PP.cellsOf 37 = 8 := by kernel_rfl
theorem cells41 : PP.cellsOf 41 = 8 := by kernel_rfl
theorem cells43 : PP.cellsOf 43 = 8 := by kernel_rfl
theorem cells45 : PP.cellsOf 45 = 25 := by kernel_rfl
theorem cells48 : PP.cellsOf 48 = 4 := by kernel_rfl
theorem cells39 : PP.cellsOf 39 = 3 := by kernel_rfl
theorem cells33 : PP.cellsOf 33 = 2 := by kernel_rfl
theorem cells50 : PP.cellsOf 50 = 56 := by kernel_rfl
theorem cells52 : PP.cellsOf 52 = 76 := by kernel_rfl
theorem rep_Vec41 (r : Rep PP h f 41 d vs) : ∃ x : Vec,vs = x.cells ∧ (InI x.v0 ∧ InI x.v1 ∧ InI x.v2 ∧ InI x.v3 ∧ InI x.v4 ∧ InI x.v5 ∧ InI x.v6 ∧ InI x.v7) := by
  obtain ⟨g,ds,rfl,hl,hn,hf⟩ := rep_arr Tryd.underlying41 r
  match ds,hn with
  | [d0,d1,d2,d3,d4,d5,d6,d7],_ =>
    have r0 : Rep PP h g 3 d0 (getR vs (0 * PP.cellsOf 3) (PP.cellsOf 3)) := hf 0 d0 (by decide) rfl
    rw [cells3] at r0
    obtain ⟨x0,e0,p0⟩ := rep_int Tryd.underlying3 r0
    have r1 : Rep PP h g 3 d1 (getR vs (1 * PP.cellsOf 3) (PP.cellsOf 3)) := hf 1 d1 (by decide) rfl
    rw [cells3] at r1
    obtain ⟨x1,e1,p1⟩ := rep_int Tryd.underlying3 r1
    have r2 : Rep PP h g 3 d2 (getR vs (2 * PP.cellsOf 3) (PP.cellsOf 3)) := hf 2 d2 (by decide) rfl
    rw [cells3] at r2
    obtain ⟨x2,e2,p2⟩ := rep_int Tryd.underlying3 r2
    have r3 : Rep PP h g 3 d3 (getR vs (3 * PP.cellsOf 3) (PP.cellsOf 3)) := hf 3 d3 (by decide) rfl
    rw [cells3] at r3
    obtain ⟨x3,e3,p3⟩ := rep_int Tryd.underlying3 r3
    have r4 : Rep PP h g 3 d4 (getR vs (4 * PP.cellsOf 3) (PP.cellsOf 3)) := hf 4 d4 (by decide) rfl
    rw [cells3] at r4
    obtain ⟨x4,e4,p4⟩ := rep_int Tryd.underlying3 r4
    have r5 : Rep PP h g 3 d5 (getR vs (5 * PP.cellsOf 3) (PP.cellsOf 3)) := hf 5 d5 (by decide) rfl
    rw [cells3] at r5
    obtain ⟨x5,e5,p5⟩ := rep_int Tryd.underlying3 r5
    have r6 : Rep PP h g 3 d6 (getR vs (6 * PP.cellsOf 3) (PP.cellsOf 3)) := hf 6 d6 (by decide) rfl
    rw [cells3] at r6
    obtain ⟨x6,e6,p6⟩ := rep_int Tryd.underlying3 r6
    have r7 : Rep PP h g 3 d7 (getR vs (7 * PP.cellsOf 3) (PP.cellsOf 3)) := hf 7 d7 (by decide) rfl
    rw [cells3] at r7
    obtain ⟨x7,e7,p7⟩ := rep_int Tryd.underlying3 r7
    refine ⟨⟨x0,x1,x2,x3,x4,x5,x6,x7⟩,?_,p0,p1,p2,p3,p4,p5,p6,p7⟩
    have q0 : getR vs 0 8 = getR vs (0 * 1) 1 ++ getR vs 1 7 := getR_add vs 0 1 7
    have q1 : getR vs 1 7 = getR vs (1 * 1) 1 ++ getR vs 2 6 := getR_add vs 1 1 6
    have q2 : getR vs 2 6 = getR vs (2 * 1) 1 ++ getR vs 3 5 := getR_add vs 2 1 5
    have q3 : getR vs 3 5 = getR vs (3 * 1) 1 ++ getR vs 4 4 := getR_add vs 3 1 4
    have q4 : getR vs 4 4 = getR vs (4 * 1) 1 ++ getR vs 5 3 := getR_add vs 4 1 3
    have q5 : getR vs 5 3 = getR vs (5 * 1) 1 ++ getR vs 6 2 := getR_add vs 5 1 2
    have q6 : getR vs 6 2 = getR vs (6 * 1) 1 ++ getR vs 7 1 := getR_add vs 6 1 1
    have q7 : getR vs 7 1 = getR vs (7 * 1) 1 := rfl
    rw [getR_whole (hl.trans cells41),q0,e0,q1,e1,q2,e2,q3,e3,q4,e4,q5,e5,q6,e6,q7,e7]
    rfl
theorem rep_Vec43 (r : Rep PP h f 43 d vs) : ∃ x : Vec,vs = x.cells ∧ (InI x.v0 ∧ InI x.v1 ∧ InI x.v2 ∧ InI x.v3 ∧ InI x.v4 ∧ InI x.v5 ∧ InI x.v6 ∧ InI x.v7) := by
  obtain ⟨g,ds,rfl,hl,hn,hf⟩ := rep_arr Tryd.underlying43 r
  match ds,hn with
  | [d0,d1,d2,d3,d4,d5,d6,d7],_ =>
    have r0 : Rep PP h g 2 d0 (getR vs (0 * PP.cellsOf 2) (PP.cellsOf 2)) := hf 0 d0 (by decide) rfl
    rw [cells2] at r0
    obtain ⟨x0,e0,p0⟩ := rep_int Tryd.underlying2 r0
    have r1 : Rep PP h g 2 d1 (getR vs (1 * PP.cellsOf 2) (PP.cellsOf 2)) := hf 1 d1 (by decide) rfl
    rw [cells2] at r1
    obtain ⟨x1,e1,p1⟩ := rep_int Tryd.underlying2 r1
    have r2 : Rep PP h g 2 d2 (getR vs (2 * PP.cellsOf 2) (PP.cellsOf 2)) := hf 2 d2 (by decide) rfl
    rw [cells2] at r2
    obtain ⟨x2,e2,p2⟩ := rep_int Tryd.underlying2 r2
    have r3 : Rep PP h g 2 d3 (getR vs (3 * PP.cellsOf 2) (PP.cellsOf 2)) := hf 3 d3 (by decide) rfl
    rw [cells2] at r3
    obtain ⟨x3,e3,p3⟩ := rep_int Tryd.underlying2 r3
    have r4 : Rep PP h g 2 d4 (getR vs (4 * PP.cellsOf 2) (PP.cellsOf 2)) := hf 4 d4 (by decide) rfl
    rw [cells2] at r4
    obtain ⟨x4,e4,p4⟩ := rep_int Tryd.underlying2 r4
    have r5 : Rep PP h g 2 d5 (getR vs (5 * PP.cellsOf 2) (PP.cellsOf 2)) := hf 5 d5 (by decide) rfl
    rw [cells2] at r5
    obtain ⟨x5,e5,p5⟩ := rep_int Tryd.underlying2 r5
    have r6 : Rep PP h g 2 d6 (getR vs (6 * PP.cellsOf 2) (PP.cellsOf 2)) := hf 6 d6 (by decide) rfl
    rw [cells2] at r6
    obtain ⟨x6,e6,p6⟩ := rep_int Tryd.underlying2 r6
    have r7 : Rep PP h g 2 d7 (getR vs (7 * PP.cellsOf 2) (PP.cellsOf 2)) := hf 7 d7 (by decide) rfl
    rw [cells2] at r7
    obtain ⟨x7,e7,p7⟩ := rep_int Tryd.underlying2 r7
    refine ⟨⟨x0,x1,x2,x3,x4,x5,x6,x7⟩,?_,p0,p1,p2,p3,p4,p5,p6,p7⟩
    have q0 : getR vs 0 8 = getR vs (0 * 1) 1 ++ getR vs 1 7 := getR_add vs 0 1 7
    have q1 : getR vs 1 7 = getR vs (1 * 1) 1 ++ getR vs 2 6 := getR_add vs 1 1 6
    have q2 : getR vs 2 6 = getR vs (2 * 1) 1 ++ getR vs 3 5 := getR_add vs 2 1 5
    have q3 : getR vs 3 5 = getR vs (3 * 1) 1 ++ getR vs 4 4 := getR_add vs 3 1 4
    have q4 : getR vs 4 4 = getR vs (4 * 1) 1 ++ getR vs 5 3 := getR_add vs 4 1 3
    have q5 : getR vs 5 3 = getR vs (5 * 1) 1 ++ getR vs 6 2 := getR_add vs 5 1 2
    have q6 : getR vs 6 2 = getR vs (6 * 1) 1 ++ getR vs 7 1 := getR_add vs 6 1 1
    have q7 : getR vs 7 1 = getR vs (7 * 1) 1 := rfl
    rw [getR_whole (hl.trans cells43),q0,e0,q1,e1,q2,e2,q3,e3,q4,e4,q5,e5,q6,e6,q7,e7]
    rfl
theorem rep_Stamp (hb : Rows.uptoBulk d ≤ N) (r : Rep PP h f 35 d vs) : ∃ x : Sc.Stamp,vs = x.cells ∧ True := by
  obtain ⟨g,ds,rfl,hl,hn,hf⟩ := rep_struct Tryd.underlying35 r
  have hn' : ds.length = 2 := hn
  match ds,hn' with
  | [d0,d1],_ =>
    have r0 : Rep PP h g 2 d0 (getR vs 0 (PP.cellsOf 2)) := hf 0 _ d0 rfl rfl
    rw [cells2] at r0
    obtain ⟨x0,e0,p0⟩ := rep_int Tryd.underlying2 r0
    have r1 : Rep PP h g 3 d1 (getR vs 1 (PP.cellsOf 3)) := hf 1 _ d1 rfl rfl
    rw [cells3] at r1
    obtain ⟨x1,e1,p1⟩ := rep_int Tryd.underlying3 r1
    refine ⟨⟨x0,x1⟩,?_,trivial⟩
    have q0 : getR vs 0 2 = getR vs 0 1 ++ getR vs 1 1 := getR_add vs 0 1 1
    rw [getR_whole (hl.trans cells35),q0,e0,e1]
    rfl
theorem rep_Opr (hb : Rows.uptoBulk d ≤ N) (r : Rep PP h f 37 d vs) : ∃ x : Sc.Opr,vs = x.cells ∧ (InI x.node ∧ InI x.parent ∧ x.name.length ≤ N ∧ x.key.length ≤ N ∧ x.value.length ≤ N) := by
  obtain ⟨g,ds,rfl,hl,hn,hf⟩ := rep_struct Tryd.underlying37 r
  have hn' : ds.length = 7 := hn
  match ds,hn' with
  | [d0,d1,d2,d3,d4,d5,d6],_ =>
    have r0 : Rep PP h g 35 d0 (getR vs 0 (PP.cellsOf 35)) := hf 0 _ d0 rfl rfl
    rw [cells35] at r0
    obtain ⟨x0,e0,p0⟩ := rep_Stamp (bulk_agg (by simp) hb) r0
    have r1 : Rep PP h g 3 d1 (getR vs 2 (PP.cellsOf 3)) := hf 1 _ d1 rfl rfl
    rw [cells3] at r1
    obtain ⟨x1,e1,p1⟩ := rep_int Tryd.underlying3 r1
    have r2 : Rep PP h g 2 d2 (getR vs 3 (PP.cellsOf 2)) := hf 2 _ d2 rfl rfl
    rw [cells2] at r2
    obtain ⟨x2,e2,p2⟩ := rep_int Tryd.underlying2 r2
    have r3 : Rep PP h g 2 d3 (getR vs 4 (PP.cellsOf 2)) := hf 3 _ d3 rfl rfl
    rw [cells2] at r3
    obtain ⟨x3,e3,p3⟩ := rep_int Tryd.underlying2 r3
    have r4 : Rep PP h g 9 d4 (getR vs 5 (PP.cellsOf 9)) := hf 4 _ d4 rfl rfl
    rw [cells9] at r4
    obtain ⟨x4,e4,p4⟩ := rep_str Tryd.underlying9 r4 (bulk_agg (by simp) hb)
    have r5 : Rep PP h g 9 d5 (getR vs 6 (PP.cellsOf 9)) := hf 5 _ d5 rfl rfl
    rw [cells9] at r5
    obtain ⟨x5,e5,p5⟩ := rep_str Tryd.underlying9 r5 (bulk_agg (by simp) hb)
    have r6 : Rep PP h g 9 d6 (getR vs 7 (PP.cellsOf 9)) := hf 6 _ d6 rfl rfl
    rw [cells9] at r6
    obtain ⟨x6,e6,p6⟩ := rep_str Tryd.underlying9 r6 (bulk_agg (by simp) hb)
    refine ⟨⟨x0.time,x0.site,x1,x2,x3,x4,x5,x6⟩,?_,p2,p3,p4,p5,p6⟩
    have q0 : getR vs 0 8 = getR vs 0 2 ++ getR vs 2 6 := getR_add vs 0 2 6
    have q1 : getR vs 2 6 = getR vs 2 1 ++ getR vs 3 5 := getR_add vs 2 1 5
    have q2 : getR vs 3 5 = getR vs 3 1 ++ getR vs 4 4 := getR_add vs 3 1 4
    have q3 : getR vs 4 4 = getR vs 4 1 ++ getR vs 5 3 := getR_add vs 4 1 3
    have q4 : getR vs 5 3 = getR vs 5 1 ++ getR vs 6 2 := getR_add vs 5 1 2
    have q5 : getR vs 6 2 = getR vs 6 1 ++ getR vs 7 1 := getR_add vs 6 1 1
    rw [getR_whole (hl.trans cells37),q0,e0,q1,e1,q2,e2,q3,e3,q4,e4,q5,e5,e6]
    rfl
theorem rep_Epoch (hb : Rows.uptoBulk d ≤ N) (r : Rep PP h f 45 d vs) : ∃ x : Sc.Epoch,vs = x.cells ∧ True := by
  obtain ⟨g,ds,rfl,hl,hn,hf⟩ := rep_struct Tryd.underlying45 r
  have hn' : ds.length = 4 := hn
  match ds,hn' with
  | [d0,d1,d2,d3],_ =>
    have r0 : Rep PP h g 2 d0 (getR vs 0 (PP.cellsOf 2)) := hf 0 _ d0 rfl rfl
    rw [cells2] at r0
    obtain ⟨x0,e0,p0⟩ := rep_int Tryd.underlying2 r0
    have r1 : Rep PP h g 41 d1 (getR vs 1 (PP.cellsOf 41)) := hf 1 _ d1 rfl rfl
    rw [cells41] at r1
    obtain ⟨x1,e1,p1⟩ := rep_Vec41 r1
    have r2 : Rep PP h g 43 d2 (getR vs 9 (PP.cellsOf 43)) := hf 2 _ d2 rfl rfl
    rw [cells43] at r2
    obtain ⟨x2,e2,p2⟩ := rep_Vec43 r2
    have r3 : Rep PP h g 41 d3 (getR vs 17 (PP.cellsOf 41)) := hf 3 _ d3 rfl rfl
    rw [cells41] at r3
    obtain ⟨x3,e3,p3⟩ := rep_Vec41 r3
    refine ⟨⟨x0,x1,x2,x3⟩,?_,trivial⟩
    have q0 : getR vs 0 25 = getR vs 0 1 ++ getR vs 1 24 := getR_add vs 0 1 24
    have q1 : getR vs 1 24 = getR vs 1 8 ++ getR vs 9 16 := getR_add vs 1 8 16
    have q2 : getR vs 9 16 = getR vs 9 8 ++ getR vs 17 8 := getR_add vs 9 8 8
    rw [getR_whole (hl.trans cells45),q0,e0,q1,e1,q2,e2,e3]
    rfl
theorem rep_Part (hb : Rows.uptoBulk d ≤ N) (r : Rep PP h f 48 d vs) : ∃ x : Sc.Part,vs = x.cells ∧ ∃ s,Str h x.data s := by
  obtain ⟨g,ds,rfl,hl,hn,hf⟩ := rep_struct Tryd.underlying48 r
  have hn' : ds.length = 4 := hn
  match ds,hn' with
  | [d0,d1,d2,d3],_ =>
    have r0 : Rep PP h g 2 d0 (getR vs 0 (PP.cellsOf 2)) := hf 0 _ d0 rfl rfl
    rw [cells2] at r0
    obtain ⟨x0,e0,p0⟩ := rep_int Tryd.underlying2 r0
    have r1 : Rep PP h g 3 d1 (getR vs 1 (PP.cellsOf 3)) := hf 1 _ d1 rfl rfl
    rw [cells3] at r1
    obtain ⟨x1,e1,p1⟩ := rep_int Tryd.underlying3 r1
    have r2 : Rep PP h g 3 d2 (getR vs 2 (PP.cellsOf 3)) := hf 2 _ d2 rfl rfl
    rw [cells3] at r2
    obtain ⟨x2,e2,p2⟩ := rep_int Tryd.underlying3 r2
    have r3 : Rep PP h g 46 d3 (getR vs 3 (PP.cellsOf 46)) := hf 3 _ d3 rfl rfl
    rw [cells46] at r3
    obtain ⟨x3,s3,e3,p3⟩ := rep_bytes (bulk_agg (by simp) hb) r3
    refine ⟨⟨x0,x1,x2,x3⟩,?_,⟨s3,p3⟩⟩
    have q0 : getR vs 0 4 = getR vs 0 1 ++ getR vs 1 3 := getR_add vs 0 1 3
    have q1 : getR vs 1 3 = getR vs 1 1 ++ getR vs 2 2 := getR_add vs 1 1 2
    have q2 : getR vs 2 2 = getR vs 2 1 ++ getR vs 3 1 := getR_add vs 2 1 1
    rw [getR_whole (hl.trans cells48),q0,e0,q1,e1,q2,e2,e3]
    rfl
theorem rep_Query (hb : Rows.uptoBulk d ≤ N) (r : Rep PP h f 39 d vs) : ∃ x : Sc.Query,vs = x.cells ∧ (InI x.node ∧ x.path.length ≤ N) := by
  obtain ⟨g,ds,rfl,hl,hn,hf⟩ := rep_struct Tryd.underlying39 r
  have hn' : ds.length = 3 := hn
  match ds,hn' with
  | [d0,d1,d2],_ =>
    have r0 : Rep PP h g 3 d0 (getR vs 0 (PP.cellsOf 3)) := hf 0 _ d0 rfl rfl
    rw [cells3] at r0
    obtain ⟨x0,e0,p0⟩ := rep_int Tryd.underlying3 r0
    have r1 : Rep PP h g 9 d1 (getR vs 1 (PP.cellsOf 9)) := hf 1 _ d1 rfl rfl
    rw [cells9] at r1
    obtain ⟨x1,e1,p1⟩ := rep_str Tryd.underlying9 r1 (bulk_agg (by simp) hb)
    have r2 : Rep PP h g 2 d2 (getR vs 2 (PP.cellsOf 2)) := hf 2 _ d2 rfl rfl
    rw [cells2] at r2
    obtain ⟨x2,e2,p2⟩ := rep_int Tryd.underlying2 r2
    refine ⟨⟨x0,x1,x2⟩,?_,p2,p1⟩
    have q0 : getR vs 0 3 = getR vs 0 1 ++ getR vs 1 2 := getR_add vs 0 1 2
    have q1 : getR vs 1 2 = getR vs 1 1 ++ getR vs 2 1 := getR_add vs 1 1 1
    rw [getR_whole (hl.trans cells39),q0,e0,q1,e1,e2]
    rfl
theorem rep_Addr (hb : Rows.uptoBulk d ≤ N) (r : Rep PP h f 33 d vs) : ∃ x : Sc.Addr,vs = x.cells ∧ (InI x.group ∧ InI x.replica) := by
  obtain ⟨g,ds,rfl,hl,hn,hf⟩ := rep_struct Tryd.underlying33 r
  have hn' : ds.length = 2 := hn
  match ds,hn' with
  | [d0,d1],_ =>
    have r0 : Rep PP h g 3 d0 (getR vs 0 (PP.cellsOf 3)) := hf 0 _ d0 rfl rfl
    rw [cells3] at r0
    obtain ⟨x0,e0,p0⟩ := rep_int Tryd.underlying3 r0
    have r1 : Rep PP h g 3 d1 (getR vs 1 (PP.cellsOf 3)) := hf 1 _ d1 rfl rfl
    rw [cells3] at r1
    obtain ⟨x1,e1,p1⟩ := rep_int Tryd.underlying3 r1
    refine ⟨⟨x0,x1⟩,?_,p0,p1⟩
    have q0 : getR vs 0 2 = getR vs 0 1 ++ getR vs 1 1 := getR_add vs 0 1 1
    rw [getR_whole (hl.trans cells33),q0,e0,e1]
    rfl
theorem rep_Entry (hb : Rows.uptoBulk d ≤ N) (r : Rep PP h f 50 d vs) : ∃ x : Sc.Entry,vs = x.cells ∧ ((∃ s,EIn h x s) ∧ InI x.site ∧ InI x.sponsor ∧ InI x.length) := by
  obtain ⟨g,ds,rfl,hl,hn,hf⟩ := rep_struct Tryd.underlying50 r
  have hn' : ds.length = 15 := hn
  match ds,hn' with
  | [d0,d1,d2,d3,d4,d5,d6,d7,d8,d9,d10,d11,d12,d13,d14],_ =>
    have r0 : Rep PP h g 3 d0 (getR vs 0 (PP.cellsOf 3)) := hf 0 _ d0 rfl rfl
    rw [cells3] at r0
    obtain ⟨x0,e0,p0⟩ := rep_int Tryd.underlying3 r0
    have r1 : Rep PP h g 2 d1 (getR vs 1 (PP.cellsOf 2)) := hf 1 _ d1 rfl rfl
    rw [cells2] at r1
    obtain ⟨x1,e1,p1⟩ := rep_int Tryd.underlying2 r1
    have r2 : Rep PP h g 2 d2 (getR vs 2 (PP.cellsOf 2)) := hf 2 _ d2 rfl rfl
    rw [cells2] at r2
    obtain ⟨x2,e2,p2⟩ := rep_int Tryd.underlying2 r2
    have r3 : Rep PP h g 37 d3 (getR vs 3 (PP.cellsOf 37)) := hf 3 _ d3 rfl rfl
    rw [cells37] at r3
    obtain ⟨x3,e3,p3⟩ := rep_Opr (bulk_agg (by simp) hb) r3
    have r4 : Rep PP h g 3 d4 (getR vs 11 (PP.cellsOf 3)) := hf 4 _ d4 rfl rfl
    rw [cells3] at r4
    obtain ⟨x4,e4,p4⟩ := rep_int Tryd.underlying3 r4
    have r5 : Rep PP h g 2 d5 (getR vs 12 (PP.cellsOf 2)) := hf 5 _ d5 rfl rfl
    rw [cells2] at r5
    obtain ⟨x5,e5,p5⟩ := rep_int Tryd.underlying2 r5
    have r6 : Rep PP h g 40 d6 (getR vs 13 (PP.cellsOf 40)) := hf 6 _ d6 rfl rfl
    rw [cells40] at r6
    obtain ⟨a6,n6,c6,o6,e6⟩ := rep_slice Tryd.underlying40 r6
    have r7 : Rep PP h g 45 d7 (getR vs 14 (PP.cellsOf 45)) := hf 7 _ d7 rfl rfl
    rw [cells45] at r7
    obtain ⟨x7,e7,p7⟩ := rep_Epoch (bulk_agg (by simp) hb) r7
    have r8 : Rep PP h g 3 d8 (getR vs 39 (PP.cellsOf 3)) := hf 8 _ d8 rfl rfl
    rw [cells3] at r8
    obtain ⟨x8,e8,p8⟩ := rep_int Tryd.underlying3 r8
    have r9 : Rep PP h g 43 d9 (getR vs 40 (PP.cellsOf 43)) := hf 9 _ d9 rfl rfl
    rw [cells43] at r9
    obtain ⟨x9,e9,p9⟩ := rep_Vec43 r9
    have r10 : Rep PP h g 2 d10 (getR vs 48 (PP.cellsOf 2)) := hf 10 _ d10 rfl rfl
    rw [cells2] at r10
    obtain ⟨x10,e10,p10⟩ := rep_int Tryd.underlying2 r10
    have r11 : Rep PP h g 48 d11 (getR vs 49 (PP.cellsOf 48)) := hf 11 _ d11 rfl rfl
    rw [cells48] at r11
    obtain ⟨x11,e11,p11⟩ := rep_Part (bulk_agg (by simp) hb) r11
    have r12 : Rep PP h g 3 d12 (getR vs 53 (PP.cellsOf 3)) := hf 12 _ d12 rfl rfl
    rw [cells3] at r12
    obtain ⟨x12,e12,p12⟩ := rep_int Tryd.underlying3 r12
    have r13 : Rep PP h g 3 d13 (getR vs 54 (PP.cellsOf 3)) := hf 13 _ d13 rfl rfl
    rw [cells3] at r13
    obtain ⟨x13,e13,p13⟩ := rep_int Tryd.underlying3 r13
    have r14 : Rep PP h g 2 d14 (getR vs 55 (PP.cellsOf 2)) := hf 14 _ d14 rfl rfl
    rw [cells2] at r14
    obtain ⟨x14,e14,p14⟩ := rep_int Tryd.underlying2 r14
    refine ⟨⟨x0,x1,x2,x3,x4,x5,.slice a6 n6 c6 o6,x7,x8,x9,x10,x11,x12,x13,x14⟩,?_,p11.elim fun s hs => ⟨s,⟨⟨_,_,_,_,rfl⟩,hs⟩⟩,p12,p13,p14⟩
    have q0 : getR vs 0 56 = getR vs 0 1 ++ getR vs 1 55 := getR_add vs 0 1 55
    have q1 : getR vs 1 55 = getR vs 1 1 ++ getR vs 2 54 := getR_add vs 1 1 54
    have q2 : getR vs 2 54 = getR vs 2 1 ++ getR vs 3 53 := getR_add vs 2 1 53
    have q3 : getR vs 3 53 = getR vs 3 8 ++ getR vs 11 45 := getR_add vs 3 8 45
    have q4 : getR vs 11 45 = getR vs 11 1 ++ getR vs 12 44 := getR_add vs 11 1 44
    have q5 : getR vs 12 44 = getR vs 12 1 ++ getR vs 13 43 := getR_add vs 12 1 43
    have q6 : getR vs 13 43 = getR vs 13 1 ++ getR vs 14 42 := getR_add vs 13 1 42
    have q7 : getR vs 14 42 = getR vs 14 25 ++ getR vs 39 17 := getR_add vs 14 25 17
    have q8 : getR vs 39 17 = getR vs 39 1 ++ getR vs 40 16 := getR_add vs 39 1 16
    have q9 : getR vs 40 16 = getR vs 40 8 ++ getR vs 48 8 := getR_add vs 40 8 8
    have q10 : getR vs 48 8 = getR vs 48 1 ++ getR vs 49 7 := getR_add vs 48 1 7
    have q11 : getR vs 49 7 = getR vs 49 4 ++ getR vs 53 3 := getR_add vs 49 4 3
    have q12 : getR vs 53 3 = getR vs 53 1 ++ getR vs 54 2 := getR_add vs 53 1 2
    have q13 : getR vs 54 2 = getR vs 54 1 ++ getR vs 55 1 := getR_add vs 54 1 1
    rw [getR_whole (hl.trans cells50),q0,e0,q1,e1,q2,e2,q3,e3,q4,e4,q5,e5,q6,e6,q7,e7,q8,e8,q9,e9,q10,e10,q11,e11,q12,e12,q13,e13,e14]
    rfl
structure WOk (h : H) (N : Nat) (x : WStep) : Prop where
  ent : ∃ s,EIn h x.entry s
  esite : InI x.entry.site
  esponsor : InI x.entry.sponsor
  elength : InI x.entry.length
  at1 : InI x.at_.group
  at2 : InI x.at_.replica
  client : InI x.client
  op : InI x.op.node ∧ InI x.op.parent ∧ x.op.name.length ≤ N ∧ x.op.key.length ≤ N ∧ x.op.value.length ≤ N
  query : InI x.query.node ∧ x.query.path.length ≤ N
  number : InI x.number
  place : InI x.place
  wth : 0 ≤ x.wth ∧ x.wth ≤ 255
  count : InI x.count
  keep : InI x.keep
theorem rep_WStep (hb : Rows.uptoBulk d ≤ N) (r : Rep PP h f 52 d vs) : ∃ x : Sc.WStep,vs = x.cells ∧ WOk h N x := by
  obtain ⟨g,ds,rfl,hl,hn,hf⟩ := rep_struct Tryd.underlying52 r
  have hn' : ds.length = 11 := hn
  match ds,hn' with
  | [d0,d1,d2,d3,d4,d5,d6,d7,d8,d9,d10],_ =>
    have r0 : Rep PP h g 3 d0 (getR vs 0 (PP.cellsOf 3)) := hf 0 _ d0 rfl rfl
    rw [cells3] at r0
    obtain ⟨x0,e0,p0⟩ := rep_int Tryd.underlying3 r0
    have r1 : Rep PP h g 33 d1 (getR vs 1 (PP.cellsOf 33)) := hf 1 _ d1 rfl rfl
    rw [cells33] at r1
    obtain ⟨x1,e1,p1⟩ := rep_Addr (bulk_agg (by simp) hb) r1
    have r2 : Rep PP h g 3 d2 (getR vs 3 (PP.cellsOf 3)) := hf 2 _ d2 rfl rfl
    rw [cells3] at r2
    obtain ⟨x2,e2,p2⟩ := rep_int Tryd.underlying3 r2
    have r3 : Rep PP h g 37 d3 (getR vs 4 (PP.cellsOf 37)) := hf 3 _ d3 rfl rfl
    rw [cells37] at r3
    obtain ⟨x3,e3,p3⟩ := rep_Opr (bulk_agg (by simp) hb) r3
    have r4 : Rep PP h g 39 d4 (getR vs 12 (PP.cellsOf 39)) := hf 4 _ d4 rfl rfl
    rw [cells39] at r4
    obtain ⟨x4,e4,p4⟩ := rep_Query (bulk_agg (by simp) hb) r4
    have r5 : Rep PP h g 50 d5 (getR vs 15 (PP.cellsOf 50)) := hf 5 _ d5 rfl rfl
    rw [cells50] at r5
    obtain ⟨x5,e5,p5⟩ := rep_Entry (bulk_agg (by simp) hb) r5
    have r6 : Rep PP h g 2 d6 (getR vs 71 (PP.cellsOf 2)) := hf 6 _ d6 rfl rfl
    rw [cells2] at r6
    obtain ⟨x6,e6,p6⟩ := rep_int Tryd.underlying2 r6
    have r7 : Rep PP h g 3 d7 (getR vs 72 (PP.cellsOf 3)) := hf 7 _ d7 rfl rfl
    rw [cells3] at r7
    obtain ⟨x7,e7,p7⟩ := rep_int Tryd.underlying3 r7
    have r8 : Rep PP h g 5 d8 (getR vs 73 (PP.cellsOf 5)) := hf 8 _ d8 rfl rfl
    rw [cells5] at r8
    obtain ⟨x8,e8,p8⟩ := rep_u8 Tryd.underlying5 r8
    have r9 : Rep PP h g 3 d9 (getR vs 74 (PP.cellsOf 3)) := hf 9 _ d9 rfl rfl
    rw [cells3] at r9
    obtain ⟨x9,e9,p9⟩ := rep_int Tryd.underlying3 r9
    have r10 : Rep PP h g 3 d10 (getR vs 75 (PP.cellsOf 3)) := hf 10 _ d10 rfl rfl
    rw [cells3] at r10
    obtain ⟨x10,e10,p10⟩ := rep_int Tryd.underlying3 r10
    refine ⟨⟨x0,x1,x2,x3,x4,x5,x6,x7,x8,x9,x10⟩,?_,⟨p5.1,p5.2.1,p5.2.2.1,p5.2.2.2,p1.1,p1.2,p2,p3,p4,p6,p7,p8,p9,p10⟩⟩
    have q0 : getR vs 0 76 = getR vs 0 1 ++ getR vs 1 75 := getR_add vs 0 1 75
    have q1 : getR vs 1 75 = getR vs 1 2 ++ getR vs 3 73 := getR_add vs 1 2 73
    have q2 : getR vs 3 73 = getR vs 3 1 ++ getR vs 4 72 := getR_add vs 3 1 72
    have q3 : getR vs 4 72 = getR vs 4 8 ++ getR vs 12 64 := getR_add vs 4 8 64
    have q4 : getR vs 12 64 = getR vs 12 3 ++ getR vs 15 61 := getR_add vs 12 3 61
    have q5 : getR vs 15 61 = getR vs 15 56 ++ getR vs 71 5 := getR_add vs 15 56 5
    have q6 : getR vs 71 5 = getR vs 71 1 ++ getR vs 72 4 := getR_add vs 71 1 4
    have q7 : getR vs 72 4 = getR vs 72 1 ++ getR vs 73 3 := getR_add vs 72 1 3
    have q8 : getR vs 73 3 = getR vs 73 1 ++ getR vs 74 2 := getR_add vs 73 1 2
    have q9 : getR vs 74 2 = getR vs 74 1 ++ getR vs 75 1 := getR_add vs 74 1 1
    rw [getR_whole (hl.trans cells52),q0,e0,q1,e1,q2,e2,q3,e3,q4,e4,q5,e5,q6,e6,q7,e7,q8,e8,q9,e9,e10]
    rfl
theorem WOk.sin {x : WStep} (a : WOk h 1048576 x) : ∃ s,SIn h x s :=
  a.ent.elim fun s hs => ⟨s,hs,a.at1,a.at2,a.client,a.op.1,a.op.2.1,by have := a.op.2.2.1; omega,by have := a.op.2.2.2.1; omega,by have := a.op.2.2.2.2; omega,a.query.1,by have := a.query.2; omega,a.esite,a.esponsor,a.elength,a.number,a.place,a.wth,a.count,a.keep⟩
end Go.Proofs.YtpijmjmbjoopaaaDoor.script
