/- My own texts of the evaluator, its soundness and its symbolic runs, laid for this claim. -/
import Derived.Test.YtelbgimbkfjabaaAmTAmU
import Derived.WalkKit
import Derived.ProofKit
import Derived.OpenShut
import Derived.Deep.DeepHandedRow
import Derived.Lib.LaidTab
import Derived.WideKeyArgs
import Derived.Below
set_option linter.unusedSimpArgs false
set_option linter.unusedVariables false
/-! From the evaluator's answer to a law's statement. -/
namespace Go.AM
open Go.ChangeShapes Go.WideShapes Go.RowKit
variable {P : Program}

def map0 (P : Program) : Mp := fun i => if i < P.globals.size then some (i, 0, 0) else none

def ints (k : IntKind) (l : List Int) : List V := l.map fun n => .int k n

theorem VRL_ints (m : Mp) (k : IntKind) (l : List Int) : VRL m (ints k l) (l.map fun z => Value.int k z) := by
  induction l with
  | nil => rfl
  | cons a l ih => exact VRL.cons rfl ih

theorem HR.init {h0 : H} {W : World} (hk : h0.ok) (hs : h0.size = P.globals.size) (hW : P.globals.size ≤ W.heap.size)
    (hob : ∀ i o, h0.get i = some o → o = .dead ∨ ∃ k l ty, o = .cells (ints k l) ty false true none ∧ W.heap[i]? = some (.cells (l.map fun z => Value.int k z).toArray ty)) : HR P (map0 P) h0 W where
  ok := hk
  dom := fun i x hx => by unfold map0 at hx; split at hx <;> first | (rw [hs]; assumption) | cases hx
  glob := fun g hg => by simp [map0, hg]
  blk := fun i r sh e hm => by unfold map0 at hm; split at hm <;> cases hm; omega
  obj := fun i o hg hl => by
    have hi := H.get_lt hg
    rw [hs] at hi
    rcases hob i o hg with rfl | ⟨k, l, ty, rfl, hw⟩
    · cases hl
    · exact ⟨i, 0, 0, _, by simp [map0, hi], hw, OR.closed (VRL_ints _ k l)⟩
  inj := fun i j o o' r sh e sh' e' _ _ _ _ h1 h2 => by
    unfold map0 at h1 h2
    split at h1 <;> split at h2 <;> cases h1 <;> cases h2 <;> rfl

theorem calls_of_ap (hmix : P.follows .mixedOrders = true) {prim : Nat → Option (List V → H → Option (V × H))} (hp : PrimOK P prim) {n g : Nat} {vs : List V} {xs : List Value} {h0 h' : H} {v : V} {m : Mp} {W : World}
    (he : ap P (envOf P prim) n (.func g [] []) vs h0 = some (v, h')) (hr : HR P m h0 W) (hno : ∀ i o, h0.get i = some o → o.mut = false) (hx : VRL m vs xs) :
    Calls P g xs.toArray W fun e w' => ∃ m' x, e = .returned x ∧ VR m' v x ∧ Below W.heap.size W w' := by
  have hA := (ap_sound hmix hp n).fn he hr (xs := xs) (by simpa using hx)
  have hc := callsIn_wide.1 (show CallsIn Fence.wide 0 P g xs.toArray W _ from hA.2 0)
  refine hc.mono fun e w' ⟨m', x, h1, h2, h3, h4⟩ => ⟨m', x, h1, h2, h4.os, h4.tape, h4.output, h4.wsize, fun k hk => h4.frame k hk ?_⟩
  rintro ⟨i, o, sh, e, hg, hm, _⟩
  rw [hno i o hg] at hm; cases hm

theorem noPrim : PrimOK P (fun _ => none) := fun g f h => by cases h

section
variable {H' : Type} {enc : TypeId × Value → H'}

theorem trodAll_keeps (hl : laidOutB P = true) {W W' : World} {sp' : Nat → Bool} : ∀ {ts : List TypeId} {vs : List Value} {ds : List (DataW H')} {ps : List MemPlace}, (∀ t ∈ ts, t < P.types.size ∧ P.readableRec t = true) →
    DataW.TrodAll enc P W 0 (fun _ => true) true ts vs ds ps → (∀ p ∈ ps, W.sameAt W' p) → (∀ p ∈ ps, sp' p.block = true) → DataW.TrodAll enc P W' 0 sp' true ts vs ds ps
  | [], [], [], _, _, h, _, _ => h
  | t :: ts, _ :: _, _ :: _, _, hT, ⟨p, q, h1, h2, e⟩, h3, h4 =>
    ⟨p, q, WideElems.Trod_stays hl (hT t (by simp)).2 (hT t (by simp)).1 h1 (fun x hx => h3 x (by rw [e]; exact List.mem_append_left _ hx)) (fun x hx => h4 x (by rw [e]; exact List.mem_append_left _ hx)),
      trodAll_keeps hl (fun t ht => hT t (by simp [ht])) h2 (fun x hx => h3 x (by rw [e]; exact List.mem_append_right _ hx)) (fun x hx => h4 x (by rw [e]; exact List.mem_append_right _ hx)), e⟩

theorem post_true {f : Func} {s : ChangeSpec} {fresh handsOn : Bool} {W W' : World} {args : Array Value} {ds gs : List (DataW H')} {before : List MemPlace} {t : TypeId} (hW : DataW.Whole enc P f.params.toList s.vars false W args.toList ds gs before)
    (hv : s.vars = []) (hs : s.fn H' (ds ++ gs) = { results := [.lit (.bool true)], args := ds }) (hrt : f.resultTypes = #[t]) (ht : P.underlying t = some .bool)
    (hl : laidOutB P = true) (hps : ∀ t ∈ f.params.toList, t < P.types.size ∧ P.readableRec t = true) (hb : Below W.heap.size W W') : s.post enc P f false fresh handsOn false W args (.bool true) W' := by
  have hW0 := hW
  obtain ⟨p, q, h1, h2, h3, h4, h5⟩ := hW
  rw [hv] at h2
  have hq : gs = [] ∧ q = [] := by
    cases gs with
    | nil => exact ⟨rfl, h2⟩
    | cons a b => cases h2
  obtain ⟨rfl, rfl⟩ := hq
  simp only [List.append_nil] at h3
  have hbef : before = p := h3
  have hlt := hW0.lt
  refine ⟨ds, [], before, [], p, [], hW0, ?_, ?_, ?_, hb.frame _, fun h => by cases h⟩
  · rw [hs, hrt]
    exact trodAll_cons_mk (shut_bool ht true) trodAll_mk0
  · rw [hs]
    exact trodAll_keeps hl hps h1 (fun x hx => hb.same (hlt x (by rw [hbef]; exact hx))) (fun x hx => by simpa using hlt x (by rw [hbef]; exact hx))
  · rw [hs, hv]; rfl
end

theorem VR.dim_slice (m : Mp) (a : Option Addr) (l c : Nat) : VR m .junk (.slice a l c) := ⟨rfl, (fun b h => by cases h), (fun h => by cases h)⟩
theorem VR.dim_int (m : Mp) (k : IntKind) (n : Int) : VR m .junk (.int k n) := ⟨rfl, (fun b h => by cases h), (fun h => by cases h)⟩
theorem VR.dim_string (m : Mp) (s : ByteArray) : VR m .junk (.string s) := ⟨rfl, (fun b h => by cases h), (fun h => by cases h)⟩
end Go.AM
/-! Laws that never look at their arguments: the whole frame. -/
namespace Go.AM
open Go.ChangeShapes Go.WideShapes Go.RowKit
variable {P : Program}

def dimCell (P : Program) (t : TypeId) : Bool :=
  match P.underlying t with
  | some .string | some (.int _) | some (.pointer _) | some (.slice _) | some (.map _ _) => true
  | _ => false

def dimArg (P : Program) (t : TypeId) : Option V :=
  match P.underlying t with
  | some (.struct _) | some (.array _ _) => match P.cellTypes P.depth t with
    | some ts => if ts.all (dimCell P) then some (.agg (List.replicate (P.cellsOf t) .junk)) else none
    | none => none
  | _ => if dimCell P t then some .junk else none

def dimArgs (P : Program) : List TypeId → Option (List V)
  | [] => some []
  | t :: ts => match dimArg P t, dimArgs P ts with
    | some v, some vs => some (v :: vs)
    | _, _ => none

theorem dim_cell {m : Mp} {w : World} {r : Reach} {b : Nat} {t : TypeId} {v : Value} (h : Cell.okWide P w r b t v) (hd : dimCell P t = true) : VR m .junk v := by
  unfold dimCell at hd
  unfold Cell.okWide Cell.ok at h
  split at hd
  all_goals first
    | cases hd; done
    | (rename_i hu
       rw [hu] at h
       cases v <;> first
         | (exfalso; simp at h; done)
         | exact ⟨rfl, (fun b h => by cases h), (fun h => by cases h)⟩)

theorem dim_arg {m : Mp} {w : World} {r : Reach} {b : Nat} {t : TypeId} {v : Value} {u : V} (h : Value.okWide P w r b t v) (hd : dimArg P t = some u) : VR m u v := by
  have key : ∀ u, (match P.cellTypes P.depth t with
      | some ts => if ts.all (dimCell P) then some (V.agg (List.replicate (P.cellsOf t) .junk)) else none
      | none => none) = some u → (∃ cs, v = .agg cs ∧ cs.size = P.cellsOf t ∧ Row.okWide P w r b t cs) → VR m u v := by
    rintro u hu ⟨cs, rfl, hsz, ts, ht, _, hc⟩
    rw [ht] at hu
    simp only at hu
    split at hu <;> cases hu
    rename_i hall
    refine ⟨cs.toList, VRL.of_get (by simp [hsz]) fun i z hz => ?_, by simp⟩
    rw [List.getElem?_replicate] at hz
    split at hz <;> cases hz
    rename_i hi
    have hi' : i < cs.size := by omega
    obtain ⟨q, hq, hok⟩ := hc i cs[i] (by simp [hi'])
    exact ⟨cs[i], by simp [hi'], dim_cell hok (List.all_eq_true.1 hall q (List.mem_of_getElem? hq))⟩
  unfold dimArg at hd
  unfold Value.okWide at h
  split at hd
  · rename_i fs hu; rw [hu] at h; exact key u hd h
  · rename_i n e hu; rw [hu] at h; exact key u hd h
  · rename_i n1 n2
    split at hd <;> cases hd
    rename_i hdc
    split at h
    · rename_i fs hu; exact absurd hu (n1 fs)
    · rename_i n e hu; exact absurd hu (n2 n e)
    · exact dim_cell h hdc

theorem dim_args {m : Mp} {w : World} {r : Reach} {b : Nat} : ∀ {ts : List TypeId} {args : List Value} {vs : List V}, dimArgs P ts = some vs → args.length = ts.length →
    (∀ (j : Nat) t v, ts[j]? = some t → args[j]? = some v → Value.okWide P w r b t v) → VRL m vs args
  | [], [], vs, h, _, _ => by cases h; rfl
  | [], _ :: _, _, _, h, _ => by simp at h
  | _ :: _, [], _, _, h, _ => by simp at h
  | t :: ts, v :: args, vs, h, hl, hval => by
    simp only [dimArgs] at h
    split at h <;> cases h
    rename_i u us h1 h2
    exact VRL.cons (dim_arg (hval 0 t v rfl rfl) h1) (dim_args h2 (by simpa using hl) fun j t v ht hv => hval (j + 1) t v (by simpa using ht) (by simpa using hv))

theorem trodAll_length {H' : Type} {enc : TypeId × Value → H'} {W : World} {base : Nat} {sp : Nat → Bool} {held : Bool} : ∀ {ts : List TypeId} {vs : List Value} {ds : List (DataW H')} {ps : List MemPlace},
    DataW.TrodAll enc P W base sp held ts vs ds ps → vs.length = ts.length ∧ ds.length = ts.length
  | [], vs, ds, ps, h => by obtain ⟨rfl, rfl, rfl⟩ := trodAll_nil h; exact ⟨rfl, rfl⟩
  | t :: ts, vs, ds, ps, h => by
    obtain ⟨v, vs1, d, ds1, a, b, rfl, rfl, rfl, h1, h2⟩ := trodAll_cons h
    obtain ⟨k1, k2⟩ := trodAll_length h2
    exact ⟨by simp [k1], by simp [k2]⟩

def isTrue : Option (V × H) → Bool
  | some (.bool b, _) => b
  | _ => false
theorem isTrue_spec {r : Option (V × H)} (h : isTrue r = true) : ∃ h', r = some (.bool true, h') := by
  unfold isTrue at h
  split at h
  · subst h; exact ⟨_, rfl⟩
  · cases h

theorem contract_dim (hmix : P.follows .mixedOrders = true) {prim : Nat → Option (List V → H → Option (V × H))} (hp : PrimOK P prim) {n g : Nat} {f : Func} {s : ChangeSpec} {fresh handsOn : Bool} {vs : List V} {h0 : H} {W : World} {m : Mp}
    (hrun : isTrue (ap P (envOf P prim) n (.func g [] []) vs h0) = true) (hr : HR P m h0 W) (hno : ∀ i o, h0.get i = some o → o.mut = false) (hd : dimArgs P f.params.toList = some vs)
    {H' : Type} {enc : TypeId × Value → H'} {base : Nat} {args : Array Value} {ds gs : List (DataW H')} {before : List MemPlace} {t : TypeId}
    (hval : ∀ (j : Nat) t v, f.params[j]? = some t → args[j]? = some v → Value.okWide P W .any base t v)
    (hW : DataW.Whole enc P f.params.toList s.vars false W args.toList ds gs before) (hv : s.vars = []) (hs : ∀ ds : List (DataW H'), ds.length = f.params.size → s.fn H' ds = { results := [.lit (.bool true)], args := ds })
    (hrt : f.resultTypes = #[t]) (ht : P.underlying t = some .bool) (hl : laidOutB P = true) (hps : (f.params.toList.all fun t => decide (t < P.types.size) && P.readableRec t) = true) :
    Calls P g args W fun e W' => ∃ v, e = .returned v ∧ s.post enc P f false fresh handsOn false W args v W' := by
  obtain ⟨h', he⟩ := isTrue_spec hrun
  obtain ⟨p, q, hA, hV, _, _, _⟩ := id hW
  obtain ⟨l1, l2⟩ := trodAll_length hA
  have hgs : gs = [] := by
    rw [hv] at hV
    cases gs with
    | nil => rfl
    | cons a b => cases hV
  subst hgs
  have hx : VRL m vs args.toList := dim_args hd l1 fun j t v h1 h2 => hval j t v (by simpa using h1) (by simpa using h2)
  have hc := calls_of_ap (xs := args.toList) hmix hp he hr hno hx
  rw [Array.toArray_toList] at hc
  refine hc.mono fun e w' ⟨m', x, h1, h2, h3⟩ => ?_
  cases h2
  refine ⟨_, h1, post_true hW hv ?_ hrt ht hl ?_ h3⟩
  · rw [List.append_nil]; exact hs ds (by simpa using l2)
  · intro t ht
    have := List.all_eq_true.1 hps t ht
    simpa using this
end Go.AM
