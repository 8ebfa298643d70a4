/- My own texts of the evaluator, its soundness and its symbolic runs, laid for this claim. -/
import Derived.Test.YtpijmjmbjoopaaaDoorAmTAmU
import Derived.WalkKit
import Derived.ProofKit
import Derived.OpenShut
import Derived.Deep.DeepHandedRow
import Derived.Lib.LaidTab
import Derived.WideKeyArgs
import Derived.Below
set_option linter.unusedSimpArgs false
set_option linter.unusedVariables false
namespace Go.AM
open Go.ChangeShapes Go.WideShapes Go.RowKit
variable {P : Program}
def map0 (P : Program) : Mp := fun i => if i < P.globals.size then some (i,0,0) else none
def ints (k : IntKind) (l : List Int) : List V := l.map fun n => .int k n
theorem VRL_ints (m : Mp) (k : IntKind) (l : List Int) : VRL m (ints k l) (l.map fun z => Value.int k z) := by
  induction l with
  | nil => rfl
  | cons a l ih => exact VRL.cons rfl ih
theorem calls_of_ap (hmix : P.follows .mixedOrders = true) {prim : Nat → Option (List V → H → Option (V × H))} (hp : PrimOK P prim) {n g : Nat} {vs : List V} {xs : List Value} {h0 h' : H} {v : V} {m : Mp} {W : World}
    (he : ap P (envOf P prim) n (.func g [] []) vs h0 = some (v,h')) (hr : HR P m h0 W) (hno : ∀ i o,h0.get i = some o → o.mut = false) (hx : VRL m vs xs) :
    Calls P g xs.toArray W fun e w' => ∃ m' x,e = .returned x ∧ VR m' v x ∧ Below W.heap.size W w' := by
  have hA := (ap_sound hmix hp n).fn he hr (xs := xs) (by simpa using hx)
  have hc := callsIn_wide.1 (show CallsIn Fence.wide 0 P g xs.toArray W _ from hA.2 0)
  refine hc.mono fun e w' ⟨m',x,h1,h2,h3,h4⟩ => ⟨m',x,h1,h2,h4.os,h4.tape,h4.output,h4.wsize,fun k hk => h4.frame k hk ?_⟩
  rintro ⟨i,o,sh,e,hg,hm,_⟩
  rw [hno i o hg] at hm; cases hm
section
variable {H' : Type} {enc : TypeId × Value → H'}
theorem trodAll_keeps (hl : laidOutB P = true) {W W' : World} {sp' : Nat → Bool} : ∀ {ts : List TypeId} {vs : List Value} {ds : List (DataW H')} {ps : List MemPlace},(∀ t ∈ ts,t < P.types.size ∧ P.readableRec t = true) →
    DataW.TrodAll enc P W 0 (fun _ => true) true ts vs ds ps → (∀ p ∈ ps,W.sameAt W' p) → (∀ p ∈ ps,sp' p.block = true) → DataW.TrodAll enc P W' 0 sp' true ts vs ds ps
  | [],[],[],_,_,h,_,_ => h
  | t :: ts,_ :: _,_ :: _,_,hT,⟨p,q,h1,h2,e⟩,h3,h4 =>
    ⟨p,q,WideElems.Trod_stays hl (hT t (by simp)).2 (hT t (by simp)).1 h1 (fun x hx => h3 x (by rw [e]; exact List.mem_append_left _ hx)) (fun x hx => h4 x (by rw [e]; exact List.mem_append_left _ hx)),
      trodAll_keeps hl (fun t ht => hT t (by simp [ht])) h2 (fun x hx => h3 x (by rw [e]; exact List.mem_append_right _ hx)) (fun x hx => h4 x (by rw [e]; exact List.mem_append_right _ hx)),e⟩
theorem post_true {f : Func} {s : ChangeSpec} {fresh handsOn : Bool} {W W' : World} {args : Array Value} {ds gs : List (DataW H')} {before : List MemPlace} {t : TypeId} (hW : DataW.Whole enc P f.params.toList s.vars false W args.toList ds gs before)
    (hv : s.vars = []) (hs : s.fn H' (ds ++ gs) = { results := [.lit (.bool true)],args := ds }) (hrt : f.resultTypes = #[t]) (ht : P.underlying t = some .bool)
    (hl : laidOutB P = true) (hps : ∀ t ∈ f.params.toList,t < P.types.size ∧ P.readableRec t = true) (hb : Below W.heap.size W W') : s.post enc P f false fresh handsOn false W args (.bool true) W' := by
  have hW0 := hW
  obtain ⟨p,q,h1,h2,h3,h4,h5⟩ := hW
  rw [hv] at h2
  have hq : gs = [] ∧ q = [] := by
    cases gs with
    | nil => exact ⟨rfl,h2⟩
    | cons a b => cases h2
  obtain ⟨rfl,rfl⟩ := hq
  simp only [List.append_nil] at h3
  have hbef : before = p := h3
  have hlt := hW0.lt
  refine ⟨ds,[],before,[],p,[],hW0,?_,?_,?_,hb.frame _,fun h => by cases h⟩
  · rw [hs,hrt]
    exact trodAll_cons_mk (shut_bool ht true) trodAll_mk0
  · rw [hs]
    exact trodAll_keeps hl hps h1 (fun x hx => hb.same (hlt x (by rw [hbef]; exact hx))) (fun x hx => by simpa using hlt x (by rw [hbef]; exact hx))
  · rw [hs,hv]; rfl
end
end Go.AM
namespace Go.AM
open Go.ChangeShapes Go.WideShapes Go.RowKit
variable {P : Program}
theorem trodAll_length {H' : Type} {enc : TypeId × Value → H'} {W : World} {base : Nat} {sp : Nat → Bool} {held : Bool} : ∀ {ts : List TypeId} {vs : List Value} {ds : List (DataW H')} {ps : List MemPlace},
    DataW.TrodAll enc P W base sp held ts vs ds ps → vs.length = ts.length ∧ ds.length = ts.length
  | [],vs,ds,ps,h => by obtain ⟨rfl,rfl,rfl⟩ := trodAll_nil h; exact ⟨rfl,rfl⟩
  | t :: ts,vs,ds,ps,h => by
    obtain ⟨v,vs1,d,ds1,a,b,rfl,rfl,rfl,h1,h2⟩ := trodAll_cons h
    obtain ⟨k1,k2⟩ := trodAll_length h2
    exact ⟨by simp [k1],by simp [k2]⟩
end Go.AM
