/- My own text of the evaluator and its soundness (abstract machine), laid for this claim. -/
import Derived.Test.YtnfeioifkhoikaaGreatDoorAmU
import Derived.WalkKit
import Derived.ProofKit
import Derived.OpenShut
import Derived.Deep.DeepHandedRow
import Derived.Lib.LaidTab
import Derived.WideKeyArgs
import Derived.Below
/-! From the evaluator's answer to a law's statement. -/
namespace Go.AM
open Go.ChangeShapes Go.WideShapes Go.RowKit
variable {P : Program}

/-- The first map: the package-level variables stand where they stand. -/
def map0 (P : Program) : Mp := fun i => if i < P.globals.size then some (i, 0, 0) else none

def ints (k : IntKind) (l : List Int) : List V := l.map fun n => .int k n

theorem VRL_ints (m : Mp) (k : IntKind) (l : List Int) : VRL m (ints k l) (l.map fun z => Value.int k z) := by
  induction l with
  | nil => rfl
  | cons a l ih => exact VRL.cons rfl ih

/-- The first heap holds nothing but tables. -/
theorem HR.init {h0 : H} {W : World} (hk : h0.ok) (hs : h0.size = P.globals.size) (hW : P.globals.size ≤ W.heap.size)
    (hob : ∀ i o, h0.get i = some o → o = .dead ∨ ∃ k l ty, o = .cells (ints k l) ty false true none ∧ W.heap[i]? = some (.cells (l.map fun z => Value.int k z).toArray ty)) : HR P (map0 P) h0 W where
  ok := hk
  dom := fun i x hx => by unfold map0 at hx; split at hx <;> first | (rw [hs]; assumption) | cases hx
  glob := fun g hg => by simp [map0, hg]
  blk := fun i r sh e hm => by unfold map0 at hm; split at hm <;> cases hm; omega
  obj := fun i o hg hl => by
    have hi := H.get_lt hg
    rw [hs] at hi
    rcases hob i o hg with rfl | ⟨k, l, ty, rfl, hw⟩
    · cases hl
    · exact ⟨i, 0, 0, _, by simp [map0, hi], hw, OR.closed (VRL_ints _ k l)⟩
  inj := fun i j o o' r sh e sh' e' _ _ _ _ h1 h2 => by
    unfold map0 at h1 h2
    split at h1 <;> split at h2 <;> cases h1 <;> cases h2 <;> rfl

theorem calls_of_ap (hmix : P.follows .mixedOrders = true) {prim : Nat → Option (List V → H → Option (V × H))} (hp : PrimOK P prim) {n g : Nat} {vs : List V} {xs : List Value} {h0 h' : H} {v : V} {m : Mp} {W : World}
    (he : ap P (envOf P prim) n (.func g [] []) vs h0 = some (v, h')) (hr : HR P m h0 W) (hno : ∀ i o, h0.get i = some o → o.mut = false) (hx : VRL m vs xs) :
    Calls P g xs.toArray W fun e w' => ∃ m' x, e = .returned x ∧ VR m' v x ∧ Below W.heap.size W w' := by
  have hA := (ap_sound hmix hp n).fn he hr (xs := xs) (by simpa using hx)
  have hc := callsIn_wide.1 (show CallsIn Fence.wide 0 P g xs.toArray W _ from hA.2 0)
  refine hc.mono fun e w' ⟨m', x, h1, h2, h3, h4⟩ => ⟨m', x, h1, h2, h4.os, h4.tape, h4.output, h4.wsize, fun k hk => h4.frame k hk ?_⟩
  rintro ⟨i, o, sh, e, hg, hm, _⟩
  rw [hno i o hg] at hm; cases hm

theorem noPrim : PrimOK P (fun _ => none) := fun g f h => by cases h

section
variable {H' : Type} {enc : TypeId × Value → H'}

theorem trodAll_keeps (hl : laidOutB P = true) {W W' : World} {sp' : Nat → Bool} : ∀ {ts : List TypeId} {vs : List Value} {ds : List (DataW H')} {ps : List MemPlace}, (∀ t ∈ ts, t < P.types.size ∧ P.readableRec t = true) →
    DataW.TrodAll enc P W 0 (fun _ => true) true ts vs ds ps → (∀ p ∈ ps, W.sameAt W' p) → (∀ p ∈ ps, sp' p.block = true) → DataW.TrodAll enc P W' 0 sp' true ts vs ds ps
  | [], [], [], _, _, h, _, _ => h
  | t :: ts, _ :: _, _ :: _, _, hT, ⟨p, q, h1, h2, e⟩, h3, h4 =>
    ⟨p, q, WideElems.Trod_stays hl (hT t (by simp)).2 (hT t (by simp)).1 h1 (fun x hx => h3 x (by rw [e]; exact List.mem_append_left _ hx)) (fun x hx => h4 x (by rw [e]; exact List.mem_append_left _ hx)),
      trodAll_keeps hl (fun t ht => hT t (by simp [ht])) h2 (fun x hx => h3 x (by rw [e]; exact List.mem_append_right _ hx)) (fun x hx => h4 x (by rw [e]; exact List.mem_append_right _ hx)), e⟩

/-- A law's end: true, and whatever was there is as it was. -/
theorem post_true {f : Func} {s : ChangeSpec} {fresh handsOn : Bool} {W W' : World} {args : Array Value} {ds gs : List (DataW H')} {before : List MemPlace} {t : TypeId} (hW : DataW.Whole enc P f.params.toList s.vars false W args.toList ds gs before)
    (hv : s.vars = []) (hs : s.fn H' (ds ++ gs) = { results := [.lit (.bool true)], args := ds }) (hrt : f.resultTypes = #[t]) (ht : P.underlying t = some .bool)
    (hl : laidOutB P = true) (hps : ∀ t ∈ f.params.toList, t < P.types.size ∧ P.readableRec t = true) (hb : Below W.heap.size W W') : s.post enc P f false fresh handsOn false W args (.bool true) W' := by
  have hW0 := hW
  obtain ⟨p, q, h1, h2, h3, h4, h5⟩ := hW
  rw [hv] at h2
  have hq : gs = [] ∧ q = [] := by
    cases gs with
    | nil => exact ⟨rfl, h2⟩
    | cons a b => cases h2
  obtain ⟨rfl, rfl⟩ := hq
  simp only [List.append_nil] at h3
  have hbef : before = p := h3
  have hlt := hW0.lt
  refine ⟨ds, [], before, [], p, [], hW0, ?_, ?_, ?_, hb.frame _, fun h => by cases h⟩
  · rw [hs, hrt]
    exact trodAll_cons_mk (shut_bool ht true) trodAll_mk0
  · rw [hs]
    exact trodAll_keeps hl hps h1 (fun x hx => hb.same (hlt x (by rw [hbef]; exact hx))) (fun x hx => by simpa using hlt x (by rw [hbef]; exact hx))
  · rw [hs, hv]; rfl
end

/-- An argument that is never looked at. -/
theorem VR.dim_slice (m : Mp) (a : Option Addr) (l c : Nat) : VR m .junk (.slice a l c) := ⟨rfl, (fun b h => by cases h), (fun h => by cases h)⟩
theorem VR.dim_int (m : Mp) (k : IntKind) (n : Int) : VR m .junk (.int k n) := ⟨rfl, (fun b h => by cases h), (fun h => by cases h)⟩
theorem VR.dim_string (m : Mp) (s : ByteArray) : VR m .junk (.string s) := ⟨rfl, (fun b h => by cases h), (fun h => by cases h)⟩
end Go.AM
