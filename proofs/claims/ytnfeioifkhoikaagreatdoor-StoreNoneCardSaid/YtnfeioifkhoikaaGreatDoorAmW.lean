/- My own text of the evaluator and its soundness (abstract machine), laid for this claim. -/
import Derived.Test.YtnfeioifkhoikaaGreatDoorAmV
/-! Laws that never look at their arguments: the whole frame. -/
namespace Go.AM
open Go.ChangeShapes Go.WideShapes Go.RowKit
variable {P : Program}

def dimCell (P : Program) (t : TypeId) : Bool :=
  match P.underlying t with
  | some .string | some (.int _) | some (.pointer _) | some (.slice _) | some (.map _ _) => true
  | _ => false

def dimArg (P : Program) (t : TypeId) : Option V :=
  match P.underlying t with
  | some (.struct _) | some (.array _ _) => match P.cellTypes P.depth t with
    | some ts => if ts.all (dimCell P) then some (.agg (List.replicate (P.cellsOf t) .junk)) else none
    | none => none
  | _ => if dimCell P t then some .junk else none

def dimArgs (P : Program) : List TypeId → Option (List V)
  | [] => some []
  | t :: ts => match dimArg P t, dimArgs P ts with
    | some v, some vs => some (v :: vs)
    | _, _ => none

theorem dim_cell {m : Mp} {w : World} {r : Reach} {b : Nat} {t : TypeId} {v : Value} (h : Cell.okWide P w r b t v) (hd : dimCell P t = true) : VR m .junk v := by
  unfold dimCell at hd
  unfold Cell.okWide Cell.ok at h
  split at hd
  all_goals first
    | cases hd; done
    | (rename_i hu
       rw [hu] at h
       cases v <;> first
         | (exfalso; simp at h; done)
         | exact ⟨rfl, (fun b h => by cases h), (fun h => by cases h)⟩)

theorem dim_arg {m : Mp} {w : World} {r : Reach} {b : Nat} {t : TypeId} {v : Value} {u : V} (h : Value.okWide P w r b t v) (hd : dimArg P t = some u) : VR m u v := by
  have key : ∀ u, (match P.cellTypes P.depth t with
      | some ts => if ts.all (dimCell P) then some (V.agg (List.replicate (P.cellsOf t) .junk)) else none
      | none => none) = some u → (∃ cs, v = .agg cs ∧ cs.size = P.cellsOf t ∧ Row.okWide P w r b t cs) → VR m u v := by
    rintro u hu ⟨cs, rfl, hsz, ts, ht, _, hc⟩
    rw [ht] at hu
    simp only at hu
    split at hu <;> cases hu
    rename_i hall
    refine ⟨cs.toList, VRL.of_get (by simp [hsz]) fun i z hz => ?_, by simp⟩
    rw [List.getElem?_replicate] at hz
    split at hz <;> cases hz
    rename_i hi
    have hi' : i < cs.size := by omega
    obtain ⟨q, hq, hok⟩ := hc i cs[i] (by simp [hi'])
    exact ⟨cs[i], by simp [hi'], dim_cell hok (List.all_eq_true.1 hall q (List.mem_of_getElem? hq))⟩
  unfold dimArg at hd
  unfold Value.okWide at h
  split at hd
  · rename_i fs hu; rw [hu] at h; exact key u hd h
  · rename_i n e hu; rw [hu] at h; exact key u hd h
  · rename_i n1 n2
    split at hd <;> cases hd
    rename_i hdc
    split at h
    · rename_i fs hu; exact absurd hu (n1 fs)
    · rename_i n e hu; exact absurd hu (n2 n e)
    · exact dim_cell h hdc

theorem dim_args {m : Mp} {w : World} {r : Reach} {b : Nat} : ∀ {ts : List TypeId} {args : List Value} {vs : List V}, dimArgs P ts = some vs → args.length = ts.length →
    (∀ (j : Nat) t v, ts[j]? = some t → args[j]? = some v → Value.okWide P w r b t v) → VRL m vs args
  | [], [], vs, h, _, _ => by cases h; rfl
  | [], _ :: _, _, _, h, _ => by simp at h
  | _ :: _, [], _, _, h, _ => by simp at h
  | t :: ts, v :: args, vs, h, hl, hval => by
    simp only [dimArgs] at h
    split at h <;> cases h
    rename_i u us h1 h2
    exact VRL.cons (dim_arg (hval 0 t v rfl rfl) h1) (dim_args h2 (by simpa using hl) fun j t v ht hv => hval (j + 1) t v (by simpa using ht) (by simpa using hv))

theorem trodAll_length {H' : Type} {enc : TypeId × Value → H'} {W : World} {base : Nat} {sp : Nat → Bool} {held : Bool} : ∀ {ts : List TypeId} {vs : List Value} {ds : List (DataW H')} {ps : List MemPlace},
    DataW.TrodAll enc P W base sp held ts vs ds ps → vs.length = ts.length ∧ ds.length = ts.length
  | [], vs, ds, ps, h => by obtain ⟨rfl, rfl, rfl⟩ := trodAll_nil h; exact ⟨rfl, rfl⟩
  | t :: ts, vs, ds, ps, h => by
    obtain ⟨v, vs1, d, ds1, a, b, rfl, rfl, rfl, h1, h2⟩ := trodAll_cons h
    obtain ⟨k1, k2⟩ := trodAll_length h2
    exact ⟨by simp [k1], by simp [k2]⟩

def isTrue : Option (V × H) → Bool
  | some (.bool b, _) => b
  | _ => false
theorem isTrue_spec {r : Option (V × H)} (h : isTrue r = true) : ∃ h', r = some (.bool true, h') := by
  unfold isTrue at h
  split at h
  · subst h; exact ⟨_, rfl⟩
  · cases h

/-- THE WHOLE: a law that never looks at its arguments. -/
theorem contract_dim (hmix : P.follows .mixedOrders = true) {prim : Nat → Option (List V → H → Option (V × H))} (hp : PrimOK P prim) {n g : Nat} {f : Func} {s : ChangeSpec} {fresh handsOn : Bool} {vs : List V} {h0 : H} {W : World} {m : Mp}
    (hrun : isTrue (ap P (envOf P prim) n (.func g [] []) vs h0) = true) (hr : HR P m h0 W) (hno : ∀ i o, h0.get i = some o → o.mut = false) (hd : dimArgs P f.params.toList = some vs)
    {H' : Type} {enc : TypeId × Value → H'} {base : Nat} {args : Array Value} {ds gs : List (DataW H')} {before : List MemPlace} {t : TypeId}
    (hval : ∀ (j : Nat) t v, f.params[j]? = some t → args[j]? = some v → Value.okWide P W .any base t v)
    (hW : DataW.Whole enc P f.params.toList s.vars false W args.toList ds gs before) (hv : s.vars = []) (hs : ∀ ds : List (DataW H'), ds.length = f.params.size → s.fn H' ds = { results := [.lit (.bool true)], args := ds })
    (hrt : f.resultTypes = #[t]) (ht : P.underlying t = some .bool) (hl : laidOutB P = true) (hps : (f.params.toList.all fun t => decide (t < P.types.size) && P.readableRec t) = true) :
    Calls P g args W fun e W' => ∃ v, e = .returned v ∧ s.post enc P f false fresh handsOn false W args v W' := by
  obtain ⟨h', he⟩ := isTrue_spec hrun
  obtain ⟨p, q, hA, hV, _, _, _⟩ := id hW
  obtain ⟨l1, l2⟩ := trodAll_length hA
  have hgs : gs = [] := by
    rw [hv] at hV
    cases gs with
    | nil => rfl
    | cons a b => cases hV
  subst hgs
  have hx : VRL m vs args.toList := dim_args hd l1 fun j t v h1 h2 => hval j t v (by simpa using h1) (by simpa using h2)
  have hc := calls_of_ap (xs := args.toList) hmix hp he hr hno hx
  rw [Array.toArray_toList] at hc
  refine hc.mono fun e w' ⟨m', x, h1, h2, h3⟩ => ?_
  cases h2
  refine ⟨_, h1, post_true hW hv ?_ hrt ht hl ?_ h3⟩
  · rw [List.append_nil]; exact hs ds (by simpa using l2)
  · intro t ht
    have := List.all_eq_true.1 hps t ht
    simpa using this
end Go.AM
