/- strconv.toError by the kit's contract; the start with tables and one sentinel. -/
import Derived.Test.YtelbgimbkfjabaaXDToXJ
import Derived.Lib.ItoaNum
import Derived.Sort.Grow
import Derived.Deep.Draws
import Derived.CallsIn
set_option linter.unusedSimpArgs false
set_option linter.unusedVariables false
namespace Go.AM
section
variable (P : Program) (E : Env) (ro : Option Nat) (L : Nat) (S : List Fr) (Q : Po)
def XDP : List Bool → List O → (Nat → V) → H → Prop
 | p :: ps,o :: r,ρ,h =>
  if wantV (toL L ρ) o.guard then
   if o.op.still then match evK P (toL L ρ) h o.op with
    | some (.pur v) => XDP ps r (upo ρ o.dst v) h
    | some (.rd v) => v.nj = true ∧ p = true ∧ XDP ps r (upo ρ o.dst v) h
    | _ => False
   else match evK P (toL L ρ) h o.op with
    | some (.eff v h') => XDP ps r (upo ρ o.dst v) h'
    | some (.call g args) => ∃ v h',AP P E g args h = some (v,h') ∧ XDP ps r (upo ρ o.dst v) h'
    | _ => False
  else XDP ps r (upo ρ o.dst undefV) h
 | _,_,ρ,h => X P E ro L S ρ h Q
end
variable {P : Program} {E : Env} {ro : Option Nat} {L : Nat} {S : List Fr} {Q : Po}
section
variable {ρ : Nat → V} {h : H} {p : Bool} {ps : List Bool} {r : List O}
def XSP (P : Program) (E : Env) (ro : Option Nat) (L : Nat) (S : List Fr) (Q : Po) (p : Bool) (ps : List Bool) (dst : Option Nat) (r : List O) (ρ : Nat → V) (h : H) : Option Res → Prop
 | some (.pur v) => XDP P E ro L S Q ps r (upo ρ dst v) h
 | some (.rd v) => v.nj = true ∧ p = true ∧ XDP P E ro L S Q ps r (upo ρ dst v) h
 | _ => False
def XCP (P : Program) (E : Env) (ro : Option Nat) (L : Nat) (S : List Fr) (Q : Po) (ps : List Bool) (g : V) (args : List V) (dst : Option Nat) (r : List O) (ρ : Nat → V) (h : H) : Prop :=
 ∃ v h',AP P E g args h = some (v,h') ∧ XDP P E ro L S Q ps r (upo ρ dst v) h'
def XAP (P : Program) (E : Env) (ro : Option Nat) (L : Nat) (S : List Fr) (Q : Po) (ps : List Bool) (dst : Option Nat) (r : List O) (ρ : Nat → V) (h : H) : Option Res → Prop
 | some (.eff v h') => XDP P E ro L S Q ps r (upo ρ dst v) h'
 | some (.call g args) => XCP P E ro L S Q ps g args dst r ρ h
 | _ => False
theorem XDP_nil : XDP P E ro L S Q [] [] ρ h = X P E ro L S ρ h Q := by simp only [XDP]
theorem XDP_cons (dst : Option Nat) (k : AM.K) (g : Option (Nat × Bool)) (pre : Nat) (ns : List Nat) :
  XDP P E ro L S Q (p :: ps) (⟨dst,k,g,pre,ns⟩ :: r) ρ h = if wantV (toL L ρ) g then (if k.still then XSP P E ro L S Q p ps dst r ρ h (evK P (toL L ρ) h k) else XAP P E ro L S Q ps dst r ρ h (evK P (toL L ρ) h k)) else XDP P E ro L S Q ps r (upo ρ dst undefV) h := by
 simp only [XDP]
 congr 1
theorem XSP_pur (p : Bool) (dst : Option Nat) (v : V) : XSP P E ro L S Q p ps dst r ρ h (some (.pur v)) = XDP P E ro L S Q ps r (upo ρ dst v) h := rfl
theorem XSP_rd (dst : Option Nat) (v : V) : XSP P E ro L S Q p ps dst r ρ h (some (.rd v)) = (v.nj = true ∧ p = true ∧ XDP P E ro L S Q ps r (upo ρ dst v) h) := rfl
theorem XAP_eff (dst : Option Nat) (v : V) (h' : H) : XAP P E ro L S Q ps dst r ρ h (some (.eff v h')) = XDP P E ro L S Q ps r (upo ρ dst v) h' := rfl
theorem XAP_call (dst : Option Nat) (g : V) (args : List V) : XAP P E ro L S Q ps dst r ρ h (some (.call g args)) = XCP P E ro L S Q ps g args dst r ρ h := rfl
end
end Go.AM
namespace Go.AM
variable {P : Program}
theorem VRL_ints_eq {m : Mp} {k : IntKind} : ∀ {zs : List Int} {xs : List Value},VRL m (ints k zs) xs → xs = zs.map fun z => Value.int k z
 | [],xs,h => by
  cases xs with
  | nil => rfl
  | cons a b => cases h
 | z :: zs,xs,h => by
  obtain ⟨y,ys,h1,h2,h3⟩ := h
  cases h1
  subst h3
  rw [VRL_ints_eq (zs := zs) h2]; rfl
def Tb (g ty : Nat) (h : H) : Prop := h.get g = some (.cells (ints .u64 Lib.pow10Tab) ty false true none)
theorem Tb.keep {g ty : Nat} (h h' : H) (t : Tb g ty h) (hk : Keeps h.size h h') : Tb g ty h' := Kp.of hk t
end Go.AM
namespace Go.AM
variable {P : Program}
end Go.AM
namespace Go.AM
open Go.RowKit
variable {P : Program}
theorem HR.below {m : Mp} {h : H} {w w' : World} (hr : HR P m h w) (hb : Below w.heap.size w w') : HR P m h w' ∧ Ext m h w m h w' := by
 have hws := hb.size
 refine ⟨⟨hr.ok,hr.dom,hr.glob,fun i r sh e hm => ?_,fun i o hg hl => ?_,hr.inj⟩,?_⟩
 ·have := hr.blk i r sh e hm; omega
 ·obtain ⟨r,sh,e,ob',h1,h2,h3⟩ := hr.obj i o hg hl
  exact ⟨r,sh,e,ob',h1,by rw [hb.block r (hr.blk i r sh e h1)]; exact h2,h3⟩
 ·exact ⟨Sub.refl m,Nat.le_refl _,hws,fun b hb' _ => hb.block b hb',fun _ _ h => h,hb.os,hb.output,hb.tape,fun _ _ h => h⟩
def Es (g t ty : Nat) (h : H) : Prop := h.get g = some (.cells [.iface t .junk] ty false true none)
theorem Es.keep {g t ty : Nat} (h h' : H) (e : Es g t ty h) (hk : Keeps h.size h h') : Es g t ty h' := Kp.of hk e
end Go.AM
namespace Go.AM
open Go.RowKit
variable {P : Program}
def Flat (P : Program) (o : Obj) : Prop := ∀ m m' ob sh e,OR P m ob sh e o → OR P m' ob sh e o
theorem Flat.ints (k : IntKind) (zs : List Int) (ty : Nat) : Flat P (.cells (ints k zs) ty false true none) := by
 intro m m' ob sh e ⟨c,fzr,h1,h2,h3⟩
 refine ⟨c,fzr,h1,?_,h3⟩
 rw [VRL_ints_eq h2]
 exact VRL_ints _ _ _
theorem HR.tables {m : Mp} {h h0 : H} {w : World} (hr : HR P m h w) (hk : h0.ok) (hs : h0.size = P.globals.size) (hsub : ∀ i o,h0.get i = some o → h.get i = some o ∧ Flat P o) : HR P (map0 P) h0 w where
 ok := hk
 dom := fun i x hx => by unfold map0 at hx; split at hx <;> first | (rw [hs]; assumption) | cases hx
 glob := fun g hg => by simp [map0,hg]
 blk := fun i r sh e hm => by
  unfold map0 at hm
  split at hm <;> cases hm
  rename_i hi
  exact hr.blk _ _ _ _ (hr.glob i hi)
 obj := fun i o hg hl => by
  have hi := H.get_lt hg
  rw [hs] at hi
  obtain ⟨h1,h2⟩ := hsub i o hg
  obtain ⟨r,sh,e,ob,q1,q2,q3⟩ := hr.obj i o h1 hl
  have := hr.glob i hi
  rw [q1] at this
  cases this
  exact ⟨i,0,0,ob,by simp [map0,hi],q2,h2 _ _ _ _ _ q3⟩
 inj := fun i j o o' r sh e sh' e' _ _ _ _ h1 h2 => by
  unfold map0 at h1 h2
  split at h1 <;> split at h2 <;> cases h1 <;> cases h2 <;> rfl
def yesP (c : H → Bool) : List V → H → Option (V × H) := fun args h => match args with
 | [] => if c h then some (.bool true,h) else none
 | _ => none
theorem yes_ok (hmix : P.follows .mixedOrders = true) {prim : Nat → Option (List V → H → Option (V × H))} (hp : PrimOK P prim) {k g : Nat} {h0 h1 : H} {c : H → Bool}
  (run : ap P (envOf P prim) k (.func g [] []) [] h0 = some (.bool true,h1)) (hk : h0.ok) (hs : h0.size = P.globals.size) (hno : ∀ i o,h0.get i = some o → o.mut = false)
  (hc : ∀ h,c h = true → ∀ i o,h0.get i = some o → h.get i = some o ∧ Flat P o)
  {args : List V} {h : H} {v : V} {h' : H} {m : Mp} {w : World} {xs : List Value} (he : yesP c args h = some (v,h')) (hr : HR P m h w) (hx : VRL m args xs) (n : Nat) : CallsIn (FF none) n P g xs.toArray w (Post P m h w v h') := by
 unfold yesP at he
 split at he
 ·split at he
  ·rename_i hc2
   cases he
   cases hx
   have h2 := calls_of_ap hmix hp run (hr.tables hk hs (hc h hc2)) hno (xs := []) rfl
   refine callsIn_wide.2 (h2.mono fun e w' ⟨m',x,q1,q2,q3⟩ => ?_)
   cases q2
   obtain ⟨a,b⟩ := hr.below q3
   exact ⟨m,_,q1,rfl,a,b⟩
  ·cases he
 ·cases he
end Go.AM
