/- strconv.toError by the kit's contract; the start with tables and one sentinel. -/
import Derived.Test.YtelbgimbkfjabaaXArgToXK
import Derived.Lib.ItoaNum
import Derived.Sort.Grow
import Derived.Deep.Draws
import Derived.CallsIn
set_option linter.unusedSimpArgs false
set_option linter.unusedVariables false
namespace Go.AM
def ptrLt (lo : Nat) : Option V → Prop
 | some (.ptr (some (i,_))) => i < lo
 | _ => False
def rdLo (lo : Nat) (T : List V) : AM.K → Prop
 | .load1 a => ptrLt lo (a.ev T)
 | .loadN _ a => ptrLt lo (a.ev T)
 | _ => False
theorem ptrLt_mk (lo i o : Nat) : ptrLt lo (some (.ptr (some (i,o)))) = (i < lo) := rfl
theorem rdLo_load1 (lo : Nat) (T : List V) (a : A) : rdLo lo T (.load1 a) = ptrLt lo (a.ev T) := rfl
theorem rdLo_loadN (lo n : Nat) (T : List V) (a : A) : rdLo lo T (.loadN n a) = ptrLt lo (a.ev T) := rfl
theorem rdLo_ok {P : Program} {lo : Nat} {T : List V} {h : H} {k : AM.K} {v : V} (hr : rdLo lo T k) (he : evK P T h k = some (.rd v)) : RdK P lo T h k v := by
 intro h' hk
 cases k with
 | load1 a =>
  simp only [rdLo] at hr
  unfold ptrLt at hr
  split at hr
  ·rename_i i o ha
   rw [← he]
   simp only [evK,ha,hk.get i hr]
  ·exact hr.elim
 | loadN n a =>
  simp only [rdLo] at hr
  unfold ptrLt at hr
  split at hr
  ·rename_i i o ha
   rw [← he]
   simp only [evK,ha,hk.get i hr]
  ·exact hr.elim
 | _ => exact hr.elim
section
variable (P : Program) (E : Env) (ro : Option Nat) (L : Nat) (S : List Fr) (Q : Po) (lo : Nat) (h0 : H)
def XDJ : List Bool → List O → (Nat → V) → H → Prop
 | f :: fs,o :: r,ρ,h =>
  if wantV (toL L ρ) o.guard then
   if o.op.still then match evK P (toL L ρ) (if f then h else h0) o.op with
    | some (.pur v) => XDJ fs r (upo ρ o.dst v) h
    | some (.rd v) => v.nj = true ∧ rdLo lo (toL L ρ) o.op ∧ XDJ fs r (upo ρ o.dst v) h
    | _ => False
   else match evK P (toL L ρ) h o.op with
    | some (.eff v h') => Keeps lo h h' ∧ XDJ fs r (upo ρ o.dst v) h'
    | some (.call g args) => ∃ v h',AP P E g args h = some (v,h') ∧ Keeps lo h h' ∧ XDJ fs r (upo ρ o.dst v) h'
    | _ => False
  else XDJ fs r (upo ρ o.dst undefV) h
 | _,_,ρ,h => X P E ro L S ρ h Q
end
variable {P : Program} {E : Env} {ro : Option Nat} {L : Nat} {S : List Fr} {Q : Po} {lo : Nat} {h0 : H}
theorem XDJ_XDK : ∀ {fs : List Bool} {ops : List O} {ρ : Nat → V} {h : H},XDJ P E ro L S Q lo h0 fs ops ρ h → XDK P E ro L S Q lo h0 fs ops ρ h
 | [],ops,ρ,h,hx => by
  cases ops <;> simpa only [XDJ,XDK] using hx
 | _ :: _,[],ρ,h,hx => by simpa only [XDJ,XDK] using hx
 | f :: fs,o :: r,ρ,h,hx => by
  unfold XDJ at hx
  unfold XDK
  split
  ·rename_i hw
   simp only [hw,if_true] at hx
   split
   ·rename_i hs
    simp only [hs,if_true] at hx
    split
    ·rename_i v he
     rw [he] at hx
     exact XDJ_XDK hx
    ·rename_i v he
     rw [he] at hx
     exact ⟨hx.1,rdLo_ok hx.2.1 he,XDJ_XDK hx.2.2⟩
    ·rename_i h1 h2
     split at hx
     ·rename_i v he; exact (h1 v he).elim
     ·rename_i v he; exact (h2 v he).elim
     ·exact hx
   ·rename_i hs
    simp only [hs,Bool.false_eq_true,if_false] at hx
    split
    ·rename_i v h' he
     rw [he] at hx
     exact ⟨hx.1,XDJ_XDK hx.2⟩
    ·rename_i g args he
     rw [he] at hx
     obtain ⟨v,h',a,b,c⟩ := hx
     exact ⟨v,h',a,b,XDJ_XDK c⟩
    ·rename_i h1 h2
     split at hx
     ·rename_i v h' he; exact (h1 v h' he).elim
     ·rename_i g args he; exact (h2 g args he).elim
     ·exact hx
  ·rename_i hw
   simp only [hw] at hx
   exact XDJ_XDK (by simpa using hx)
section
variable {ρ : Nat → V} {h : H} {f : Bool} {fs : List Bool} {r : List O}
def XSJ (P : Program) (E : Env) (ro : Option Nat) (L : Nat) (S : List Fr) (Q : Po) (lo : Nat) (h0 : H) (fs : List Bool) (dst : Option Nat) (r : List O) (ρ : Nat → V) (h : H) (k : AM.K) : Option Res → Prop
 | some (.pur v) => XDJ P E ro L S Q lo h0 fs r (upo ρ dst v) h
 | some (.rd v) => v.nj = true ∧ rdLo lo (toL L ρ) k ∧ XDJ P E ro L S Q lo h0 fs r (upo ρ dst v) h
 | _ => False
def XCJ (P : Program) (E : Env) (ro : Option Nat) (L : Nat) (S : List Fr) (Q : Po) (lo : Nat) (h0 : H) (fs : List Bool) (g : V) (args : List V) (dst : Option Nat) (r : List O) (ρ : Nat → V) (h : H) : Prop :=
 ∃ v h',AP P E g args h = some (v,h') ∧ Keeps lo h h' ∧ XDJ P E ro L S Q lo h0 fs r (upo ρ dst v) h'
def XAJ (P : Program) (E : Env) (ro : Option Nat) (L : Nat) (S : List Fr) (Q : Po) (lo : Nat) (h0 : H) (fs : List Bool) (dst : Option Nat) (r : List O) (ρ : Nat → V) (h : H) : Option Res → Prop
 | some (.eff v h') => Keeps lo h h' ∧ XDJ P E ro L S Q lo h0 fs r (upo ρ dst v) h'
 | some (.call g args) => XCJ P E ro L S Q lo h0 fs g args dst r ρ h
 | _ => False
theorem XDJ_nil : XDJ P E ro L S Q lo h0 [] [] ρ h = X P E ro L S ρ h Q := by simp only [XDJ]
theorem XDJ_cons (dst : Option Nat) (k : AM.K) (g : Option (Nat × Bool)) (pre : Nat) (ns : List Nat) :
  XDJ P E ro L S Q lo h0 (f :: fs) (⟨dst,k,g,pre,ns⟩ :: r) ρ h = if wantV (toL L ρ) g then (if k.still then XSJ P E ro L S Q lo h0 fs dst r ρ h k (evK P (toL L ρ) (if f then h else h0) k) else XAJ P E ro L S Q lo h0 fs dst r ρ h (evK P (toL L ρ) h k)) else XDJ P E ro L S Q lo h0 fs r (upo ρ dst undefV) h := by
 simp only [XDJ]
 congr 1
theorem XSJ_pur (dst : Option Nat) (k : AM.K) (v : V) : XSJ P E ro L S Q lo h0 fs dst r ρ h k (some (.pur v)) = XDJ P E ro L S Q lo h0 fs r (upo ρ dst v) h := rfl
theorem XSJ_rd (dst : Option Nat) (k : AM.K) (v : V) : XSJ P E ro L S Q lo h0 fs dst r ρ h k (some (.rd v)) = (v.nj = true ∧ rdLo lo (toL L ρ) k ∧ XDJ P E ro L S Q lo h0 fs r (upo ρ dst v) h) := rfl
theorem XAJ_eff (dst : Option Nat) (v : V) (h' : H) : XAJ P E ro L S Q lo h0 fs dst r ρ h (some (.eff v h')) = (Keeps lo h h' ∧ XDJ P E ro L S Q lo h0 fs r (upo ρ dst v) h') := rfl
theorem XAJ_call (dst : Option Nat) (g : V) (args : List V) : XAJ P E ro L S Q lo h0 fs dst r ρ h (some (.call g args)) = XCJ P E ro L S Q lo h0 fs g args dst r ρ h := rfl
end
end Go.AM
namespace Go.AM
section
variable (P : Program) (E : Env) (ro : Option Nat) (L : Nat) (S : List Fr) (Q : Po)
def XDP : List Bool → List O → (Nat → V) → H → Prop
 | p :: ps,o :: r,ρ,h =>
  if wantV (toL L ρ) o.guard then
   if o.op.still then match evK P (toL L ρ) h o.op with
    | some (.pur v) => XDP ps r (upo ρ o.dst v) h
    | some (.rd v) => v.nj = true ∧ p = true ∧ XDP ps r (upo ρ o.dst v) h
    | _ => False
   else match evK P (toL L ρ) h o.op with
    | some (.eff v h') => XDP ps r (upo ρ o.dst v) h'
    | some (.call g args) => ∃ v h',AP P E g args h = some (v,h') ∧ XDP ps r (upo ρ o.dst v) h'
    | _ => False
  else XDP ps r (upo ρ o.dst undefV) h
 | _,_,ρ,h => X P E ro L S ρ h Q
end
variable {P : Program} {E : Env} {ro : Option Nat} {L : Nat} {S : List Fr} {Q : Po}
section
variable {ρ : Nat → V} {h : H} {p : Bool} {ps : List Bool} {r : List O}
def XSP (P : Program) (E : Env) (ro : Option Nat) (L : Nat) (S : List Fr) (Q : Po) (p : Bool) (ps : List Bool) (dst : Option Nat) (r : List O) (ρ : Nat → V) (h : H) : Option Res → Prop
 | some (.pur v) => XDP P E ro L S Q ps r (upo ρ dst v) h
 | some (.rd v) => v.nj = true ∧ p = true ∧ XDP P E ro L S Q ps r (upo ρ dst v) h
 | _ => False
def XCP (P : Program) (E : Env) (ro : Option Nat) (L : Nat) (S : List Fr) (Q : Po) (ps : List Bool) (g : V) (args : List V) (dst : Option Nat) (r : List O) (ρ : Nat → V) (h : H) : Prop :=
 ∃ v h',AP P E g args h = some (v,h') ∧ XDP P E ro L S Q ps r (upo ρ dst v) h'
def XAP (P : Program) (E : Env) (ro : Option Nat) (L : Nat) (S : List Fr) (Q : Po) (ps : List Bool) (dst : Option Nat) (r : List O) (ρ : Nat → V) (h : H) : Option Res → Prop
 | some (.eff v h') => XDP P E ro L S Q ps r (upo ρ dst v) h'
 | some (.call g args) => XCP P E ro L S Q ps g args dst r ρ h
 | _ => False
theorem XDP_nil : XDP P E ro L S Q [] [] ρ h = X P E ro L S ρ h Q := by simp only [XDP]
theorem XDP_cons (dst : Option Nat) (k : AM.K) (g : Option (Nat × Bool)) (pre : Nat) (ns : List Nat) :
  XDP P E ro L S Q (p :: ps) (⟨dst,k,g,pre,ns⟩ :: r) ρ h = if wantV (toL L ρ) g then (if k.still then XSP P E ro L S Q p ps dst r ρ h (evK P (toL L ρ) h k) else XAP P E ro L S Q ps dst r ρ h (evK P (toL L ρ) h k)) else XDP P E ro L S Q ps r (upo ρ dst undefV) h := by
 simp only [XDP]
 congr 1
theorem XSP_pur (p : Bool) (dst : Option Nat) (v : V) : XSP P E ro L S Q p ps dst r ρ h (some (.pur v)) = XDP P E ro L S Q ps r (upo ρ dst v) h := rfl
theorem XSP_rd (dst : Option Nat) (v : V) : XSP P E ro L S Q p ps dst r ρ h (some (.rd v)) = (v.nj = true ∧ p = true ∧ XDP P E ro L S Q ps r (upo ρ dst v) h) := rfl
theorem XAP_eff (dst : Option Nat) (v : V) (h' : H) : XAP P E ro L S Q ps dst r ρ h (some (.eff v h')) = XDP P E ro L S Q ps r (upo ρ dst v) h' := rfl
theorem XAP_call (dst : Option Nat) (g : V) (args : List V) : XAP P E ro L S Q ps dst r ρ h (some (.call g args)) = XCP P E ro L S Q ps g args dst r ρ h := rfl
end
end Go.AM
namespace Go.AM
variable {P : Program}
theorem VRL_ints_eq {m : Mp} {k : IntKind} : ∀ {zs : List Int} {xs : List Value},VRL m (ints k zs) xs → xs = zs.map fun z => Value.int k z
 | [],xs,h => by
  cases xs with
  | nil => rfl
  | cons a b => cases h
 | z :: zs,xs,h => by
  obtain ⟨y,ys,h1,h2,h3⟩ := h
  cases h1
  subst h3
  rw [VRL_ints_eq (zs := zs) h2]; rfl
def Tb (g ty : Nat) (h : H) : Prop := h.get g = some (.cells (ints .u64 Lib.pow10Tab) ty false true none)
theorem Tb.keep {g ty : Nat} (h h' : H) (t : Tb g ty h) (hk : Keeps h.size h h') : Tb g ty h' := Kp.of hk t
open Go.RowKit
theorem HR.below {m : Mp} {h : H} {w w' : World} (hr : HR P m h w) (hb : Below w.heap.size w w') : HR P m h w' ∧ Ext m h w m h w' := by
 have hws := hb.size
 refine ⟨⟨hr.ok,hr.dom,hr.glob,fun i r sh e hm => ?_,fun i o hg hl => ?_,hr.inj⟩,?_⟩
 ·have := hr.blk i r sh e hm; omega
 ·obtain ⟨r,sh,e,ob',h1,h2,h3⟩ := hr.obj i o hg hl
  exact ⟨r,sh,e,ob',h1,by rw [hb.block r (hr.blk i r sh e h1)]; exact h2,h3⟩
 ·exact ⟨Sub.refl m,Nat.le_refl _,hws,fun b hb' _ => hb.block b hb',fun _ _ h => h,hb.os,hb.output,hb.tape,fun _ _ h => h⟩
def Es (g t ty : Nat) (h : H) : Prop := h.get g = some (.cells [.iface t .junk] ty false true none)
theorem Es.keep {g t ty : Nat} (h h' : H) (e : Es g t ty h) (hk : Keeps h.size h h') : Es g t ty h' := Kp.of hk e
end Go.AM
namespace Go.AM
open Go.RowKit
variable {P : Program}
def Flat (P : Program) (o : Obj) : Prop := ∀ m m' ob sh e,OR P m ob sh e o → OR P m' ob sh e o
theorem Flat.ints (k : IntKind) (zs : List Int) (ty : Nat) : Flat P (.cells (ints k zs) ty false true none) := by
 intro m m' ob sh e ⟨c,fzr,h1,h2,h3⟩
 refine ⟨c,fzr,h1,?_,h3⟩
 rw [VRL_ints_eq h2]
 exact VRL_ints _ _ _
theorem HR.tables {m : Mp} {h h0 : H} {w : World} (hr : HR P m h w) (hk : h0.ok) (hs : h0.size = P.globals.size) (hsub : ∀ i o,h0.get i = some o → h.get i = some o ∧ Flat P o) : HR P (map0 P) h0 w where
 ok := hk
 dom := fun i x hx => by unfold map0 at hx; split at hx <;> first | (rw [hs]; assumption) | cases hx
 glob := fun g hg => by simp [map0,hg]
 blk := fun i r sh e hm => by
  unfold map0 at hm
  split at hm <;> cases hm
  rename_i hi
  exact hr.blk _ _ _ _ (hr.glob i hi)
 obj := fun i o hg hl => by
  have hi := H.get_lt hg
  rw [hs] at hi
  obtain ⟨h1,h2⟩ := hsub i o hg
  obtain ⟨r,sh,e,ob,q1,q2,q3⟩ := hr.obj i o h1 hl
  have := hr.glob i hi
  rw [q1] at this
  cases this
  exact ⟨i,0,0,ob,by simp [map0,hi],q2,h2 _ _ _ _ _ q3⟩
 inj := fun i j o o' r sh e sh' e' _ _ _ _ h1 h2 => by
  unfold map0 at h1 h2
  split at h1 <;> split at h2 <;> cases h1 <;> cases h2 <;> rfl
def yesP (c : H → Bool) : List V → H → Option (V × H) := fun args h => match args with
 | [] => if c h then some (.bool true,h) else none
 | _ => none
theorem yes_ok (hmix : P.follows .mixedOrders = true) {prim : Nat → Option (List V → H → Option (V × H))} (hp : PrimOK P prim) {k g : Nat} {h0 h1 : H} {c : H → Bool}
  (run : ap P (envOf P prim) k (.func g [] []) [] h0 = some (.bool true,h1)) (hk : h0.ok) (hs : h0.size = P.globals.size) (hno : ∀ i o,h0.get i = some o → o.mut = false)
  (hc : ∀ h,c h = true → ∀ i o,h0.get i = some o → h.get i = some o ∧ Flat P o)
  {args : List V} {h : H} {v : V} {h' : H} {m : Mp} {w : World} {xs : List Value} (he : yesP c args h = some (v,h')) (hr : HR P m h w) (hx : VRL m args xs) (n : Nat) : CallsIn (FF none) n P g xs.toArray w (Post P m h w v h') := by
 unfold yesP at he
 split at he
 ·split at he
  ·rename_i hc2
   cases he
   cases hx
   have h2 := calls_of_ap hmix hp run (hr.tables hk hs (hc h hc2)) hno (xs := []) rfl
   refine callsIn_wide.2 (h2.mono fun e w' ⟨m',x,q1,q2,q3⟩ => ?_)
   cases q2
   obtain ⟨a,b⟩ := hr.below q3
   exact ⟨m,_,q1,rfl,a,b⟩
  ·cases he
 ·cases he
end Go.AM
