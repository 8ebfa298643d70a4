/- My own texts of the evaluator, its soundness and its symbolic runs, laid for this claim. -/
import Derived.Test.YtelbgimbkfjabaaXBufXK
import Derived.Lib.LaidTab
import Derived.Lib.ItoaNum
import Derived.Sort.Grow
import Derived.Deep.Draws
import Derived.CallsIn
set_option linter.unusedSimpArgs false
set_option linter.unusedVariables false
/-! Draw regions in which young blocks are written, readings by their place: all that is read lies below 'lo'. -/
namespace Go.AM
def ptrLt (lo : Nat) : Option V → Prop
  | some (.ptr (some (i, _))) => i < lo
  | _ => False
def rdLo (lo : Nat) (T : List V) : AM.K → Prop
  | .load1 a => ptrLt lo (a.ev T)
  | .loadN _ a => ptrLt lo (a.ev T)
  | _ => False
theorem ptrLt_mk (lo i o : Nat) : ptrLt lo (some (.ptr (some (i, o)))) = (i < lo) := rfl
theorem rdLo_load1 (lo : Nat) (T : List V) (a : A) : rdLo lo T (.load1 a) = ptrLt lo (a.ev T) := rfl
theorem rdLo_loadN (lo n : Nat) (T : List V) (a : A) : rdLo lo T (.loadN n a) = ptrLt lo (a.ev T) := rfl
theorem rdLo_ok {P : Program} {lo : Nat} {T : List V} {h : H} {k : AM.K} {v : V} (hr : rdLo lo T k) (he : evK P T h k = some (.rd v)) : RdK P lo T h k v := by
  intro h' hk
  cases k with
  | load1 a =>
    simp only [rdLo] at hr
    unfold ptrLt at hr
    split at hr
    · rename_i i o ha
      rw [← he]
      simp only [evK, ha, hk.get i hr]
    · exact hr.elim
  | loadN n a =>
    simp only [rdLo] at hr
    unfold ptrLt at hr
    split at hr
    · rename_i i o ha
      rw [← he]
      simp only [evK, ha, hk.get i hr]
    · exact hr.elim
  | _ => exact hr.elim
section
variable (P : Program) (E : Env) (ro : Option Nat) (L : Nat) (S : List Fr) (Q : Po) (lo : Nat) (h0 : H)
def XDJ : List Bool → List O → (Nat → V) → H → Prop
  | f :: fs, o :: r, ρ, h =>
    if wantV (toL L ρ) o.guard then
      if o.op.still then match evK P (toL L ρ) (if f then h else h0) o.op with
        | some (.pur v) => XDJ fs r (upo ρ o.dst v) h
        | some (.rd v) => v.nj = true ∧ rdLo lo (toL L ρ) o.op ∧ XDJ fs r (upo ρ o.dst v) h
        | _ => False
      else match evK P (toL L ρ) h o.op with
        | some (.eff v h') => Keeps lo h h' ∧ XDJ fs r (upo ρ o.dst v) h'
        | some (.call g args) => ∃ v h', AP P E g args h = some (v, h') ∧ Keeps lo h h' ∧ XDJ fs r (upo ρ o.dst v) h'
        | _ => False
    else XDJ fs r (upo ρ o.dst undefV) h
  | _, _, ρ, h => X P E ro L S ρ h Q
end
variable {P : Program} {E : Env} {ro : Option Nat} {L : Nat} {S : List Fr} {Q : Po} {lo : Nat} {h0 : H}
theorem XDJ_XDK : ∀ {fs : List Bool} {ops : List O} {ρ : Nat → V} {h : H}, XDJ P E ro L S Q lo h0 fs ops ρ h → XDK P E ro L S Q lo h0 fs ops ρ h
  | [], ops, ρ, h, hx => by
    cases ops <;> simpa only [XDJ, XDK] using hx
  | _ :: _, [], ρ, h, hx => by simpa only [XDJ, XDK] using hx
  | f :: fs, o :: r, ρ, h, hx => by
    unfold XDJ at hx
    unfold XDK
    split
    · rename_i hw
      simp only [hw, if_true] at hx
      split
      · rename_i hs
        simp only [hs, if_true] at hx
        split
        · rename_i v he
          rw [he] at hx
          exact XDJ_XDK hx
        · rename_i v he
          rw [he] at hx
          exact ⟨hx.1, rdLo_ok hx.2.1 he, XDJ_XDK hx.2.2⟩
        · rename_i h1 h2
          split at hx
          · rename_i v he; exact (h1 v he).elim
          · rename_i v he; exact (h2 v he).elim
          · exact hx
      · rename_i hs
        simp only [hs, Bool.false_eq_true, if_false] at hx
        split
        · rename_i v h' he
          rw [he] at hx
          exact ⟨hx.1, XDJ_XDK hx.2⟩
        · rename_i g args he
          rw [he] at hx
          obtain ⟨v, h', a, b, c⟩ := hx
          exact ⟨v, h', a, b, XDJ_XDK c⟩
        · rename_i h1 h2
          split at hx
          · rename_i v h' he; exact (h1 v h' he).elim
          · rename_i g args he; exact (h2 g args he).elim
          · exact hx
    · rename_i hw
      simp only [hw] at hx
      exact XDJ_XDK (by simpa using hx)
section
variable {ρ : Nat → V} {h : H} {f : Bool} {fs : List Bool} {r : List O}
def XSJ (P : Program) (E : Env) (ro : Option Nat) (L : Nat) (S : List Fr) (Q : Po) (lo : Nat) (h0 : H) (fs : List Bool) (dst : Option Nat) (r : List O) (ρ : Nat → V) (h : H) (k : AM.K) : Option Res → Prop
  | some (.pur v) => XDJ P E ro L S Q lo h0 fs r (upo ρ dst v) h
  | some (.rd v) => v.nj = true ∧ rdLo lo (toL L ρ) k ∧ XDJ P E ro L S Q lo h0 fs r (upo ρ dst v) h
  | _ => False
def XCJ (P : Program) (E : Env) (ro : Option Nat) (L : Nat) (S : List Fr) (Q : Po) (lo : Nat) (h0 : H) (fs : List Bool) (g : V) (args : List V) (dst : Option Nat) (r : List O) (ρ : Nat → V) (h : H) : Prop :=
  ∃ v h', AP P E g args h = some (v, h') ∧ Keeps lo h h' ∧ XDJ P E ro L S Q lo h0 fs r (upo ρ dst v) h'
def XAJ (P : Program) (E : Env) (ro : Option Nat) (L : Nat) (S : List Fr) (Q : Po) (lo : Nat) (h0 : H) (fs : List Bool) (dst : Option Nat) (r : List O) (ρ : Nat → V) (h : H) : Option Res → Prop
  | some (.eff v h') => Keeps lo h h' ∧ XDJ P E ro L S Q lo h0 fs r (upo ρ dst v) h'
  | some (.call g args) => XCJ P E ro L S Q lo h0 fs g args dst r ρ h
  | _ => False
theorem XDJ_nil : XDJ P E ro L S Q lo h0 [] [] ρ h = X P E ro L S ρ h Q := by simp only [XDJ]
theorem XDJ_cons (dst : Option Nat) (k : AM.K) (g : Option (Nat × Bool)) (pre : Nat) (ns : List Nat) :
    XDJ P E ro L S Q lo h0 (f :: fs) (⟨dst, k, g, pre, ns⟩ :: r) ρ h = if wantV (toL L ρ) g then (if k.still then XSJ P E ro L S Q lo h0 fs dst r ρ h k (evK P (toL L ρ) (if f then h else h0) k) else XAJ P E ro L S Q lo h0 fs dst r ρ h (evK P (toL L ρ) h k)) else XDJ P E ro L S Q lo h0 fs r (upo ρ dst undefV) h := by
  simp only [XDJ]
  congr 1
theorem XSJ_pur (dst : Option Nat) (k : AM.K) (v : V) : XSJ P E ro L S Q lo h0 fs dst r ρ h k (some (.pur v)) = XDJ P E ro L S Q lo h0 fs r (upo ρ dst v) h := rfl
theorem XSJ_rd (dst : Option Nat) (k : AM.K) (v : V) : XSJ P E ro L S Q lo h0 fs dst r ρ h k (some (.rd v)) = (v.nj = true ∧ rdLo lo (toL L ρ) k ∧ XDJ P E ro L S Q lo h0 fs r (upo ρ dst v) h) := rfl
theorem XAJ_eff (dst : Option Nat) (v : V) (h' : H) : XAJ P E ro L S Q lo h0 fs dst r ρ h (some (.eff v h')) = (Keeps lo h h' ∧ XDJ P E ro L S Q lo h0 fs r (upo ρ dst v) h') := rfl
theorem XAJ_call (dst : Option Nat) (g : V) (args : List V) : XAJ P E ro L S Q lo h0 fs dst r ρ h (some (.call g args)) = XCJ P E ro L S Q lo h0 fs g args dst r ρ h := rfl
theorem XCJ_of {g : V} {args : List V} {R : V → H → Prop} (s : Sp P E g args h R) {dst : Option Nat} (hk : ∀ v h', R v h' → Keeps lo h h' ∧ XDJ P E ro L S Q lo h0 fs r (upo ρ dst v) h') : XCJ P E ro L S Q lo h0 fs g args dst r ρ h := by
  obtain ⟨v, h', e, q⟩ := s
  exact ⟨v, h', e, (hk v h' q).1, (hk v h' q).2⟩
end
end Go.AM
/-! Draw regions whose actions and readings are in order, whatever else floats. -/
namespace Go.AM
def ordFl (acts : List (Nat × Nat)) : List O → Nat → List Bool
  | [], _ => []
  | o :: r, i => against i o.pre acts :: ordFl acts r (i + 1)
def actFl : List Bool → List O → Bool
  | p :: ps, o :: r => (o.op.still || p) && actFl ps r
  | _, _ => true
theorem ordFl_get {acts : List (Nat × Nat)} : ∀ (ops : List O) (i j : Nat) (o : O), ops[j]? = some o → (ordFl acts ops i)[j]? = some (against (i + j) o.pre acts)
  | [], _, _, _, h => by simp at h
  | o1 :: ops, i, 0, o, h => by simp at h; subst h; simp [ordFl]
  | o1 :: ops, i, j + 1, o, h => by
    have := ordFl_get (acts := acts) ops (i + 1) j o (by simpa using h)
    rw [show i + 1 + j = i + (j + 1) by omega] at this
    simpa [ordFl] using this
theorem actFl_get : ∀ (ps : List Bool) (ops : List O) (j : Nat) (p : Bool) (o : O), actFl ps ops = true → ps[j]? = some p → ops[j]? = some o → o.op.still = false → p = true
  | [], _, _, _, _, _, h, _, _ => by simp at h
  | _ :: _, [], _, _, _, _, _, h, _ => by simp at h
  | p1 :: ps, o1 :: ops, 0, p, o, hd, h1, h2, h3 => by
    simp at h1 h2; subst h1 h2
    simp only [actFl, Bool.and_eq_true, Bool.or_eq_true, h3, Bool.false_eq_true, false_or] at hd
    exact hd.1
  | p1 :: ps, o1 :: ops, j + 1, p, o, hd, h1, h2, h3 => by
    simp only [actFl, Bool.and_eq_true] at hd
    exact actFl_get ps ops j p o hd.2 (by simpa using h1) (by simpa using h2) h3
theorem pin_spec {ops : List O} {i j : Nat} {o o' : O} (hp : (ordFl (actsAt ops 0) ops 0)[i]? = some true) (hi : ops[i]? = some o) (hj : ops[j]? = some o') (hs : o'.op.still = false) :
    (j < i → o.pre.testBit j = true) ∧ (i < j → o'.pre.testBit i = true) := by
  have h1 := ordFl_get (acts := actsAt ops 0) ops 0 i o hi
  rw [hp, Nat.zero_add] at h1
  have h1 := (Option.some.inj h1).symm
  have h2 := actsAt_mem ops 0 j o' hj hs
  rw [Nat.zero_add] at h2
  have h3 := List.all_eq_true.1 h1 _ h2
  simp only at h3
  refine ⟨fun h => ?_, fun h => ?_⟩
  · rwa [if_pos h] at h3
  · rw [if_neg (by omega)] at h3
    simp only [Bool.or_eq_true, beq_iff_eq] at h3
    rcases h3 with h3 | h3
    · omega
    · exact h3
section
variable (P : Program) (E : Env) (ro : Option Nat) (L : Nat) (S : List Fr) (Q : Po)
def XDP : List Bool → List O → (Nat → V) → H → Prop
  | p :: ps, o :: r, ρ, h =>
    if wantV (toL L ρ) o.guard then
      if o.op.still then match evK P (toL L ρ) h o.op with
        | some (.pur v) => XDP ps r (upo ρ o.dst v) h
        | some (.rd v) => v.nj = true ∧ p = true ∧ XDP ps r (upo ρ o.dst v) h
        | _ => False
      else match evK P (toL L ρ) h o.op with
        | some (.eff v h') => XDP ps r (upo ρ o.dst v) h'
        | some (.call g args) => ∃ v h', AP P E g args h = some (v, h') ∧ XDP ps r (upo ρ o.dst v) h'
        | _ => False
    else XDP ps r (upo ρ o.dst undefV) h
  | _, _, ρ, h => X P E ro L S ρ h Q
end
variable {P : Program} {E : Env} {ro : Option Nat} {L : Nat} {S : List Fr} {Q : Po}
def EntsP : List Bool → List Ent → Prop
  | p :: ps, e :: es => (e.rd = true → e.v.nj = true ∧ p = true) ∧ EntsP ps es
  | _, _ => True
theorem EntsP_get : ∀ (ps : List Bool) (es : List Ent) (i : Nat) (p : Bool) (e : Ent), EntsP ps es → ps[i]? = some p → es[i]? = some e → e.rd = true → e.v.nj = true ∧ p = true
  | [], _, _, _, _, _, h, _ => by simp at h
  | _ :: _, [], _, _, _, _, _, h => by simp at h
  | p1 :: ps, e1 :: es, 0, p, e, hq, h1, h2 => by simp at h1 h2; subst h1 h2; exact hq.1
  | p1 :: ps, e1 :: es, i + 1, p, e, hq, h1, h2 => EntsP_get ps es i p e hq.2 (by simpa using h1) (by simpa using h2)
theorem XDP_ents : ∀ (ps : List Bool) (ops : List O) (ρ : Nat → V) (h : H), ps.length = ops.length → XDP P E ro L S Q ps ops ρ h →
    ∃ es T' h', evDr P (AP P E) ops (toL L ρ) h = some (es, T', h') ∧ EntsP ps es ∧ XX P E ro S .nrm T' h' Q
  | [], [], ρ, h, _, hx => ⟨[], toL L ρ, h, rfl, trivial, by simpa only [XDP, X] using hx⟩
  | [], _ :: _, _, _, hl, _ => by simp at hl
  | _ :: _, [], _, _, hl, _ => by simp at hl
  | p :: ps, o :: r, ρ, h, hl, hx => by
    have one : ∀ (ent : Ent) (v : V) (h1 : H), (ent.rd = true → ent.v.nj = true ∧ p = true) → XDP P E ro L S Q ps r (upo ρ o.dst v) h1 →
        ∃ es T' h', ((evDr P (AP P E) r (putV (toL L ρ) o.dst v) h1).map fun x => (ent :: x.1, x.2)) = some (es, T', h') ∧ EntsP (p :: ps) es ∧ XX P E ro S .nrm T' h' Q := by
      intro ent v h1 a2 a4
      obtain ⟨es, T', h', e1, e2, e3⟩ := XDP_ents ps r _ h1 (by simpa using hl) a4
      exact ⟨ent :: es, T', h', by rw [putV_upo, e1]; rfl, ⟨a2, e2⟩, e3⟩
    unfold XDP at hx
    simp only [evDr]
    split at hx
    · rename_i hw
      simp only [hw, if_true]
      split at hx
      · split at hx
        · rename_i v he
          rw [he]
          exact one ⟨toL L ρ, h, h, v, false, false⟩ v h (by simp) hx
        · rename_i v he
          rw [he]
          exact one ⟨toL L ρ, h, h, v, false, true⟩ v h (fun _ => ⟨hx.1, hx.2.1⟩) hx.2.2
        · exact hx.elim
      · split at hx
        · rename_i v h' he
          rw [he]
          exact one ⟨toL L ρ, h, h', v, true, false⟩ v h' (by simp) hx
        · rename_i g args he
          rw [he]
          obtain ⟨v, h', ha, hx⟩ := hx
          simp only [ha]
          exact one ⟨toL L ρ, h, h', v, true, false⟩ v h' (by simp) hx
        · exact hx.elim
    · rename_i hw
      simp only [hw]
      exact one ⟨toL L ρ, h, h, undefV, false, false⟩ undefV h (by simp) hx

theorem XD_pin {ops : List O} {ps : List Bool} {ρ : Nat → V} {h : H} (hf : ordFl (actsAt ops 0) ops 0 = ps) (hc : (actFl ps ops && fstat ops) = true) (hx : XDP P E ro L S Q ps ops ρ h) : XD P E ro L ops S ρ h Q := by
  have hlen : ps.length = ops.length := by
    rw [← hf]
    have : ∀ (ops : List O) (acts : List (Nat × Nat)) (j : Nat), (ordFl acts ops j).length = ops.length := by
      intro ops
      induction ops with
      | nil => intro _ _; rfl
      | cons o r ih => intro _ _; simp [ordFl, ih]
    exact this _ _ _
  obtain ⟨es, T', h', he, hq, hX⟩ := XDP_ents ps ops ρ h hlen hx
  obtain ⟨e1, e2, e3, e4, e5⟩ := evDr_ents ops (toL L ρ) h es T' h' he
  refine ⟨T', h', ?_, hX⟩
  rw [Bool.and_eq_true] at hc
  obtain ⟨hc, hfs⟩ := hc
  have pget : ∀ (i : Nat) o, ops[i]? = some o → ∃ p, ps[i]? = some p ∧ (p = true → (ordFl (actsAt ops 0) ops 0)[i]? = some true) := fun i o hi => by
    have hlt : i < ps.length := by rw [hlen]; exact (List.getElem?_eq_some_iff.1 hi).1
    refine ⟨ps[i], List.getElem?_eq_getElem hlt, fun hp => ?_⟩
    rw [hf, List.getElem?_eq_getElem hlt, hp]
  have hfl : floatOk (actsF ops es 0) ops = true := fstat_ok hfs fun k o e a1 a2 a3 => (e2 k e o a2 a1).1 a3
  have hch : chainF (actsF ops es 0) = true := chain_ok ops es 0 fun k l o o' a b a1 a2 a3 a4 a5 a6 a7 => by
    have hs := (e2 k a o a3 a1).1 a5
    have hs' := (e2 l b o' a4 a2).1 a6
    obtain ⟨p, q1, q2⟩ := pget l o' a2
    rw [Nat.zero_add]
    exact .inr ((pin_spec (q2 (actFl_get ps ops l p o' hc q1 a2 hs')) a2 a1 hs).1 a7)
  have hrd : rdsOk P (actsOf ops es 0) h ops es 0 = true := rds_ok ops es 0 fun k o e a1 a2 a3 => by
    rw [Nat.zero_add]
    obtain ⟨q1, q2⟩ := (e2 k e o a2 a1).2 a3
    obtain ⟨p, w1, w2⟩ := pget k o a1
    obtain ⟨hnj, hp⟩ := EntsP_get ps es k p e hq w1 a2 a3
    have hsame : sameAt P o e e.h = true := by
      unfold sameAt; rw [q1]
      exact V.beq_refl _ hnj
    refine reads_ok hsame q2 ops es 0 h e3 e4 e5 e1 (fun _ => by simpa using a2) (fun hh => by omega) fun l a o' b1 b2 b3 => ?_
    have hs := (e2 l a o' b1 b2).1 b3
    rw [Nat.zero_add]
    exact pin_spec (w2 hp) a1 b2 hs
  unfold evDraw
  rw [he]
  simp only [hch, hrd, hfl, Bool.and_self, Bool.or_true, if_true]
section
variable {ρ : Nat → V} {h : H} {p : Bool} {ps : List Bool} {r : List O}
def XSP (P : Program) (E : Env) (ro : Option Nat) (L : Nat) (S : List Fr) (Q : Po) (p : Bool) (ps : List Bool) (dst : Option Nat) (r : List O) (ρ : Nat → V) (h : H) : Option Res → Prop
  | some (.pur v) => XDP P E ro L S Q ps r (upo ρ dst v) h
  | some (.rd v) => v.nj = true ∧ p = true ∧ XDP P E ro L S Q ps r (upo ρ dst v) h
  | _ => False
def XCP (P : Program) (E : Env) (ro : Option Nat) (L : Nat) (S : List Fr) (Q : Po) (ps : List Bool) (g : V) (args : List V) (dst : Option Nat) (r : List O) (ρ : Nat → V) (h : H) : Prop :=
  ∃ v h', AP P E g args h = some (v, h') ∧ XDP P E ro L S Q ps r (upo ρ dst v) h'
def XAP (P : Program) (E : Env) (ro : Option Nat) (L : Nat) (S : List Fr) (Q : Po) (ps : List Bool) (dst : Option Nat) (r : List O) (ρ : Nat → V) (h : H) : Option Res → Prop
  | some (.eff v h') => XDP P E ro L S Q ps r (upo ρ dst v) h'
  | some (.call g args) => XCP P E ro L S Q ps g args dst r ρ h
  | _ => False
theorem XDP_nil : XDP P E ro L S Q [] [] ρ h = X P E ro L S ρ h Q := by simp only [XDP]
theorem XDP_cons (dst : Option Nat) (k : AM.K) (g : Option (Nat × Bool)) (pre : Nat) (ns : List Nat) :
    XDP P E ro L S Q (p :: ps) (⟨dst, k, g, pre, ns⟩ :: r) ρ h = if wantV (toL L ρ) g then (if k.still then XSP P E ro L S Q p ps dst r ρ h (evK P (toL L ρ) h k) else XAP P E ro L S Q ps dst r ρ h (evK P (toL L ρ) h k)) else XDP P E ro L S Q ps r (upo ρ dst undefV) h := by
  simp only [XDP]
  congr 1
theorem XSP_pur (p : Bool) (dst : Option Nat) (v : V) : XSP P E ro L S Q p ps dst r ρ h (some (.pur v)) = XDP P E ro L S Q ps r (upo ρ dst v) h := rfl
theorem XSP_rd (dst : Option Nat) (v : V) : XSP P E ro L S Q p ps dst r ρ h (some (.rd v)) = (v.nj = true ∧ p = true ∧ XDP P E ro L S Q ps r (upo ρ dst v) h) := rfl
theorem XAP_eff (dst : Option Nat) (v : V) (h' : H) : XAP P E ro L S Q ps dst r ρ h (some (.eff v h')) = XDP P E ro L S Q ps r (upo ρ dst v) h' := rfl
theorem XAP_call (dst : Option Nat) (g : V) (args : List V) : XAP P E ro L S Q ps dst r ρ h (some (.call g args)) = XCP P E ro L S Q ps g args dst r ρ h := rfl
theorem XCP_of {g : V} {args : List V} {R : V → H → Prop} (s : Sp P E g args h R) {dst : Option Nat} (hk : ∀ v h', R v h' → XDP P E ro L S Q ps r (upo ρ dst v) h') : XCP P E ro L S Q ps g args dst r ρ h := by
  obtain ⟨v, h', e, q⟩ := s
  exact ⟨v, h', e, hk v h' q⟩
end
end Go.AM
/-! The rules of the symbolic steps, all in one. -/
namespace Go.AM
abbrev StmtOf {p : Prop} (_ : p) : Prop := p
theorem GO : StmtOf ((And.intro @XDP_nil (And.intro @XDP_cons (And.intro @XSP_pur (And.intro @XSP_rd (And.intro @XAP_eff (And.intro @XAP_call (And.intro @XDJ_nil (And.intro @XDJ_cons (And.intro @XSJ_pur (And.intro @XSJ_rd (And.intro @XAJ_eff (And.intro @XAJ_call (And.intro @ptrLt_mk (And.intro @rdLo_load1 (And.intro @rdLo_loadN (And.intro @XDK_nil (And.intro @XDK_cons (And.intro @XSK_pur (And.intro @XSK_rd (And.intro @XAK_eff (And.intro @XAK_call (And.intro @XDQ_nil (And.intro @XDQ_cons (And.intro @XSQ_pur (And.intro @XSQ_rd (And.intro @XAQ_eff (And.intro @XAQ_call (And.intro @XDO_nil (And.intro @XDO_cons (And.intro @XRD_pur (And.intro @XRD_rd (And.intro @XRD_eff (And.intro @XRD_call (And.intro @still_mv (And.intro @still_pick (And.intro @still_alloc (And.intro @still_box (And.intro @still_build (And.intro @still_bslice (And.intro @still_load1 (And.intro @still_loadN (And.intro @still_store (And.intro @still_nilck (And.intro @still_bin (And.intro @still_un (And.intro @still_cvt (And.intro @still_s2b (And.intro @still_b2s (And.intro @still_mkI (And.intro @still_mkF (And.intro @still_mkMap (And.intro @still_mkSlice (And.intro @still_slS (And.intro @still_slL (And.intro @still_fadr (And.intro @still_iadrL (And.intro @still_iadrA (And.intro @still_fld (And.intro @still_idxA (And.intro @still_idxS (And.intro @still_lookup (And.intro @still_mapUpd (And.intro @still_mapDel (And.intro @still_rng (And.intro @still_next (And.intro @still_entry (And.intro @still_extract (And.intro @still_lenS (And.intro @still_lenL (And.intro @still_lenM (And.intro @still_app (And.intro @still_copy (And.intro @still_minmax (And.intro @still_call (And.intro @still_bad (And.intro @still_slA (And.intro @still_capL (And.intro @still_appZ (And.intro @still_i2s (And.intro @still_sid (And.intro @still_same (And.intro @still_p2u (And.intro @still_u2p (And.intro @still_usd (And.intro @still_ustr (And.intro @still_mkNZ (And.intro @still_tass (And.intro @still_inv (And.intro @X_nil (And.intro @X_skip (And.intro @X_region (And.intro @X_seq (And.intro @X_block (And.intro @X_loop (And.intro @X_l (And.intro @X_b (And.intro @X_exit (And.intro @X_ret (And.intro @XQ_nil (And.intro @XQ_c (And.intro @XQ_l (And.intro @XQ_b (And.intro @X_cond (And.intro @XT_bool (And.intro @XO_nil (And.intro @XO_cons (And.intro @XR_pur (And.intro @XR_rd (And.intro @XR_eff (And.intro @XR_call (And.intro @upo_some (And.intro @upo_none (And.intro @wantV_none (And.intro @wantV_some (And.intro @isB_bool (And.intro @ev_t (And.intro @ev_k (And.intro @evs_cons (And.intro @evs_nil (And.intro @evo_none (And.intro @evo_some (And.intro @up_app (And.intro @argF_zero (And.intro @argF_succ (And.intro @push_eq (And.intro @Fin_nrm (And.intro @Fin_ret (And.intro @resVs_nil (And.intro @resVs_t (And.intro @oneOr_one @oneOr_two))))))))))))))))))))))))))))))))))))))))))))))))))))))))))))))))))))))))))))))))))))))))))))))))))))))))))))))))))))))))))))))))))) := (And.intro @XDP_nil (And.intro @XDP_cons (And.intro @XSP_pur (And.intro @XSP_rd (And.intro @XAP_eff (And.intro @XAP_call (And.intro @XDJ_nil (And.intro @XDJ_cons (And.intro @XSJ_pur (And.intro @XSJ_rd (And.intro @XAJ_eff (And.intro @XAJ_call (And.intro @ptrLt_mk (And.intro @rdLo_load1 (And.intro @rdLo_loadN (And.intro @XDK_nil (And.intro @XDK_cons (And.intro @XSK_pur (And.intro @XSK_rd (And.intro @XAK_eff (And.intro @XAK_call (And.intro @XDQ_nil (And.intro @XDQ_cons (And.intro @XSQ_pur (And.intro @XSQ_rd (And.intro @XAQ_eff (And.intro @XAQ_call (And.intro @XDO_nil (And.intro @XDO_cons (And.intro @XRD_pur (And.intro @XRD_rd (And.intro @XRD_eff (And.intro @XRD_call (And.intro @still_mv (And.intro @still_pick (And.intro @still_alloc (And.intro @still_box (And.intro @still_build (And.intro @still_bslice (And.intro @still_load1 (And.intro @still_loadN (And.intro @still_store (And.intro @still_nilck (And.intro @still_bin (And.intro @still_un (And.intro @still_cvt (And.intro @still_s2b (And.intro @still_b2s (And.intro @still_mkI (And.intro @still_mkF (And.intro @still_mkMap (And.intro @still_mkSlice (And.intro @still_slS (And.intro @still_slL (And.intro @still_fadr (And.intro @still_iadrL (And.intro @still_iadrA (And.intro @still_fld (And.intro @still_idxA (And.intro @still_idxS (And.intro @still_lookup (And.intro @still_mapUpd (And.intro @still_mapDel (And.intro @still_rng (And.intro @still_next (And.intro @still_entry (And.intro @still_extract (And.intro @still_lenS (And.intro @still_lenL (And.intro @still_lenM (And.intro @still_app (And.intro @still_copy (And.intro @still_minmax (And.intro @still_call (And.intro @still_bad (And.intro @still_slA (And.intro @still_capL (And.intro @still_appZ (And.intro @still_i2s (And.intro @still_sid (And.intro @still_same (And.intro @still_p2u (And.intro @still_u2p (And.intro @still_usd (And.intro @still_ustr (And.intro @still_mkNZ (And.intro @still_tass (And.intro @still_inv (And.intro @X_nil (And.intro @X_skip (And.intro @X_region (And.intro @X_seq (And.intro @X_block (And.intro @X_loop (And.intro @X_l (And.intro @X_b (And.intro @X_exit (And.intro @X_ret (And.intro @XQ_nil (And.intro @XQ_c (And.intro @XQ_l (And.intro @XQ_b (And.intro @X_cond (And.intro @XT_bool (And.intro @XO_nil (And.intro @XO_cons (And.intro @XR_pur (And.intro @XR_rd (And.intro @XR_eff (And.intro @XR_call (And.intro @upo_some (And.intro @upo_none (And.intro @wantV_none (And.intro @wantV_some (And.intro @isB_bool (And.intro @ev_t (And.intro @ev_k (And.intro @evs_cons (And.intro @evs_nil (And.intro @evo_none (And.intro @evo_some (And.intro @up_app (And.intro @argF_zero (And.intro @argF_succ (And.intro @push_eq (And.intro @Fin_nrm (And.intro @Fin_ret (And.intro @resVs_nil (And.intro @resVs_t (And.intro @oneOr_one @oneOr_two))))))))))))))))))))))))))))))))))))))))))))))))))))))))))))))))))))))))))))))))))))))))))))))))))))))))))))))))))))))))))))))))))
theorem GO2 : StmtOf ((And.intro @Option.map_some.{0,0} (And.intro @if_true.{1} (And.intro @if_false.{1} (And.intro @ite_true.{1} (And.intro @ite_false.{1} (And.intro @Bool.false_eq_true (And.intro @beq_self_eq_true.{0} (And.intro @beq_true (And.intro @beq_false (And.intro @Bool.not_true (And.intro @Bool.not_false (And.intro @Bool.not_eq_true (And.intro @Bool.not_eq_false (And.intro @List.length_cons.{0} (And.intro @List.length_nil.{0} (And.intro @List.take_zero.{0} (And.intro @List.nil_append.{0} (And.intro @List.append_nil.{0} (And.intro @List.drop_succ_cons.{0} (And.intro @List.drop_zero.{0} (And.intro @List.drop_nil.{0} (And.intro @List.cons_append.{0} (And.intro @List.take_succ_cons.{0} (And.intro @List.take_nil.{0} (And.intro @and_self (And.intro @and_true (And.intro @true_and (And.intro @Nat.le_refl (And.intro @decide_true (And.intro @decide_false (And.intro @decide_eq_true_eq (And.intro @List.getElem?_cons_zero.{0} (And.intro @List.getElem?_cons_succ.{0} (And.intro @List.replicate_succ.{0} (And.intro @List.replicate_zero.{0} (And.intro @List.flatten_cons.{0} (And.intro @List.flatten_nil.{0} (And.intro @Nat.zero_add @Nat.add_zero))))))))))))))))))))))))))))))))))))))) := (And.intro @Option.map_some.{0,0} (And.intro @if_true.{1} (And.intro @if_false.{1} (And.intro @ite_true.{1} (And.intro @ite_false.{1} (And.intro @Bool.false_eq_true (And.intro @beq_self_eq_true.{0} (And.intro @beq_true (And.intro @beq_false (And.intro @Bool.not_true (And.intro @Bool.not_false (And.intro @Bool.not_eq_true (And.intro @Bool.not_eq_false (And.intro @List.length_cons.{0} (And.intro @List.length_nil.{0} (And.intro @List.take_zero.{0} (And.intro @List.nil_append.{0} (And.intro @List.append_nil.{0} (And.intro @List.drop_succ_cons.{0} (And.intro @List.drop_zero.{0} (And.intro @List.drop_nil.{0} (And.intro @List.cons_append.{0} (And.intro @List.take_succ_cons.{0} (And.intro @List.take_nil.{0} (And.intro @and_self (And.intro @and_true (And.intro @true_and (And.intro @Nat.le_refl (And.intro @decide_true (And.intro @decide_false (And.intro @decide_eq_true_eq (And.intro @List.getElem?_cons_zero.{0} (And.intro @List.getElem?_cons_succ.{0} (And.intro @List.replicate_succ.{0} (And.intro @List.replicate_zero.{0} (And.intro @List.flatten_cons.{0} (And.intro @List.flatten_nil.{0} (And.intro @Nat.zero_add @Nat.add_zero))))))))))))))))))))))))))))))))))))))
end Go.AM
/-! Functions of the library by their contracts; tables in the first heap. -/
namespace Go.AM
variable {P : Program}

structure Grew (w w' : World) : Prop where
  heap : ∃ os : Array Go.Obj, w'.heap = w.heap ++ os
  os : w'.os = w.os
  output : w'.output = w.output
  tape : w'.tape = w.tape
  drawn : w.drawn ≤ w'.drawn
theorem Grew.of_grow (w : World) (k : Nat) (os : Array Go.Obj) : Grew w (Go.Sort.grow (w.drewN k) os) := ⟨⟨os, rfl⟩, rfl, rfl, rfl, Nat.le_add_right _ _⟩
theorem HR.grew {m : Mp} {h : H} {w w' : World} (hr : HR P m h w) (hg : Grew w w') : HR P m h w' ∧ Ext m h w m h w' := by
  obtain ⟨os, ho⟩ := hg.heap
  have hget : ∀ b, b < w.heap.size → w'.heap[b]? = w.heap[b]? := fun b hb => by
    rw [ho, Array.getElem?_append_left hb]
  have hws : w.heap.size ≤ w'.heap.size := by rw [ho]; simp
  refine ⟨⟨hr.ok, hr.dom, hr.glob, fun i r sh e hm => ?_, fun i o hg hl => ?_, hr.inj⟩, ?_⟩
  · have := hr.blk i r sh e hm; omega
  · obtain ⟨r, sh, e, ob', h1, h2, h3⟩ := hr.obj i o hg hl
    exact ⟨r, sh, e, ob', h1, by rw [hget r (hr.blk i r sh e h1)]; exact h2, h3⟩
  · exact ⟨Sub.refl m, Nat.le_refl _, hws, fun b hb _ => hget b hb, fun _ _ h => h, hg.os, hg.output, hg.tape, fun _ _ h => h⟩

theorem VRL_ints_eq {m : Mp} {k : IntKind} : ∀ {zs : List Int} {xs : List Value}, VRL m (ints k zs) xs → xs = zs.map fun z => Value.int k z
  | [], xs, h => by
    cases xs with
    | nil => rfl
    | cons a b => cases h
  | z :: zs, xs, h => by
    obtain ⟨y, ys, h1, h2, h3⟩ := h
    cases h1
    subst h3
    rw [VRL_ints_eq (zs := zs) h2]; rfl

theorem tab_of_HR {m : Mp} {h : H} {w : World} {g ty : Nat} {k : IntKind} {zs : List Int} {name : String} (hr : HR P m h w) (hg : h.get g = some (.cells (ints k zs) ty false true none)) (hn : P.globalNamed name = some g) (hlt : g < P.globals.size) : Lib.TabIs P w name k zs := by
  obtain ⟨r, sh, e, ob, h1, h2, h3⟩ := hr.obj g _ hg rfl
  have := hr.glob g hlt
  rw [h1] at this
  cases this
  obtain ⟨c, fzr, rfl, h4, h5, _⟩ := h3
  simp only [Bool.false_eq_true, if_false] at h5
  have hc : c.toList = zs.map fun z => Value.int k z := by
    have hl : c.toList.length = (ints k zs).length := by rw [Array.length_toList]; exact h5.2.2
    rw [List.drop_zero, List.take_of_length_le (by omega)] at h4
    exact VRL_ints_eq h4
  unfold Lib.TabIs World.var?
  rw [hn]
  simp only [Option.bind_some, h2]
  rw [← hc, Array.toArray_toList]

def Tb (g ty : Nat) (h : H) : Prop := h.get g = some (.cells (ints .u64 Lib.pow10Tab) ty false true none)
theorem Tb.keep {g ty : Nat} (h h' : H) (t : Tb g ty h) (hk : Keeps h.size h h') : Tb g ty h' := Kp.of hk t
open Classical in
noncomputable def itoaP (g ty : Nat) : List V → H → Option (V × H) := fun args h => match args with
  | [.int .i64 n] => if Tb g ty h ∧ -9223372036854775808 ≤ n ∧ n ≤ 9223372036854775807 then some (.str (Lib.itoa n), h) else none
  | _ => none
open Classical in
noncomputable def fmt10P (g ty : Nat) : List V → H → Option (V × H) := fun args h => match args with
  | [.int .i64 n, .int .i64 10] => if Tb g ty h ∧ -9223372036854775808 ≤ n ∧ n ≤ 9223372036854775807 then some (.str (Lib.itoa n), h) else none
  | _ => none

theorem post_str {m : Mp} {h : H} {w w' : World} {s : List UInt8} {e : Ending} (hr : HR P m h w) (he : e = .returned (.string ⟨s.toArray⟩)) (hg : Grew w w') : Post P m h w (.str s) h e w' := by
  obtain ⟨a, b⟩ := hr.grew hg
  exact ⟨m, _, he, rfl, a, b⟩

theorem itoa_ok {g ty : Nat} {f : FuncId} (hn : P.globalNamed "internal/strconv.uint64pow10" = some g) (hlt : g < P.globals.size)
    (hc : ∀ (n : Int), -9223372036854775808 ≤ n → n ≤ 9223372036854775807 → ∀ w, Lib.TabIs P w "internal/strconv.uint64pow10" .u64 Lib.pow10Tab → Calls P f #[.int .i64 n] w fun e w' => e = .returned (.string ⟨(Lib.itoa n).toArray⟩) ∧ ∃ k os, w' = Go.Sort.grow (w.drewN k) os)
    {args : List V} {h : H} {v : V} {h' : H} {m : Mp} {w : World} {xs : List Value} (he : itoaP g ty args h = some (v, h')) (hr : HR P m h w) (hx : VRL m args xs) (n : Nat) : CallsIn (FF none) n P f xs.toArray w (Post P m h w v h') := by
  unfold itoaP at he
  split at he
  · rename_i z
    split at he
    · rename_i hc2
      cases he
      obtain ⟨y, ys, h1, h2, rfl⟩ := hx
      cases h1
      cases ys with
      | cons a b => cases h2
      | nil =>
        refine callsIn_wide.2 ((hc z hc2.2.1 hc2.2.2 w (tab_of_HR hr hc2.1 hn hlt)).mono fun e w' ⟨q1, k, os, q2⟩ => ?_)
        exact post_str hr q1 (by rw [q2]; exact Grew.of_grow _ _ _)
    · cases he
  · cases he
theorem fmt10_ok {g ty : Nat} {f : FuncId} (hn : P.globalNamed "internal/strconv.uint64pow10" = some g) (hlt : g < P.globals.size)
    (hc : ∀ (n : Int), -9223372036854775808 ≤ n → n ≤ 9223372036854775807 → ∀ w, Lib.TabIs P w "internal/strconv.uint64pow10" .u64 Lib.pow10Tab → Calls P f #[.int .i64 n, .int .i64 10] w fun e w' => e = .returned (.string ⟨(Lib.itoa n).toArray⟩) ∧ ∃ k os, w' = Go.Sort.grow (w.drewN k) os)
    {args : List V} {h : H} {v : V} {h' : H} {m : Mp} {w : World} {xs : List Value} (he : fmt10P g ty args h = some (v, h')) (hr : HR P m h w) (hx : VRL m args xs) (n : Nat) : CallsIn (FF none) n P f xs.toArray w (Post P m h w v h') := by
  unfold fmt10P at he
  split at he
  · rename_i z
    split at he
    · rename_i hc2
      cases he
      obtain ⟨y, ys, h1, ⟨y2, ys2, h3, h4, rfl⟩, rfl⟩ := hx
      cases h1
      cases h3
      cases ys2 with
      | cons a b => cases h4
      | nil =>
        refine callsIn_wide.2 ((hc z hc2.2.1 hc2.2.2 w (tab_of_HR hr hc2.1 hn hlt)).mono fun e w' ⟨q1, k, os, q2⟩ => ?_)
        exact post_str hr q1 (by rw [q2]; exact Grew.of_grow _ _ _)
    · cases he
  · cases he
end Go.AM
