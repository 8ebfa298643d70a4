/- My own texts of the evaluator, its soundness and its symbolic runs, laid for this claim. -/
import Derived.Test.YtelbgimbkfjabaaAmYAmZ
set_option linter.unusedSimpArgs false
set_option linter.unusedVariables false
/-! Code run symbolically: a stack of what is still to be done. -/
namespace Go.AM

theorem ex2 {α β : Type} {a : α} {b : β} {p : α → β → Prop} : (∃ x y, (a = x ∧ b = y) ∧ p x y) ↔ p a b := ⟨fun ⟨_, _, ⟨e1, e2⟩, h⟩ => by subst e1 e2; exact h, fun h => ⟨_, _, ⟨rfl, rfl⟩, h⟩⟩
theorem ex3 {α β γ : Type} {a : α} {b : β} {c : γ} {p : α → β → γ → Prop} : (∃ x y z, (a = x ∧ b = y ∧ c = z) ∧ p x y z) ↔ p a b c := ⟨fun ⟨_, _, _, ⟨e1, e2, e3⟩, h⟩ => by subst e1 e2 e3; exact h, fun h => ⟨_, _, _, ⟨rfl, rfl, rfl⟩, h⟩⟩

inductive Fr where
  | c (c : C)
  | b (id : Nat)
  | l (b : C)

section
variable (P : Program) (E : Env) (ro : Option Nat)

noncomputable def EK : List Fr → Ex → St → Option (Ex × St)
  | [], ex, s => some (ex, s)
  | .c c :: K, .nrm, s => (EC P E ro c s).bind fun r => EK K r.1 r.2
  | .c _ :: K, ex, s => EK K ex s
  | .b id :: K, .exit id', s => if id' = id then EK K .nrm s else EK K (.exit id') s
  | .b _ :: K, ex, s => EK K ex s
  | .l b :: K, .nrm, s => (EC P E ro (.loop b) s).bind fun r => EK K r.1 r.2
  | .l _ :: K, ex, s => EK K ex s

variable (L : Nat)
abbrev Po := Ex → List V → H → Prop

def XX (K : List Fr) (ex : Ex) (T : List V) (h : H) (Q : Po) : Prop := ∃ ex' T' h', EK P E ro K ex (T, h) = some (ex', (T', h')) ∧ Q ex' T' h'
def X (K : List Fr) (ρ : Nat → V) (h : H) (Q : Po) : Prop := XX P E ro K .nrm (toL L ρ) h Q
def XQ (ex : Ex) (K : List Fr) (ρ : Nat → V) (h : H) (Q : Po) : Prop := XX P E ro K ex (toL L ρ) h Q
def XO (ops : List O) (K : List Fr) (ρ : Nat → V) (h : H) (Q : Po) : Prop := ∃ T' h', evOs P (AP P E) ops (toL L ρ) h = some (T', h') ∧ XX P E ro K .nrm T' h' Q
def XD (ops : List O) (K : List Fr) (ρ : Nat → V) (h : H) (Q : Po) : Prop := ∃ T' h', evDraw P (AP P E) ops (toL L ρ) h = some (T', h') ∧ XX P E ro K .nrm T' h' Q
def XL (b : C) (K : List Fr) (ρ : Nat → V) (h : H) (Q : Po) : Prop := X P E ro L (.l b :: K) ρ h Q
def XC (f : V) (args : List V) (dst : Option Nat) (r : List O) (K : List Fr) (ρ : Nat → V) (h : H) (Q : Po) : Prop :=
  ∃ v h', AP P E f args h = some (v, h') ∧ ∃ T' h'', evOs P (AP P E) r (putV (toL L ρ) dst v) h' = some (T', h'') ∧ XX P E ro K .nrm T' h'' Q
def XR (dst : Option Nat) (r : List O) (K : List Fr) (ρ : Nat → V) (h : H) (Q : Po) (x : Option Res) : Prop :=
  ∃ T1 h1, stepR (AP P E) dst (toL L ρ) h x = some (T1, h1) ∧ ∃ T' h', evOs P (AP P E) r T1 h1 = some (T', h') ∧ XX P E ro K .nrm T' h' Q
def XT (v : V) (a b : C) (K : List Fr) (ρ : Nat → V) (h : H) (Q : Po) : Prop :=
  match v with
  | .bool t => if t = true then X P E ro L (.c a :: K) ρ h Q else X P E ro L (.c b :: K) ρ h Q
  | _ => False
end

variable {P : Program} {E : Env} {ro : Option Nat} {L : Nat} {K : List Fr} {ρ : Nat → V} {h : H} {Q : Po}

def upo (ρ : Nat → V) : Option Nat → V → Nat → V
  | some d, v => up ρ d v
  | none, _ => ρ
theorem upo_some (ρ : Nat → V) (d : Nat) (v : V) : upo ρ (some d) v = up ρ d v := rfl
theorem upo_none (ρ : Nat → V) (v : V) : upo ρ none v = ρ := rfl
theorem putV_upo (dst : Option Nat) (v : V) : putV (toL L ρ) dst v = toL L (upo ρ dst v) := by
  cases dst with
  | none => rfl
  | some d => exact toL_set L ρ d v

theorem EK_seq (a b : C) (K : List Fr) (s : St) : EK P E ro (.c (.seq a b) :: K) .nrm s = EK P E ro (.c a :: .c b :: K) .nrm s := by
  simp only [EK, EC_seq]
  cases EC P E ro a s with
  | none => rfl
  | some r =>
    obtain ⟨ex, s'⟩ := r
    cases ex <;> simp [andThen, EK]
theorem EK_block (id : Nat) (b : C) (K : List Fr) (s : St) : EK P E ro (.c (.block id b) :: K) .nrm s = EK P E ro (.c b :: .b id :: K) .nrm s := by
  simp only [EK, EC_block]
  cases EC P E ro b s with
  | none => rfl
  | some r =>
    obtain ⟨ex, s'⟩ := r
    cases ex with
    | nrm => simp [EK]
    | ret => simp [EK]
    | exit id' => simp only [Option.bind_some, EK]; split <;> rfl
theorem EK_loop (b : C) (K : List Fr) (s : St) : EK P E ro (.l b :: K) .nrm s = EK P E ro (.c b :: .l b :: K) .nrm s := by
  simp only [EK]
  rw [EC_loop]
  cases EC P E ro b s with
  | none => rfl
  | some r =>
    obtain ⟨ex, s'⟩ := r
    cases ex <;> simp [andThen, EK]

theorem X_nil : X P E ro L [] ρ h Q = Q .nrm (toL L ρ) h := by
  simp [X, XX, EK, ex3]
theorem X_skip : X P E ro L (.c .skip :: K) ρ h Q = X P E ro L K ρ h Q := by
  simp only [X, XX, EK, EC_skip, Option.bind_some]
theorem X_region (ops : List O) : X P E ro L (.c (.region ops) :: K) ρ h Q = XO P E ro L ops K ρ h Q := by
  simp only [X, XX, EK, EC_region, XO]
  cases evOs P (AP P E) ops (toL L ρ) h with
  | none => simp
  | some r => obtain ⟨T', h'⟩ := r; simp [ex2]
theorem X_draw (ops : List O) : X P E ro L (.c (.draw ops) :: K) ρ h Q = XD P E ro L ops K ρ h Q := by
  simp only [X, XX, EK, EC_draw, XD]
  cases evDraw P (AP P E) ops (toL L ρ) h with
  | none => simp
  | some r => obtain ⟨T', h'⟩ := r; simp [ex2]
theorem X_seq (a b : C) : X P E ro L (.c (.seq a b) :: K) ρ h Q = X P E ro L (.c a :: .c b :: K) ρ h Q := by
  simp only [X, XX, EK_seq]
theorem X_block (id : Nat) (b : C) : X P E ro L (.c (.block id b) :: K) ρ h Q = X P E ro L (.c b :: .b id :: K) ρ h Q := by
  simp only [X, XX, EK_block]
theorem X_loop (b : C) : X P E ro L (.c (.loop b) :: K) ρ h Q = XL P E ro L b K ρ h Q := rfl
theorem X_l (b : C) : X P E ro L (.l b :: K) ρ h Q = XL P E ro L b K ρ h Q := rfl
theorem XL_unroll (b : C) : XL P E ro L b K ρ h Q = X P E ro L (.c b :: .l b :: K) ρ h Q := by
  simp only [XL, X, XX, EK_loop]
theorem X_b (id : Nat) : X P E ro L (.b id :: K) ρ h Q = X P E ro L K ρ h Q := by
  simp only [X, XX, EK]
theorem X_exit (id : Nat) : X P E ro L (.c (.exit id) :: K) ρ h Q = XQ P E ro L (.exit id) K ρ h Q := by
  simp only [X, XX, EK, EC_exit, Option.bind_some, XQ]
theorem XQ_ret_all : ∀ (K : List Fr) (T : List V) (h : H) (Q : Po), XX P E ro K .ret T h Q = Q .ret T h
  | [], T, h, Q => by simp [XX, EK, ex3]
  | .c _ :: K, T, h, Q => by simpa only [XX, EK] using XQ_ret_all K T h Q
  | .b _ :: K, T, h, Q => by simpa only [XX, EK] using XQ_ret_all K T h Q
  | .l _ :: K, T, h, Q => by simpa only [XX, EK] using XQ_ret_all K T h Q
theorem X_ret : X P E ro L (.c .ret :: K) ρ h Q = Q .ret (toL L ρ) h := by
  have : X P E ro L (.c .ret :: K) ρ h Q = XX P E ro K .ret (toL L ρ) h Q := by simp only [X, XX, EK, EC_ret, Option.bind_some]
  rw [this, XQ_ret_all]
theorem XQ_nil (id : Nat) : XQ P E ro L (.exit id) [] ρ h Q = Q (.exit id) (toL L ρ) h := by simp [XQ, XX, EK, ex3]
theorem XQ_c (id : Nat) (c : C) : XQ P E ro L (.exit id) (.c c :: K) ρ h Q = XQ P E ro L (.exit id) K ρ h Q := by simp only [XQ, XX, EK]
theorem XQ_l (id : Nat) (c : C) : XQ P E ro L (.exit id) (.l c :: K) ρ h Q = XQ P E ro L (.exit id) K ρ h Q := by simp only [XQ, XX, EK]
theorem XQ_b (id id' : Nat) : XQ P E ro L (.exit id) (.b id' :: K) ρ h Q = if id = id' then X P E ro L K ρ h Q else XQ P E ro L (.exit id) K ρ h Q := by
  simp only [XQ, X, XX, EK]
  split <;> rfl
theorem X_cond (c : A) (a b : C) : X P E ro L (.c (.cond c a b) :: K) ρ h Q = (match c.ev (toL L ρ) with
    | some v => XT P E ro L v a b K ρ h Q
    | none => False) := by
  simp only [X, XX, EK, EC_cond]
  cases c.ev (toL L ρ) with
  | none => simp
  | some v =>
    cases v with
    | bool t => cases t <;> simp [XT, X, XX, EK]
    | _ => simp [XT]
theorem XT_bool (t : Bool) (a b : C) : XT P E ro L (.bool t) a b K ρ h Q = if t = true then X P E ro L (.c a :: K) ρ h Q else X P E ro L (.c b :: K) ρ h Q := rfl

theorem XO_nil : XO P E ro L [] K ρ h Q = X P E ro L K ρ h Q := by simp [XO, evOs_nil, X, ex2]
theorem XO_cons (dst : Option Nat) (k : AM.K) (g : Option (Nat × Bool)) (pre : Nat) (ns : List Nat) (r : List O) (S : List Fr) :
    XO P E ro L (⟨dst, k, g, pre, ns⟩ :: r) S ρ h Q = if wantV (toL L ρ) g then XR P E ro L dst r S ρ h Q (evK P (toL L ρ) h k) else XO P E ro L r S (upo ρ dst undefV) h Q := by
  simp only [XO, evOs_cons, evO_step, XR]
  split
  · cases stepR (AP P E) dst (toL L ρ) h (evK P (toL L ρ) h k) with
    | none => simp
    | some x => obtain ⟨T1, h1⟩ := x; simp [ex2]
  · simp [putV_upo]
theorem XR_pur (dst : Option Nat) (r : List O) (v : V) : XR P E ro L dst r K ρ h Q (some (.pur v)) = XO P E ro L r K (upo ρ dst v) h Q := by
  simp [XR, stepR, putV_upo, XO, ex2]
theorem XR_rd (dst : Option Nat) (r : List O) (v : V) : XR P E ro L dst r K ρ h Q (some (.rd v)) = XO P E ro L r K (upo ρ dst v) h Q := by
  simp [XR, stepR, putV_upo, XO, ex2]
theorem XR_eff (dst : Option Nat) (r : List O) (v : V) (h' : H) : XR P E ro L dst r K ρ h Q (some (.eff v h')) = XO P E ro L r K (upo ρ dst v) h' Q := by
  simp [XR, stepR, putV_upo, XO, ex2]
theorem XR_call (dst : Option Nat) (r : List O) (f : V) (args : List V) : XR P E ro L dst r K ρ h Q (some (.call f args)) = XC P E ro L f args dst r K ρ h Q := by
  simp only [XR, stepR, XC]
  cases AP P E f args h with
  | none => simp
  | some x => obtain ⟨v, h'⟩ := x; simp [ex2]
theorem XC_some {f : V} {args : List V} {v : V} {h' : H} (e : AP P E f args h = some (v, h')) (dst : Option Nat) (r : List O) : XC P E ro L f args dst r K ρ h Q = XO P E ro L r K (upo ρ dst v) h' Q := by
  simp [XC, e, putV_upo, XO, ex2]
theorem XD_still {ops : List O} (hs : ops.all (fun o => o.op.still) = true) : XD P E ro L ops K ρ h Q = XO P E ro L ops K ρ h Q := by
  simp only [XD, XO, evDraw_still hs]

/-! ### functions -/
def Sp (P : Program) (E : Env) (f : V) (args : List V) (h : H) (Q : V → H → Prop) : Prop := ∃ v h', AP P E f args h = some (v, h') ∧ Q v h'
theorem Sp.mono {f : V} {args : List V} {Q Q' : V → H → Prop} (s : Sp P E f args h Q) (hq : ∀ v h', Q v h' → Q' v h') : Sp P E f args h Q' := by
  obtain ⟨v, h', e, q⟩ := s; exact ⟨v, h', e, hq v h' q⟩
theorem XC_of {f : V} {args : List V} {R : V → H → Prop} (s : Sp P E f args h R) {dst : Option Nat} {r : List O} (hk : ∀ v h', R v h' → XO P E ro L r K (upo ρ dst v) h' Q) : XC P E ro L f args dst r K ρ h Q := by
  obtain ⟨v, h', e, q⟩ := s
  rw [XC_some e]; exact hk v h' q
def Fin (rs : List RV) (Q : V → H → Prop) : Po := fun ex T h => (match ex with | .exit _ => False | _ => True) ∧ match resVs T h rs with
  | some vs => Q (oneOr vs) h
  | none => False
theorem Fin_nrm (rs : List RV) (Q : V → H → Prop) (T : List V) (h : H) : Fin rs Q .nrm T h = (match resVs T h rs with
  | some vs => Q (oneOr vs) h
  | none => False) := by simp [Fin]
theorem Fin_ret (rs : List RV) (Q : V → H → Prop) (T : List V) (h : H) : Fin rs Q .ret T h = (match resVs T h rs with
  | some vs => Q (oneOr vs) h
  | none => False) := by simp [Fin]
theorem resVs_nil (T : List V) (h : H) : resVs T h [] = some [] := rfl
theorem resVs_t {i : Nat} (hi : i < L) (r : List RV) : resVs (toL L ρ) h (.t i :: r) = (resVs (toL L ρ) h r).map (ρ i :: ·) := by
  simp only [resVs, resV, toL_get hi]
  cases resVs (toL L ρ) h r <;> rfl
theorem resVs_c {a n : Nat} {g : Bool} (ha : a < L) (r : List RV) {i o : Nat} (hp : ρ a = .ptr (some (i, o))) : resVs (toL L ρ) h (.c a n g :: r) = (match (match h.get i with
      | some (.cells vs _ _ _ _) => if g then (if o + n ≤ vs.length then some (.agg (getR vs o n)) else none) else vs[o]?
      | _ => none), resVs (toL L ρ) h r with
    | some v, some vs => some (v :: vs)
    | _, _ => none) := by
  simp only [resVs, resV, toL_get ha, hp]
  rfl
theorem oneOr_one (v : V) : oneOr [v] = v := rfl
theorem oneOr_two (u v : V) (r : List V) : oneOr (u :: v :: r) = .tup (u :: v :: r) := rfl

theorem Sp_fn {f : Nat} {fs cs args : List V} {fn : Fn} {Q : V → H → Prop} (hf : E.fns f = some fn) (hp : E.prim f = none) (hl : (fs ++ args ++ cs).length ≤ fn.ntmps)
    (hx : X P E none fn.ntmps [.c fn.body] (argF (fs ++ args ++ cs)) h (Fin fn.results Q)) : Sp P E (.func f fs cs) args h Q := by
  obtain ⟨ex, T', h', e, q1, q2⟩ := hx
  simp only [EK] at e
  unfold Sp
  rw [AP_fn hp hf]
  unfold FN
  rw [if_pos hl, toL_args hl]
  cases hc : EC P E none fn.body (toL fn.ntmps (argF (fs ++ args ++ cs)), h) with
  | none => rw [hc] at e; simp at e
  | some r =>
    obtain ⟨ex1, T1, h1⟩ := r
    simp only [hc, Option.bind_some, Option.some.injEq, Prod.mk.injEq] at e
    obtain ⟨rfl, rfl, rfl⟩ := e
    cases hr : resVs T1 h1 fn.results with
    | none => simp [hr] at q2
    | some vs =>
      simp only [hr] at q2
      cases ex1 with
      | nrm => exact ⟨oneOr vs, h1, by simp [hr], q2⟩
      | ret => exact ⟨oneOr vs, h1, by simp [hr], q2⟩
      | exit id => exact q1.elim
theorem argF_zero (a : V) (r : List V) : argF (a :: r) 0 = a := rfl
theorem argF_succ (a : V) (r : List V) (i : Nat) : argF (a :: r) (i + 1) = argF r i := rfl
end Go.AM
/-! Slices that are read; small laws of numbers. -/
namespace Go.AM

inductive Sl (h : H) (sz : Nat) : V → List (List V) → Prop where
  | nil (a : Option (Nat × Nat)) (cap : Nat) (opn : Bool) : Sl h sz (.slice a 0 cap opn) []
  | at (b o cap : Nat) (opn : Bool) (xs : List (List V)) (vs : List V) (ty : Nat) (op ro : Bool) (fz : Option Nat) (hg : h.get b = some (.cells vs ty op ro fz))
      (hl : o + xs.length * sz ≤ vs.length) (he : ∀ k x, xs[k]? = some x → getR vs (o + k * sz) sz = x) : Sl h sz (.slice (some (b, o)) xs.length cap opn) xs
theorem Sl.keep {h h' : H} {sz : Nat} {v : V} {xs : List (List V)} (s : Sl h sz v xs) (hk : Kp h h') : Sl h' sz v xs := by
  cases s with
  | nil a cap opn => exact .nil a cap opn
  | «at» b o cap opn xs vs ty op ro fz hg hl he => exact .at b o cap opn xs vs ty op ro fz (hk.of hg) hl he
theorem Sl.len {h : H} {sz : Nat} {v : V} {xs : List (List V)} (s : Sl h sz v xs) : ∃ a cap opn, v = .slice a xs.length cap opn := by
  cases s with
  | nil a cap opn => exact ⟨_, _, _, rfl⟩
  | «at» b o cap opn xs vs ty op ro fz hg hl he => exact ⟨_, _, _, rfl⟩
theorem Sl.get {h : H} {sz : Nat} {v : V} {xs : List (List V)} (s : Sl h sz v xs) {k : Nat} {x : List V} (hk : xs[k]? = some x) :
    ∃ b o cap opn vs ty op ro fz, v = .slice (some (b, o)) xs.length cap opn ∧ h.get b = some (.cells vs ty op ro fz) ∧ o + k * sz + sz ≤ vs.length ∧ getR vs (o + k * sz) sz = x := by
  cases s with
  | nil a cap opn => simp at hk
  | «at» b o cap opn xs vs ty op ro fz hg hl he =>
    have hlt : k < xs.length := (List.getElem?_eq_some_iff.1 hk).1
    refine ⟨b, o, cap, opn, vs, ty, op, ro, fz, rfl, hg, ?_, he k x hk⟩
    have : (k + 1) * sz ≤ xs.length * sz := Nat.mul_le_mul_right sz hlt
    rw [Nat.add_mul] at this; omega
theorem getR_one {vs : List V} {o : Nat} {x : V} (h : getR vs o 1 = [x]) : vs[o]? = some x := by
  unfold getR at h
  have : (vs.drop o)[0]? = some x := by
    have := congrArg (·[0]?) h
    simpa using this
  simpa using this
theorem wrap_nat {n : Nat} (h : n < 9223372036854775808) : IntKind.i64.wrap (n : Int) = (n : Int) := by
  have : IntKind.i64.wrap (n : Int) = (((n : Int) + 9223372036854775808) % 18446744073709551616 - 9223372036854775808) := by
    simp [IntKind.wrap, IntKind.signed, IntKind.bits, IntKind.max]
    omega
  rw [this]; omega
end Go.AM
