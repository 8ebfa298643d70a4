/- My own texts of the evaluator, its soundness and its symbolic runs, laid for this claim. -/
import Derived.Test.YtelbgimbkfjabaaXArgXLaw
set_option linter.unusedSimpArgs false
set_option linter.unusedVariables false
/-! Regions that draw their order, where whoever acts is ordered against whoever reads. -/
namespace Go.AM

mutual
def V.nj : V → Bool
  | .junk => false
  | .func _ fs cs => V.njL fs && V.njL cs
  | .iface _ v => V.nj v
  | .agg a => V.njL a
  | .tup a => V.njL a
  | _ => true
def V.njL : List V → Bool
  | [] => true
  | v :: vs => V.nj v && V.njL vs
end
mutual
theorem V.beq_refl : ∀ v : V, V.nj v = true → V.beq v v = true
  | .bool _, _ => by simp [V.beq]
  | .int _ _, _ => by simp [V.beq]
  | .str _, _ => by simp [V.beq]
  | .ptr _, _ => by simp [V.beq]
  | .slice _ _ _ _, _ => by simp [V.beq]
  | .map _, _ => by simp [V.beq]
  | .func _ fs cs, h => by
    simp only [V.nj, Bool.and_eq_true] at h
    simp [V.beq, V.beqL_refl _ h.1, V.beqL_refl _ h.2]
  | .yield _, _ => by simp [V.beq]
  | .nilFunc, _ => by simp [V.beq]
  | .iface _ v, h => by simp only [V.nj] at h; simp [V.beq, V.beq_refl v h]
  | .nilIface, _ => by simp [V.beq]
  | .agg a, h => by simp only [V.nj] at h; simp [V.beq, V.beqL_refl a h]
  | .tup a, h => by simp only [V.nj] at h; simp [V.beq, V.beqL_refl a h]
  | .junk, h => by simp [V.nj] at h
theorem V.beqL_refl : ∀ v : List V, V.njL v = true → V.beqL v v = true
  | [], _ => by simp [V.beqL]
  | v :: vs, h => by
    simp only [V.njL, Bool.and_eq_true] at h
    simp [V.beqL, V.beq_refl v h.1, V.beqL_refl vs h.2]
end

def actsAt : List O → Nat → List (Nat × Nat)
  | [], _ => []
  | o :: r, i => if o.op.still then actsAt r (i + 1) else (i, o.pre) :: actsAt r (i + 1)

def against (i pre : Nat) (acts : List (Nat × Nat)) : Bool := acts.all fun a => if a.1 < i then pre.testBit a.1 else a.1 == i || a.2.testBit i

def orddFrom (acts : List (Nat × Nat)) : List O → Nat → Bool
  | [], _ => true
  | o :: r, i => against i o.pre acts && orddFrom acts r (i + 1)
def ord0 (ops : List O) : Bool := orddFrom (actsAt ops 0) ops 0
def statF : List O → Nat → List (Nat × Nat × Bool)
  | [], _ => []
  | o :: r, i => if o.op.still then statF r (i + 1) else (i, o.pre, o.op.fl) :: statF r (i + 1)
def fstat (ops : List O) : Bool := floatOk (statF ops 0) ops
def ordd (ops : List O) : Bool := ord0 ops && fstat ops

variable {P : Program} {ap : Ap}

theorem evDr_ents : ∀ (ops : List O) (T : List V) (h : H) (es : List Ent) (T' : List V) (h' : H), evDr P ap ops T h = some (es, T', h') → es.length = ops.length ∧
    (∀ (i : Nat) e o, es[i]? = some e → ops[i]? = some o → (e.act = true → o.op.still = false) ∧ (e.rd = true → evK P e.T e.h o.op = some (.rd e.v) ∧ e.act = false)) ∧
    (∀ e, es[0]? = some e → e.h = h) ∧ (∀ (i : Nat) e e', es[i]? = some e → es[i + 1]? = some e' → e'.h = e.h') ∧ (∀ (i : Nat) e, es[i]? = some e → e.act = false → e.h' = e.h)
  | [], T, h, es, T', h', he => by cases he; simp
  | o :: ops, T, h, es, T', h', he => by
    have one : ∀ (ent : Ent) (T1 : List V), ent.h = h → (ent.act = true → o.op.still = false) → (ent.rd = true → evK P ent.T ent.h o.op = some (.rd ent.v) ∧ ent.act = false) → (ent.act = false → ent.h' = ent.h) →
        ((evDr P ap ops T1 ent.h').map fun x => (ent :: x.1, x.2)) = some (es, T', h') → es.length = (o :: ops).length ∧
        (∀ (i : Nat) e o', es[i]? = some e → (o :: ops)[i]? = some o' → (e.act = true → o'.op.still = false) ∧ (e.rd = true → evK P e.T e.h o'.op = some (.rd e.v) ∧ e.act = false)) ∧
        (∀ e, es[0]? = some e → e.h = h) ∧ (∀ (i : Nat) e e', es[i]? = some e → es[i + 1]? = some e' → e'.h = e.h') ∧ (∀ (i : Nat) e, es[i]? = some e → e.act = false → e.h' = e.h) := by
      intro ent T1 q1 q2 q3 q4 hm
      obtain ⟨⟨es0, T0, h0⟩, m1, m2⟩ := Option.map_eq_some_iff.1 hm
      cases m2
      obtain ⟨i1, i2, i3, i4, i5⟩ := evDr_ents ops T1 ent.h' es0 _ _ m1
      refine ⟨by simp [i1], fun i e o' he ho => ?_, fun e he => ?_, fun i e e' he he' => ?_, fun i e he => ?_⟩
      · cases i with
        | zero => simp at he ho; subst he ho; exact ⟨q2, q3⟩
        | succ i => exact i2 i e o' (by simpa using he) (by simpa using ho)
      · simp at he; subst he; exact q1
      · cases i with
        | zero => simp at he he'; subst he; exact i3 e' (by simpa using he')
        | succ i => exact i4 i e e' (by simpa using he) (by simpa using he')
      · cases i with
        | zero => simp at he; subst he; exact q4
        | succ i => exact i5 i e (by simpa using he)
    simp only [evDr] at he
    split at he
    · cases hk : evK P T h o.op with
      | none => simp [hk] at he
      | some x =>
        cases x with
        | pur v => simp only [hk] at he; exact one ⟨T, h, h, v, false, false⟩ _ rfl (by simp) (by simp) (fun _ => rfl) he
        | rd v => simp only [hk] at he; exact one ⟨T, h, h, v, false, true⟩ _ rfl (by simp) (fun _ => ⟨hk, rfl⟩) (fun _ => rfl) he
        | eff v h1 =>
          simp only [hk] at he
          refine one ⟨T, h, h1, v, true, false⟩ _ rfl (fun _ => ?_) (by simp) (by simp) he
          cases hs : o.op.still with
          | false => rfl
          | true => rcases evK_still hs hk with ⟨v', e⟩ | ⟨v', e⟩ <;> cases e
        | call f args =>
          simp only [hk] at he
          cases ha : ap f args h with
          | none => simp [ha] at he
          | some y =>
            obtain ⟨v, h1⟩ := y
            simp only [ha] at he
            refine one ⟨T, h, h1, v, true, false⟩ _ rfl (fun _ => ?_) (by simp) (by simp) he
            cases hs : o.op.still with
            | false => rfl
            | true => rcases evK_still hs hk with ⟨v', e⟩ | ⟨v', e⟩ <;> cases e
    · exact one ⟨T, h, h, undefV, false, false⟩ _ rfl (by simp) (by simp) (fun _ => rfl) he

theorem actsAt_mem : ∀ (ops : List O) (i j : Nat) (o : O), ops[j]? = some o → o.op.still = false → (i + j, o.pre) ∈ actsAt ops i
  | [], _, _, _, h, _ => by simp at h
  | o1 :: ops, i, 0, o, h, hs => by
    simp at h; subst h
    simp [actsAt, hs]
  | o1 :: ops, i, j + 1, o, h, hs => by
    have := actsAt_mem ops (i + 1) j o (by simpa using h) hs
    rw [show i + 1 + j = i + (j + 1) by omega] at this
    unfold actsAt
    split
    · exact this
    · exact List.mem_cons_of_mem _ this
theorem orddFrom_get {acts : List (Nat × Nat)} : ∀ (ops : List O) (i j : Nat) (o : O), orddFrom acts ops i = true → ops[j]? = some o → against (i + j) o.pre acts = true
  | [], _, _, _, _, h => by simp at h
  | o1 :: ops, i, 0, o, hd, h => by
    simp at h; subst h
    simp only [orddFrom, Bool.and_eq_true] at hd
    exact hd.1
  | o1 :: ops, i, j + 1, o, hd, h => by
    simp only [orddFrom, Bool.and_eq_true] at hd
    have := orddFrom_get ops (i + 1) j o hd.2 (by simpa using h)
    rwa [show i + 1 + j = i + (j + 1) by omega] at this
theorem ordd_spec {ops : List O} (hd : ord0 ops = true) {i j : Nat} {o o' : O} (hi : ops[i]? = some o) (hj : ops[j]? = some o') (hs : o'.op.still = false) :
    (j < i → o.pre.testBit j = true) ∧ (i < j → o'.pre.testBit i = true) := by
  have h1 := orddFrom_get ops 0 i o hd hi
  have h2 := actsAt_mem ops 0 j o' hj hs
  rw [Nat.zero_add] at h1 h2
  have h3 := List.all_eq_true.1 h1 _ h2
  simp only at h3
  refine ⟨fun h => ?_, fun h => ?_⟩
  · rwa [if_pos h] at h3
  · rw [if_neg (by omega)] at h3
    simp only [Bool.or_eq_true, beq_iff_eq] at h3
    rcases h3 with h3 | h3
    · omega
    · exact h3

theorem reads_ok {o : O} {e : Ent} {i : Nat} (hsame : sameAt P o e e.h = true) (hna : e.act = false) : ∀ (ops : List O) (es : List Ent) (j : Nat) (h : H),
    (∀ e0, es[0]? = some e0 → e0.h = h) → (∀ (k : Nat) a b, es[k]? = some a → es[k + 1]? = some b → b.h = a.h') → (∀ (k : Nat) a, es[k]? = some a → a.act = false → a.h' = a.h) → es.length = ops.length →
    (j ≤ i → es[i - j]? = some e) → (i < j → h = e.h) → (∀ (k : Nat) a o', es[k]? = some a → ops[k]? = some o' → a.act = true → (j + k < i → o.pre.testBit (j + k) = true) ∧ (i < j + k → o'.pre.testBit i = true)) →
    readsOk P o e i h (actsOf ops es j) = true
  | [], [], j, h, _, _, _, _, h4, h5, _ => by
    have hji : i < j := by
      rcases Nat.lt_or_ge i j with h | h
      · exact h
      · have := h4 h; simp at this
    simp only [actsOf, readsOk]
    rw [h5 hji]; exact hsame
  | [], _ :: _, _, _, _, _, _, hl, _, _, _ => by simp at hl
  | _ :: _, [], _, _, _, _, _, hl, _, _, _ => by simp at hl
  | o1 :: ops, e1 :: es, j, h, h1, h2, h3, hl, h4, h5, h6 => by
    have e1h := h1 e1 rfl
    have nxt : ∀ h', e1.h' = h' → (i < j + 1 → h' = e.h) → readsOk P o e i h' (actsOf ops es (j + 1)) = true := by
      intro h' hh hlast
      refine reads_ok hsame hna ops es (j + 1) h' (fun e0 he0 => ?_) (fun k a b ha hb => h2 (k + 1) a b (by simpa using ha) (by simpa using hb)) (fun k a ha => h3 (k + 1) a (by simpa using ha)) (by simpa using hl)
        (fun hj => ?_) hlast (fun k a o' ha ho' hact => ?_)
      · rw [← hh]; exact h2 0 e1 e0 rfl (by simpa using he0)
      · have := h4 (by omega)
        rw [show i - j = (i - (j + 1)) + 1 by omega] at this
        simpa using this
      · have := h6 (k + 1) a o' (by simpa using ha) (by simpa using ho') hact
        rwa [show j + (k + 1) = j + 1 + k by omega] at this
    unfold actsOf
    by_cases ha : e1.act = true
    · simp only [ha, if_true, readsOk]
      obtain ⟨s1, s2⟩ := h6 0 e1 o1 rfl rfl ha
      rw [Nat.add_zero] at s1 s2
      rcases Nat.lt_trichotomy j i with hlt | heq | hgt
      · rw [s1 hlt, nxt e1.h' rfl (fun hh => by omega)]; simp
      · subst heq
        have := h4 (Nat.le_refl _)
        rw [Nat.sub_self] at this
        simp at this; subst this
        rw [hna] at ha; cases ha
      · rw [s2 hgt, h5 hgt, hsame]; simp
    · have ha' : e1.act = false := by simpa using ha
      simp only [ha', Bool.false_eq_true, if_false]
      have hh := h3 0 e1 rfl ha'
      refine nxt h (hh.trans e1h) fun hji => ?_
      rcases Nat.lt_or_ge i j with hlt | hge
      · exact h5 hlt
      · have hij : i = j := by omega
        have := h4 hge
        rw [hij, Nat.sub_self] at this
        simp at this; subst this
        exact e1h.symm

theorem actsOf_memx : ∀ (ops : List O) (es : List Ent) (j : Nat) (x : Nat × Nat × H), x ∈ actsOf ops es j → ∃ k o e, x.1 = j + k ∧ ops[k]? = some o ∧ es[k]? = some e ∧ e.act = true ∧ x.2.1 = o.pre
  | [], es, j, x, hx => by simp [actsOf] at hx
  | _ :: _, [], j, x, hx => by simp [actsOf] at hx
  | o :: ops, e :: es, j, x, hx => by
    unfold actsOf at hx
    have rec_ : x ∈ actsOf ops es (j + 1) → ∃ k o' e', x.1 = j + k ∧ (o :: ops)[k]? = some o' ∧ (e :: es)[k]? = some e' ∧ e'.act = true ∧ x.2.1 = o'.pre := fun h => by
      obtain ⟨k, o', e', q1, q2, q3, q4, q5⟩ := actsOf_memx ops es (j + 1) x h
      exact ⟨k + 1, o', e', by omega, by simpa using q2, by simpa using q3, q4, q5⟩
    split at hx
    · rename_i ha
      rcases List.mem_cons.1 hx with rfl | hx
      · exact ⟨0, o, e, by simp, rfl, rfl, ha, rfl⟩
      · exact rec_ hx
    · exact rec_ hx

theorem actsF_memx : ∀ (ops : List O) (es : List Ent) (j : Nat) (x : Nat × Nat × Bool), x ∈ actsF ops es j → ∃ k o e, x.1 = j + k ∧ ops[k]? = some o ∧ es[k]? = some e ∧ e.act = true ∧ x.2.1 = o.pre ∧ x.2.2 = o.op.fl
  | [], es, j, x, hx => by simp [actsF] at hx
  | _ :: _, [], j, x, hx => by simp [actsF] at hx
  | o :: ops, e :: es, j, x, hx => by
    unfold actsF at hx
    have rec_ : x ∈ actsF ops es (j + 1) → ∃ k o' e', x.1 = j + k ∧ (o :: ops)[k]? = some o' ∧ (e :: es)[k]? = some e' ∧ e'.act = true ∧ x.2.1 = o'.pre ∧ x.2.2 = o'.op.fl := fun h => by
      obtain ⟨k, o', e', q1, q2, q3, q4, q5⟩ := actsF_memx ops es (j + 1) x h
      exact ⟨k + 1, o', e', by omega, by simpa using q2, by simpa using q3, q4, q5⟩
    split at hx
    · rename_i ha
      rcases List.mem_cons.1 hx with rfl | hx
      · exact ⟨0, o, e, by simp, rfl, rfl, ha, rfl, rfl⟩
      · exact rec_ hx
    · exact rec_ hx
theorem chain_ok : ∀ (ops : List O) (es : List Ent) (j : Nat), (∀ (k l : Nat) o o' e e', ops[k]? = some o → ops[l]? = some o' → es[k]? = some e → es[l]? = some e' → e.act = true → e'.act = true → k < l → o'.op.fl = true ∨ o'.pre.testBit (j + k) = true) → chainF (actsF ops es j) = true
  | [], es, j, _ => by simp [actsF, chainF]
  | _ :: _, [], j, _ => by simp [actsF, chainF]
  | o :: ops, e :: es, j, h => by
    have rec_ : chainF (actsF ops es (j + 1)) = true := chain_ok ops es (j + 1) fun k l o1 o2 e1 e2 a1 a2 a3 a4 a5 a6 a7 => by
      have := h (k + 1) (l + 1) o1 o2 e1 e2 (by simpa using a1) (by simpa using a2) (by simpa using a3) (by simpa using a4) a5 a6 (by omega)
      rwa [show j + (k + 1) = j + 1 + k by omega] at this
    unfold actsF
    split
    · rename_i ha
      simp only [chainF, rec_, Bool.and_true, List.all_eq_true, Bool.or_eq_true]
      intro x hx
      obtain ⟨k, o', e', q1, q2, q3, q4, q5, q6⟩ := actsF_memx ops es (j + 1) x hx
      have := h 0 (k + 1) o o' e e' rfl (by simpa using q2) rfl (by simpa using q3) ha q4 (by omega)
      rw [q5, q6]; simpa using this
    · exact rec_
theorem statF_mem : ∀ (ops : List O) (i k : Nat) (o : O), ops[k]? = some o → o.op.still = false → (i + k, o.pre, o.op.fl) ∈ statF ops i
  | [], i, k, o, h, _ => by simp at h
  | o' :: ops, i, 0, o, h, hs => by
    simp at h; subst h
    unfold statF
    rw [if_neg (by rw [hs]; simp)]
    exact List.mem_cons_self ..
  | o' :: ops, i, k + 1, o, h, hs => by
    have := statF_mem ops (i + 1) k o (by simpa using h) hs
    rw [show i + 1 + k = i + (k + 1) by omega] at this
    unfold statF
    split
    · exact this
    · exact List.mem_cons_of_mem _ this
theorem floatOk_sub {ops : List O} {as bs : List (Nat × Nat × Bool)} (hs : ∀ x ∈ as, x ∈ bs) (h : floatOk bs ops = true) : floatOk as ops = true := by
  unfold floatOk at h ⊢
  simp only [List.all_eq_true, Bool.or_eq_true] at h ⊢
  intro o ho p hp
  exact (h o ho p (hs p hp)).imp id fun h1 a ha => h1 a (hs a ha)
theorem fstat_ok {ops : List O} {es : List Ent} (hf : fstat ops = true) (h : ∀ (k : Nat) o e, ops[k]? = some o → es[k]? = some e → e.act = true → o.op.still = false) : floatOk (actsF ops es 0) ops = true :=
  floatOk_sub (fun x hx => by
    obtain ⟨k, o, e, q1, q2, q3, q4, q5, q6⟩ := actsF_memx ops es 0 x hx
    have := statF_mem ops 0 k o q2 (h k o e q2 q3 q4)
    obtain ⟨x1, x2, x3⟩ := x
    simp only at q1 q5 q6
    rw [q1, q5, q6]; exact this) hf

theorem rds_ok {acts : List (Nat × Nat × H)} {h0 : H} : ∀ (ops : List O) (es : List Ent) (i : Nat), (∀ (k : Nat) o e, ops[k]? = some o → es[k]? = some e → e.rd = true → readsOk P o e (i + k) h0 acts = true) → rdsOk P acts h0 ops es i = true
  | [], es, i, _ => by simp [rdsOk]
  | _ :: _, [], i, _ => by simp [rdsOk]
  | o :: ops, e :: es, i, h => by
    have rec_ := rds_ok (acts := acts) (h0 := h0) ops es (i + 1) fun k o' e' a1 a2 a3 => by
      have := h (k + 1) o' e' (by simpa using a1) (by simpa using a2) a3
      rwa [show i + (k + 1) = i + 1 + k by omega] at this
    unfold rdsOk
    rw [rec_, Bool.and_true]
    cases hr : e.rd with
    | false => rfl
    | true => simpa using h 0 o e rfl rfl hr

theorem evDraw_ord {ops : List O} {T T' : List V} {h h' : H} {es : List Ent} (hd : ordd ops = true) (he : evDr P ap ops T h = some (es, T', h')) (hnj : ∀ e ∈ es, e.rd = true → e.v.nj = true) : evDraw P ap ops T h = some (T', h') := by
  obtain ⟨e1, e2, e3, e4, e5⟩ := evDr_ents ops T h es T' h' he
  unfold ordd at hd
  rw [Bool.and_eq_true] at hd
  obtain ⟨hd, hfs⟩ := hd
  have hfl : floatOk (actsF ops es 0) ops = true := fstat_ok hfs fun k o e a1 a2 a3 => (e2 k e o a2 a1).1 a3
  have hch : chainF (actsF ops es 0) = true := chain_ok ops es 0 fun k l o o' a b a1 a2 a3 a4 a5 a6 a7 => by
    have hs := (e2 k a o a3 a1).1 a5
    rw [Nat.zero_add]
    exact .inr ((ordd_spec hd a2 a1 hs).1 a7)
  have hrd : rdsOk P (actsOf ops es 0) h ops es 0 = true := rds_ok ops es 0 fun k o e a1 a2 a3 => by
    rw [Nat.zero_add]
    obtain ⟨q1, q2⟩ := (e2 k e o a2 a1).2 a3
    have hsame : sameAt P o e e.h = true := by
      unfold sameAt; rw [q1]
      exact V.beq_refl _ (hnj e (List.mem_of_getElem? a2) a3)
    refine reads_ok hsame q2 ops es 0 h e3 e4 e5 e1 (fun _ => by simpa using a2) (fun hh => by omega) fun l a o' b1 b2 b3 => ?_
    have hs := (e2 l a o' b1 b2).1 b3
    rw [Nat.zero_add]
    exact ordd_spec hd a1 b2 hs
  unfold evDraw
  rw [he]
  simp only [hch, hrd, hfl, Bool.and_self, Bool.or_true, if_true]

/-! ### stepping -/
section
variable {E : Env} {ro : Option Nat} {L : Nat} {S : List Fr} {ρ : Nat → V} {h : H} {Q : Po}
def XDO (P : Program) (E : Env) (ro : Option Nat) (L : Nat) (ops : List O) (S : List Fr) (ρ : Nat → V) (h : H) (Q : Po) : Prop :=
  ∃ es T' h', evDr P (AP P E) ops (toL L ρ) h = some (es, T', h') ∧ (∀ e ∈ es, e.rd = true → e.v.nj = true) ∧ XX P E ro S .nrm T' h' Q
def XRD (P : Program) (E : Env) (ro : Option Nat) (L : Nat) (dst : Option Nat) (r : List O) (S : List Fr) (ρ : Nat → V) (h : H) (Q : Po) : Option Res → Prop
  | some (.pur v) => XDO P E ro L r S (upo ρ dst v) h Q
  | some (.rd v) => v.nj = true ∧ XDO P E ro L r S (upo ρ dst v) h Q
  | some (.eff v h') => XDO P E ro L r S (upo ρ dst v) h' Q
  | some (.call f args) => ∃ v h', AP P E f args h = some (v, h') ∧ XDO P E ro L r S (upo ρ dst v) h' Q
  | none => False
def XCD (P : Program) (E : Env) (ro : Option Nat) (L : Nat) (f : V) (args : List V) (dst : Option Nat) (r : List O) (S : List Fr) (ρ : Nat → V) (h : H) (Q : Po) : Prop :=
  ∃ v h', AP P E f args h = some (v, h') ∧ XDO P E ro L r S (upo ρ dst v) h' Q

theorem XD_ord {ops : List O} (hd : ordd ops = true) (hx : XDO P E ro L ops S ρ h Q) : XD P E ro L ops S ρ h Q := by
  obtain ⟨es, T', h', h1, h2, h3⟩ := hx
  exact ⟨T', h', evDraw_ord hd h1 h2, h3⟩
theorem XDO_nil : XDO P E ro L [] S ρ h Q = X P E ro L S ρ h Q := by
  simp only [XDO, evDr, X, Option.some.injEq, Prod.mk.injEq, eq_iff_iff]
  constructor
  · rintro ⟨es, T', h', ⟨rfl, rfl, rfl⟩, _, h3⟩; exact h3
  · intro h3; exact ⟨[], _, _, ⟨rfl, rfl, rfl⟩, by simp, h3⟩
theorem XDO_cons (dst : Option Nat) (k : AM.K) (g : Option (Nat × Bool)) (pre : Nat) (ns : List Nat) (r : List O) :
    XDO P E ro L (⟨dst, k, g, pre, ns⟩ :: r) S ρ h Q = if wantV (toL L ρ) g then XRD P E ro L dst r S ρ h Q (evK P (toL L ρ) h k) else XDO P E ro L r S (upo ρ dst undefV) h Q := by
  have one : ∀ (ent : Ent) (v : V) (h1 : H), (ent.rd = true → ent.v.nj = true) → ((∃ es T' h', ((evDr P (AP P E) r (putV (toL L ρ) dst v) h1).map fun x => (ent :: x.1, x.2)) = some (es, T', h') ∧ (∀ e ∈ es, e.rd = true → e.v.nj = true) ∧ XX P E ro S .nrm T' h' Q) ↔ XDO P E ro L r S (upo ρ dst v) h1 Q) := by
    intro ent v h1 hent
    rw [putV_upo]
    unfold XDO
    constructor
    · rintro ⟨es, T', h', m, h2, h3⟩
      obtain ⟨⟨es0, T0, h0⟩, m1, m2⟩ := Option.map_eq_some_iff.1 m
      cases m2
      exact ⟨es0, _, _, m1, fun e he => h2 e (List.mem_cons_of_mem _ he), h3⟩
    · rintro ⟨es, T', h', m, h2, h3⟩
      refine ⟨ent :: es, T', h', by rw [m]; rfl, fun e he => ?_, h3⟩
      rcases List.mem_cons.1 he with rfl | he
      · exact hent
      · exact h2 e he
  conv => lhs; unfold XDO
  simp only [evDr]
  split
  · cases hk : evK P (toL L ρ) h k with
    | none => simp [XRD]
    | some x =>
      cases x with
      | pur v => simp only [XRD, eq_iff_iff]; exact one _ _ _ (by simp)
      | rd v =>
        simp only [XRD, eq_iff_iff]
        constructor
        · rintro ⟨es, T', h', m, h2, h3⟩
          obtain ⟨⟨es0, T0, h0⟩, m1, m2⟩ := Option.map_eq_some_iff.1 m
          cases m2
          have hv := h2 _ (List.mem_cons_self) rfl
          exact ⟨hv, (one ⟨toL L ρ, h, h, v, false, true⟩ v h (fun _ => hv)).1 ⟨_, _, _, by rw [m1]; rfl, h2, h3⟩⟩
        · rintro ⟨hv, hx⟩
          exact (one ⟨toL L ρ, h, h, v, false, true⟩ v h (fun _ => hv)).2 hx
      | eff v h' => simp only [XRD, eq_iff_iff]; exact one _ _ _ (by simp)
      | call f args =>
        simp only [XRD, eq_iff_iff]
        cases ha : AP P E f args h with
        | none => simp
        | some y =>
          obtain ⟨v, h1⟩ := y
          simp only [Option.some.injEq, Prod.mk.injEq]
          constructor
          · intro hx; exact ⟨v, h1, ⟨rfl, rfl⟩, (one _ _ _ (by simp)).1 hx⟩
          · rintro ⟨v', h', ⟨rfl, rfl⟩, hx⟩; exact (one _ _ _ (by simp)).2 hx
  · simp only [eq_iff_iff]; exact one _ _ _ (by simp)
theorem XRD_pur (dst : Option Nat) (r : List O) (v : V) : XRD P E ro L dst r S ρ h Q (some (.pur v)) = XDO P E ro L r S (upo ρ dst v) h Q := rfl
theorem XRD_rd (dst : Option Nat) (r : List O) (v : V) : XRD P E ro L dst r S ρ h Q (some (.rd v)) = (v.nj = true ∧ XDO P E ro L r S (upo ρ dst v) h Q) := rfl
theorem XRD_eff (dst : Option Nat) (r : List O) (v : V) (h' : H) : XRD P E ro L dst r S ρ h Q (some (.eff v h')) = XDO P E ro L r S (upo ρ dst v) h' Q := rfl
theorem XRD_call (dst : Option Nat) (r : List O) (f : V) (args : List V) : XRD P E ro L dst r S ρ h Q (some (.call f args)) = XCD P E ro L f args dst r S ρ h Q := rfl
theorem XCD_some {f : V} {args : List V} {v : V} {h' : H} (e : AP P E f args h = some (v, h')) (dst : Option Nat) (r : List O) : XCD P E ro L f args dst r S ρ h Q = XDO P E ro L r S (upo ρ dst v) h' Q := by
  simp [XCD, e, ex2]
theorem XCD_of {f : V} {args : List V} {R : V → H → Prop} (s : Sp P E f args h R) {dst : Option Nat} {r : List O} (hk : ∀ v h', R v h' → XDO P E ro L r S (upo ρ dst v) h' Q) : XCD P E ro L f args dst r S ρ h Q := by
  obtain ⟨v, h', e, q⟩ := s
  exact ⟨v, h', e, hk v h' q⟩
end
end Go.AM
