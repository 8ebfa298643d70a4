/- My own texts of the evaluator, its soundness and its symbolic runs, laid for this claim. -/
import Derived.Test.YtelbgimbkfjabaaAmP
import Derived.Test.YtelbgimbkfjabaaAmR
set_option linter.unusedSimpArgs false
set_option linter.unusedVariables false
/-! What an operation's answer depends on. -/
namespace Go.AM
variable {P : Program}

def Agree (T U : List V) (ts : List Nat) : Prop := ∀ t ∈ ts, T[t]? = U[t]?

theorem A.ev_congr {T U : List V} {a : A} (h : Agree T U a.tm) : a.ev T = a.ev U := by
  cases a with
  | t i => exact h i (by simp [A.tm])
  | k v => rfl

theorem evs_congr {T U : List V} : ∀ {as : List A}, (∀ a ∈ as, a.ev T = a.ev U) → evs T as = evs U as
  | [], _ => rfl
  | a :: as, h => by
    simp only [evs]
    rw [h a (by simp), evs_congr (as := as) fun b hb => h b (by simp [hb])]

theorem evo_congr {T U : List V} {a : Option A} (h : ∀ x ∈ a.toList, x.ev T = x.ev U) : evo T a = evo U a := by
  cases a with
  | none => rfl
  | some a => simp only [evo]; rw [h a (by simp)]

theorem fillV_congr {T U : List V} : ∀ {ps : List (Nat × Nat × A)} (z : List V), (∀ p ∈ ps, p.2.2.ev T = p.2.2.ev U) → fillV T z ps = fillV U z ps
  | [], _, _ => rfl
  | (o, s, a) :: ps, z, h => by
    simp only [fillV]
    rw [h (o, s, a) (by simp)]
    cases a.ev U with
    | none => rfl
    | some v =>
      simp only
      split
      · exact fillV_congr _ fun p hp => h p (by simp [hp])
      · rfl

theorem evK_congr {T U : List V} {h : H} {k : K} (hk : Agree T U k.tms) : evK P T h k = evK P U h k := by
  have h1 : ∀ a ∈ k.as, a.ev T = a.ev U := fun a ha => A.ev_congr fun t ht => hk t (List.mem_flatMap.2 ⟨a, ha, ht⟩)
  clear hk
  cases k <;> simp only [K.as, List.mem_cons, List.mem_append, List.not_mem_nil, or_false, forall_eq_or_imp, forall_eq, List.mem_map, forall_exists_index, and_imp] at h1 <;> simp only [evK]
  all_goals first
    | rfl
    | rw [h1]
    | rw [h1.1, h1.2]
    | rw [h1.1, h1.2.1, h1.2.2]
    | skip
  case build => rw [fillV_congr _ fun p hp => h1 _ p hp rfl]
  case bslice => rw [fillV_congr _ fun p hp => h1 _ p hp rfl]
  case mkF => rw [evs_congr fun a ha => h1 a (.inl ha), evs_congr fun a ha => h1 a (.inr ha)]
  case slS => rw [h1.1, evo_congr fun a ha => h1.2 a (.inl ha), evo_congr fun a ha => h1.2 a (.inr ha)]
  case slL => rw [h1.1, evo_congr fun a ha => h1.2 a (.inl (.inl ha)), evo_congr fun a ha => h1.2 a (.inl (.inr ha)), evo_congr fun a ha => h1.2 a (.inr ha)]
  case slA => rw [h1.1, evo_congr fun a ha => h1.2 a (.inl (.inl ha)), evo_congr fun a ha => h1.2 a (.inl (.inr ha)), evo_congr fun a ha => h1.2 a (.inr ha)]
  case minmax => rw [evs_congr h1]
  case call => rw [h1.1, evs_congr h1.2]
  case inv => rw [h1.1, evs_congr h1.2]

theorem binV_pur {h h' : H} {op : BinOp} {eq : Option EqT} {lit : Bool} {x y v : V} (he : binV h op eq lit x y = some (.pur v)) : binV h' op eq lit x y = some (.pur v) := by
  unfold binV at he ⊢
  split at he
  · exact he
  · exact he
  · exfalso
    split at he
    · cases he
    · split at he
      · cases he
      · split at he <;> cases he

theorem evK_pur {T : List V} {h h' : H} {k : K} {v : V} (he : evK P T h k = some (.pur v)) : evK P T h' k = some (.pur v) := by
  cases k <;> simp only [evK] at he ⊢
  case bin => 
    split at he
    · exact binV_pur he
    · cases he
  case p2u =>
    split at he
    · exact he
    · split at he
      · split at he <;> cases he
      · cases he
    · cases he
  case u2p =>
    split at he
    · exact he
    · split at he
      · split at he <;> cases he
      · cases he
    · cases he
  case ustr =>
    split at he
    · split at he
      · rename_i h0; rw [if_pos h0]; exact he
      · exfalso
        repeat' (split at he)
        all_goals first | (cases he; done) | (simp at he; done)
    · cases he
  case app =>
    split at he
    · obtain ⟨v, h'', e⟩ := appV_eff he; cases e
    · cases he
  all_goals first
    | exact he
    | (exfalso; repeat' (split at he)
       all_goals first | (cases he; done) | (simp at he; done) | skip)
end Go.AM
/-! Soundness, XIV b: regions that draw their order: the abstract part. -/
namespace Go.AM

abbrev XE := O × Ent

def tS (L : Nat → Bool) : List XE → Nat → List V → List V
  | [], _, T => T
  | (o, e) :: X, k, T => tS L X (k + 1) (if L k then putV T o.dst e.v else T)

def hS (L : Nat → Bool) : List XE → Nat → H → H
  | [], _, h => h
  | (_, e) :: X, k, h => hS L X (k + 1) (if L k && e.act then e.h' else h)

theorem length_putV (T : List V) (d : Option Nat) (v : V) : (putV T d v).length = T.length := by cases d <;> simp [putV]
theorem get_putV (T : List V) (d : Option Nat) (v : V) (t : Nat) : (putV T d v)[t]? = if d = some t then (if t < T.length then some v else none) else T[t]? := by
  cases d with
  | none => simp [putV]
  | some d =>
    simp only [putV, List.getElem?_set, Option.some.injEq]
    by_cases h : d = t
    · subst h; simp
    · simp [h]

theorem length_tS (L : Nat → Bool) : ∀ (X : List XE) (k : Nat) (T : List V), (tS L X k T).length = T.length
  | [], _, _ => rfl
  | (o, e) :: X, k, T => by
    simp only [tS]
    rw [length_tS L X]
    split
    · exact length_putV _ _ _
    · rfl

theorem tS_congr {L M : Nat → Bool} {t : Nat} : ∀ (X : List XE) (k : Nat) (T U : List V), T.length = U.length → T[t]? = U[t]? →
    (∀ j x, X[j]? = some x → x.1.dst = some t → L (k + j) = M (k + j)) → (tS L X k T)[t]? = (tS M X k U)[t]?
  | [], _, T, U, _, h, _ => h
  | (o, e) :: X, k, T, U, hl, h, hd => by
    simp only [tS]
    refine tS_congr X (k + 1) _ _ ?_ ?_ fun j x hx hxt => ?_
    · split <;> split <;> simp [length_putV, hl]
    · by_cases hdst : o.dst = some t
      · have := hd 0 (o, e) rfl hdst
        simp only [Nat.add_zero] at this
        rw [this]
        split
        · rw [get_putV, get_putV, hl, h]
        · exact h
      · split <;> split <;> simp [get_putV, hdst, h]
    · have := hd (j + 1) x (by simpa using hx) hxt
      rw [Nat.add_assoc, Nat.add_comm 1 j]; exact this

theorem tS_none {L : Nat → Bool} {t : Nat} (X : List XE) (k : Nat) (T : List V) (h : ∀ j x, X[j]? = some x → x.1.dst = some t → L (k + j) = false) : (tS L X k T)[t]? = T[t]? := by
  have h0 : ∀ (X : List XE) (k : Nat) (T : List V), tS (fun _ => false) X k T = T := by
    intro X
    induction X with
    | nil => intros; rfl
    | cons x X ih => intro k T; obtain ⟨o, e⟩ := x; simp [tS, ih]
  rw [tS_congr (M := fun _ => false) X k T T rfl rfl h, h0]

theorem tS_add {L M : Nat → Bool} : ∀ (X : List XE) (k i : Nat) (T : List V) (x : XE), X[i]? = some x → L (k + i) = false → M (k + i) = true → (∀ j, j ≠ i → M (k + j) = L (k + j)) →
    (∀ j y t, i < j → X[j]? = some y → y.1.dst = some t → x.1.dst = some t → L (k + j) = false) → tS M X k T = putV (tS L X k T) x.1.dst x.2.v
  | [], _, _, _, _, h, _, _, _, _ => by simp at h
  | (o, e) :: X, k, 0, T, x, h, h1, h2, h3, h4 => by
    simp at h; subst h
    simp only [Nat.add_zero] at h1 h2
    simp only [tS, h1, h2, if_true, Bool.false_eq_true, if_false]
    refine List.ext_getElem? fun t => ?_
    rw [get_putV, length_tS]
    have hM : ∀ j x, X[j]? = some x → x.1.dst = some t → M (k + 1 + j) = L (k + 1 + j) := fun j x _ _ => by
      have := h3 (j + 1) (by omega)
      rw [Nat.add_assoc, Nat.add_comm 1 j]; exact this
    by_cases hd : o.dst = some t
    · rw [if_pos hd, tS_none]
      · rw [get_putV, if_pos hd]
      · intro j y hy hyt
        rw [hM j y hy hyt]
        have := h4 (j + 1) y t (by omega) (by simpa using hy) hyt hd
        rw [Nat.add_assoc, Nat.add_comm 1 j]; exact this
    · rw [if_neg hd]
      exact tS_congr X (k + 1) _ _ (length_putV _ _ _) (by rw [get_putV, if_neg hd]) hM
  | (o, e) :: X, k, i + 1, T, x, h, h1, h2, h3, h4 => by
    have h30 := h3 0 (by omega)
    simp only [Nat.add_zero] at h30
    simp only [tS, h30]
    refine tS_add X (k + 1) i _ x (by simpa using h) ?_ ?_ ?_ ?_
    · rw [Nat.add_assoc, Nat.add_comm 1 i]; exact h1
    · rw [Nat.add_assoc, Nat.add_comm 1 i]; exact h2
    · intro j hj
      have := h3 (j + 1) (by omega)
      rw [Nat.add_assoc, Nat.add_comm 1 j]; exact this
    · intro j y t hj hy hyt hxt
      have := h4 (j + 1) y t (by omega) (by simpa using hy) hyt hxt
      rw [Nat.add_assoc, Nat.add_comm 1 j]; exact this

theorem hS_congr {L M : Nat → Bool} : ∀ (X : List XE) (k : Nat) (h : H), (∀ j x, X[j]? = some x → x.2.act = true → L (k + j) = M (k + j)) → hS L X k h = hS M X k h
  | [], _, _, _ => rfl
  | (o, e) :: X, k, h, hd => by
    simp only [hS]
    have h0 : (L k && e.act) = (M k && e.act) := by
      cases ha : e.act with
      | false => simp
      | true => have := hd 0 (o, e) rfl ha; simp only [Nat.add_zero] at this; rw [this]
    rw [h0]
    exact hS_congr X (k + 1) _ fun j x hx hxa => by
      have := hd (j + 1) x (by simpa using hx) hxa
      rw [Nat.add_assoc, Nat.add_comm 1 j]; exact this

theorem hS_none {L : Nat → Bool} (X : List XE) (k : Nat) (h : H) (hd : ∀ j x, X[j]? = some x → x.2.act = true → L (k + j) = false) : hS L X k h = h := by
  have h0 : ∀ (X : List XE) (k : Nat) (h : H), hS (fun _ => false) X k h = h := by
    intro X
    induction X with
    | nil => intros; rfl
    | cons x X ih => intro k T; obtain ⟨o, e⟩ := x; simp [hS, ih]
  rw [hS_congr (M := fun _ => false) X k h hd, h0]

theorem hS_add {M : Nat → Bool} : ∀ (X : List XE) (k i : Nat) (h : H) (x : XE), X[i]? = some x → x.2.act = true → M (k + i) = true → (∀ j y, i < j → X[j]? = some y → y.2.act = true → M (k + j) = false) → hS M X k h = x.2.h'
  | [], _, _, _, _, h, _, _, _ => by simp at h
  | (o, e) :: X, k, 0, h, x, hx, h1, h2, h3 => by
    simp at hx; subst hx
    simp only [Nat.add_zero] at h2
    have h1' : e.act = true := h1
    simp only [hS, h1', h2, Bool.and_self, if_true]
    exact hS_none X _ _ fun j y hy hya => by
      have := h3 (j + 1) y (by omega) (by simpa using hy) hya
      rw [Nat.add_assoc, Nat.add_comm 1 j]; exact this
  | (o, e) :: X, k, i + 1, h, x, hx, h1, h2, h3 => by
    simp only [hS]
    refine hS_add X (k + 1) i _ x (by simpa using hx) h1 (by rw [Nat.add_assoc, Nat.add_comm 1 i]; exact h2) fun j y hj hy hya => ?_
    have := h3 (j + 1) y (by omega) (by simpa using hy) hya
    rw [Nat.add_assoc, Nat.add_comm 1 j]; exact this

/-! ### what the evaluation in the order of the text says -/
def EntOK (P : Program) (ap : Ap) (o : O) (e : Ent) : Prop :=
  if wantV e.T o.guard then
    match evK P e.T e.h o.op with
    | some (.pur v) => e.v = v ∧ e.h' = e.h ∧ e.act = false ∧ e.rd = false
    | some (.rd v) => e.v = v ∧ e.h' = e.h ∧ e.act = false ∧ e.rd = true
    | some (.eff v h') => e.v = v ∧ e.h' = h' ∧ e.act = true
    | some (.call f args) => ap f args e.h = some (e.v, e.h') ∧ e.act = true
    | none => False
  else e.v = undefV ∧ e.h' = e.h ∧ e.act = false ∧ e.rd = false

def DrL (P : Program) (ap : Ap) : List XE → List V → H → List V → H → Prop
  | [], T, h, T', h' => T = T' ∧ h = h'
  | (o, e) :: X, T, h, T', h' => e.T = T ∧ e.h = h ∧ EntOK P ap o e ∧ DrL P ap X (putV T o.dst e.v) e.h' T' h'

theorem evDr_ok {P : Program} {ap : Ap} : ∀ (l : List O) (T : List V) (h : H) (es : List Ent) (T' : List V) (h' : H), evDr P ap l T h = some (es, T', h') → es.length = l.length ∧ DrL P ap (l.zip es) T h T' h'
  | [], T, h, es, T', h', he => by simp only [evDr] at he; cases he; exact ⟨rfl, rfl, rfl⟩
  | o :: l, T, h, es, T', h', he => by
    have fin : ∀ (e : Ent), e.T = T → e.h = h → EntOK P ap o e → ((evDr P ap l (putV T o.dst e.v) e.h').map fun (es, x) => (e :: es, x)) = some (es, T', h') → es.length = (o :: l).length ∧ DrL P ap ((o :: l).zip es) T h T' h' := by
      intro e e1 e2 e3 e4
      cases h5 : evDr P ap l (putV T o.dst e.v) e.h' with
      | none => simp [h5] at e4
      | some s =>
        obtain ⟨es', T1, h1⟩ := s
        simp [h5] at e4
        obtain ⟨rfl, rfl, rfl⟩ := e4
        obtain ⟨k1, k2⟩ := evDr_ok l _ _ _ _ _ h5
        exact ⟨by simp [k1], e1, e2, e3, k2⟩
    simp only [evDr] at he
    split at he
    · rename_i hw
      split at he
      · rename_i v hk; exact fin ⟨T, h, h, v, false, false⟩ rfl rfl (by simp [EntOK, hw, hk]) he
      · rename_i v hk; exact fin ⟨T, h, h, v, false, true⟩ rfl rfl (by simp [EntOK, hw, hk]) he
      · rename_i v h1 hk; exact fin ⟨T, h, h1, v, true, false⟩ rfl rfl (by simp [EntOK, hw, hk]) he
      · rename_i f args hk
        split at he
        · rename_i v h1 hap; exact fin ⟨T, h, h1, v, true, false⟩ rfl rfl (by simp [EntOK, hw, hk, hap]) he
        · cases he
      · cases he
    · rename_i hw; exact fin ⟨T, h, h, undefV, false, false⟩ rfl rfl (by simp [EntOK, hw]) he

theorem EntOK.same {P : Program} {ap : Ap} {o : O} {e : Ent} (h : EntOK P ap o e) (ha : e.act = false) : e.h' = e.h := by
  unfold EntOK at h
  split at h
  · split at h
    · exact h.2.1
    · exact h.2.1
    · rw [ha] at h; exact absurd h.2.2 (by simp)
    · rw [ha] at h; exact absurd h.2 (by simp)
    · exact h.elim
  · exact h.2.1

theorem DrL.at {P : Program} {ap : Ap} : ∀ (X : List XE) (k : Nat) (T : List V) (h : H) (T' : List V) (h' : H), DrL P ap X T h T' h' → ∀ i x, X[i]? = some x →
    x.2.T = tS (fun j => decide (j < k + i)) X k T ∧ x.2.h = hS (fun j => decide (j < k + i)) X k h ∧ EntOK P ap x.1 x.2
  | [], _, _, _, _, _, _, i, x, hx => by simp at hx
  | (o, e) :: X, k, T, h, T', h', hd, 0, x, hx => by
    simp at hx; subst hx
    obtain ⟨h1, h2, h3, h4⟩ := hd
    refine ⟨?_, ?_, h3⟩
    · refine h1.trans (List.ext_getElem? fun t => ?_)
      rw [tS_none]
      intro j x _ _; simp
    · refine h2.trans ?_
      rw [hS_none]
      intro j x _ _; simp
  | (o, e) :: X, k, T, h, T', h', hd, i + 1, x, hx => by
    obtain ⟨h1, h2, h3, h4⟩ := hd
    obtain ⟨k1, k2, k3⟩ := DrL.at X (k + 1) _ _ _ _ h4 i x (by simpa using hx)
    have e1 : k + 1 + i = k + (i + 1) := by omega
    rw [e1] at k1 k2
    refine ⟨?_, ?_, k3⟩
    · simp only [tS]
      rw [if_pos (by simp)]
      exact k1
    · simp only [hS]
      rw [k2]
      congr 1
      cases ha : e.act with
      | true => simp
      | false => rw [h3.same ha, h2]; simp

theorem DrL.last {P : Program} {ap : Ap} : ∀ (X : List XE) (k : Nat) (T : List V) (h : H) (T' : List V) (h' : H) (L : Nat → Bool), DrL P ap X T h T' h' → (∀ i, i < X.length → L (k + i) = true) → tS L X k T = T' ∧ hS L X k h = h'
  | [], _, _, _, _, _, _, hd, _ => hd
  | (o, e) :: X, k, T, h, T', h', L, hd, hL => by
    obtain ⟨h1, h2, h3, h4⟩ := hd
    have h0 := hL 0 (by simp)
    simp only [Nat.add_zero] at h0
    have := DrL.last X (k + 1) _ _ _ _ L h4 fun i hi => by
      have := hL (i + 1) (by simpa using hi)
      rw [Nat.add_assoc, Nat.add_comm 1 i]; exact this
    simp only [tS, hS, h0, if_true, Bool.true_and]
    refine ⟨this.1, ?_⟩
    have hh : (if e.act = true then e.h' else h) = e.h' := by
      cases ha : e.act with
      | true => rfl
      | false => rw [h3.same ha, h2]; rfl
    rw [hh]; exact this.2

/-! ### acting operations -/
theorem actsOf_mem : ∀ (l : List O) (es : List Ent) (k : Nat) (a : Nat × Nat × H), a ∈ actsOf l es k ↔ ∃ i x, (l.zip es)[i]? = some x ∧ x.2.act = true ∧ a = (k + i, x.1.pre, x.2.h')
  | [], es, k, a => by simp [actsOf]
  | o :: l, [], k, a => by simp [actsOf]
  | o :: l, e :: es, k, a => by
    have ih := actsOf_mem l es (k + 1) a
    have key : (∃ i x, ((o :: l).zip (e :: es))[i]? = some x ∧ x.2.act = true ∧ a = (k + i, x.1.pre, x.2.h')) ↔ (e.act = true ∧ a = (k, o.pre, e.h')) ∨ ∃ i x, (l.zip es)[i]? = some x ∧ x.2.act = true ∧ a = (k + 1 + i, x.1.pre, x.2.h') := by
      constructor
      · rintro ⟨i, x, h1, h2, h3⟩
        cases i with
        | zero => simp at h1; subst h1; exact .inl ⟨h2, h3⟩
        | succ i => exact .inr ⟨i, x, by simpa using h1, h2, by rw [h3]; congr 1; omega⟩
      · rintro (⟨h1, h2⟩ | ⟨i, x, h1, h2, h3⟩)
        · exact ⟨0, (o, e), rfl, h1, h2⟩
        · exact ⟨i + 1, x, by simpa using h1, h2, by rw [h3]; congr 1; omega⟩
    rw [key]
    simp only [actsOf]
    cases ha : e.act with
    | true => simp [ih]
    | false => simp [ih]

theorem chain_spec : ∀ (l : List O) (es : List Ent) (k : Nat), chain (actsOf l es k) = true → ∀ (i j : Nat) (x y : XE), i < j → (l.zip es)[i]? = some x → (l.zip es)[j]? = some y → x.2.act = true → y.2.act = true → y.1.pre.testBit (k + i) = true
  | [], es, k, _, i, j, x, y, _, h1, _, _, _ => by simp at h1
  | o :: l, [], k, _, i, j, x, y, _, h1, _, _, _ => by simp at h1
  | o :: l, e :: es, k, hc, 0, j, x, y, hij, h1, h2, h3, h4 => by
    simp at h1; subst h1
    simp only at h3
    simp only [actsOf, h3, if_true, chain, Bool.and_eq_true, List.all_eq_true] at hc
    obtain ⟨j', rfl⟩ : ∃ j', j = j' + 1 := ⟨j - 1, by omega⟩
    exact hc.1 _ ((actsOf_mem l es (k + 1) _).2 ⟨j', y, by simpa using h2, h4, rfl⟩)
  | o :: l, e :: es, k, hc, i + 1, j, x, y, hij, h1, h2, h3, h4 => by
    obtain ⟨j', rfl⟩ : ∃ j', j = j' + 1 := ⟨j - 1, by omega⟩
    have hc' : chain (actsOf l es (k + 1)) = true := by
      simp only [actsOf] at hc
      split at hc
      · simp only [chain, Bool.and_eq_true] at hc; exact hc.2
      · exact hc
    have := chain_spec l es (k + 1) hc' i j' x y (by omega) (by simpa using h1) (by simpa using h2) h3 h4
    rw [show k + (i + 1) = k + 1 + i by omega]; exact this

theorem readsOk_spec {P : Program} {o : O} {e : Ent} {i : Nat} {L : Nat → Bool} : ∀ (l : List O) (es : List Ent) (k : Nat) (h : H), readsOk P o e i h (actsOf l es k) = true →
    (∀ j x, (l.zip es)[j]? = some x → x.2.act = true → L (k + j) = true → x.1.pre.testBit i = false) → (∀ j x, (l.zip es)[j]? = some x → x.2.act = true → L (k + j) = false → o.pre.testBit (k + j) = false) →
    (∀ j j' x y, j < j' → (l.zip es)[j]? = some x → (l.zip es)[j']? = some y → x.2.act = true → y.2.act = true → L (k + j') = true → L (k + j) = true) → sameAt P o e (hS L (l.zip es) k h) = true
  | [], es, k, h, hr, _, _, _ => by simpa [actsOf, readsOk, hS] using hr
  | o0 :: l, [], k, h, hr, _, _, _ => by simpa [actsOf, readsOk, hS] using hr
  | o0 :: l, e0 :: es, k, h, hr, h1, h2, h3 => by
    have s1 : ∀ j x, (l.zip es)[j]? = some x → x.2.act = true → L (k + 1 + j) = true → x.1.pre.testBit i = false := fun j x hx ha hL => h1 (j + 1) x (by simpa using hx) ha (by rw [← hL]; congr 1; omega)
    have s2 : ∀ j x, (l.zip es)[j]? = some x → x.2.act = true → L (k + 1 + j) = false → o.pre.testBit (k + 1 + j) = false := fun j x hx ha hL => by
      have := h2 (j + 1) x (by simpa using hx) ha (by rw [← hL]; congr 1; omega)
      rw [show k + 1 + j = k + (j + 1) by omega]; exact this
    have s3 : ∀ j j' x y, j < j' → (l.zip es)[j]? = some x → (l.zip es)[j']? = some y → x.2.act = true → y.2.act = true → L (k + 1 + j') = true → L (k + 1 + j) = true := fun j j' x y hj hx hy ha hb hL => by
      have := h3 (j + 1) (j' + 1) x y (by omega) (by simpa using hx) (by simpa using hy) ha hb (by rw [← hL]; congr 1; omega)
      rw [show k + 1 + j = k + (j + 1) by omega]; exact this
    simp only [List.zip_cons_cons, hS]
    cases ha : e0.act with
    | false =>
      simp only [actsOf, ha, Bool.false_eq_true, if_false] at hr
      rw [Bool.and_false, if_neg (by simp)]
      exact readsOk_spec l es (k + 1) h hr s1 s2 s3
    | true =>
      simp only [actsOf, ha, if_true, readsOk, Bool.and_eq_true, Bool.or_eq_true] at hr
      obtain ⟨hr1, hr2⟩ := hr
      cases hL : L k with
      | true =>
        simp only [Bool.and_self, if_true]
        have := h1 0 (o0, e0) rfl ha (by simpa using hL)
        rw [this] at hr2
        exact readsOk_spec l es (k + 1) _ (hr2.resolve_left (by simp)) s1 s2 s3
      | false =>
        simp only [Bool.false_and, Bool.false_eq_true, if_false]
        have hno : ∀ j x, (l.zip es)[j]? = some x → x.2.act = true → L (k + 1 + j) = false := fun j x hx hxa => by
          cases hLj : L (k + 1 + j) with
          | false => rfl
          | true =>
            have := h3 0 (j + 1) (o0, e0) x (by omega) rfl (by simpa using hx) ha hxa (by rw [← hLj]; congr 1; omega)
            simp [hL] at this
        rw [hS_none _ _ _ hno]
        refine hr1.resolve_left ?_
        rintro (hp | hp)
        · have := h2 0 (o0, e0) rfl ha (by simpa using hL)
          simp only [Nat.add_zero] at this
          rw [this] at hp; cases hp
        · rw [List.any_eq_true] at hp
          obtain ⟨a, hmem, hbit⟩ := hp
          obtain ⟨j, x, hx, hxa, rfl⟩ := (actsOf_mem l es (k + 1) a).1 hmem
          have := s2 j x hx hxa (hno j x hx hxa)
          simp only at hbit
          rw [this] at hbit; cases hbit

theorem rdsOk_spec {P : Program} {acts : List (Nat × Nat × H)} {h0 : H} : ∀ (l : List O) (es : List Ent) (k : Nat), rdsOk P acts h0 l es k = true → ∀ i x, (l.zip es)[i]? = some x → x.2.rd = true → readsOk P x.1 x.2 (k + i) h0 acts = true
  | [], _, _, _, i, x, hx, _ => by simp at hx
  | _ :: _, [], _, _, i, x, hx, _ => by simp at hx
  | o :: l, e :: es, k, h, 0, x, hx, hrd => by
    simp at hx; subst hx
    simp only [rdsOk, Bool.and_eq_true, Bool.or_eq_true] at h
    exact h.1.resolve_left (by simp only at hrd; simp [hrd])
  | o :: l, e :: es, k, h, i + 1, x, hx, hrd => by
    simp only [rdsOk, Bool.and_eq_true] at h
    have := rdsOk_spec l es (k + 1) h.2 i x (by simpa using hx) hrd
    rw [show k + (i + 1) = k + 1 + i by omega]; exact this
end Go.AM
/-! Soundness, XIV c: regions that draw their order. -/
namespace Go.AM
variable {P : Program} {ap : Ap}

theorem preOf_spec {acc : List Nat} {j : Nat} {es : List Edge} (h : (preOf acc es).testBit j = true) : ∃ e ∈ es, Region.binds .any e = true ∧ (e.on = j ∨ (acc.getD e.on 0).testBit j = true) := by
  have key : ∀ (es : List Edge) (s : Nat), (es.foldl (fun s e => if Region.binds .any e then s ||| 2 ^ e.on ||| acc.getD e.on 0 else s) s).testBit j = true →
      s.testBit j = true ∨ ∃ e ∈ es, Region.binds .any e = true ∧ (e.on = j ∨ (acc.getD e.on 0).testBit j = true) := by
    intro es
    induction es with
    | nil => intro s h; exact .inl h
    | cons e es ih =>
      intro s h
      simp only [List.foldl_cons] at h
      rcases ih _ h with h1 | ⟨e', h1, h2⟩
      · split at h1
        · rename_i hb
          rw [Nat.testBit_or, Nat.testBit_or, Bool.or_eq_true, Bool.or_eq_true] at h1
          rcases h1 with (h1 | h1) | h1
          · exact .inl h1
          · rw [Nat.testBit_two_pow] at h1
            exact .inr ⟨e, by simp, hb, .inl (by simpa using h1)⟩
          · exact .inr ⟨e, by simp, hb, .inr h1⟩
        · exact .inl h1
      · exact .inr ⟨e', by simp [h1], h2⟩
  rcases key es 0 h with h | h
  · simp at h
  · exact h

theorem cOsFrom_at {dsts : List (Option Nat)} : ∀ (os : List Oper) (acc : List Nat) (l : List O), cOsFrom P dsts os acc = some l → l.length = os.length ∧
    ∀ i o, os[i]? = some o → ∃ oo, l[i]? = some oo ∧ cO P dsts (preOf (acc ++ (l.take i).map (·.pre)) o.after.toList) o = some oo
  | [], acc, l, h => by cases h; exact ⟨rfl, fun i o ho => by simp at ho⟩
  | o :: os, acc, l, h => by
    simp only [cOsFrom] at h
    split at h <;> cases h
    rename_i x l' h1 h2
    obtain ⟨k1, k2⟩ := cOsFrom_at os _ l' h2
    have hpre : x.pre = preOf acc o.after.toList := by
      unfold cO at h1
      split at h1 <;> cases h1
      rfl
    refine ⟨by simp [k1], fun i o' ho => ?_⟩
    cases i with
    | zero => simp at ho; subst ho; exact ⟨x, rfl, by simpa using h1⟩
    | succ i =>
      obtain ⟨oo, j1, j2⟩ := k2 i o' (by simpa using ho)
      refine ⟨oo, by simpa using j1, ?_⟩
      rw [← hpre] at j2
      simpa using j2

theorem cO_spec {dsts : List (Option Nat)} {pre : Nat} {o : Oper} {oo : O} (h : cO P dsts pre o = some oo) : cK P o.op = some oo.op ∧ cGuard dsts o.guard = some oo.guard ∧ oo.dst = o.dst ∧ oo.pre = pre ∧
    (∀ d, oo.dst = some d → d ∈ oo.names) ∧ (∀ t w, oo.guard = some (t, w) → t ∈ oo.names) ∧ (∀ t ∈ oo.op.tms, t ∈ oo.names) := by
  unfold cO at h
  split at h <;> cases h
  rename_i k g h1 h2
  refine ⟨h1, h2, rfl, rfl, ?_, ?_, ?_⟩
  · intro d hd; simp only at hd ⊢; simp [hd]
  · intro t w hg; simp only at hg ⊢; subst hg; simp
  · intro t ht; simp only at ht ⊢; simp [ht]

theorem edgesBelow_spec : ∀ (os : List Oper) (k : Nat), edgesBelow os k = true → ∀ i o, os[i]? = some o → ∀ e ∈ o.after.toList, Region.binds .any e = true → e.on < k + i
  | [], _, _, i, o, ho, _, _, _ => by simp at ho
  | o :: os, k, h, 0, o', ho, e, he, hb => by
    simp at ho; subst ho
    simp only [edgesBelow, Bool.and_eq_true, List.all_eq_true, Bool.or_eq_true, Bool.not_eq_true', decide_eq_true_eq] at h
    exact (h.1 e he).resolve_left (by simp [hb])
  | o :: os, k, h, i + 1, o', ho, e, he, hb => by
    simp only [edgesBelow, Bool.and_eq_true] at h
    have := edgesBelow_spec os (k + 1) h.2 i o' (by simpa using ho) e he hb
    omega

theorem namesOk_spec : ∀ (l : List O) (k : Nat), namesOk l k = true → ∀ (i j : Nat) (x y : O), i < j → l[i]? = some x → l[j]? = some y →
    y.pre.testBit (k + i) = true ∨ ((∀ d, x.dst = some d → d ∉ y.names) ∧ (∀ d, y.dst = some d → d ∉ x.names))
  | [], _, _, i, j, x, y, _, h1, _ => by simp at h1
  | o :: l, k, h, 0, j, x, y, hij, h1, h2 => by
    simp at h1; subst h1
    obtain ⟨j', rfl⟩ : ∃ j', j = j' + 1 := ⟨j - 1, by omega⟩
    simp only [namesOk, Bool.and_eq_true, List.all_eq_true, Bool.or_eq_true] at h
    have hy : y ∈ l := List.mem_of_getElem? (by simpa using h2)
    rcases h.1 y hy with h3 | ⟨h3, h4⟩
    · exact .inl h3
    · refine .inr ⟨fun d hd => ?_, fun d hd => ?_⟩
      · rw [hd] at h3; simpa using h3
      · rw [hd] at h4; simpa using h4
  | o :: l, k, h, i + 1, j, x, y, hij, h1, h2 => by
    obtain ⟨j', rfl⟩ : ∃ j', j = j' + 1 := ⟨j - 1, by omega⟩
    simp only [namesOk, Bool.and_eq_true] at h
    have := namesOk_spec l (k + 1) h.2 i j' x y (by omega) (by simpa using h1) (by simpa using h2)
    rw [show k + (i + 1) = k + 1 + i by omega]; exact this

end Go.AM
/-! Soundness, XIV d: blocks that the evaluator's heap doesn't know yet. -/
namespace Go.AM
variable {P : Program}

theorem psh_same (h : H) (o : Obj) : (h.psh o).get h.size = some o := by rw [H.get_psh, if_pos rfl]

mutual
theorem VR.restrict {m m' : Mp} (hs : Sub m m') : ∀ (v : V) (x0 x : Value), VR m v x0 → VR m' v x → VR m v x
  | .bool _, _, _, _, h => h
  | .int _ _, _, _, _, h => h
  | .str _, _, _, _, h => h
  | .ptr none, _, _, _, h => h
  | .ptr (some (i, o)), x0, x, h0, h => by
    obtain ⟨r, sh, e, a1, _⟩ := h0
    obtain ⟨r', sh', e', b1, b2⟩ := h
    have := hs _ _ a1
    rw [b1] at this; cases this
    exact ⟨r, sh, e, a1, b2⟩
  | .slice none _ _ _, _, _, _, h => h
  | .slice (some (i, o)) len cap opn, x0, x, h0, h => by
    obtain ⟨r, sh, e, ad, a1, _⟩ := h0
    obtain ⟨r', sh', e', ad', b1, b2⟩ := h
    have := hs _ _ a1
    rw [b1] at this; cases this
    exact ⟨r, sh, e, ad', a1, b2⟩
  | .map none, _, _, _, h => h
  | .map (some i), x0, x, h0, h => by
    obtain ⟨r, sh, e, a1, _⟩ := h0
    obtain ⟨r', sh', e', b1, b2⟩ := h
    have := hs _ _ a1
    rw [b1] at this; cases this
    exact ⟨r, sh, e, a1, b2⟩
  | .func f fs cs, x0, x, h0, h => by
    obtain ⟨xs, ys, a1, a2, _⟩ := h0
    obtain ⟨xs', ys', b1, b2, b3⟩ := h
    exact ⟨xs', ys', VRL.restrict hs _ _ _ a1 b1, VRL.restrict hs _ _ _ a2 b2, b3⟩
  | .yield l, x0, x, h0, h => by
    obtain ⟨r, sh, e, a1, _⟩ := h0
    obtain ⟨r', sh', e', b1, b2⟩ := h
    have := hs _ _ a1
    rw [b1] at this; cases this
    exact ⟨r, sh, e, a1, b2⟩
  | .nilFunc, _, _, _, h => h
  | .iface t v, x0, x, h0, h => by
    obtain ⟨y, a1, _⟩ := h0
    obtain ⟨y', b1, b2⟩ := h
    exact ⟨y', VR.restrict hs _ _ _ a1 b1, b2⟩
  | .nilIface, _, _, _, h => h
  | .agg cs, x0, x, h0, h => by
    obtain ⟨y, a1, _⟩ := h0
    obtain ⟨y', b1, b2⟩ := h
    exact ⟨y', VRL.restrict hs _ _ _ a1 b1, b2⟩
  | .tup cs, x0, x, h0, h => by
    obtain ⟨y, a1, _⟩ := h0
    obtain ⟨y', b1, b2⟩ := h
    exact ⟨y', VRL.restrict hs _ _ _ a1 b1, b2⟩
  | .junk, _, _, _, h => h
theorem VRL.restrict {m m' : Mp} (hs : Sub m m') : ∀ (v : List V) (x0 x : List Value), VRL m v x0 → VRL m' v x → VRL m v x
  | [], _, _, _, h => h
  | v :: vs, x0, x, h0, h => by
    obtain ⟨y, ys, a1, a2, _⟩ := h0
    obtain ⟨y', ys', b1, b2, b3⟩ := h
    exact ⟨y', ys', VR.restrict hs _ _ _ a1 b1, VRL.restrict hs _ _ _ a2 b2, b3⟩
end

theorem ER.restrict {m m' : Mp} (hs : Sub m m') : ∀ {es : List (V × V × Nat)} {y0 y : List MapEntry}, ER m es y0 → ER m' es y → ER m es y
  | [], _, _, _, h => h
  | e :: es, y0, y, h0, h => by
    obtain ⟨a, as, a1, a2, _, a3, _⟩ := h0
    obtain ⟨b, bs, b1, b2, b3, b4, b5⟩ := h
    exact ⟨b, bs, VR.restrict hs _ _ _ a1 b1, VR.restrict hs _ _ _ a2 b2, b3, ER.restrict hs a3 b4, b5⟩

theorem OR.restrict {m m' : Mp} (hs : Sub m m') {ob0 ob : Go.Obj} {sh e : Nat} : ∀ {o : Obj}, OR P m ob0 sh e o → OR P m' ob sh e o → OR P m ob sh e o
  | .cells .., h0, h => by
    obtain ⟨c0, f0, _, a2, _⟩ := h0
    obtain ⟨c, fz, b1, b2, b3⟩ := h
    exact ⟨c, fz, b1, VRL.restrict hs _ _ _ a2 b2, b3⟩
  | .map .., h0, h => by
    obtain ⟨e0, _, a2⟩ := h0
    obtain ⟨e1, b1, b2⟩ := h
    exact ⟨e1, b1, ER.restrict hs a2 b2⟩
  | .mapIter mm _ _ _, h0, h => by
    obtain ⟨_, r0, _, a3⟩ := h0
    obtain ⟨b0, r, b2, b3⟩ := h
    refine ⟨b0, r, b2, ?_⟩
    cases mm with
    | none => exact b3
    | some i =>
      obtain ⟨x, y, z, c1, _⟩ := a3
      obtain ⟨x', y', z', d1, d2⟩ := b3
      have := hs _ _ c1
      rw [d1] at this; cases this
      exact ⟨x, y, z, c1, d2⟩
  | .strIter .., _, h => h
  | .loop .., h0, h => by
    obtain ⟨L0, _, _, _, a4, _⟩ := h0
    obtain ⟨L, b1, b2, b3, b4, b5⟩ := h
    exact ⟨L, b1, b2, b3, VRL.restrict hs _ _ _ a4 b4, b5⟩
  | .dead, _, h => h

theorem HR.drop {m m' : Mp} {h h1 : H} {w0 w' : World} (hr : HR P m h w0) (hr' : HR P m' h1 w') (hs : Sub m m') (hget : ∀ i, i < h.size → h1.get i = h.get i) (hw : w0.heap.size ≤ w'.heap.size) : HR P m h w' where
  ok := hr.ok
  dom := hr.dom
  glob := hr.glob
  blk := fun i r sh e hm => Nat.lt_of_lt_of_le (hr.blk i r sh e hm) hw
  obj := fun i o hg hl => by
    obtain ⟨r, sh, e, ob0, a1, _, a3⟩ := hr.obj i o hg hl
    obtain ⟨r', sh', e', ob, b1, b2, b3⟩ := hr'.obj i o (by rw [hget i (H.get_lt hg)]; exact hg) hl
    have := hs _ _ a1
    rw [b1] at this; cases this
    exact ⟨r, sh, e, ob, a1, b2, a3.restrict hs b3⟩
  inj := hr.inj
theorem Ext.drop {m m' : Mp} {h h1 : H} {w w' : World} (x : Ext m h w m' h1 w') : Ext m h w m h w' where
  sub := Sub.refl m
  hsize := Nat.le_refl _
  wsize := x.wsize
  frame := x.frame
  own := fun _ _ h => h
  os := x.os
  output := x.output
  tape := x.tape
  rng := fun _ _ h => h

structure Pend (m0 : Nat) (m : Mp) (w : World) (r : Nat) (ob : Go.Obj) : Prop where
  new : m0 ≤ r
  here : w.heap[r]? = some ob
  out : ∀ i y, m i ≠ some (r, y)
theorem Pend.lt {m0 : Nat} {m : Mp} {w : World} {r : Nat} {ob : Go.Obj} (p : Pend m0 m w r ob) : r < w.heap.size := by
  rcases Nat.lt_or_ge r w.heap.size with h | h
  · exact h
  · have := p.here; simp [Array.getElem?_eq_none h] at this
theorem Pend.ext {m0 : Nat} {m m' : Mp} {h h' : H} {w w' : World} {r : Nat} {ob : Go.Obj} (p : Pend m0 m w r ob) (x : Ext m h w m' h' w') : Pend m0 m' w' r ob where
  new := p.new
  here := by
    rw [x.frame r p.lt ?_]
    · exact p.here
    · rintro ⟨i, o, sh, e, _, _, hm⟩
      exact p.out _ _ hm
  out := fun i y hm => by
    obtain ⟨j, z, hj⟩ := x.rng r p.lt ⟨i, y, hm⟩
    exact p.out _ _ hj

theorem HR.adopt {m : Mp} {h : H} {w : World} {o : Obj} {ob : Go.Obj} {r sh e k : Nat} (hr : HR P m h w) (p : Pend k m w r ob) (hor : OR P m ob sh e o) : HR P (upd m h.size (r, sh, e)) (h.psh o) w := by
  have hs := sub_upd (x := (r, sh, e)) hr.fresh
  have hup : ∀ i x, i ≠ h.size → upd m h.size (r, sh, e) i = some x → m i = some x := fun i x hi hx => by simpa [upd, hi] using hx
  constructor
  · trivial
  · intro i x hx
    by_cases hi : i = h.size
    · subst hi; exact Nat.lt_succ_self _
    · exact Nat.lt_succ_of_lt (hr.dom _ _ (hup i x hi hx))
  · intro g hg; exact hs _ _ (hr.glob g hg)
  · intro i r' sh' e' hx
    by_cases hi : i = h.size
    · subst hi; rw [upd_self] at hx; cases hx; exact p.lt
    · exact hr.blk _ _ _ _ (hup i _ hi hx)
  · intro i o' hg hl
    rw [H.get_psh] at hg
    by_cases hi : i = h.size
    · subst hi
      rw [if_pos rfl] at hg; cases hg
      exact ⟨_, _, _, ob, upd_self _ _ _, p.here, hor.mono hs⟩
    · rw [if_neg hi] at hg
      obtain ⟨r', sh', e', ob', h1, h2, h3⟩ := hr.obj i o' hg hl
      exact ⟨r', sh', e', ob', hs _ _ h1, h2, h3.mono hs⟩
  · intro i j o1 o2 r' sh1 e1 sh2 e2 hi hj hm1 hl2 g1 g2
    rw [H.get_psh] at hi hj
    by_cases hi' : i = h.size <;> by_cases hj' : j = h.size
    · omega
    · subst hi'; rw [upd_self] at g1; cases g1
      exact absurd (hup j _ hj' g2) (p.out _ _)
    · subst hj'; rw [upd_self] at g2; cases g2
      exact absurd (hup i _ hi' g1) (p.out _ _)
    · rw [if_neg hi'] at hi; rw [if_neg hj'] at hj
      exact hr.inj i j o1 o2 r' sh1 e1 sh2 e2 hi hj hm1 hl2 (hup i _ hi' g1) (hup j _ hj' g2)
theorem Ext.adopt {m0 m : Mp} {h0 h : H} {w0 w : World} {o : Obj} {ob : Go.Obj} {r sh e : Nat} (x : Ext m0 h0 w0 m h w) (hf : m h.size = none) (p : Pend w0.heap.size m w r ob) : Ext m0 h0 w0 (upd m h.size (r, sh, e)) (h.psh o) w where
  sub := x.sub.trans (sub_upd hf)
  hsize := Nat.le_succ_of_le x.hsize
  wsize := x.wsize
  frame := x.frame
  own := by
    rintro b hb ⟨i, o', sh', e', hg, hm, hi⟩
    by_cases his : i = h.size
    · subst his; rw [upd_self] at hi; cases hi
      exact absurd hb (Nat.not_lt.2 p.new)
    · rw [H.get_psh, if_neg his] at hg
      exact x.own b hb ⟨i, o', sh', e', hg, hm, by simpa [upd, his] using hi⟩
  os := x.os
  output := x.output
  tape := x.tape
  rng := by
    rintro b hb ⟨i, y, hi⟩
    by_cases his : i = h.size
    · subst his; rw [upd_self] at hi; cases hi
      exact absurd hb (Nat.not_lt.2 p.new)
    · exact x.rng b hb ⟨i, y, by simpa [upd, his] using hi⟩
theorem Pend.adopt {k : Nat} {m : Mp} {w : World} {r r' sh e i : Nat} {ob : Go.Obj} (p : Pend k m w r ob) (hne : r' ≠ r) : Pend k (upd m i (r', sh, e)) w r ob where
  new := p.new
  here := p.here
  out := fun j y hj => by
    unfold upd at hj; split at hj
    · cases hj; exact hne rfl
    · exact p.out _ _ hj
end Go.AM
/-! Soundness, XIV e: regions that draw their order, the abstract part. -/
namespace Go.AM
variable {P : Program} {ap : Ap}

/-! ### map literals -/
def mlG (g : Option Grp) (i : Nat) (o : O) : O := match g with
  | some g => mlO g i o
  | none => o
theorem mlG_same (g : Option Grp) (i : Nat) (o : O) : (mlG g i o).pre = o.pre ∧ (mlG g i o).dst = o.dst ∧ (mlG g i o).guard = o.guard ∧ (mlG g i o).names = o.names := by
  cases g with
  | none => exact ⟨rfl, rfl, rfl, rfl⟩
  | some g =>
    simp only [mlG, mlO]
    split
    · exact ⟨rfl, rfl, rfl, rfl⟩
    · split
      · exact ⟨rfl, rfl, rfl, rfl⟩
      · split
        · exact ⟨rfl, rfl, rfl, rfl⟩
        · split <;> exact ⟨rfl, rfl, rfl, rfl⟩
theorem mlAll_get (g : Grp) : ∀ (l : List O) (k i : Nat), (mlAll g l k)[i]? = (l[i]?).map (mlO g (k + i))
  | [], _, _ => by simp [mlAll]
  | o :: l, k, 0 => by simp [mlAll]
  | o :: l, k, i + 1 => by
    have := mlAll_get g l (k + 1) i
    simp only [mlAll, List.getElem?_cons_succ]
    rw [this, show k + 1 + i = k + (i + 1) by omega]
theorem mlAll_length (g : Grp) : ∀ (l : List O) (k : Nat), (mlAll g l k).length = l.length
  | [], _ => rfl
  | o :: l, k => by simp [mlAll, mlAll_length g l]

theorem allIdx_get {f : Nat → O → Bool} : ∀ (l : List O) (k i : Nat) (o : O), allIdx f l k = true → l[i]? = some o → f (k + i) o = true
  | [], _, _, _, _, h => by simp at h
  | o1 :: l, k, 0, o, ha, h => by
    simp at h; subst h
    simp only [allIdx, Bool.and_eq_true] at ha
    exact ha.1
  | o1 :: l, k, i + 1, o, ha, h => by
    simp only [allIdx, Bool.and_eq_true] at ha
    have := allIdx_get l (k + 1) i o ha.2 (by simpa using h)
    rwa [show k + 1 + i = k + (i + 1) by omega] at this
theorem mlHead_spec : ∀ (l : List O) (k i0 d : Nat), mlHead l k = some (i0, d) → ∃ i o, i0 = k + i ∧ l[i]? = some o ∧ o.op = .mkMap ∧ o.dst = some d ∧ o.guard = none
  | [], _, _, _, h => by simp [mlHead] at h
  | o :: l, k, i0, d, h => by
    unfold mlHead at h
    split at h
    · rename_i d' h1 h2 h3
      cases h
      exact ⟨0, o, by simp, rfl, h1, h2, h3⟩
    · obtain ⟨i, o', q1, q2⟩ := mlHead_spec l (k + 1) i0 d h
      exact ⟨i + 1, o', by omega, by simpa using q2⟩
theorem mlIns_mem {d : Nat} : ∀ (l : List O) (k : Nat) (x : Nat × V × V), x ∈ mlIns d l k → ∃ i o, x.1 = k + i ∧ l[i]? = some o ∧ mlInsOf d o.op = some x.2
  | [], _, _, h => by simp [mlIns] at h
  | o :: l, k, x, h => by
    unfold mlIns at h
    have rec_ : x ∈ mlIns d l (k + 1) → ∃ i o', x.1 = k + i ∧ (o :: l)[i]? = some o' ∧ mlInsOf d o'.op = some x.2 := fun h => by
      obtain ⟨i, o', q1, q2, q3⟩ := mlIns_mem l (k + 1) x h
      exact ⟨i + 1, o', by omega, by simpa using q2, q3⟩
    split at h
    · rename_i kk vv hq
      rcases List.mem_cons.1 h with rfl | h
      · exact ⟨0, o, by simp, rfl, hq⟩
      · exact rec_ h
    · exact rec_ h
theorem mlIns_of {d : Nat} : ∀ (l : List O) (k i : Nat) (o : O) (y : V × V), l[i]? = some o → mlInsOf d o.op = some y → (k + i, y) ∈ mlIns d l k
  | [], _, _, _, _, h, _ => by simp at h
  | o1 :: l, k, 0, o, y, h, hy => by
    simp at h; subst h
    unfold mlIns
    rw [hy]; simp
  | o1 :: l, k, i + 1, o, y, h, hy => by
    have := mlIns_of l (k + 1) i o y (by simpa using h) hy
    rw [show k + 1 + i = k + (i + 1) by omega] at this
    unfold mlIns
    split
    · exact List.mem_cons_of_mem _ this
    · exact this
theorem mlIns_idx {d : Nat} : ∀ (l : List O) (k : Nat), (mlIns d l k).Pairwise fun a b => a.1 < b.1
  | [], _ => List.Pairwise.nil
  | o :: l, k => by
    unfold mlIns
    split
    · refine List.Pairwise.cons (fun x hx => ?_) (mlIns_idx l (k + 1))
      obtain ⟨i, _, h, _⟩ := mlIns_mem l (k + 1) x hx
      simp only [h]; omega
    · exact mlIns_idx l (k + 1)

theorem mlCps_mem {d : Nat} : ∀ (l : List O) (k : Nat) (x : Nat × Nat), x ∈ mlCps d l k → ∃ i o, x.1 = k + i ∧ l[i]? = some o ∧ mlCpOf d o = some x.2
  | [], _, _, h => by simp [mlCps] at h
  | o :: l, k, x, h => by
    unfold mlCps at h
    have rec_ : x ∈ mlCps d l (k + 1) → ∃ i o', x.1 = k + i ∧ (o :: l)[i]? = some o' ∧ mlCpOf d o' = some x.2 := fun h => by
      obtain ⟨i, o', q1, q2, q3⟩ := mlCps_mem l (k + 1) x h
      exact ⟨i + 1, o', by omega, by simpa using q2, q3⟩
    split at h
    · rename_i t hq
      rcases List.mem_cons.1 h with rfl | h
      · exact ⟨0, o, by simp, rfl, hq⟩
      · exact rec_ h
    · exact rec_ h
theorem mlCps_of {d : Nat} : ∀ (l : List O) (k i : Nat) (o : O) (t : Nat), l[i]? = some o → mlCpOf d o = some t → (k + i, t) ∈ mlCps d l k
  | [], _, _, _, _, h, _ => by simp at h
  | o1 :: l, k, 0, o, t, h, hy => by
    simp at h; subst h
    unfold mlCps
    rw [hy]; simp
  | o1 :: l, k, i + 1, o, t, h, hy => by
    have := mlCps_of l (k + 1) i o t (by simpa using h) hy
    rw [show k + 1 + i = k + (i + 1) by omega] at this
    unfold mlCps
    split
    · exact List.mem_cons_of_mem _ this
    · exact this

structure GrpOK (g : Grp) (l : List O) : Prop where
  cps : g.cp = mlCps g.d l 0
  head : ∃ o, l[g.i0]? = some o ∧ o.op = .mkMap ∧ o.dst = some g.d ∧ o.guard = none
  ins : g.ins = mlIns g.d l 0
  some_ : g.ins ≠ []
  keys : distinctKeys g.ins = true
  one : ∀ (i : Nat) o, l[i]? = some o → mlOne g i o = true
theorem mlGrp_ok {l : List O} {g : Grp} (h : mlGrp l = some g) : GrpOK g l := by
  unfold mlGrp at h
  split at h
  · rename_i i0 d hh
    split at h
    · rename_i hc
      simp only [Bool.and_eq_true] at hc
      cases h
      obtain ⟨i, o, q1, q2, q3, q4, q5⟩ := mlHead_spec l 0 i0 d hh
      rw [Nat.zero_add] at q1; subst q1
      exact ⟨rfl, ⟨o, q2, q3, q4, q5⟩, rfl, fun he => by simp only at he; have := hc.1.1; rw [he] at this; simp at this, hc.1.2, fun i o ho => by have := allIdx_get l 0 i o hc.2 ho; rwa [Nat.zero_add] at this⟩
    · cases h
  · cases h

theorem mlInsOf_spec {d : Nat} {k : K} {y : V × V} (h : mlInsOf d k = some y) : k = .mapUpd .int (.t d) (.k y.1) (.k y.2) := by
  unfold mlInsOf at h
  split at h
  · rename_i t a b
    split at h
    · rename_i ht; subst ht; cases h; rfl
    · cases h
  · cases h
theorem mlCpOf_spec {d : Nat} {o : O} {t : Nat} (h : mlCpOf d o = some t) : o.op = .mv (.t d) ∧ o.guard = none ∧ o.dst = some t := by
  unfold mlCpOf at h
  split at h
  · rename_i t' h1 h2
    split at h
    · rename_i ht; subst ht; exact ⟨h1, h2, h⟩
    · cases h
  · cases h
theorem mlLookOf_spec {g : Grp} {o : O} {y : Nat × V × Bool × A} (h : mlLookOf g o = some y) : o.op = .lookup .int y.2.1 y.2.2.1 (.t y.1) y.2.2.2 ∧ (y.1 = g.d ∨ ∃ x ∈ g.cp, x.2 = y.1 ∧ o.pre.testBit x.1 = true) := by
  unfold mlLookOf at h
  split at h
  · rename_i z ok t a he
    split at h
    · rename_i ht
      cases h
      refine ⟨he, ?_⟩
      unfold mlHold at ht
      rw [Bool.or_eq_true, List.any_eq_true] at ht
      rcases ht with ht | ⟨x, h1, h2⟩
      · exact .inl (by simpa using ht)
      · rw [Bool.and_eq_true] at h2
        exact .inr ⟨x, h1, by simpa using h2.1, h2.2⟩
    · cases h
  · cases h
theorem mlTmp_no {g : Grp} {t : Nat} (h : mlTmp g t = false) : t ≠ g.d ∧ ∀ x ∈ g.cp, t ≠ x.2 := by
  unfold mlTmp at h
  rw [Bool.or_eq_false_iff, List.any_eq_false] at h
  refine ⟨by simpa using h.1, fun x hx he => h.2 x hx (by rw [he]; simp)⟩

/-! ### looking up in a list whose order is open -/
theorem findK_some {kt : EqT} {k : V} : ∀ {es : List (V × V × Nat)} {i : Nat} {r : Nat × V}, findK kt k es i = some (some r) → ∃ e ∈ es, sameK kt k e.1 = some true ∧ e.2.1 = r.2
  | [], _, _, h => by simp [findK] at h
  | e :: es, i, r, h => by
    unfold findK at h
    split at h
    · rename_i hs; cases h; exact ⟨e, List.mem_cons_self, hs, rfl⟩
    · obtain ⟨e', h1, h2⟩ := findK_some h
      exact ⟨e', List.mem_cons_of_mem _ h1, h2⟩
    · cases h
theorem findK_none {kt : EqT} {k : V} : ∀ {es : List (V × V × Nat)} {i : Nat}, findK kt k es i = some none → ∀ e ∈ es, sameK kt k e.1 = some false
  | [], _, _, e, he => by simp at he
  | e1 :: es, i, h, e, he => by
    unfold findK at h
    split at h
    · cases h
    · rename_i hs
      rcases List.mem_cons.1 he with rfl | he
      · exact hs
      · exact findK_none h e he
    · cases h
theorem findK_none_of {kt : EqT} {k : V} : ∀ {es : List (V × V × Nat)} {i : Nat}, (∀ e ∈ es, sameK kt k e.1 = some false) → findK kt k es i = some none
  | [], _, _ => rfl
  | e1 :: es, i, h => by
    unfold findK
    rw [h e1 List.mem_cons_self]
    exact findK_none_of fun e he => h e (List.mem_cons_of_mem _ he)
theorem findK_some_of {kt : EqT} {k : V} : ∀ {es : List (V × V × Nat)} {i : Nat} {e : V × V × Nat}, e ∈ es → sameK kt k e.1 = some true → (∀ e' ∈ es, e'.1 = e.1 ∧ e'.2.1 = e.2.1 ∨ sameK kt k e'.1 = some false) → ∃ j, findK kt k es i = some (some (j, e.2.1))
  | [], _, _, he, _, _ => by simp at he
  | e1 :: es, i, e, he, hs, ha => by
    unfold findK
    rcases ha e1 List.mem_cons_self with ⟨h1, h2⟩ | h
    · rw [h1, hs, ← h2]; exact ⟨_, rfl⟩
    · rw [h]
      simp only
      rcases List.mem_cons.1 he with rfl | he
      · rw [hs] at h; cases h
      · exact findK_some_of he hs fun e' he' => ha e' (List.mem_cons_of_mem _ he')

theorem distinct_spec : ∀ {l : List (Nat × V × V)}, distinctKeys l = true → ∀ x ∈ l, ∀ y ∈ l, x = y ∨ (sameK .int x.2.1 y.2.1 = some false)
  | [], _, x, hx, _, _ => by simp at hx
  | a :: l, h, x, hx, y, hy => by
    simp only [distinctKeys, Bool.and_eq_true, List.all_eq_true] at h
    have one : ∀ z ∈ l, sameK .int a.2.1 z.2.1 = some false ∧ sameK .int z.2.1 a.2.1 = some false := fun z hz => by
      obtain ⟨h1, h2⟩ := h.1 z hz
      refine ⟨?_, ?_⟩
      · split at h1
        · assumption
        · cases h1
      · split at h2
        · assumption
        · cases h2
    rcases List.mem_cons.1 hx with e1 | hx' <;> rcases List.mem_cons.1 hy with e2 | hy'
    · exact .inl (e1.trans e2.symm)
    · rw [e1]; exact .inr (one y hy').1
    · rw [e2]; exact .inr (one x hx').2
    · exact distinct_spec h.2 x hx' y hy'
theorem sameK_int {k a b : V} {r : Bool} (h1 : sameK .int k a = some true) (h2 : sameK .int a b = some r) : sameK .int k b = some r := by
  unfold sameK at h1 h2 ⊢
  split at h1
  · rename_i κ x κ' y
    split at h1
    · rename_i he; subst he
      cases b with
      | int κ2 z =>
        simp only at h2 ⊢
        split at h2
        · rename_i he2; subst he2
          simp only [Option.some.injEq, beq_iff_eq] at h1
          subst h1
          simpa using h2
        · cases h2
      | _ => simp at h2
    · cases h1
  all_goals simp_all
end Go.AM
