/- My own text of the evaluator and its soundness (abstract machine), laid for this claim. -/
import Derived.Test.YtnfeioifkhoikaaGreatDoorAmR
import Derived.Test.YtnfeioifkhoikaaGreatDoorAmR2
/-! Soundness, XIV b: regions that draw their order: the abstract part. -/
namespace Go.AM

abbrev XE := O × Ent

def tS (L : Nat → Bool) : List XE → Nat → List V → List V
  | [], _, T => T
  | (o, e) :: X, k, T => tS L X (k + 1) (if L k then putV T o.dst e.v else T)

def hS (L : Nat → Bool) : List XE → Nat → H → H
  | [], _, h => h
  | (_, e) :: X, k, h => hS L X (k + 1) (if L k && e.act then e.h' else h)

theorem length_putV (T : List V) (d : Option Nat) (v : V) : (putV T d v).length = T.length := by cases d <;> simp [putV]
theorem get_putV (T : List V) (d : Option Nat) (v : V) (t : Nat) : (putV T d v)[t]? = if d = some t then (if t < T.length then some v else none) else T[t]? := by
  cases d with
  | none => simp [putV]
  | some d =>
    simp only [putV, List.getElem?_set, Option.some.injEq]
    by_cases h : d = t
    · subst h; simp
    · simp [h]

theorem length_tS (L : Nat → Bool) : ∀ (X : List XE) (k : Nat) (T : List V), (tS L X k T).length = T.length
  | [], _, _ => rfl
  | (o, e) :: X, k, T => by
    simp only [tS]
    rw [length_tS L X]
    split
    · exact length_putV _ _ _
    · rfl

theorem tS_congr {L M : Nat → Bool} {t : Nat} : ∀ (X : List XE) (k : Nat) (T U : List V), T.length = U.length → T[t]? = U[t]? →
    (∀ j x, X[j]? = some x → x.1.dst = some t → L (k + j) = M (k + j)) → (tS L X k T)[t]? = (tS M X k U)[t]?
  | [], _, T, U, _, h, _ => h
  | (o, e) :: X, k, T, U, hl, h, hd => by
    simp only [tS]
    refine tS_congr X (k + 1) _ _ ?_ ?_ fun j x hx hxt => ?_
    · split <;> split <;> simp [length_putV, hl]
    · by_cases hdst : o.dst = some t
      · have := hd 0 (o, e) rfl hdst
        simp only [Nat.add_zero] at this
        rw [this]
        split
        · rw [get_putV, get_putV, hl, h]
        · exact h
      · split <;> split <;> simp [get_putV, hdst, h]
    · have := hd (j + 1) x (by simpa using hx) hxt
      rw [Nat.add_assoc, Nat.add_comm 1 j]; exact this

/-- Nobody who is in writes it. -/
theorem tS_none {L : Nat → Bool} {t : Nat} (X : List XE) (k : Nat) (T : List V) (h : ∀ j x, X[j]? = some x → x.1.dst = some t → L (k + j) = false) : (tS L X k T)[t]? = T[t]? := by
  have h0 : ∀ (X : List XE) (k : Nat) (T : List V), tS (fun _ => false) X k T = T := by
    intro X
    induction X with
    | nil => intros; rfl
    | cons x X ih => intro k T; obtain ⟨o, e⟩ := x; simp [tS, ih]
  rw [tS_congr (M := fun _ => false) X k T T rfl rfl h, h0]

theorem tS_add {L M : Nat → Bool} : ∀ (X : List XE) (k i : Nat) (T : List V) (x : XE), X[i]? = some x → L (k + i) = false → M (k + i) = true → (∀ j, j ≠ i → M (k + j) = L (k + j)) →
    (∀ j y t, i < j → X[j]? = some y → y.1.dst = some t → x.1.dst = some t → L (k + j) = false) → tS M X k T = putV (tS L X k T) x.1.dst x.2.v
  | [], _, _, _, _, h, _, _, _, _ => by simp at h
  | (o, e) :: X, k, 0, T, x, h, h1, h2, h3, h4 => by
    simp at h; subst h
    simp only [Nat.add_zero] at h1 h2
    simp only [tS, h1, h2, if_true, Bool.false_eq_true, if_false]
    refine List.ext_getElem? fun t => ?_
    rw [get_putV, length_tS]
    have hM : ∀ j x, X[j]? = some x → x.1.dst = some t → M (k + 1 + j) = L (k + 1 + j) := fun j x _ _ => by
      have := h3 (j + 1) (by omega)
      rw [Nat.add_assoc, Nat.add_comm 1 j]; exact this
    by_cases hd : o.dst = some t
    · rw [if_pos hd, tS_none]
      · rw [get_putV, if_pos hd]
      · intro j y hy hyt
        rw [hM j y hy hyt]
        have := h4 (j + 1) y t (by omega) (by simpa using hy) hyt hd
        rw [Nat.add_assoc, Nat.add_comm 1 j]; exact this
    · rw [if_neg hd]
      exact tS_congr X (k + 1) _ _ (length_putV _ _ _) (by rw [get_putV, if_neg hd]) hM
  | (o, e) :: X, k, i + 1, T, x, h, h1, h2, h3, h4 => by
    have h30 := h3 0 (by omega)
    simp only [Nat.add_zero] at h30
    simp only [tS, h30]
    refine tS_add X (k + 1) i _ x (by simpa using h) ?_ ?_ ?_ ?_
    · rw [Nat.add_assoc, Nat.add_comm 1 i]; exact h1
    · rw [Nat.add_assoc, Nat.add_comm 1 i]; exact h2
    · intro j hj
      have := h3 (j + 1) (by omega)
      rw [Nat.add_assoc, Nat.add_comm 1 j]; exact this
    · intro j y t hj hy hyt hxt
      have := h4 (j + 1) y t (by omega) (by simpa using hy) hyt hxt
      rw [Nat.add_assoc, Nat.add_comm 1 j]; exact this

theorem hS_congr {L M : Nat → Bool} : ∀ (X : List XE) (k : Nat) (h : H), (∀ j x, X[j]? = some x → x.2.act = true → L (k + j) = M (k + j)) → hS L X k h = hS M X k h
  | [], _, _, _ => rfl
  | (o, e) :: X, k, h, hd => by
    simp only [hS]
    have h0 : (L k && e.act) = (M k && e.act) := by
      cases ha : e.act with
      | false => simp
      | true => have := hd 0 (o, e) rfl ha; simp only [Nat.add_zero] at this; rw [this]
    rw [h0]
    exact hS_congr X (k + 1) _ fun j x hx hxa => by
      have := hd (j + 1) x (by simpa using hx) hxa
      rw [Nat.add_assoc, Nat.add_comm 1 j]; exact this

theorem hS_none {L : Nat → Bool} (X : List XE) (k : Nat) (h : H) (hd : ∀ j x, X[j]? = some x → x.2.act = true → L (k + j) = false) : hS L X k h = h := by
  have h0 : ∀ (X : List XE) (k : Nat) (h : H), hS (fun _ => false) X k h = h := by
    intro X
    induction X with
    | nil => intros; rfl
    | cons x X ih => intro k T; obtain ⟨o, e⟩ := x; simp [hS, ih]
  rw [hS_congr (M := fun _ => false) X k h hd, h0]

theorem hS_add {M : Nat → Bool} : ∀ (X : List XE) (k i : Nat) (h : H) (x : XE), X[i]? = some x → x.2.act = true → M (k + i) = true → (∀ j y, i < j → X[j]? = some y → y.2.act = true → M (k + j) = false) → hS M X k h = x.2.h'
  | [], _, _, _, _, h, _, _, _ => by simp at h
  | (o, e) :: X, k, 0, h, x, hx, h1, h2, h3 => by
    simp at hx; subst hx
    simp only [Nat.add_zero] at h2
    have h1' : e.act = true := h1
    simp only [hS, h1', h2, Bool.and_self, if_true]
    exact hS_none X _ _ fun j y hy hya => by
      have := h3 (j + 1) y (by omega) (by simpa using hy) hya
      rw [Nat.add_assoc, Nat.add_comm 1 j]; exact this
  | (o, e) :: X, k, i + 1, h, x, hx, h1, h2, h3 => by
    simp only [hS]
    refine hS_add X (k + 1) i _ x (by simpa using hx) h1 (by rw [Nat.add_assoc, Nat.add_comm 1 i]; exact h2) fun j y hj hy hya => ?_
    have := h3 (j + 1) y (by omega) (by simpa using hy) hya
    rw [Nat.add_assoc, Nat.add_comm 1 j]; exact this

/-! ### what the evaluation in the order of the text says -/
def EntOK (P : Program) (ap : Ap) (o : O) (e : Ent) : Prop :=
  if wantV e.T o.guard then
    match evK P e.T e.h o.op with
    | some (.pur v) => e.v = v ∧ e.h' = e.h ∧ e.act = false ∧ e.rd = false
    | some (.rd v) => e.v = v ∧ e.h' = e.h ∧ e.act = false ∧ e.rd = true
    | some (.eff v h') => e.v = v ∧ e.h' = h' ∧ e.act = true
    | some (.call f args) => ap f args e.h = some (e.v, e.h') ∧ e.act = true
    | none => False
  else e.v = undefV ∧ e.h' = e.h ∧ e.act = false ∧ e.rd = false

def DrL (P : Program) (ap : Ap) : List XE → List V → H → List V → H → Prop
  | [], T, h, T', h' => T = T' ∧ h = h'
  | (o, e) :: X, T, h, T', h' => e.T = T ∧ e.h = h ∧ EntOK P ap o e ∧ DrL P ap X (putV T o.dst e.v) e.h' T' h'

theorem evDr_ok {P : Program} {ap : Ap} : ∀ (l : List O) (T : List V) (h : H) (es : List Ent) (T' : List V) (h' : H), evDr P ap l T h = some (es, T', h') → es.length = l.length ∧ DrL P ap (l.zip es) T h T' h'
  | [], T, h, es, T', h', he => by simp only [evDr] at he; cases he; exact ⟨rfl, rfl, rfl⟩
  | o :: l, T, h, es, T', h', he => by
    have fin : ∀ (e : Ent), e.T = T → e.h = h → EntOK P ap o e → ((evDr P ap l (putV T o.dst e.v) e.h').map fun (es, x) => (e :: es, x)) = some (es, T', h') → es.length = (o :: l).length ∧ DrL P ap ((o :: l).zip es) T h T' h' := by
      intro e e1 e2 e3 e4
      cases h5 : evDr P ap l (putV T o.dst e.v) e.h' with
      | none => simp [h5] at e4
      | some s =>
        obtain ⟨es', T1, h1⟩ := s
        simp [h5] at e4
        obtain ⟨rfl, rfl, rfl⟩ := e4
        obtain ⟨k1, k2⟩ := evDr_ok l _ _ _ _ _ h5
        exact ⟨by simp [k1], e1, e2, e3, k2⟩
    simp only [evDr] at he
    split at he
    · rename_i hw
      split at he
      · rename_i v hk; exact fin ⟨T, h, h, v, false, false⟩ rfl rfl (by simp [EntOK, hw, hk]) he
      · rename_i v hk; exact fin ⟨T, h, h, v, false, true⟩ rfl rfl (by simp [EntOK, hw, hk]) he
      · rename_i v h1 hk; exact fin ⟨T, h, h1, v, true, false⟩ rfl rfl (by simp [EntOK, hw, hk]) he
      · rename_i f args hk
        split at he
        · rename_i v h1 hap; exact fin ⟨T, h, h1, v, true, false⟩ rfl rfl (by simp [EntOK, hw, hk, hap]) he
        · cases he
      · cases he
    · rename_i hw; exact fin ⟨T, h, h, undefV, false, false⟩ rfl rfl (by simp [EntOK, hw]) he

theorem EntOK.same {P : Program} {ap : Ap} {o : O} {e : Ent} (h : EntOK P ap o e) (ha : e.act = false) : e.h' = e.h := by
  unfold EntOK at h
  split at h
  · split at h
    · exact h.2.1
    · exact h.2.1
    · rw [ha] at h; exact absurd h.2.2 (by simp)
    · rw [ha] at h; exact absurd h.2 (by simp)
    · exact h.elim
  · exact h.2.1

theorem DrL.at {P : Program} {ap : Ap} : ∀ (X : List XE) (k : Nat) (T : List V) (h : H) (T' : List V) (h' : H), DrL P ap X T h T' h' → ∀ i x, X[i]? = some x →
    x.2.T = tS (fun j => decide (j < k + i)) X k T ∧ x.2.h = hS (fun j => decide (j < k + i)) X k h ∧ EntOK P ap x.1 x.2
  | [], _, _, _, _, _, _, i, x, hx => by simp at hx
  | (o, e) :: X, k, T, h, T', h', hd, 0, x, hx => by
    simp at hx; subst hx
    obtain ⟨h1, h2, h3, h4⟩ := hd
    refine ⟨?_, ?_, h3⟩
    · refine h1.trans (List.ext_getElem? fun t => ?_)
      rw [tS_none]
      intro j x _ _; simp
    · refine h2.trans ?_
      rw [hS_none]
      intro j x _ _; simp
  | (o, e) :: X, k, T, h, T', h', hd, i + 1, x, hx => by
    obtain ⟨h1, h2, h3, h4⟩ := hd
    obtain ⟨k1, k2, k3⟩ := DrL.at X (k + 1) _ _ _ _ h4 i x (by simpa using hx)
    have e1 : k + 1 + i = k + (i + 1) := by omega
    rw [e1] at k1 k2
    refine ⟨?_, ?_, k3⟩
    · simp only [tS]
      rw [if_pos (by simp)]
      exact k1
    · simp only [hS]
      rw [k2]
      congr 1
      cases ha : e.act with
      | true => simp
      | false => rw [h3.same ha, h2]; simp

theorem DrL.last {P : Program} {ap : Ap} : ∀ (X : List XE) (k : Nat) (T : List V) (h : H) (T' : List V) (h' : H) (L : Nat → Bool), DrL P ap X T h T' h' → (∀ i, i < X.length → L (k + i) = true) → tS L X k T = T' ∧ hS L X k h = h'
  | [], _, _, _, _, _, _, hd, _ => hd
  | (o, e) :: X, k, T, h, T', h', L, hd, hL => by
    obtain ⟨h1, h2, h3, h4⟩ := hd
    have h0 := hL 0 (by simp)
    simp only [Nat.add_zero] at h0
    have := DrL.last X (k + 1) _ _ _ _ L h4 fun i hi => by
      have := hL (i + 1) (by simpa using hi)
      rw [Nat.add_assoc, Nat.add_comm 1 i]; exact this
    simp only [tS, hS, h0, if_true, Bool.true_and]
    refine ⟨this.1, ?_⟩
    have hh : (if e.act = true then e.h' else h) = e.h' := by
      cases ha : e.act with
      | true => rfl
      | false => rw [h3.same ha, h2]; rfl
    rw [hh]; exact this.2

/-! ### acting operations -/
theorem actsOf_mem : ∀ (l : List O) (es : List Ent) (k : Nat) (a : Nat × Nat × H), a ∈ actsOf l es k ↔ ∃ i x, (l.zip es)[i]? = some x ∧ x.2.act = true ∧ a = (k + i, x.1.pre, x.2.h')
  | [], es, k, a => by simp [actsOf]
  | o :: l, [], k, a => by simp [actsOf]
  | o :: l, e :: es, k, a => by
    have ih := actsOf_mem l es (k + 1) a
    have key : (∃ i x, ((o :: l).zip (e :: es))[i]? = some x ∧ x.2.act = true ∧ a = (k + i, x.1.pre, x.2.h')) ↔ (e.act = true ∧ a = (k, o.pre, e.h')) ∨ ∃ i x, (l.zip es)[i]? = some x ∧ x.2.act = true ∧ a = (k + 1 + i, x.1.pre, x.2.h') := by
      constructor
      · rintro ⟨i, x, h1, h2, h3⟩
        cases i with
        | zero => simp at h1; subst h1; exact .inl ⟨h2, h3⟩
        | succ i => exact .inr ⟨i, x, by simpa using h1, h2, by rw [h3]; congr 1; omega⟩
      · rintro (⟨h1, h2⟩ | ⟨i, x, h1, h2, h3⟩)
        · exact ⟨0, (o, e), rfl, h1, h2⟩
        · exact ⟨i + 1, x, by simpa using h1, h2, by rw [h3]; congr 1; omega⟩
    rw [key]
    simp only [actsOf]
    cases ha : e.act with
    | true => simp [ih]
    | false => simp [ih]

theorem chain_spec : ∀ (l : List O) (es : List Ent) (k : Nat), chain (actsOf l es k) = true → ∀ (i j : Nat) (x y : XE), i < j → (l.zip es)[i]? = some x → (l.zip es)[j]? = some y → x.2.act = true → y.2.act = true → y.1.pre.testBit (k + i) = true
  | [], es, k, _, i, j, x, y, _, h1, _, _, _ => by simp at h1
  | o :: l, [], k, _, i, j, x, y, _, h1, _, _, _ => by simp at h1
  | o :: l, e :: es, k, hc, 0, j, x, y, hij, h1, h2, h3, h4 => by
    simp at h1; subst h1
    simp only at h3
    simp only [actsOf, h3, if_true, chain, Bool.and_eq_true, List.all_eq_true] at hc
    obtain ⟨j', rfl⟩ : ∃ j', j = j' + 1 := ⟨j - 1, by omega⟩
    exact hc.1 _ ((actsOf_mem l es (k + 1) _).2 ⟨j', y, by simpa using h2, h4, rfl⟩)
  | o :: l, e :: es, k, hc, i + 1, j, x, y, hij, h1, h2, h3, h4 => by
    obtain ⟨j', rfl⟩ : ∃ j', j = j' + 1 := ⟨j - 1, by omega⟩
    have hc' : chain (actsOf l es (k + 1)) = true := by
      simp only [actsOf] at hc
      split at hc
      · simp only [chain, Bool.and_eq_true] at hc; exact hc.2
      · exact hc
    have := chain_spec l es (k + 1) hc' i j' x y (by omega) (by simpa using h1) (by simpa using h2) h3 h4
    rw [show k + (i + 1) = k + 1 + i by omega]; exact this

theorem readsOk_spec {P : Program} {o : O} {e : Ent} {i : Nat} {L : Nat → Bool} : ∀ (l : List O) (es : List Ent) (k : Nat) (h : H), readsOk P o e i h (actsOf l es k) = true →
    (∀ j x, (l.zip es)[j]? = some x → x.2.act = true → L (k + j) = true → x.1.pre.testBit i = false) → (∀ j x, (l.zip es)[j]? = some x → x.2.act = true → L (k + j) = false → o.pre.testBit (k + j) = false) →
    (∀ j j' x y, j < j' → (l.zip es)[j]? = some x → (l.zip es)[j']? = some y → x.2.act = true → y.2.act = true → L (k + j') = true → L (k + j) = true) → sameAt P o e (hS L (l.zip es) k h) = true
  | [], es, k, h, hr, _, _, _ => by simpa [actsOf, readsOk, hS] using hr
  | o0 :: l, [], k, h, hr, _, _, _ => by simpa [actsOf, readsOk, hS] using hr
  | o0 :: l, e0 :: es, k, h, hr, h1, h2, h3 => by
    have s1 : ∀ j x, (l.zip es)[j]? = some x → x.2.act = true → L (k + 1 + j) = true → x.1.pre.testBit i = false := fun j x hx ha hL => h1 (j + 1) x (by simpa using hx) ha (by rw [← hL]; congr 1; omega)
    have s2 : ∀ j x, (l.zip es)[j]? = some x → x.2.act = true → L (k + 1 + j) = false → o.pre.testBit (k + 1 + j) = false := fun j x hx ha hL => by
      have := h2 (j + 1) x (by simpa using hx) ha (by rw [← hL]; congr 1; omega)
      rw [show k + 1 + j = k + (j + 1) by omega]; exact this
    have s3 : ∀ j j' x y, j < j' → (l.zip es)[j]? = some x → (l.zip es)[j']? = some y → x.2.act = true → y.2.act = true → L (k + 1 + j') = true → L (k + 1 + j) = true := fun j j' x y hj hx hy ha hb hL => by
      have := h3 (j + 1) (j' + 1) x y (by omega) (by simpa using hx) (by simpa using hy) ha hb (by rw [← hL]; congr 1; omega)
      rw [show k + 1 + j = k + (j + 1) by omega]; exact this
    simp only [List.zip_cons_cons, hS]
    cases ha : e0.act with
    | false =>
      simp only [actsOf, ha, Bool.false_eq_true, if_false] at hr
      rw [Bool.and_false, if_neg (by simp)]
      exact readsOk_spec l es (k + 1) h hr s1 s2 s3
    | true =>
      simp only [actsOf, ha, if_true, readsOk, Bool.and_eq_true, Bool.or_eq_true] at hr
      obtain ⟨hr1, hr2⟩ := hr
      cases hL : L k with
      | true =>
        simp only [Bool.and_self, if_true]
        have := h1 0 (o0, e0) rfl ha (by simpa using hL)
        rw [this] at hr2
        exact readsOk_spec l es (k + 1) _ (hr2.resolve_left (by simp)) s1 s2 s3
      | false =>
        simp only [Bool.false_and, Bool.false_eq_true, if_false]
        have hno : ∀ j x, (l.zip es)[j]? = some x → x.2.act = true → L (k + 1 + j) = false := fun j x hx hxa => by
          cases hLj : L (k + 1 + j) with
          | false => rfl
          | true =>
            have := h3 0 (j + 1) (o0, e0) x (by omega) rfl (by simpa using hx) ha hxa (by rw [← hLj]; congr 1; omega)
            simp [hL] at this
        rw [hS_none _ _ _ hno]
        refine hr1.resolve_left ?_
        rintro (hp | hp)
        · have := h2 0 (o0, e0) rfl ha (by simpa using hL)
          simp only [Nat.add_zero] at this
          rw [this] at hp; cases hp
        · rw [List.any_eq_true] at hp
          obtain ⟨a, hmem, hbit⟩ := hp
          obtain ⟨j, x, hx, hxa, rfl⟩ := (actsOf_mem l es (k + 1) a).1 hmem
          have := s2 j x hx hxa (hno j x hx hxa)
          simp only at hbit
          rw [this] at hbit; cases hbit

theorem rdsOk_spec {P : Program} {acts : List (Nat × Nat × H)} {h0 : H} : ∀ (l : List O) (es : List Ent) (k : Nat), rdsOk P acts h0 l es k = true → ∀ i x, (l.zip es)[i]? = some x → x.2.rd = true → readsOk P x.1 x.2 (k + i) h0 acts = true
  | [], _, _, _, i, x, hx, _ => by simp at hx
  | _ :: _, [], _, _, i, x, hx, _ => by simp at hx
  | o :: l, e :: es, k, h, 0, x, hx, hrd => by
    simp at hx; subst hx
    simp only [rdsOk, Bool.and_eq_true, Bool.or_eq_true] at h
    exact h.1.resolve_left (by simp only at hrd; simp [hrd])
  | o :: l, e :: es, k, h, i + 1, x, hx, hrd => by
    simp only [rdsOk, Bool.and_eq_true] at h
    have := rdsOk_spec l es (k + 1) h.2 i x (by simpa using hx) hrd
    rw [show k + (i + 1) = k + 1 + i by omega]; exact this
end Go.AM
