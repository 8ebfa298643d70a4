/- My own texts, laid for this claim. -/
import Derived.Test.YtpfoofcallfjjaaGreatDoorAmPToAmR6
set_option linter.unusedSimpArgs false
set_option linter.unusedVariables false
/-! Soundness, XIV f: regions that draw their order, what holds between operations. -/
namespace Go.AM
variable {P : Program} {ap : Ap}

/-! ### temporaries: what is done but not taken over yet is dim -/
def tJ (L A : Nat → Bool) : List XE → Nat → List V → List V
  | [], _, T => T
  | (o, e) :: X, k, T => tJ L A X (k + 1) (if A k then putV T o.dst e.v else if L k then putV T o.dst .junk else T)

theorem length_tJ (L A : Nat → Bool) : ∀ (X : List XE) (k : Nat) (T : List V), (tJ L A X k T).length = T.length
  | [], _, _ => rfl
  | (o, e) :: X, k, T => by
    simp only [tJ]
    rw [length_tJ L A X]
    split
    · exact length_putV _ _ _
    · split
      · exact length_putV _ _ _
      · rfl

theorem tJ_congr {L A L' A' : Nat → Bool} {t : Nat} : ∀ (X : List XE) (k : Nat) (T U : List V), T.length = U.length → T[t]? = U[t]? →
    (∀ j x, X[j]? = some x → x.1.dst = some t → A (k + j) = A' (k + j) ∧ (A (k + j) = false → L (k + j) = L' (k + j))) → (tJ L A X k T)[t]? = (tJ L' A' X k U)[t]?
  | [], _, T, U, _, h, _ => h
  | (o, e) :: X, k, T, U, hl, h, hd => by
    simp only [tJ]
    refine tJ_congr X (k + 1) _ _ ?_ ?_ fun j x hx hxt => ?_
    · split <;> split <;> (try split) <;> (try split) <;> simp [length_putV, hl]
    · by_cases hdst : o.dst = some t
      · have := hd 0 (o, e) rfl hdst
        simp only [Nat.add_zero] at this
        obtain ⟨h1, h2⟩ := this
        rw [← h1]
        split
        · rw [get_putV, get_putV, hl, h]
        · rename_i hA
          rw [h2 (by simpa using hA)]
          split
          · rw [get_putV, get_putV, hl, h]
          · exact h
      · split <;> split <;> (try split) <;> (try split) <;> simp [get_putV, hdst, h]
    · have := hd (j + 1) x (by simpa using hx) hxt
      rw [Nat.add_assoc, Nat.add_comm 1 j]; exact this

theorem tJ_none {L A : Nat → Bool} {t : Nat} (X : List XE) (k : Nat) (T : List V) (h : ∀ j x, X[j]? = some x → x.1.dst = some t → A (k + j) = false ∧ L (k + j) = false) : (tJ L A X k T)[t]? = T[t]? := by
  have h0 : ∀ (X : List XE) (k : Nat) (T : List V), tJ (fun _ => false) (fun _ => false) X k T = T := by
    intro X
    induction X with
    | nil => intros; rfl
    | cons x X ih => intro k T; obtain ⟨o, e⟩ := x; simp [tJ, ih]
  rw [tJ_congr (L' := fun _ => false) (A' := fun _ => false) X k T T rfl rfl (fun j x hx hxt => ⟨(h j x hx hxt).1, fun _ => (h j x hx hxt).2⟩), h0]

theorem tS_eq_tJ (L : Nat → Bool) : ∀ (X : List XE) (k : Nat) (T : List V), tS L X k T = tJ L L X k T
  | [], _, _ => rfl
  | (o, e) :: X, k, T => by
    simp only [tS, tJ]
    rw [tS_eq_tJ L X]
    congr 1
    cases L k <;> rfl

/-- One place more is laid. -/
theorem tJ_set {L A L' A' : Nat → Bool} : ∀ (X : List XE) (k i : Nat) (T : List V) (x : XE) (nv : V), X[i]? = some x → (A' (k + i) = true ∧ nv = x.2.v ∨ A' (k + i) = false ∧ L' (k + i) = true ∧ nv = .junk) →
    (∀ j, j ≠ i → A' (k + j) = A (k + j) ∧ L' (k + j) = L (k + j)) → (∀ j y t, i < j → X[j]? = some y → y.1.dst = some t → x.1.dst = some t → A (k + j) = false ∧ L (k + j) = false) →
    tJ L' A' X k T = putV (tJ L A X k T) x.1.dst nv
  | [], _, _, _, _, _, h, _, _, _ => by simp at h
  | (o, e) :: X, k, 0, T, x, nv, h, h1, h3, h4 => by
    simp at h; subst h
    simp only [Nat.add_zero] at h1
    have hT : (if A' k = true then putV T o.dst e.v else if L' k = true then putV T o.dst .junk else T) = putV T o.dst nv := by
      rcases h1 with ⟨a, b⟩ | ⟨a, b, c⟩
      · rw [if_pos a, b]
      · rw [if_neg (by rw [a]; simp), if_pos b, c]
    simp only [tJ, hT]
    refine List.ext_getElem? fun t => ?_
    rw [get_putV, length_tJ]
    have hL : ∀ j x, X[j]? = some x → x.1.dst = some t → A' (k + 1 + j) = A (k + 1 + j) ∧ L' (k + 1 + j) = L (k + 1 + j) := fun j x _ _ => by
      have := h3 (j + 1) (by omega)
      rw [Nat.add_assoc, Nat.add_comm 1 j]; exact this
    have hlen : (putV T o.dst nv).length = (if A k = true then putV T o.dst e.v else if L k = true then putV T o.dst .junk else T).length := by
      split <;> (try split) <;> simp [length_putV]
    by_cases hd : o.dst = some t
    · rw [if_pos hd, tJ_none]
      · rw [get_putV, if_pos hd]
        have : (if A k = true then putV T o.dst e.v else if L k = true then putV T o.dst .junk else T).length = T.length := by rw [← hlen, length_putV]
        rw [this]
      · intro j y hy hyt
        obtain ⟨q1, q2⟩ := hL j y hy hyt
        rw [q1, q2]
        have := h4 (j + 1) y t (by omega) (by simpa using hy) hyt hd
        rw [Nat.add_assoc, Nat.add_comm 1 j]; exact this
    · rw [if_neg hd]
      refine tJ_congr X (k + 1) _ _ hlen ?_ fun j x hx hxt => ⟨(hL j x hx hxt).1, fun _ => (hL j x hx hxt).2⟩
      rw [get_putV, if_neg hd]
      split <;> (try split) <;> simp [get_putV, hd]
  | (o, e) :: X, k, i + 1, T, x, nv, h, h1, h3, h4 => by
    obtain ⟨h30, h31⟩ := h3 0 (by omega)
    simp only [Nat.add_zero] at h30 h31
    simp only [tJ, h30, h31]
    refine tJ_set X (k + 1) i _ x nv (by simpa using h) ?_ ?_ ?_
    · rw [Nat.add_assoc, Nat.add_comm 1 i]; exact h1
    · intro j hj
      have := h3 (j + 1) (by omega)
      rw [Nat.add_assoc, Nat.add_comm 1 j]; exact this
    · intro j y t hj hy hyt hxt
      have := h4 (j + 1) y t (by omega) (by simpa using hy) hyt hxt
      rw [Nat.add_assoc, Nat.add_comm 1 j]; exact this

/-! ### what is made out of values alone -/
def flv : K → List V → Option ((Nat → V) × Obj)
  | .alloc ty z, _ => some (fun i => .ptr (some (i, 0)), .cells z ty false false none)
  | .box ty a, T => (a.ev T).map fun v => (fun i => .ptr (some (i, 0)), .cells v.cells ty false false none)
  | .bslice ty len z ps, T => (fillV T z ps).map fun cs => (fun i => .slice (some (i, 0)) len len false, .cells cs ty false false none)
  | _, _ => none
theorem evK_fl {T : List V} {h : H} {k : K} (hk : k.fl = true) : evK P T h k = (flv k T).map fun x => .eff (x.1 h.size) (h.psh x.2) := by
  cases k with
  | alloc ty z => rfl
  | box ty a =>
    simp only [evK, flv, H.push]
    cases a.ev T <;> rfl
  | bslice ty len z ps =>
    simp only [evK, flv, H.push]
    cases fillV T z ps <;> rfl
  | _ => simp [K.fl] at hk
theorem flv_congr {T U : List V} {k : K} (h : Agree T U k.tms) : flv k T = flv k U := by
  cases k with
  | box ty a => simp only [flv]; rw [A.ev_congr (fun t ht => h t (by simpa [K.tms, K.as] using ht))]
  | bslice ty len z ps =>
    simp only [flv]
    rw [fillV_congr z fun p hp => A.ev_congr fun t ht => h t (by simp only [K.tms, K.as, List.mem_flatMap, List.mem_map]; exact ⟨p.2.2, ⟨p, hp, rfl⟩, ht⟩)]
  | _ => rfl
theorem flv_VR {k : K} {T : List V} {f : Nat → V} {ob : Obj} (h : flv k T = some (f, ob)) {m m' : Mp} {i j : Nat} {y : Nat × Nat × Nat} {x : Value} (hv : VR m (f i) x) (h1 : m i = some y) (h2 : m' j = some y) : VR m' (f j) x := by
  have ptr : f = (fun i => .ptr (some (i, 0))) → VR m' (f j) x := fun e => by
    subst e
    obtain ⟨r, sh, ee, a1, a2⟩ := hv
    rw [h1] at a1; cases a1
    exact ⟨_, _, _, h2, a2⟩
  cases k with
  | alloc ty z => cases h; exact ptr rfl
  | box ty a =>
    simp only [flv, Option.map_eq_some_iff, Prod.mk.injEq] at h
    obtain ⟨v, _, rfl, _⟩ := h; exact ptr rfl
  | bslice ty len z ps =>
    simp only [flv, Option.map_eq_some_iff, Prod.mk.injEq] at h
    obtain ⟨v, _, rfl, _⟩ := h
    obtain ⟨r, sh, ee, ad, a1, a2, a3⟩ := hv
    rw [h1] at a1; cases a1
    exact ⟨_, _, _, ad, h2, a2, a3⟩
  | _ => simp [flv] at h
theorem flv_dim {k : K} {T : List V} {f : Nat → V} {ob : Obj} (h : flv k T = some (f, ob)) {m : Mp} {i : Nat} {x : Value} (hv : VR m (f i) x) (m' : Mp) : VR m' .junk x := by
  have ptr : f = (fun i => .ptr (some (i, 0))) → VR m' .junk x := fun e => by
    subst e
    obtain ⟨r, sh, ee, _, rfl⟩ := hv
    exact ⟨rfl, (fun b hb => by cases hb), (fun hb => by cases hb)⟩
  cases k with
  | alloc ty z => cases h; exact ptr rfl
  | box ty a =>
    simp only [flv, Option.map_eq_some_iff, Prod.mk.injEq] at h
    obtain ⟨v, _, rfl, _⟩ := h; exact ptr rfl
  | bslice ty len z ps =>
    simp only [flv, Option.map_eq_some_iff, Prod.mk.injEq] at h
    obtain ⟨v, _, rfl, _⟩ := h
    obtain ⟨r, sh, ee, ad, _, rfl, _⟩ := hv
    exact ⟨rfl, (fun b hb => by cases hb), (fun hb => by cases hb)⟩
  | _ => simp [flv] at h

/-! ### the region -/
/-- What is known of a region whose order is drawn. -/
structure Dr (P : Program) (ap : Ap) (ops : Array Oper) (l0 l : List O) (g : Option Grp) (es : List Ent) (T0 : List V) (H0 : H) (T' : List V) (H' : H) : Prop where
  comp : cOsFrom P (ops.toList.map (·.dst)) ops.toList [] = some l0
  edges : edgesBelow ops.toList 0 = true
  names : namesOk l0 0 = true
  lget : ∀ i, l[i]? = (l0[i]?).map (mlG g i)
  llen : l.length = l0.length
  gok : ∀ gg, g = some gg → GrpOK gg l0
  len : es.length = l.length
  dr : DrL P ap (l.zip es) T0 H0 T' H'
  acts : (actsOf l es 0).isEmpty = true ∨ (chainF (actsF l es 0) = true ∧ floatOk (actsF l es 0) l = true ∧ rdsOk P (actsOf l es 0) H0 l es 0 = true)

def Lf (listed : Array Bool) (j : Nat) : Bool := listed.getD j false

theorem actsF_mem : ∀ (l : List O) (es : List Ent) (k : Nat) (i : Nat) (x : XE), (l.zip es)[i]? = some x → x.2.act = true → (k + i, x.1.pre, x.1.op.fl) ∈ actsF l es k
  | [], es, k, i, x, h, _ => by simp at h
  | o :: l, [], k, i, x, h, _ => by simp at h
  | o :: l, e :: es, k, 0, x, h, ha => by
    simp at h; subst h
    simp only at ha
    simp [actsF, ha]
  | o :: l, e :: es, k, i + 1, x, h, ha => by
    have := actsF_mem l es (k + 1) i x (by simpa using h) ha
    rw [show k + 1 + i = k + (i + 1) by omega] at this
    unfold actsF
    split
    · exact List.mem_cons_of_mem _ this
    · exact this
theorem chainF_spec : ∀ (l : List O) (es : List Ent) (k : Nat), chainF (actsF l es k) = true → ∀ (i j : Nat) (x y : XE), i < j → (l.zip es)[i]? = some x → (l.zip es)[j]? = some y → x.2.act = true → y.2.act = true → y.1.op.fl = true ∨ y.1.pre.testBit (k + i) = true
  | [], es, k, _, i, j, x, y, _, h1, _, _, _ => by simp at h1
  | o :: l, [], k, _, i, j, x, y, _, h1, _, _, _ => by simp at h1
  | o :: l, e :: es, k, hc, 0, j, x, y, hij, h1, h2, h3, h4 => by
    simp at h1; subst h1
    simp only at h3
    simp only [actsF, h3, if_true, chainF, Bool.and_eq_true, List.all_eq_true, Bool.or_eq_true] at hc
    obtain ⟨j', rfl⟩ : ∃ j', j = j' + 1 := ⟨j - 1, by omega⟩
    exact hc.1 _ (actsF_mem l es (k + 1) j' y (by simpa using h2) h4)
  | o :: l, e :: es, k, hc, i + 1, j, x, y, hij, h1, h2, h3, h4 => by
    obtain ⟨j', rfl⟩ : ∃ j', j = j' + 1 := ⟨j - 1, by omega⟩
    have hc' : chainF (actsF l es (k + 1)) = true := by
      simp only [actsF] at hc
      split at hc
      · simp only [chainF, Bool.and_eq_true] at hc; exact hc.2
      · exact hc
    have := chainF_spec l es (k + 1) hc' i j' x y (by omega) (by simpa using h1) (by simpa using h2) h3 h4
    rw [show k + (i + 1) = k + 1 + i by omega]; exact this

section
variable {ops : Array Oper} {l0 l : List O} {g : Option Grp} {es : List Ent} {T0 T' : List V} {H0 H' : H}

/-- What has been done holds whatever it waits on. -/
def DC (l : List O) (L : Nat → Bool) : Prop := ∀ (i : Nat) (oo : O), l[i]? = some oo → L i = true → ∀ j, oo.pre.testBit j = true → L j = true

theorem zip_fst {i : Nat} {x : XE} (hx : (l.zip es)[i]? = some x) : l[i]? = some x.1 := by
  obtain ⟨a, b⟩ := x
  exact (List.getElem?_zip_eq_some.1 hx).1

theorem Dr.back (D : Dr P ap ops l0 l g es T0 H0 T' H') {i : Nat} {oo : O} (h : l[i]? = some oo) : ∃ o0, l0[i]? = some o0 ∧ oo = mlG g i o0 := by
  rw [D.lget i] at h
  obtain ⟨o0, h1, h2⟩ := Option.map_eq_some_iff.1 h
  exact ⟨o0, h1, h2.symm⟩

theorem Dr.namesL (D : Dr P ap ops l0 l g es T0 H0 T' H') {i j : Nat} {x y : O} (hij : i < j) (h1 : l[i]? = some x) (h2 : l[j]? = some y) :
    y.pre.testBit i = true ∨ ((∀ d, x.dst = some d → d ∉ y.names) ∧ (∀ d, y.dst = some d → d ∉ x.names)) := by
  obtain ⟨x0, a1, rfl⟩ := D.back h1
  obtain ⟨y0, b1, rfl⟩ := D.back h2
  obtain ⟨p1, p2, _, p4⟩ := mlG_same g i x0
  obtain ⟨q1, q2, _, q4⟩ := mlG_same g j y0
  rw [p2, p4, q1, q2, q4]
  have := namesOk_spec l0 0 D.names i j x0 y0 hij a1 b1
  rwa [Nat.zero_add] at this

theorem Dr.pre (D : Dr P ap ops l0 l g es T0 H0 T' H') {listed : Array Bool} (hdc : DC l (Lf listed)) {i : Nat} {o : Oper} {oo : O} (ho : ops[i]? = some o) (hoo : l[i]? = some oo) (hr : ∀ e ∈ o.after, Region.binds .any e = true → listed.getD e.on false = true) :
    ∀ j, oo.pre.testBit j = true → Lf listed j = true := by
  intro j hj
  obtain ⟨hlen, hat⟩ := cOsFrom_at _ _ _ D.comp
  obtain ⟨oo', h1, h2⟩ := hat i o (by simpa using ho)
  obtain ⟨o0, g1, rfl⟩ := D.back hoo
  rw [g1] at h1; cases h1
  obtain ⟨_, _, _, h3, _⟩ := cO_spec h2
  rw [(mlG_same g i oo').1, h3] at hj
  obtain ⟨e, he, hb, hx⟩ := preOf_spec hj
  have hL := hr e (by simpa using he) hb
  rcases hx with rfl | hx
  · exact hL
  · simp only [List.nil_append] at hx
    rw [List.getD_eq_getElem?_getD, List.getElem?_map, List.getElem?_take] at hx
    split at hx
    · cases hoe : l0[e.on]? with
      | none => simp [hoe] at hx
      | some q =>
        simp [hoe] at hx
        have hle : l[e.on]? = some (mlG g e.on q) := by rw [D.lget, hoe]; rfl
        exact hdc e.on _ hle hL j (by rw [(mlG_same g e.on q).1]; exact hx)
    · simp at hx

theorem Dr.ent (D : Dr P ap ops l0 l g es T0 H0 T' H') {i : Nat} {o : Oper} (ho : ops[i]? = some o) : ∃ o0 oo e, l0[i]? = some o0 ∧ oo = mlG g i o0 ∧ l[i]? = some oo ∧ (l.zip es)[i]? = some (oo, e) ∧ cK P o.op = some o0.op ∧ cGuard (ops.toList.map (·.dst)) o.guard = some oo.guard ∧ oo.dst = o.dst ∧
    (∀ d, oo.dst = some d → d ∈ oo.names) ∧ (∀ t w, oo.guard = some (t, w) → t ∈ oo.names) ∧ (∀ t ∈ o0.op.tms, t ∈ oo.names) ∧
    e.T = tS (fun j => decide (j < i)) (l.zip es) 0 T0 ∧ e.h = hS (fun j => decide (j < i)) (l.zip es) 0 H0 ∧ EntOK P ap oo e := by
  obtain ⟨hlen, hat⟩ := cOsFrom_at _ _ _ D.comp
  obtain ⟨o0, h1, h2⟩ := hat i o (by simpa using ho)
  obtain ⟨c1, c2, c3, c4, c5, c6, c7⟩ := cO_spec h2
  have hi : i < l.length := by rw [D.llen]; exact (List.getElem?_eq_some_iff.1 h1).1
  have hli : l[i]? = some (mlG g i o0) := by rw [D.lget, h1]; rfl
  have hz : (l.zip es)[i]? = some (mlG g i o0, es[i]'(by rw [D.len]; exact hi)) := by
    rw [List.getElem?_zip_eq_some]
    exact ⟨hli, by simp⟩
  obtain ⟨k1, k2, k3⟩ := D.dr.at (l.zip es) 0 T0 H0 T' H' i _ hz
  simp only [Nat.zero_add] at k1 k2
  obtain ⟨s1, s2, s3, s4⟩ := mlG_same g i o0
  exact ⟨o0, _, _, h1, rfl, hli, hz, c1, by rw [s3]; exact c2, by rw [s2]; exact c3, by rw [s2, s4]; exact c5, by rw [s3, s4]; exact c6, by rw [s4]; exact c7, k1, k2, k3⟩

theorem acts_ne {i : Nat} {x : XE} (hx : (l.zip es)[i]? = some x) (ha : x.2.act = true) : (actsOf l es 0).isEmpty = false := by
  have := (actsOf_mem l es 0 _).2 ⟨i, x, hx, ha, rfl⟩
  cases h : actsOf l es 0 with
  | nil => rw [h] at this; simp at this
  | cons a b => rfl

theorem Dr.ch (D : Dr P ap ops l0 l g es T0 H0 T' H') {i j : Nat} {x y : XE} (hij : i < j) (h1 : (l.zip es)[i]? = some x) (h2 : (l.zip es)[j]? = some y) (h3 : x.2.act = true) (h4 : y.2.act = true) : y.1.op.fl = true ∨ y.1.pre.testBit i = true := by
  have := chainF_spec l es 0 (D.acts.resolve_left (by rw [acts_ne h1 h3]; simp)).1 i j x y hij h1 h2 h3 h4
  rwa [Nat.zero_add] at this

theorem Dr.flo (D : Dr P ap ops l0 l g es T0 H0 T' H') {k p a : Nat} {o : O} {x y : XE} (hk : l[k]? = some o) (hp : (l.zip es)[p]? = some y) (hy : y.2.act = true) (hf : y.1.op.fl = true) (hb : o.pre.testBit p = true) (hx : (l.zip es)[a]? = some x) (hxa : x.2.act = true) (hap : a < p) : o.pre.testBit a = true := by
  have h := (D.acts.resolve_left (by rw [acts_ne hp hy]; simp)).2.1
  unfold floatOk at h
  have h1 := List.all_eq_true.1 h o (List.mem_of_getElem? hk)
  have h2 := List.all_eq_true.1 h1 _ (actsF_mem l es 0 p y hp hy)
  simp only [hf, Nat.zero_add, hb, Bool.and_self, Bool.not_true, Bool.false_or] at h2
  have h3 := List.all_eq_true.1 h2 _ (actsF_mem l es 0 a x hx hxa)
  simpa [hap] using h3

/-- What has been taken over, of what is done. -/
structure AdOK (X : List XE) (L A : Nat → Bool) : Prop where
  sub : ∀ j, A j = true → L j = true
  pend : ∀ j x, X[j]? = some x → L j = true → A j = false → x.2.act = true ∧ x.1.op.fl = true
  pre : ∀ (j k : Nat) x y, X[j]? = some x → X[k]? = some y → x.2.act = true → y.2.act = true → A j = true → k < j → A k = true
  wait : ∀ (q j : Nat) y x, X[q]? = some y → X[j]? = some x → L q = true → y.1.pre.testBit j = true → A j = true

/-- Whatever may be taken over is. -/
def Sat (X : List XE) (L A : Nat → Bool) : Prop := ∀ p x, X[p]? = some x → L p = true → (∀ q y, q < p → X[q]? = some y → y.2.act = true → L q = true) → A p = true

theorem Dr.preA (D : Dr P ap ops l0 l g es T0 H0 T' H') {L A : Nat → Bool} (ad : AdOK (l.zip es) L A) (hs : Sat (l.zip es) L A) {i : Nat} {oo : O} (hoo : l[i]? = some oo) (hpre : ∀ j, oo.pre.testBit j = true → L j = true) {j : Nat} {x : XE} (hx : (l.zip es)[j]? = some x) (hj : oo.pre.testBit j = true) : A j = true := by
  cases hA : A j with
  | true => rfl
  | false =>
    exfalso
    obtain ⟨h1, h2⟩ := ad.pend j x hx (hpre j hj) hA
    have := hs j x hx (hpre j hj) fun q y hq hy hya => hpre q (D.flo hoo hx h1 h2 hj hy hya hq)
    rw [hA] at this; cases this

/-- The temporaries that an operation names are as they were in the order of the text. -/
theorem Dr.agree (D : Dr P ap ops l0 l g es T0 H0 T' H') {L A : Nat → Bool} (hdc : DC l L) (ad : AdOK (l.zip es) L A) (hs : Sat (l.zip es) L A) {i : Nat} {oo : O} (hoo : l[i]? = some oo) (hni : L i = false) (hpre : ∀ j, oo.pre.testBit j = true → L j = true) :
    Agree (tJ L A (l.zip es) 0 T0) (tS (fun j => decide (j < i)) (l.zip es) 0 T0) oo.names := by
  intro t ht
  rw [tS_eq_tJ]
  refine tJ_congr _ 0 _ _ rfl rfl fun j x hx hxt => ?_
  have hxl := zip_fst hx
  simp only [Nat.zero_add]
  rcases Nat.lt_trichotomy j i with hji | hji | hji
  · rcases D.namesL hji hxl hoo with h | ⟨h, _⟩
    · rw [D.preA ad hs hoo hpre hx h]; simp [hji]
    · exact absurd ht (h t hxt)
  · subst hji
    have hAf : A j = false := by cases hA : A j with
      | false => rfl
      | true => have := ad.sub j hA; rw [hni] at this; cases this
    rw [hAf, hni]; simp
  · have hd : decide (j < i) = false := by simp; omega
    rw [hd]
    rcases D.namesL hji hoo hxl with h | ⟨_, h⟩
    · have hLf : L j = false := by
        cases hL : L j with
        | false => rfl
        | true => have := hdc j x.1 hxl hL i h; rw [hni] at this; cases this
      have hAf : A j = false := by cases hA : A j with
        | false => rfl
        | true => have := ad.sub j hA; rw [hLf] at this; cases this
      rw [hAf, hLf]; simp
    · exact absurd ht (h t hxt)
end
end Go.AM
/-! Soundness, XIV g: regions that draw their order. -/
namespace Go.AM
variable {P : Program} {ap : Ap}

def PendF (P : Program) (k0 : Nat) (m : Mp) (w : World) (a : Act) (x : XE) (r : Nat) : Prop :=
  ∃ f ob obj sh ee, flv x.1.op x.2.T = some (f, obj) ∧ Pend k0 m w r ob ∧ OR P m ob sh ee obj ∧
    ∀ t xv, x.1.dst = some t → a.tmps[t]? = some xv → ∀ (m' : Mp) (i : Nat), m' i = some (r, sh, ee) → VR m' (f i) xv

def PendM (k0 : Nat) (m : Mp) (w : World) (a : Act) (gg : Grp) (L : Nat → Bool) (r : Nat) : Prop :=
  ∃ es es' cl, Pend k0 m w r (.map es' cl) ∧ ER m es es'.toList ∧ ((∀ xv, a.tmps[gg.d]? = some xv → xv = .map (some r)) ∧ ∀ x ∈ gg.cp, L x.1 = true → ∀ xv, a.tmps[x.2]? = some xv → xv = .map (some r)) ∧
    (∀ e ∈ es, ∃ x ∈ gg.ins, L x.1 = true ∧ e.1 = x.2.1 ∧ e.2.1 = x.2.2) ∧ (∀ x ∈ gg.ins, L x.1 = true → ∃ e ∈ es, e.1 = x.2.1 ∧ e.2.1 = x.2.2)

theorem tmps_put {a : Act} {dst : Option Nat} {xv : Value} {t : Nat} (h : dst ≠ some t) : (a.put dst xv).tmps[t]? = a.tmps[t]? := by
  cases dst with
  | none => rfl
  | some d =>
    simp only [Act.put]
    rw [Array.getElem?_setIfInBounds_ne (by rintro rfl; exact h rfl)]

theorem Pend.back {k0 : Nat} {m m' : Mp} {w : World} {r : Nat} {ob : Go.Obj} (p : Pend k0 m' w r ob) (hs : Sub m m') : Pend k0 m w r ob := ⟨p.new, p.here, fun i y hm => p.out i y (hs _ _ hm)⟩

theorem PendF.go {k0 : Nat} {m m2 : Mp} {w w' : World} {a : Act} {x : XE} {r : Nat} (p : PendF P k0 m w a x r) (hp : ∀ ob, Pend k0 m w r ob → Pend k0 m2 w' r ob) (hs : Sub m m2) {dst : Option Nat} {xv : Value} (hd : ∀ t, x.1.dst = some t → dst ≠ some t) : PendF P k0 m2 w' (a.put dst xv) x r := by
  obtain ⟨f, ob, obj, sh, ee, h1, h2, h3, h4⟩ := p
  refine ⟨f, ob, obj, sh, ee, h1, hp _ h2, h3.mono hs, fun t xv' ht hx => ?_⟩
  rw [tmps_put (hd t ht)] at hx
  exact h4 t xv' ht hx
theorem PendM.go {k0 : Nat} {m m2 : Mp} {w w' : World} {a : Act} {gg : Grp} {L L' : Nat → Bool} {r : Nat} (p : PendM k0 m w a gg L r) (hp : ∀ ob, Pend k0 m w r ob → Pend k0 m2 w' r ob) (hs : Sub m m2) {dst : Option Nat} {xv : Value} (hd : dst ≠ some gg.d) (hL : ∀ x ∈ gg.ins, L' x.1 = L x.1) (hc : ∀ x ∈ gg.cp, dst ≠ some x.2 ∧ L' x.1 = L x.1) : PendM k0 m2 w' (a.put dst xv) gg L' r := by
  obtain ⟨es, es', cl, h1, h2, h3, h4, h5⟩ := p
  refine ⟨es, es', cl, hp _ h1, h2.mono hs, ⟨fun xv' hx => ?_, fun x hx hLx xv' hx' => ?_⟩, fun e he => ?_, fun x hx hLx => h5 x hx (by rw [← hL x hx]; exact hLx)⟩
  · rw [tmps_put hd] at hx; exact h3.1 xv' hx
  · obtain ⟨q1, q2⟩ := hc x hx
    rw [tmps_put q1] at hx'
    exact h3.2 x hx (by rw [← q2]; exact hLx) xv' hx'
  · obtain ⟨x, q1, q2, q3⟩ := h4 e he
    exact ⟨x, q1, by rw [hL x q1]; exact q2, q3⟩

/-- What holds between operations. -/
structure Inv (P : Program) (X : List XE) (g : Option Grp) (m0 : Mp) (h0 : H) (w0 : World) (ds : List Deferred) (T0 : List V) (H0 : H) (L A : Nat → Bool) (m : Mp) (w : World) (a : Act) : Prop where
  ad : AdOK X L A
  md : Mid P m0 h0 w0 m (hS A X 0 H0) w (tJ L A X 0 T0) ds a
  pf : ∃ R : Nat → Nat, (∀ p x, X[p]? = some x → L p = true → A p = false → PendF P w0.heap.size m w a x (R p)) ∧
    (∀ (p q : Nat) x y, X[p]? = some x → X[q]? = some y → L p = true → A p = false → L q = true → A q = false → p ≠ q → R p ≠ R q) ∧
    ∀ gg, g = some gg → L gg.i0 = true → ∃ r, PendM w0.heap.size m w a gg L r ∧ ∀ p x, X[p]? = some x → L p = true → A p = false → R p ≠ r

section
variable {ops : Array Oper} {l0 l : List O} {g : Option Grp} {es : List Ent} {T0 T' : List V} {H0 H' : H} {m0 : Mp} {h0 : H} {w0 : World} {ds : List Deferred}

theorem EntOK.fl {o : O} {e : Ent} (h : EntOK P ap o e) (ha : e.act = true) (hf : o.op.fl = true) : ∃ f obj, flv o.op e.T = some (f, obj) ∧ e.v = f e.h.size ∧ e.h' = e.h.psh obj := by
  unfold EntOK at h
  split at h
  · rw [evK_fl hf] at h
    cases hv : flv o.op e.T with
    | none => rw [hv] at h; exact h.elim
    | some y =>
      obtain ⟨f, obj⟩ := y
      rw [hv] at h
      exact ⟨f, obj, rfl, h.1, h.2.1⟩
  · rw [ha] at h; exact absurd h.2.2.1 (by simp)

/-- Nobody behind a place writes where it writes, of those that are done. -/
theorem Dr.later (D : Dr P ap ops l0 l g es T0 H0 T' H') {L A : Nat → Bool} (hdc : DC l L) (ad : AdOK (l.zip es) L A) {i : Nat} {x : XE} (hx : (l.zip es)[i]? = some x) (hni : L i = false) (hdn : ∀ d, x.1.dst = some d → d ∈ x.1.names) :
    ∀ j y t, i < j → (l.zip es)[j]? = some y → y.1.dst = some t → x.1.dst = some t → A j = false ∧ L j = false := by
  intro j y t hij hy hyt hxt
  have hLf : L j = false := by
    rcases D.namesL hij (zip_fst hx) (zip_fst hy) with h | ⟨_, h⟩
    · cases hL : L j with
      | false => rfl
      | true => have := hdc j y.1 (zip_fst hy) hL i h; rw [hni] at this; cases this
    · exact absurd (hdn t hxt) (h t hyt)
  refine ⟨?_, hLf⟩
  cases hA : A j with
  | false => rfl
  | true => have := ad.sub j hA; rw [hLf] at this; cases this

theorem Dr.dstn (D : Dr P ap ops l0 l g es T0 H0 T' H') {i : Nat} {x : XE} (hx : (l.zip es)[i]? = some x) : ∀ d, x.1.dst = some d → d ∈ x.1.names := by
  obtain ⟨o0, a1, a2⟩ := D.back (zip_fst hx)
  obtain ⟨hlen, hat⟩ := cOsFrom_at _ _ _ D.comp
  have hi : i < ops.toList.length := by rw [← hlen]; exact (List.getElem?_eq_some_iff.1 a1).1
  obtain ⟨oo, h1, h2⟩ := hat i ops.toList[i] (List.getElem?_eq_getElem hi)
  rw [a1] at h1; cases h1
  obtain ⟨_, _, _, _, c5, _⟩ := cO_spec h2
  rw [a2, (mlG_same g i o0).2.1, (mlG_same g i o0).2.2.2]
  exact c5

/-- The next one that is pending is taken over. -/
theorem Dr.take1 (D : Dr P ap ops l0 l g es T0 H0 T' H') {L A : Nat → Bool} {m : Mp} {w : World} {a : Act} (iv : Inv P (l.zip es) g m0 h0 w0 ds T0 H0 L A m w a) {n : Nat} {x : XE} (hx : (l.zip es)[n]? = some x) (hL : L n = true) (hA : A n = false)
    (hacts : ∀ q y, q < n → (l.zip es)[q]? = some y → y.2.act = true → A q = true) :
    ∃ m', Inv P (l.zip es) g m0 h0 w0 ds T0 H0 L (fun j => if j = n then true else A j) m' w a := by
  obtain ⟨R, r1, r2, r3⟩ := iv.pf
  obtain ⟨hact, hfl⟩ := iv.ad.pend n x hx hL hA
  have hafter : ∀ q y t, n < q → (l.zip es)[q]? = some y → y.1.dst = some t → x.1.dst = some t → A q = false ∧ L q = false := by
    intro q y t hnq hy hyt hxt
    have hLf : L q = false := by
      rcases D.namesL hnq (zip_fst hx) (zip_fst hy) with h | ⟨_, h⟩
      · cases hLq : L q with
        | false => rfl
        | true => have := iv.ad.wait q n y x hy hx hLq h; rw [hA] at this; cases this
      · exact absurd (D.dstn hx t hxt) (h t hyt)
    refine ⟨?_, hLf⟩
    cases hAq : A q with
    | false => rfl
    | true => have := iv.ad.sub q hAq; rw [hLf] at this; cases this
  have hio : n < ops.size := by
    obtain ⟨o0, a1, _⟩ := D.back (zip_fst hx)
    have := (List.getElem?_eq_some_iff.1 a1).1
    rw [(cOsFrom_at _ _ _ D.comp).1] at this
    simpa using this
  obtain ⟨o0, oo, e, q1, q2, q3, q4, _, _, _, _, _, _, k1, k2, k3⟩ := D.ent (o := ops[n]) (Array.getElem?_eq_getElem hio)
  rw [hx] at q4; cases q4
  simp only at hact hfl
  obtain ⟨f, obj, f1, f2, f3⟩ := k3.fl hact hfl
  obtain ⟨f', ob, obj', sh, ee, g1, g2, g3, g4⟩ := r1 n _ hx hL hA
  simp only at g1
  rw [f1] at g1; cases g1
  have hh : hS A (l.zip es) 0 H0 = e.h := by
    rw [k2]
    refine hS_congr _ 0 _ fun j y hy hya => ?_
    rw [Nat.zero_add]
    rcases Nat.lt_trichotomy j n with h | h | h
    · rw [hacts j y h hy hya]; simp [h]
    · subst h; rw [hA]; simp
    · have hd : decide (j < n) = false := by simp; omega
      rw [hd]
      cases hAj : A j with
      | false => rfl
      | true => have := iv.ad.pre j n y _ hy hx hya hact hAj h; rw [hA] at this; cases this
  have hh' : hS (fun j => if j = n then true else A j) (l.zip es) 0 H0 = e.h' := by
    refine hS_add _ 0 n _ _ hx hact (by simp) fun j y hij hy hya => ?_
    rw [Nat.zero_add]
    simp only [show j ≠ n by omega, if_false]
    cases hAj : A j with
    | false => rfl
    | true => have := iv.ad.pre j n y _ hy hx hya hact hAj hij; rw [hA] at this; cases this
  have hT : tJ L (fun j => if j = n then true else A j) (l.zip es) 0 T0 = putV (tJ L A (l.zip es) 0 T0) oo.dst e.v :=
    tJ_set (l.zip es) 0 n T0 (oo, e) e.v hx (.inl ⟨by simp, rfl⟩) (fun j hj => by simp [hj]) (fun j y t h1 h2 h3 h4 => by rw [Nat.zero_add]; exact hafter j y t h1 h2 h3 h4)
  have hr := iv.md.cx.hr
  rw [hh] at hr
  have hmd := iv.md
  rw [hh] at hmd
  refine ⟨upd m e.h.size (R n, sh, ee), ⟨?_, ?_, ?_, ?_⟩, ?_, R, ?_, ?_, ?_⟩
  · intro j hj
    by_cases hjn : j = n
    · subst hjn; exact hL
    · simp only [hjn, if_false] at hj; exact iv.ad.sub j hj
  · intro j y hy hLj hAj
    by_cases hjn : j = n
    · subst hjn; simp at hAj
    · simp only [hjn, if_false] at hAj; exact iv.ad.pend j y hy hLj hAj
  · intro j k y z hy hz hya hza hAj hkj
    by_cases hkn : k = n
    · simp [hkn]
    · simp only [hkn, if_false]
      by_cases hjn : j = n
      · subst hjn; exact hacts k z hkj hz hza
      · simp only [hjn, if_false] at hAj
        exact iv.ad.pre j k y z hy hz hya hza hAj hkj
  · intro q j y z hy hz hLq hb
    have := iv.ad.wait q j y z hy hz hLq hb
    simp [this]
  · rw [hh', f3, hT]
    refine ⟨⟨?_, hr.adopt g2 g3⟩, hmd.ext.adopt hr.fresh g2, hmd.defers⟩
    have hs := sub_upd (x := (R n, sh, ee)) hr.fresh
    have ht := VRL.mono hs _ _ iv.md.cx.tr
    unfold TR
    cases hd : oo.dst with
    | none => exact ht
    | some d =>
      simp only [putV]
      refine VRL.of_get (by rw [List.length_set]; exact ht.length) fun i v hv => ?_
      rw [List.getElem?_set] at hv
      by_cases hdi : d = i
      · subst hdi
        rw [if_pos rfl] at hv
        split at hv
        · rename_i hlt
          cases hv
          have hlt' : d < a.tmps.toList.length := by rw [ht.length]; exact hlt
          refine ⟨a.tmps.toList[d], List.getElem?_eq_getElem hlt', ?_⟩
          rw [f2]
          exact g4 d _ hd (by rw [← Array.getElem?_toList, List.getElem?_eq_getElem hlt']) _ _ (upd_self _ _ _)
        · cases hv
      · rw [if_neg hdi] at hv
        exact ht.get hv
  · intro p y hy hLp hAp
    by_cases hpn : p = n
    · subst hpn; simp at hAp
    · simp only [hpn, if_false] at hAp
      obtain ⟨f2', ob2, obj2, sh2, ee2, c1, c2, c3, c4⟩ := r1 p y hy hLp hAp
      exact ⟨f2', ob2, obj2, sh2, ee2, c1, c2.adopt (r2 n p _ y hx hy hL hA hLp hAp (Ne.symm hpn)), c3.mono (sub_upd hr.fresh), c4⟩
  · intro p q y z hy hz hLp hAp hLq hAq hpq
    by_cases hpn : p = n
    · subst hpn; simp at hAp
    · by_cases hqn : q = n
      · subst hqn; simp at hAq
      · simp only [hpn, if_false] at hAp
        simp only [hqn, if_false] at hAq
        exact r2 p q y z hy hz hLp hAp hLq hAq hpq
  · intro gg hg hi
    obtain ⟨r, ⟨es1, es', cl, c1, c2, c3, c4, c5⟩, hne⟩ := r3 gg hg hi
    refine ⟨r, ⟨es1, es', cl, c1.adopt (hne n _ hx hL hA), c2.mono (sub_upd hr.fresh), c3, c4, c5⟩, fun p y hy hLp hAp => ?_⟩
    by_cases hpn : p = n
    · subst hpn; simp at hAp
    · simp only [hpn, if_false] at hAp
      exact hne p y hy hLp hAp

theorem Dr.satTo (D : Dr P ap ops l0 l g es T0 H0 T' H') {L : Nat → Bool} {w : World} {a : Act} : ∀ (n : Nat) {A : Nat → Bool} {m : Mp}, Inv P (l.zip es) g m0 h0 w0 ds T0 H0 L A m w a →
    ∃ A' m', Inv P (l.zip es) g m0 h0 w0 ds T0 H0 L A' m' w a ∧ ∀ p x, p < n → (l.zip es)[p]? = some x → L p = true → (∀ q y, q < p → (l.zip es)[q]? = some y → y.2.act = true → L q = true) → A' p = true
  | 0, A, m, iv => ⟨A, m, iv, fun p x hp => by omega⟩
  | n + 1, A, m, iv => by
    obtain ⟨A1, m1, iv1, h1⟩ := Dr.satTo D n iv
    by_cases hc : ∃ x, (l.zip es)[n]? = some x ∧ L n = true ∧ A1 n = false ∧ ∀ q y, q < n → (l.zip es)[q]? = some y → y.2.act = true → L q = true
    · obtain ⟨x, hx, hL, hA, hall⟩ := hc
      obtain ⟨m2, iv2⟩ := D.take1 iv1 hx hL hA fun q y hq hy hya => h1 q y hq hy (hall q y hq hy hya) fun q' y' hq' hy' hya' => hall q' y' (by omega) hy' hya'
      refine ⟨_, m2, iv2, fun p y hp hy hLp hq => ?_⟩
      by_cases hpn : p = n
      · simp [hpn]
      · simp only [hpn, if_false]; exact h1 p y (by omega) hy hLp hq
    · refine ⟨A1, m1, iv1, fun p y hp hy hLp hq => ?_⟩
      by_cases hpn : p = n
      · subst hpn
        cases hA : A1 p with
        | true => rfl
        | false => exact absurd ⟨y, hy, hLp, hA, hq⟩ hc
      · exact h1 p y (by omega) hy hLp hq
theorem Dr.sat (D : Dr P ap ops l0 l g es T0 H0 T' H') {L A : Nat → Bool} {m : Mp} {w : World} {a : Act} (iv : Inv P (l.zip es) g m0 h0 w0 ds T0 H0 L A m w a) : ∃ A' m', Inv P (l.zip es) g m0 h0 w0 ds T0 H0 L A' m' w a ∧ Sat (l.zip es) L A' := by
  obtain ⟨A', m', iv', h⟩ := D.satTo (l.zip es).length iv
  exact ⟨A', m', iv', fun p x hx => h p x (List.getElem?_eq_some_iff.1 hx).1 hx⟩

/-- One that is not early is done. -/
theorem Inv.addN {L A : Nat → Bool} {m m' : Mp} {w w' : World} {a a' : Act} {X : List XE} (iv : Inv P X g m0 h0 w0 ds T0 H0 L A m w a) {i : Nat} {x : XE} (hx : X[i]? = some x) (hni : L i = false)
    (hpre : ∀ j y, X[j]? = some y → x.1.pre.testBit j = true → A j = true) (hact : x.2.act = true → ∀ j y, X[j]? = some y → y.2.act = true → j < i → A j = true)
    (md : Mid P m0 h0 w0 m' (hS (fun j => if j = i then true else A j) X 0 H0) w' (tJ (fun j => if j = i then true else L j) (fun j => if j = i then true else A j) X 0 T0) ds a')
    (R : Nat → Nat) (r1 : ∀ p y, X[p]? = some y → L p = true → A p = false → PendF P w0.heap.size m' w' a' y (R p)) (r2 : ∀ (p q : Nat) y z, X[p]? = some y → X[q]? = some z → L p = true → A p = false → L q = true → A q = false → p ≠ q → R p ≠ R q)
    (r3 : ∀ gg, g = some gg → (if gg.i0 = i then true else L gg.i0) = true → ∃ r, PendM w0.heap.size m' w' a' gg (fun j => if j = i then true else L j) r ∧ ∀ p y, X[p]? = some y → L p = true → A p = false → R p ≠ r) :
    Inv P X g m0 h0 w0 ds T0 H0 (fun j => if j = i then true else L j) (fun j => if j = i then true else A j) m' w' a' := by
  have old : ∀ p, (if p = i then true else L p) = true → (if p = i then true else A p) = false → p ≠ i ∧ L p = true ∧ A p = false := by
    intro p h1 h2
    by_cases hp : p = i
    · simp [hp] at h2
    · simp only [hp, if_false] at h1 h2; exact ⟨hp, h1, h2⟩
  refine ⟨⟨fun j hj => ?_, fun j y hy h1 h2 => ?_, fun j k y z hy hz hya hza hj hkj => ?_, fun q j y z hy hz hq hb => ?_⟩, md, R, fun p y hy h1 h2 => ?_, fun p q y z hy hz h1 h2 h3 h4 hpq => ?_, fun gg hg hi => ?_⟩
  · by_cases hji : j = i
    · simp [hji]
    · simp only [hji, if_false] at hj ⊢; exact iv.ad.sub j hj
  · obtain ⟨_, q1, q2⟩ := old j h1 h2; exact iv.ad.pend j y hy q1 q2
  · by_cases hki : k = i
    · simp [hki]
    · simp only [hki, if_false]
      by_cases hji : j = i
      · subst hji; rw [hx] at hy; cases hy; exact hact hya k z hz hza hkj
      · simp only [hji, if_false] at hj; exact iv.ad.pre j k y z hy hz hya hza hj hkj
  · by_cases hji : j = i
    · simp [hji]
    · simp only [hji, if_false]
      by_cases hqi : q = i
      · subst hqi; rw [hx] at hy; cases hy; exact hpre j z hz hb
      · simp only [hqi, if_false] at hq; exact iv.ad.wait q j y z hy hz hq hb
  · obtain ⟨_, q1, q2⟩ := old p h1 h2; exact r1 p y hy q1 q2
  · obtain ⟨_, q1, q2⟩ := old p h1 h2
    obtain ⟨_, q3, q4⟩ := old q h3 h4
    exact r2 p q y z hy hz q1 q2 q3 q4 hpq
  · obtain ⟨r, c1, c2⟩ := r3 gg hg hi
    refine ⟨r, c1, fun p y hy h1 h2 => ?_⟩
    obtain ⟨_, q1, q2⟩ := old p h1 h2
    exact c2 p y hy q1 q2

/-- One that comes early is done. -/
theorem Inv.addF {L A : Nat → Bool} {m m' : Mp} {w w' : World} {a a' : Act} {X : List XE} (iv : Inv P X g m0 h0 w0 ds T0 H0 L A m w a) {i : Nat} {x : XE} (hx : X[i]? = some x) (hni : L i = false)
    (hpre : ∀ j y, X[j]? = some y → x.1.pre.testBit j = true → A j = true) (hact : x.2.act = true) (hfl : x.1.op.fl = true)
    (md : Mid P m0 h0 w0 m' (hS A X 0 H0) w' (tJ (fun j => if j = i then true else L j) A X 0 T0) ds a')
    (R : Nat → Nat) {rr : Nat} (r0 : PendF P w0.heap.size m' w' a' x rr) (r1 : ∀ p y, X[p]? = some y → L p = true → A p = false → PendF P w0.heap.size m' w' a' y (R p) ∧ R p ≠ rr) (r2 : ∀ (p q : Nat) y z, X[p]? = some y → X[q]? = some z → L p = true → A p = false → L q = true → A q = false → p ≠ q → R p ≠ R q)
    (r3 : ∀ gg, g = some gg → gg.i0 ≠ i → L gg.i0 = true → ∃ r, PendM w0.heap.size m' w' a' gg (fun j => if j = i then true else L j) r ∧ r ≠ rr ∧ ∀ p y, X[p]? = some y → L p = true → A p = false → R p ≠ r) (hg0 : ∀ gg, g = some gg → gg.i0 ≠ i) :
    Inv P X g m0 h0 w0 ds T0 H0 (fun j => if j = i then true else L j) A m' w' a' := by
  have hAi : A i = false := by
    cases h : A i with
    | false => rfl
    | true => have := iv.ad.sub i h; rw [hni] at this; cases this
  refine ⟨⟨fun j hj => ?_, fun j y hy h1 h2 => ?_, iv.ad.pre, fun q j y z hy hz hq hb => ?_⟩, md, fun p => if p = i then rr else R p, fun p y hy h1 h2 => ?_, fun p q y z hy hz h1 h2 h3 h4 hpq => ?_, fun gg hg hi => ?_⟩
  · by_cases hji : j = i
    · simp [hji]
    · simp only [hji, if_false]; exact iv.ad.sub j hj
  · by_cases hji : j = i
    · subst hji; rw [hx] at hy; cases hy; exact ⟨hact, hfl⟩
    · simp only [hji, if_false] at h1; exact iv.ad.pend j y hy h1 h2
  · by_cases hqi : q = i
    · subst hqi; rw [hx] at hy; cases hy; exact hpre j z hz hb
    · simp only [hqi, if_false] at hq; exact iv.ad.wait q j y z hy hz hq hb
  · by_cases hpi : p = i
    · subst hpi; rw [hx] at hy; cases hy; simpa using r0
    · simp only [hpi, if_false] at h1 ⊢; exact (r1 p y hy h1 h2).1
  · by_cases hpi : p = i <;> by_cases hqi : q = i
    · omega
    · subst hpi
      simp only [hqi, if_false] at h3
      simp only [if_true, hqi, if_false]
      exact (r1 q z hz h3 h4).2.symm
    · subst hqi
      simp only [hpi, if_false] at h1
      simp only [if_true, hpi, if_false]
      exact (r1 p y hy h1 h2).2
    · simp only [hpi, if_false] at h1
      simp only [hqi, if_false] at h3
      simp only [hpi, hqi, if_false]
      exact r2 p q y z hy hz h1 h2 h3 h4 hpq
  · have hne := hg0 gg hg
    simp only [hne, if_false] at hi
    obtain ⟨r, c1, c2, c3⟩ := r3 gg hg hne hi
    refine ⟨r, c1, fun p y hy h1 h2 => ?_⟩
    by_cases hpi : p = i
    · simp only [hpi, if_true]; exact c2.symm
    · simp only [hpi, if_false] at h1 ⊢; exact c3 p y hy h1 h2
end
end Go.AM
/-! Soundness, XIV h: regions that draw their order, the whole. -/
namespace Go.AM
variable {P : Program} {ap : Ap}

theorem cBuiltin_fl {b : Builtin} {args : List Operand} {tys : List TypeId} {k : K} (h : cBuiltin P b args tys = some k) : k.fl = false := by
  unfold cBuiltin at h
  repeat' split at h
  all_goals first
    | (cases h; done)
    | (cases h; rfl)
    | (obtain ⟨v, _, rfl⟩ := Option.map_eq_some_iff.1 h; rfl)

theorem cK_fl {op : Op} {k : K} (h : cK P op = some k) (hf : k.fl = true) : (∃ e z, op = .alloc e ∧ zeroT P e = some z ∧ k = .alloc e z.cells) ∨ (∃ e x a, op = .box e x ∧ cA P x = some a ∧ k = .box e a) ∨
    ∃ t len parts e s z ps, op = .buildSlice t len parts ∧ sizeT P e = some s ∧ zeroT P e = some z ∧ z.cells.length = s ∧ cParts P (fun i => some (i * s, s)) parts.toList = some ps ∧ k = .bslice e len (List.replicate len z.cells).flatten ps := by
  cases op with
  | buildSlice t len parts =>
    simp only [cK] at h
    split at h
    · split at h
      · split at h
        · rename_i hu s z hs hz hc
          obtain ⟨ps, hps, rfl⟩ := Option.map_eq_some_iff.1 h
          exact .inr (.inr ⟨_, _, _, _, _, z, ps, rfl, hs, hz, hc.2, hps, rfl⟩)
        · cases h
      · cases h
    · cases h
  | alloc e =>
    simp only [cK] at h
    obtain ⟨z, hz, rfl⟩ := Option.map_eq_some_iff.1 h
    exact .inl ⟨_, z, rfl, hz, rfl⟩
  | box e x =>
    simp only [cK] at h
    obtain ⟨z, hz, rfl⟩ := Option.map_eq_some_iff.1 h
    exact .inr (.inl ⟨_, _, z, rfl, hz, rfl⟩)
  | call c =>
    exfalso
    simp only [cK] at h
    repeat' split at h
    all_goals first
      | (cases h; done)
      | (have := cBuiltin_fl h; rw [this] at hf; cases hf; done)
      | (cases h; simp [K.fl] at hf; done)
      | (obtain ⟨v, _, rfl⟩ := Option.map_eq_some_iff.1 h; simp [K.fl] at hf; done)
  | makeFunc fn fs cs =>
    exfalso
    cases fn <;> simp only [cK] at h
    all_goals (repeat' split at h)
    all_goals first
      | (cases h; done)
      | (cases h; simp [K.fl] at hf; done)
  | _ =>
    exfalso
    simp only [cK] at h
    all_goals (repeat' split at h)
    all_goals first
      | (cases h; done)
      | (cases h; simp [K.fl] at hf; done)
      | (obtain ⟨v, _, rfl⟩ := Option.map_eq_some_iff.1 h; simp [K.fl] at hf; done)

theorem flv_known {m : Mp} {h : H} {w : World} {T : List V} {a : Act} {o : Oper} {k : K} (cx : Cx P m h w T a) (hc : cK P o.op = some k) (hf : k.fl = true) {f : Nat → V} {obj : Obj} (hv : flv k T = some (f, obj)) :
    ∃ cs ty xs, obj = .cells cs ty false false none ∧ VRL m cs xs := by
  rcases cK_fl hc hf with ⟨e, z, _, hz, rfl⟩ | ⟨e, x, y, _, hy, rfl⟩ | ⟨t, len, parts, e, s, z, ps, _, hs, hz, hl, hps, rfl⟩
  · obtain ⟨x, hx, _⟩ := zeroT_spec (m := m) hz
    cases hv
    exact ⟨_, _, _, rfl, VR.cells hx⟩
  · simp only [flv, Option.map_eq_some_iff, Prod.mk.injEq] at hv
    obtain ⟨v, h1, _, rfl⟩ := hv
    exact ⟨_, _, _, rfl, VR.cells (cx.av hy h1)⟩
  · simp only [flv, Option.map_eq_some_iff, Prod.mk.injEq] at hv
    obtain ⟨cs, h1, _, rfl⟩ := hv
    obtain ⟨x, hx, _⟩ := zeroT_spec (m := m) hz
    obtain ⟨c', _, e2⟩ := fill_sound cx (g := fun i => some (i * s, s)) _ _ _ _ (List.replicate len x.cells.toList).flatten.toArray (fun i q hq => hq) hps (by simpa using VRL.flatten (VR.cells hx) len) h1
    exact ⟨_, _, _, rfl, e2⟩

theorem OR.cellsBack {m m' : Mp} (hs : Sub m m') {ob : Go.Obj} {sh e : Nat} {cs : List V} {xs : List Value} {ty : Nat} {op ro : Bool} {fz : Option Nat} (hk : VRL m cs xs) (h : OR P m' ob sh e (.cells cs ty op ro fz)) : OR P m ob sh e (.cells cs ty op ro fz) := by
  obtain ⟨c, fzr, b1, b2, b3⟩ := h
  exact ⟨c, fzr, b1, VRL.restrict hs _ _ _ hk b2, b3⟩

/-- What was just made stands in a block of its own. -/
theorem fresh_of_push {m m' : Mp} {h : H} {w w' : World} {o : Obj} (hr : HR P m h w) (hr' : HR P m' (h.psh o) w') (x : Ext m h w m' (h.psh o) w') (hm : o.mut = true) :
    ∃ r sh e ob, m' h.size = some (r, sh, e) ∧ w.heap.size ≤ r ∧ w'.heap[r]? = some ob ∧ OR P m' ob sh e o ∧ ∀ i y, m i ≠ some (r, y) := by
  obtain ⟨r, sh, e, ob, h1, h2, h3⟩ := hr'.obj h.size o (psh_same h o) (Obj.live_of_mut hm)
  have hge : w.heap.size ≤ r := by
    rcases Nat.lt_or_ge r w.heap.size with hlt | hge
    · exfalso
      obtain ⟨i, oi, sh', e', g1, g2, g3⟩ := x.own r hlt ⟨h.size, o, sh, e, psh_same h o, hm, h1⟩
      have hi := H.get_lt g1
      have := hr'.inj i h.size oi o r sh' e' sh e (by rw [H.get_psh, if_neg (by omega)]; exact g1) (psh_same h o) g2 (Obj.live_of_mut hm) (x.sub _ _ g3) h1
      omega
    · exact hge
  refine ⟨r, sh, e, ob, h1, hge, h2, h3, fun i y hm' => ?_⟩
  have := hr.blk i r y.1 y.2 hm'
  omega

section
variable {ops : Array Oper} {l0 l : List O} {g : Option Grp} {es : List Ent} {T0 T' : List V} {H0 H' : H} {m0 : Mp} {h0 : H} {w0 : World} {ds : List Deferred}

theorem Dr.readsA (D : Dr P ap ops l0 l g es T0 H0 T' H') {L A : Nat → Bool} (hdc : DC l L) (ad : AdOK (l.zip es) L A) (hs : Sat (l.zip es) L A) {i : Nat} {oo : O} {e : Ent} (hx : (l.zip es)[i]? = some (oo, e)) (hni : L i = false) (hpre : ∀ j, oo.pre.testBit j = true → L j = true)
    (hh : e.h = hS (fun j => decide (j < i)) (l.zip es) 0 H0) (hrd : e.rd = true) {v : V} (hk : evK P e.T e.h oo.op = some (.rd v)) (hev : e.v = v) : evK P e.T (hS A (l.zip es) 0 H0) oo.op = some (.rd v) := by
  rcases D.acts with hemp | ⟨_, _, hrd'⟩
  · rw [show hS A (l.zip es) 0 H0 = e.h from ?_]; · exact hk
    rw [hh]
    exact hS_congr _ 0 _ fun j y hy hya => absurd hemp (by rw [acts_ne hy hya]; simp)
  · have hr := rdsOk_spec l es 0 hrd' i (oo, e) hx hrd
    rw [Nat.zero_add] at hr
    have hss := readsOk_spec (L := A) l es 0 H0 hr (fun j y hy hya hL => ?_) (fun j y hy hya hL => ?_) (fun j j' y z hj hy hz hya hza hL => ?_)
    · unfold sameAt at hss
      split at hss
      · rename_i v' hv'
        rw [hv', V.eq_of_beq _ _ hss, hev]
      · cases hss
    · rw [Nat.zero_add] at hL
      cases hb : y.1.pre.testBit i with
      | false => rfl
      | true => have := hdc j y.1 (zip_fst hy) (ad.sub j hL) i hb; rw [hni] at this; cases this
    · rw [Nat.zero_add] at hL ⊢
      cases hb : oo.pre.testBit j with
      | false => rfl
      | true => have := D.preA ad hs (zip_fst hx) hpre hy hb; rw [hL] at this; cases this
    · rw [Nat.zero_add] at hL ⊢
      exact ad.pre j' j z y hz hy hza hya hL hj

/-- One that is not early, wherever it may stand. -/
theorem Dr.evalN (D : Dr P ap ops l0 l g es T0 H0 T' H') {L A : Nat → Bool} (hdc : DC l L) (ad : AdOK (l.zip es) L A) (hs : Sat (l.zip es) L A) {i : Nat} {oo : O} {e : Ent} (hx : (l.zip es)[i]? = some (oo, e)) (hni : L i = false) (hpre : ∀ j, oo.pre.testBit j = true → L j = true)
    (hT : e.T = tS (fun j => decide (j < i)) (l.zip es) 0 T0) (hh : e.h = hS (fun j => decide (j < i)) (l.zip es) 0 H0) (hok : EntOK P ap oo e) (htm : ∀ t ∈ oo.op.tms, t ∈ oo.names) (hgd : ∀ t w, oo.guard = some (t, w) → t ∈ oo.names) (hnf : e.act = true → oo.op.fl = false) :
    if wantV (tJ L A (l.zip es) 0 T0) oo.guard then evR P ap (tJ L A (l.zip es) 0 T0) (hS A (l.zip es) 0 H0) oo.op = some (e.v, hS (fun j => if j = i then true else A j) (l.zip es) 0 H0)
    else e.v = undefV ∧ hS (fun j => if j = i then true else A j) (l.zip es) 0 H0 = hS A (l.zip es) 0 H0 := by
  have hag := D.agree hdc ad hs (zip_fst hx) hni hpre
  have hAi : A i = false := by
    cases h : A i with
    | false => rfl
    | true => have := ad.sub i h; rw [hni] at this; cases this
  have hw : wantV (tJ L A (l.zip es) 0 T0) oo.guard = wantV e.T oo.guard := by
    cases hg : oo.guard with
    | none => rfl
    | some g => obtain ⟨t, w⟩ := g; simp only [wantV]; rw [hag t (hgd t w hg), hT]
  have hK : ∀ h, evK P (tJ L A (l.zip es) 0 T0) h oo.op = evK P e.T h oo.op := fun h => evK_congr fun t ht => by rw [hag t (htm t ht), hT]
  have hnact : e.act = false → hS (fun j => if j = i then true else A j) (l.zip es) 0 H0 = hS A (l.zip es) 0 H0 := fun ha => hS_congr _ 0 _ fun j y hy hya => by
    rw [Nat.zero_add]
    by_cases hji : j = i
    · subst hji; rw [hx] at hy; cases hy; rw [ha] at hya; cases hya
    · simp [hji]
  have hact : e.act = true → hS A (l.zip es) 0 H0 = e.h ∧ hS (fun j => if j = i then true else A j) (l.zip es) 0 H0 = e.h' := fun ha => by
    have hat : ∀ j y, (l.zip es)[j]? = some y → y.2.act = true → A j = decide (j < i) := by
      intro j y hy hya
      rcases Nat.lt_trichotomy j i with h | h | h
      · rcases D.ch h hy hx hya ha with hf | hb
        · simp only at hf; rw [hnf ha] at hf; cases hf
        · rw [D.preA ad hs (zip_fst hx) hpre hy hb]; simp [h]
      · subst h; rw [hAi]; simp
      · have hd : decide (j < i) = false := by simp; omega
        rw [hd]
        cases hAj : A j with
        | false => rfl
        | true => have := ad.pre j i y _ hy hx hya ha hAj h; rw [hAi] at this; cases this
    refine ⟨?_, ?_⟩
    · rw [hh]; exact hS_congr _ 0 _ fun j y hy hya => by rw [Nat.zero_add]; exact hat j y hy hya
    · refine hS_add _ 0 i _ _ hx ha (by simp) fun j y hij hy hya => ?_
      rw [Nat.zero_add]
      simp only [show j ≠ i by omega, if_false]
      rw [hat j y hy hya]; simp; omega
  rw [hw]
  have hok0 := hok
  unfold EntOK at hok
  split at hok
  · rename_i hcond
    rw [if_pos hcond]
    unfold evR
    rw [hK]
    split at hok
    · rename_i v hk
      obtain ⟨h1, h2, h3, h4⟩ := hok
      rw [evK_pur hk, hnact h3, h1]
    · rename_i v hk
      obtain ⟨h1, h2, h3, h4⟩ := hok
      rw [D.readsA hdc ad hs hx hni hpre hh h4 hk h1, hnact h3, h1]
    · rename_i v h' hk
      obtain ⟨h1, h2, h3⟩ := hok
      obtain ⟨q1, q2⟩ := hact h3
      rw [q1, q2, hk, h1, h2]
    · rename_i f args hk
      obtain ⟨h1, h2⟩ := hok
      obtain ⟨q1, q2⟩ := hact h2
      rw [q1, q2, hk]; exact h1
    · exact hok.elim
  · rename_i hcond
    rw [if_neg hcond]
    exact ⟨hok.1, hnact hok.2.2.1⟩

/-- Nobody pending is written by what comes now. -/
theorem Dr.pendDst (D : Dr P ap ops l0 l g es T0 H0 T' H') {L A : Nat → Bool} (ad : AdOK (l.zip es) L A) (hs : Sat (l.zip es) L A) {i : Nat} {x : XE} (hx : (l.zip es)[i]? = some x) (hni : L i = false) (hpre : ∀ j, x.1.pre.testBit j = true → L j = true)
    {p : Nat} {y : XE} (hy : (l.zip es)[p]? = some y) (hL : L p = true) (hA : A p = false) : ∀ t, y.1.dst = some t → x.1.dst ≠ some t := by
  intro t ht hxt
  rcases Nat.lt_trichotomy i p with h | h | h
  · rcases D.namesL h (zip_fst hx) (zip_fst hy) with hb | ⟨h1, _⟩
    · have := ad.wait p i y x hy hx hL hb
      have := ad.sub i this
      rw [hni] at this; cases this
    · exact h1 t hxt (D.dstn hy t ht)
  · subst h; rw [hni] at hL; cases hL
  · rcases D.namesL h (zip_fst hy) (zip_fst hx) with hb | ⟨h1, _⟩
    · have := D.preA ad hs (zip_fst hx) hpre hy hb; rw [hA] at this; cases this
    · exact h1 t ht (D.dstn hx t hxt)
end
end Go.AM
