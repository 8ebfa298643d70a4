/- My own text of the evaluator and its soundness (abstract machine), laid for this claim. -/
import Derived.Test.YtnfeioifkhoikaaGreatDoorAmR3
/-! Soundness, XIV c: regions that draw their order. -/
namespace Go.AM
variable {P : Program} {ap : Ap}

theorem preOf_spec {acc : List Nat} {j : Nat} {es : List Edge} (h : (preOf acc es).testBit j = true) : ∃ e ∈ es, Region.binds .any e = true ∧ (e.on = j ∨ (acc.getD e.on 0).testBit j = true) := by
  have key : ∀ (es : List Edge) (s : Nat), (es.foldl (fun s e => if Region.binds .any e then s ||| 2 ^ e.on ||| acc.getD e.on 0 else s) s).testBit j = true →
      s.testBit j = true ∨ ∃ e ∈ es, Region.binds .any e = true ∧ (e.on = j ∨ (acc.getD e.on 0).testBit j = true) := by
    intro es
    induction es with
    | nil => intro s h; exact .inl h
    | cons e es ih =>
      intro s h
      simp only [List.foldl_cons] at h
      rcases ih _ h with h1 | ⟨e', h1, h2⟩
      · split at h1
        · rename_i hb
          rw [Nat.testBit_or, Nat.testBit_or, Bool.or_eq_true, Bool.or_eq_true] at h1
          rcases h1 with (h1 | h1) | h1
          · exact .inl h1
          · rw [Nat.testBit_two_pow] at h1
            exact .inr ⟨e, by simp, hb, .inl (by simpa using h1)⟩
          · exact .inr ⟨e, by simp, hb, .inr h1⟩
        · exact .inl h1
      · exact .inr ⟨e', by simp [h1], h2⟩
  rcases key es 0 h with h | h
  · simp at h
  · exact h

theorem cOsFrom_at {dsts : List (Option Nat)} : ∀ (os : List Oper) (acc : List Nat) (l : List O), cOsFrom P dsts os acc = some l → l.length = os.length ∧
    ∀ i o, os[i]? = some o → ∃ oo, l[i]? = some oo ∧ cO P dsts (preOf (acc ++ (l.take i).map (·.pre)) o.after.toList) o = some oo
  | [], acc, l, h => by cases h; exact ⟨rfl, fun i o ho => by simp at ho⟩
  | o :: os, acc, l, h => by
    simp only [cOsFrom] at h
    split at h <;> cases h
    rename_i x l' h1 h2
    obtain ⟨k1, k2⟩ := cOsFrom_at os _ l' h2
    have hpre : x.pre = preOf acc o.after.toList := by
      unfold cO at h1
      split at h1 <;> cases h1
      rfl
    refine ⟨by simp [k1], fun i o' ho => ?_⟩
    cases i with
    | zero => simp at ho; subst ho; exact ⟨x, rfl, by simpa using h1⟩
    | succ i =>
      obtain ⟨oo, j1, j2⟩ := k2 i o' (by simpa using ho)
      refine ⟨oo, by simpa using j1, ?_⟩
      rw [← hpre] at j2
      simpa using j2

theorem cO_spec {dsts : List (Option Nat)} {pre : Nat} {o : Oper} {oo : O} (h : cO P dsts pre o = some oo) : cK P o.op = some oo.op ∧ cGuard dsts o.guard = some oo.guard ∧ oo.dst = o.dst ∧ oo.pre = pre ∧
    (∀ d, oo.dst = some d → d ∈ oo.names) ∧ (∀ t w, oo.guard = some (t, w) → t ∈ oo.names) ∧ (∀ t ∈ oo.op.tms, t ∈ oo.names) := by
  unfold cO at h
  split at h <;> cases h
  rename_i k g h1 h2
  refine ⟨h1, h2, rfl, rfl, ?_, ?_, ?_⟩
  · intro d hd; simp only at hd ⊢; simp [hd]
  · intro t w hg; simp only at hg ⊢; subst hg; simp
  · intro t ht; simp only at ht ⊢; simp [ht]

theorem edgesBelow_spec : ∀ (os : List Oper) (k : Nat), edgesBelow os k = true → ∀ i o, os[i]? = some o → ∀ e ∈ o.after.toList, Region.binds .any e = true → e.on < k + i
  | [], _, _, i, o, ho, _, _, _ => by simp at ho
  | o :: os, k, h, 0, o', ho, e, he, hb => by
    simp at ho; subst ho
    simp only [edgesBelow, Bool.and_eq_true, List.all_eq_true, Bool.or_eq_true, Bool.not_eq_true', decide_eq_true_eq] at h
    exact (h.1 e he).resolve_left (by simp [hb])
  | o :: os, k, h, i + 1, o', ho, e, he, hb => by
    simp only [edgesBelow, Bool.and_eq_true] at h
    have := edgesBelow_spec os (k + 1) h.2 i o' (by simpa using ho) e he hb
    omega

theorem namesOk_spec : ∀ (l : List O) (k : Nat), namesOk l k = true → ∀ (i j : Nat) (x y : O), i < j → l[i]? = some x → l[j]? = some y →
    y.pre.testBit (k + i) = true ∨ ((∀ d, x.dst = some d → d ∉ y.names) ∧ (∀ d, y.dst = some d → d ∉ x.names))
  | [], _, _, i, j, x, y, _, h1, _ => by simp at h1
  | o :: l, k, h, 0, j, x, y, hij, h1, h2 => by
    simp at h1; subst h1
    obtain ⟨j', rfl⟩ : ∃ j', j = j' + 1 := ⟨j - 1, by omega⟩
    simp only [namesOk, Bool.and_eq_true, List.all_eq_true, Bool.or_eq_true] at h
    have hy : y ∈ l := List.mem_of_getElem? (by simpa using h2)
    rcases h.1 y hy with h3 | ⟨h3, h4⟩
    · exact .inl h3
    · refine .inr ⟨fun d hd => ?_, fun d hd => ?_⟩
      · rw [hd] at h3; simpa using h3
      · rw [hd] at h4; simpa using h4
  | o :: l, k, h, i + 1, j, x, y, hij, h1, h2 => by
    obtain ⟨j', rfl⟩ : ∃ j', j = j' + 1 := ⟨j - 1, by omega⟩
    simp only [namesOk, Bool.and_eq_true] at h
    have := namesOk_spec l (k + 1) h.2 i j' x y (by omega) (by simpa using h1) (by simpa using h2)
    rw [show k + (i + 1) = k + 1 + i by omega]; exact this

/-- What is known of a region whose order is drawn. -/
structure Dr (P : Program) (ap : Ap) (ops : Array Oper) (l : List O) (es : List Ent) (T0 : List V) (H0 : H) (T' : List V) (H' : H) : Prop where
  comp : cOsFrom P (ops.toList.map (·.dst)) ops.toList [] = some l
  edges : edgesBelow ops.toList 0 = true
  names : namesOk l 0 = true
  len : es.length = l.length
  dr : DrL P ap (l.zip es) T0 H0 T' H'
  acts : (actsOf l es 0).isEmpty = true ∨ (chain (actsOf l es 0) = true ∧ rdsOk P (actsOf l es 0) H0 l es 0 = true)

def Lf (listed : Array Bool) (j : Nat) : Bool := listed.getD j false

section
variable {ops : Array Oper} {l : List O} {es : List Ent} {T0 T' : List V} {H0 H' : H}

/-- What has been done holds whatever it waits on. -/
def DC (l : List O) (listed : Array Bool) : Prop := ∀ (i : Nat) (oo : O), l[i]? = some oo → Lf listed i = true → ∀ j, oo.pre.testBit j = true → Lf listed j = true

theorem Dr.pre (D : Dr P ap ops l es T0 H0 T' H') {listed : Array Bool} (hdc : DC l listed) {i : Nat} {o : Oper} {oo : O} (ho : ops[i]? = some o) (hoo : l[i]? = some oo) (hr : ∀ e ∈ o.after, Region.binds .any e = true → listed.getD e.on false = true) :
    ∀ j, oo.pre.testBit j = true → Lf listed j = true := by
  intro j hj
  obtain ⟨hlen, hat⟩ := cOsFrom_at _ _ _ D.comp
  obtain ⟨oo', h1, h2⟩ := hat i o (by simpa using ho)
  rw [hoo] at h1; cases h1
  obtain ⟨_, _, _, h3, _⟩ := cO_spec h2
  rw [h3] at hj
  obtain ⟨e, he, hb, hx⟩ := preOf_spec hj
  have hL := hr e (by simpa using he) hb
  rcases hx with rfl | hx
  · exact hL
  · simp only [List.nil_append] at hx
    rw [List.getD_eq_getElem?_getD, List.getElem?_map, List.getElem?_take] at hx
    split at hx
    · cases hoe : l[e.on]? with
      | none => simp [hoe] at hx
      | some q => simp [hoe] at hx; exact hdc e.on q hoe hL j hx
    · simp at hx

theorem Dr.ent (D : Dr P ap ops l es T0 H0 T' H') {i : Nat} {o : Oper} (ho : ops[i]? = some o) : ∃ oo e, l[i]? = some oo ∧ (l.zip es)[i]? = some (oo, e) ∧ cK P o.op = some oo.op ∧ cGuard (ops.toList.map (·.dst)) o.guard = some oo.guard ∧ oo.dst = o.dst ∧
    (∀ d, oo.dst = some d → d ∈ oo.names) ∧ (∀ t w, oo.guard = some (t, w) → t ∈ oo.names) ∧ (∀ t ∈ oo.op.tms, t ∈ oo.names) ∧
    e.T = tS (fun j => decide (j < i)) (l.zip es) 0 T0 ∧ e.h = hS (fun j => decide (j < i)) (l.zip es) 0 H0 ∧ EntOK P ap oo e := by
  obtain ⟨hlen, hat⟩ := cOsFrom_at _ _ _ D.comp
  obtain ⟨oo, h1, h2⟩ := hat i o (by simpa using ho)
  obtain ⟨c1, c2, c3, c4, c5, c6, c7⟩ := cO_spec h2
  have hi : i < l.length := (List.getElem?_eq_some_iff.1 h1).1
  have hz : (l.zip es)[i]? = some (oo, es[i]'(by rw [D.len]; exact hi)) := by
    rw [List.getElem?_zip_eq_some]
    exact ⟨h1, by simp⟩
  obtain ⟨k1, k2, k3⟩ := D.dr.at (l.zip es) 0 T0 H0 T' H' i _ hz
  simp only [Nat.zero_add] at k1 k2
  exact ⟨oo, _, h1, hz, c1, c2, c3, c5, c6, c7, k1, k2, k3⟩

theorem zip_fst {i : Nat} {x : XE} (hx : (l.zip es)[i]? = some x) : l[i]? = some x.1 := by
  obtain ⟨a, b⟩ := x
  exact (List.getElem?_zip_eq_some.1 hx).1

/-- The temporaries that an operation names are as they were in the order of the text. -/
theorem Dr.agree (D : Dr P ap ops l es T0 H0 T' H') {listed : Array Bool} (hdc : DC l listed) {i : Nat} {oo : O} (hoo : l[i]? = some oo) (hni : Lf listed i = false) (hpre : ∀ j, oo.pre.testBit j = true → Lf listed j = true) :
    Agree (tS (Lf listed) (l.zip es) 0 T0) (tS (fun j => decide (j < i)) (l.zip es) 0 T0) oo.names := by
  intro t ht
  refine tS_congr _ 0 _ _ rfl rfl fun j x hx hxt => ?_
  have hxl := zip_fst hx
  simp only [Nat.zero_add]
  rcases Nat.lt_trichotomy j i with hji | hji | hji
  · rcases namesOk_spec l 0 D.names j i x.1 oo hji hxl hoo with h | ⟨h, _⟩
    · rw [Nat.zero_add] at h
      rw [hpre j h]; simp [hji]
    · exact absurd ht (h t hxt)
  · subst hji; rw [hni]; simp
  · have hd : decide (j < i) = false := by simp; omega
    rw [hd]
    rcases namesOk_spec l 0 D.names i j oo x.1 hji hoo hxl with h | ⟨_, h⟩
    · rw [Nat.zero_add] at h
      cases hL : Lf listed j with
      | false => rfl
      | true => have := hdc j x.1 hxl hL i h; rw [hni] at this; cases this
    · exact absurd ht (h t hxt)

theorem Dr.chain (D : Dr P ap ops l es T0 H0 T' H') (hne : (actsOf l es 0).isEmpty = false) : ∀ (i j : Nat) (x y : XE), i < j → (l.zip es)[i]? = some x → (l.zip es)[j]? = some y → x.2.act = true → y.2.act = true → y.1.pre.testBit i = true := by
  intro i j x y h1 h2 h3 h4 h5
  have := chain_spec l es 0 (D.acts.resolve_left (by simp [hne])).1 i j x y h1 h2 h3 h4 h5
  rwa [Nat.zero_add] at this

theorem acts_ne {i : Nat} {x : XE} (hx : (l.zip es)[i]? = some x) (ha : x.2.act = true) : (actsOf l es 0).isEmpty = false := by
  have := (actsOf_mem l es 0 _).2 ⟨i, x, hx, ha, rfl⟩
  cases h : actsOf l es 0 with
  | nil => rw [h] at this; simp at this
  | cons a b => rfl

theorem Dr.actsAt (D : Dr P ap ops l es T0 H0 T' H') {listed : Array Bool} (hdc : DC l listed) {i : Nat} {x : XE} (hx : (l.zip es)[i]? = some x) (ha : x.2.act = true) (hni : Lf listed i = false) (hpre : ∀ j, x.1.pre.testBit j = true → Lf listed j = true) :
    ∀ j y, (l.zip es)[j]? = some y → y.2.act = true → Lf listed j = decide (j < i) := by
  intro j y hy hya
  have hc := D.chain (acts_ne hx ha)
  rcases Nat.lt_trichotomy j i with hji | hji | hji
  · rw [hpre j (hc j i y x hji hy hx hya ha)]; simp [hji]
  · subst hji; rw [hni]; simp
  · have hd : decide (j < i) = false := by simp; omega
    rw [hd]
    cases hL : Lf listed j with
    | false => rfl
    | true =>
      have := hdc j y.1 (zip_fst hy) hL i (hc i j x y hji hx hy ha hya)
      rw [hni] at this; cases this

/-- An operation, wherever it may stand. -/
theorem Dr.step (D : Dr P ap ops l es T0 H0 T' H') {listed : Array Bool} (hdc : DC l listed) {i : Nat} {oo : O} {e : Ent} (hx : (l.zip es)[i]? = some (oo, e)) (hni : Lf listed i = false) (hpre : ∀ j, oo.pre.testBit j = true → Lf listed j = true)
    (hT : e.T = tS (fun j => decide (j < i)) (l.zip es) 0 T0) (hh : e.h = hS (fun j => decide (j < i)) (l.zip es) 0 H0) (hok : EntOK P ap oo e) (htm : ∀ t ∈ oo.op.tms, t ∈ oo.names)
    (hgd : ∀ t w, oo.guard = some (t, w) → t ∈ oo.names) {M : Nat → Bool} (hMi : M i = true) (hM : ∀ j, j ≠ i → M j = Lf listed j) :
    if wantV (tS (Lf listed) (l.zip es) 0 T0) oo.guard then evR P ap (tS (Lf listed) (l.zip es) 0 T0) (hS (Lf listed) (l.zip es) 0 H0) oo.op = some (e.v, hS M (l.zip es) 0 H0)
    else e.v = undefV ∧ hS M (l.zip es) 0 H0 = hS (Lf listed) (l.zip es) 0 H0 := by
  have hag := D.agree hdc (zip_fst hx) hni hpre
  have hw : wantV (tS (Lf listed) (l.zip es) 0 T0) oo.guard = wantV e.T oo.guard := by
    cases hg : oo.guard with
    | none => rfl
    | some g => obtain ⟨t, w⟩ := g; simp only [wantV]; rw [hag t (hgd t w hg), hT]
  have hK : ∀ h, evK P (tS (Lf listed) (l.zip es) 0 T0) h oo.op = evK P e.T h oo.op := fun h => evK_congr fun t ht => by rw [hag t (htm t ht), hT]
  have hnact : e.act = false → hS M (l.zip es) 0 H0 = hS (Lf listed) (l.zip es) 0 H0 := fun ha => hS_congr _ 0 _ fun j y hy hya => by
    rw [Nat.zero_add]
    refine hM j ?_
    rintro rfl
    rw [hx] at hy; cases hy
    rw [ha] at hya; cases hya
  have hact : e.act = true → hS (Lf listed) (l.zip es) 0 H0 = e.h ∧ hS M (l.zip es) 0 H0 = e.h' := fun ha => by
    have hat := D.actsAt hdc hx ha hni hpre
    refine ⟨?_, ?_⟩
    · rw [hh]; exact hS_congr _ 0 _ fun j y hy hya => by rw [Nat.zero_add]; exact hat j y hy hya
    · refine hS_add _ 0 i _ _ hx ha (by rw [Nat.zero_add]; exact hMi) fun j y hij hy hya => ?_
      rw [Nat.zero_add, hM j (by omega), hat j y hy hya]; simp; omega
  rw [hw]
  unfold EntOK at hok
  split at hok
  · rename_i hcond
    rw [if_pos hcond]
    unfold evR
    rw [hK]
    split at hok
    · rename_i v hk
      obtain ⟨h1, h2, h3, h4⟩ := hok
      rw [evK_pur hk, hnact h3, h1]
    · rename_i v hk
      obtain ⟨h1, h2, h3, h4⟩ := hok
      have hsame : evK P e.T (hS (Lf listed) (l.zip es) 0 H0) oo.op = some (.rd v) := by
        rcases D.acts with hemp | ⟨hch, hrd⟩
        · rw [show hS (Lf listed) (l.zip es) 0 H0 = e.h from ?_]; · exact hk
          rw [hh]
          exact hS_congr _ 0 _ fun j y hy hya => absurd hemp (by rw [acts_ne hy hya]; simp)
        · have hr := rdsOk_spec l es 0 hrd i (oo, e) hx h4
          rw [Nat.zero_add] at hr
          have hs := readsOk_spec (L := Lf listed) l es 0 H0 hr (fun j y hy hya hL => ?_) (fun j y hy hya hL => ?_) (fun j j' y z hj hy hz hya hza hL => ?_)
          · unfold sameAt at hs
            split at hs
            · rename_i v' hv'
              rw [hv', V.eq_of_beq _ _ hs, h1]
            · cases hs
          · rw [Nat.zero_add] at hL
            cases hb : y.1.pre.testBit i with
            | false => rfl
            | true => have := hdc j y.1 (zip_fst hy) hL i hb; rw [hni] at this; cases this
          · rw [Nat.zero_add] at hL ⊢
            cases hb : oo.pre.testBit j with
            | false => rfl
            | true => have := hpre j hb; rw [hL] at this; cases this
          · rw [Nat.zero_add] at hL ⊢
            have := chain_spec l es 0 hch j j' y z hj hy hz hya hza
            rw [Nat.zero_add] at this
            exact hdc j' z.1 (zip_fst hz) hL j this
      rw [hsame, hnact h3, h1]
    · rename_i v h' hk
      obtain ⟨h1, h2, h3⟩ := hok
      obtain ⟨q1, q2⟩ := hact h3
      rw [q1, q2, hk, h1, h2]
    · rename_i f args hk
      obtain ⟨h1, h2⟩ := hok
      obtain ⟨q1, q2⟩ := hact h2
      rw [q1, q2, hk]; exact h1
    · exact hok.elim
  · rename_i hcond
    rw [if_neg hcond]
    exact ⟨hok.1, hnact hok.2.2.1⟩

theorem Dr.put (D : Dr P ap ops l es T0 H0 T' H') {listed : Array Bool} (hdc : DC l listed) {i : Nat} {oo : O} {e : Ent} (hx : (l.zip es)[i]? = some (oo, e)) (hni : Lf listed i = false) (hdn : ∀ d, oo.dst = some d → d ∈ oo.names)
    {M : Nat → Bool} (hMi : M i = true) (hM : ∀ j, j ≠ i → M j = Lf listed j) : tS M (l.zip es) 0 T0 = putV (tS (Lf listed) (l.zip es) 0 T0) oo.dst e.v := by
  refine tS_add _ 0 i _ _ hx (by rw [Nat.zero_add]; exact hni) (by rw [Nat.zero_add]; exact hMi) (fun j hj => by rw [Nat.zero_add]; exact hM j hj) fun j y t hij hy hyt hot => ?_
  rw [Nat.zero_add]
  have hyl := zip_fst hy
  rcases namesOk_spec l 0 D.names i j oo y.1 hij (zip_fst hx) hyl with h | ⟨_, h⟩
  · rw [Nat.zero_add] at h
    cases hL : Lf listed j with
    | false => rfl
    | true => have := hdc j y.1 hyl hL i h; rw [hni] at this; cases this
  · exact absurd (hdn t hot) (h t hyt)

theorem count_set {xs : List Bool} {i : Nat} (h : xs[i]? = some false) : (xs.set i true).count false + 1 = xs.count false := by
  induction xs generalizing i with
  | nil => simp at h
  | cons x xs ih =>
    cases i with
    | zero => simp at h; subst h; simp
    | succ i =>
      have := ih (i := i) (by simpa using h)
      simp only [List.set_cons_succ, List.count_cons]
      omega

theorem Lf_set {listed : Array Bool} {i : Nat} (hi : i < listed.size) : Lf (listed.setIfInBounds i true) i = true ∧ ∀ j, j ≠ i → Lf (listed.setIfInBounds i true) j = Lf listed j := by
  constructor
  · simp [Lf, Array.getD_eq_getD_getElem?, hi]
  · intro j hj
    exact getD_set_ne false (Ne.symm hj)

theorem draw_go (D : Dr P ap ops l es T0 H0 T' H') (ha : ApOK P ap) {m0 : Mp} {h0 : H} {w0 : World} {ds : List Deferred} {ro : Option Nat} {n : Nat} {Q : Exit → Act → World → Prop}
    (hQ : ∀ m' w' a', Mid P m0 h0 w0 m' H' w' T' ds a' → Q .normal a' w') :
    ∀ (fuel : Nat) (listed : Array Bool), listed.size = ops.size → listed.toList.count false ≤ fuel → DC l listed → ∀ (m : Mp) (w : World) (a : Act),
      Mid P m0 h0 w0 m (hS (Lf listed) (l.zip es) 0 H0) w (tS (Lf listed) (l.zip es) 0 T0) ds a → wpAnyIn (FF ro) n P .any ops Q fuel listed a w := by
  have hlen := (cOsFrom_at _ _ _ D.comp).1
  have hfin : ∀ (listed : Array Bool) (m : Mp) (w : World) (a : Act), (∀ i, i < ops.size → Lf listed i = true) → Mid P m0 h0 w0 m (hS (Lf listed) (l.zip es) 0 H0) w (tS (Lf listed) (l.zip es) 0 T0) ds a → Q .normal a w := by
    intro listed m w a hall md
    obtain ⟨e1, e2⟩ := D.dr.last (l.zip es) 0 T0 H0 T' H' (Lf listed) fun i hi => by
      rw [Nat.zero_add]
      refine hall i ?_
      rw [List.length_zip, D.len, Nat.min_self, hlen] at hi
      simpa using hi
    rw [e1, e2] at md
    exact hQ m w a md
  intro fuel
  induction fuel with
  | zero =>
    intro listed hsz hcnt hdc m w a md
    have hno : false ∉ listed.toList := List.count_eq_zero.1 (by omega)
    have hall : ∀ i, i < ops.size → Lf listed i = true := fun i hi => by
      have hi' : i < listed.size := by omega
      cases hb : listed[i] with
      | true => simp [Lf, Array.getD_eq_getD_getElem?, hi', hb]
      | false => exact absurd (by rw [← hb]; simp) hno
    refine ⟨List.eq_nil_iff_forall_not_mem.2 fun i hi => ?_, hfin listed m w a hall md⟩
    obtain ⟨h1, o, h2, _⟩ := mem_ready.1 hi
    have hi' : i < listed.size := by rw [hsz]; exact (Array.getElem?_eq_some_iff.1 h2).1
    have := hall i (by omega)
    simp [Lf, Array.getD_eq_getD_getElem?, hi'] at this h1
    rw [this] at h1; cases h1
  | succ fuel ih =>
    intro listed hsz hcnt hdc m w a md
    refine ⟨fun hnil => ?_, fun i hi => ?_⟩
    · refine hfin listed m w a (fun i => ?_) md
      induction i using Nat.strongRecOn with
      | _ i ihi =>
        intro hi
        cases hL : Lf listed i with
        | true => rfl
        | false =>
          exfalso
          have hmem : i ∈ Region.ready .any ops listed := by
            refine mem_ready.2 ⟨?_, ops[i], by simp [hi], fun e he hb => ?_⟩
            · have hi' : i < listed.size := by omega
              simpa [Lf, Array.getD_eq_getD_getElem?, hi'] using hL
            · have := edgesBelow_spec _ 0 D.edges i ops[i] (by simp [hi]) e (by simpa using he) hb
              exact ihi e.on (by omega) (by omega)
          rw [hnil] at hmem; cases hmem
    · obtain ⟨h1, o, ho, hr⟩ := mem_ready.1 hi
      have hio : i < ops.size := (Array.getElem?_eq_some_iff.1 ho).1
      have hi' : i < listed.size := by omega
      have hni : Lf listed i = false := by simpa [Lf, Array.getD_eq_getD_getElem?, hi'] using h1
      obtain ⟨oo, e, hoo, hx, c1, c2, c3, c4, c5, c6, k1, k2, k3⟩ := D.ent ho
      have hpre := D.pre hdc ho hoo hr
      obtain ⟨hMi, hM⟩ := Lf_set (listed := listed) hi'
      have hst := D.step hdc hx hni hpre k1 k2 k3 c6 c5 hMi hM
      have hput := D.put hdc hx hni c4 hMi hM
      have hdc' : DC l (listed.setIfInBounds i true) := by
        intro i' oo' hoo' hL' j hj
        have hsub : ∀ j, Lf listed j = true → Lf (listed.setIfInBounds i true) j = true := fun j hLj => by
          by_cases hji : j = i
          · subst hji; exact hMi
          · rw [hM j hji]; exact hLj
        by_cases hii : i' = i
        · subst hii
          rw [hoo] at hoo'; cases hoo'
          exact hsub j (hpre j hj)
        · rw [hM i' hii] at hL'
          exact hsub j (hdc i' oo' hoo' hL' j hj)
      have hcnt' : (listed.setIfInBounds i true).toList.count false ≤ fuel := by
        have := count_set (xs := listed.toList) (i := i) (by
          rw [Array.getElem?_toList]
          simpa [Lf, Array.getD_eq_getD_getElem?, hi'] using hni)
        rw [Array.toList_setIfInBounds]
        omega
      unfold wpOpIn
      simp only [ho]
      rw [wanted_sound md.cx.tr c2]
      split
      · rename_i hw
        rw [if_pos hw] at hst
        refine op_step ha md.cx c1 hst fun m' w' x e1 e2 e3 => ?_
        refine ih _ (by simpa using hsz) hcnt' hdc' m' w' _ ?_
        have := md.put e1 e2 e3 o.dst
        rw [← c3] at this
        rw [hput, ← c3]; exact this
      · rename_i hw
        rw [if_neg hw] at hst
        refine ⟨fun _ _ => trivial, ih _ (by simpa using hsz) hcnt' hdc' m w _ ?_⟩
        have := md.put (v := undefV) (x := undef) VR.undef md.cx.hr (Ext.refl _ _ _) o.dst
        rw [← c3] at this
        rw [hput, hst.1, hst.2, ← c3]; exact this
end

theorem draw_sound (hmix : P.follows .mixedOrders = true) (ha : ApOK P ap) {id : Nat} {ops : Array Oper} {l : List O} {m0 : Mp} {h0 : H} {w0 : World} {ds : List Deferred} {ro : Option Nat} {n : Nat} {Q : Exit → Act → World → Prop} {T' : List V} {h' : H}
    (hQ : ∀ m' w' a', Mid P m0 h0 w0 m' h' w' T' ds a' → Q .normal a' w') (hc : cRegion P ops.toList true = some (.draw l)) {T : List V} {h : H} (he : evDraw P ap l T h = some (T', h')) {m : Mp} {w : World} {a : Act} (md : Mid P m0 h0 w0 m h w T ds a) :
    (Code.region id ops true).wpIn (FF ro) n P Q a w := by
  unfold cRegion at hc
  split at hc
  · cases hc
  · rename_i l' hl
    simp only [if_true] at hc
    split at hc <;> cases hc
    rename_i hchk
    simp only [Bool.and_eq_true] at hchk
    unfold evDraw at he
    split at he
    · rename_i es T1 h1 hev
      simp only at he
      split at he <;> cases he
      rename_i hacts
      obtain ⟨k1, k2⟩ := evDr_ok l T h es T' h' hev
      have D : Dr P ap ops l es T h T' h' := ⟨hl, hchk.1, hchk.2, k1, k2, by simpa using hacts⟩
      refine wpIn_region_any hmix (draw_go D ha hQ ops.size _ (by simp) ?_ ?_ m _ a ?_)
      · simp
      · intro i oo _ hL
        exfalso
        simp [Lf, Array.getD_eq_getD_getElem?, Array.getElem?_replicate] at hL
        split at hL <;> simp at hL
      · have hLf : Lf (Array.replicate ops.size false) = fun _ => false := by
          funext j
          simp [Lf, Array.getD_eq_getD_getElem?, Array.getElem?_replicate]
          split <;> simp
        rw [hLf, hS_none _ _ _ (fun _ _ _ _ => rfl), List.ext_getElem? fun t => tS_none (t := t) (l.zip es) 0 T fun _ _ _ _ => rfl]
        exact ⟨⟨md.cx.tr, md.cx.hr.drew (Drew.one w)⟩, md.ext.trans (Ext.drew _ _ (Drew.one w)), md.defers⟩
    · cases he
end Go.AM
