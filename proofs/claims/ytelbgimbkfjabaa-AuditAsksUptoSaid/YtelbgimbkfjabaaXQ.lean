/- My own texts of the evaluator, its soundness and its symbolic runs, laid for this claim. -/
import Derived.Test.YtelbgimbkfjabaaXD
set_option linter.unusedSimpArgs false
set_option linter.unusedVariables false
/-! Regions that draw their order, where whoever acts only makes. -/
namespace Go.AM

/-! ### what is pure asks no heap; what is read stays -/
theorem ptrEq_keep {h h' : H} (hk : Kp h h') {a b : Nat × Nat} {r : Bool} (he : ptrEq h a b = some r) : ptrEq h' a b = some r := by
  unfold ptrEq at he ⊢
  split
  · rename_i h1; rw [if_pos h1] at he; exact he
  · rename_i h1
    rw [if_neg h1] at he
    split at he
    · rename_i g1 g2
      rw [hk.of g1, hk.of g2]; exact he
    · cases he

theorem allM_keep {f g : Nat → Option Bool} (hfg : ∀ i b, f i = some b → g i = some b) : ∀ (n i : Nat) {b : Bool}, allM f n i = some b → allM g n i = some b
  | 0, _, _, h => h
  | n + 1, i, b, h => by
    simp only [allM] at h ⊢
    cases hf : f i with
    | none => simp [hf] at h
    | some x =>
      rw [hfg i x hf]; rw [hf] at h
      cases x with
      | true => exact allM_keep hfg n (i + 1) h
      | false => exact h

theorem eqV_keep {h h' : H} (hk : Kp h h') : ∀ (e : EqT) (x y : V) (b : Bool), eqV h e x y = some b → eqV h' e x y = some b := by
  intro e
  induction e with
  | ptr =>
    intro x y b he
    unfold eqV at he ⊢
    split at he <;> first | exact he | exact ptrEq_keep hk he | simp_all
  | fcons off size agg e rest ih1 ih2 =>
    intro x y b he
    obtain ⟨xs, ys, rfl, rfl⟩ := eqV_fcons he
    simp only [eqV] at he ⊢
    split at he
    · rename_i u v h1 h2
      cases h3 : eqV h e u v with
      | none => simp [h3] at he
      | some r =>
        rw [ih1 _ _ _ h3]; rw [h3] at he
        cases r with
        | true => exact ih2 _ _ _ he
        | false => exact he
    · cases he
  | ar len size agg e ih =>
    intro x y b he
    obtain ⟨xs, ys, rfl, rfl⟩ := eqV_ar he
    simp only [eqV] at he ⊢
    refine allM_keep (fun i r hr => ?_) _ _ he
    split at hr
    · exact ih _ _ _ hr
    · cases hr
  | _ =>
    intro x y b he
    unfold eqV at he ⊢
    split at he <;> first | exact he | simp_all

theorem elemsV_keep {h h' : H} (hk : Kp h h') {size n : Nat} {v : V} {r : List V} (he : elemsV h size n v = some r) : elemsV h' size n v = some r := by
  cases v with
  | slice a len cap o =>
    cases a with
    | none => exact he
    | some p =>
      obtain ⟨i, q⟩ := p
      unfold elemsV at he ⊢
      simp only at he ⊢
      split at he
      · rename_i h0; rw [if_pos h0]; exact he
      · rename_i h0
        rw [if_neg h0]
        split at he
        · rename_i g; rw [hk.of g]; exact he
        · cases he
  | str s => exact he
  | _ => cases he

theorem evK_rd {P : Program} {T : List V} {h h' : H} {k : K} {v : V} (hk : Kp h h') (hr : evK P T h k = some (.rd v)) : evK P T h' k = some (.rd v) := by
  have o1 : ∀ {i : Nat} {o : Obj}, h.get i = some o → h'.get i = some o := fun g => hk.of g
  cases k with
  | bin op eq lit x y =>
    simp only [evK] at hr ⊢
    split at hr
    · rename_i a b h1 h2
      unfold binV at hr ⊢
      split at hr
      · exact hr
      · exact hr
      · cases eq with
        | none => simp at hr
        | some e =>
          simp only at hr ⊢
          split at hr
          · cases hr
          · cases he : eqV h e a b with
            | none => rw [he] at hr; cases op <;> simp at hr
            | some r => rw [eqV_keep hk _ _ _ _ he]; rw [he] at hr; exact hr
    · cases hr
  | b2s x =>
    simp only [evK] at hr ⊢
    split at hr
    · rename_i a len c o h1
      split at hr
      · rename_i cs h2; simp only [elemsV_keep hk h2]; exact hr
      · cases hr
    · cases hr
  | app ty size bytes s x =>
    simp only [evK] at hr
    split at hr
    · obtain ⟨v', h1, e⟩ := appV_eff hr; cases e
    · cases hr
  | _ =>
    simp only [evK] at hr ⊢
    repeat' split at hr
    all_goals first
      | (cases hr; done)
      | (obtain ⟨v', _, e⟩ := Option.map_eq_some_iff.1 hr; cases e; done)
      | simp_all

/-! ### stepping where whoever acts only makes -/
def flagsFrom : List Nat → List O → Nat → List Bool
  | _, [], _ => []
  | acts, o :: r, i => acts.all (fun a => o.pre.testBit a) :: flagsFrom (if o.op.still then acts else i :: acts) r (i + 1)
def chained : List Bool → List O → Bool
  | f :: fs, o :: r => (o.op.still || f || o.op.fl) && chained fs r
  | _, _ => true

section
variable (P : Program) (E : Env) (ro : Option Nat) (L : Nat) (S : List Fr) (Q : Po) (h0 : H)
def XDQ : List Bool → List O → (Nat → V) → H → Prop
  | f :: fs, o :: r, ρ, h =>
    if wantV (toL L ρ) o.guard then
      if o.op.still then match evK P (toL L ρ) (if f then h else h0) o.op with
        | some (.pur v) => XDQ fs r (upo ρ o.dst v) h
        | some (.rd v) => v.nj = true ∧ XDQ fs r (upo ρ o.dst v) h
        | _ => False
      else match evK P (toL L ρ) h o.op with
        | some (.eff v h') => Kp h h' ∧ XDQ fs r (upo ρ o.dst v) h'
        | some (.call g args) => ∃ v h', AP P E g args h = some (v, h') ∧ Kp h h' ∧ XDQ fs r (upo ρ o.dst v) h'
        | _ => False
    else XDQ fs r (upo ρ o.dst undefV) h
  | _, _, ρ, h => X P E ro L S ρ h Q
end

variable {P : Program} {E : Env} {ro : Option Nat} {L : Nat} {S : List Fr} {Q : Po} {h0 : H}

def EntsQ (P : Program) (h0 : H) : List Bool → List O → List Ent → Prop
  | f :: fs, o :: r, e :: es => (e.act = true → Kp e.h e.h') ∧ (e.rd = true → e.v.nj = true ∧ (f = true ∨ evK P e.T h0 o.op = some (.rd e.v))) ∧ EntsQ P h0 fs r es
  | _, _, _ => True

theorem XDQ_ents : ∀ (fs : List Bool) (ops : List O) (ρ : Nat → V) (h : H), fs.length = ops.length → Kp h0 h → XDQ P E ro L S Q h0 fs ops ρ h →
    ∃ es T' h', evDr P (AP P E) ops (toL L ρ) h = some (es, T', h') ∧ EntsQ P h0 fs ops es ∧ XX P E ro S .nrm T' h' Q
  | [], [], ρ, h, _, _, hx => ⟨[], toL L ρ, h, rfl, trivial, by simpa only [XDQ, X] using hx⟩
  | [], _ :: _, _, _, hl, _, _ => by simp at hl
  | _ :: _, [], _, _, hl, _, _ => by simp at hl
  | f :: fs, o :: r, ρ, h, hl, hk, hx => by
    have one : ∀ (ent : Ent) (v : V) (h1 : H), (ent.act = true → Kp ent.h ent.h') → (ent.rd = true → ent.v.nj = true ∧ (f = true ∨ evK P ent.T h0 o.op = some (.rd ent.v))) → Kp h0 h1 → XDQ P E ro L S Q h0 fs r (upo ρ o.dst v) h1 →
        ∃ es T' h', ((evDr P (AP P E) r (putV (toL L ρ) o.dst v) h1).map fun x => (ent :: x.1, x.2)) = some (es, T', h') ∧ EntsQ P h0 (f :: fs) (o :: r) es ∧ XX P E ro S .nrm T' h' Q := by
      intro ent v h1 a1 a2 a3 a4
      obtain ⟨es, T', h', e1, e2, e3⟩ := XDQ_ents fs r _ h1 (by simpa using hl) a3 a4
      exact ⟨ent :: es, T', h', by rw [putV_upo, e1]; rfl, ⟨a1, a2, e2⟩, e3⟩
    unfold XDQ at hx
    simp only [evDr]
    split at hx
    · rename_i hw
      simp only [hw, if_true]
      split at hx
      · have key : ∀ x, evK P (toL L ρ) (if f then h else h0) o.op = some x → ((∃ v, x = .pur v) ∨ ∃ v, x = .rd v) → evK P (toL L ρ) h o.op = some x := by
          intro x he hp
          cases f with
          | true => simpa using he
          | false =>
            simp only [Bool.false_eq_true, if_false] at he
            rcases hp with ⟨v, rfl⟩ | ⟨v, rfl⟩
            · exact evK_pur he
            · exact evK_rd hk he
        split at hx
        · rename_i v he
          rw [key _ he (.inl ⟨v, rfl⟩)]
          exact one ⟨toL L ρ, h, h, v, false, false⟩ v h (by simp) (by simp) hk hx
        · rename_i v he
          rw [key _ he (.inr ⟨v, rfl⟩)]
          refine one ⟨toL L ρ, h, h, v, false, true⟩ v h (by simp) (fun _ => ⟨hx.1, ?_⟩) hk hx.2
          cases f with
          | true => exact .inl rfl
          | false => right; simpa using he
        · exact hx.elim
      · split at hx
        · rename_i v h' he
          rw [he]
          exact one ⟨toL L ρ, h, h', v, true, false⟩ v h' (fun _ => hx.1) (by simp) (hk.trans hx.1) hx.2
        · rename_i g args he
          rw [he]
          obtain ⟨v, h', ha, hk2, hx⟩ := hx
          simp only [ha]
          exact one ⟨toL L ρ, h, h', v, true, false⟩ v h' (fun _ => hk2) (by simp) (hk.trans hk2) hx
        · exact hx.elim
    · rename_i hw
      simp only [hw]
      exact one ⟨toL L ρ, h, h, undefV, false, false⟩ undefV h (by simp) (by simp) hk hx

theorem EntsQ_get : ∀ (fs : List Bool) (ops : List O) (es : List Ent), EntsQ P h0 fs ops es → ∀ (i : Nat) f o e, fs[i]? = some f → ops[i]? = some o → es[i]? = some e →
    (e.act = true → Kp e.h e.h') ∧ (e.rd = true → e.v.nj = true ∧ (f = true ∨ evK P e.T h0 o.op = some (.rd e.v)))
  | [], _, _, _, _, _, _, _, h, _, _ => by simp at h
  | _ :: _, [], _, _, _, _, _, _, _, h, _ => by simp at h
  | _ :: _, _ :: _, [], _, _, _, _, _, _, _, h => by simp at h
  | f :: fs, o :: ops, e :: es, hq, i, f', o', e', h1, h2, h3 => by
    cases i with
    | zero => simp at h1 h2 h3; subst h1 h2 h3; exact ⟨hq.1, hq.2.1⟩
    | succ i => exact EntsQ_get fs ops es hq.2.2 i f' o' e' (by simpa using h1) (by simpa using h2) (by simpa using h3)

theorem flags_get : ∀ (ops : List O) (acts : List Nat) (j i : Nat) (o : O), ops[i]? = some o → ∃ f, (flagsFrom acts ops j)[i]? = some f ∧ (f = true → (∀ a ∈ acts, o.pre.testBit a = true) ∧ ∀ (k : Nat) o', k < i → ops[k]? = some o' → o'.op.still = false → o.pre.testBit (j + k) = true)
  | [], _, _, _, _, h => by simp at h
  | o1 :: ops, acts, j, 0, o, h => by
    simp at h; subst h
    refine ⟨_, rfl, fun hf => ⟨fun a ha => ?_, fun k o' hk => by omega⟩⟩
    exact List.all_eq_true.1 hf a ha
  | o1 :: ops, acts, j, i + 1, o, h => by
    obtain ⟨f, h1, h2⟩ := flags_get ops (if o1.op.still then acts else j :: acts) (j + 1) i o (by simpa using h)
    refine ⟨f, by simpa [flagsFrom] using h1, fun hf => ?_⟩
    obtain ⟨a1, a2⟩ := h2 hf
    refine ⟨fun a ha => a1 a ?_, fun k o' hk ho' hs => ?_⟩
    · split
      · exact ha
      · exact List.mem_cons_of_mem _ ha
    · cases k with
      | zero =>
        simp at ho'; subst ho'
        have := a1 j (by rw [hs]; simp)
        simpa using this
      | succ k =>
        have := a2 k o' (by omega) (by simpa using ho') hs
        rwa [show j + (k + 1) = j + 1 + k by omega]
theorem chained_get : ∀ (fs : List Bool) (ops : List O), chained fs ops = true → ∀ (i : Nat) f o, fs[i]? = some f → ops[i]? = some o → o.op.still = false → f = true ∨ o.op.fl = true
  | [], _, _, _, _, _, h, _, _ => by simp at h
  | _ :: _, [], _, _, _, _, _, h, _ => by simp at h
  | f :: fs, o :: ops, hc, i, f', o', h1, h2, hs => by
    simp only [chained, Bool.and_eq_true, Bool.or_eq_true] at hc
    cases i with
    | zero => simp at h1 h2; subst h1 h2; exact hc.1.imp (fun h => h.resolve_left (by rw [hs]; simp)) id
    | succ i => exact chained_get fs ops hc.2 i f' o' (by simpa using h1) (by simpa using h2) hs

theorem readsQ {o : O} {e : Ent} {i : Nat} (hpre : (∀ h, Kp h0 h → sameAt P o e h = true) ∨ ((∀ h, Kp e.h h → sameAt P o e h = true) ∧ True)) (hna : e.act = false) : ∀ (ops : List O) (es : List Ent) (j : Nat) (h : H),
    (∀ e0, es[0]? = some e0 → e0.h = h) → (∀ (k : Nat) a b, es[k]? = some a → es[k + 1]? = some b → b.h = a.h') → (∀ (k : Nat) a, es[k]? = some a → a.act = false → a.h' = a.h) → (∀ (k : Nat) a, es[k]? = some a → a.act = true → Kp a.h a.h') → es.length = ops.length →
    Kp h0 h → (j ≤ i → es[i - j]? = some e) → (i < j → Kp e.h h) →
    ((∀ h, Kp h0 h → sameAt P o e h = true) ∨ ∀ (k : Nat) a, es[k]? = some a → a.act = true → j + k < i → o.pre.testBit (j + k) = true) →
    readsOk P o e i h (actsOf ops es j) = true
  | [], [], j, h, _, _, _, _, _, hk, h4, h5, _ => by
    have hji : i < j := by
      rcases Nat.lt_or_ge i j with h | h
      · exact h
      · have := h4 h; simp at this
    simp only [actsOf, readsOk]
    rcases hpre with hp | hp
    · exact hp h hk
    · exact hp.1 h (h5 hji)
  | [], _ :: _, _, _, _, _, _, _, hl, _, _, _, _ => by simp at hl
  | _ :: _, [], _, _, _, _, _, _, hl, _, _, _, _ => by simp at hl
  | o1 :: ops, e1 :: es, j, h, h1, h2, h3, h3', hl, hk, h4, h5, h6 => by
    have e1h := h1 e1 rfl
    have nxt : ∀ h', e1.h' = h' → Kp h0 h' → (i < j + 1 → Kp e.h h') → readsOk P o e i h' (actsOf ops es (j + 1)) = true := by
      intro h' hh hk' hlast
      refine readsQ hpre hna ops es (j + 1) h' (fun e0 he0 => ?_) (fun k a b ha hb => h2 (k + 1) a b (by simpa using ha) (by simpa using hb)) (fun k a ha => h3 (k + 1) a (by simpa using ha)) (fun k a ha => h3' (k + 1) a (by simpa using ha)) (by simpa using hl) hk'
        (fun hj => ?_) hlast ?_
      · rw [← hh]; exact h2 0 e1 e0 rfl (by simpa using he0)
      · have := h4 (by omega)
        rw [show i - j = (i - (j + 1)) + 1 by omega] at this
        simpa using this
      · rcases h6 with h6 | h6
        · exact .inl h6
        · refine .inr fun k a ha hact hlt => ?_
          have := h6 (k + 1) a (by simpa using ha) hact (by omega)
          rwa [show j + (k + 1) = j + 1 + k by omega] at this
    have heq : ∀ {x}, j = i → e1 = x → x = e → True := fun _ _ _ => trivial
    unfold actsOf
    by_cases ha : e1.act = true
    · simp only [ha, if_true, readsOk]
      have hkk : Kp h e1.h' := by rw [← e1h]; exact h3' 0 e1 rfl ha
      have hne : j ≠ i := by
        intro hji
        have := h4 (by omega)
        rw [hji, Nat.sub_self] at this
        simp at this; subst this
        rw [hna] at ha; cases ha
      rw [nxt e1.h' rfl (hk.trans hkk) (fun hh => (h5 (by omega)).trans hkk)]
      simp only [Bool.or_true, Bool.and_true, Bool.or_eq_true]
      rcases h6 with h6 | h6
      · exact .inr (h6 h hk)
      · rcases Nat.lt_or_ge j i with hlt | hge
        · exact .inl (.inl (by simpa using h6 0 e1 rfl ha (by omega)))
        · rcases hpre with hp | hp
          · exact .inr (hp h hk)
          · exact .inr (hp.1 h (h5 (by omega)))
    · have ha' : e1.act = false := by simpa using ha
      simp only [ha', Bool.false_eq_true, if_false]
      have hh := h3 0 e1 rfl ha'
      refine nxt h (hh.trans e1h) hk fun hji => ?_
      rcases Nat.lt_or_ge i j with hlt | hge
      · exact h5 hlt
      · have hij : i = j := by omega
        have := h4 hge
        rw [hij, Nat.sub_self] at this
        simp at this; subst this
        rw [e1h]; exact Keeps.refl _ _

theorem XD_quiet {ops : List O} {fs : List Bool} {ρ : Nat → V} (hf : flagsFrom [] ops 0 = fs) (hc : (chained fs ops && fstat ops) = true) (hx : XDQ P E ro L S Q h0 fs ops ρ h0) : XD P E ro L ops S ρ h0 Q := by
  have hlen : fs.length = ops.length := by
    rw [← hf]
    have : ∀ (ops : List O) (acts : List Nat) (j : Nat), (flagsFrom acts ops j).length = ops.length := by
      intro ops
      induction ops with
      | nil => intro _ _; rfl
      | cons o r ih => intro _ _; simp [flagsFrom, ih]
    exact this _ _ _
  obtain ⟨es, T', h', he, hq, hX⟩ := XDQ_ents fs ops ρ h0 hlen (Keeps.refl _ _) hx
  obtain ⟨e1, e2, e3, e4, e5⟩ := evDr_ents ops (toL L ρ) h0 es T' h' he
  refine ⟨T', h', ?_, hX⟩
  have fget : ∀ (i : Nat) o, ops[i]? = some o → ∃ f, fs[i]? = some f ∧ (f = true → ∀ (k : Nat) o', k < i → ops[k]? = some o' → o'.op.still = false → o.pre.testBit k = true) := fun i o hi => by
    obtain ⟨f, h1, h2⟩ := flags_get ops [] 0 i o hi
    rw [hf] at h1
    refine ⟨f, h1, fun hft k o' hk ho' hs => ?_⟩
    have := (h2 hft).2 k o' hk ho' hs
    simpa using this
  have hkp : ∀ (k : Nat) a, es[k]? = some a → a.act = true → Kp a.h a.h' := fun k a ha hact => by
    have hkl : k < ops.length := by rw [← e1]; exact (List.getElem?_eq_some_iff.1 ha).1
    obtain ⟨f, hf1, _⟩ := fget k ops[k] (List.getElem?_eq_getElem hkl)
    exact (EntsQ_get fs ops es hq k f ops[k] a hf1 (List.getElem?_eq_getElem hkl) ha).1 hact
  rw [Bool.and_eq_true] at hc
  obtain ⟨hc, hfs⟩ := hc
  have hfl : floatOk (actsF ops es 0) ops = true := fstat_ok hfs fun k o e a1 a2 a3 => (e2 k e o a2 a1).1 a3
  have hch : chainF (actsF ops es 0) = true := chain_ok ops es 0 fun k l o o' a b a1 a2 a3 a4 a5 a6 a7 => by
    have hs := (e2 k a o a3 a1).1 a5
    have hs' := (e2 l b o' a4 a2).1 a6
    obtain ⟨f, hf1, hf2⟩ := fget l o' a2
    rw [Nat.zero_add]
    exact (chained_get fs ops hc l f o' hf1 a2 hs').elim (fun hft => .inr (hf2 hft k o a7 a1 hs)) .inl
  have hheap : ∀ (k : Nat) a, es[k]? = some a → Kp h0 a.h := by
    intro k
    induction k with
    | zero => intro a ha; rw [e3 a ha]; exact Keeps.refl _ _
    | succ k ih =>
      intro a ha
      have hkl : k < es.length := by have := (List.getElem?_eq_some_iff.1 ha).1; omega
      have hb := ih es[k] (List.getElem?_eq_getElem hkl)
      rw [e4 k es[k] a (List.getElem?_eq_getElem hkl) ha]
      cases hact : es[k].act with
      | true => exact hb.trans (hkp k es[k] (List.getElem?_eq_getElem hkl) hact)
      | false => rw [e5 k es[k] (List.getElem?_eq_getElem hkl) hact]; exact hb
  have hrd : rdsOk P (actsOf ops es 0) h0 ops es 0 = true := rds_ok ops es 0 fun k o e a1 a2 a3 => by
    rw [Nat.zero_add]
    obtain ⟨q1, q2⟩ := (e2 k e o a2 a1).2 a3
    obtain ⟨f, hf1, hf2⟩ := fget k o a1
    obtain ⟨hnj, hor⟩ := (EntsQ_get fs ops es hq k f o e hf1 a1 a2).2 a3
    have hsame : ∀ hh, evK P e.T hh o.op = some (.rd e.v) → sameAt P o e hh = true := fun hh hv => by
      unfold sameAt; rw [hv]; exact V.beq_refl _ hnj
    rcases hor with hft | hv0
    · refine readsQ (h0 := h0) (.inr ⟨fun hh hk => hsame hh (evK_rd hk q1), trivial⟩) q2 ops es 0 h0 e3 e4 e5 hkp e1 (Keeps.refl _ _) (fun _ => by simpa using a2) (fun hh => by omega) (.inr fun l a b1 b3 b4 => ?_)
      rw [Nat.zero_add] at b4 ⊢
      have hll : l < ops.length := by rw [← e1]; exact (List.getElem?_eq_some_iff.1 b1).1
      exact hf2 hft l ops[l] b4 (List.getElem?_eq_getElem hll) ((e2 l a ops[l] b1 (List.getElem?_eq_getElem hll)).1 b3)
    · have hall : ∀ hh, Kp h0 hh → sameAt P o e hh = true := fun hh hk => hsame hh (evK_rd hk hv0)
      exact readsQ (.inl hall) q2 ops es 0 h0 e3 e4 e5 hkp e1 (Keeps.refl _ _) (fun _ => by simpa using a2) (fun hh => by omega) (.inl hall)
  unfold evDraw
  rw [he]
  simp only [hch, hrd, hfl, Bool.and_self, Bool.or_true, if_true]

/-! ### the steps' equations -/
section
variable {ρ : Nat → V} {h : H} {f : Bool} {fs : List Bool} {r : List O}
def XSQ (P : Program) (E : Env) (ro : Option Nat) (L : Nat) (S : List Fr) (Q : Po) (h0 : H) (fs : List Bool) (dst : Option Nat) (r : List O) (ρ : Nat → V) (h : H) : Option Res → Prop
  | some (.pur v) => XDQ P E ro L S Q h0 fs r (upo ρ dst v) h
  | some (.rd v) => v.nj = true ∧ XDQ P E ro L S Q h0 fs r (upo ρ dst v) h
  | _ => False
def XCQ (P : Program) (E : Env) (ro : Option Nat) (L : Nat) (S : List Fr) (Q : Po) (h0 : H) (fs : List Bool) (g : V) (args : List V) (dst : Option Nat) (r : List O) (ρ : Nat → V) (h : H) : Prop :=
  ∃ v h', AP P E g args h = some (v, h') ∧ Kp h h' ∧ XDQ P E ro L S Q h0 fs r (upo ρ dst v) h'
def XAQ (P : Program) (E : Env) (ro : Option Nat) (L : Nat) (S : List Fr) (Q : Po) (h0 : H) (fs : List Bool) (dst : Option Nat) (r : List O) (ρ : Nat → V) (h : H) : Option Res → Prop
  | some (.eff v h') => Kp h h' ∧ XDQ P E ro L S Q h0 fs r (upo ρ dst v) h'
  | some (.call g args) => XCQ P E ro L S Q h0 fs g args dst r ρ h
  | _ => False
/-! which operations are still -/
theorem still_mv (a : A) : K.still (.mv a) = true := rfl
theorem still_pick (c a b : A) : K.still (.pick c a b) = true := rfl
theorem still_alloc (ty : Nat) (z : List V) : K.still (.alloc ty z) = false := rfl
theorem still_box (ty : Nat) (a : A) : K.still (.box ty a) = false := rfl
theorem still_build (z : List V) (ps : List (Nat × Nat × A)) : K.still (.build z ps) = true := rfl
theorem still_bslice (ty len : Nat) (z : List V) (ps : List (Nat × Nat × A)) : K.still (.bslice ty len z ps) = false := rfl
theorem still_load1 (a : A) : K.still (.load1 a) = true := rfl
theorem still_loadN (n : Nat) (a : A) : K.still (.loadN n a) = true := rfl
theorem still_store (n : Nat) (a v : A) : K.still (.store n a v) = false := rfl
theorem still_nilck (a : A) : K.still (.nilck a) = true := rfl
theorem still_bin (op : BinOp) (eq : Option EqT) (lit : Bool) (x y : A) : K.still (.bin op eq lit x y) = true := rfl
theorem still_un (op : UnOp) (x : A) : K.still (.un op x) = true := rfl
theorem still_cvt (k : IntKind) (x : A) : K.still (.cvt k x) = true := rfl
theorem still_s2b (ty : Nat) (x : A) : K.still (.s2b ty x) = false := rfl
theorem still_b2s (x : A) : K.still (.b2s x) = true := rfl
theorem still_mkI (ty : Nat) (x : A) : K.still (.mkI ty x) = true := rfl
theorem still_mkF (f : Nat) (fs cs : List A) : K.still (.mkF f fs cs) = true := rfl
theorem still_mkMap  : K.still (.mkMap ) = false := rfl
theorem still_mkSlice (ty bytes : Nat) (z : List V) (len cap : A) : K.still (.mkSlice ty bytes z len cap) = false := rfl
theorem still_slS (x : A) (lo hi : Option A) : K.still (.slS x lo hi) = true := rfl
theorem still_slL (size : Nat) (x : A) (lo hi mx : Option A) : K.still (.slL size x lo hi mx) = true := rfl
theorem still_fadr (off : Nat) (x : A) : K.still (.fadr off x) = true := rfl
theorem still_iadrL (size : Nat) (x i : A) : K.still (.iadrL size x i) = true := rfl
theorem still_iadrA (len size : Nat) (x i : A) : K.still (.iadrA len size x i) = true := rfl
theorem still_fld (off size : Nat) (agg : Bool) (x : A) : K.still (.fld off size agg x) = true := rfl
theorem still_idxA (len size : Nat) (agg : Bool) (x i : A) : K.still (.idxA len size agg x i) = true := rfl
theorem still_idxS (x i : A) : K.still (.idxS x i) = true := rfl
theorem still_lookup (kt : EqT) (z : V) (ok : Bool) (m k : A) : K.still (.lookup kt z ok m k) = true := rfl
theorem still_mapUpd (kt : EqT) (m k v : A) : K.still (.mapUpd kt m k v) = false := rfl
theorem still_mapDel (kt : EqT) (m k : A) : K.still (.mapDel kt m k) = false := rfl
theorem still_rng (isStr : Bool) (x : A) : K.still (.rng isStr x) = false := rfl
theorem still_next (isStr : Bool) (x : A) : K.still (.next isStr x) = false := rfl
theorem still_entry (x : A) : K.still (.entry x) = true := rfl
theorem still_extract (x : A) (i : Nat) : K.still (.extract x i) = true := rfl
theorem still_lenS (x : A) : K.still (.lenS x) = true := rfl
theorem still_lenL (x : A) : K.still (.lenL x) = true := rfl
theorem still_lenM (x : A) : K.still (.lenM x) = true := rfl
theorem still_app (ty size bytes : Nat) (s x : A) : K.still (.app ty size bytes s x) = false := rfl
theorem still_copy (size : Nat) (d s : A) : K.still (.copy size d s) = false := rfl
theorem still_minmax (mx : Bool) (xs : List A) : K.still (.minmax mx xs) = true := rfl
theorem still_call (f : A) (args : List A) : K.still (.call f args) = false := rfl
theorem still_bad  : K.still (.bad ) = false := rfl
theorem still_slA (n size : Nat) (x : A) (lo hi mx : Option A) : K.still (.slA n size x lo hi mx) = true := rfl
theorem still_capL (x : A) : K.still (.capL x) = true := rfl
theorem still_appZ (ty size bytes : Nat) (z : List V) (s x : A) : K.still (.appZ ty size bytes z s x) = false := rfl
theorem still_i2s (x : A) : K.still (.i2s x) = true := rfl
theorem still_sid (x : A) : K.still (.sid x) = true := rfl
theorem still_same (x : A) : K.still (.same x) = false := rfl
theorem still_p2u (x : A) : K.still (.p2u x) = true := rfl
theorem still_u2p (u : Nat) (x : A) : K.still (.u2p u x) = true := rfl
theorem still_usd (x : A) : K.still (.usd x) = true := rfl
theorem still_ustr (u : Nat) (x n : A) : K.still (.ustr u x n) = false := rfl
theorem still_mkNZ (ty : Nat) (x : A) : K.still (.mkNZ ty x) = false := rfl
theorem still_tass (ty : Nat) (z : V) (ok : Bool) (x : A) : K.still (.tass ty z ok x) = true := rfl
theorem still_inv (name : String) (x : A) (args : List A) : K.still (.inv name x args) = false := rfl
theorem XDQ_nil : XDQ P E ro L S Q h0 [] [] ρ h = X P E ro L S ρ h Q := by simp only [XDQ]
theorem XDQ_cons (dst : Option Nat) (k : AM.K) (g : Option (Nat × Bool)) (pre : Nat) (ns : List Nat) :
    XDQ P E ro L S Q h0 (f :: fs) (⟨dst, k, g, pre, ns⟩ :: r) ρ h = if wantV (toL L ρ) g then
      (if k.still then XSQ P E ro L S Q h0 fs dst r ρ h (evK P (toL L ρ) (if f then h else h0) k) else XAQ P E ro L S Q h0 fs dst r ρ h (evK P (toL L ρ) h k))
      else XDQ P E ro L S Q h0 fs r (upo ρ dst undefV) h := by
  simp only [XDQ]
  split
  · split
    · cases evK P (toL L ρ) (if f then h else h0) k with
      | none => rfl
      | some x => cases x <;> rfl
    · cases evK P (toL L ρ) h k with
      | none => rfl
      | some x => cases x <;> rfl
  · rfl
theorem XSQ_pur (dst : Option Nat) (v : V) : XSQ P E ro L S Q h0 fs dst r ρ h (some (.pur v)) = XDQ P E ro L S Q h0 fs r (upo ρ dst v) h := rfl
theorem XSQ_rd (dst : Option Nat) (v : V) : XSQ P E ro L S Q h0 fs dst r ρ h (some (.rd v)) = (v.nj = true ∧ XDQ P E ro L S Q h0 fs r (upo ρ dst v) h) := rfl
theorem XAQ_eff (dst : Option Nat) (v : V) (h' : H) : XAQ P E ro L S Q h0 fs dst r ρ h (some (.eff v h')) = (Kp h h' ∧ XDQ P E ro L S Q h0 fs r (upo ρ dst v) h') := rfl
theorem XAQ_call (dst : Option Nat) (g : V) (args : List V) : XAQ P E ro L S Q h0 fs dst r ρ h (some (.call g args)) = XCQ P E ro L S Q h0 fs g args dst r ρ h := rfl
theorem XCQ_of {g : V} {args : List V} {R : V → H → Prop} (s : Sp P E g args h R) {dst : Option Nat} (hk : ∀ v h', R v h' → Kp h h' ∧ XDQ P E ro L S Q h0 fs r (upo ρ dst v) h') : XCQ P E ro L S Q h0 fs g args dst r ρ h := by
  obtain ⟨v, h', e, q⟩ := s
  exact ⟨v, h', e, hk v h' q⟩
end
end Go.AM
