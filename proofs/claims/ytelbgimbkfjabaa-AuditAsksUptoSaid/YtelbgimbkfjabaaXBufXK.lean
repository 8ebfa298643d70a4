/- My own texts of the evaluator, its soundness and its symbolic runs, laid for this claim. -/
import Derived.Test.YtelbgimbkfjabaaXQ
import Derived.Lib.ItoaLen
set_option linter.unusedSimpArgs false
set_option linter.unusedVariables false
/-! Bytes that grow: append on []byte, and strings.Builder. -/
namespace Go.AM

def byt (b : UInt8) : V := .int .u8 b.toNat
def bytes (s : List UInt8) : List V := s.map byt
theorem bytes_len (s : List UInt8) : (bytes s).length = s.length := by simp [bytes]
theorem bytes_nil : bytes [] = [] := rfl
theorem bytes_one (b : UInt8) : bytes [b] = [.int .u8 b.toNat] := rfl
theorem bytes_app (s t : List UInt8) : bytes (s ++ t) = bytes s ++ bytes t := by simp [bytes]
theorem bytes_all (s : List UInt8) : (bytes s).all V.one = true := by
  simp only [bytes, List.all_map, List.all_eq_true]
  intro _ _; rfl
theorem bytesV_bytes : ∀ (s : List UInt8), bytesV (bytes s) = some s
  | [] => rfl
  | b :: s => by
    have ih := bytesV_bytes s
    simp only [bytes, byt] at ih
    simp only [bytes, List.map_cons, byt, bytesV, ih, Int.toNat_natCast]
    congr 1
    simp
theorem elemsV_str (h : H) (s : List UInt8) : elemsV h 1 s.length (.str s) = some (bytes s) := by
  simp only [elemsV, if_true, List.take_length]; rfl

theorem bounds_hi {len cap : Nat} {k : IntKind} {a : Int} (h : 0 ≤ a ∧ a ≤ (cap : Int)) : boundsV len cap none (some (.int k a)) none = some (0, a.toNat, cap) := by
  unfold boundsV; simp only [boundV, h, and_self, if_true]
theorem bounds_lo {len cap : Nat} {k : IntKind} {a : Int} (h : 0 ≤ a ∧ a ≤ (len : Int)) : boundsV len cap (some (.int k a)) none none = some (a.toNat, len, cap) := by
  unfold boundsV; simp only [boundV, h, and_self, if_true]
theorem bounds_both {len cap : Nat} {k k' : IntKind} {a b : Int} (h : 0 ≤ b ∧ b ≤ (cap : Int)) (h' : 0 ≤ a ∧ a ≤ ((b.toNat : Nat) : Int)) : boundsV len cap (some (.int k a)) (some (.int k' b)) none = some (a.toNat, b.toNat, cap) := by
  unfold boundsV; simp only [boundV, h, h', and_self, if_true]

def Buf (h : H) (lo : Nat) (v : V) (s : List UInt8) : Prop :=
  (v = .slice none 0 0 false ∧ s = []) ∨ ∃ b r, v = .slice (some (b, 0)) s.length (s.length + r.length) true ∧ (lo ≤ b ∧ 0 < s.length + r.length) ∧ h.get b = some (.cells (bytes s ++ r) 5 true false none)
theorem Buf.nil (h : H) (lo : Nat) : Buf h lo (.slice none 0 0 false) [] := .inl ⟨rfl, rfl⟩
theorem Buf.keep {h h' : H} {lo n : Nat} {v : V} {s : List UInt8} (a : Buf h lo v s) (hk : Kp h h') (hn : n ≤ lo) : Buf h' n v s := by
  rcases a with a | ⟨b, r, h1, h2, h3⟩
  · exact .inl a
  · exact .inr ⟨b, r, h1, ⟨by omega, h2.2⟩, hk.of h3⟩
theorem Buf.other {h h' : H} {lo : Nat} {v : V} {s : List UInt8} (a : Buf h lo v s) (hk : ∀ b o ty r, h.get b = some (.cells r ty true o none) → h'.get b = h.get b) : Buf h' lo v s := by
  rcases a with a | ⟨b, r, h1, h2, h3⟩
  · exact .inl a
  · exact .inr ⟨b, r, h1, h2, by rw [hk _ _ _ _ h3]; exact h3⟩

def Frz (h h' : H) : Prop := ∀ i vs ty op ro f, h.get i = some (.cells vs ty op ro (some f)) → h'.get i = h.get i
theorem Frz.refl (h : H) : Frz h h := fun _ _ _ _ _ _ _ => rfl
theorem Frz.trans {a b c : H} (x : Frz a b) (y : Frz b c) : Frz a c := fun i vs ty op ro f hg => by
  have h1 := x i vs ty op ro f hg
  rw [y i vs ty op ro f (by rw [h1]; exact hg), h1]
theorem Frz.kp {h h' : H} (k : Kp h h') : Frz h h' := fun i vs ty op ro f hg => k.get i (H.get_lt hg)
theorem Frz.set {h : H} {b : Nat} {vs : List V} {ty : Nat} {op ro : Bool} (hg : h.get b = some (.cells vs ty op ro none)) (o : Obj) : Frz h (h.set b o) := fun i vs' ty' op' ro' f hi => by
  refine hset_other (H.get_lt hg) (fun e => ?_) o
  subst e; rw [hg] at hi; cases hi

theorem setR_mid (a n r : List V) (hn : n.length ≤ r.length) : setR (a ++ r) a.length n = a ++ n ++ r.drop n.length := by
  unfold setR
  rw [List.take_left', List.drop_append]
  · rw [List.drop_eq_nil_of_le (by omega), show a.length + n.length - a.length = n.length by omega]; simp
  · rfl

theorem buf_app {h : H} {lo : Nat} {v x : V} {s y : List UInt8} (a : Buf h lo v s) (hlo : lo ≤ h.size) (hl : lenV x = some y.length) (he : elemsV h 1 y.length x = some (bytes y)) (hb : s.length + y.length ≤ 549755813888) :
    ∃ v' h', appV h 5 1 1 v x = some (.eff v' h') ∧ Buf h' lo v' (s ++ y) ∧ Keeps lo h h' ∧ Frz h h' := by
  have hy := bytes_all y
  rcases a with ⟨rfl, rfl⟩ | ⟨b, r, rfl, h2, h3⟩
  · by_cases hn : y.length = 0
    · have : y = [] := List.eq_nil_of_length_eq_zero hn
      subst this
      refine ⟨.slice none 0 0 false, h, ?_, .nil h lo, Keeps.refl _ _, Frz.refl _⟩
      simp only [List.length_nil] at hl he
      unfold appV; simp [hl, he]
    · refine ⟨.slice (some (h.size, 0)) y.length y.length true, h.psh (.cells (bytes y) 5 true false none), ?_, .inr ⟨h.size, [], by simp, ⟨hlo, by simp only [List.nil_append, List.length_nil]; omega⟩, by rw [psh_same]; simp⟩, Keeps.psh hlo _, Frz.kp (Keeps.psh (Nat.le_refl _) _)⟩
      simp only [List.length_nil, Nat.zero_add] at hb
      have h1 : ¬ y.length ≤ 0 := by omega
      have h4 : y.length ≤ 1099511627776 ∧ (2 * y.length + 1024) * 1 ≤ 281474976710656 := by omega
      unfold appV
      simp only [hl, he, Nat.zero_add, h1, if_false, h4, and_self, if_true, push_eq]
      simp [elemsV]
  · have hbs := H.get_lt h3
    by_cases hc : y.length ≤ r.length
    · by_cases hn : y.length = 0
      · have : y = [] := List.eq_nil_of_length_eq_zero hn
        subst this
        refine ⟨.slice (some (b, 0)) s.length (s.length + r.length) true, h, ?_, .inr ⟨b, r, by simp, ⟨h2.1, by simpa using h2.2⟩, by simpa using h3⟩, Keeps.refl _ _, Frz.refl _⟩
        simp only [List.length_nil] at hl he
        unfold appV; simp [hl, he, putCells, bytes_nil]
      · refine ⟨.slice (some (b, 0)) (s ++ y).length ((s ++ y).length + (r.drop y.length).length) true, h.set b (.cells (bytes (s ++ y) ++ r.drop y.length) 5 true false none), ?_, .inr ⟨b, r.drop y.length, rfl, ⟨h2.1, by rw [List.length_append]; omega⟩, hset_same hbs _⟩, Keeps.set hbs h2.1 _, Frz.set h3 _⟩
        have h1 : s.length + y.length ≤ s.length + r.length := by omega
        have hne : (bytes y).isEmpty = false := by
          cases y with
          | nil => simp at hn
          | cons _ _ => rfl
        have hfit : 0 + s.length * 1 + (bytes y).length ≤ (bytes s ++ r).length := by simp only [bytes_len, List.length_append]; omega
        have hset : setR (bytes s ++ r) (0 + s.length * 1) (bytes y) = bytes (s ++ y) ++ r.drop y.length := by
          have := setR_mid (bytes s) (bytes y) r (by rw [bytes_len]; exact hc)
          rw [bytes_len, bytes_len] at this
          rw [show 0 + s.length * 1 = s.length by omega, this, bytes_app]
        unfold appV putCells
        simp only [hl, he, h1, if_true, h3, hne, Bool.false_eq_true, if_false, hfit, hy, fzFree, and_self, hset]
        simp only [List.length_append, List.length_drop]
        congr 3
        omega
    · refine ⟨.slice (some (h.size, 0)) (s.length + y.length) (s.length + y.length) true, (h.set b .dead).psh (.cells (bytes s ++ bytes y) 5 true false none), ?_, .inr ⟨h.size, [], by simp, ⟨hlo, by rw [List.length_append]; omega⟩, ?_⟩, ?_⟩
      · have h1 : ¬ s.length + y.length ≤ s.length + r.length := by omega
        have h4 : s.length + y.length ≤ 1099511627776 ∧ (2 * (s.length + y.length) + 1024) * 1 ≤ 281474976710656 := by omega
        have h5 : s.length ≤ s.length + r.length := by omega
        have h6 : 0 + (s.length + r.length) * 1 = (bytes s ++ r).length := by simp only [bytes_len, List.length_append]; omega
        have h7 : getR (bytes s ++ r) 0 (s.length * 1) = bytes s := by
          unfold getR
          rw [List.drop_zero, Nat.mul_one, List.take_left' (bytes_len s)]
        unfold appV
        simp only [hl, he, h1, if_false, h4, and_self, if_true, h3, h5, h6, hy, fzFree, h7]
        simp only [push_eq, Option.map_none]
      · have := psh_same (h.set b .dead) (.cells (bytes s ++ bytes y) 5 true false none)
        rw [H.set_size] at this
        rw [this, bytes_app]; simp
      · exact ⟨(Keeps.set hbs h2.1 _).trans (Keeps.psh (by rw [H.set_size]; exact hlo) _), (Frz.set h3 _).trans (Frz.kp (Keeps.psh (Nat.le_refl _) _))⟩

theorem Buf.shape {h : H} {lo : Nat} {v : V} {s : List UInt8} (a : Buf h lo v s) : ∃ x c o, v = .slice x s.length c o := by
  rcases a with ⟨rfl, rfl⟩ | ⟨b, r, rfl, h2, h3⟩ <;> exact ⟨_, _, _, rfl⟩
theorem put2 {h : H} {b : Nat} {u v : V} {ty : Nat} {op : Bool} (hg : h.get b = some (.cells [u, v] ty op false none)) {x : V} (hx : V.one x = true) :
    putCells h b 0 [x] = some (h.set b (.cells [x, v] ty op false none)) ∧ putCells h b 1 [x] = some (h.set b (.cells [u, x] ty op false none)) := by
  constructor <;> (unfold putCells; simp [hg, fzFree, hx, setR])
theorem Buf.elems {h : H} {lo : Nat} {v : V} {s : List UInt8} (a : Buf h lo v s) : elemsV h 1 s.length v = some (bytes s) := by
  rcases a with ⟨rfl, rfl⟩ | ⟨b, r, rfl, h2, h3⟩
  · simp [elemsV, bytes]
  · cases s with
    | nil => simp [elemsV, bytes]
    | cons c s =>
      have h1 : ¬ (c :: s).length * 1 = 0 := by simp
      have h4 : 0 + (c :: s).length * 1 ≤ (bytes (c :: s) ++ r).length := by simp only [bytes_len, List.length_append]; omega
      simp only [elemsV, h1, if_false, h3, h4, if_true, Option.some.injEq]
      unfold getR
      rw [List.drop_zero, Nat.mul_one, List.take_left' (bytes_len _)]
theorem Buf.len {h : H} {lo : Nat} {v : V} {s : List UInt8} (a : Buf h lo v s) : lenV v = some s.length := by
  rcases a with ⟨rfl, rfl⟩ | ⟨b, r, rfl, h2, h3⟩ <;> rfl

def Bdv (h : H) (b : Nat) (v : V) (s : List UInt8) : Prop :=
  ∃ A, h.get b = some (.cells [A, v] 64 false false none) ∧ (A = .ptr none ∨ A = .ptr (some (b, 0))) ∧ Buf h (b + 1) v s
def Bd (h : H) (b : Nat) (s : List UInt8) : Prop := ∃ v, Bdv h b v s
theorem Bdv.keep {h h' : H} {b : Nat} {v : V} {s : List UInt8} (a : Bdv h b v s) (hk : Kp h h') : Bdv h' b v s := by
  obtain ⟨A, h1, h2, h3⟩ := a
  exact ⟨A, hk.of h1, h2, h3.keep hk (Nat.le_refl _)⟩
theorem Bd.keep {h h' : H} {b : Nat} {s : List UInt8} (a : Bd h b s) (hk : Kp h h') : Bd h' b s := by
  obtain ⟨v, a⟩ := a
  exact ⟨v, a.keep hk⟩
theorem Bd.lt {h : H} {b : Nat} {s : List UInt8} (a : Bd h b s) : b < h.size := by
  obtain ⟨v, A, h1, h2, h3⟩ := a
  exact H.get_lt h1
theorem Bdv.new (h : H) : Bdv (h.psh (.cells [.ptr none, .slice none 0 0 false] 64 false false none)) h.size (.slice none 0 0 false) [] :=
  ⟨_,psh_same _ _,.inl rfl,.nil _ _⟩
end Go.AM
/-! Draw regions in which young blocks are written: all blocks below 'lo' stay. -/
namespace Go.AM
section
variable (P : Program) (E : Env) (ro : Option Nat) (L : Nat) (S : List Fr) (Q : Po) (lo : Nat) (h0 : H)
def RdK (P : Program) (lo : Nat) (T : List V) (h : H) (k : AM.K) (v : V) : Prop := ∀ h', Keeps lo h h' → evK P T h' k = some (.rd v)
def XDK : List Bool → List O → (Nat → V) → H → Prop
  | f :: fs, o :: r, ρ, h =>
    if wantV (toL L ρ) o.guard then
      if o.op.still then match evK P (toL L ρ) (if f then h else h0) o.op with
        | some (.pur v) => XDK fs r (upo ρ o.dst v) h
        | some (.rd v) => v.nj = true ∧ RdK P lo (toL L ρ) (if f then h else h0) o.op v ∧ XDK fs r (upo ρ o.dst v) h
        | _ => False
      else match evK P (toL L ρ) h o.op with
        | some (.eff v h') => Keeps lo h h' ∧ XDK fs r (upo ρ o.dst v) h'
        | some (.call g args) => ∃ v h', AP P E g args h = some (v, h') ∧ Keeps lo h h' ∧ XDK fs r (upo ρ o.dst v) h'
        | _ => False
    else XDK fs r (upo ρ o.dst undefV) h
  | _, _, ρ, h => X P E ro L S ρ h Q
end

variable {P : Program} {E : Env} {ro : Option Nat} {L : Nat} {S : List Fr} {Q : Po} {lo : Nat} {h0 : H}

def EntsK (P : Program) (lo : Nat) (h0 : H) : List Bool → List O → List Ent → Prop
  | f :: fs, o :: r, e :: es => (e.act = true → Keeps lo e.h e.h') ∧ (e.rd = true → e.v.nj = true ∧ RdK P lo e.T (if f then e.h else h0) o.op e.v) ∧ EntsK P lo h0 fs r es
  | _, _, _ => True

theorem XDK_ents : ∀ (fs : List Bool) (ops : List O) (ρ : Nat → V) (h : H), fs.length = ops.length → Keeps lo h0 h → XDK P E ro L S Q lo h0 fs ops ρ h →
    ∃ es T' h', evDr P (AP P E) ops (toL L ρ) h = some (es, T', h') ∧ EntsK P lo h0 fs ops es ∧ XX P E ro S .nrm T' h' Q
  | [], [], ρ, h, _, _, hx => ⟨[], toL L ρ, h, rfl, trivial, by simpa only [XDK, X] using hx⟩
  | [], _ :: _, _, _, hl, _, _ => by simp at hl
  | _ :: _, [], _, _, hl, _, _ => by simp at hl
  | f :: fs, o :: r, ρ, h, hl, hk, hx => by
    have one : ∀ (ent : Ent) (v : V) (h1 : H), (ent.act = true → Keeps lo ent.h ent.h') → (ent.rd = true → ent.v.nj = true ∧ RdK P lo ent.T (if f then ent.h else h0) o.op ent.v) → Keeps lo h0 h1 → XDK P E ro L S Q lo h0 fs r (upo ρ o.dst v) h1 →
        ∃ es T' h', ((evDr P (AP P E) r (putV (toL L ρ) o.dst v) h1).map fun x => (ent :: x.1, x.2)) = some (es, T', h') ∧ EntsK P lo h0 (f :: fs) (o :: r) es ∧ XX P E ro S .nrm T' h' Q := by
      intro ent v h1 a1 a2 a3 a4
      obtain ⟨es, T', h', e1, e2, e3⟩ := XDK_ents fs r _ h1 (by simpa using hl) a3 a4
      exact ⟨ent :: es, T', h', by rw [putV_upo, e1]; rfl, ⟨a1, a2, e2⟩, e3⟩
    unfold XDK at hx
    simp only [evDr]
    split at hx
    · rename_i hw
      simp only [hw, if_true]
      split at hx
      · split at hx
        · rename_i v he
          have he' : evK P (toL L ρ) h o.op = some (.pur v) := by
            cases f with
            | true => simpa using he
            | false => simp only [Bool.false_eq_true, if_false] at he; exact evK_pur he
          rw [he']
          exact one ⟨toL L ρ, h, h, v, false, false⟩ v h (by simp) (by simp) hk hx
        · rename_i v he
          have he' : evK P (toL L ρ) h o.op = some (.rd v) := by
            cases f with
            | true => simpa using he
            | false => exact hx.2.1 h hk
          rw [he']
          exact one ⟨toL L ρ, h, h, v, false, true⟩ v h (by simp) (fun _ => ⟨hx.1, hx.2.1⟩) hk hx.2.2
        · exact hx.elim
      · split at hx
        · rename_i v h' he
          rw [he]
          exact one ⟨toL L ρ, h, h', v, true, false⟩ v h' (fun _ => hx.1) (by simp) (hk.trans hx.1) hx.2
        · rename_i g args he
          rw [he]
          obtain ⟨v, h', ha, hk2, hx⟩ := hx
          simp only [ha]
          exact one ⟨toL L ρ, h, h', v, true, false⟩ v h' (fun _ => hk2) (by simp) (hk.trans hk2) hx
        · exact hx.elim
    · rename_i hw
      simp only [hw]
      exact one ⟨toL L ρ, h, h, undefV, false, false⟩ undefV h (by simp) (by simp) hk hx

theorem EntsK_get : ∀ (fs : List Bool) (ops : List O) (es : List Ent), EntsK P lo h0 fs ops es → ∀ (i : Nat) f o e, fs[i]? = some f → ops[i]? = some o → es[i]? = some e →
    (e.act = true → Keeps lo e.h e.h') ∧ (e.rd = true → e.v.nj = true ∧ RdK P lo e.T (if f then e.h else h0) o.op e.v)
  | [], _, _, _, _, _, _, _, h, _, _ => by simp at h
  | _ :: _, [], _, _, _, _, _, _, _, h, _ => by simp at h
  | _ :: _, _ :: _, [], _, _, _, _, _, _, _, h => by simp at h
  | f :: fs, o :: ops, e :: es, hq, i, f', o', e', h1, h2, h3 => by
    cases i with
    | zero => simp at h1 h2 h3; subst h1 h2 h3; exact ⟨hq.1, hq.2.1⟩
    | succ i => exact EntsK_get fs ops es hq.2.2 i f' o' e' (by simpa using h1) (by simpa using h2) (by simpa using h3)

theorem readsK {o : O} {e : Ent} {i : Nat} (hpre : (∀ h, Keeps lo h0 h → sameAt P o e h = true) ∨ ((∀ h, Keeps lo e.h h → sameAt P o e h = true) ∧ True)) (hna : e.act = false) : ∀ (ops : List O) (es : List Ent) (j : Nat) (h : H),
    (∀ e0, es[0]? = some e0 → e0.h = h) → (∀ (k : Nat) a b, es[k]? = some a → es[k + 1]? = some b → b.h = a.h') → (∀ (k : Nat) a, es[k]? = some a → a.act = false → a.h' = a.h) → (∀ (k : Nat) a, es[k]? = some a → a.act = true → Keeps lo a.h a.h') → es.length = ops.length →
    Keeps lo h0 h → (j ≤ i → es[i - j]? = some e) → (i < j → Keeps lo e.h h) →
    ((∀ h, Keeps lo h0 h → sameAt P o e h = true) ∨ ∀ (k : Nat) a, es[k]? = some a → a.act = true → j + k < i → o.pre.testBit (j + k) = true) →
    readsOk P o e i h (actsOf ops es j) = true
  | [], [], j, h, _, _, _, _, _, hk, h4, h5, _ => by
    have hji : i < j := by
      rcases Nat.lt_or_ge i j with h | h
      · exact h
      · have := h4 h; simp at this
    simp only [actsOf, readsOk]
    rcases hpre with hp | hp
    · exact hp h hk
    · exact hp.1 h (h5 hji)
  | [], _ :: _, _, _, _, _, _, _, hl, _, _, _, _ => by simp at hl
  | _ :: _, [], _, _, _, _, _, _, hl, _, _, _, _ => by simp at hl
  | o1 :: ops, e1 :: es, j, h, h1, h2, h3, h3', hl, hk, h4, h5, h6 => by
    have e1h := h1 e1 rfl
    have nxt : ∀ h', e1.h' = h' → Keeps lo h0 h' → (i < j + 1 → Keeps lo e.h h') → readsOk P o e i h' (actsOf ops es (j + 1)) = true := by
      intro h' hh hk' hlast
      refine readsK hpre hna ops es (j + 1) h' (fun e0 he0 => ?_) (fun k a b ha hb => h2 (k + 1) a b (by simpa using ha) (by simpa using hb)) (fun k a ha => h3 (k + 1) a (by simpa using ha)) (fun k a ha => h3' (k + 1) a (by simpa using ha)) (by simpa using hl) hk'
        (fun hj => ?_) hlast ?_
      · rw [← hh]; exact h2 0 e1 e0 rfl (by simpa using he0)
      · have := h4 (by omega)
        rw [show i - j = (i - (j + 1)) + 1 by omega] at this
        simpa using this
      · rcases h6 with h6 | h6
        · exact .inl h6
        · refine .inr fun k a ha hact hlt => ?_
          have := h6 (k + 1) a (by simpa using ha) hact (by omega)
          rwa [show j + (k + 1) = j + 1 + k by omega] at this
    have heq : ∀ {x}, j = i → e1 = x → x = e → True := fun _ _ _ => trivial
    unfold actsOf
    by_cases ha : e1.act = true
    · simp only [ha, if_true, readsOk]
      have hkk : Keeps lo h e1.h' := by rw [← e1h]; exact h3' 0 e1 rfl ha
      have hne : j ≠ i := by
        intro hji
        have := h4 (by omega)
        rw [hji, Nat.sub_self] at this
        simp at this; subst this
        rw [hna] at ha; cases ha
      rw [nxt e1.h' rfl (hk.trans hkk) (fun hh => (h5 (by omega)).trans hkk)]
      simp only [Bool.or_true, Bool.and_true, Bool.or_eq_true]
      rcases h6 with h6 | h6
      · exact .inr (h6 h hk)
      · rcases Nat.lt_or_ge j i with hlt | hge
        · exact .inl (.inl (by simpa using h6 0 e1 rfl ha (by omega)))
        · rcases hpre with hp | hp
          · exact .inr (hp h hk)
          · exact .inr (hp.1 h (h5 (by omega)))
    · have ha' : e1.act = false := by simpa using ha
      simp only [ha', Bool.false_eq_true, if_false]
      have hh := h3 0 e1 rfl ha'
      refine nxt h (hh.trans e1h) hk fun hji => ?_
      rcases Nat.lt_or_ge i j with hlt | hge
      · exact h5 hlt
      · have hij : i = j := by omega
        have := h4 hge
        rw [hij, Nat.sub_self] at this
        simp at this; subst this
        rw [e1h]; exact Keeps.refl _ _

theorem XD_keeps {ops : List O} {fs : List Bool} {ρ : Nat → V} (hf : flagsFrom [] ops 0 = fs) (hc : (chained fs ops && fstat ops) = true) (hx : XDK P E ro L S Q lo h0 fs ops ρ h0) : XD P E ro L ops S ρ h0 Q := by
  have hlen : fs.length = ops.length := by
    rw [← hf]
    have : ∀ (ops : List O) (acts : List Nat) (j : Nat), (flagsFrom acts ops j).length = ops.length := by
      intro ops
      induction ops with
      | nil => intro _ _; rfl
      | cons o r ih => intro _ _; simp [flagsFrom, ih]
    exact this _ _ _
  obtain ⟨es, T', h', he, hq, hX⟩ := XDK_ents fs ops ρ h0 hlen (Keeps.refl _ _) hx
  obtain ⟨e1, e2, e3, e4, e5⟩ := evDr_ents ops (toL L ρ) h0 es T' h' he
  refine ⟨T', h', ?_, hX⟩
  have fget : ∀ (i : Nat) o, ops[i]? = some o → ∃ f, fs[i]? = some f ∧ (f = true → ∀ (k : Nat) o', k < i → ops[k]? = some o' → o'.op.still = false → o.pre.testBit k = true) := fun i o hi => by
    obtain ⟨f, h1, h2⟩ := flags_get ops [] 0 i o hi
    rw [hf] at h1
    refine ⟨f, h1, fun hft k o' hk ho' hs => ?_⟩
    have := (h2 hft).2 k o' hk ho' hs
    simpa using this
  have hkp : ∀ (k : Nat) a, es[k]? = some a → a.act = true → Keeps lo a.h a.h' := fun k a ha hact => by
    have hkl : k < ops.length := by rw [← e1]; exact (List.getElem?_eq_some_iff.1 ha).1
    obtain ⟨f, hf1, _⟩ := fget k ops[k] (List.getElem?_eq_getElem hkl)
    exact (EntsK_get fs ops es hq k f ops[k] a hf1 (List.getElem?_eq_getElem hkl) ha).1 hact
  rw [Bool.and_eq_true] at hc
  obtain ⟨hc, hfs⟩ := hc
  have hfl : floatOk (actsF ops es 0) ops = true := fstat_ok hfs fun k o e a1 a2 a3 => (e2 k e o a2 a1).1 a3
  have hch : chainF (actsF ops es 0) = true := chain_ok ops es 0 fun k l o o' a b a1 a2 a3 a4 a5 a6 a7 => by
    have hs := (e2 k a o a3 a1).1 a5
    have hs' := (e2 l b o' a4 a2).1 a6
    obtain ⟨f, hf1, hf2⟩ := fget l o' a2
    rw [Nat.zero_add]
    exact (chained_get fs ops hc l f o' hf1 a2 hs').elim (fun hft => .inr (hf2 hft k o a7 a1 hs)) .inl
  have hheap : ∀ (k : Nat) a, es[k]? = some a → Keeps lo h0 a.h := by
    intro k
    induction k with
    | zero => intro a ha; rw [e3 a ha]; exact Keeps.refl _ _
    | succ k ih =>
      intro a ha
      have hkl : k < es.length := by have := (List.getElem?_eq_some_iff.1 ha).1; omega
      have hb := ih es[k] (List.getElem?_eq_getElem hkl)
      rw [e4 k es[k] a (List.getElem?_eq_getElem hkl) ha]
      cases hact : es[k].act with
      | true => exact hb.trans (hkp k es[k] (List.getElem?_eq_getElem hkl) hact)
      | false => rw [e5 k es[k] (List.getElem?_eq_getElem hkl) hact]; exact hb
  have hrd : rdsOk P (actsOf ops es 0) h0 ops es 0 = true := rds_ok ops es 0 fun k o e a1 a2 a3 => by
    rw [Nat.zero_add]
    obtain ⟨q1, q2⟩ := (e2 k e o a2 a1).2 a3
    obtain ⟨f, hf1, hf2⟩ := fget k o a1
    obtain ⟨hnj, hor⟩ := (EntsK_get fs ops es hq k f o e hf1 a1 a2).2 a3
    have hsame : ∀ hh, evK P e.T hh o.op = some (.rd e.v) → sameAt P o e hh = true := fun hh hv => by
      unfold sameAt; rw [hv]; exact V.beq_refl _ hnj
    cases f with
    | true =>
      simp only [if_true] at hor
      refine readsK (lo := lo) (h0 := h0) (.inr ⟨fun hh hk => hsame hh (hor hh hk), trivial⟩) q2 ops es 0 h0 e3 e4 e5 hkp e1 (Keeps.refl _ _) (fun _ => by simpa using a2) (fun hh => by omega) (.inr fun l a b1 b3 b4 => ?_)
      rw [Nat.zero_add] at b4 ⊢
      have hll : l < ops.length := by rw [← e1]; exact (List.getElem?_eq_some_iff.1 b1).1
      exact hf2 rfl l ops[l] b4 (List.getElem?_eq_getElem hll) ((e2 l a ops[l] b1 (List.getElem?_eq_getElem hll)).1 b3)
    | false =>
      simp only [Bool.false_eq_true, if_false] at hor
      have hall : ∀ hh, Keeps lo h0 hh → sameAt P o e hh = true := fun hh hk => hsame hh (hor hh hk)
      exact readsK (lo := lo) (.inl hall) q2 ops es 0 h0 e3 e4 e5 hkp e1 (Keeps.refl _ _) (fun _ => by simpa using a2) (fun hh => by omega) (.inl hall)
  unfold evDraw
  rw [he]
  simp only [hch, hrd, hfl, Bool.and_self, Bool.or_true, if_true]

/-! ### the steps' equations -/
section
variable {ρ : Nat → V} {h : H} {f : Bool} {fs : List Bool} {r : List O}
def XSK (P : Program) (E : Env) (ro : Option Nat) (L : Nat) (S : List Fr) (Q : Po) (lo : Nat) (h0 : H) (fs : List Bool) (dst : Option Nat) (r : List O) (ρ : Nat → V) (h : H) (hr : H) (k : AM.K) : Option Res → Prop
  | some (.pur v) => XDK P E ro L S Q lo h0 fs r (upo ρ dst v) h
  | some (.rd v) => v.nj = true ∧ RdK P lo (toL L ρ) hr k v ∧ XDK P E ro L S Q lo h0 fs r (upo ρ dst v) h
  | _ => False
def XCK (P : Program) (E : Env) (ro : Option Nat) (L : Nat) (S : List Fr) (Q : Po) (lo : Nat) (h0 : H) (fs : List Bool) (g : V) (args : List V) (dst : Option Nat) (r : List O) (ρ : Nat → V) (h : H) : Prop :=
  ∃ v h', AP P E g args h = some (v, h') ∧ Keeps lo h h' ∧ XDK P E ro L S Q lo h0 fs r (upo ρ dst v) h'
def XAK (P : Program) (E : Env) (ro : Option Nat) (L : Nat) (S : List Fr) (Q : Po) (lo : Nat) (h0 : H) (fs : List Bool) (dst : Option Nat) (r : List O) (ρ : Nat → V) (h : H) : Option Res → Prop
  | some (.eff v h') => Keeps lo h h' ∧ XDK P E ro L S Q lo h0 fs r (upo ρ dst v) h'
  | some (.call g args) => XCK P E ro L S Q lo h0 fs g args dst r ρ h
  | _ => False
theorem XDK_nil : XDK P E ro L S Q lo h0 [] [] ρ h = X P E ro L S ρ h Q := by simp only [XDK]
theorem XDK_cons (dst : Option Nat) (k : AM.K) (g : Option (Nat × Bool)) (pre : Nat) (ns : List Nat) :
    XDK P E ro L S Q lo h0 (f :: fs) (⟨dst, k, g, pre, ns⟩ :: r) ρ h = if wantV (toL L ρ) g then (if k.still then XSK P E ro L S Q lo h0 fs dst r ρ h (if f then h else h0) k (evK P (toL L ρ) (if f then h else h0) k) else XAK P E ro L S Q lo h0 fs dst r ρ h (evK P (toL L ρ) h k)) else XDK P E ro L S Q lo h0 fs r (upo ρ dst undefV) h := by
  simp only [XDK]
  congr 1
theorem XSK_pur (dst : Option Nat) (hr : H) (k : AM.K) (v : V) : XSK P E ro L S Q lo h0 fs dst r ρ h hr k (some (.pur v)) = XDK P E ro L S Q lo h0 fs r (upo ρ dst v) h := rfl
theorem XSK_rd (dst : Option Nat) (hr : H) (k : AM.K) (v : V) : XSK P E ro L S Q lo h0 fs dst r ρ h hr k (some (.rd v)) = (v.nj = true ∧ RdK P lo (toL L ρ) hr k v ∧ XDK P E ro L S Q lo h0 fs r (upo ρ dst v) h) := rfl
theorem XAK_eff (dst : Option Nat) (v : V) (h' : H) : XAK P E ro L S Q lo h0 fs dst r ρ h (some (.eff v h')) = (Keeps lo h h' ∧ XDK P E ro L S Q lo h0 fs r (upo ρ dst v) h') := rfl
theorem XAK_call (dst : Option Nat) (g : V) (args : List V) : XAK P E ro L S Q lo h0 fs dst r ρ h (some (.call g args)) = XCK P E ro L S Q lo h0 fs g args dst r ρ h := rfl
theorem XCK_of {g : V} {args : List V} {R : V → H → Prop} (s : Sp P E g args h R) {dst : Option Nat} (hk : ∀ v h', R v h' → Keeps lo h h' ∧ XDK P E ro L S Q lo h0 fs r (upo ρ dst v) h') : XCK P E ro L S Q lo h0 fs g args dst r ρ h := by
  obtain ⟨v, h', e, q⟩ := s
  exact ⟨v, h', e, (hk v h' q).1, (hk v h' q).2⟩
theorem RdK.load1 {T : List V} {a : A} {i o : Nat} {vs : List V} {ty : Nat} {op ro : Bool} {fz : Option Nat} {v : V} (ha : a.ev T = some (.ptr (some (i, o)))) (hi : i < lo) (hg : h.get i = some (.cells vs ty op ro fz)) (hv : vs[o]? = some v) : RdK P lo T h (.load1 a) v := by
  intro h' hk
  simp only [evK, ha, hk.get i hi, hg, hv, Option.map_some]
end
end Go.AM
