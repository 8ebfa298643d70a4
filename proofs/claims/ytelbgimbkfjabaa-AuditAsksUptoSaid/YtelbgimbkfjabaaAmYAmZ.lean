/- My own texts of the evaluator, its soundness and its symbolic runs, laid for this claim. -/
import Derived.Test.YtelbgimbkfjabaaAmX
set_option linter.unusedSimpArgs false
set_option linter.unusedVariables false
/-! Temporaries as functions; how operations step. -/
namespace Go.AM

def up (ρ : Nat → V) (d : Nat) (v : V) : Nat → V := fun t => if t = d then v else ρ t
def toL (n : Nat) (ρ : Nat → V) : List V := (List.range n).map ρ
def argF (args : List V) : Nat → V := fun i => (args[i]?).getD undefV

theorem up_app (ρ : Nat → V) (d : Nat) (v : V) (t : Nat) : up ρ d v t = if t = d then v else ρ t := rfl
theorem toL_length (n : Nat) (ρ : Nat → V) : (toL n ρ).length = n := by simp [toL]
theorem toL_get {n i : Nat} (h : i < n) (ρ : Nat → V) : (toL n ρ)[i]? = some (ρ i) := by simp [toL, h]
theorem toL_set (n : Nat) (ρ : Nat → V) (d : Nat) (v : V) : (toL n ρ).set d v = toL n (up ρ d v) := by
  refine List.ext_getElem? fun i => ?_
  rw [List.getElem?_set]
  by_cases hi : i < n
  · rw [toL_get hi, toL_get hi]
    by_cases hd : d = i
    · subst hd; simp [toL_length, hi, up]
    · rw [if_neg hd]; simp [up, Ne.symm hd]
  · simp only [toL, List.getElem?_map, List.length_map, List.length_range]
    rw [List.getElem?_eq_none (by simp; omega)]
    simp; omega
theorem toL_args {n : Nat} {args : List V} (h : args.length ≤ n) : args ++ List.replicate (n - args.length) undefV = toL n (argF args) := by
  refine List.ext_getElem? fun i => ?_
  by_cases hi : i < n
  · rw [toL_get hi]
    unfold argF
    rw [List.getElem?_append]
    split
    · rename_i hl; simp [hl]
    · rename_i hl
      rw [List.getElem?_replicate, if_pos (by omega), List.getElem?_eq_none (by omega)]; rfl
  · rw [List.getElem?_eq_none (by simp; omega), List.getElem?_eq_none (by simp [toL_length]; omega)]

theorem ev_t {n i : Nat} (h : i < n) (ρ : Nat → V) : A.ev (toL n ρ) (.t i) = some (ρ i) := toL_get h ρ
theorem ev_k (T : List V) (v : V) : A.ev T (.k v) = some v := rfl
theorem evs_nil (T : List V) : evs T [] = some [] := rfl
theorem evs_cons (T : List V) (a : A) (r : List A) : evs T (a :: r) = (match a.ev T, evs T r with
    | some v, some vs => some (v :: vs)
    | _, _ => none) := rfl
theorem evo_none (T : List V) : evo T none = some none := rfl
theorem evo_some (T : List V) (a : A) : evo T (some a) = (match a.ev T with
    | some v => some (some v)
    | none => none) := rfl
theorem putV_some (n : Nat) (ρ : Nat → V) (d : Nat) (v : V) : putV (toL n ρ) (some d) v = toL n (up ρ d v) := toL_set n ρ d v
theorem putV_none (T : List V) (v : V) : putV T none v = T := rfl
def isB : V → Bool → Bool
  | .bool b, w => b == w
  | _, _ => false
theorem isB_bool (b w : Bool) : isB (.bool b) w = (b == w) := rfl
theorem wantV_none (T : List V) : wantV T none = true := rfl
theorem wantV_some {n t : Nat} (h : t < n) (ρ : Nat → V) (w : Bool) : wantV (toL n ρ) (some (t, w)) = isB (ρ t) w := by
  simp only [wantV, toL_get h]
  cases ρ t <;> rfl

def stepR (ap : Ap) (dst : Option Nat) (T : List V) (h : H) : Option Res → Option (List V × H)
  | some (.pur v) => some (putV T dst v, h)
  | some (.rd v) => some (putV T dst v, h)
  | some (.eff v h') => some (putV T dst v, h')
  | some (.call f args) => (ap f args h).map fun r => (putV T dst r.1, r.2)
  | none => none
theorem stepR_pur (ap : Ap) (dst : Option Nat) (T : List V) (h : H) (v : V) : stepR ap dst T h (some (.pur v)) = some (putV T dst v, h) := rfl
theorem stepR_rd (ap : Ap) (dst : Option Nat) (T : List V) (h : H) (v : V) : stepR ap dst T h (some (.rd v)) = some (putV T dst v, h) := rfl
theorem stepR_eff (ap : Ap) (dst : Option Nat) (T : List V) (h h' : H) (v : V) : stepR ap dst T h (some (.eff v h')) = some (putV T dst v, h') := rfl
theorem stepR_call (ap : Ap) (dst : Option Nat) (T : List V) (h : H) (f : V) (args : List V) : stepR ap dst T h (some (.call f args)) = (ap f args h).map fun r => (putV T dst r.1, r.2) := rfl

theorem evO_step (P : Program) (ap : Ap) (dst : Option Nat) (k : K) (g : Option (Nat × Bool)) (pre : Nat) (ns : List Nat) (T : List V) (h : H) :
    evO P ap ⟨dst, k, g, pre, ns⟩ T h = if wantV T g then stepR ap dst T h (evK P T h k) else some (putV T dst undefV, h) := by
  unfold evO
  split
  · simp only
    cases hk : evK P T h k with
    | none => rfl
    | some x =>
      cases x with
      | call f args =>
        simp only [stepR]
        cases ap f args h <;> rfl
      | _ => rfl
  · rfl
theorem evOs_nil (P : Program) (ap : Ap) (T : List V) (h : H) : evOs P ap [] T h = some (T, h) := rfl
theorem evOs_cons (P : Program) (ap : Ap) (o : O) (r : List O) (T : List V) (h : H) : evOs P ap (o :: r) T h = (evO P ap o T h).bind fun s => evOs P ap r s.1 s.2 := by
  simp only [evOs]
  cases evO P ap o T h <;> rfl
theorem evOs_append (P : Program) (ap : Ap) : ∀ (a b : List O) (T : List V) (h : H), evOs P ap (a ++ b) T h = (evOs P ap a T h).bind fun s => evOs P ap b s.1 s.2
  | [], _, _, _ => rfl
  | o :: a, b, T, h => by
    simp only [List.cons_append, evOs_cons, Option.bind_assoc]
    congr 1
    funext s
    exact evOs_append P ap a b _ _

/-! ### a region that draws its order, where nothing acts -/
def K.still : K → Bool
  | .alloc .. | .box .. | .bslice .. | .store .. | .s2b .. | .mkMap | .mkSlice .. | .mapUpd .. | .mapDel .. | .rng .. | .next .. | .app .. | .copy .. | .call .. | .appZ .. | .same .. | .ustr .. | .mkNZ .. | .inv .. | .bad => false
  | _ => true

theorem binV_still {h : H} {op : BinOp} {eq : Option EqT} {l : Bool} {x y : V} {r : Res} (hr : binV h op eq l x y = some r) : (∃ v, r = .pur v) ∨ ∃ v, r = .rd v := by
  unfold binV at hr
  split at hr
  · split at hr
    · obtain ⟨v, _, rfl⟩ := Option.map_eq_some_iff.1 hr; exact .inl ⟨_, rfl⟩
    · obtain ⟨v, _, rfl⟩ := Option.map_eq_some_iff.1 hr; exact .inl ⟨_, rfl⟩
    · split at hr
      · obtain ⟨v, _, rfl⟩ := Option.map_eq_some_iff.1 hr; exact .inl ⟨_, rfl⟩
      · cases hr
  · obtain ⟨v, _, rfl⟩ := Option.map_eq_some_iff.1 hr; exact .inl ⟨_, rfl⟩
  · split at hr
    · cases hr
    · split at hr
      · cases hr
      · split at hr <;> first | (cases hr; exact .inr ⟨_, rfl⟩) | cases hr

theorem evK_still {P : Program} {T : List V} {h : H} {k : K} {r : Res} (hk : k.still = true) (hr : evK P T h k = some r) : (∃ v, r = .pur v) ∨ ∃ v, r = .rd v := by
  cases k with
  | bin op eq lit x y =>
    simp only [evK] at hr
    split at hr
    · exact binV_still hr
    · cases hr
  | alloc | box | bslice | store | s2b | mkMap | mkSlice | mapUpd | mapDel | rng | next | app | copy | call | appZ | same | ustr | mkNZ | inv | bad => simp [K.still] at hk
  | _ =>
    simp only [evK] at hr
    repeat' split at hr
    all_goals first
      | (cases hr; done)
      | (cases hr; exact .inl ⟨_, rfl⟩)
      | (cases hr; exact .inr ⟨_, rfl⟩)
      | (obtain ⟨v, _, rfl⟩ := Option.map_eq_some_iff.1 hr; exact .inl ⟨_, rfl⟩)
      | (obtain ⟨v, _, rfl⟩ := Option.map_eq_some_iff.1 hr; exact .inr ⟨_, rfl⟩)

theorem evDr_still {P : Program} {ap : Ap} : ∀ (ops : List O) (T : List V) (h : H), ops.all (fun o => o.op.still) = true →
    (evDr P ap ops T h).map (fun x => (x.2.1, x.2.2)) = evOs P ap ops T h ∧ ∀ es T' h', evDr P ap ops T h = some (es, T', h') → ∀ (ops' : List O) (i : Nat), actsOf ops' es i = []
  | [], T, h, _ => ⟨rfl, fun es T' h' he ops' i => by cases he; cases ops' <;> rfl⟩
  | o :: ops, T, h, hall => by
    simp only [List.all_cons, Bool.and_eq_true] at hall
    obtain ⟨ho, hrest⟩ := hall
    have nxt : ∀ (T1 : List V) (ent : Ent), ent.act = false →
        ((evDr P ap ops T1 h).map fun x => (ent :: x.1, x.2)).map (fun x : List Ent × List V × H => (x.2.1, x.2.2)) = evOs P ap ops T1 h ∧
        ∀ es T' h', ((evDr P ap ops T1 h).map fun x => (ent :: x.1, x.2)) = some (es, T', h') → ∀ (ops' : List O) (i : Nat), actsOf ops' es i = [] := by
      intro T1 ent hent
      obtain ⟨i1, i2⟩ := evDr_still (ap := ap) ops T1 h hrest
      refine ⟨?_, ?_⟩
      · rw [← i1, Option.map_map]; rfl
      · intro es T' h' he ops' i
        obtain ⟨⟨es0, T0, h0⟩, h1, h2⟩ := Option.map_eq_some_iff.1 he
        cases h2
        cases ops' with
        | nil => rfl
        | cons o' ops' => simp only [actsOf, hent, Bool.false_eq_true, if_false]; exact i2 _ _ _ h1 ops' (i + 1)
    obtain ⟨dst, k, g, pre, ns⟩ := o
    simp only [evDr, evOs_cons, evO_step]
    split
    · rename_i hw
      cases hk : evK P T h k with
      | none => simp [stepR]
      | some r =>
        rcases evK_still ho hk with ⟨v, rfl⟩ | ⟨v, rfl⟩
        · exact nxt _ _ rfl
        · exact nxt _ _ rfl
    · exact nxt _ _ rfl

theorem evDraw_still {P : Program} {ap : Ap} {ops : List O} {T : List V} {h : H} (hall : ops.all (fun o => o.op.still) = true) : evDraw P ap ops T h = evOs P ap ops T h := by
  obtain ⟨h1, h2⟩ := evDr_still (P := P) (ap := ap) ops T h hall
  rw [← h1]
  unfold evDraw
  cases hd : evDr P ap ops T h with
  | none => rfl
  | some x =>
    obtain ⟨es, T', h'⟩ := x
    simp only [h2 es T' h' hd ops 0, List.isEmpty_nil, Bool.true_or, if_true]
    rfl

/-! ### heaps -/
theorem push_eq (h : H) (o : Obj) : h.push o = some (h.psh o) := rfl
theorem psh_size (h : H) (o : Obj) : (h.psh o).size = h.size + 1 := rfl
theorem psh_old {h : H} {i : Nat} {ob : Obj} (hg : h.get i = some ob) (o : Obj) : (h.psh o).get i = some ob := by
  rw [H.get_psh, if_neg (by have := H.get_lt hg; omega)]; exact hg
theorem hset_same {h : H} {i : Nat} (hi : i < h.size) (o : Obj) : (h.set i o).get i = some o := by
  rw [H.get_set trivial hi, if_pos rfl]
theorem hset_other {h : H} {i j : Nat} (hi : i < h.size) (hij : i ≠ j) (o : Obj) : (h.set i o).get j = h.get j := by
  rw [H.get_set trivial hi, if_neg hij]

structure Keeps (n : Nat) (h h' : H) : Prop where
  size : h.size ≤ h'.size
  get : ∀ i, i < n → h'.get i = h.get i
theorem Keeps.refl (n : Nat) (h : H) : Keeps n h h := ⟨Nat.le_refl _, fun _ _ => rfl⟩
theorem Keeps.trans {n : Nat} {a b c : H} (x : Keeps n a b) (y : Keeps n b c) : Keeps n a c := ⟨Nat.le_trans x.size y.size, fun i hi => (y.get i hi).trans (x.get i hi)⟩
theorem Keeps.mono {n k : Nat} {a b : H} (x : Keeps n a b) (h : k ≤ n) : Keeps k a b := ⟨x.size, fun i hi => x.get i (by omega)⟩
theorem Keeps.psh {n : Nat} {h : H} (hn : n ≤ h.size) (o : Obj) : Keeps n h (h.psh o) := ⟨Nat.le_succ _, fun i hi => by rw [H.get_psh, if_neg (by omega)]⟩
theorem Keeps.set {n : Nat} {h : H} {i : Nat} (hi : i < h.size) (hn : n ≤ i) (o : Obj) : Keeps n h (h.set i o) := ⟨Nat.le_refl _, fun j hj => hset_other hi (by omega) o⟩
abbrev Kp (h h' : H) : Prop := Keeps h.size h h'
theorem Keeps.trans' {n : Nat} {a b c : H} (x : Keeps n a b) (hn : n ≤ a.size) (y : Kp b c) : Keeps n a c := x.trans (y.mono (Nat.le_trans hn x.size))
theorem Kp.trans {a b c : H} (x : Kp a b) (y : Kp b c) : Kp a c := Keeps.trans' x (Nat.le_refl _) y
theorem Kp.of {h h' : H} (x : Kp h h') {i : Nat} {o : Obj} (hg : h.get i = some o) : h'.get i = some o := by rw [x.get i (H.get_lt hg)]; exact hg
end Go.AM
/-! Slices that grow, and other small laws for symbolic steps. -/
namespace Go.AM

structure Acc (h : H) (lo ty sz : Nat) (v : V) (xs : List (List V)) : Prop where
  shape : (xs = [] ∧ v = .slice none 0 0 false) ∨ ∃ b, v = .slice (some (b, 0)) xs.length xs.length true ∧ lo ≤ b ∧ h.get b = some (.cells xs.flatten ty true false none)
  elem : ∀ x ∈ xs, x.length = sz ∧ x.all V.one = true

theorem Acc.nil (h : H) (lo ty sz : Nat) : Acc h lo ty sz (.slice none 0 0 false) [] := ⟨.inl ⟨rfl, rfl⟩, by simp⟩

theorem flatten_length {sz : Nat} : ∀ {xs : List (List V)}, (∀ x ∈ xs, x.length = sz ∧ x.all V.one = true) → xs.flatten.length = xs.length * sz
  | [], _ => by simp
  | x :: xs, h => by
    rw [List.flatten_cons, List.length_append, flatten_length (fun y hy => h y (List.mem_cons_of_mem _ hy)), (h x (List.mem_cons_self)).1, List.length_cons]
    rw [Nat.add_mul]; omega
theorem flatten_one {sz : Nat} : ∀ {xs : List (List V)}, (∀ x ∈ xs, x.length = sz ∧ x.all V.one = true) → xs.flatten.all V.one = true
  | [], _ => rfl
  | x :: xs, h => by
    rw [List.flatten_cons, List.all_append, (h x (List.mem_cons_self)).2, flatten_one (fun y hy => h y (List.mem_cons_of_mem _ hy))]; rfl

theorem Acc.keep {h h' : H} {lo ty sz : Nat} {v : V} {xs : List (List V)} (a : Acc h lo ty sz v xs) (hk : Kp h h') : Acc h' lo ty sz v xs := by
  refine ⟨?_, a.elem⟩
  rcases a.shape with h1 | ⟨b, h1, h2, h3⟩
  · exact .inl h1
  · exact .inr ⟨b, h1, h2, hk.of h3⟩
theorem Acc.lo {h : H} {lo lo' ty sz : Nat} {v : V} {xs : List (List V)} (a : Acc h lo ty sz v xs) (hl : lo' ≤ lo) : Acc h lo' ty sz v xs := by
  refine ⟨?_, a.elem⟩
  rcases a.shape with h1 | ⟨b, h1, h2, h3⟩
  · exact .inl h1
  · exact .inr ⟨b, h1, Nat.le_trans hl h2, h3⟩

theorem getR_all {vs : List V} {n : Nat} (h : vs.length = n) : getR vs 0 n = vs := by
  unfold getR; subst h; simp

theorem app_acc {h : H} {lo ty sz bytes : Nat} {v x : V} {xs ys : List (List V)} (a : Acc h lo ty sz v xs) (hlo : lo ≤ h.size) (hl : lenV x = some ys.length) (he : elemsV h sz ys.length x = some ys.flatten)
    (hy : ∀ y ∈ ys, y.length = sz ∧ y.all V.one = true) (hb : xs.length + ys.length ≤ 1099511627776 ∧ (2 * (xs.length + ys.length) + 1024) * bytes ≤ 281474976710656) :
    ∃ v' h', appV h ty sz bytes v x = some (.eff v' h') ∧ Acc h' lo ty sz v' (xs ++ ys) ∧ Keeps lo h h' := by
  have hall : ∀ z ∈ xs ++ ys, z.length = sz ∧ z.all V.one = true := fun z hz => (List.mem_append.1 hz).elim (a.elem z) (hy z)
  have hyo := flatten_one hy
  rcases a.shape with ⟨rfl, rfl⟩ | ⟨b, rfl, h2, h3⟩
  · by_cases hn : ys.length = 0
    · have : ys = [] := List.eq_nil_of_length_eq_zero hn
      subst this
      refine ⟨.slice none 0 0 false, h, ?_, ?_, Keeps.refl _ _⟩
      · simp only [List.length_nil] at hl he
        unfold appV; simp [hl, he]
      · simpa using Acc.nil h lo ty sz
    · refine ⟨.slice (some (h.size, 0)) ys.length ys.length true, h.psh (.cells ys.flatten ty true false none), ?_, ⟨.inr ⟨h.size, by simp, hlo, by rw [psh_same]; simp⟩, hall⟩, Keeps.psh hlo _⟩
      simp only [List.length_nil, Nat.zero_add] at hb
      have : ¬ ys.length ≤ 0 := by omega
      unfold appV
      simp only [hl, he, Nat.zero_add, this, if_false, hb, and_self, if_true, push_eq]
      simp [elemsV]
  · have hbs := H.get_lt h3
    by_cases hn : ys.length = 0
    · have : ys = [] := List.eq_nil_of_length_eq_zero hn
      subst this
      refine ⟨.slice (some (b, 0)) xs.length xs.length true, h, ?_, ?_, Keeps.refl _ _⟩
      · simp only [List.length_nil] at hl he
        unfold appV; simp [hl, he, putCells]
      · simpa using a
    · have hfl := flatten_length a.elem
      refine ⟨.slice (some (h.size, 0)) (xs.length + ys.length) (xs.length + ys.length) true, (h.set b .dead).psh (.cells (xs.flatten ++ ys.flatten) ty true false none), ?_, ⟨.inr ⟨h.size, by simp, hlo, ?_⟩, hall⟩, ?_⟩
      · have h1 : ¬ xs.length + ys.length ≤ xs.length := by omega
        have h4 : 0 + xs.length * sz = xs.flatten.length := by rw [hfl]; omega
        unfold appV
        simp only [hl, he, h1, if_false, hb, and_self, if_true, h3, Nat.le_refl, h4, hyo, fzFree]
        simp only [push_eq, Option.map_none]
        rw [getR_all (by rw [hfl])]
      · have := psh_same (h.set b .dead) (.cells (xs.flatten ++ ys.flatten) ty true false none)
        rw [H.set_size] at this
        rw [this]; simp
      · exact (Keeps.set hbs h2 _).trans (Keeps.psh (by rw [H.set_size]; exact hlo) _)
end Go.AM
