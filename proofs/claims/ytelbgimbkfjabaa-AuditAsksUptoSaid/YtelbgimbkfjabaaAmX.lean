/- My own texts of the evaluator, its soundness and its symbolic runs, laid for this claim. -/
import Derived.Test.YtelbgimbkfjabaaAmVAmW
set_option linter.unusedSimpArgs false
set_option linter.unusedVariables false
/-! The evaluator without fuel: its limit, and the limit's equations. -/
namespace Go.AM

def ApLe (f g : Ap) : Prop := ∀ v args h r, f v args h = some r → g v args h = some r

theorem evO_mono {P : Program} {f g : Ap} (hle : ApLe f g) {o : O} {T : List V} {h : H} {r} (he : evO P f o T h = some r) : evO P g o T h = some r := by
  unfold evO at he ⊢
  split
  · rename_i hw
    simp only [hw, if_true] at he
    cases hk : evK P T h o.op with
    | none => simp [hk] at he
    | some x =>
      cases x with
      | pur v => simpa [hk] using he
      | rd v => simpa [hk] using he
      | eff v h' => simpa [hk] using he
      | call v args =>
        simp only [hk] at he ⊢
        cases ha : f v args h with
        | none => simp [ha] at he
        | some y => rw [hle _ _ _ _ ha]; rw [ha] at he; exact he
  · rename_i hw
    simpa [hw] using he

theorem evOs_mono {P : Program} {f g : Ap} (hle : ApLe f g) : ∀ (ops : List O) {T : List V} {h : H} {r}, evOs P f ops T h = some r → evOs P g ops T h = some r
  | [], _, _, _, he => he
  | o :: ops, T, h, r, he => by
    simp only [evOs] at he ⊢
    cases ho : evO P f o T h with
    | none => simp [ho] at he
    | some y => rw [evO_mono hle ho]; rw [ho] at he; exact evOs_mono hle ops he

theorem evDr_mono {P : Program} {f g : Ap} (hle : ApLe f g) : ∀ (ops : List O) {T : List V} {h : H} {r}, evDr P f ops T h = some r → evDr P g ops T h = some r
  | [], _, _, _, he => he
  | o :: ops, T, h, r, he => by
    simp only [evDr] at he ⊢
    split
    · rename_i hw
      simp only [hw, if_true] at he
      cases hk : evK P T h o.op with
      | none => simp [hk] at he
      | some x =>
        have sub : ∀ T h (k : List Ent × List V × H → List Ent × List V × H) r', (evDr P f ops T h).map k = some r' → (evDr P g ops T h).map k = some r' := by
          intro T h k r' hm
          cases hd : evDr P f ops T h with
          | none => simp [hd] at hm
          | some y => rw [evDr_mono hle ops hd]; rw [hd] at hm; exact hm
        cases x with
        | pur v => simp only [hk] at he ⊢; exact sub _ _ _ _ he
        | rd v => simp only [hk] at he ⊢; exact sub _ _ _ _ he
        | eff v h' => simp only [hk] at he ⊢; exact sub _ _ _ _ he
        | call v args =>
          simp only [hk] at he ⊢
          cases ha : f v args h with
          | none => simp [ha] at he
          | some y => rw [hle _ _ _ _ ha]; rw [ha] at he; exact sub _ _ _ _ he
    · rename_i hw
      simp only [hw] at he
      simp only [Bool.false_eq_true, if_false] at he
      cases hd : evDr P f ops (putV T o.dst undefV) h with
      | none => simp [hd] at he
      | some y => rw [evDr_mono hle ops hd]; rw [hd] at he; exact he

theorem evDraw_mono {P : Program} {f g : Ap} (hle : ApLe f g) {ops : List O} {T : List V} {h : H} {r} (he : evDraw P f ops T h = some r) : evDraw P g ops T h = some r := by
  unfold evDraw at he ⊢
  cases hd : evDr P f ops T h with
  | none => simp [hd] at he
  | some y => rw [evDr_mono hle ops hd]; rw [hd] at he; exact he

theorem iter_mono {f g : St → Option (Ex × St)} (hle : ∀ s r, f s = some r → g s = some r) : ∀ {n m : Nat} {s r}, n ≤ m → iter f n s = some r → iter g m s = some r
  | 0, _, _, _, _, he => by simp [iter] at he
  | n + 1, 0, _, _, hnm, _ => by omega
  | n + 1, m + 1, s, r, hnm, he => by
    simp only [iter] at he ⊢
    cases hf : f s with
    | none => simp [hf] at he
    | some y =>
      rw [hle _ _ hf]; rw [hf] at he
      obtain ⟨ex, s'⟩ := y
      cases ex with
      | nrm => exact iter_mono hle (by omega) he
      | exit id => exact he
      | ret => exact he

theorem evC_mono {P : Program} {f g : Ap} (hle : ApLe f g) {n m : Nat} (hnm : n ≤ m) {ro : Option Nat} : ∀ (c : C) {s r}, evC P f n ro c s = some r → evC P g m ro c s = some r
  | .skip, _, _, he => he
  | .region ops, (T, h), r, he => by
    simp only [evC] at he ⊢
    cases hd : evOs P f ops T h with
    | none => simp [hd] at he
    | some y => rw [evOs_mono hle ops hd]; rw [hd] at he; exact he
  | .draw ops, (T, h), r, he => by
    simp only [evC] at he ⊢
    cases hd : evDraw P f ops T h with
    | none => simp [hd] at he
    | some y => rw [evDraw_mono hle hd]; rw [hd] at he; exact he
  | .seq a b, s, r, he => by
    simp only [evC] at he ⊢
    cases hd : evC P f n ro a s with
    | none => simp [hd] at he
    | some y =>
      rw [evC_mono hle hnm a hd]; rw [hd] at he
      obtain ⟨ex, s'⟩ := y
      cases ex with
      | nrm => exact evC_mono hle hnm b he
      | exit id => exact he
      | ret => exact he
  | .cond c a b, s, r, he => by
    simp only [evC] at he ⊢
    cases hc : c.ev s.1 with
    | none => simp [hc] at he
    | some v =>
      simp only [hc] at he ⊢
      cases v with
      | bool t => cases t <;> simp only [Bool.false_eq_true, if_true, if_false] at he ⊢ <;> exact evC_mono hle hnm _ he
      | _ => simp at he
  | .block id b, s, r, he => by
    simp only [evC] at he ⊢
    cases hd : evC P f n ro b s with
    | none => simp [hd] at he
    | some y => rw [evC_mono hle hnm b hd]; rw [hd] at he; exact he
  | .loop b, s, r, he => by
    simp only [evC] at he ⊢
    exact iter_mono (fun s r => evC_mono hle hnm b) hnm he
  | .exit _, _, _, he => he
  | .ret, _, _, he => he
  | .bad, _, _, he => he
  | .range x ps as b, (T, h), r, he => by
    simp only [evC] at he ⊢
    split
    · rename_i hro
      simp only [hro, if_true] at he
      split
      · rename_i gf fs cs hx
        simp only [hx] at he
        split
        · rename_i h1 hp
          simp only [hp] at he
          cases ha : f (.func gf fs cs) [.yield h.size] h1 with
          | none => simp [ha] at he
          | some y => rw [hle _ _ _ _ ha]; rw [ha] at he; exact he
        · rename_i hp; simp [hp] at he
      · rename_i hx
        split at he
        · rename_i gf fs cs hx'; exact absurd hx' (hx _ _ _)
        · cases he
    · rename_i hro; simp [hro] at he

theorem evFn_mono {P : Program} {f g : Ap} (hle : ApLe f g) {n m : Nat} (hnm : n ≤ m) {fn : Fn} {args : List V} {h : H} {r} (he : evFn P f n fn args h = some r) : evFn P g m fn args h = some r := by
  unfold evFn at he ⊢
  split
  · rename_i hl
    simp only [hl, if_true] at he
    cases hd : evC P f n none fn.body (args ++ List.replicate (fn.ntmps - args.length) undefV, h) with
    | none => simp [hd] at he
    | some y => rw [evC_mono hle hnm _ hd]; rw [hd] at he; exact he
  · rename_i hl; simp [hl] at he

theorem evRound_mono {P : Program} {f g : Ap} (hle : ApLe f g) {n m : Nat} (hnm : n ≤ m) {l : Nat} {args : List V} {h : H} {r} (he : evRound P f n l args h = some r) : evRound P g m l args h = some r := by
  unfold evRound at he ⊢
  split
  · rename_i st pd T ps as b hg
    simp only [hg] at he
    split
    · rename_i hl
      simp only [hl, if_true] at he
      cases hd : evC P f n (some l) as (zipSet T ps args, h) with
      | none => simp [hd] at he
      | some y =>
        rw [evC_mono hle hnm _ hd]; rw [hd] at he
        obtain ⟨ex, T1, h1⟩ := y
        cases ex with
        | nrm =>
          simp only at he ⊢
          split
          · rename_i pd2 T2 ps2 as2 b2 hg1
            simp only [hg1] at he
            cases hd2 : evC P f n (some l) b (T1, h1.set l (.loop .busy pd2 T2 ps2 as2 b2)) with
            | none => simp [hd2] at he
            | some z => rw [evC_mono hle hnm _ hd2]; rw [hd2] at he; exact he
          · rename_i hx
            split at he
            · rename_i hg1; exact absurd hg1 (hx _ _ _ _ _)
            · cases he
        | exit id => simp at he
        | ret => simp at he
    · rename_i hl; simp [hl] at he
  · rename_i hx
    split at he
    · rename_i hg; exact absurd hg (hx _ _ _ _ _ _)
    · cases he

theorem ap_mono (P : Program) (E : Env) : ∀ {n m : Nat}, n ≤ m → ApLe (ap P E n) (ap P E m)
  | 0, _, _, _, _, _, _, he => by simp [ap] at he
  | n + 1, 0, hnm, _, _, _, _, _ => by omega
  | n + 1, m + 1, hnm, v, args, h, r, he => by
    have ih := ap_mono P E (n := n) (m := m) (by omega)
    cases v with
    | func f fs cs =>
      simp only [ap] at he ⊢
      cases hp : E.prim f with
      | some g => simpa [hp] using he
      | none =>
        simp only [hp] at he ⊢
        cases hf : E.fns f with
        | none => simp [hf] at he
        | some fn => simp only [hf] at he ⊢; exact evFn_mono ih (by omega) he
    | yield l => simp only [ap] at he ⊢; exact evRound_mono ih (by omega) he
    | _ => simp [ap] at he

/-! ### the limit -/
noncomputable def lim {α : Type} (g : Nat → Option α) : Option α := open Classical in if h : ∃ n, (g n).isSome = true then g h.choose else none

theorem of_lim {α : Type} {g : Nat → Option α} {r : α} (h : lim g = some r) : ∃ n, g n = some r := by
  unfold lim at h
  split at h
  · exact ⟨_, h⟩
  · cases h
theorem lim_eq {α : Type} {g : Nat → Option α} (mono : ∀ n m r, n ≤ m → g n = some r → g m = some r) {n : Nat} {r : α} (h : g n = some r) : lim g = some r := by
  unfold lim
  have hx : ∃ n, (g n).isSome = true := ⟨n, by simp [h]⟩
  rw [dif_pos hx]
  obtain ⟨r', hr'⟩ := Option.isSome_iff_exists.1 hx.choose_spec
  have h1 := mono _ (max n hx.choose) _ (Nat.le_max_left _ _) h
  have h2 := mono _ (max n hx.choose) _ (Nat.le_max_right _ _) hr'
  rw [h1] at h2; cases h2; exact hr'
theorem lim_iff {α : Type} {g : Nat → Option α} (mono : ∀ n m r, n ≤ m → g n = some r → g m = some r) {r : α} : lim g = some r ↔ ∃ n, g n = some r :=
  ⟨of_lim,fun ⟨_,h⟩ => lim_eq mono h⟩
theorem opt_ext {α : Type} {a b : Option α} (h : ∀ r, a = some r ↔ b = some r) : a = b := by
  cases a with
  | none => cases b with
    | none => rfl
    | some y => exact ((h y).2 rfl)
  | some x => exact ((h x).1 rfl).symm

section
variable (P : Program) (E : Env)
noncomputable def AP : Ap := fun f args h => lim fun n => ap P E n f args h
noncomputable def EC (ro : Option Nat) (c : C) (s : St) : Option (Ex × St) := lim fun n => evC P (ap P E n) n ro c s
noncomputable def FN (fn : Fn) (args : List V) (h : H) : Option (V × H) :=
  if args.length ≤ fn.ntmps then
    match EC P E none fn.body (args ++ List.replicate (fn.ntmps - args.length) undefV, h) with
    | some (.nrm, (T', h')) => (resVs T' h' fn.results).map fun vs => (oneOr vs, h')
    | some (.ret, (T', h')) => (resVs T' h' fn.results).map fun vs => (oneOr vs, h')
    | _ => none
  else none
noncomputable def RND (l : Nat) (args : List V) (h : H) : Option (V × H) :=
  match h.get l with
  | some (.loop _ _ T ps as b) =>
    if args.length = ps.length then
      match EC P E (some l) as (zipSet T ps args, h) with
      | some (.nrm, (T1, h1)) => match h1.get l with
        | some (.loop .ready pend T ps as b') =>
          match EC P E (some l) b (T1, h1.set l (.loop .busy pend T ps as b')) with
          | some (ex, (_, h2)) => match h2.get l with
            | some (.loop _ _ T ps as b') =>
              match ex with
              | .nrm => some (.bool true, h2.set l (.loop .ready none T ps as b'))
              | .ret => some (.bool false, h2.set l (.loop .done (some .ret) T ps as b'))
              | .exit id => some (.bool false, h2.set l (.loop .done (some (.exit id)) T ps as b'))
            | _ => none
          | none => none
        | _ => none
      | _ => none
    else none
  | _ => none
end

variable {P : Program} {E : Env}

theorem AP_iff {f : V} {args : List V} {h : H} {r} : AP P E f args h = some r ↔ ∃ n, ap P E n f args h = some r :=
  lim_iff fun _ _ _ hnm he => ap_mono P E hnm _ _ _ _ he
theorem EC_iff {ro : Option Nat} {c : C} {s : St} {r} : EC P E ro c s = some r ↔ ∃ n, evC P (ap P E n) n ro c s = some r :=
  lim_iff fun _ _ _ hnm he => evC_mono (ap_mono P E hnm) hnm c he
theorem ap_le (n : Nat) : ApLe (ap P E n) (AP P E) := fun _ _ _ _ he => AP_iff.2 ⟨n, he⟩

theorem evO_lim {o : O} {T : List V} {h : H} {r} (he : evO P (AP P E) o T h = some r) : ∃ n, evO P (ap P E n) o T h = some r := by
  unfold evO at he ⊢
  split
  · rename_i hw
    simp only [hw, if_true] at he
    cases hk : evK P T h o.op with
    | none => simp [hk] at he
    | some x =>
      cases x with
      | pur v => exact ⟨0, by simpa [hk] using he⟩
      | rd v => exact ⟨0, by simpa [hk] using he⟩
      | eff v h' => exact ⟨0, by simpa [hk] using he⟩
      | call v args =>
        simp only [hk] at he ⊢
        cases ha : AP P E v args h with
        | none => simp [ha] at he
        | some y =>
          obtain ⟨n, hn⟩ := AP_iff.1 ha
          exact ⟨n, by simp only [hn]; rw [ha] at he; exact he⟩
  · rename_i hw
    exact ⟨0, by simpa [hw] using he⟩

theorem evOs_lim : ∀ (ops : List O) {T : List V} {h : H} {r}, evOs P (AP P E) ops T h = some r → ∃ n, evOs P (ap P E n) ops T h = some r
  | [], _, _, _, he => ⟨0, he⟩
  | o :: ops, T, h, r, he => by
    simp only [evOs] at he ⊢
    cases ho : evO P (AP P E) o T h with
    | none => simp [ho] at he
    | some y =>
      rw [ho] at he
      obtain ⟨n, hn⟩ := evO_lim ho
      obtain ⟨k, hk⟩ := evOs_lim ops he
      refine ⟨max n k, ?_⟩
      rw [evO_mono (ap_mono P E (Nat.le_max_left n k)) hn]
      exact evOs_mono (ap_mono P E (Nat.le_max_right n k)) ops hk

theorem evDr_lim : ∀ (ops : List O) {T : List V} {h : H} {r}, evDr P (AP P E) ops T h = some r → ∃ n, evDr P (ap P E n) ops T h = some r
  | [], _, _, _, he => ⟨0, he⟩
  | o :: ops, T, h, r, he => by
    simp only [evDr] at he ⊢
    split
    · rename_i hw
      simp only [hw, if_true] at he
      have sub : ∀ T h (k : List Ent × List V × H → List Ent × List V × H), (evDr P (AP P E) ops T h).map k = some r → ∃ n, (evDr P (ap P E n) ops T h).map k = some r := by
        intro T h k hm
        cases hd : evDr P (AP P E) ops T h with
        | none => simp [hd] at hm
        | some y =>
          obtain ⟨n, hn⟩ := evDr_lim ops hd
          exact ⟨n, by rw [hn]; rw [hd] at hm; exact hm⟩
      cases hk : evK P T h o.op with
      | none => simp [hk] at he
      | some x =>
        cases x with
        | pur v => simp only [hk] at he ⊢; exact sub _ _ _ he
        | rd v => simp only [hk] at he ⊢; exact sub _ _ _ he
        | eff v h' => simp only [hk] at he ⊢; exact sub _ _ _ he
        | call v args =>
          simp only [hk] at he ⊢
          cases ha : AP P E v args h with
          | none => simp [ha] at he
          | some y =>
            obtain ⟨n, hn⟩ := AP_iff.1 ha
            rw [ha] at he
            obtain ⟨v', h'⟩ := y
            simp only at he
            cases hd : evDr P (AP P E) ops (putV T o.dst v') h' with
            | none => simp [hd] at he
            | some z =>
              obtain ⟨k, hk'⟩ := evDr_lim ops hd
              refine ⟨max n k, ?_⟩
              rw [ap_mono P E (Nat.le_max_left n k) _ _ _ _ hn]
              simp only
              rw [evDr_mono (ap_mono P E (Nat.le_max_right n k)) ops hk']
              rw [hd] at he; exact he
    · rename_i hw
      simp only [hw, Bool.false_eq_true, if_false] at he
      cases hd : evDr P (AP P E) ops (putV T o.dst undefV) h with
      | none => simp [hd] at he
      | some y =>
        obtain ⟨n, hn⟩ := evDr_lim ops hd
        exact ⟨n, by rw [hn]; rw [hd] at he; exact he⟩

theorem evDraw_lim {ops : List O} {T : List V} {h : H} {r} (he : evDraw P (AP P E) ops T h = some r) : ∃ n, evDraw P (ap P E n) ops T h = some r := by
  unfold evDraw at he ⊢
  cases hd : evDr P (AP P E) ops T h with
  | none => simp [hd] at he
  | some y =>
    obtain ⟨n, hn⟩ := evDr_lim ops hd
    exact ⟨n, by rw [hn]; rw [hd] at he; exact he⟩

/-! ### equations -/
variable {ro : Option Nat}
theorem EC_skip (s : St) : EC P E ro .skip s = some (.nrm, s) := EC_iff.2 ⟨0, rfl⟩
theorem EC_exit (id : Nat) (s : St) : EC P E ro (.exit id) s = some (.exit id, s) := EC_iff.2 ⟨0, rfl⟩
theorem EC_ret (s : St) : EC P E ro .ret s = some (.ret, s) := EC_iff.2 ⟨0, rfl⟩
theorem EC_region (ops : List O) (T : List V) (h : H) : EC P E ro (.region ops) (T, h) = (evOs P (AP P E) ops T h).map fun s => (.nrm, s) := by
  refine opt_ext fun r => ?_
  rw [EC_iff]
  simp only [evC]
  constructor
  · rintro ⟨n, hn⟩
    cases hd : evOs P (ap P E n) ops T h with
    | none => simp [hd] at hn
    | some y => rw [evOs_mono (ap_le n) ops hd]; rw [hd] at hn; exact hn
  · intro hn
    cases hd : evOs P (AP P E) ops T h with
    | none => simp [hd] at hn
    | some y =>
      obtain ⟨n, hk⟩ := evOs_lim ops hd
      exact ⟨n, by rw [hk]; rw [hd] at hn; exact hn⟩
theorem EC_draw (ops : List O) (T : List V) (h : H) : EC P E ro (.draw ops) (T, h) = (evDraw P (AP P E) ops T h).map fun s => (.nrm, s) := by
  refine opt_ext fun r => ?_
  rw [EC_iff]
  simp only [evC]
  constructor
  · rintro ⟨n, hn⟩
    cases hd : evDraw P (ap P E n) ops T h with
    | none => simp [hd] at hn
    | some y => rw [evDraw_mono (ap_le n) hd]; rw [hd] at hn; exact hn
  · intro hn
    cases hd : evDraw P (AP P E) ops T h with
    | none => simp [hd] at hn
    | some y =>
      obtain ⟨n, hk⟩ := evDraw_lim hd
      exact ⟨n, by rw [hk]; rw [hd] at hn; exact hn⟩

def andThen (r : Option (Ex × St)) (k : St → Option (Ex × St)) : Option (Ex × St) :=
  match r with
  | some (.nrm, s') => k s'
  | r => r

theorem EC_seq (a b : C) (s : St) : EC P E ro (.seq a b) s = andThen (EC P E ro a s) (EC P E ro b) := by
  refine opt_ext fun r => ?_
  rw [EC_iff]
  simp only [evC]
  constructor
  · rintro ⟨n, hn⟩
    cases hd : evC P (ap P E n) n ro a s with
    | none => simp [hd] at hn
    | some y =>
      rw [EC_iff.2 ⟨n, hd⟩]; rw [hd] at hn
      obtain ⟨ex, s'⟩ := y
      cases ex with
      | nrm => exact EC_iff.2 ⟨n, hn⟩
      | exit id => exact hn
      | ret => exact hn
  · intro hn
    cases hd : EC P E ro a s with
    | none => simp [hd, andThen] at hn
    | some y =>
      rw [hd] at hn
      obtain ⟨n, hk⟩ := EC_iff.1 hd
      obtain ⟨ex, s'⟩ := y
      cases ex with
      | nrm =>
        obtain ⟨k, hk2⟩ := EC_iff.1 hn
        refine ⟨max n k, ?_⟩
        rw [evC_mono (ap_mono P E (Nat.le_max_left n k)) (Nat.le_max_left n k) _ hk]
        exact evC_mono (ap_mono P E (Nat.le_max_right n k)) (Nat.le_max_right n k) _ hk2
      | exit id => exact ⟨n, by rw [hk]; exact hn⟩
      | ret => exact ⟨n, by rw [hk]; exact hn⟩

theorem EC_cond (c : A) (a b : C) (s : St) : EC P E ro (.cond c a b) s = (match c.ev s.1 with
    | some (.bool t) => if t then EC P E ro a s else EC P E ro b s
    | _ => none) := by
  refine opt_ext fun r => ?_
  rw [EC_iff]
  simp only [evC]
  cases hc : c.ev s.1 with
  | none => simp
  | some v =>
    cases v with
    | bool t => cases t <;> simp [EC_iff]
    | _ => simp

theorem EC_block (id : Nat) (b : C) (s : St) : EC P E ro (.block id b) s = (match EC P E ro b s with
    | some (.exit id', s') => if id' = id then some (.nrm, s') else some (.exit id', s')
    | r => r) := by
  refine opt_ext fun r => ?_
  rw [EC_iff]
  simp only [evC]
  constructor
  · rintro ⟨n, hn⟩
    cases hd : evC P (ap P E n) n ro b s with
    | none => simp [hd] at hn
    | some y => rw [EC_iff.2 ⟨n, hd⟩]; rw [hd] at hn; exact hn
  · intro hn
    cases hd : EC P E ro b s with
    | none => simp [hd] at hn
    | some y =>
      obtain ⟨n, hk⟩ := EC_iff.1 hd
      exact ⟨n, by rw [hk]; rw [hd] at hn; exact hn⟩

theorem EC_loop (b : C) (s : St) : EC P E ro (.loop b) s = andThen (EC P E ro b s) (EC P E ro (.loop b)) := by
  refine opt_ext fun r => ?_
  rw [EC_iff]
  simp only [evC]
  constructor
  · rintro ⟨n, hn⟩
    cases n with
    | zero => simp [iter] at hn
    | succ n =>
      simp only [iter] at hn
      cases hd : evC P (ap P E (n + 1)) (n + 1) ro b s with
      | none => simp [hd] at hn
      | some y =>
        rw [EC_iff.2 ⟨n + 1, hd⟩]; rw [hd] at hn
        obtain ⟨ex, s'⟩ := y
        cases ex with
        | nrm => exact EC_iff.2 ⟨n + 1, by simp only [evC]; exact iter_mono (fun _ _ h => h) (Nat.le_succ n) hn⟩
        | exit id => exact hn
        | ret => exact hn
  · intro hn
    cases hd : EC P E ro b s with
    | none => simp [hd, andThen] at hn
    | some y =>
      rw [hd] at hn
      obtain ⟨n, hk⟩ := EC_iff.1 hd
      obtain ⟨ex, s'⟩ := y
      cases ex with
      | nrm =>
        obtain ⟨k, hk2⟩ := EC_iff.1 hn
        simp only [evC] at hk2
        have hnm : n ≤ max n k + 1 := by omega
        have hkm : k ≤ max n k + 1 := by omega
        refine ⟨max n k + 1, ?_⟩
        simp only [iter]
        rw [evC_mono (ap_mono P E hnm) hnm _ hk]
        exact iter_mono (fun s r => evC_mono (ap_mono P E hkm) hkm b) (Nat.le_max_right n k) hk2
      | exit id => exact ⟨n + 1, by simp only [iter]; rw [evC_mono (ap_mono P E (Nat.le_succ n)) (Nat.le_succ n) _ hk]; exact hn⟩
      | ret => exact ⟨n + 1, by simp only [iter]; rw [evC_mono (ap_mono P E (Nat.le_succ n)) (Nat.le_succ n) _ hk]; exact hn⟩

def rangeEnd (T : List V) (l : Nat) : Option (V × H) → Option (Ex × St)
  | some (_, h2) => match h2.get l with
    | some (.loop st pend T' ps' as' b') =>
      if st = .busy then none else
      let h3 := h2.set l (.loop .exhausted pend T' ps' as' b')
      match pend with
      | none => some (.nrm, (T, h3))
      | some .ret => some (.ret, (T, h3))
      | some (.exit id) => some (.exit id, (T, h3))
      | some _ => none
    | _ => none
  | none => none

theorem EC_range (f : A) (ps : List Nat) (as b : C) (T : List V) (h : H) (hro : roOk h ro = true) {g : Nat} {fs cs : List V} (hf : f.ev T = some (.func g fs cs)) :
    EC P E ro (.range f ps as b) (T, h) = rangeEnd T h.size (AP P E (.func g fs cs) [.yield h.size] (h.psh (.loop .ready none T ps as b))) := by
  refine opt_ext fun r => ?_
  rw [EC_iff]
  simp only [evC, hro, if_true, hf, H.push]
  constructor
  · rintro ⟨n, hn⟩
    cases ha : ap P E n (.func g fs cs) [.yield h.size] (h.psh (.loop .ready none T ps as b)) with
    | none => simp [ha] at hn
    | some y => rw [ap_le n _ _ _ _ ha]; rw [ha] at hn; exact hn
  · intro hn
    cases ha : AP P E (.func g fs cs) [.yield h.size] (h.psh (.loop .ready none T ps as b)) with
    | none => simp [ha, rangeEnd] at hn
    | some y =>
      obtain ⟨n, hk⟩ := AP_iff.1 ha
      exact ⟨n, by rw [hk]; rw [ha] at hn; exact hn⟩

theorem FN_iff {fn : Fn} {args : List V} {h : H} {r} : FN P E fn args h = some r ↔ ∃ n, evFn P (ap P E n) n fn args h = some r := by
  unfold FN evFn
  split
  · constructor
    · intro hn
      cases hd : EC P E none fn.body (args ++ List.replicate (fn.ntmps - args.length) undefV, h) with
      | none => simp [hd] at hn
      | some y =>
        obtain ⟨n, hk⟩ := EC_iff.1 hd
        exact ⟨n, by rw [hk]; rw [hd] at hn; exact hn⟩
    · rintro ⟨n, hn⟩
      cases hd : evC P (ap P E n) n none fn.body (args ++ List.replicate (fn.ntmps - args.length) undefV, h) with
      | none => simp [hd] at hn
      | some y => rw [EC_iff.2 ⟨n, hd⟩]; rw [hd] at hn; exact hn
  · simp

theorem AP_prim {f : Nat} {fs cs args : List V} {h : H} {g} (hp : E.prim f = some g) : AP P E (.func f fs cs) args h = g (fs ++ args ++ cs) h := by
  refine opt_ext fun r => ?_
  rw [AP_iff]
  constructor
  · rintro ⟨n, hn⟩
    cases n with
    | zero => simp [ap] at hn
    | succ n => simpa [ap, hp] using hn
  · intro hn; exact ⟨1, by simpa [ap, hp] using hn⟩

theorem AP_fn {f : Nat} {fs cs args : List V} {h : H} {fn : Fn} (hp : E.prim f = none) (hf : E.fns f = some fn) : AP P E (.func f fs cs) args h = FN P E fn (fs ++ args ++ cs) h := by
  refine opt_ext fun r => ?_
  rw [AP_iff, FN_iff]
  constructor
  · rintro ⟨n, hn⟩
    cases n with
    | zero => simp [ap] at hn
    | succ n => exact ⟨n, by simpa [ap, hp, hf] using hn⟩
  · rintro ⟨n, hn⟩; exact ⟨n + 1, by simpa [ap, hp, hf] using hn⟩

theorem RND_iff {l : Nat} {args : List V} {h : H} {r} : RND P E l args h = some r ↔ ∃ n, evRound P (ap P E n) n l args h = some r := by
  unfold RND evRound
  cases hg : h.get l with
  | none => simp
  | some o =>
    cases o with
    | loop st pd T ps as b =>
      simp only
      split
      · constructor
        · intro hn
          cases hd : EC P E (some l) as (zipSet T ps args, h) with
          | none => simp [hd] at hn
          | some y =>
            obtain ⟨n, hk⟩ := EC_iff.1 hd
            rw [hd] at hn
            obtain ⟨ex, T1, h1⟩ := y
            cases ex with
            | nrm =>
              simp only at hn
              cases hg1 : h1.get l with
              | none => simp [hg1] at hn
              | some o1 =>
                cases o1 with
                | loop st2 pd2 T2 ps2 as2 b2 =>
                  cases st2 with
                  | ready =>
                    simp only [hg1] at hn
                    cases hd2 : EC P E (some l) b (T1, h1.set l (.loop .busy pd2 T2 ps2 as2 b2)) with
                    | none => simp [hd2] at hn
                    | some z =>
                      obtain ⟨k, hk2⟩ := EC_iff.1 hd2
                      refine ⟨max n k, ?_⟩
                      rw [evC_mono (ap_mono P E (Nat.le_max_left n k)) (Nat.le_max_left n k) _ hk]
                      simp only [hg1]
                      rw [evC_mono (ap_mono P E (Nat.le_max_right n k)) (Nat.le_max_right n k) _ hk2]
                      rw [hd2] at hn; exact hn
                  | _ => simp [hg1] at hn
                | _ => simp [hg1] at hn
            | exit id => simp at hn
            | ret => simp at hn
        · rintro ⟨n, hn⟩
          cases hd : evC P (ap P E n) n (some l) as (zipSet T ps args, h) with
          | none => simp [hd] at hn
          | some y =>
            rw [EC_iff.2 ⟨n, hd⟩]; rw [hd] at hn
            obtain ⟨ex, T1, h1⟩ := y
            cases ex with
            | nrm =>
              simp only at hn ⊢
              cases hg1 : h1.get l with
              | none => simp [hg1] at hn
              | some o1 =>
                cases o1 with
                | loop st2 pd2 T2 ps2 as2 b2 =>
                  cases st2 with
                  | ready =>
                    simp only [hg1] at hn ⊢
                    cases hd2 : evC P (ap P E n) n (some l) b (T1, h1.set l (.loop .busy pd2 T2 ps2 as2 b2)) with
                    | none => simp [hd2] at hn
                    | some z => rw [EC_iff.2 ⟨n, hd2⟩]; rw [hd2] at hn; exact hn
                  | _ => simp [hg1] at hn
                | _ => simp [hg1] at hn
            | exit id => simp at hn
            | ret => simp at hn
      · simp
    | _ => simp

theorem AP_yield {l : Nat} {args : List V} {h : H} : AP P E (.yield l) args h = RND P E l args h := by
  refine opt_ext fun r => ?_
  rw [AP_iff, RND_iff]
  constructor
  · rintro ⟨n, hn⟩
    cases n with
    | zero => simp [ap] at hn
    | succ n => exact ⟨n, by simpa [ap] using hn⟩
  · rintro ⟨n, hn⟩; exact ⟨n + 1, by simpa [ap] using hn⟩
end Go.AM
