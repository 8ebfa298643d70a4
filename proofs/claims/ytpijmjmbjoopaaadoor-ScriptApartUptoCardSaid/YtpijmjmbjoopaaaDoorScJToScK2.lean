/- My own texts of the evaluator, its soundness and its symbolic runs, laid for this claim. -/
import Derived.Test.YtpijmjmbjoopaaaDoorScWScL
set_option linter.unusedSimpArgs false
set_option linter.unusedVariables false
/-! Unlike steps have unlike lines: plain lists of bytes. -/
namespace Go.AM.Sc
open Go.AM
open Go.Lib (itoa decDigits)

/-! ### numbers -/
def decVal (l : List UInt8) : Nat := l.foldl (fun a b => 10 * a + (b.toNat - 48)) 0
theorem decVal_snoc (l : List UInt8) (b : UInt8) : decVal (l ++ [b]) = 10 * decVal l + (b.toNat - 48) := by simp [decVal]
theorem digit_toNat {n : Nat} (h : n < 10) : (UInt8.ofNat (48 + n)).toNat = 48 + n := by
  rw [UInt8.toNat_ofNat']; omega
theorem dec_val (u : Nat) : decVal (decDigits u) = u := by
  induction u using Nat.strongRecOn with
  | _ u ih =>
    rw [decDigits]
    split
    · rename_i h
      simp only [decVal, List.foldl_cons, List.foldl_nil, digit_toNat h]; omega
    · rename_i h
      rw [decVal_snoc, ih (u / 10) (by omega), digit_toNat (by omega)]; omega
theorem dec_dig (u : Nat) : ∀ b ∈ decDigits u, 48 ≤ b.toNat ∧ b.toNat ≤ 57 := by
  induction u using Nat.strongRecOn with
  | _ u ih =>
    intro b hb
    rw [decDigits] at hb
    split at hb
    · rename_i h
      rw [List.mem_singleton.1 hb, digit_toNat h]; omega
    · rename_i h
      rcases List.mem_append.1 hb with hb | hb
      · exact ih (u / 10) (by omega) b hb
      · rw [List.mem_singleton.1 hb, digit_toNat (by omega)]; omega
theorem dec_inj {u v : Nat} (h : decDigits u = decDigits v) : u = v := by rw [← dec_val u, h, dec_val]
theorem dec_ne (u : Nat) : decDigits u ≠ [] := fun h => by
  rw [decDigits] at h
  split at h
  · cases h
  · simp at h
theorem dec_head {u : Nat} {b : UInt8} {r : List UInt8} (h : decDigits u = b :: r) : b ≠ 45 := fun e => by
  have := dec_dig u b (by rw [h]; exact List.mem_cons_self)
  rw [e] at this
  exact absurd this.1 (by decide)
theorem itoa_inj {a b : Int} (h : itoa a = itoa b) : a = b := by
  unfold itoa at h
  split at h
  · split at h
    · have := dec_inj (List.cons.inj h).2
      omega
    · exact absurd rfl (dec_head h.symm)
  · split at h
    · exact absurd rfl (dec_head h)
    · have := dec_inj h
      omega
theorem itoa_sp (a : Int) : (32 : UInt8) ∉ itoa a := fun h => by
  unfold itoa at h
  split at h
  · rcases List.mem_cons.1 h with h | h
    · exact absurd h (by decide)
    · exact absurd (dec_dig _ _ h).1 (by decide)
  · exact absurd (dec_dig _ _ h).1 (by decide)
theorem split_sp : ∀ {a a' b b' : List UInt8}, (32 : UInt8) ∉ a → (32 : UInt8) ∉ a' → a ++ 32 :: b = a' ++ 32 :: b' → a = a' ∧ b = b'
  | [], [], b, b', _, _, h => ⟨rfl, (List.cons.inj h).2⟩
  | [], c :: a', b, b', _, h2, h => absurd (by rw [(List.cons.inj h).1]; exact List.mem_cons_self) h2
  | c :: a, [], b, b', h1, _, h => absurd (by rw [← (List.cons.inj h).1]; exact List.mem_cons_self) h1
  | c :: a, d :: a', b, b', h1, h2, h => by
    obtain ⟨e1, e2⟩ := List.cons.inj h
    obtain ⟨e3, e4⟩ := split_sp (fun hm => h1 (List.mem_cons_of_mem _ hm)) (fun hm => h2 (List.mem_cons_of_mem _ hm)) e2
    exact ⟨by rw [e1, e3], e4⟩
theorem num_sp {a b : Int} {r r' : List UInt8} (h : itoa a ++ 32 :: r = itoa b ++ 32 :: r') : a = b ∧ r = r' := by
  obtain ⟨h1, h2⟩ := split_sp (itoa_sp a) (itoa_sp b) h
  exact ⟨itoa_inj h1, h2⟩

/-! ### texts -/
theorem hexd_inv : ∀ n < 16, hexs.idxOf (hexd n) = n := by decide
theorem hexd_inj {n m : Nat} (hn : n < 16) (hm : m < 16) (h : hexd n = hexd m) : n = m := by rw [← hexd_inv n hn, h, hexd_inv m hm]
theorem qB_cases (b : UInt8) : (qB b = [92, b] ∧ (b = 34 ∨ b = 92)) ∨ (qB b = [92, 120, hexd (b.toNat / 16), hexd (b.toNat % 16)]) ∨ (qB b = [b] ∧ b ≠ 34 ∧ b ≠ 92) := by
  unfold qB
  by_cases h1 : b.toNat = 34 ∨ b.toNat = 92
  · left
    rw [if_pos h1]
    exact ⟨rfl, h1.imp (fun h => UInt8.toNat_inj.1 h) (fun h => UInt8.toNat_inj.1 h)⟩
  · rw [if_neg h1]
    by_cases h3 : b.toNat < 32 ∨ 126 < b.toNat
    · right; left; rw [if_pos h3]
    · right; right; rw [if_neg h3]
      exact ⟨rfl, fun h => h1 (.inl (by rw [h]; rfl)), fun h => h1 (.inr (by rw [h]; rfl))⟩
theorem qB_split {b c : UInt8} {u v : List UInt8} (h : qB b ++ u = qB c ++ v) : b = c ∧ u = v := by
  have hb := UInt8.toNat_lt b
  have hc := UInt8.toNat_lt c
  rcases qB_cases b with ⟨e1, p1⟩ | e1 | ⟨e1, p1⟩ <;> rcases qB_cases c with ⟨e2, p2⟩ | e2 | ⟨e2, p2⟩ <;> rw [e1, e2] at h
  · simp only [List.cons_append, List.nil_append, List.cons.injEq, true_and] at h; exact h
  · simp only [List.cons_append, List.nil_append, List.cons.injEq, true_and] at h
    rw [h.1] at p1; exact absurd p1 (by decide)
  · simp only [List.cons_append, List.nil_append, List.cons.injEq] at h
    exact absurd h.1.symm p2.2
  · simp only [List.cons_append, List.nil_append, List.cons.injEq, true_and] at h
    rw [← h.1] at p2; exact absurd p2 (by decide)
  · simp only [List.cons_append, List.nil_append, List.cons.injEq, true_and] at h
    have a1 := hexd_inj (by omega) (by omega) h.1
    have a2 := hexd_inj (by omega) (by omega) h.2.1
    refine ⟨UInt8.toNat_inj.1 (by omega), h.2.2⟩
  · simp only [List.cons_append, List.nil_append, List.cons.injEq] at h
    exact absurd h.1.symm p2.2
  · simp only [List.cons_append, List.nil_append, List.cons.injEq] at h
    exact absurd h.1 p1.2
  · simp only [List.cons_append, List.nil_append, List.cons.injEq] at h
    exact absurd h.1 p1.2
  · simp only [List.cons_append, List.nil_append, List.cons.injEq] at h; exact h
theorem qB_head (b : UInt8) (u v : List UInt8) : qB b ++ u ≠ 34 :: v := fun h => by
  rcases qB_cases b with ⟨e1, p1⟩ | e1 | ⟨e1, p1⟩ <;> rw [e1] at h <;> simp only [List.cons_append, List.nil_append, List.cons.injEq] at h
  · exact absurd h.1 (by decide)
  · exact absurd h.1 (by decide)
  · exact p1.1 h.1
theorem qs_cons (b : UInt8) (s : List UInt8) : qs (b :: s) = qB b ++ qs s := by simp [qs]
theorem qs_split : ∀ {s t u v : List UInt8}, qs s ++ 34 :: u = qs t ++ 34 :: v → s = t ∧ u = v
  | [], [], u, v, h => ⟨rfl, (List.cons.inj h).2⟩
  | [], c :: t, u, v, h => by
    rw [qs_cons, List.append_assoc] at h
    exact absurd h.symm (qB_head _ _ _)
  | b :: s, [], u, v, h => by
    rw [qs_cons, List.append_assoc] at h
    exact absurd h (qB_head _ _ _)
  | b :: s, c :: t, u, v, h => by
    rw [qs_cons, qs_cons, List.append_assoc, List.append_assoc] at h
    obtain ⟨e1, e2⟩ := qB_split h
    obtain ⟨e3, e4⟩ := qs_split e2
    exact ⟨by rw [e1, e3], e4⟩
theorem quote_split {s t u v : List UInt8} (h : quoteB s ++ u = quoteB t ++ v) : s = t ∧ u = v := by
  unfold quoteB at h
  simp only [List.cons_append, List.nil_append, List.append_assoc, List.cons.injEq, true_and] at h
  exact qs_split h
theorem quote_inj {s t : List UInt8} (h : quoteB s = quoteB t) : s = t :=
  (quote_split (u := []) (v := []) (by rw [h])).1

/-! ### operations, queries, entries -/
theorem opS_inj {x y : Opr} (hx : opOk x) (hy : opOk y) (h : opS x = opS y) : x = y := by
  obtain ⟨kx, bx⟩ := hx
  obtain ⟨ky, bdy⟩ := hy
  rw [← bx, ← bdy]
  rcases kx with e | e | e <;> rcases ky with e' | e' | e' <;> simp only [opS, e, e', if_true, List.cons_append, List.nil_append, List.append_assoc] at h <;> try (simp at h; done)
  · simp only [List.cons.injEq, true_and] at h
    obtain ⟨h1, h2⟩ := num_sp h
    simp [opBare, e, e', h1, quote_inj h2]
  · simp at h
    obtain ⟨h1, h2⟩ := num_sp h
    obtain ⟨h3, h4⟩ := num_sp h2
    simp [opBare, e, e', h1, h3, quote_inj h4]
  · simp at h
    obtain ⟨h1, h2⟩ := num_sp h
    obtain ⟨h3, h4⟩ := quote_split h2
    simp only [List.cons.injEq, true_and] at h4
    simp [opBare, e, e', h1, h3, quote_inj h4]
theorem queryS_inj {x y : Query} (hx : queryOk x) (hy : queryOk y) (h : queryS x = queryS y) : x = y := by
  obtain ⟨k, p, n⟩ := x
  obtain ⟨k', p', n'⟩ := y
  simp only [queryOk] at hx hy
  rcases hx with ⟨kx, hx⟩ | ⟨kx, hx⟩ <;> rcases hy with ⟨ky, hy⟩ | ⟨ky, hy⟩
  · rcases kx with e | e | e <;> rcases ky with e' | e' | e' <;> simp [queryS, e, e'] at h <;> simp [e, e', hx, hy, quote_inj h]
  · rcases kx with e | e | e <;> simp [queryS, e, ky] at h
  · rcases ky with e | e | e <;> simp [queryS, e, kx] at h
  · simp [queryS, kx, ky] at h
    simp [kx, ky, hx, hy, itoa_inj h]
theorem entS_inj {x y : Entry} (hx : entOk x) (hy : entOk y) (h : entS x = entS y) : flatOf x = flatOf y := by
  obtain ⟨kx, _, bx⟩ := hx
  obtain ⟨ky, _, bdy⟩ := hy
  rw [bx, bdy]
  rcases kx with e | e | e | e <;> rcases ky with e' | e' | e' | e' <;> simp [entS, e, e', itoas1, joinB, itoas] at h
  · simp [entBare, e, e']
  · obtain ⟨h1, h2⟩ := num_sp h
    simp [entBare, e, e', h1, itoa_inj h2]
  · simp [entBare, e, e', itoa_inj h]
  · obtain ⟨h1, h2⟩ := num_sp h
    simp [entBare, e, e', h1, itoa_inj h2]

/-! ### steps -/
def w3 (k : Nat) : List UInt8 := (([[], [116, 105, 99], [119, 114, 105], [114, 101, 116], [114, 101, 97], [99, 111, 110], [100, 101, 108], [100, 114, 111], [100, 111, 117], [115, 112, 111], [99, 114, 97], [102, 117, 115], [114, 101, 115], [97, 108, 108], [97, 114, 114]] : List (List UInt8))).getD k []
theorem w3_inj : ∀ a < 15, ∀ b < 15, w3 a = w3 b → a = b := by decide
theorem kinds {k : Int} (h : 1 ≤ k ∧ k ≤ 14) : k = 1 ∨ k = 2 ∨ k = 3 ∨ k = 4 ∨ k = 5 ∨ k = 6 ∨ k = 7 ∨ k = 8 ∨ k = 9 ∨ k = 10 ∨ k = 11 ∨ k = 12 ∨ k = 13 ∨ k = 14 := by omega
theorem stepS_w3 {x : WStep} (h : 1 ≤ x.kind ∧ x.kind ≤ 14) : (stepS x).take 3 = w3 x.kind.toNat := by
  rcases kinds h with e | e | e | e | e | e | e | e | e | e | e | e | e | e <;> simp [stepS, e, w3]
theorem kind_eq {x y : WStep} (hx : 1 ≤ x.kind ∧ x.kind ≤ 14) (hy : 1 ≤ y.kind ∧ y.kind ≤ 14) (h : stepS x = stepS y) : x.kind = y.kind := by
  have := w3_inj x.kind.toNat (by omega) y.kind.toNat (by omega) (by rw [← stepS_w3 hx, ← stepS_w3 hy, h])
  omega
theorem at_sp {x y : WStep} {r r' : List UInt8} (h : atS x ++ 32 :: r = atS y ++ 32 :: r') : x.at_ = y.at_ ∧ r = r' := by
  simp only [atS, joinB, itoas, List.map_cons, List.map_nil, List.flatten_cons, List.flatten_nil, List.append_nil, List.append_assoc, List.cons_append] at h
  obtain ⟨h1, h2⟩ := num_sp h
  obtain ⟨h3, h4⟩ := num_sp h2
  obtain ⟨k1, ⟨g, p⟩, k2⟩ := x
  obtain ⟨l1, ⟨g', p'⟩, l2⟩ := y
  simp only at h1 h3
  exact ⟨by simp [h1, h3], h4⟩
theorem at_inj {x y : WStep} (h : atS x = atS y) : x.at_ = y.at_ := by
  exact (at_sp (x := x) (y := y) (r := []) (r' := []) (by rw [h])).1
theorem alikeP_trans {x y z : WStep} (h1 : alikeP x y) (h2 : alikeP y z) : alikeP x z := by
  unfold alikeP at h1 h2 ⊢
  obtain ⟨a1, a2, a3, a4, a5, a6, a7, a8, a9, a10⟩ := h1
  obtain ⟨b1, b2, b3, b4, b5, b6, b7, b8, b9, b10⟩ := h2
  exact ⟨a1.trans b1, a2.trans b2, a3.trans b3, a4.trans b4, a5.trans b5, a6.trans b6, a7.trans b7, a8.trans b8, a9.trans b9, a10.trans b10⟩
theorem two_nums {a b c d : Int} (h : joinB (itoas [a, b]) = joinB (itoas [c, d])) : a = c ∧ b = d := by
  simp only [joinB, itoas, List.map_cons, List.map_nil, List.flatten_cons, List.flatten_nil, List.append_nil, List.cons_append] at h
  obtain ⟨h1, h2⟩ := num_sp h
  exact ⟨h1, itoa_inj h2⟩

theorem step_apart {x y : WStep} (hx : stepOk x) (hy : stepOk y) : stepS x = stepS y ↔ alikeP x y ∧ flatOf x.entry = flatOf y.entry := by
  constructor
  · intro h
    have hk := kind_eq hx.1 hy.1 h
    obtain ⟨rx, tx, ex, ax⟩ := hx
    obtain ⟨ry, ty, ey, ay⟩ := hy
    have key : alikeP (bareOf x) (bareOf y) ∧ (x.kind = 5 → flatOf x.entry = flatOf y.entry) := by
      rcases kinds rx with e | e | e | e | e | e | e | e | e | e | e | e | e | e <;> (have e' := hk.symm.trans e)
      · simp [stepS, e, e'] at h
        have h1 := at_inj h
        exact ⟨by simp [bareOf, e, e', alikeP, h1], by simp [e]⟩
      · simp [stepS, e, e'] at h
        obtain ⟨h1, h2⟩ := at_sp h
        obtain ⟨h3, h4⟩ := num_sp h2
        simp [txtOk, e] at tx
        simp [txtOk, e'] at ty
        have h5 := opS_inj tx ty h4
        exact ⟨by simp [bareOf, e, e', alikeP, h1, h3, h5], by simp [e]⟩
      · simp [stepS, e, e'] at h
        obtain ⟨h1, h2⟩ := at_sp h
        exact ⟨by simp [bareOf, e, e', alikeP, h1, itoa_inj h2], by simp [e]⟩
      · simp [stepS, e, e'] at h
        obtain ⟨h1, h2⟩ := at_sp h
        obtain ⟨h3, h4⟩ := num_sp h2
        simp [txtOk, e] at tx
        simp [txtOk, e'] at ty
        have h5 := queryS_inj tx ty h4
        exact ⟨by simp [bareOf, e, e', alikeP, h1, h3, h5], by simp [e]⟩
      · simp [stepS, e, e'] at h
        obtain ⟨h1, h2⟩ := at_sp h
        simp [txtOk, e] at tx
        simp [txtOk, e'] at ty
        exact ⟨by simp [bareOf, e, e', alikeP, h1], fun _ => entS_inj tx ty h2⟩
      · simp [stepS, e, e'] at h
        exact ⟨by simp [bareOf, e, e', alikeP, itoa_inj h], by simp [e]⟩
      · simp [stepS, e, e'] at h
        exact ⟨by simp [bareOf, e, e', alikeP, itoa_inj h], by simp [e]⟩
      · simp [stepS, e, e'] at h
        exact ⟨by simp [bareOf, e, e', alikeP, itoa_inj h], by simp [e]⟩
      · simp [stepS, e, e'] at h
        obtain ⟨h1, h2⟩ := num_sp h
        obtain ⟨h3, h4⟩ := two_nums h2
        exact ⟨by simp [bareOf, e, e', alikeP, h1, h3, h4], by simp [e]⟩
      · simp [stepS, e, e'] at h
        obtain ⟨h1, h2⟩ := at_sp h
        exact ⟨by simp [bareOf, e, e', alikeP, h1, itoa_inj h2], by simp [e]⟩
      · simp [stepS, e, e'] at h
        obtain ⟨h1, h2⟩ := at_sp h
        obtain ⟨h3, h4⟩ := two_nums h2
        exact ⟨by simp [bareOf, e, e', alikeP, h1, h3, h4], by simp [e]⟩
      · simp [stepS, e, e'] at h
        have h1 := at_inj h
        exact ⟨by simp [bareOf, e, e', alikeP, h1], by simp [e]⟩
      · exact ⟨by simp [bareOf, e, e', alikeP], by simp [e]⟩
      · exact ⟨by simp [bareOf, e, e', alikeP], by simp [e]⟩
    refine ⟨alikeP_trans ax (alikeP_trans key.1 ((alikeP_symm _ _).1 ay)), ?_⟩
    by_cases h5 : x.kind = 5
    · exact key.2 h5
    · rcases ex with ex | ex
      · exact absurd ex h5
      · rcases ey with ey | ey
        · exact absurd (hk.trans ey) h5
        · rw [ex.2, ey.2]
  · rintro ⟨⟨a1, a2, a3, a4, a5, a6, a7, a8, a9, a10⟩, hf⟩
    have f1 := congrArg Flat.kind hf
    have f2 := congrArg Flat.site hf
    have f3 := congrArg Flat.sponsor hf
    have f4 := congrArg Flat.length hf
    simp only [flatOf] at f1 f2 f3 f4
    have he : entS x.entry = entS y.entry := by unfold entS; rw [f1, f2, f3, f4]
    unfold stepS atS
    rw [a1, a2, a3, a4, a5, a6, a7, a8, a9, a10, he]
end Go.AM.Sc
/-! The reference's Same of single steps; the law ScriptApart. -/
namespace Go.AM.Sc
open Go.AM
open Go.Lib (itoa)
variable {P : Program} {E : Env} {T : H → Prop}

def c0 : WConfig := ⟨0,0,0,.slice none 0 0 false⟩
theorem c0_in (h : H) : CIn h c0 [] := ⟨ini (n := 0) (by decide) (by decide), ini (n := 0) (by decide) (by decide), ini (n := 0) (by decide) (by decide), by simp, by simp, .nil _ _ _⟩
theorem sl_one {h : H} {b : Nat} {x : WStep} (g : h.get b = some (.cells x.cells 52 false false none)) : Sl h 76 (.slice (some (b, 0)) 1 1 false) [x.cells] :=
  Sl.at (h := h) (sz := 76) b 0 1 false [x.cells] x.cells 52 false false none g (by simp [WStep.len]) (fun k z hk => by
    cases k with
    | zero => simp at hk; subst hk; rfl
    | succ k => simp at hk)

theorem EIn.nj {h : H} {x : WStep} {s : List UInt8} (a : EIn h x.entry s) : V.njL x.cells = true := by
  obtain ⟨b, n, c, o, e1⟩ := a.ops
  obtain ⟨b', n', c', o', e2⟩ : ∃ a n c o, x.entry.part.data = .slice a n c o := by
    rcases a.dat with ⟨c, o, e, _⟩ | ⟨p, n, c, o, cs, e, _⟩
    · exact ⟨_, _, _, _, e⟩
    · exact ⟨_, _, _, _, e⟩
  simp only [WStep.cells, V.njL, V.nj, e1, e2, Bool.and_self]

set_option maxRecDepth 100000 in
set_option maxHeartbeats 4000000 in
theorem same11 (F : Fns P E T) {x y : WStep} {h : H} {b1 b2 : Nat} {s s' : List UInt8} (ht : T h) (hx : EIn h x.entry s) (hy : EIn h y.entry s') (h0 : lenOf x.entry.ops = 0) (g1 : h.get b1 = some (.cells x.cells 52 false false none)) (g2 : h.get b2 = some (.cells y.cells 52 false false none)) :
    Sp P E (.func 11 [] []) [.agg c0.cells, .agg c0.cells, .slice (some (b1, 0)) 1 1 false, .slice (some (b2, 0)) 1 1 false] h fun v h' => v = .bool (decide (alikeP x y ∧ flatOf x.entry = flatOf y.entry ∧ lenOf y.entry.ops = 0 ∧ s = s')) ∧ Kp h h' := by
  have hk0 : Kp h (h.psh (.cells c0.cells 24 false false none)) := Keeps.psh (Nat.le_refl _) _
  have q0 := psh_same h (.cells c0.cells 24 false false none)
  have hk1 : Kp (h.psh (.cells c0.cells 24 false false none)) ((h.psh (.cells c0.cells 24 false false none)).psh (.cells c0.cells 24 false false none)) := Keeps.psh (Nat.le_refl _) _
  have q1 := psh_same (h.psh (.cells c0.cells 24 false false none)) (.cells c0.cells 24 false false none)
  have q2 := Kp.of hk1 q0
  have kk := Kp.trans hk0 hk1
  have fl : c0.cells.length = 4 := rfl
  have p0 : List.take 4 c0.cells = c0.cells := rfl
  have nj : V.njL c0.cells = true := rfl
  have p76 : ∀ z : WStep, List.take 76 z.cells = z.cells := fun _ => rfl
  refine Sp_fn F.f11 F.p11 (by simp [fn11]) ?_
  simp (maxSteps := 2000000) only [GO,GO2,evK,fillV,setR,binV,intOp,strOp_cat,strOp_eql,strOp_neq,shOp,unV,getR,lenV,partV,V.nj,V.njL,V.cells,Nat.reduceLT,Nat.reduceEqDiff,Nat.reduceAdd,↓reduceIte,Nat.reduceLeDiff,reduceCtorEq,fn11,c11,r11_0]
  generalize (h.psh (.cells c0.cells 24 false false none)).psh (.cells c0.cells 24 false false none) = h2 at *
  generalize (h.psh (.cells c0.cells 24 false false none)).size = B at *
  rw [X_draw]
  refine XD_quiet (fs := [true, true, false, true, true, true, true, true, true, true, true, true]) rfl rfl ?_
  simp (maxSteps := 2000000) only [GO,GO2,evK,fillV,setR,binV,intOp,strOp_cat,strOp_eql,strOp_neq,shOp,unV,getR,lenV,partV,V.nj,V.njL,V.cells,Nat.reduceLT,Nat.reduceEqDiff,Nat.reduceAdd,↓reduceIte,Nat.reduceLeDiff,reduceCtorEq,r11_1,q1,q2,fl,p0,nj]
  refine XCQ_of (head23 F (F.tkeep _ _ ht kk) (c0_in h2)) ?_
  rintro _ h3 ⟨rfl, k3⟩
  refine ⟨k3, ?_⟩
  have kk3 := Kp.trans kk k3
  have q13 := Kp.of k3 q1
  simp (maxSteps := 2000000) only [GO,GO2,evK,fillV,setR,binV,intOp,strOp_cat,strOp_eql,strOp_neq,shOp,unV,getR,lenV,partV,V.nj,V.njL,V.cells,Nat.reduceLT,Nat.reduceEqDiff,Nat.reduceAdd,↓reduceIte,Nat.reduceLeDiff,reduceCtorEq,q1,q13,fl,p0,nj]
  refine XCQ_of (head23 F (F.tkeep _ _ ht kk3) (c0_in h3)) ?_
  rintro _ h4 ⟨rfl, k4⟩
  refine ⟨k4, ?_⟩
  have kk4 := Kp.trans kk3 k4
  have eqs : ((headS c0 [] ++ [10]) == (headS c0 [] ++ [10])) = true := by simp
  have e1 : (((1 : Nat) : Int) != ((1 : Nat) : Int)) = false := rfl
  simp (maxSteps := 2000000) only [GO,GO2,evK,fillV,setR,binV,intOp,strOp_cat,strOp_eql,strOp_neq,shOp,unV,getR,lenV,partV,V.nj,V.njL,V.cells,Nat.reduceLT,Nat.reduceEqDiff,Nat.reduceAdd,↓reduceIte,Nat.reduceLeDiff,reduceCtorEq,eqs,e1]
  rw [u11_5]
  have e2 : (0 : Int) < ((1 : Nat) : Int) := by decide
  have g14 := Kp.of kk4 g1
  have g24 := Kp.of kk4 g2
  have hz : (0 : Int).toNat = 0 := rfl
  simp (maxSteps := 2000000) only [GO,GO2,evK,fillV,setR,binV,intOp,strOp_cat,strOp_eql,strOp_neq,shOp,unV,getR,lenV,partV,V.nj,V.njL,V.cells,Nat.reduceLT,Nat.reduceEqDiff,Nat.reduceAdd,↓reduceIte,Nat.reduceLeDiff,reduceCtorEq,r11_2,e2]
  rw [X_draw]
  refine XD_ord rfl ?_
  have njx := hx.nj
  have njy := hy.nj
  simp (maxSteps := 2000000) only [GO,GO2,evK,fillV,setR,binV,intOp,strOp_cat,strOp_eql,strOp_neq,shOp,unV,getR,lenV,partV,V.nj,V.njL,V.cells,Nat.reduceLT,Nat.reduceEqDiff,Nat.reduceAdd,↓reduceIte,Nat.reduceLeDiff,reduceCtorEq,r11_3,e2,g14,g24,hz,WStep.len,p76,Int.le_refl,Nat.zero_mul,njx,njy]
  refine XCD_of (same33 F (hx.keep kk4) (hy.keep kk4) h0) ?_
  rintro _ h5 ⟨rfl, k5⟩
  have kk5 := Kp.trans kk4 k5
  by_cases hc : alikeP x y ∧ flatOf x.entry = flatOf y.entry ∧ lenOf y.entry.ops = 0 ∧ s = s'
  · have hd := decide_eq_true hc
    have e3 : ¬ ((1 : Int) < ((1 : Nat) : Int)) := by decide
    have hw : IntKind.i64.wrap (0 + 1) = 1 := by decide
    simp (maxSteps := 2000000) only [GO,GO2,evK,fillV,setR,binV,intOp,strOp_cat,strOp_eql,strOp_neq,shOp,unV,getR,lenV,partV,V.nj,V.njL,V.cells,Nat.reduceLT,Nat.reduceEqDiff,Nat.reduceAdd,↓reduceIte,Nat.reduceLeDiff,reduceCtorEq,hd,Bool.not_true,r11_4,hw]
    rw [u11_5]
    simp (maxSteps := 2000000) only [GO,GO2,evK,fillV,setR,binV,intOp,strOp_cat,strOp_eql,strOp_neq,shOp,unV,getR,lenV,partV,V.nj,V.njL,V.cells,Nat.reduceLT,Nat.reduceEqDiff,Nat.reduceAdd,↓reduceIte,Nat.reduceLeDiff,reduceCtorEq,r11_2,e3]
    exact kk5
  · have hd := decide_eq_false hc
    simp (maxSteps := 2000000) only [GO,GO2,evK,fillV,setR,binV,intOp,strOp_cat,strOp_eql,strOp_neq,shOp,unV,getR,lenV,partV,V.nj,V.njL,V.cells,Nat.reduceLT,Nat.reduceEqDiff,Nat.reduceAdd,↓reduceIte,Nat.reduceLeDiff,reduceCtorEq,hd,Bool.not_false]
    exact kk5
end Go.AM.Sc
/-! The law ScriptApart. -/
namespace Go.AM.Sc
open Go.AM
open Go.Lib (itoa)
variable {P : Program} {E : Env} {T : H → Prop}

theorem stepOk_plain {x : WStep} (h : stepOk x) : lenOf x.entry.ops = 0 ∧ lenOf x.entry.part.data = 0 := by
  obtain ⟨_, tx, ex, _⟩ := h
  rcases ex with ex | ex
  · simp [txtOk, ex] at tx
    exact tx.2.1
  · exact ex.1

set_option maxRecDepth 100000 in
set_option maxHeartbeats 4000000 in
theorem law4 (F : Fns P E T) {x y : WStep} {h : H} {s s' : List UInt8} (ht : T h) (hx : SIn h x s) (hy : SIn h y s') :
    Sp P E (.func 4 [] []) [.agg x.cells, .agg y.cells] h fun v _ => v = .bool true := by
  have hk0 : Kp h (h.psh (.cells x.cells 52 false false none)) := Keeps.psh (Nat.le_refl _) _
  have hg0 := psh_same h (.cells x.cells 52 false false none)
  have hk1 : Kp (h.psh (.cells x.cells 52 false false none)) ((h.psh (.cells x.cells 52 false false none)).psh (.cells y.cells 52 false false none)) := Keeps.psh (Nat.le_refl _) _
  have gy := psh_same (h.psh (.cells x.cells 52 false false none)) (.cells y.cells 52 false false none)
  have gx := Kp.of hk1 hg0
  have kk := Kp.trans hk0 hk1
  have fl : ∀ z : WStep, z.cells.length = 76 := fun _ => rfl
  have p0 : ∀ z : WStep, List.take 76 z.cells = z.cells := fun _ => rfl
  refine Sp_fn F.f4 F.p4 (by simp [fn4]) ?_
  simp (maxSteps := 2000000) only [GO,GO2,evK,fillV,setR,binV,intOp,strOp_cat,strOp_eql,strOp_neq,shOp,unV,getR,lenV,partV,V.nj,V.njL,V.cells,Nat.reduceLT,Nat.reduceEqDiff,Nat.reduceAdd,↓reduceIte,Nat.reduceLeDiff,reduceCtorEq,fn4,c4,r4_0]
  generalize (h.psh (.cells x.cells 52 false false none)).psh (.cells y.cells 52 false false none) = h1 at *
  generalize (h.psh (.cells x.cells 52 false false none)).size = B at *
  simp (maxSteps := 2000000) only [GO,GO2,evK,fillV,setR,binV,intOp,strOp_cat,strOp_eql,strOp_neq,shOp,unV,getR,lenV,partV,V.nj,V.njL,V.cells,Nat.reduceLT,Nat.reduceEqDiff,Nat.reduceAdd,↓reduceIte,Nat.reduceLeDiff,reduceCtorEq,r4_1,gx,fl,p0]
  refine XC_of (step9 F (F.tkeep _ _ ht kk) (hx.mv kk)) ?_
  rintro _ h2 ⟨rfl, k2⟩
  have kk2 := Kp.trans kk k2
  have gx2 := Kp.of k2 gx
  have gy2 := Kp.of k2 gy
  have rx : ∃ e, resA (stepOk x) (stepS x) = .tup [.str (if stepOk x then stepS x else []), .int .i64 e] ∧ (e = 0 ∧ stepOk x ∨ e = 1 ∧ ¬ stepOk x) := by
    unfold resA
    by_cases hc : stepOk x
    · exact ⟨0, by simp [hc], .inl ⟨rfl, hc⟩⟩
    · exact ⟨1, by simp [hc], .inr ⟨rfl, hc⟩⟩
  have ry : ∃ e, resA (stepOk y) (stepS y) = .tup [.str (if stepOk y then stepS y else []), .int .i64 e] ∧ (e = 0 ∧ stepOk y ∨ e = 1 ∧ ¬ stepOk y) := by
    unfold resA
    by_cases hc : stepOk y
    · exact ⟨0, by simp [hc], .inl ⟨rfl, hc⟩⟩
    · exact ⟨1, by simp [hc], .inr ⟨rfl, hc⟩⟩
  obtain ⟨e, rx, ex⟩ := rx
  obtain ⟨f, ry, ey⟩ := ry
  generalize hsx : (if stepOk x then stepS x else []) = sx at rx
  generalize hsy : (if stepOk y then stepS y else []) = sy at ry
  simp (maxSteps := 2000000) only [GO,GO2,evK,fillV,setR,binV,intOp,strOp_cat,strOp_eql,strOp_neq,shOp,unV,getR,lenV,partV,V.nj,V.njL,V.cells,Nat.reduceLT,Nat.reduceEqDiff,Nat.reduceAdd,↓reduceIte,Nat.reduceLeDiff,reduceCtorEq,rx,r4_2,gy2,fl,p0]
  refine XC_of (step9 F (F.tkeep _ _ ht kk2) (hy.mv kk2)) ?_
  rintro _ h3 ⟨rfl, k3⟩
  have kk3 := Kp.trans kk2 k3
  have gx3 := Kp.of k3 gx2
  have gy3 := Kp.of k3 gy2
  simp (maxSteps := 2000000) only [GO,GO2,evK,fillV,setR,binV,intOp,strOp_cat,strOp_eql,strOp_neq,shOp,unV,getR,lenV,partV,V.nj,V.njL,V.cells,Nat.reduceLT,Nat.reduceEqDiff,Nat.reduceAdd,↓reduceIte,Nat.reduceLeDiff,reduceCtorEq,ry,r4_3,gx3,fl,p0]
  refine XC_of (step10 F (F.tkeep _ _ ht kk3) (hx.mv kk3)) ?_
  rintro _ h4 ⟨rfl, k4⟩
  have kk4 := Kp.trans kk3 k4
  have gx4 := Kp.of k4 gx3
  have gy4 := Kp.of k4 gy3
  simp (maxSteps := 2000000) only [GO,GO2,evK,fillV,setR,binV,intOp,strOp_cat,strOp_eql,strOp_neq,shOp,unV,getR,lenV,partV,V.nj,V.njL,V.cells,Nat.reduceLT,Nat.reduceEqDiff,Nat.reduceAdd,↓reduceIte,Nat.reduceLeDiff,reduceCtorEq,rx,r4_4,gy4,fl,p0]
  refine XC_of (step10 F (F.tkeep _ _ ht kk4) (hy.mv kk4)) ?_
  rintro _ h5 ⟨rfl, k5⟩
  have kk5 := Kp.trans kk4 k5
  have gx5 := Kp.of k5 gx4
  have gy5 := Kp.of k5 gy4
  have n1 : (e != e) = false := by simp
  have n2 : (f != f) = false := by simp
  simp (maxSteps := 2000000) only [GO,GO2,evK,fillV,setR,binV,intOp,strOp_cat,strOp_eql,strOp_neq,shOp,unV,getR,lenV,partV,V.nj,V.njL,V.cells,Nat.reduceLT,Nat.reduceEqDiff,Nat.reduceAdd,↓reduceIte,Nat.reduceLeDiff,reduceCtorEq,ry,r4_5,n1,n2]
  refine XC_of (live8 F (F.tkeep _ _ ht kk5)) ?_
  rintro _ h6 ⟨rfl, k6⟩
  have kk6 := Kp.trans kk5 k6
  have hk7 : Kp h6 (h6.psh (.cells c0.cells 24 false false none)) := Keeps.psh (Nat.le_refl _) _
  have g13 := psh_same h6 (.cells c0.cells 24 false false none)
  have gx7 := Kp.of hk7 (Kp.of k6 gx5)
  have gy7 := Kp.of hk7 (Kp.of k6 gy5)
  have kk7 := Kp.trans kk6 hk7
  have hc0 : c0.cells = [.int .i64 0, .int .i64 0, .int .i64 0, .slice none 0 0 false] := rfl
  simp (maxSteps := 2000000) only [GO,GO2,evK,fillV,setR,binV,intOp,strOp_cat,strOp_eql,strOp_neq,shOp,unV,getR,lenV,partV,V.nj,V.njL,V.cells,Nat.reduceLT,Nat.reduceEqDiff,Nat.reduceAdd,↓reduceIte,Nat.reduceLeDiff,reduceCtorEq,Bool.not_true,← hc0]
  generalize hh7 : h6.psh (.cells c0.cells 24 false false none) = h7 at *
  rcases ex with ⟨rfl, hox⟩ | ⟨rfl, hox⟩
  · rcases ey with ⟨rfl, hoy⟩ | ⟨rfl, hoy⟩
    · have n3 : ((0 : Int) != 0) = false := rfl
      have k8 : Kp h7 (h7.psh (.cells x.cells 52 false false none)) := Keeps.psh (Nat.le_refl _) _
      have k9 : Kp (h7.psh (.cells x.cells 52 false false none)) ((h7.psh (.cells x.cells 52 false false none)).psh (.cells y.cells 52 false false none)) := Keeps.psh (Nat.le_refl _) _
      have q1 := Kp.of k9 (psh_same h7 (.cells x.cells 52 false false none))
      have q2 := psh_same (h7.psh (.cells x.cells 52 false false none)) (.cells y.cells 52 false false none)
      have gy8 := Kp.of k8 gy7
      have kk9 := Kp.trans kk7 (Kp.trans k8 k9)
      have flc : c0.cells.length = 4 := rfl
      have pc : List.take 4 c0.cells = c0.cells := rfl
      simp (maxSteps := 2000000) only [GO,GO2,evK,fillV,setR,binV,intOp,strOp_cat,strOp_eql,strOp_neq,shOp,unV,getR,lenV,partV,V.nj,V.njL,V.cells,Nat.reduceLT,Nat.reduceEqDiff,Nat.reduceAdd,↓reduceIte,Nat.reduceLeDiff,reduceCtorEq,r4_6,n3,g13,gx7,gy7,gy8,fl,p0,flc,pc]
      refine XC_of (same11 F (F.tkeep _ _ ht kk9) (hx.ent.keep kk9) (hy.ent.keep kk9) (stepOk_plain hox).1 q1 q2) ?_
      rintro _ h10 ⟨rfl, k10⟩
      have hb : ((sx == sy) == decide (alikeP x y ∧ flatOf x.entry = flatOf y.entry ∧ lenOf y.entry.ops = 0 ∧ s = s')) = true := by
        rw [← hsx, ← hsy, if_pos hox, if_pos hoy]
        have hs1 : s = [] := List.eq_nil_of_length_eq_zero (by rw [← hx.ent.dat.len]; exact (stepOk_plain hox).2)
        have hs2 : s' = [] := List.eq_nil_of_length_eq_zero (by rw [← hy.ent.dat.len]; exact (stepOk_plain hoy).2)
        have := step_apart hox hoy
        rw [beq_iff_eq, Bool.eq_iff_iff, decide_eq_true_iff, beq_iff_eq, this]
        constructor
        · rintro ⟨a, b⟩; exact ⟨a, b, (stepOk_plain hoy).1, hs1.trans hs2.symm⟩
        · rintro ⟨a, b, _⟩; exact ⟨a, b⟩
      simp (maxSteps := 2000000) only [GO,GO2,evK,fillV,setR,binV,intOp,strOp_cat,strOp_eql,strOp_neq,shOp,unV,getR,lenV,partV,V.nj,V.njL,V.cells,Nat.reduceLT,Nat.reduceEqDiff,Nat.reduceAdd,↓reduceIte,Nat.reduceLeDiff,reduceCtorEq,eqV,hb]
    · have n3 : ((0 : Int) != 0) = false := rfl
      have n4 : ((1 : Int) != 0) = true := rfl
      simp (maxSteps := 2000000) only [GO,GO2,evK,fillV,setR,binV,intOp,strOp_cat,strOp_eql,strOp_neq,shOp,unV,getR,lenV,partV,V.nj,V.njL,V.cells,Nat.reduceLT,Nat.reduceEqDiff,Nat.reduceAdd,↓reduceIte,Nat.reduceLeDiff,reduceCtorEq,r4_6,n3,n4]
  · have n4 : ((1 : Int) != 0) = true := rfl
    simp (maxSteps := 2000000) only [GO,GO2,evK,fillV,setR,binV,intOp,strOp_cat,strOp_eql,strOp_neq,shOp,unV,getR,lenV,partV,V.nj,V.njL,V.cells,Nat.reduceLT,Nat.reduceEqDiff,Nat.reduceAdd,↓reduceIte,Nat.reduceLeDiff,reduceCtorEq,r4_6,n4]
end Go.AM.Sc
