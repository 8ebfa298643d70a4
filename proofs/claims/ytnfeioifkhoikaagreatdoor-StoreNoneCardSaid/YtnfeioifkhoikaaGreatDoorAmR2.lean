/- My own text of the evaluator and its soundness (abstract machine), laid for this claim. -/
import Derived.Test.YtnfeioifkhoikaaGreatDoorAmP
/-! What an operation's answer depends on. -/
namespace Go.AM
variable {P : Program}

def Agree (T U : List V) (ts : List Nat) : Prop := ∀ t ∈ ts, T[t]? = U[t]?

theorem A.ev_congr {T U : List V} {a : A} (h : Agree T U a.tm) : a.ev T = a.ev U := by
  cases a with
  | t i => exact h i (by simp [A.tm])
  | k v => rfl

theorem evs_congr {T U : List V} : ∀ {as : List A}, (∀ a ∈ as, a.ev T = a.ev U) → evs T as = evs U as
  | [], _ => rfl
  | a :: as, h => by
    simp only [evs]
    rw [h a (by simp), evs_congr (as := as) fun b hb => h b (by simp [hb])]

theorem evo_congr {T U : List V} {a : Option A} (h : ∀ x ∈ a.toList, x.ev T = x.ev U) : evo T a = evo U a := by
  cases a with
  | none => rfl
  | some a => simp only [evo]; rw [h a (by simp)]

theorem fillV_congr {T U : List V} : ∀ {ps : List (Nat × Nat × A)} (z : List V), (∀ p ∈ ps, p.2.2.ev T = p.2.2.ev U) → fillV T z ps = fillV U z ps
  | [], _, _ => rfl
  | (o, s, a) :: ps, z, h => by
    simp only [fillV]
    rw [h (o, s, a) (by simp)]
    cases a.ev U with
    | none => rfl
    | some v =>
      simp only
      split
      · exact fillV_congr _ fun p hp => h p (by simp [hp])
      · rfl

theorem evK_congr {T U : List V} {h : H} {k : K} (hk : Agree T U k.tms) : evK P T h k = evK P U h k := by
  have h1 : ∀ a ∈ k.as, a.ev T = a.ev U := fun a ha => A.ev_congr fun t ht => hk t (List.mem_flatMap.2 ⟨a, ha, ht⟩)
  clear hk
  cases k <;> simp only [K.as, List.mem_cons, List.mem_append, List.not_mem_nil, or_false, forall_eq_or_imp, forall_eq, List.mem_map, forall_exists_index, and_imp] at h1 <;> simp only [evK]
  all_goals first
    | rfl
    | rw [h1]
    | rw [h1.1, h1.2]
    | rw [h1.1, h1.2.1, h1.2.2]
    | skip
  case build => rw [fillV_congr _ fun p hp => h1 _ p hp rfl]
  case bslice => rw [fillV_congr _ fun p hp => h1 _ p hp rfl]
  case mkF => rw [evs_congr fun a ha => h1 a (.inl ha), evs_congr fun a ha => h1 a (.inr ha)]
  case slS => rw [h1.1, evo_congr fun a ha => h1.2 a (.inl ha), evo_congr fun a ha => h1.2 a (.inr ha)]
  case slL => rw [h1.1, evo_congr fun a ha => h1.2 a (.inl (.inl ha)), evo_congr fun a ha => h1.2 a (.inl (.inr ha)), evo_congr fun a ha => h1.2 a (.inr ha)]
  case slA => rw [h1.1, evo_congr fun a ha => h1.2 a (.inl (.inl ha)), evo_congr fun a ha => h1.2 a (.inl (.inr ha)), evo_congr fun a ha => h1.2 a (.inr ha)]
  case minmax => rw [evs_congr h1]
  case call => rw [h1.1, evs_congr h1.2]
  case inv => rw [h1.1, evs_congr h1.2]

theorem binV_pur {h h' : H} {op : BinOp} {eq : Option EqT} {lit : Bool} {x y v : V} (he : binV h op eq lit x y = some (.pur v)) : binV h' op eq lit x y = some (.pur v) := by
  unfold binV at he ⊢
  split at he
  · exact he
  · exact he
  · exfalso
    split at he
    · cases he
    · split at he
      · cases he
      · split at he <;> cases he

theorem evK_pur {T : List V} {h h' : H} {k : K} {v : V} (he : evK P T h k = some (.pur v)) : evK P T h' k = some (.pur v) := by
  cases k <;> simp only [evK] at he ⊢
  case bin => 
    split at he
    · exact binV_pur he
    · cases he
  case p2u =>
    split at he
    · exact he
    · split at he
      · split at he <;> cases he
      · cases he
    · cases he
  case u2p =>
    split at he
    · exact he
    · split at he
      · split at he <;> cases he
      · cases he
    · cases he
  case ustr =>
    split at he
    · split at he
      · rename_i h0; rw [if_pos h0]; exact he
      · exfalso
        repeat' (split at he)
        all_goals first | (cases he; done) | (simp at he; done)
    · cases he
  case app =>
    split at he
    · obtain ⟨v, h'', e⟩ := appV_eff he; cases e
    · cases he
  all_goals first
    | exact he
    | (exfalso; repeat' (split at he)
       all_goals first | (cases he; done) | (simp at he; done) | skip)
end Go.AM
