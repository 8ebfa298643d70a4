/- My own text of the evaluator and its soundness (abstract machine), laid for this claim. -/
import Derived.Test.YtnfeioifkhoikaaGreatDoorAmH
import Derived.Laws.Slices
/-! Soundness, V: binary operations, conversions, slices, addresses, lengths. -/
namespace Go.AM
variable {P : Program} {m : Mp} {h : H} {w : World} {T : List V} {a : Act} {o : Oper} {k : K}

/-! ### binary operations -/
theorem run_eqGuard_ok {op : BinOp} {t : TypeId} {x y : Operand} {X Y : Value} (h1 : (X = .nilIface ∧ Y = .nilIface) → (isLit x || isLit y) = true)
    (h2 : ∀ c d, X = .agg c → Y = .agg d → P.eqGuardType P.depth t = false) (w : World) : (eqGuard op t x y X Y).run P w = .ok () w := by
  by_cases hn : X = .nilIface ∧ Y = .nilIface
  · obtain ⟨rfl, rfl⟩ := hn
    have hl := h1 ⟨rfl, rfl⟩
    clear h1 h2
    cases op <;> first
      | rfl
      | (cases x <;> cases y <;> first | rfl | (simp [isLit] at hl))
  · have hg : op = .eql ∨ op = .neq → (eqGuard op t x y X Y).run P w = .ok () w := fun hop => by
      cases X with
      | agg c => cases Y with
        | agg d => have := h2 c d rfl rfl; rcases hop with rfl | rfl <;> simp [eqGuard, this]
        | _ => rcases hop with rfl | rfl <;> rfl
      | nilIface => cases Y with
        | nilIface => exact absurd ⟨rfl, rfl⟩ hn
        | _ => rcases hop with rfl | rfl <;> rfl
      | _ => rcases hop with rfl | rfl <;> rfl
    cases op <;> first | exact hg (.inl rfl) | exact hg (.inr rfl) | rfl

theorem intOp_sound {op : BinOp} {kd : IntKind} {p q : Int} {v : V} (t : TypeId) (hv : intOp op kd p q = some v) (hs : op ≠ .shl ∧ op ≠ .shr) :
    ∃ x, (binOp op t (.int kd p) (.int kd q)).run P w = .ok x w ∧ VR m v x := by
  unfold intOp at hv
  split at hv <;> first
    | (cases hv; refine ⟨_, ?_, rfl⟩; simp [binOp, Op.intArith, Op.intCmp, Op.intBits]; done)
    | (split at hv
       · cases hv
       · rename_i hq; cases hv; refine ⟨_, ?_, rfl⟩; simp [binOp, Op.intDiv, hq])
    | cases hv

theorem shOp_sound {op : BinOp} {kd k' : IntKind} {p q : Int} {v : V} (t : TypeId) (hv : shOp op kd p q = some v) :
    ∃ x, (binOp op t (.int kd p) (.int k' q)).run P w = .ok x w ∧ VR m v x := by
  unfold shOp at hv
  split at hv
  · cases hv
  · rename_i hq
    split at hv <;> cases hv <;> exact ⟨_, by simp [binOp, Op.shift, hq], rfl⟩

theorem strOp_sound {op : BinOp} {p q : List UInt8} {v : V} (t : TypeId) (hv : strOp op p q = some v) :
    ∃ x, (binOp op t (.string ⟨p.toArray⟩) (.string ⟨q.toArray⟩)).run P w = .ok x w ∧ VR m v x := by
  unfold strOp at hv
  split at hv
  · split at hv
    · rename_i hl
      cases hv
      refine ⟨.string ⟨(p ++ q).toArray⟩, ?_, rfl⟩
      have h1 : ¬ ((((⟨p.toArray⟩ : ByteArray).size + (⟨q.toArray⟩ : ByteArray).size : Nat) : Int) > IntKind.i64.max) := by
        simp [ByteArray.size, IntKind.max, IntKind.signed, IntKind.bits]; omega
      simp only [binOp, Op.stringOp, h1, if_false, Sem.run_pure]
      congr 2
    · cases hv
  all_goals first
    | (cases hv; refine ⟨_, ?_, rfl⟩; simp [binOp, Op.stringOp, ByteArray.toList_eq]; done)
    | cases hv

theorem run_equalOp {u v : V} {X Y : Value} {q : EqT} {b : Bool} {t : TypeId} (hx : VR m u X) (hy : VR m v Y) (hb : eqV h q u v = some b)
    (n1 : ∀ k a k' b, u = .int k a → v = .int k' b → False) (n2 : ∀ a b, u = .str a → v = .str b → False) (hE : (Op.equal t X Y).run P w = .ok b w) :
    (binOp .eql t X Y).run P w = .ok (.bool b) w ∧ (binOp .neq t X Y).run P w = .ok (.bool !b) w := by
  have key : (binOp .eql t X Y = do pure (.bool (← Op.equal t X Y))) ∧ (binOp .neq t X Y = do pure (.bool (!(← Op.equal t X Y)))) := by
    cases u with
    | bool p => cases hx; exact ⟨rfl, rfl⟩
    | int k p =>
      exfalso
      clear hx hy hE
      unfold eqV at hb
      split at hb <;> first | exact n1 _ _ _ _ rfl rfl | simp_all
    | str p =>
      exfalso
      clear hx hy hE
      unfold eqV at hb
      split at hb <;> first | exact n2 _ _ rfl rfl | simp_all
    | ptr p => cases p with
      | none => cases hx; exact ⟨rfl, rfl⟩
      | some p => obtain ⟨_, _, _, _, rfl⟩ := hx; exact ⟨rfl, rfl⟩
    | slice p _ _ _ => cases p with
      | none => cases hx; exact ⟨rfl, rfl⟩
      | some p => obtain ⟨_, _, _, _, _, rfl, _⟩ := hx; exact ⟨rfl, rfl⟩
    | map p => cases p with
      | none => cases hx; exact ⟨rfl, rfl⟩
      | some p => obtain ⟨_, _, _, _, rfl⟩ := hx; exact ⟨rfl, rfl⟩
    | func f fs cs => obtain ⟨_, _, _, _, rfl⟩ := hx; exact ⟨rfl, rfl⟩
    | yield l => obtain ⟨_, _, _, _, rfl⟩ := hx; exact ⟨rfl, rfl⟩
    | nilFunc => cases hx; exact ⟨rfl, rfl⟩
    | iface t' z => obtain ⟨_, _, rfl⟩ := hx; exact ⟨rfl, rfl⟩
    | nilIface => cases hx; exact ⟨rfl, rfl⟩
    | agg cs => obtain ⟨_, _, rfl⟩ := hx; exact ⟨rfl, rfl⟩
    | tup cs => exfalso; unfold eqV at hb; split at hb <;> simp_all
    | junk => exfalso; unfold eqV at hb; split at hb <;> simp_all
  rw [key.1, key.2]
  simp [hE]

theorem VR.of_nilIface {v : V} (hv : VR m v .nilIface) : v = .nilIface := by
  cases v with
  | ptr p => cases p <;> simp [VR] at hv
  | slice p _ _ _ => cases p <;> simp [VR] at hv
  | map p => cases p <;> simp [VR] at hv
  | nilIface => rfl
  | _ => simp [VR] at hv
theorem VR.of_agg {v : V} {c : Array Value} (hv : VR m v (.agg c)) : ∃ xs, v = .agg xs := by
  cases v with
  | ptr p => cases p <;> simp [VR] at hv
  | slice p _ _ _ => cases p <;> simp [VR] at hv
  | map p => cases p <;> simp [VR] at hv
  | agg xs => exact ⟨xs, rfl⟩
  | junk => simp [VR, Value.oneCell'] at hv
  | _ => simp [VR] at hv

theorem eqT_agg {d : Nat} {t : TypeId} {q : EqT} {xs : List V} {v : V} {b : Bool} (hq : eqT P (d + 1) t = some q) (hb : eqV h q (.agg xs) v = some b) : aggT P t = true := by
  simp only [eqT] at hq
  unfold aggT
  split at hq
  case h_9 => rename_i hu; simp [hu]
  case h_10 => rename_i hu; simp [hu]
  case h_11 => cases hq
  case h_4 => split at hq <;> first | cases hq; done | (cases hq; exfalso; unfold eqV at hb; first | cases hb; done | (split at hb <;> simp_all))
  all_goals (cases hq; exfalso; unfold eqV at hb; first | cases hb; done | (split at hb <;> simp_all))

theorem snd_bin (cx : Cx P m h w T a) {op : BinOp} {t t' : TypeId} {x y : Operand} (ho : o.op = .binOp op t x y t') (hc : cK P (.binOp op t x y t') = some k) : Snd P m h w T a o k := by
  intro r hr
  simp only [cK] at hc
  split at hc <;> cases hc
  rename_i x' y' h1 h2
  simp only [evK] at hr
  split at hr
  · rename_i u v e1 e2
    have hx := cx.av h1 e1
    have hy := cx.av h2 e2
    have he : execOp a.eval o = (do pure (Next.value (← (do eqGuard op t x y (a.eval x) (a.eval y); binOp op t (a.eval x) (a.eval y))))) := by simp [execOp, ho]
    unfold binV at hr
    split at hr
    · rename_i kd p k' q
      rw [show a.eval x = _ from hx, show a.eval y = _ from hy] at he
      have hg : (eqGuard op t x y (.int kd p) (.int k' q)).run P w = .ok () w := run_eqGuard_ok (by simp) (by simp) w
      have sh : ∀ r, (shOp op kd p q).map Res.pur = some r → ResOK P m h w ((execOp a.eval o).run P w) r := fun r hr => by
        cases hv : shOp op kd p q with
        | none => simp [hv] at hr
        | some z =>
          simp [hv] at hr; subst hr
          obtain ⟨X, h3, h4⟩ := shOp_sound (P := P) (w := w) (m := m) (k' := k') t hv
          exact pur_val (x := X) (by simp [hg, h3]) h4 he
      split at hr
      · exact sh r hr
      · exact sh r hr
      · rename_i s1 s2
        split at hr
        · rename_i hk
          subst hk
          cases hv : intOp op kd p q with
          | none => simp [hv] at hr
          | some z =>
            simp [hv] at hr; subst hr
            obtain ⟨X, h3, h4⟩ := intOp_sound (P := P) (w := w) (m := m) t hv ⟨s1, s2⟩
            exact pur_val (x := X) (by simp [hg, h3]) h4 he
        · cases hr
    · rename_i p q
      rw [show a.eval x = _ from hx, show a.eval y = _ from hy] at he
      have hg : (eqGuard op t x y (.string ⟨p.toArray⟩) (.string ⟨q.toArray⟩)).run P w = .ok () w := run_eqGuard_ok (by simp) (by simp) w
      cases hv : strOp op p q with
      | none => simp [hv] at hr
      | some z =>
        simp [hv] at hr; subst hr
        obtain ⟨X, h3, h4⟩ := strOp_sound (P := P) (w := w) (m := m) t hv
        exact pur_val (x := X) (by simp [hg, h3]) h4 he
    · rename_i n1 n2
      split at hr
      · cases hr
      · rename_i q hq
        have hq' : eqT P 40 t = some q := by
          unfold eqTop at hq; split at hq
          · cases hq
          · exact hq
        have fin : ∀ b, eqV h q u v = some b → (u = .nilIface → v = .nilIface → (isLit x || isLit y) = true) →
            ((eqGuard op t x y (a.eval x) (a.eval y)).run P w = .ok () w ∧ (binOp .eql t (a.eval x) (a.eval y)).run P w = .ok (.bool b) w ∧ (binOp .neq t (a.eval x) (a.eval y)).run P w = .ok (.bool !b) w) := fun b hb hn => by
          have hE : (Op.equal t (a.eval x) (a.eval y)).run P w = .ok b w := eqV_sound cx.hr 40 t q u v _ _ b 10000 (by omega) hq' hx hy hb
          refine ⟨run_eqGuard_ok ?_ ?_ w, run_equalOp hx hy hb n1 n2 hE⟩
          · rintro ⟨ex, ey⟩
            exact hn (VR.of_nilIface (ex ▸ hx)) (VR.of_nilIface (ey ▸ hy))
          · intro c d ec _
            obtain ⟨xs, rfl⟩ := VR.of_agg (ec ▸ hx)
            have hag := eqT_agg hq' hb
            unfold eqTop at hq
            rw [hag] at hq
            simp only [Bool.true_and] at hq
            split at hq
            · cases hq
            · rename_i hgt; simpa using hgt
        split at hr
        · cases hr
        · rename_i u v _ _ _ nn
          have hn : u = .nilIface → v = .nilIface → (isLit x || isLit y) = true := fun e1 e2 => by
            cases hl : (isLit x || isLit y) with
            | true => rfl
            | false => exact (nn e1 e2 hl).elim
          split at hr <;> cases hr
          · rename_i b hb
            obtain ⟨f1, f2, f3⟩ := fin b hb hn
            exact rd_val (x := .bool b) (by simp [f1, f2]) rfl he
          · rename_i b hb
            obtain ⟨f1, f2, f3⟩ := fin b hb hn
            exact rd_val (x := .bool !b) (by simp [f1, f3]) rfl he
  · cases hr
end Go.AM
