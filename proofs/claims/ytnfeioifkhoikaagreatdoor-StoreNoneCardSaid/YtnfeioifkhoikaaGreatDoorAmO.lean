/- My own text of the evaluator and its soundness (abstract machine), laid for this claim. -/
import Derived.Test.YtnfeioifkhoikaaGreatDoorAmN
/-! Soundness, XI: bytes and texts, the other builtins, calls. -/
namespace Go.AM
variable {P : Program} {m : Mp} {h : H} {w : World} {T : List V} {a : Act} {o : Oper} {k : K}

/-! ### bytes -/
theorem bytesV_sound : ∀ {cs : List V} {xs : List Value} {bs : List UInt8}, VRL m cs xs → bytesV cs = some bs →
    ∃ ns : List Int, xs = ns.map (Value.int .u8) ∧ bs = ns.map (fun n => UInt8.ofNat n.toNat)
  | [], _, bs, h, hb => by cases h; simp [bytesV] at hb; subst hb; exact ⟨[], rfl, rfl⟩
  | c :: cs, _, bs, h, hb => by
    obtain ⟨x, xs, h1, h2, rfl⟩ := h
    cases c <;> try (simp [bytesV] at hb; done)
    rename_i kd n
    cases kd <;> simp only [bytesV] at hb <;> try cases hb
    split at hb <;> cases hb
    rename_i bs' hb'
    obtain ⟨ns, rfl, rfl⟩ := bytesV_sound h2 hb'
    cases h1
    exact ⟨n :: ns, rfl, rfl⟩

theorem foldl_push (ns : List Int) : ∀ (acc : ByteArray), (ns.foldl (fun r n => r.push (UInt8.ofNat n.toNat)) acc) = ⟨(acc.data.toList ++ ns.map (fun n => UInt8.ofNat n.toNat)).toArray⟩ := by
  induction ns with
  | nil => intro acc; simp
  | cons n ns ih => intro acc; rw [List.foldl_cons, ih]; simp [ByteArray.push]

theorem snd_b2s (cx : Cx P m h w T a) {t u : TypeId} {x : Operand} {e : TypeId} {y : A} (ho : o.op = .convert t u x) (h1 : P.underlying t = some (.slice e)) (h2 : P.underlying u = some .string)
    (h3 : P.underlying e = some (.int .u8)) (h4 : cA P x = some y) : Snd P m h w T a o (.b2s y) := by
  intro r hr
  have he : execOp a.eval o = (do pure (Next.value (← convert t u (a.eval x)))) := by simp [execOp, ho]
  simp only [evK] at hr
  split at hr
  · rename_i p len c q e1
    split at hr
    · rename_i cs hcs
      have hv := cx.av h4 e1
      split at hr
      · rename_i hp
        cases hr
        cases p with
        | none =>
          have hx : a.eval x = .slice none len c := hv
          refine rd_val (x := .string .empty) ?_ rfl he
          rw [hx, run_convert_bytes_string w t u e _ _ _ h1 h3 h2]; simp [Conv.bytesToString]
        | some p => simp at hp
      · cases hb : bytesV cs with
        | none => simp [hb] at hr
        | some bs =>
          simp [hb] at hr; subst hr
          cases p with
          | none =>
            simp only [elemsV] at hcs
            split at hcs <;> cases hcs
            have hx : a.eval x = .slice none len c := hv
            simp [bytesV] at hb; subst hb
            refine rd_val (x := .string .empty) ?_ rfl he
            rw [hx, run_convert_bytes_string w t u e _ _ _ h1 h3 h2]; simp [Conv.bytesToString]
          | some p =>
            obtain ⟨xs, g1, g2⟩ := run_elemsV cx.hr hv rfl (Nat.le_refl _) hcs
            obtain ⟨i, q0⟩ := p
            obtain ⟨R, sh, ex, ad, hm, hx, hz⟩ := hv
            obtain ⟨ns, rfl, rfl⟩ := bytesV_sound g2 hb
            rw [hx] at g1
            simp only [Builtin.firstCells, Nat.mul_one] at g1
            refine rd_val (x := .string ⟨(ns.map (fun (n : Int) => UInt8.ofNat n.toNat)).toArray⟩) ?_ rfl he
            rw [hx, run_convert_bytes_string w t u e _ _ _ h1 h3 h2, run_bytesToString w ad len _ ns g1, foldl_push]
            rfl
    · cases hr
  · cases hr

theorem New.freeze {w w1 : World} {c : Array Value} {ty : TypeId} (hn : New w (.cells c ty) w1) :
    New w (.cells c ty (c.size, c.size + 1)) (w1.freeze { block := w.heap.size, off := c.size } 1) := by
  refine ⟨?_, hn.os, hn.output, hn.tape, hn.drawn⟩
  simp only [World.freeze, Nat.one_ne_zero, if_false, hn.heap]
  apply Array.ext_getElem?
  intro i
  rw [Array.getElem?_modify, Array.getElem?_push, Array.getElem?_push]
  by_cases hi : i = w.heap.size
  · subst hi; simp
  · simp [hi, Ne.symm hi]

theorem run_stringToBytes (e : TypeId) (s : List UInt8) (w : World) : (Conv.stringToBytes e ⟨s.toArray⟩).run P w =
    .ok (.slice (some ⟨w.heap.size, 0, none⟩) s.length (drawnCap w s.length 0 e))
      (World.freeze { w.drew with heap := w.heap.push (.cells ((s.map fun (b : UInt8) => Value.int .u8 b.toNat) ++ List.replicate (drawnCap w s.length 0 e - s.length) (Value.int .u8 0)).toArray e) }
        { block := w.heap.size, off := ((s.map fun (b : UInt8) => Value.int .u8 b.toNat) ++ List.replicate (drawnCap w s.length 0 e - s.length) (Value.int .u8 0)).toArray.size } 1) := by
  have hsz : (⟨s.toArray⟩ : ByteArray).size = s.length := by simp [ByteArray.size]
  have harr : (s.toArray.map fun (b : UInt8) => Value.int .u8 b.toNat) ++ Array.replicate (drawnCap w s.length 0 e - s.length) (Value.int .u8 0) =
      ((s.map fun (b : UInt8) => Value.int .u8 b.toNat) ++ List.replicate (drawnCap w s.length 0 e - s.length) (Value.int .u8 0)).toArray := by
    apply Array.ext'; simp
  have hch : (choose (.appendCap s.length 0 e)).run P w = .ok (drawnCap w s.length 0 e) w.drew := rfl
  simp only [Conv.stringToBytes, Sem.run_bind, hch, Result.andThen_ok, hsz, newRow, run_newObj, Sem.run_pure, markStringish, run_shape]
  rw [harr]
  have hsh : World.shape? { w.drew with heap := w.drew.heap.push (.cells ((s.map fun (b : UInt8) => Value.int .u8 b.toNat) ++ List.replicate (drawnCap w s.length 0 e - s.length) (Value.int .u8 0)).toArray e) } w.drew.heap.size =
      some (e, ((s.map fun (b : UInt8) => Value.int .u8 b.toNat) ++ List.replicate (drawnCap w s.length 0 e - s.length) (Value.int .u8 0)).toArray.size) := by
    simp only [World.shape?]
    rw [show w.drew.heap.size = w.heap.size from rfl, show w.drew.heap = w.heap from rfl, Array.getElem?_push_size]
  rw [hsh]
  rfl

theorem snd_s2b (cx : Cx P m h w T a) {t u : TypeId} {x : Operand} {e : TypeId} {y : A} (ho : o.op = .convert t u x) (h1 : P.underlying t = some .string) (h2 : P.underlying u = some (.slice e))
    (h3 : P.underlying e = some (.int .u8)) (hs1 : P.cellsOf e = 1) (h4 : cA P x = some y) : Snd P m h w T a o (.s2b e y) := by
  intro r hr
  have he : execOp a.eval o = (do pure (Next.value (← convert t u (a.eval x)))) := by simp [execOp, ho]
  simp only [evK] at hr
  split at hr
  · rename_i s e1
    split at hr <;> cases hr
    rename_i h' hp
    have hx : a.eval x = .string ⟨s.toArray⟩ := cx.av h4 e1
    have hsz : (⟨s.toArray⟩ : ByteArray).size = s.length := by simp [ByteArray.size]
    have hge : s.length ≤ drawnCap w s.length 0 e := drawnCap_ge w s.length 0 e
    have hxs : VRL m (s.map fun b => V.int .u8 b.toNat) (s.map fun b => Value.int .u8 b.toNat) := by
      refine VRL.of_get (by simp) fun i v hv => ?_
      simp only [List.getElem?_map, Option.map_eq_some_iff] at hv ⊢
      obtain ⟨b, hb, rfl⟩ := hv
      exact ⟨_, ⟨b, hb, rfl⟩, rfl⟩
    have hn : New w (.cells ((s.map fun (b : UInt8) => Value.int .u8 b.toNat) ++ List.replicate (drawnCap w s.length 0 e - s.length) (Value.int .u8 0)).toArray e)
        { w.drew with heap := w.heap.push (.cells ((s.map fun (b : UInt8) => Value.int .u8 b.toNat) ++ List.replicate (drawnCap w s.length 0 e - s.length) (Value.int .u8 0)).toArray e) } :=
      New.of_drew (Drew.one w) (New.alloc w.drew _)
    obtain ⟨k1, k2⟩ := cx.hr.push (e := drawnCap w s.length 0 e - s.length) hp (New.freeze hn) (OR.opened hxs (by rw [hs1]; simp) (by
      refine ⟨Nat.le_succ _, fun j hj1 _ => ?_⟩
      simpa using hj1))
    refine ⟨_, _, .slice (some ⟨w.heap.size, 0, none⟩) s.length (drawnCap w s.length 0 e), k1, k2, ⟨_, _, _, _, upd_self _ _ _, ?_, .inl rfl⟩, .inl ?_⟩
    · congr 1; simp only [if_true]; omega
    · rw [he, hx]
      have hrun := run_stringToBytes (P := P) e s w
      simp only [convert, Sem.run_bind, run_underlying h1, run_underlying h2, run_underlying h3, Result.andThen_ok]
      rw [hrun]
      rfl
  · cases hr

/-! ### the other conversions -/
theorem HR.freezeEnd {i r sh e : Nat} {vs : List V} {ty : Nat} {opn : Bool} {fz : Option Nat} (hr : HR P m h w) (hg : h.get i = some (.cells vs ty opn false fz)) (hm : m i = some (r, sh, e)) (hf : fz.getD 0 = 0) :
    ∃ n, w.shape? r = some (ty, n) ∧ HR P m (h.set i (.cells vs ty opn false (some 0))) (w.freeze { block := r, off := n } 1) ∧ Ext m h w m (h.set i (.cells vs ty opn false (some 0))) (w.freeze { block := r, off := n } 1) := by
  obtain ⟨c, fzr, g1, g2, g3, g4, g5⟩ := hr.cells hg hm
  refine ⟨c.size, by simp [World.shape?, g1], ?_⟩
  have hrs : r < w.heap.size := hr.blk _ _ _ _ hm
  refine hr.set hg rfl hm (ob := .cells c ty (if fzr.1 == fzr.2 then (c.size, c.size + 1) else (min fzr.1 c.size, max fzr.2 (c.size + 1)))) ⟨?_, ?_, fun b hb => ?_, rfl, rfl, rfl, Nat.le_refl _⟩ ⟨c, _, rfl, g2, g4, ?_⟩
  · simp [World.freeze]
  · simp only [World.freeze, Nat.one_ne_zero, if_false, Array.getElem?_modify, if_true, g1, Option.map_some]
  · simp [World.freeze, Array.getElem?_modify, Ne.symm hb]
  · obtain ⟨lo, hi⟩ := fzr
    have hle : lo ≤ hi ∧ (lo < hi → c.size ≤ lo) := by
      cases fz with
      | none => simp only [FzOK, Prod.mk.injEq] at g5; omega
      | some f =>
        simp at hf; subst hf
        refine ⟨g5.1, fun hlt => ?_⟩
        have := g5.2 lo (Nat.le_refl _) hlt
        simpa using this
    simp only
    split
    · exact ⟨Nat.le_succ _, fun j hj1 _ => by simpa using hj1⟩
    · rename_i hne
      have hne' : lo ≠ hi := by simpa using hne
      refine ⟨by simp only; omega, fun j hj1 _ => ?_⟩
      simp only [if_true] at *
      omega

theorem snd_same (cx : Cx P m h w T a) {t u : TypeId} {x : Operand} {e : TypeId} {y : A} (ho : o.op = .convert t u x) (htu : t = u) (h1 : P.underlying t = some (.slice e))
    (h3 : P.underlying e = some (.int .u8)) (h4 : cA P x = some y) : Snd P m h w T a o (.same y) := by
  intro r hr
  subst htu
  have he : execOp a.eval o = (do pure (Next.value (← convert t t (a.eval x)))) := by simp [execOp, ho]
  simp only [evK] at hr
  split at hr
  · rename_i i q l c op e1
    obtain ⟨R, sh, ex, ad, hm, hx, hz⟩ := cx.av h4 e1
    split at hr
    · rename_i vs ty op' fz hg
      split at hr <;> cases hr
      rename_i hf
      obtain ⟨n, k0, k1, k2⟩ := cx.hr.freezeEnd hg hm hf
      have hb : ad.block = R := by
        rcases hz with hz | ⟨_, _, hz⟩
        · rw [hz]
        · exact hz
      refine ⟨m, _, .slice (some ad) l (c + if op then ex else 0), k1, k2, ⟨R, sh, ex, ad, hm, rfl, hz⟩, .inl ?_⟩
      rw [he, hx]
      have : (convert t t (.slice (some ad) l (c + if op then ex else 0))).run P w = .ok (.slice (some ad) l (c + if op then ex else 0)) (w.freeze { block := R, off := n } 1) := by
        simp only [convert, Sem.run_bind, run_underlying h1, run_underlying h3, Result.andThen_ok, beq_self_eq_true, markStringish, run_shape, hb, k0, run_freeze, Sem.run_pure]
      simp [this]
    · cases hr
  · cases hr
end Go.AM
