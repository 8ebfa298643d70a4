/- My own texts of the evaluator, its soundness and its symbolic runs, laid for this claim. -/
import Derived.Test.YtelbgimbkfjabaaAmN
set_option linter.unusedSimpArgs false
set_option linter.unusedVariables false
/-! Soundness, XI: bytes and texts, the other builtins, calls. -/
namespace Go.AM
variable {P : Program} {m : Mp} {h : H} {w : World} {T : List V} {a : Act} {o : Oper} {k : K}

/-! ### bytes -/
theorem bytesV_sound : ∀ {cs : List V} {xs : List Value} {bs : List UInt8}, VRL m cs xs → bytesV cs = some bs →
    ∃ ns : List Int, xs = ns.map (Value.int .u8) ∧ bs = ns.map (fun n => UInt8.ofNat n.toNat)
  | [], _, bs, h, hb => by cases h; simp [bytesV] at hb; subst hb; exact ⟨[], rfl, rfl⟩
  | c :: cs, _, bs, h, hb => by
    obtain ⟨x, xs, h1, h2, rfl⟩ := h
    cases c <;> try (simp [bytesV] at hb; done)
    rename_i kd n
    cases kd <;> simp only [bytesV] at hb <;> try cases hb
    split at hb <;> cases hb
    rename_i bs' hb'
    obtain ⟨ns, rfl, rfl⟩ := bytesV_sound h2 hb'
    cases h1
    exact ⟨n :: ns, rfl, rfl⟩

theorem foldl_push (ns : List Int) : ∀ (acc : ByteArray), (ns.foldl (fun r n => r.push (UInt8.ofNat n.toNat)) acc) = ⟨(acc.data.toList ++ ns.map (fun n => UInt8.ofNat n.toNat)).toArray⟩ := by
  induction ns with
  | nil => intro acc; simp
  | cons n ns ih => intro acc; rw [List.foldl_cons, ih]; simp [ByteArray.push]

theorem snd_b2s (cx : Cx P m h w T a) {t u : TypeId} {x : Operand} {e : TypeId} {y : A} (ho : o.op = .convert t u x) (h1 : P.underlying t = some (.slice e)) (h2 : P.underlying u = some .string)
    (h3 : P.underlying e = some (.int .u8)) (h4 : cA P x = some y) : Snd P m h w T a o (.b2s y) := by
  intro r hr
  have he : execOp a.eval o = (do pure (Next.value (← convert t u (a.eval x)))) := by simp [execOp, ho]
  simp only [evK] at hr
  split at hr
  · rename_i p len c q e1
    split at hr
    · rename_i cs hcs
      have hv := cx.av h4 e1
      split at hr
      · rename_i hp
        cases hr
        cases p with
        | none =>
          have hx : a.eval x = .slice none len c := hv
          refine rd_val (x := .string .empty) ?_ rfl he
          rw [hx, run_convert_bytes_string w t u e _ _ _ h1 h3 h2]; simp [Conv.bytesToString]
        | some p => simp at hp
      · cases hb : bytesV cs with
        | none => simp [hb] at hr
        | some bs =>
          simp [hb] at hr; subst hr
          cases p with
          | none =>
            simp only [elemsV] at hcs
            split at hcs <;> cases hcs
            have hx : a.eval x = .slice none len c := hv
            simp [bytesV] at hb; subst hb
            refine rd_val (x := .string .empty) ?_ rfl he
            rw [hx, run_convert_bytes_string w t u e _ _ _ h1 h3 h2]; simp [Conv.bytesToString]
          | some p =>
            obtain ⟨xs, g1, g2⟩ := run_elemsV cx.hr hv rfl (Nat.le_refl _) hcs
            obtain ⟨i, q0⟩ := p
            obtain ⟨R, sh, ex, ad, hm, hx, hz⟩ := hv
            obtain ⟨ns, rfl, rfl⟩ := bytesV_sound g2 hb
            rw [hx] at g1
            simp only [Builtin.firstCells, Nat.mul_one] at g1
            refine rd_val (x := .string ⟨(ns.map (fun (n : Int) => UInt8.ofNat n.toNat)).toArray⟩) ?_ rfl he
            rw [hx, run_convert_bytes_string w t u e _ _ _ h1 h3 h2, run_bytesToString w ad len _ ns g1, foldl_push]
            rfl
    · cases hr
  · cases hr

theorem New.freeze {w w1 : World} {c : Array Value} {ty : TypeId} (hn : New w (.cells c ty) w1) :
    New w (.cells c ty (c.size, c.size + 1)) (w1.freeze { block := w.heap.size, off := c.size } 1) := by
  refine ⟨?_, hn.os, hn.output, hn.tape, hn.drawn⟩
  simp only [World.freeze, Nat.one_ne_zero, if_false, hn.heap]
  apply Array.ext_getElem?
  intro i
  rw [Array.getElem?_modify, Array.getElem?_push, Array.getElem?_push]
  by_cases hi : i = w.heap.size
  · subst hi; simp
  · simp [hi, Ne.symm hi]

theorem run_stringToBytes (e : TypeId) (s : List UInt8) (w : World) : (Conv.stringToBytes e ⟨s.toArray⟩).run P w =
    .ok (.slice (some ⟨w.heap.size, 0, none⟩) s.length (drawnCap w s.length 0 e))
      (World.freeze { w.drew with heap := w.heap.push (.cells ((s.map fun (b : UInt8) => Value.int .u8 b.toNat) ++ List.replicate (drawnCap w s.length 0 e - s.length) (Value.int .u8 0)).toArray e) }
        { block := w.heap.size, off := ((s.map fun (b : UInt8) => Value.int .u8 b.toNat) ++ List.replicate (drawnCap w s.length 0 e - s.length) (Value.int .u8 0)).toArray.size } 1) := by
  have hsz : (⟨s.toArray⟩ : ByteArray).size = s.length := by simp [ByteArray.size]
  have harr : (s.toArray.map fun (b : UInt8) => Value.int .u8 b.toNat) ++ Array.replicate (drawnCap w s.length 0 e - s.length) (Value.int .u8 0) =
      ((s.map fun (b : UInt8) => Value.int .u8 b.toNat) ++ List.replicate (drawnCap w s.length 0 e - s.length) (Value.int .u8 0)).toArray := by
    apply Array.ext'; simp
  have hch : (choose (.appendCap s.length 0 e)).run P w = .ok (drawnCap w s.length 0 e) w.drew := rfl
  simp only [Conv.stringToBytes, Sem.run_bind, hch, Result.andThen_ok, hsz, newRow, run_newObj, Sem.run_pure, markStringish, run_shape]
  rw [harr]
  have hsh : World.shape? { w.drew with heap := w.drew.heap.push (.cells ((s.map fun (b : UInt8) => Value.int .u8 b.toNat) ++ List.replicate (drawnCap w s.length 0 e - s.length) (Value.int .u8 0)).toArray e) } w.drew.heap.size =
      some (e, ((s.map fun (b : UInt8) => Value.int .u8 b.toNat) ++ List.replicate (drawnCap w s.length 0 e - s.length) (Value.int .u8 0)).toArray.size) := by
    simp only [World.shape?]
    rw [show w.drew.heap.size = w.heap.size from rfl, show w.drew.heap = w.heap from rfl, Array.getElem?_push_size]
  rw [hsh]
  rfl

theorem snd_s2b (cx : Cx P m h w T a) {t u : TypeId} {x : Operand} {e : TypeId} {y : A} (ho : o.op = .convert t u x) (h1 : P.underlying t = some .string) (h2 : P.underlying u = some (.slice e))
    (h3 : P.underlying e = some (.int .u8)) (hs1 : P.cellsOf e = 1) (h4 : cA P x = some y) : Snd P m h w T a o (.s2b e y) := by
  intro r hr
  have he : execOp a.eval o = (do pure (Next.value (← convert t u (a.eval x)))) := by simp [execOp, ho]
  simp only [evK] at hr
  split at hr
  · rename_i s e1
    split at hr <;> cases hr
    rename_i h' hp
    have hx : a.eval x = .string ⟨s.toArray⟩ := cx.av h4 e1
    have hsz : (⟨s.toArray⟩ : ByteArray).size = s.length := by simp [ByteArray.size]
    have hge : s.length ≤ drawnCap w s.length 0 e := drawnCap_ge w s.length 0 e
    have hxs : VRL m (s.map fun b => V.int .u8 b.toNat) (s.map fun b => Value.int .u8 b.toNat) := by
      refine VRL.of_get (by simp) fun i v hv => ?_
      simp only [List.getElem?_map, Option.map_eq_some_iff] at hv ⊢
      obtain ⟨b, hb, rfl⟩ := hv
      exact ⟨_, ⟨b, hb, rfl⟩, rfl⟩
    have hn : New w (.cells ((s.map fun (b : UInt8) => Value.int .u8 b.toNat) ++ List.replicate (drawnCap w s.length 0 e - s.length) (Value.int .u8 0)).toArray e)
        { w.drew with heap := w.heap.push (.cells ((s.map fun (b : UInt8) => Value.int .u8 b.toNat) ++ List.replicate (drawnCap w s.length 0 e - s.length) (Value.int .u8 0)).toArray e) } :=
      New.of_drew (Drew.one w) (New.alloc w.drew _)
    obtain ⟨k1, k2⟩ := cx.hr.push (e := drawnCap w s.length 0 e - s.length) hp (New.freeze hn) (OR.opened hxs (by rw [hs1]; simp) (by
      refine ⟨Nat.le_succ _, fun j hj1 _ => ?_⟩
      simpa using hj1))
    refine ⟨_, _, .slice (some ⟨w.heap.size, 0, none⟩) s.length (drawnCap w s.length 0 e), k1, k2, ⟨_, _, _, _, upd_self _ _ _, ?_, .inl rfl⟩, .inl ?_⟩
    · congr 1; simp only [if_true]; omega
    · rw [he, hx]
      have hrun := run_stringToBytes (P := P) e s w
      simp only [convert, Sem.run_bind, run_underlying h1, run_underlying h2, run_underlying h3, Result.andThen_ok]
      rw [hrun]
      rfl
  · cases hr

/-! ### the other conversions -/
theorem HR.freezeEnd {i r sh e : Nat} {vs : List V} {ty : Nat} {opn : Bool} {fz : Option Nat} (hr : HR P m h w) (hg : h.get i = some (.cells vs ty opn false fz)) (hm : m i = some (r, sh, e)) (hf : fz.getD 0 = 0) :
    ∃ n, w.shape? r = some (ty, n) ∧ HR P m (h.set i (.cells vs ty opn false (some 0))) (w.freeze { block := r, off := n } 1) ∧ Ext m h w m (h.set i (.cells vs ty opn false (some 0))) (w.freeze { block := r, off := n } 1) := by
  obtain ⟨c, fzr, g1, g2, g3, g4, g5⟩ := hr.cells hg hm
  have g5 := g5 rfl
  refine ⟨c.size, by simp [World.shape?, g1], ?_⟩
  have hrs : r < w.heap.size := hr.blk _ _ _ _ hm
  refine hr.set hg rfl hm (ob := .cells c ty (if fzr.1 == fzr.2 then (c.size, c.size + 1) else (min fzr.1 c.size, max fzr.2 (c.size + 1)))) ⟨?_, ?_, fun b hb => ?_, rfl, rfl, rfl, Nat.le_refl _⟩ ⟨c, _, rfl, g2, g4, ?_⟩
  · simp [World.freeze]
  · simp only [World.freeze, Nat.one_ne_zero, if_false, Array.getElem?_modify, if_true, g1, Option.map_some]
  · simp [World.freeze, Array.getElem?_modify, Ne.symm hb]
  · obtain ⟨lo, hi⟩ := fzr
    have hle : lo ≤ hi ∧ (lo < hi → c.size ≤ lo) := by
      cases fz with
      | none => simp only [FzOK, Prod.mk.injEq] at g5; omega
      | some f =>
        simp at hf; subst hf
        refine ⟨g5.1, fun hlt => ?_⟩
        have := g5.2 lo (Nat.le_refl _) hlt
        simpa using this
    intro _
    simp only
    split
    · exact ⟨Nat.le_succ _, fun j hj1 _ => by simpa using hj1⟩
    · rename_i hne
      have hne' : lo ≠ hi := by simpa using hne
      refine ⟨by simp only; omega, fun j hj1 _ => ?_⟩
      simp only [if_true] at *
      omega

theorem snd_same (cx : Cx P m h w T a) {t u : TypeId} {x : Operand} {e : TypeId} {y : A} (ho : o.op = .convert t u x) (htu : t = u) (h1 : P.underlying t = some (.slice e))
    (h3 : P.underlying e = some (.int .u8)) (h4 : cA P x = some y) : Snd P m h w T a o (.same y) := by
  intro r hr
  subst htu
  have he : execOp a.eval o = (do pure (Next.value (← convert t t (a.eval x)))) := by simp [execOp, ho]
  simp only [evK] at hr
  split at hr
  · rename_i i q l c op e1
    obtain ⟨R, sh, ex, ad, hm, hx, hz⟩ := cx.av h4 e1
    split at hr
    · rename_i vs ty op' fz hg
      split at hr <;> cases hr
      rename_i hf
      obtain ⟨hf, hcap⟩ := hf
      obtain ⟨n, k0, k1, k2⟩ := cx.hr.freezeEnd hg hm hf
      have hb : ad.block = R := by
        rcases hz with hz | ⟨_, hz0, hz⟩
        · rw [hz]
        · rcases hcap with hcap | hcap
          · exact hz hcap
          · omega
      refine ⟨m, _, .slice (some ad) l (c + if op then ex else 0), k1, k2, ⟨R, sh, ex, ad, hm, rfl, hz⟩, .inl ?_⟩
      rw [he, hx]
      have : (convert t t (.slice (some ad) l (c + if op then ex else 0))).run P w = .ok (.slice (some ad) l (c + if op then ex else 0)) (w.freeze { block := R, off := n } 1) := by
        simp only [convert, Sem.run_bind, run_underlying h1, run_underlying h3, Result.andThen_ok, beq_self_eq_true, markStringish, run_shape, hb, k0, run_freeze, Sem.run_pure]
      simp [this]
    · cases hr
  · cases hr
end Go.AM
/-! Soundness, XI b: unsafe.String. -/
namespace Go.AM
variable {P : Program} {m : Mp} {h : H} {w : World} {T : List V} {a : Act} {o : Oper} {k : K}

theorem liesAt_off {e : TypeId} (hc : P.cellsOf e = 1) (count off n : Nat) (hn : off + n ≤ count) : liesAt P P.depth e count off e n = true := by
  have hd : P.depth = (2 * (P.types.size + Made.depth) + 1) + 1 := rfl
  rw [hd]
  simp only [liesAt, Bool.or_eq_true]
  left
  rw [hd]
  simp [rowAt, hc, sameLayout, Nat.mod_one]
  omega

theorem run_loadBytes_ints (r : Nat) : ∀ (ns : List Int) (q : Nat) (acc : ByteArray), (∀ j n, ns[j]? = some n → w.cell? (⟨r, q + j, none⟩ : Addr) = some (.int .u8 n)) →
    (loadBytes ⟨r, q, none⟩ acc ns.length).run P w = .ok (ns.foldl (fun r n => r.push (UInt8.ofNat n.toNat)) acc) w
  | [], _, acc, _ => by simp [loadBytes]
  | n :: ns, q, acc, h => by
    have h0 := h 0 n rfl
    rw [Nat.add_zero] at h0
    have ih := run_loadBytes_ints r ns (q + 1) (acc.push (UInt8.ofNat n.toNat)) (fun j y hy => by
      have := h (j + 1) y (by simpa using hy)
      rw [show q + 1 + j = q + (j + 1) by omega]; exact this)
    simp only [List.length_cons, loadBytes, Sem.run_bind, run_load, h0, Result.andThen, add_at, List.foldl_cons]
    exact ih

theorem run_unsafeString_at (pt it ty e : TypeId) (hp : P.underlying pt = some (.pointer e)) (hc : P.cellsOf e = 1) {g off cells : Nat} (hsh : w.shape? g = some (e, cells)) (kd : IntKind) (l : List Int) (h0 : l ≠ []) (hn : off + l.length ≤ cells) (h63 : l.length ≤ 9223372036854775807)
    (hcell : ∀ j x, l[j]? = some x → w.cell? (⟨g, off + j, none⟩ : Addr) = some (.int .u8 x)) :
    (Builtin.unsafeString_ #[pt, it] ty #[.pointer (some ⟨g, off, none⟩), .int kd l.length]).run P w = .ok (.string ⟨(l.map fun n => UInt8.ofNat n.toNat).toArray⟩) (w.freeze ⟨g, off, none⟩ l.length) := by
  have hl : l.length ≠ 0 := by simpa using h0
  have hlb := run_loadBytes_ints (P := P) g l off .empty hcell
  rw [foldl_push] at hlb
  have hlies := liesAt_off (P := P) hc (cells / P.cellsOf e) off l.length (by rw [hc]; simpa using hn)
  have h63' : ¬ (9223372036854775807 : Int) < (l.length : Int) := by omega
  have hdef : Builtin.unsafeString_ #[pt, it] ty #[.pointer (some ⟨g, off, none⟩), .int kd l.length] =
      (do
        let n ← asInt (.int kd l.length)
        if n < 0 then runtimePanic (.error "unsafe.String: len out of range")
        if n > IntKind.i64.max then unsupported (.unsafePointer "String: a length above the largest int")
        if n = 0 then pure (.string .empty)
        else if ← variablesAt ⟨g, off, none⟩ (← elemOf pt) n.toNat then do
          let s ← loadBytes ⟨g, off, none⟩ .empty n.toNat
          freeze ⟨g, off, none⟩ n.toNat
          pure (.string s)
        else unsupported (.unsafePointer "String: not so many bytes at ptr")) := rfl
  rw [hdef]
  have hmax : IntKind.i64.max = 9223372036854775807 := rfl
  have hneg : ¬ (l.length : Int) < 0 := by omega
  simp [asInt, asIntOf, hmax, h63', hneg, hl, variablesAt, hsh, elemOf, run_underlying hp, hlies, hlb]

theorem HR.freeze {i r sh e q n : Nat} {vs : List V} {ty : Nat} {opn : Bool} {fz : Option Nat} (hr : HR P m h w) (hg : h.get i = some (.cells vs ty opn false fz)) (hm : m i = some (r, sh, e)) (hf : fz ≠ some 0) (hn : n ≠ 0) :
    HR P m (h.set i (.cells vs ty opn false (some (max (fz.getD 0) (q + n))))) (w.freeze { block := r, off := sh + q } n) ∧
      Ext m h w m (h.set i (.cells vs ty opn false (some (max (fz.getD 0) (q + n))))) (w.freeze { block := r, off := sh + q } n) := by
  obtain ⟨c, fzr, g1, g2, g3, g4, g5⟩ := hr.cells hg hm
  have g5 := g5 rfl
  refine hr.set hg rfl hm (ob := .cells c ty (if fzr.1 == fzr.2 then (sh + q, sh + q + n) else (min fzr.1 (sh + q), max fzr.2 (sh + q + n)))) ⟨?_, ?_, fun b hb => ?_, ?_, ?_, ?_, ?_⟩ ⟨c, _, rfl, g2, g4, ?_⟩
  · simp [World.freeze, hn]
  · simp only [World.freeze, hn, if_false, Array.getElem?_modify, if_true, g1, Option.map_some]
  · simp [World.freeze, hn, Array.getElem?_modify, Ne.symm hb]
  · simp [World.freeze, hn]
  · simp [World.freeze, hn]
  · simp [World.freeze, hn]
  · simp [World.freeze, hn]
  · obtain ⟨lo, hi⟩ := fzr
    have hle : lo ≤ hi ∧ ∀ j, lo ≤ j → j < hi → j < sh + fz.getD 0 := by
      cases fz with
      | none => simp only [FzOK, Prod.mk.injEq] at g5; exact ⟨by omega, fun j h1 h2 => by omega⟩
      | some f =>
        have hf0 : f ≠ 0 := fun h => hf (by rw [h])
        refine ⟨g5.1, fun j h1 h2 => ?_⟩
        have := g5.2 j h1 h2
        rw [if_neg hf0] at this
        simpa using this
    have hne0 : max (fz.getD 0) (q + n) ≠ 0 := by omega
    intro _
    simp only
    split
    · refine ⟨by simp only; omega, fun j hj1 hj2 => ?_⟩
      simp only at hj1 hj2
      rw [if_neg hne0]; omega
    · rename_i hne
      have hne' : lo ≠ hi := by simpa using hne
      refine ⟨by simp only; omega, fun j hj1 hj2 => ?_⟩
      simp only at hj1 hj2
      rw [if_neg hne0]
      rcases Nat.lt_or_ge j (sh + q + n) with hlt | hge
      · omega
      · have hlohi : lo < hi := by omega
        have h2 := hle.2 (hi - 1) (by omega) (by omega)
        omega

theorem snd_ustr (cx : Cx P m h w T a) {c : Call} (ho : o.op = .call c) (hb : c.callee = .builtin .unsafeString) {x n : Operand} {t e : TypeId} {y z : A} (ha : c.args = #[x, n]) (ht : c.argTypes[0]? = some t)
    (h1 : P.underlying t = some (.pointer e)) (h2 : cA P x = some y) (h3 : cA P n = some z) (h4 : sizeT P e = some 1) : Snd P m h w T a o (.ustr e y z) := by
  intro r hr
  obtain ⟨cst, e3⟩ := exec_builtin (P := P) (w := w) (a := a) ho hb
  simp only [evK] at hr
  split at hr
  · rename_i p kd k e1 e2
    have hxv := cx.av h2 e1
    have hnv : a.eval n = .int kd k := cx.av h3 e2
    have hargs : (#[t] : Array TypeId).size = 1 := rfl
    have hun : ∀ (q : Option Addr) (kk : Int) (w' : World) (y : Value), (∀ it, (Builtin.unsafeString_ #[t, it] o.type #[.pointer q, .int kd kk]).run P w = .ok y w') → (Builtin.unsafeString_ c.argTypes o.type #[.pointer q, .int kd kk]).run P w = .ok y w' := by
      intro q kk w' y hy
      rw [← hy t]
      have : ∀ ats : Array TypeId, ats[0]? = some t → (Builtin.unsafeString_ ats o.type #[.pointer q, .int kd kk]).run P w = (Builtin.unsafeString_ #[t, t] o.type #[.pointer q, .int kd kk]).run P w := by
        intro ats hats
        have e1 : ∀ ats : Array TypeId, Builtin.unsafeString_ ats o.type #[.pointer q, .int kd kk] = (do
          let n ← asInt (.int kd kk)
          let some pt := ats[0]? | stuck "unsafe.String: no argument types"
          if n < 0 then runtimePanic (.error "unsafe.String: len out of range")
          if n > IntKind.i64.max then unsupported (.unsafePointer "String: a length above the largest int")
          match q with
          | none =>
            if n = 0 then pure (.string .empty)
            else runtimePanic (.error "unsafe.String: ptr is nil and len is not zero")
          | some a =>
            if n = 0 then pure (.string .empty)
            else if ← variablesAt a (← elemOf pt) n.toNat then do
              let s ← loadBytes a .empty n.toNat
              freeze a n.toNat
              pure (.string s)
            else unsupported (.unsafePointer "String: not so many bytes at ptr")) := fun _ => rfl
        rw [e1, e1, hats]
        rfl
      exact this _ ht
    split at hr
    · rename_i hk0
      cases hr
      subst hk0
      refine ⟨.string ⟨#[]⟩, rfl, .inl ?_⟩
      rw [e3, ha]
      have hq : ∃ q, a.eval x = .pointer q := by
        cases p with
        | none => exact ⟨none, hxv⟩
        | some p => obtain ⟨R, sh, ex, _, hx⟩ := hxv; exact ⟨_, hx⟩
      obtain ⟨q, hq⟩ := hq
      have := hun q 0 w (.string .empty) (fun it => by
        cases q with
        | none => 
          have hd : Builtin.unsafeString_ #[t, it] o.type #[.pointer none, .int kd 0] = (do
            let n ← asInt (.int kd 0)
            if n < 0 then runtimePanic (.error "unsafe.String: len out of range")
            if n > IntKind.i64.max then unsupported (.unsafePointer "String: a length above the largest int")
            if n = 0 then pure (.string .empty)
            else runtimePanic (.error "unsafe.String: ptr is nil and len is not zero")) := rfl
          have hmax : IntKind.i64.max = 9223372036854775807 := rfl
          rw [hd]; simp [asInt, asIntOf, hmax]
        | some q =>
          have hd : Builtin.unsafeString_ #[t, it] o.type #[.pointer (some q), .int kd 0] = (do
            let n ← asInt (.int kd 0)
            if n < 0 then runtimePanic (.error "unsafe.String: len out of range")
            if n > IntKind.i64.max then unsupported (.unsafePointer "String: a length above the largest int")
            if n = 0 then pure (.string .empty)
            else if ← variablesAt q (← elemOf t) n.toNat then do
              let s ← loadBytes q .empty n.toNat
              freeze q n.toNat
              pure (.string s)
            else unsupported (.unsafePointer "String: not so many bytes at ptr")) := rfl
          have hmax : IntKind.i64.max = 9223372036854775807 := rfl
          rw [hd]; simp [asInt, asIntOf, hmax])
      simp only [builtin, Sem.run_bind, List.map_toArray, List.map_cons, List.map_nil, hq, hnv]
      rw [this]; rfl
    · rename_i hk0
      split at hr
      · cases hr
      · rename_i hrange
        split at hr
        · cases hr
        · rename_i i q
          obtain ⟨R, sh, ex, hm, hx⟩ := hxv
          split at hr
          · rename_i vs ty op fz hg
            split at hr
            · rename_i hcond
              obtain ⟨hty, hle, hfz⟩ := hcond
              subst hty
              split at hr <;> cases hr
              rename_i bs hbs
              obtain ⟨cc, fzr, g1, g2, g3, g4, g5⟩ := cx.hr.cells hg hm
              have hgr := g2.range q k.toNat
              obtain ⟨ns, n1, n2⟩ := bytesV_sound hgr hbs
              have hnl : ns.length = k.toNat := by
                have := congrArg List.length n1
                rw [List.length_map] at this
                rw [← this]
                simp; omega
              have hkk : (ns.length : Int) = k := by omega
              obtain ⟨k1, k2⟩ := cx.hr.freeze hg hm hfz (n := k.toNat) (q := q) (by omega)
              have hsh : w.shape? R = some (ty, cc.size) := by simp [World.shape?, g1]
              refine ⟨m, _, .string ⟨bs.toArray⟩, k1, k2, rfl, .inl ?_⟩
              rw [e3, ha]
              have := hun (some ⟨R, sh + q, none⟩) k (w.freeze ⟨R, sh + q, none⟩ k.toNat) (.string ⟨bs.toArray⟩) (fun it => by
                have hru := run_unsafeString_at (P := P) (w := w) (off := sh + q) t it o.type ty h1 (sizeT_cells h4) hsh kd ns (by intro h; rw [h] at hnl; simp at hnl; omega) (by omega) (by omega) (fun j v hj => by
                  rw [cell_at g1]
                  have hj' : (ns.map (Value.int .u8))[j]? = some (.int .u8 v) := by rw [List.getElem?_map, hj]; rfl
                  rw [← n1, List.getElem?_take] at hj'
                  split at hj'
                  · rw [List.getElem?_drop, List.getElem?_take] at hj'
                    split at hj'
                    · rw [List.getElem?_drop] at hj'
                      rw [← hj', Array.getElem?_toList]; congr 1; omega
                    · cases hj'
                  · cases hj')
                rw [hkk, hnl] at hru
                rw [n2]; exact hru)
              simp only [builtin, Sem.run_bind, List.map_toArray, List.map_cons, List.map_nil, hx, hnv]
              rw [this]; rfl
            · cases hr
          · cases hr
  · cases hr
end Go.AM
