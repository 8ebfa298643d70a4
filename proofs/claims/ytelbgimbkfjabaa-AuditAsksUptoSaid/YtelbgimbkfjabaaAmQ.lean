/- My own texts of the evaluator, its soundness and its symbolic runs, laid for this claim. -/
import Derived.Test.YtelbgimbkfjabaaAmP
import Derived.Laws.Externs
import Derived.Lib.MakeNoZero
import Derived.RangeFuncLeaves
import Derived.LoopNIn
set_option linter.unusedSimpArgs false
set_option linter.unusedVariables false
/-! Soundness, XIII: calls; every operation. -/
namespace Go.AM
variable {P : Program} {m : Mp} {h : H} {w : World} {T : List V} {a : Act} {o : Oper} {k : K}

theorem find_noEscape {fn : Func} (hn : fn.name = "internal/abi.NoEscape") (ho : fn.origin = "") : Extern.findNext fn = none ∧ Extern.find fn = some Extern.AbiNoEscape.same := by
  have e1 : Extern.allNextRows.lookup "internal/abi.NoEscape" = none := by kernel_rfl
  have e2 : Extern.allNextRows.lookup "" = none := by kernel_rfl
  have e3 : Extern.allGenericRows.lookup "internal/abi.NoEscape" = none := by kernel_rfl
  have e4 : Extern.allTypedRows.lookup "internal/abi.NoEscape" = none := by kernel_rfl
  have e5 : Extern.allRows.lookup "internal/abi.NoEscape" = some Extern.AbiNoEscape.same := by kernel_rfl
  constructor
  · simp [Extern.findNext, hn, ho, e1, e2]
  · simp [Extern.find, hn, ho, e3, e4, e5]
theorem find_makeNoZero {fn : Func} (hn : fn.name = "internal/bytealg.MakeNoZero") (ho : fn.origin = "") : Extern.findNext fn = none ∧ Extern.find fn = some (Extern.BytealgMakeNoZero.makeNoZero fn.params fn.resultTypes) := by
  have e1 : Extern.allNextRows.lookup "internal/bytealg.MakeNoZero" = none := by kernel_rfl
  have e2 : Extern.allNextRows.lookup "" = none := by kernel_rfl
  have e3 : Extern.allGenericRows.lookup "internal/bytealg.MakeNoZero" = none := by kernel_rfl
  have e4 : Extern.allTypedRows.lookup "internal/bytealg.MakeNoZero" = some Extern.BytealgMakeNoZero.makeNoZero := by kernel_rfl
  constructor
  · simp [Extern.findNext, hn, ho, e1, e2]
  · simp [Extern.find, hn, ho, e3, e4]

theorem exec_call {c : Call} {f : Operand} (ho : o.op = .call c) (hb : c.callee = .value f) :
    (execOp a.eval o).run P w = ((Deferred.ofValue (a.eval f) (c.args.map a.eval)).run P w).andThen fun d w' => (invoke d.target d.args).run P w' := by
  simp [execOp, ho, resolve, hb]

theorem callR_of {f : Value} {F : V} {xs : List Value} {args : List V} (hf : VR m F f) (hx : VRL m args xs) :
    CallR P m w (((Deferred.ofValue f xs.toArray).run P w).andThen fun d w' => (invoke d.target d.args).run P w') F args := by
  cases F <;> try trivial
  · obtain ⟨fs, cs, h1, h2, rfl⟩ := hf
    refine ⟨fs ++ xs ++ cs, (h1.append hx).append h2, ?_⟩
    simp [Deferred.ofValue, invoke]
  · obtain ⟨R, sh, ex, hm, rfl⟩ := hf
    exact ⟨R, sh, ex, xs, hm, hx, by simp [Deferred.ofValue, invoke]⟩

theorem length_digits : ∀ (n t : Nat) (acc : Array Value), (∀ v ∈ acc.toList, ∃ k, v = .int .u8 k) → ∀ v ∈ (Extern.BytealgMakeNoZero.digits n t acc).toList, ∃ k, v = .int .u8 k
  | 0, _, _, h => h
  | n + 1, t, acc, h => length_digits n _ _ (by
      intro v hv
      simp only [Array.toList_push, List.mem_append, List.mem_singleton] at hv
      rcases hv with hv | rfl
      · exact h v hv
      · exact ⟨_, rfl⟩)

theorem run_mkNZ (ps : Array TypeId) (rs : Array TypeId) (t e : TypeId) (hrs : rs[0]? = some t) (ht : P.underlying t = some (.slice e)) (n : Nat) (hn : n ≤ 281474976710656) :
    ∃ cs : Array Value, (Extern.BytealgMakeNoZero.makeNoZero ps rs #[.int .i64 n]).run P w = .ok (.slice (some ⟨w.heap.size, 0, none⟩) n cs.size) { w.drew.drew with heap := w.heap.push (.cells cs e) } ∧ n ≤ cs.size ∧
      (∀ v ∈ cs.toList, ∃ k, v = .int .u8 k) := by
  have hdef : Extern.BytealgMakeNoZero.makeNoZero ps rs #[.int .i64 n] =
      (do
        let some t := rs[0]? | stuck "bytealg.MakeNoZero: no result type"
        let .slice elem ← underlying t | stuck "bytealg.MakeNoZero: slice type expected"
        if (n : Int) < 0 || (n : Int) > 2 ^ 48 then runtimePanic (.error "makeslice: len out of range")
        let cap ← choose (.appendCap (n : Int).toNat 0 elem)
        askRoom cap
        let bytes ← choose (.extern "internal/bytealg.MakeNoZero.bytes" 0)
        let a ← newRow elem (Extern.BytealgMakeNoZero.digits cap bytes #[])
        pure (.slice (some a) (n : Int).toNat cap)) := rfl
  refine ⟨Extern.BytealgMakeNoZero.digits (grownCap w n 0 e) ((Question.extern "internal/bytealg.MakeNoZero.bytes" 0).cut (w.tape (w.drawn + 1) (.extern "internal/bytealg.MakeNoZero.bytes" 0))) #[], ?_, ?_, ?_⟩
  · rw [hdef, hrs]
    have h1 : ¬ (n : Int) < 0 := by omega
    have h2 : ¬ (281474976710656 : Int) < (n : Int) := by omega
    simp [run_underlying ht, h1, h2, Question.forced, newRow, Lib.size_digits, grownCap]
    rfl
  · rw [Lib.size_digits]
    simpa using grownCap_ge w n 0 e
  · exact length_digits _ _ _ (by simp)

theorem snd_mv_noEscape (cx : Cx P m h w T a) {c : Call} {g : Nat} {f : Operand} {x : Operand} {y : A} {fn : Func} (ho : o.op = .call c) (hb : c.callee = .value f) (hf : a.eval f = .func (.func g) #[] #[])
    (hx : c.args.toList = [x]) (hy : cA P x = some y) (hg : P.funcs[g]? = some fn) (hbd : fn.body.isNone = true) (hn : fn.name = "internal/abi.NoEscape") (hor : fn.origin = "") : Snd P m h w T a o (.mv y) := by
  intro r hr
  simp only [evK] at hr
  cases e : y.ev T with
  | none => simp [e] at hr
  | some v =>
    simp [e] at hr; subst hr
    refine ⟨a.eval x, cx.av hy e, .inl ?_⟩
    have hargs := toList_one hx
    obtain ⟨e1, e2⟩ := find_noEscape hn hor
    rw [exec_call ho hb, hf, hargs]
    simp only [Deferred.ofValue, Sem.run_pure, Result.andThen_ok, invoke]
    have : (#[] : Array Value) ++ Array.map a.eval #[x] ++ #[] = #[a.eval x] := by simp
    rw [this, run_callFunc_extern hg (by rw [hn]; decide) hbd e1 e2]
    rfl

theorem snd_mkNZ (cx : Cx P m h w T a) {c : Call} {g : Nat} {f : Operand} {x : Operand} {y : A} {fn : Func} {t e : TypeId} (ho : o.op = .call c) (hb : c.callee = .value f) (hf : a.eval f = .func (.func g) #[] #[])
    (hx : c.args.toList = [x]) (hy : cA P x = some y) (hg : P.funcs[g]? = some fn) (hbd : fn.body.isNone = true) (hn : fn.name = "internal/bytealg.MakeNoZero") (hor : fn.origin = "")
    (ht : fn.resultTypes[0]? = some t) (hu : P.underlying t = some (.slice e)) (hs : sizeT P e = some 1) : Snd P m h w T a o (.mkNZ e y) := by
  intro r hr
  simp only [evK] at hr
  split at hr
  · rename_i n e0
    split at hr
    · rename_i hb2
      split at hr <;> cases hr
      rename_i h' hp
      have hxv : a.eval x = .int .i64 n := cx.av hy e0
      have hnn : (n.toNat : Int) = n := by omega
      obtain ⟨cs, k1, k2, k3⟩ := run_mkNZ (P := P) (w := w) fn.params fn.resultTypes t e ht hu n.toNat (by omega)
      rw [hnn] at k1
      have hV : VRL m (List.replicate n.toNat .junk) (cs.toList.take n.toNat) := by
        refine VRL.of_get (by simp; omega) fun i u hu => ?_
        rw [List.getElem?_replicate] at hu
        split at hu <;> cases hu
        rename_i hi
        have hi' : i < cs.size := by omega
        refine ⟨cs[i], by rw [List.getElem?_take_of_lt hi]; simp [hi'], ?_⟩
        obtain ⟨kk, hk⟩ := k3 cs[i] (by simp)
        rw [hk]
        exact ⟨rfl, (fun b hb => by cases hb), (fun hb => by cases hb)⟩
      obtain ⟨g1, g2⟩ := cx.hr.push (e := cs.size - n.toNat) hp (New.of_drew ((Drew.one w).trans (Drew.one w.drew)) (New.alloc w.drew.drew (.cells (cs.toList.take n.toNat ++ cs.toList.drop n.toNat).toArray e)))
        (OR.opened hV (by rw [sizeT_cells hs]; simp) (by simp [FzOK]))
      refine ⟨_, _, .slice (some ⟨w.heap.size, 0, none⟩) n.toNat cs.size, g1, g2, ?_, .inl ?_⟩
      · refine ⟨w.heap.size, 0, cs.size - n.toNat, ⟨w.heap.size, 0, none⟩, upd_self _ _ _, ?_, .inl rfl⟩
        congr 1
        simp; omega
      · obtain ⟨e1, e2⟩ := find_makeNoZero hn hor
        rw [exec_call ho hb, hf, toList_one hx]
        simp only [Deferred.ofValue, Sem.run_pure, Result.andThen_ok, invoke]
        have hargs : (#[] : Array Value) ++ Array.map a.eval #[x] ++ #[] = #[.int .i64 n] := by simp [hxv]
        rw [hargs, run_callFunc_extern hg (by rw [hn]; decide) hbd e1 e2, k1]
        simp
        rfl
    · cases hr
  · cases hr

theorem cAs_one {xs : List Operand} {y : A} (hc : cAs P xs = some [y]) : ∃ x, xs = [x] ∧ cA P x = some y := by
  cases xs with
  | nil => simp [cAs] at hc
  | cons x r =>
    simp only [cAs] at hc
    split at hc <;> cases hc
    rename_i h1 h2
    cases r with
    | nil => exact ⟨x, rfl, h1⟩
    | cons z r => simp only [cAs] at h2; split at h2 <;> cases h2

theorem snd_call (cx : Cx P m h w T a) {c : Call} {f : Operand} (ho : o.op = .call c) (hb : c.callee = .value f) (hc : cK P (.call c) = some k) : Snd P m h w T a o k := by
  have key : ∀ (fa : A) (l : List A), cA P f = some fa → cAs P c.args.toList = some l → Snd P m h w T a o (.call fa l) := by
    intro fa l h1 h2 r hr
    simp only [evK] at hr
    split at hr <;> cases hr
    rename_i fv av e1 e2
    simp only [ResOK]
    rw [exec_call ho hb]
    have := callR_of (P := P) (w := w) (cx.av h1 e1) (cx.avs h2 e2)
    rwa [← Array.toList_map, Array.toArray_toList] at this
  simp only [cK, hb] at hc
  split at hc
  · rename_i fa l h1 h2
    split at hc
    · rename_i g
      split at hc
      · rename_i fn hg
        split at hc
        · rename_i hbd
          split at hc
          · cases hc
          · rename_i hor
            have hor : fn.origin = "" := Classical.not_not.1 hor
            have hfv : a.eval f = .func (.func g) #[] #[] := by
              obtain ⟨xs, ys, q1, q2, q3⟩ := cx.av (v := .func g [] []) h1 rfl
              cases q1; cases q2; exact q3
            split at hc
            · rename_i hn
              split at hc
              · rename_i y
                cases hc
                obtain ⟨x, hx, hy⟩ := cAs_one h2
                exact snd_mv_noEscape cx ho hb hfv hx hy hg hbd hn hor
              · cases hc
            · split at hc
              · rename_i hn
                split at hc
                · rename_i y t ht
                  split at hc
                  · rename_i e hu
                    split at hc <;> cases hc
                    rename_i hs
                    obtain ⟨x, hx, hy⟩ := cAs_one h2
                    exact snd_mkNZ cx ho hb hfv hx hy hg hbd hn hor ht hu hs
                  · cases hc
                · cases hc
              · cases hc
        · cases hc; exact key _ _ h1 h2
      · cases hc
    · cases hc; exact key _ _ h1 h2
  · cases hc

theorem snd_tass (cx : Cx P m h w T a) {x : Operand} {t t' : TypeId} {ok : Bool} (ho : o.op = .typeAssert x t' t ok) (hc : cK P (.typeAssert x t' t ok) = some k) : Snd P m h w T a o k := by
  intro r hr
  simp only [cK] at hc
  split at hc
  · cases hc
  · rename_i d y z n h1 h2 h3
    cases hc
    obtain ⟨zx, hz, hzr⟩ := zeroT_spec (m := m) h3
    have he : execOp a.eval o = (do pure (Next.value (← Instr.typeAssert (a.eval x) t' t ok))) := by simp [execOp, ho]
    have hni : ∀ ms, d ≠ .interface ms := fun ms hd => n ms (by rw [hd])
    simp only [evK] at hr
    split at hr
    · rename_i u v e1
      obtain ⟨y', hy, hx⟩ := cx.av h2 e1
      split at hr
      · rename_i hut
        subst hut
        cases hr
        refine pur_val (x := if ok then .tuple #[y', .bool true] else y') ?_ ?_ he
        · rw [hx]
          simp only [Instr.typeAssert, Sem.run_bind, run_underlying h1, Result.andThen_ok]
          cases d <;> first | (simp; done) | exact absurd rfl (hni _)
        · cases ok
          · exact hy
          · exact ⟨_, VRL.cons hy (VRL.one (v := .bool true) (x := .bool true) rfl), rfl⟩
      · rename_i hut
        split at hr <;> cases hr
        rename_i hok
        subst hok
        refine pur_val (x := .tuple #[zx, .bool false]) ?_ ⟨_, VRL.cons hz (VRL.one (v := .bool false) (x := .bool false) rfl), rfl⟩ he
        rw [hx]
        simp only [Instr.typeAssert, Sem.run_bind, run_underlying h1, Result.andThen_ok]
        cases d <;> first | (simp [hut, hzr]; done) | exact absurd rfl (hni _)
    · rename_i e1
      split at hr <;> cases hr
      rename_i hok
      subst hok
      have hx : a.eval x = .nilIface := cx.av h2 e1
      refine pur_val (x := .tuple #[zx, .bool false]) ?_ ⟨_, VRL.cons hz (VRL.one (v := .bool false) (x := .bool false) rfl), rfl⟩ he
      rw [hx]
      simp only [Instr.typeAssert, Sem.run_bind, run_underlying h1, Result.andThen_ok]
      cases d <;> first | (simp [hzr]; done) | exact absurd rfl (hni _)
    · cases hr
  · cases hc

theorem run_method {t : TypeId} {v : Value} {name : String} {f : FuncId} (hf : methOf P t name = some f) (n : Nat) : (method (n + 1) t v name).run P w = .ok (f, v) w := by
  unfold methOf at hf
  split at hf
  · rename_i i hi
    split at hf
    · rename_i md hm
      split at hf
      · rename_i hp
        have hp' : md.path.toList = [] := by simpa using hp
        split at hf <;> cases hf
        · rename_i e h2 h1
          simp [method, run_typeInfo hi, hm, hp', follow, h1, receiverAt, run_underlying h2, Place.get]
        · rename_i d h3 h2 h1
          simp only [method, Sem.run_bind, run_typeInfo hi, Result.andThen_ok, hm, hp', follow, Sem.run_pure, h1, receiverAt, run_underlying h2]
          cases d <;> first | rfl | exact absurd h1 (h3 _ _ · h2)
      · cases hf
    · cases hf
  · cases hf

theorem snd_inv (cx : Cx P m h w T a) {c : Call} {f : Operand} {name : String} (ho : o.op = .call c) (hb : c.callee = .invoke f name) (hc : cK P (.call c) = some k) : Snd P m h w T a o k := by
  intro r hr
  simp only [cK, hb] at hc
  split at hc <;> cases hc
  rename_i x l h1 h2
  simp only [evK] at hr
  split at hr
  · rename_i t v vs e1 e2
    split at hr <;> cases hr
    rename_i g hg
    obtain ⟨y, hy, hx⟩ := cx.av h1 e1
    have hxs := cx.avs h2 e2
    refine ⟨y :: c.args.toList.map a.eval, ?_, ?_⟩
    · simpa using VRL.cons hy hxs
    · have hrm := run_method (P := P) (w := w) (v := y) hg (P.types.size + Made.depth - 1)
      have hn : P.types.size + Made.depth - 1 + 1 = P.types.size + Made.depth := by
        have : 0 < Made.depth := by decide
        omega
      rw [hn] at hrm
      have hargs : (#[Value.iface t y] ++ c.args.map a.eval).extract 1 (#[Value.iface t y] ++ c.args.map a.eval).size = c.args.map a.eval := by
        apply Array.ext'
        simp [List.take_of_length_le]
      have e0 : (#[Value.iface t y] ++ c.args.map a.eval)[0]? = some (.iface t y) := by rw [Array.getElem?_append_left (by simp)]; rfl
      simp only [execOp, ho, resolve, hb, Sem.run_bind, Sem.run_pure, Result.andThen_ok, hx, invoke, e0, hargs, callMethod, run_program, hrm]
      congr 2
      apply Array.ext'
      simp
  · cases hr

theorem opSound (cx : Cx P m h w T a) (hc : cK P o.op = some k) : Snd P m h w T a o k := by
  cases ho : o.op with
  | move x => rw [ho] at hc; exact snd_move cx (.inl ho) hc
  | assign x => rw [ho] at hc; exact snd_move cx (.inr ho) hc
  | pick c x y => rw [ho] at hc; exact snd_pick cx ho hc
  | alloc e => rw [ho] at hc; exact snd_alloc cx ho hc
  | box e x => rw [ho] at hc; exact snd_box cx ho hc
  | build t ps => rw [ho] at hc; exact snd_build cx ho hc
  | buildSlice t l ps => rw [ho] at hc; exact snd_bslice cx ho hc
  | load t x => rw [ho] at hc; exact snd_load cx ho hc
  | store t x y => rw [ho] at hc; exact snd_store cx ho hc
  | nilCheck x => rw [ho] at hc; exact snd_nilck cx ho hc
  | binOp op t x y z => rw [ho] at hc; exact snd_bin cx ho hc
  | unOp op t x => rw [ho] at hc; exact snd_un cx ho hc
  | convert t u x => rw [ho] at hc; exact snd_conv cx ho hc
  | makeInterface t x => rw [ho] at hc; exact snd_mkI cx ho hc
  | makeFunc f fs cs =>
    rw [ho] at hc
    cases f <;> first | exact snd_mkF cx ho hc | (simp [cK] at hc)
  | makeMap t r => rw [ho] at hc; exact snd_makeMap cx ho hc
  | makeSlice t l c => rw [ho] at hc; exact snd_makeSlice cx ho hc
  | slice t x lo hi mx => rw [ho] at hc; exact snd_slice cx ho hc
  | fieldAddr t x f => rw [ho] at hc; exact snd_fieldAddr cx ho hc
  | indexAddr t x i => rw [ho] at hc; exact snd_indexAddr cx ho hc
  | field t x f => rw [ho] at hc; exact snd_fld cx ho hc
  | index t x i => rw [ho] at hc; exact snd_index cx ho hc
  | lookup t x y ok => rw [ho] at hc; exact snd_lookup cx ho hc
  | mapUpdate t x y z => rw [ho] at hc; exact snd_mapUpdate cx (.inl ho) hc
  | insert t x y z => rw [ho] at hc; exact snd_mapUpdate cx (.inr ho) hc
  | range t x => rw [ho] at hc; exact snd_range cx ho hc
  | next x s => rw [ho] at hc; exact snd_next cx ho hc
  | entry x => rw [ho] at hc; exact snd_entry cx ho hc
  | extract x i => rw [ho] at hc; exact snd_extract cx ho hc
  | call c =>
    rw [ho] at hc
    cases hb : c.callee with
    | builtin b => exact snd_builtin cx ho hb (by simpa [cK, hb] using hc)
    | value f => exact snd_call cx ho hb hc
    | invoke f n => exact snd_inv cx ho hb hc
  | typeAssert x t' t ok => rw [ho] at hc; exact snd_tass cx ho hc
  | panic x =>
    rw [ho] at hc
    simp only [cK] at hc
    cases hc
    intro r hr; simp [evK] at hr
  | _ => rw [ho] at hc; simp [cK] at hc
end Go.AM
