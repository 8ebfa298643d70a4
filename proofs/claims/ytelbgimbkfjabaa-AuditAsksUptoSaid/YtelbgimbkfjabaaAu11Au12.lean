/- My own texts of the evaluator, its soundness and its symbolic runs, laid for this claim. -/
import Derived.Test.YtelbgimbkfjabaaAu9Au10
set_option linter.unusedSimpArgs false
set_option linter.unusedVariables false
/-! Clones of entries. -/
namespace Go.AM.Sc
open Go.AM
variable {P : Program} {E : Env}
def KL (lo : Nat) (h h' : H) : Prop := ∀ i vs ty op ro fz, lo ≤ i → h.get i = some (.cells vs ty op ro fz) → h'.get i = some (.cells vs ty op ro fz)
theorem KL.kp {h h' : H} (k : Kp h h') (lo : Nat) : KL lo h h' := fun _ _ _ _ _ _ _ x => k.of x
theorem KL.set {lo b : Nat} {h : H} (hb : b < lo) (hlt : b < h.size) (o : Obj) : KL lo h (h.set b o) := fun i _ _ _ _ _ hi x => by rw [hset_other hlt (by omega)]; exact x
theorem KL.trans {lo : Nat} {a b c : H} (x : KL lo a b) (y : KL lo b c) : KL lo a c := fun i vs ty op ro fz hi h => y i vs ty op ro fz hi (x i vs ty op ro fz hi h)
theorem KL.cut {lo b : Nat} {h : H} (hb : b < lo) : KL lo h (cutB h b) := by
  unfold cutB
  split
  · rename_i hlt; exact KL.set hb hlt _
  · exact fun _ _ _ _ _ _ _ x => x
def SlF (lo : Nat) (h : H) (v : V) (sz : Nat) (xs : List (List V)) : Prop := (∃ a c o, v = .slice a 0 c o ∧ xs = []) ∨ ∃ b ty, lo ≤ b ∧ v = .slice (some (b, 0)) xs.length xs.length true ∧ h.get b = some (.cells xs.flatten ty true false none)
def DFr (lo : Nat) (h : H) (v : V) (s : List UInt8) : Prop := (∃ a c o, v = .slice a 0 c o ∧ s = []) ∨ ∃ b ty cs, lo ≤ b ∧ v = .slice (some (b, 0)) cs.length cs.length true ∧ h.get b = some (.cells cs ty true false none) ∧ bytesV cs = some s
theorem SlF.mv {lo : Nat} {h h' : H} {v : V} {sz : Nat} {xs : List (List V)} (a : SlF lo h v sz xs) (k : KL lo h h') : SlF lo h' v sz xs := by
  rcases a with a | ⟨b, ty, h1, h2, h3⟩
  · exact .inl a
  · exact .inr ⟨b, ty, h1, h2, k _ _ _ _ _ _ h1 h3⟩
theorem SlF.lo {lo lo' : Nat} {h : H} {v : V} {sz : Nat} {xs : List (List V)} (a : SlF lo h v sz xs) (k : lo' ≤ lo) : SlF lo' h v sz xs := by
  rcases a with a | ⟨b, ty, h1, h2, h3⟩
  · exact .inl a
  · exact .inr ⟨b, ty, Nat.le_trans k h1, h2, h3⟩
theorem DFr.mv {lo : Nat} {h h' : H} {v : V} {s : List UInt8} (a : DFr lo h v s) (k : KL lo h h') : DFr lo h' v s := by
  rcases a with a | ⟨b, ty, cs, h1, h2, h3, h4⟩
  · exact .inl a
  · exact .inr ⟨b, ty, cs, h1, h2, k _ _ _ _ _ _ h1 h3, h4⟩
theorem DFr.lo {lo lo' : Nat} {h : H} {v : V} {s : List UInt8} (a : DFr lo h v s) (k : lo' ≤ lo) : DFr lo' h v s := by
  rcases a with a | ⟨b, ty, cs, h1, h2, h3, h4⟩
  · exact .inl a
  · exact .inr ⟨b, ty, cs, Nat.le_trans k h1, h2, h3, h4⟩
theorem flat_get {sz : Nat} : ∀ (l : List (List V)) (k : Nat) (x : List V), (∀ y ∈ l, y.length = sz) → l[k]? = some x → (l.flatten.drop (k * sz)).take sz = x
  | [], k, x, _, hk => by simp at hk
  | y :: l, k, x, hl, hk => by
    have hy := hl y List.mem_cons_self
    cases k with
    | zero =>
      simp only [List.getElem?_cons_zero, Option.some.injEq] at hk
      subst hk
      rw [Nat.zero_mul, List.drop_zero, List.flatten_cons, ← hy, List.take_left']
      rfl
    | succ k =>
      simp only [List.getElem?_cons_succ] at hk
      have := flat_get l k x (fun z hz => hl z (List.mem_cons_of_mem _ hz)) hk
      rw [List.flatten_cons, show (k + 1) * sz = y.length + k * sz by rw [Nat.add_mul, hy]; omega, ← List.drop_drop, List.drop_left']
      · exact this
      · rfl
theorem flat_len {sz : Nat} : ∀ (l : List (List V)), (∀ y ∈ l, y.length = sz) → l.flatten.length = l.length * sz
  | [], _ => by simp
  | y :: l, h => by
    rw [List.flatten_cons, List.length_append, flat_len l fun z hz => h z (List.mem_cons_of_mem _ hz), h y List.mem_cons_self, List.length_cons, Nat.add_mul]; omega
theorem SlF.sl {lo : Nat} {h : H} {v : V} {sz : Nat} {xs : List (List V)} (a : SlF lo h v sz xs) (hx : ∀ x ∈ xs, x.length = sz) : Sl h sz v xs := by
  rcases a with ⟨a, c, o, rfl, rfl⟩ | ⟨b, ty, h1, rfl, h3⟩
  · exact .nil _ _ _
  · refine .at b 0 _ _ xs _ _ _ _ _ h3 (by rw [flat_len xs hx]; omega) fun k x hk => ?_
    unfold getR
    rw [Nat.zero_add]
    exact flat_get xs k x hx hk
theorem DFr.str {lo : Nat} {h : H} {v : V} {s : List UInt8} (a : DFr lo h v s) : Str h v s := by
  rcases a with ⟨a, c, o, rfl, rfl⟩ | ⟨b, ty, cs, h1, rfl, h3, h4⟩
  · cases a with
    | none => exact .inl ⟨_, _, rfl, rfl⟩
    | some p =>
      obtain ⟨i, q⟩ := p
      exact .inr ⟨(i, q), 0, c, o, [], rfl, by simp [elemsV], rfl⟩
  · refine .inr ⟨(b, 0), cs.length, cs.length, true, cs, rfl, ?_, h4⟩
    simp only [elemsV, h3, Nat.mul_one, Nat.zero_add, Nat.le_refl, if_true]
    by_cases h0 : cs.length = 0
    · rw [if_pos h0, List.eq_nil_of_length_eq_zero h0]
    · rw [if_neg h0, getR_all rfl]
structure EFr (lo : Nat) (h : H) (x : Entry) (d : DEnt) : Prop where
  flat : flatOf x = d.flat
  ops : SlF lo h x.ops 8 (d.ops.map Opr.cells)
  len : d.ops.length ≤ 1048576
  dat : DFr lo h x.part.data d.data
  dlen : d.data.length ≤ 1048576
theorem opr_len {xs : List Opr} : ∀ x ∈ xs.map Opr.cells, x.length = 8 := by
  intro x hx
  obtain ⟨y, _, rfl⟩ := List.mem_map.1 hx
  rfl
theorem EFr.ein {lo : Nat} {h : H} {x : Entry} {d : DEnt} (a : EFr lo h x d) : EIn h x d := ⟨a.flat, a.ops.sl opr_len, a.len, a.dat.str, a.dlen⟩
theorem EFr.mv {lo : Nat} {h h' : H} {x : Entry} {d : DEnt} (a : EFr lo h x d) (k : KL lo h h') : EFr lo h' x d := ⟨a.flat, a.ops.mv k, a.len, a.dat.mv k, a.dlen⟩
theorem EFr.cut {lo b : Nat} {h : H} {x : Entry} {d : DEnt} (a : EFr lo h x d) (hb : b < lo) : EIn (cutB h b) x d := (a.mv (KL.cut hb)).ein
theorem app_mk {h : H} {ty sz bytes n : Nat} {base : Option (Nat × Nat)} {x : V} {ys : List V} (hl : lenV x = some n) (he : elemsV h sz n x = some ys) (hb : n ≤ 1099511627776 ∧ (2 * n + 1024) * bytes ≤ 281474976710656) :
    ∃ v' h', appV h ty sz bytes (.slice base 0 0 false) x = some (.eff v' h') ∧ Kp h h' ∧ ((n = 0 ∧ ∃ a, v' = .slice a 0 0 false) ∨ (0 < n ∧ v' = .slice (some (h.size, 0)) n n true ∧ h'.get h.size = some (.cells ys ty true false none))) := by
  by_cases hn : n = 0
  · subst hn
    have : ys = [] := by
      cases x with
      | slice a m c o =>
        cases a with
        | none => simp [elemsV] at he; exact he
        | some p => obtain ⟨i, q⟩ := p; simp [elemsV] at he; exact he
      | str s => simp [elemsV] at he; exact he.2
      | _ => simp [elemsV] at he
    subst this
    refine ⟨.slice base 0 0 false, h, ?_, Keeps.refl _ _, .inl ⟨rfl, _, rfl⟩⟩
    unfold appV
    cases base with
    | none => simp [hl, he]
    | some p => obtain ⟨i, q⟩ := p; simp [hl, he, putCells]
  · refine ⟨.slice (some (h.size, 0)) n n true, h.psh (.cells ys ty true false none), ?_, Keeps.psh (Nat.le_refl _) _, .inr ⟨by omega, rfl, psh_same _ _⟩⟩
    have h1 : ¬ n ≤ 0 := by omega
    unfold appV
    simp only [hl, he, Nat.zero_add, h1, if_false, hb, and_self, if_true, push_eq]
    cases base with
    | none => simp [elemsV]
    | some p => obtain ⟨i, q⟩ := p; simp [elemsV]
theorem elems_len {h : H} {sz n : Nat} {v : V} {ys : List V} {a : Option (Nat × Nat)} {m c : Nat} {o : Bool} (hv : v = .slice a m c o) (he : elemsV h sz n v = some ys) : ys.length = n * sz := by
  subst hv
  cases a with
  | none =>
    simp only [elemsV] at he
    split at he
    · rename_i h0; cases he; rw [h0]; rfl
    · cases he
  | some p =>
    obtain ⟨i, q⟩ := p
    simp only [elemsV] at he
    split at he
    · rename_i h0; cases he; rw [h0]; rfl
    · split at he
      · split at he
        · rename_i hle
          cases he
          unfold getR
          rw [List.length_take, List.length_drop]; omega
        · cases he
      · cases he
theorem bytesV_len : ∀ {cs : List V} {s : List UInt8}, bytesV cs = some s → cs.length = s.length
  | [], s, h => by simp [bytesV] at h; subst h; rfl
  | c :: cs, s, h => by
    unfold bytesV at h
    split at h
    · rename_i e; cases e
    · rename_i n r e
      cases e
      split at h
      · rename_i bs e2
        cases h
        simp [bytesV_len e2]
      · cases h
    · cases h
end Go.AM.Sc
/-! Clones of entries, continued. -/
namespace Go.AM.Sc
open Go.AM
variable {P : Program} {E : Env}
theorem sl_nn (h : H) (n c : Nat) (o : Bool) : eqV h .sl (.slice none n c o) (.slice none 0 0 false) = some true := by simp [eqV]
theorem sl_sn (h : H) (p : Nat × Nat) (n c : Nat) (o : Bool) : eqV h .sl (.slice (some p) n c o) (.slice none 0 0 false) = some false := by simp [eqV]
theorem clone56 (F : Fa E) {v : V} {xs : List Opr} {h : H} (hx : Sl h 8 v (xs.map Opr.cells)) (hl : xs.length ≤ 1048576) :
    Sp P E (.func 56 [] []) [v] h fun r h' => SlF h.size h' r 8 (xs.map Opr.cells) ∧ Kp h h' := by
  obtain ⟨a, c, o, e1⟩ := hx.len
  rw [List.length_map] at e1
  refine Sp_fn F.f56 F.p56 (by simp [fn56]) ?_
  cases a with
  | none =>
    have : xs = [] := by
      subst e1
      generalize hq : xs.map Opr.cells = ys at hx
      generalize hv : V.slice none xs.length c o = v at hx
      cases hx with
      | nil a cap opn => exact List.map_eq_nil_iff.1 hq
      | «at» b o cap opn xs vs ty op ro fz hg hl he => cases hv
    subst this
    simp (maxSteps := 2000000) only [GO,GO2,evK,fillV,setR,binV,intOp,strOp,shOp,unV,getR,lenV,partV,V.nj,V.njL,V.cells,Nat.reduceLT,Nat.reduceEqDiff,Nat.reduceAdd,↓reduceIte,Nat.reduceLeDiff,reduceCtorEq,fn56,c56,r56_0,e1,sl_nn]
    exact ⟨.inl ⟨_, _, _, rfl, rfl⟩, Keeps.refl _ _⟩
  | some p =>
    have hk : Kp h (h.psh (.cells [] 38 false false none)) := Keeps.psh (Nat.le_refl _) _
    have he := (Sl.elems hx opr_len)
    rw [List.length_map, e1] at he
    obtain ⟨v', h', e2, k2, e3⟩ := app_mk (h := h.psh (.cells [] 38 false false none)) (ty := 38) (sz := 8) (bytes := 88) (n := xs.length) (base := some (h.size, 0)) (x := .slice (some p) xs.length c o) rfl (elemsV_keep hk he) (by omega)
    simp (maxSteps := 2000000) only [GO,GO2,evK,fillV,setR,binV,intOp,strOp,shOp,unV,getR,lenV,partV,V.nj,V.njL,V.cells,Nat.reduceLT,Nat.reduceEqDiff,Nat.reduceAdd,↓reduceIte,Nat.reduceLeDiff,reduceCtorEq,fn56,c56,r56_0,e1,sl_sn,r56_1,e2]
    refine ⟨?_, hk.trans k2⟩
    rcases e3 with ⟨hn, a, rfl⟩ | ⟨hn, rfl, e4⟩
    · exact .inl ⟨_, _, _, rfl, by rw [List.eq_nil_of_length_eq_zero hn]; rfl⟩
    · exact .inr ⟨_, 38, by rw [psh_size]; omega, by rw [List.length_map], e4⟩
theorem clone57 (F : Fa E) {v : V} {s : List UInt8} {h : H} (hx : Str h v s) (hl : s.length ≤ 1048576) :
    Sp P E (.func 57 [] []) [v] h fun r h' => DFr h.size h' r s ∧ Kp h h' := by
  refine Sp_fn F.f57 F.p57 (by simp [fn57]) ?_
  rcases hx with ⟨c, o, rfl, rfl⟩ | ⟨p, n, c, o, cs, rfl, he, hb⟩
  · simp (maxSteps := 2000000) only [GO,GO2,evK,fillV,setR,binV,intOp,strOp,shOp,unV,getR,lenV,partV,V.nj,V.njL,V.cells,Nat.reduceLT,Nat.reduceEqDiff,Nat.reduceAdd,↓reduceIte,Nat.reduceLeDiff,reduceCtorEq,fn57,c57,r57_0,sl_nn]
    exact ⟨.inl ⟨_, _, _, rfl, rfl⟩, Keeps.refl _ _⟩
  · have hk : Kp h (h.psh (.cells [] 5 false false none)) := Keeps.psh (Nat.le_refl _) _
    have h1 := elems_len rfl he
    have h2 := bytesV_len hb
    obtain ⟨v', h', e2, k2, e3⟩ := app_mk (h := h.psh (.cells [] 5 false false none)) (ty := 5) (sz := 1) (bytes := 1) (n := n) (base := some (h.size, 0)) (x := .slice (some p) n c o) rfl (elemsV_keep hk he) (by omega)
    simp (maxSteps := 2000000) only [GO,GO2,evK,fillV,setR,binV,intOp,strOp,shOp,unV,getR,lenV,partV,V.nj,V.njL,V.cells,Nat.reduceLT,Nat.reduceEqDiff,Nat.reduceAdd,↓reduceIte,Nat.reduceLeDiff,reduceCtorEq,fn57,c57,r57_0,sl_sn,r57_1,e2]
    refine ⟨?_, hk.trans k2⟩
    rcases e3 with ⟨hn, a, rfl⟩ | ⟨hn, rfl, e4⟩
    · exact .inl ⟨_, _, _, rfl, List.eq_nil_of_length_eq_zero (by omega)⟩
    · have : n = cs.length := by omega
      subst this
      exact .inr ⟨_, 5, cs, by rw [psh_size]; omega, rfl, e4, hb⟩
def withOps (x : Entry) (v : V) : Entry := { x with ops := v }
def withData (x : Entry) (v : V) : Entry := { x with part := { x.part with data := v } }
theorem setOps (x : Entry) (v : V) : setR x.cells 13 [v] = (withOps x v).cells := rfl
theorem setData (x : Entry) (v : V) : setR x.cells 52 [v] = (withData x v).cells := rfl
theorem put_eq {h : H} {b o : Nat} {vs ws : List V} {ty : Nat} {op : Bool} (hg : h.get b = some (.cells vs ty op false none)) (hw : o + ws.length ≤ vs.length) (h1 : ws.all V.one = true) (hne : ws.isEmpty = false) :
    putCells h b o ws = some (h.set b (.cells (setR vs o ws) ty op false none)) := by
  unfold putCells
  simp only [hne, Bool.false_eq_true, if_false, hg, hw, h1, fzFree, and_self, if_true]
theorem SlF.shape {lo : Nat} {h : H} {v : V} {sz : Nat} {xs : List (List V)} (a : SlF lo h v sz xs) : ∃ p n c o, v = .slice p n c o := by
  rcases a with ⟨a, c, o, rfl, _⟩ | ⟨b, ty, _, rfl, _⟩ <;> exact ⟨_, _, _, _, rfl⟩
theorem DFr.shape {lo : Nat} {h : H} {v : V} {s : List UInt8} (a : DFr lo h v s) : ∃ p n c o, v = .slice p n c o := by
  rcases a with ⟨a, c, o, rfl, _⟩ | ⟨b, ty, cs, _, rfl, _⟩ <;> exact ⟨_, _, _, _, rfl⟩
theorem fin_clone {x : Entry} {d : DEnt} {h h5 : H} {v1 v2 : V} {lo : Nat} (hx : EIn h x d) (h1 : SlF lo h5 v1 8 (d.ops.map Opr.cells)) (h2 : DFr lo h5 v2 d.data) : EFr lo h5 (withData (withOps x v1) v2) d :=
  ⟨hx.flat,h1,hx.len,h2,hx.dlen⟩
theorem EFr.lo {lo lo' : Nat} {h : H} {x : Entry} {d : DEnt} (a : EFr lo h x d) (k : lo' ≤ lo) : EFr lo' h x d := ⟨a.flat, a.ops.lo k, a.len, a.dat.lo k, a.dlen⟩
set_option maxHeartbeats 2000000 in
theorem clone32 (F : Fa E) {x : Entry} {d : DEnt} {h : H} (hx : EIn h x d) : Sp P E (.func 32 [] []) [.agg x.cells] h fun r h' => (∃ x', r = .agg x'.cells ∧ EFr h.size h' x' d) ∧ Kp h h' := by
  have hk0 : Kp h (h.psh (.cells x.cells 49 false false none)) := Keeps.psh (Nat.le_refl _) _
  have gx0 := psh_same h (.cells x.cells 49 false false none)
  have hs1 : (h.psh (.cells x.cells 49 false false none)).size = h.size + 1 := psh_size _ _
  generalize hh1 : h.psh (.cells x.cells 49 false false none) = h1 at *
  have hk1 : Kp h1 (h1.psh (.cells Entry.zero.cells 49 false false none)) := Keeps.psh (Nat.le_refl _) _
  have gx := Kp.of hk1 gx0
  have ge := psh_same h1 (.cells Entry.zero.cells 49 false false none)
  have hs2 : (h1.psh (.cells Entry.zero.cells 49 false false none)).size = h.size + 2 := by rw [psh_size, hs1]
  generalize hh2 : h1.psh (.cells Entry.zero.cells 49 false false none) = h2 at *
  have hh2' := hh2
  simp only [Entry.zero, Entry.cells, Opr.cells, Epoch.cells, Vec.cells, Part.cells] at hh2'
  have fl : ∀ z : Entry, z.cells.length = 56 := fun _ => rfl
  have p0 : ∀ z : Entry, List.take 56 z.cells = z.cells := fun _ => rfl
  have k02 := hk0.trans hk1
  refine Sp_fn F.f32 F.p32 (by simp [fn32]) ?_
  simp (maxSteps := 2000000) only [GO,GO2,evK,fillV,setR,binV,intOp,strOp,shOp,unV,getR,lenV,partV,V.nj,V.njL,V.cells,Nat.reduceLT,Nat.reduceEqDiff,Nat.reduceAdd,↓reduceIte,Nat.reduceLeDiff,reduceCtorEq,fn32,c32,r32_0,hh1,hh2',r32_1,gx,Entry.len,Entry.g13]
  refine XC_of (clone56 F (hx.ops.keep k02) hx.len) ?_
  rintro v1 h3 ⟨s1, k3⟩
  have gx3 := Kp.of k3 gx
  have ge3 := Kp.of k3 ge
  obtain ⟨p1, n1, c1, o1, rfl⟩ := s1.shape
  have e4 := put_eq (o := 13) (ws := [.slice p1 n1 c1 o1]) gx3 (by rw [fl, List.length_singleton]; decide) rfl rfl
  have hlt3 : h.size < h3.size := H.get_lt gx3
  have g4 := hset_same hlt3 (.cells (setR x.cells 13 [.slice p1 n1 c1 o1]) 49 false false none)
  rw [setOps] at g4 e4
  have k34 : Keeps h.size h3 (h3.set h.size (.cells (withOps x (.slice p1 n1 c1 o1)).cells 49 false false none)) := Keeps.set hlt3 (Nat.le_refl _) _
  have kl34 : KL h2.size h3 (h3.set h.size (.cells (withOps x (.slice p1 n1 c1 o1)).cells 49 false false none)) := KL.set (by omega) hlt3 _
  have ge4 : (h3.set h.size (.cells (withOps x (.slice p1 n1 c1 o1)).cells 49 false false none)).get h1.size = some (.cells Entry.zero.cells 49 false false none) := by
    rw [hset_other hlt3 (by omega)]; exact ge3
  generalize hh4 : h3.set h.size (.cells (withOps x (.slice p1 n1 c1 o1)).cells 49 false false none) = h4 at *
  have k04 : Kp h h4 := Keeps.trans (k02.trans k3) k34
  have w52 := Entry.g52 (withOps x (.slice p1 n1 c1 o1))
  simp (maxSteps := 2000000) only [GO,GO2,evK,fillV,setR,binV,intOp,strOp,shOp,unV,getR,lenV,partV,V.nj,V.njL,V.cells,Nat.reduceLT,Nat.reduceEqDiff,Nat.reduceAdd,↓reduceIte,Nat.reduceLeDiff,reduceCtorEq,e4,r32_2,g4,Entry.len,w52]
  refine XC_of (clone57 F (hx.dat.keep k04) hx.dlen) ?_
  rintro v2 h5 ⟨s2, k5⟩
  have gx5 := Kp.of k5 g4
  have ge5 := Kp.of k5 ge4
  obtain ⟨p2, n2, c2, o2, rfl⟩ := s2.shape
  have e6 := put_eq (o := 52) (ws := [.slice p2 n2 c2 o2]) gx5 (by rw [fl, List.length_singleton]; decide) rfl rfl
  have hlt5 : h.size < h5.size := H.get_lt gx5
  have g6 := hset_same hlt5 (.cells (setR (withOps x (.slice p1 n1 c1 o1)).cells 52 [.slice p2 n2 c2 o2]) 49 false false none)
  rw [setData] at g6 e6
  have k56 : Keeps h.size h5 (h5.set h.size (.cells (withData (withOps x (.slice p1 n1 c1 o1)) (.slice p2 n2 c2 o2)).cells 49 false false none)) := Keeps.set hlt5 (Nat.le_refl _) _
  have kl56 : KL h2.size h5 (h5.set h.size (.cells (withData (withOps x (.slice p1 n1 c1 o1)) (.slice p2 n2 c2 o2)).cells 49 false false none)) := KL.set (by omega) hlt5 _
  have ge6 : (h5.set h.size (.cells (withData (withOps x (.slice p1 n1 c1 o1)) (.slice p2 n2 c2 o2)).cells 49 false false none)).get h1.size = some (.cells Entry.zero.cells 49 false false none) := by
    rw [hset_other hlt5 (by omega)]; exact ge5
  generalize hh6 : h5.set h.size (.cells (withData (withOps x (.slice p1 n1 c1 o1)) (.slice p2 n2 c2 o2)).cells 49 false false none) = h6 at *
  have fin := (fin_clone (lo := h2.size) hx ((s1.mv kl34).mv (KL.kp k5 _)) (s2.lo (by rw [← hh4, H.set_size]; exact k3.size))).mv kl56
  have hone : (withData (withOps x (.slice p1 n1 c1 o1)) (.slice p2 n2 c2 o2)).cells.all V.one = true := fin.ein.one
  have flx := fl (withData (withOps x (.slice p1 n1 c1 o1)) (.slice p2 n2 c2 o2))
  have p0x := p0 (withData (withOps x (.slice p1 n1 c1 o1)) (.slice p2 n2 c2 o2))
  generalize withData (withOps x (.slice p1 n1 c1 o1)) (.slice p2 n2 c2 o2) = x2 at *
  have e7 := put_eq (o := 0) (ws := x2.cells) ge6 (by rw [fl, fl]; decide) hone rfl
  have hlt6 : h1.size < h6.size := H.get_lt ge6
  have k67 : Keeps h.size h6 (h6.set h1.size (.cells x2.cells 49 false false none)) := Keeps.set hlt6 (by omega) _
  have kl67 : KL h2.size h6 (h6.set h1.size (.cells x2.cells 49 false false none)) := KL.set (by omega) hlt6 _
  have g7 := hset_same hlt6 (.cells x2.cells 49 false false none)
  have e8 : putCells h6 h1.size 0 x2.cells = some (h6.set h1.size (.cells x2.cells 49 false false none)) := e7
  have fin7 := (fin.mv kl67).lo (show h.size ≤ h2.size by omega)
  generalize hh7 : h6.set h1.size (.cells x2.cells 49 false false none) = h7 at *
  have k07 : Kp h h7 := Keeps.trans (n := h.size) (Keeps.trans (n := h.size) (Keeps.trans (n := h.size) k04 (k5.mono k04.size)) k56) k67
  generalize hxc : x2.cells = xc at *
  simp (maxSteps := 2000000) only [GO,GO2,evK,fillV,setR,binV,intOp,strOp,shOp,unV,getR,lenV,partV,V.nj,V.njL,V.cells,Nat.reduceLT,Nat.reduceEqDiff,Nat.reduceAdd,↓reduceIte,Nat.reduceLeDiff,reduceCtorEq,e6,r32_3,g6,flx,p0x,e8]
  rw [resVs_c (L := 14) (i := h1.size) (o := 0) (by decide) _ (by rfl)]
  simp (maxSteps := 2000000) only [GO,GO2,evK,fillV,setR,binV,intOp,strOp,shOp,unV,getR,lenV,partV,V.nj,V.njL,V.cells,Nat.reduceLT,Nat.reduceEqDiff,Nat.reduceAdd,↓reduceIte,Nat.reduceLeDiff,reduceCtorEq,g7,flx,p0x]
  exact ⟨⟨x2, by rw [hxc], fin7⟩, k07⟩
set_option maxHeartbeats 2000000 in
theorem clone29 (F : Fa E) {x : Entry} {d : DEnt} {h : H} (hx : EIn h x d) : Sp P E (.func 29 [] []) [.agg x.cells] h fun r h' => (∃ x', r = .agg x'.cells ∧ EFr h.size h' x' d) ∧ Kp h h' := by
  have hk0 : Kp h (h.psh (.cells x.cells 49 false false none)) := Keeps.psh (Nat.le_refl _) _
  have gx0 := psh_same h (.cells x.cells 49 false false none)
  have hs1 : (h.psh (.cells x.cells 49 false false none)).size = h.size + 1 := psh_size _ _
  generalize hh1 : h.psh (.cells x.cells 49 false false none) = h1 at *
  have hk1 : Kp h1 (h1.psh (.cells Entry.zero.cells 49 false false none)) := Keeps.psh (Nat.le_refl _) _
  have gx := Kp.of hk1 gx0
  have ge := psh_same h1 (.cells Entry.zero.cells 49 false false none)
  have hs2 : (h1.psh (.cells Entry.zero.cells 49 false false none)).size = h.size + 2 := by rw [psh_size, hs1]
  generalize hh2 : h1.psh (.cells Entry.zero.cells 49 false false none) = h2 at *
  have hh2' := hh2
  simp only [Entry.zero, Entry.cells, Opr.cells, Epoch.cells, Vec.cells, Part.cells] at hh2'
  have fl : ∀ z : Entry, z.cells.length = 56 := fun _ => rfl
  have p0 : ∀ z : Entry, List.take 56 z.cells = z.cells := fun _ => rfl
  have k02 := hk0.trans hk1
  refine Sp_fn F.f29 F.p29 (by simp [fn29]) ?_
  have hop := Sl.elems (hx.ops.keep k02) opr_len
  obtain ⟨pp, cc, oo, eo⟩ := (hx.ops.keep k02).len
  rw [List.length_map] at eo hop
  have hol := hx.len
  obtain ⟨v1, h3, a3, k3, s1'⟩ := app_mk (h := h2) (ty := 38) (sz := 8) (bytes := 88) (n := d.ops.length) (base := none) (x := x.ops) (by rw [eo]; rfl) hop (by omega)
  have s1 : SlF h2.size h3 v1 8 (d.ops.map Opr.cells) := by
    rcases s1' with ⟨hn, a, rfl⟩ | ⟨hn, rfl, e4⟩
    · exact .inl ⟨_, _, _, rfl, by rw [List.eq_nil_of_length_eq_zero hn]; rfl⟩
    · exact .inr ⟨_, 38, Nat.le_refl _, by rw [List.length_map], e4⟩
  have gx3 := Kp.of k3 gx
  have ge3 := Kp.of k3 ge
  obtain ⟨p1, n1, c1, o1, rfl⟩ := s1.shape
  have e4 := put_eq (o := 13) (ws := [.slice p1 n1 c1 o1]) gx3 (by rw [fl, List.length_singleton]; decide) rfl rfl
  have hlt3 : h.size < h3.size := H.get_lt gx3
  have g4 := hset_same hlt3 (.cells (setR x.cells 13 [.slice p1 n1 c1 o1]) 49 false false none)
  rw [setOps] at g4 e4
  have k34 : Keeps h.size h3 (h3.set h.size (.cells (withOps x (.slice p1 n1 c1 o1)).cells 49 false false none)) := Keeps.set hlt3 (Nat.le_refl _) _
  have kl34 : KL h2.size h3 (h3.set h.size (.cells (withOps x (.slice p1 n1 c1 o1)).cells 49 false false none)) := KL.set (by omega) hlt3 _
  have ge4 : (h3.set h.size (.cells (withOps x (.slice p1 n1 c1 o1)).cells 49 false false none)).get h1.size = some (.cells Entry.zero.cells 49 false false none) := by
    rw [hset_other hlt3 (by omega)]; exact ge3
  generalize hh4 : h3.set h.size (.cells (withOps x (.slice p1 n1 c1 o1)).cells 49 false false none) = h4 at *
  have k04 : Kp h h4 := Keeps.trans (k02.trans k3) k34
  have w52 : (withOps x (.slice p1 n1 c1 o1)).cells[52]? = some x.part.data := rfl
  have hdl := hx.dlen
  have hdd := hx.dat.keep k04
  obtain ⟨v2, h5, a5, k5, s2⟩ : ∃ v2 h5, appV h4 5 1 1 (.slice none 0 0 false) x.part.data = some (.eff v2 h5) ∧ Kp h4 h5 ∧ DFr h4.size h5 v2 d.data := by
    rcases hdd with ⟨c, o, e, e'⟩ | ⟨p, n, c, o, cs, e, he, hb⟩
    · rw [e, e']
      exact ⟨.slice none 0 0 false, h4, by simp [appV, lenV, elemsV], Keeps.refl _ _, .inl ⟨_, _, _, rfl, rfl⟩⟩
    · rw [← e] at he
      have h1 := elems_len e he
      have h2 := bytesV_len hb
      obtain ⟨v2, h5, a5, k5, s2'⟩ := app_mk (h := h4) (ty := 5) (sz := 1) (bytes := 1) (n := n) (base := none) (x := x.part.data) (by rw [e]; rfl) he (by omega)
      refine ⟨v2, h5, a5, k5, ?_⟩
      rcases s2' with ⟨hn, a, rfl⟩ | ⟨hn, rfl, e4⟩
      · exact .inl ⟨_, _, _, rfl, List.eq_nil_of_length_eq_zero (by omega)⟩
      · have : n = cs.length := by omega
        subst this
        exact .inr ⟨_, 5, cs, Nat.le_refl _, rfl, e4, hb⟩
  have gx5 := Kp.of k5 g4
  have ge5 := Kp.of k5 ge4
  obtain ⟨p2, n2, c2, o2, rfl⟩ := s2.shape
  have w13 := Entry.g13 x
  simp (maxSteps := 2000000) only [GO,GO2,evK,fillV,setR,binV,intOp,strOp,shOp,unV,getR,lenV,partV,V.nj,V.njL,V.cells,Nat.reduceLT,Nat.reduceEqDiff,Nat.reduceAdd,↓reduceIte,Nat.reduceLeDiff,reduceCtorEq,fn29,c29,r29_0,hh1,hh2',r29_1,gx,Entry.len,w13,a3,e4,r29_2,g4,w52,a5]
  have e6 := put_eq (o := 52) (ws := [.slice p2 n2 c2 o2]) gx5 (by rw [fl, List.length_singleton]; decide) rfl rfl
  have hlt5 : h.size < h5.size := H.get_lt gx5
  have g6 := hset_same hlt5 (.cells (setR (withOps x (.slice p1 n1 c1 o1)).cells 52 [.slice p2 n2 c2 o2]) 49 false false none)
  rw [setData] at g6 e6
  have k56 : Keeps h.size h5 (h5.set h.size (.cells (withData (withOps x (.slice p1 n1 c1 o1)) (.slice p2 n2 c2 o2)).cells 49 false false none)) := Keeps.set hlt5 (Nat.le_refl _) _
  have kl56 : KL h2.size h5 (h5.set h.size (.cells (withData (withOps x (.slice p1 n1 c1 o1)) (.slice p2 n2 c2 o2)).cells 49 false false none)) := KL.set (by omega) hlt5 _
  have ge6 : (h5.set h.size (.cells (withData (withOps x (.slice p1 n1 c1 o1)) (.slice p2 n2 c2 o2)).cells 49 false false none)).get h1.size = some (.cells Entry.zero.cells 49 false false none) := by
    rw [hset_other hlt5 (by omega)]; exact ge5
  generalize hh6 : h5.set h.size (.cells (withData (withOps x (.slice p1 n1 c1 o1)) (.slice p2 n2 c2 o2)).cells 49 false false none) = h6 at *
  have fin := (fin_clone (lo := h2.size) hx ((s1.mv kl34).mv (KL.kp k5 _)) (s2.lo (by rw [← hh4, H.set_size]; exact k3.size))).mv kl56
  have hone : (withData (withOps x (.slice p1 n1 c1 o1)) (.slice p2 n2 c2 o2)).cells.all V.one = true := fin.ein.one
  have flx := fl (withData (withOps x (.slice p1 n1 c1 o1)) (.slice p2 n2 c2 o2))
  have p0x := p0 (withData (withOps x (.slice p1 n1 c1 o1)) (.slice p2 n2 c2 o2))
  generalize withData (withOps x (.slice p1 n1 c1 o1)) (.slice p2 n2 c2 o2) = x2 at *
  have e7 := put_eq (o := 0) (ws := x2.cells) ge6 (by rw [fl, fl]; decide) hone rfl
  have hlt6 : h1.size < h6.size := H.get_lt ge6
  have k67 : Keeps h.size h6 (h6.set h1.size (.cells x2.cells 49 false false none)) := Keeps.set hlt6 (by omega) _
  have kl67 : KL h2.size h6 (h6.set h1.size (.cells x2.cells 49 false false none)) := KL.set (by omega) hlt6 _
  have g7 := hset_same hlt6 (.cells x2.cells 49 false false none)
  have e8 : putCells h6 h1.size 0 x2.cells = some (h6.set h1.size (.cells x2.cells 49 false false none)) := e7
  have fin7 := (fin.mv kl67).lo (show h.size ≤ h2.size by omega)
  generalize hh7 : h6.set h1.size (.cells x2.cells 49 false false none) = h7 at *
  have k07 : Kp h h7 := Keeps.trans (n := h.size) (Keeps.trans (n := h.size) (Keeps.trans (n := h.size) k04 (k5.mono k04.size)) k56) k67
  generalize hxc : x2.cells = xc at *
  simp (maxSteps := 2000000) only [GO,GO2,evK,fillV,setR,binV,intOp,strOp,shOp,unV,getR,lenV,partV,V.nj,V.njL,V.cells,Nat.reduceLT,Nat.reduceEqDiff,Nat.reduceAdd,↓reduceIte,Nat.reduceLeDiff,reduceCtorEq,e6,r29_3,g6,flx,p0x,e8]
  rw [resVs_c (L := 14) (i := h1.size) (o := 0) (by decide) _ (by rfl)]
  simp (maxSteps := 2000000) only [GO,GO2,evK,fillV,setR,binV,intOp,strOp,shOp,unV,getR,lenV,partV,V.nj,V.njL,V.cells,Nat.reduceLT,Nat.reduceEqDiff,Nat.reduceAdd,↓reduceIte,Nat.reduceLeDiff,reduceCtorEq,g7,flx,p0x]
  exact ⟨⟨x2, by rw [hxc], fin7⟩, k07⟩
end Go.AM.Sc
