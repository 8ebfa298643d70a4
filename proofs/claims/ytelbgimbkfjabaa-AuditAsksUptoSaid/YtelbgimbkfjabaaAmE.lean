/- My own texts of the evaluator, its soundness and its symbolic runs, laid for this claim. -/
import Derived.Test.YtelbgimbkfjabaaAmD
import Derived.Laws.Sem
import Derived.Laws.World
set_option linter.unusedSimpArgs false
set_option linter.unusedVariables false
/-! Soundness, I: abstract values and heaps against the machine's. -/
namespace Go.AM

abbrev Mp := Nat → Option (Nat × Nat × Nat)

mutual
def VR (m : Mp) : V → Value → Prop
  | .bool b, x => x = .bool b
  | .int k n, x => x = .int k n
  | .str s, x => x = .string ⟨s.toArray⟩
  | .ptr none, x => x = .pointer none
  | .ptr (some (i, o)), x => ∃ r sh e, m i = some (r, sh, e) ∧ x = .pointer (some ⟨r, sh + o, none⟩)
  | .slice none len cap _, x => x = .slice none len cap
  | .slice (some (i, o)) len cap opn, x => ∃ r sh e addr, m i = some (r, sh, e) ∧ x = .slice (some addr) len (cap + if opn then e else 0) ∧
      (addr = ⟨r, sh + o, none⟩ ∨ (len = 0 ∧ cap + (if opn then e else 0) = 0 ∧ (opn = true → addr.block = r)))
  | .map none, x => x = .map none
  | .map (some i), x => ∃ r sh e, m i = some (r, sh, e) ∧ x = .map (some r)
  | .func f fs cs, x => ∃ xs ys, VRL m fs xs ∧ VRL m cs ys ∧ x = .func (.func f) xs.toArray ys.toArray
  | .yield l, x => ∃ r sh e, m l = some (r, sh, e) ∧ x = .func (.yield r) #[] #[]
  | .nilFunc, x => x = .nilFunc
  | .iface t v, x => ∃ y, VR m v y ∧ x = .iface t y
  | .nilIface, x => x = .nilIface
  | .agg cs, x => ∃ ys, VRL m cs ys ∧ x = .agg ys.toArray
  | .tup cs, x => ∃ ys, VRL m cs ys ∧ x = .tuple ys.toArray
  | .junk, x => x.oneCell' = true ∧ (∀ b, x ≠ .bool b) ∧ x ≠ .nilIface
def VRL (m : Mp) : List V → List Value → Prop
  | [], ys => ys = []
  | v :: vs, ys => ∃ y ys', VR m v y ∧ VRL m vs ys' ∧ ys = y :: ys'
end

def Sub (m m' : Mp) : Prop := ∀ i x, m i = some x → m' i = some x
theorem Sub.refl (m : Mp) : Sub m m := fun _ _ h => h
theorem Sub.trans {a b c : Mp} (h : Sub a b) (h' : Sub b c) : Sub a c := fun i x hx => h' i x (h i x hx)

mutual
theorem VR.mono {m m' : Mp} (hs : Sub m m') : ∀ (v : V) (x : Value), VR m v x → VR m' v x
  | .bool _, _, h => h
  | .int _ _, _, h => h
  | .str _, _, h => h
  | .ptr none, _, h => h
  | .ptr (some (i, o)), x, h => by obtain ⟨r, sh, e, h1, h2⟩ := h; exact ⟨r, sh, e, hs _ _ h1, h2⟩
  | .slice none _ _ _, _, h => h
  | .slice (some (i, o)) len cap opn, x, h => by obtain ⟨r, sh, e, ad, h1, h2⟩ := h; exact ⟨r, sh, e, ad, hs _ _ h1, h2⟩
  | .map none, _, h => h
  | .map (some i), x, h => by obtain ⟨r, sh, e, h1, h2⟩ := h; exact ⟨r, sh, e, hs _ _ h1, h2⟩
  | .func f fs cs, x, h => by obtain ⟨xs, ys, h1, h2, h3⟩ := h; exact ⟨xs, ys, VRL.mono hs _ _ h1, VRL.mono hs _ _ h2, h3⟩
  | .yield l, x, h => by obtain ⟨r, sh, e, h1, h2⟩ := h; exact ⟨r, sh, e, hs _ _ h1, h2⟩
  | .nilFunc, _, h => h
  | .iface t v, x, h => by obtain ⟨y, h1, h2⟩ := h; exact ⟨y, VR.mono hs _ _ h1, h2⟩
  | .nilIface, _, h => h
  | .agg cs, x, h => by obtain ⟨ys, h1, h2⟩ := h; exact ⟨ys, VRL.mono hs _ _ h1, h2⟩
  | .tup cs, x, h => by obtain ⟨ys, h1, h2⟩ := h; exact ⟨ys, VRL.mono hs _ _ h1, h2⟩
  | .junk, _, h => h
theorem VRL.mono {m m' : Mp} (hs : Sub m m') : ∀ (v : List V) (x : List Value), VRL m v x → VRL m' v x
  | [], _, h => h
  | v :: vs, x, h => by obtain ⟨y, ys, h1, h2, h3⟩ := h; exact ⟨y, ys, VR.mono hs _ _ h1, VRL.mono hs _ _ h2, h3⟩
end

section lists
variable {m : Mp}
theorem VRL.nil : VRL m [] [] := rfl
theorem VRL.cons {v : V} {x : Value} {vs : List V} {xs : List Value} (h : VR m v x) (h' : VRL m vs xs) : VRL m (v :: vs) (x :: xs) := ⟨x, xs, h, h', rfl⟩
theorem VRL.one {v : V} {x : Value} (h : VR m v x) : VRL m [v] [x] := VRL.cons h VRL.nil
theorem VRL.inv_cons {v : V} {vs : List V} {ys : List Value} (h : VRL m (v :: vs) ys) : ∃ y ys', ys = y :: ys' ∧ VR m v y ∧ VRL m vs ys' := by
  obtain ⟨y, ys', h1, h2, h3⟩ := h; exact ⟨y, ys', h3, h1, h2⟩
theorem VRL.length : ∀ {vs : List V} {xs : List Value}, VRL m vs xs → xs.length = vs.length
  | [], _, h => by cases h; rfl
  | _ :: vs, _, h => by obtain ⟨y, ys, _, h2, rfl⟩ := h; simp [VRL.length h2]
theorem VRL.get : ∀ {vs : List V} {xs : List Value}, VRL m vs xs → ∀ {i : Nat} {v : V}, vs[i]? = some v → ∃ x, xs[i]? = some x ∧ VR m v x
  | [], _, _, i, v, hi => by simp at hi
  | u :: vs, _, h, i, v, hi => by
    obtain ⟨y, ys, h1, h2, rfl⟩ := h
    cases i with
    | zero => simp at hi; subst hi; exact ⟨y, rfl, h1⟩
    | succ i => simpa using VRL.get h2 (by simpa using hi)
theorem VRL.of_get : ∀ {vs : List V} {xs : List Value}, xs.length = vs.length → (∀ (i : Nat) (v : V), vs[i]? = some v → ∃ x, xs[i]? = some x ∧ VR m v x) → VRL m vs xs
  | [], xs, hl, _ => by cases xs with | nil => rfl | cons a b => simp at hl
  | v :: vs, [], hl, _ => by simp at hl
  | v :: vs, x :: xs, hl, h => by
    obtain ⟨y, hy, hv⟩ := h 0 v rfl
    simp at hy; subst hy
    exact VRL.cons hv (VRL.of_get (by simpa using hl) fun i u hu => by simpa using h (i + 1) u (by simpa using hu))
theorem VRL.append : ∀ {vs us : List V} {xs ys : List Value}, VRL m vs xs → VRL m us ys → VRL m (vs ++ us) (xs ++ ys)
  | [], _, _, _, h, h' => by cases h; exact h'
  | _ :: vs, _, _, _, h, h' => by obtain ⟨y, ys, h1, h2, rfl⟩ := h; exact VRL.cons h1 (VRL.append h2 h')
theorem VRL.take : ∀ {vs : List V} {xs : List Value}, VRL m vs xs → ∀ n, VRL m (vs.take n) (xs.take n)
  | [], _, h, n => by cases h; simp [VRL.nil]
  | v :: vs, _, h, n => by
    obtain ⟨y, ys, h1, h2, rfl⟩ := h
    cases n with
    | zero => exact VRL.nil
    | succ n => exact VRL.cons h1 (VRL.take h2 n)
theorem VRL.drop : ∀ {vs : List V} {xs : List Value}, VRL m vs xs → ∀ n, VRL m (vs.drop n) (xs.drop n)
  | [], _, h, n => by cases h; simp [VRL.nil]
  | v :: vs, _, h, n => by
    obtain ⟨y, ys, h1, h2, rfl⟩ := h
    cases n with
    | zero => exact VRL.cons h1 h2
    | succ n => exact VRL.drop h2 n
theorem VRL.set {vs : List V} {xs : List Value} (h : VRL m vs xs) {v : V} {x : Value} (hv : VR m v x) (d : Nat) : VRL m (vs.set d v) (xs.set d x) := by
  refine VRL.of_get (by simp [h.length]) fun i u hu => ?_
  rw [List.getElem?_set] at hu
  by_cases hd : d = i
  · subst hd
    rw [if_pos rfl] at hu
    split at hu
    · rename_i hlt
      cases hu
      exact ⟨x, by rw [List.getElem?_set, if_pos rfl, if_pos (by rw [h.length]; exact hlt)], hv⟩
    · cases hu
  · rw [if_neg hd] at hu
    obtain ⟨y, hy, hr⟩ := h.get hu
    exact ⟨y, by rw [List.getElem?_set, if_neg hd]; exact hy, hr⟩
theorem VRL.replicate {v : V} {x : Value} (h : VR m v x) : ∀ n, VRL m (List.replicate n v) (List.replicate n x)
  | 0 => VRL.nil
  | n + 1 => VRL.cons h (VRL.replicate h n)
theorem VRL.range {vs : List V} {xs : List Value} (h : VRL m vs xs) (o n : Nat) : VRL m (getR vs o n) ((xs.drop o).take n) := (h.drop o).take n
end lists

/-! ### objects -/
def TR (m : Mp) (T : List V) (tmps : Array Value) : Prop := VRL m T tmps.toList

def pendR : Option C → Option Code → Prop
  | none, none => True
  | some .ret, some .ret => True
  | some (.exit a), some (.exit b) => a = b
  | _, _ => False

def ER (m : Mp) : List (V × V × Nat) → List MapEntry → Prop
  | [], ys => ys = []
  | e :: es, ys => ∃ y ys', VR m e.1 y.key ∧ VR m e.2.1 y.val ∧ y.born = e.2.2 ∧ ER m es ys' ∧ ys = y :: ys'

def IterR (m : Mp) (mm : Option Nat) (r : Option Nat) : Prop :=
  match mm with
  | none => r = none
  | some i => ∃ b sh e, m i = some (b, sh, e) ∧ r = some b

def FzOK (fz : Option Nat) (sh n : Nat) (fzr : Nat × Nat) : Prop :=
  match fz with
  | none => fzr = (0, 0)
  | some f => fzr.1 ≤ fzr.2 ∧ ∀ j, fzr.1 ≤ j → j < fzr.2 → if f = 0 then n ≤ j else j < sh + f

def OR (P : Program) (m : Mp) (ob : Go.Obj) (sh e : Nat) : Obj → Prop
  | .cells vs ty opn ro fz => ∃ c fzr, ob = .cells c ty fzr ∧ VRL m vs ((c.toList.drop sh).take vs.length) ∧
      (if opn then sh + vs.length + e * P.cellsOf ty ≤ c.size else sh = 0 ∧ e = 0 ∧ c.size = vs.length) ∧
      (ro = false → FzOK fz sh c.size fzr)
  | .map es clock => ∃ es', ob = .map es' clock ∧ ER m es es'.toList
  | .mapIter mm since seen stepped => sh = 0 ∧ ∃ r, ob = .mapIter r since seen.toArray stepped ∧ IterR m mm r
  | .strIter s pos => sh = 0 ∧ ob = .stringIter ⟨s.toArray⟩ pos
  | .loop st pend T ps as b => ∃ L : Loop, ob = .loop L ∧ L.state = st ∧ pendR pend L.pending ∧ TR m T L.tmps ∧ L.params = ps.toArray ∧
      cC P L.assign = some as ∧ cC P L.body = some b
  | .dead => True

theorem ER.mono {m m' : Mp} (hs : Sub m m') : ∀ {es : List (V × V × Nat)} {ys : List MapEntry}, ER m es ys → ER m' es ys
  | [], _, h => h
  | _ :: _, _, h => by
    obtain ⟨y, ys, h1, h2, h3, h4, h5⟩ := h
    exact ⟨y, ys, VR.mono hs _ _ h1, VR.mono hs _ _ h2, h3, ER.mono hs h4, h5⟩

theorem OR.mono {P : Program} {m m' : Mp} (hs : Sub m m') {ob : Go.Obj} {sh e : Nat} : ∀ {o : Obj}, OR P m ob sh e o → OR P m' ob sh e o
  | .cells .., h => by obtain ⟨c, fzr, h1, h2, h3⟩ := h; exact ⟨c, fzr, h1, VRL.mono hs _ _ h2, h3⟩
  | .map .., h => by obtain ⟨es', h1, h2⟩ := h; exact ⟨es', h1, h2.mono hs⟩
  | .mapIter mm _ _ _, h => by
    obtain ⟨h0, r, h1, h2⟩ := h
    refine ⟨h0, r, h1, ?_⟩
    cases mm with
    | none => exact h2
    | some i => obtain ⟨b, sh, e, h3, h4⟩ := h2; exact ⟨b, sh, e, hs _ _ h3, h4⟩
  | .strIter .., h => h
  | .loop .., h => by obtain ⟨L, h1, h2, h3, h4, h5⟩ := h; exact ⟨L, h1, h2, h3, VRL.mono hs _ _ h4, h5⟩
  | .dead, h => h

def Obj.live : Obj → Bool
  | .dead => false
  | _ => true
def Obj.mut : Obj → Bool
  | .dead => false
  | .cells _ _ _ true _ => false
  | _ => true
theorem Obj.live_of_mut {o : Obj} (h : o.mut = true) : o.live = true := by cases o <;> simp_all [Obj.mut, Obj.live]

structure HR (P : Program) (m : Mp) (h : H) (w : World) : Prop where
  ok : h.ok
  dom : ∀ i x, m i = some x → i < h.size
  glob : ∀ g, g < P.globals.size → m g = some (g, 0, 0)
  blk : ∀ i r sh e, m i = some (r, sh, e) → r < w.heap.size
  obj : ∀ i o, h.get i = some o → o.live = true → ∃ r sh e ob, m i = some (r, sh, e) ∧ w.heap[r]? = some ob ∧ OR P m ob sh e o
  inj : ∀ i j o o' r sh e sh' e', h.get i = some o → h.get j = some o' → o.mut = true → o'.live = true →
    m i = some (r, sh, e) → m j = some (r, sh', e') → i = j

def Own (m : Mp) (h : H) (b : Nat) : Prop := ∃ i o sh e, h.get i = some o ∧ o.mut = true ∧ m i = some (b, sh, e)

structure Ext (m : Mp) (h : H) (w : World) (m' : Mp) (h' : H) (w' : World) : Prop where
  sub : Sub m m'
  hsize : h.size ≤ h'.size
  wsize : w.heap.size ≤ w'.heap.size
  frame : ∀ b, b < w.heap.size → ¬ Own m h b → w'.heap[b]? = w.heap[b]?
  own : ∀ b, b < w.heap.size → Own m' h' b → Own m h b
  os : w'.os = w.os
  output : w'.output = w.output
  tape : w'.tape = w.tape
  rng : ∀ b, b < w.heap.size → (∃ i y, m' i = some (b, y)) → ∃ i y, m i = some (b, y)

theorem Ext.refl (m : Mp) (h : H) (w : World) : Ext m h w m h w := ⟨Sub.refl m, Nat.le_refl _, Nat.le_refl _, fun _ _ _ => rfl, fun _ _ h => h, rfl, rfl, rfl, fun _ _ h => h⟩
theorem Ext.trans {m m1 m2 : Mp} {h h1 h2 : H} {w w1 w2 : World} (a : Ext m h w m1 h1 w1) (b : Ext m1 h1 w1 m2 h2 w2) : Ext m h w m2 h2 w2 where
  sub := a.sub.trans b.sub
  hsize := Nat.le_trans a.hsize b.hsize
  wsize := Nat.le_trans a.wsize b.wsize
  frame := fun x hx hn => by
    rw [b.frame x (Nat.lt_of_lt_of_le hx a.wsize) (fun ho => hn (a.own x hx ho))]
    exact a.frame x hx hn
  own := fun x hx ho => a.own x hx (b.own x (Nat.lt_of_lt_of_le hx a.wsize) ho)
  os := b.os.trans a.os
  output := b.output.trans a.output
  tape := b.tape.trans a.tape
  rng := fun x hx h => a.rng x hx (b.rng x (Nat.lt_of_lt_of_le hx a.wsize) h)

structure Drew (w w' : World) : Prop where
  heap : w'.heap = w.heap
  os : w'.os = w.os
  output : w'.output = w.output
  tape : w'.tape = w.tape
  drawn : w.drawn ≤ w'.drawn
theorem Drew.refl (w : World) : Drew w w := ⟨rfl, rfl, rfl, rfl, Nat.le_refl _⟩
theorem Drew.one (w : World) : Drew w { w with drawn := w.drawn + 1 } := ⟨rfl, rfl, rfl, rfl, Nat.le_succ _⟩
theorem Drew.trans {a b c : World} (x : Drew a b) (y : Drew b c) : Drew a c := ⟨y.heap.trans x.heap, y.os.trans x.os, y.output.trans x.output, y.tape.trans x.tape, Nat.le_trans x.drawn y.drawn⟩

theorem HR.drew {P : Program} {m : Mp} {h : H} {w w' : World} (hr : HR P m h w) (d : Drew w w') : HR P m h w' where
  ok := hr.ok
  dom := hr.dom
  glob := hr.glob
  blk := by rw [d.heap]; exact hr.blk
  obj := by rw [d.heap]; exact hr.obj
  inj := hr.inj
theorem Ext.drew (m : Mp) (h : H) {w w' : World} (d : Drew w w') : Ext m h w m h w' where
  sub := Sub.refl m
  hsize := Nat.le_refl _
  wsize := by rw [d.heap]; exact Nat.le_refl _
  frame := fun b _ _ => by rw [d.heap]
  own := fun _ _ h => h
  os := d.os
  output := d.output
  tape := d.tape
  rng := fun _ _ h => h

structure New (w : World) (ob : Go.Obj) (w' : World) : Prop where
  heap : w'.heap = w.heap.push ob
  os : w'.os = w.os
  output : w'.output = w.output
  tape : w'.tape = w.tape
  drawn : w.drawn ≤ w'.drawn
theorem New.alloc (w : World) (ob : Go.Obj) : New w ob { w with heap := w.heap.push ob } := ⟨rfl, rfl, rfl, rfl, Nat.le_refl _⟩
theorem New.of_drew {w w1 w2 : World} {ob : Go.Obj} (d : Drew w w1) (n : New w1 ob w2) : New w ob w2 :=
  ⟨by rw [n.heap,d.heap],n.os.trans d.os,n.output.trans d.output,n.tape.trans d.tape,Nat.le_trans d.drawn n.drawn⟩

structure Upd (w : World) (r : Nat) (ob : Go.Obj) (w' : World) : Prop where
  size : w'.heap.size = w.heap.size
  here : w'.heap[r]? = some ob
  there : ∀ b, b ≠ r → w'.heap[b]? = w.heap[b]?
  os : w'.os = w.os
  output : w'.output = w.output
  tape : w'.tape = w.tape
  drawn : w.drawn ≤ w'.drawn

def upd (m : Mp) (i : Nat) (x : Nat × Nat × Nat) : Mp := fun j => if j = i then some x else m j
theorem sub_upd {m : Mp} {i : Nat} {x : Nat × Nat × Nat} (h : m i = none) : Sub m (upd m i x) := fun j y hy => by
  unfold upd; split
  · rename_i e; subst e; rw [h] at hy; cases hy
  · exact hy
theorem upd_self (m : Mp) (i : Nat) (x : Nat × Nat × Nat) : upd m i x i = some x := by simp [upd]

theorem HR.fresh {P : Program} {m : Mp} {h : H} {w : World} (hr : HR P m h w) : m h.size = none := by
  cases hm : m h.size with
  | none => rfl
  | some x => exact absurd (hr.dom _ _ hm) (Nat.lt_irrefl _)

theorem HR.push {P : Program} {m : Mp} {h h' : H} {w w' : World} {o : Obj} {ob : Go.Obj} {e : Nat} (hr : HR P m h w) (hp : h.push o = some h') (hn : New w ob w')
    (hor : OR P m ob 0 e o) :
    HR P (upd m h.size (w.heap.size, 0, e)) h' w' ∧ Ext m h w (upd m h.size (w.heap.size, 0, e)) h' w' := by
  have hs := sub_upd (x := (w.heap.size, 0, e)) hr.fresh
  have hsz := H.size_push hp
  have hget : ∀ b, b < w.heap.size → w'.heap[b]? = w.heap[b]? := fun b hb => by
    rw [hn.heap, Array.getElem?_push]; rw [if_neg (by omega)]
  have hlast : w'.heap[w.heap.size]? = some ob := by rw [hn.heap]; simp
  have hws : w'.heap.size = w.heap.size + 1 := by rw [hn.heap]; simp
  have hold : ∀ i o, i ≠ h.size → h'.get i = some o → h.get i = some o := fun i o hi hg => by rw [H.get_push hp, if_neg hi] at hg; exact hg
  have hup : ∀ i x, i ≠ h.size → upd m h.size (w.heap.size, 0, e) i = some x → m i = some x := fun i x hi hx => by simpa [upd, hi] using hx
  refine ⟨?_, ?_⟩
  · constructor
    · exact hsz.2
    · intro i x hx
      by_cases hi : i = h.size
      · omega
      · have := hr.dom _ _ (hup i x hi hx); omega
    · intro g hg; exact hs _ _ (hr.glob g hg)
    · intro i r sh e' hx
      by_cases hi : i = h.size
      · subst hi; rw [upd_self] at hx; cases hx; omega
      · have := hr.blk _ _ _ _ (hup i _ hi hx); omega
    · intro i o' hg hl
      by_cases hi : i = h.size
      · subst hi
        rw [H.get_push hp, if_pos rfl] at hg; cases hg
        exact ⟨_, _, _, ob, upd_self _ _ _, hlast, hor.mono hs⟩
      · obtain ⟨r, sh, e', ob', h1, h2, h3⟩ := hr.obj i o' (hold i o' hi hg) hl
        exact ⟨r, sh, e', ob', hs _ _ h1, by rw [hget r (hr.blk _ _ _ _ h1)]; exact h2, h3.mono hs⟩
    · intro i j o1 o2 r sh e1 sh' e2 hi hj hl1 hl2 hm1 hm2
      by_cases hi' : i = h.size <;> by_cases hj' : j = h.size
      · omega
      · subst hi'; rw [upd_self] at hm1; cases hm1
        have := hr.blk _ _ _ _ (hup j _ hj' hm2); omega
      · subst hj'; rw [upd_self] at hm2; cases hm2
        have := hr.blk _ _ _ _ (hup i _ hi' hm1); omega
      · exact hr.inj i j o1 o2 r sh e1 sh' e2 (hold i _ hi' hi) (hold j _ hj' hj) hl1 hl2 (hup i _ hi' hm1) (hup j _ hj' hm2)
  · constructor
    · exact hs
    · omega
    · omega
    · intro b hb _; exact hget b hb
    · rintro b hb ⟨i, o', sh, e', hg, hm, hmi⟩
      by_cases hi : i = h.size
      · subst hi; rw [upd_self] at hmi; cases hmi; omega
      · exact ⟨i, o', sh, e', hold i o' hi hg, hm, hup i _ hi hmi⟩
    · exact hn.os
    · exact hn.output
    · exact hn.tape
    · rintro b hb ⟨i, y, hm⟩
      by_cases hi : i = h.size
      · subst hi; rw [upd_self] at hm; cases hm; omega
      · exact ⟨i, y, hup i _ hi hm⟩

theorem HR.set {P : Program} {m : Mp} {h : H} {w w' : World} {i r sh e : Nat} {o o' : Obj} {ob : Go.Obj} (hr : HR P m h w) (hg : h.get i = some o) (hm : o.mut = true)
    (hi : m i = some (r, sh, e)) (hu : Upd w r ob w') (hor : OR P m ob sh e o') :
    HR P m (h.set i o') w' ∧ Ext m h w m (h.set i o') w' := by
  have hlt := H.get_lt hg
  have hlv := Obj.live_of_mut hm
  have hr' : r < w.heap.size := hr.blk _ _ _ _ hi
  refine ⟨?_, ?_⟩
  · constructor
    · exact H.set_ok hr.ok i o'
    · exact hr.dom
    · exact hr.glob
    · intro j r' sh' e' hj; rw [hu.size]; exact hr.blk _ _ _ _ hj
    · intro j oj hgj hlj
      rw [H.get_set hr.ok hlt] at hgj
      by_cases hij : i = j
      · subst hij; rw [if_pos rfl] at hgj; cases hgj
        exact ⟨r, sh, e, ob, hi, hu.here, hor⟩
      · rw [if_neg hij] at hgj
        obtain ⟨r2, sh2, e2, ob2, h1, h2, h3⟩ := hr.obj j oj hgj hlj
        refine ⟨r2, sh2, e2, ob2, h1, ?_, h3⟩
        rw [hu.there r2 ?_]; · exact h2
        intro he; subst he
        exact hij (hr.inj i j o oj r2 sh e sh2 e2 hg hgj hm hlj hi h1)
    · intro a b oa ob' r2 sh1 e1 sh2 e2 ha hb hla hlb hma hmb
      have key : ∀ a oa, (h.set i o').get a = some oa → oa.live = true → ∃ o2, h.get a = some o2 ∧ o2.live = true := fun a oa ha hla => by
        rw [H.get_set hr.ok hlt] at ha
        by_cases hia : i = a
        · subst hia; exact ⟨o, hg, hlv⟩
        · rw [if_neg hia] at ha; exact ⟨oa, ha, hla⟩
      have keym : ∀ a oa, (h.set i o').get a = some oa → oa.mut = true → ∃ o2, h.get a = some o2 ∧ o2.mut = true := fun a oa ha hla => by
        rw [H.get_set hr.ok hlt] at ha
        by_cases hia : i = a
        · subst hia; exact ⟨o, hg, hm⟩
        · rw [if_neg hia] at ha; exact ⟨oa, ha, hla⟩
      obtain ⟨o2, h2, l2⟩ := keym a oa ha hla
      obtain ⟨o3, h3, l3⟩ := key b ob' hb hlb
      exact hr.inj a b o2 o3 r2 sh1 e1 sh2 e2 h2 h3 l2 l3 hma hmb
  · constructor
    · exact Sub.refl m
    · exact Nat.le_refl _
    · rw [hu.size]; exact Nat.le_refl _
    · intro b hb hn
      exact hu.there b (fun he => hn (by subst he; exact ⟨i, o, sh, e, hg, hm, hi⟩))
    · rintro b hb ⟨j, oj, sh', e', hgj, hmj, hj⟩
      rw [H.get_set hr.ok hlt] at hgj
      by_cases hij : i = j
      · subst hij; exact ⟨i, o, sh', e', hg, hm, hj⟩
      · rw [if_neg hij] at hgj; exact ⟨j, oj, sh', e', hgj, hmj, hj⟩
    · exact hu.os
    · exact hu.output
    · exact hu.tape
    · exact fun _ _ hh => hh

theorem HR.move {P : Program} {m : Mp} {h h' : H} {w w' : World} {i r sh e sh2 e2 : Nat} {o o' : Obj} {ob : Go.Obj} (hr : HR P m h w) (hg : h.get i = some o) (hm : o.mut = true)
    (hi : m i = some (r, sh, e)) (hu : Upd w r ob w') (hp : (h.set i .dead).push o' = some h') (hor : OR P m ob sh2 e2 o') :
    HR P (upd m h.size (r, sh2, e2)) h' w' ∧ Ext m h w (upd m h.size (r, sh2, e2)) h' w' := by
  have hlt := H.get_lt hg
  have hlv := Obj.live_of_mut hm
  have hs := sub_upd (x := (r, sh2, e2)) hr.fresh
  have hsz := H.size_push hp
  rw [H.set_size] at hsz
  have hr' : r < w.heap.size := hr.blk _ _ _ _ hi
  have hget : ∀ j o, h'.get j = some o → o.live = true → (j = h.size ∧ o = o') ∨ (j ≠ h.size ∧ i ≠ j ∧ h.get j = some o) := fun j oj hj hlj => by
    rw [H.get_push hp, H.set_size] at hj
    by_cases hjs : j = h.size
    · rw [if_pos hjs] at hj; cases hj; exact .inl ⟨hjs, rfl⟩
    · rw [if_neg hjs, H.get_set hr.ok hlt] at hj
      by_cases hij : i = j
      · rw [if_pos hij] at hj; cases hj; simp [Obj.live] at hlj
      · rw [if_neg hij] at hj; exact .inr ⟨hjs, hij, hj⟩
  have hup : ∀ j x, j ≠ h.size → upd m h.size (r, sh2, e2) j = some x → m j = some x := fun j x hj hx => by simpa [upd, hj] using hx
  refine ⟨?_, ?_⟩
  · constructor
    · exact hsz.2
    · intro j x hx
      by_cases hj : j = h.size
      · omega
      · have := hr.dom _ _ (hup j x hj hx); omega
    · intro g hgl; exact hs _ _ (hr.glob g hgl)
    · intro j r2 sh' e' hx
      rw [hu.size]
      by_cases hj : j = h.size
      · subst hj; rw [upd_self] at hx; cases hx; exact hr'
      · exact hr.blk _ _ _ _ (hup j _ hj hx)
    · intro j oj hgj hlj
      rcases hget j oj hgj hlj with ⟨rfl, rfl⟩ | ⟨hj, hij, hgj'⟩
      · exact ⟨r, sh2, e2, ob, upd_self _ _ _, hu.here, hor.mono hs⟩
      · obtain ⟨r2, sh', e', ob2, h1, h2, h3⟩ := hr.obj j oj hgj' hlj
        refine ⟨r2, sh', e', ob2, hs _ _ h1, ?_, h3.mono hs⟩
        rw [hu.there r2 ?_]; · exact h2
        intro he; subst he
        exact hij (hr.inj i j o oj r2 sh e sh' e' hg hgj' hm hlj hi h1)
    · intro a b oa ob' r2 sh1 e1 sh3 e3 ha hb hla hlb hma hmb
      rcases hget a oa ha (Obj.live_of_mut hla) with ⟨rfl, _⟩ | ⟨ha', hia, hga⟩ <;> rcases hget b ob' hb hlb with ⟨rfl, _⟩ | ⟨hb', hib, hgb⟩
      · rfl
      · rw [upd_self] at hma; cases hma
        exact absurd (hr.inj i b o ob' r sh e sh3 e3 hg hgb hm hlb hi (hup b _ hb' hmb)) hib
      · rw [upd_self] at hmb; cases hmb
        exact absurd (hr.inj a i oa o r sh1 e1 sh e hga hg hla hlv (hup a _ ha' hma) hi).symm hia
      · exact hr.inj a b oa ob' r2 sh1 e1 sh3 e3 hga hgb hla hlb (hup a _ ha' hma) (hup b _ hb' hmb)
  · constructor
    · exact hs
    · omega
    · rw [hu.size]; exact Nat.le_refl _
    · intro b hb hn
      exact hu.there b (fun he => hn (by subst he; exact ⟨i, o, sh, e, hg, hm, hi⟩))
    · rintro b hb ⟨j, oj, sh', e', hgj, hmj, hj⟩
      rcases hget j oj hgj (Obj.live_of_mut hmj) with ⟨rfl, _⟩ | ⟨hj', hij, hgj'⟩
      · rw [upd_self] at hj; cases hj; exact ⟨i, o, sh, e, hg, hm, hi⟩
      · exact ⟨j, oj, sh', e', hgj', hmj, hup j _ hj' hj⟩
    · exact hu.os
    · exact hu.output
    · exact hu.tape
    · rintro b hb ⟨j, y, hj⟩
      by_cases hjs : j = h.size
      · subst hjs; rw [upd_self] at hj; cases hj; exact ⟨i, _, hi⟩
      · exact ⟨j, y, hup j _ hjs hj⟩

theorem HR.kill {P : Program} {m : Mp} {h : H} {w : World} {i : Nat} {o : Obj} (hr : HR P m h w) (hg : h.get i = some o) : HR P m (h.set i .dead) w ∧ Ext m h w m (h.set i .dead) w := by
  have hlt := H.get_lt hg
  have hget : ∀ j oj, (h.set i .dead).get j = some oj → oj.live = true → h.get j = some oj := fun j oj hj hl => by
    rw [H.get_set hr.ok hlt] at hj
    by_cases hij : i = j
    · rw [if_pos hij] at hj; cases hj; simp [Obj.live] at hl
    · rw [if_neg hij] at hj; exact hj
  refine ⟨⟨H.set_ok hr.ok i _, hr.dom, hr.glob, hr.blk, fun j oj hj hl => hr.obj j oj (hget j oj hj hl) hl, fun a b oa ob r sh e sh' e' ha hb hla hlb => hr.inj a b oa ob r sh e sh' e' (hget a oa ha (Obj.live_of_mut hla)) (hget b ob hb hlb) hla hlb⟩, ?_⟩
  refine ⟨Sub.refl m, Nat.le_refl _, Nat.le_refl _, fun _ _ _ => rfl, ?_, rfl, rfl, rfl, fun _ _ h => h⟩
  rintro b hb ⟨j, oj, sh', e', hgj, hmj, hj⟩
  exact ⟨j, oj, sh', e', hget j oj hgj (Obj.live_of_mut hmj), hmj, hj⟩
end Go.AM
