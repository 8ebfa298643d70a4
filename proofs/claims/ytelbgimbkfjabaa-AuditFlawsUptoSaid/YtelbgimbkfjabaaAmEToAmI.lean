/- My own texts, laid for this claim. -/
import Derived.Test.YtelbgimbkfjabaaAmAToAmD
import Derived.Laws.Sem
import Derived.Laws.World
import Derived.Laws.StructEq
import Derived.ChangeKeysEq
import Derived.Laws.Slices
set_option linter.unusedSimpArgs false
set_option linter.unusedVariables false
namespace Go.AM
abbrev Mp := Nat → Option (Nat × Nat × Nat)
mutual
def VR (m : Mp) : V → Value → Prop
 | .bool b,x => x = .bool b
 | .int k n,x => x = .int k n
 | .str s,x => x = .string ⟨s.toArray⟩
 | .ptr none,x => x = .pointer none
 | .ptr (some (i,o)),x => ∃ r sh e,m i = some (r,sh,e) ∧ x = .pointer (some ⟨r,sh + o,none⟩)
 | .slice none len cap _,x => x = .slice none len cap
 | .slice (some (i,o)) len cap opn,x => ∃ r sh e addr,m i = some (r,sh,e) ∧ x = .slice (some addr) len (cap + if opn then e else 0) ∧
   (addr = ⟨r,sh + o,none⟩ ∨ (len = 0 ∧ cap + (if opn then e else 0) = 0 ∧ (opn = true → addr.block = r)))
 | .map none,x => x = .map none
 | .map (some i),x => ∃ r sh e,m i = some (r,sh,e) ∧ x = .map (some r)
 | .func f fs cs,x => ∃ xs ys,VRL m fs xs ∧ VRL m cs ys ∧ x = .func (.func f) xs.toArray ys.toArray
 | .yield l,x => ∃ r sh e,m l = some (r,sh,e) ∧ x = .func (.yield r) #[] #[]
 | .nilFunc,x => x = .nilFunc
 | .iface t v,x => ∃ y,VR m v y ∧ x = .iface t y
 | .nilIface,x => x = .nilIface
 | .agg cs,x => ∃ ys,VRL m cs ys ∧ x = .agg ys.toArray
 | .tup cs,x => ∃ ys,VRL m cs ys ∧ x = .tuple ys.toArray
 | .junk,x => x.oneCell' = true ∧ (∀ b,x ≠ .bool b) ∧ x ≠ .nilIface
def VRL (m : Mp) : List V → List Value → Prop
 | [],ys => ys = []
 | v :: vs,ys => ∃ y ys',VR m v y ∧ VRL m vs ys' ∧ ys = y :: ys'
end
def Sub (m m' : Mp) : Prop := ∀ i x,m i = some x → m' i = some x
theorem Sub.refl (m : Mp) : Sub m m := fun _ _ h => h
theorem Sub.trans {a b c : Mp} (h : Sub a b) (h' : Sub b c) : Sub a c := fun i x hx => h' i x (h i x hx)
mutual
theorem VR.mono {m m' : Mp} (hs : Sub m m') : ∀ (v : V) (x : Value),VR m v x → VR m' v x
 | .bool _,_,h => h
 | .int _ _,_,h => h
 | .str _,_,h => h
 | .ptr none,_,h => h
 | .ptr (some (i,o)),x,h => by obtain ⟨r,sh,e,h1,h2⟩ := h; exact ⟨r,sh,e,hs _ _ h1,h2⟩
 | .slice none _ _ _,_,h => h
 | .slice (some (i,o)) len cap opn,x,h => by obtain ⟨r,sh,e,ad,h1,h2⟩ := h; exact ⟨r,sh,e,ad,hs _ _ h1,h2⟩
 | .map none,_,h => h
 | .map (some i),x,h => by obtain ⟨r,sh,e,h1,h2⟩ := h; exact ⟨r,sh,e,hs _ _ h1,h2⟩
 | .func f fs cs,x,h => by obtain ⟨xs,ys,h1,h2,h3⟩ := h; exact ⟨xs,ys,VRL.mono hs _ _ h1,VRL.mono hs _ _ h2,h3⟩
 | .yield l,x,h => by obtain ⟨r,sh,e,h1,h2⟩ := h; exact ⟨r,sh,e,hs _ _ h1,h2⟩
 | .nilFunc,_,h => h
 | .iface t v,x,h => by obtain ⟨y,h1,h2⟩ := h; exact ⟨y,VR.mono hs _ _ h1,h2⟩
 | .nilIface,_,h => h
 | .agg cs,x,h => by obtain ⟨ys,h1,h2⟩ := h; exact ⟨ys,VRL.mono hs _ _ h1,h2⟩
 | .tup cs,x,h => by obtain ⟨ys,h1,h2⟩ := h; exact ⟨ys,VRL.mono hs _ _ h1,h2⟩
 | .junk,_,h => h
theorem VRL.mono {m m' : Mp} (hs : Sub m m') : ∀ (v : List V) (x : List Value),VRL m v x → VRL m' v x
 | [],_,h => h
 | v :: vs,x,h => by obtain ⟨y,ys,h1,h2,h3⟩ := h; exact ⟨y,ys,VR.mono hs _ _ h1,VRL.mono hs _ _ h2,h3⟩
end
section lists
variable {m : Mp}
theorem VRL.nil : VRL m [] [] := rfl
theorem VRL.cons {v : V} {x : Value} {vs : List V} {xs : List Value} (h : VR m v x) (h' : VRL m vs xs) : VRL m (v :: vs) (x :: xs) := ⟨x,xs,h,h',rfl⟩
theorem VRL.one {v : V} {x : Value} (h : VR m v x) : VRL m [v] [x] := VRL.cons h VRL.nil
theorem VRL.length : ∀ {vs : List V} {xs : List Value},VRL m vs xs → xs.length = vs.length
 | [],_,h => by cases h; rfl
 | _ :: vs,_,h => by obtain ⟨y,ys,_,h2,rfl⟩ := h; simp [VRL.length h2]
theorem VRL.get : ∀ {vs : List V} {xs : List Value},VRL m vs xs → ∀ {i : Nat} {v : V},vs[i]? = some v → ∃ x,xs[i]? = some x ∧ VR m v x
 | [],_,_,i,v,hi => by simp at hi
 | u :: vs,_,h,i,v,hi => by
  obtain ⟨y,ys,h1,h2,rfl⟩ := h
  cases i with
  | zero => simp at hi; subst hi; exact ⟨y,rfl,h1⟩
  | succ i => simpa using VRL.get h2 (by simpa using hi)
theorem VRL.of_get : ∀ {vs : List V} {xs : List Value},xs.length = vs.length → (∀ (i : Nat) (v : V),vs[i]? = some v → ∃ x,xs[i]? = some x ∧ VR m v x) → VRL m vs xs
 | [],xs,hl,_ => by cases xs with | nil => rfl | cons a b => simp at hl
 | v :: vs,[],hl,_ => by simp at hl
 | v :: vs,x :: xs,hl,h => by
  obtain ⟨y,hy,hv⟩ := h 0 v rfl
  simp at hy; subst hy
  exact VRL.cons hv (VRL.of_get (by simpa using hl) fun i u hu => by simpa using h (i + 1) u (by simpa using hu))
theorem VRL.append : ∀ {vs us : List V} {xs ys : List Value},VRL m vs xs → VRL m us ys → VRL m (vs ++ us) (xs ++ ys)
 | [],_,_,_,h,h' => by cases h; exact h'
 | _ :: vs,_,_,_,h,h' => by obtain ⟨y,ys,h1,h2,rfl⟩ := h; exact VRL.cons h1 (VRL.append h2 h')
theorem VRL.take : ∀ {vs : List V} {xs : List Value},VRL m vs xs → ∀ n,VRL m (vs.take n) (xs.take n)
 | [],_,h,n => by cases h; simp [VRL.nil]
 | v :: vs,_,h,n => by
  obtain ⟨y,ys,h1,h2,rfl⟩ := h
  cases n with
  | zero => exact VRL.nil
  | succ n => exact VRL.cons h1 (VRL.take h2 n)
theorem VRL.drop : ∀ {vs : List V} {xs : List Value},VRL m vs xs → ∀ n,VRL m (vs.drop n) (xs.drop n)
 | [],_,h,n => by cases h; simp [VRL.nil]
 | v :: vs,_,h,n => by
  obtain ⟨y,ys,h1,h2,rfl⟩ := h
  cases n with
  | zero => exact VRL.cons h1 h2
  | succ n => exact VRL.drop h2 n
theorem VRL.set {vs : List V} {xs : List Value} (h : VRL m vs xs) {v : V} {x : Value} (hv : VR m v x) (d : Nat) : VRL m (vs.set d v) (xs.set d x) := by
 refine VRL.of_get (by simp [h.length]) fun i u hu => ?_
 rw [List.getElem?_set] at hu
 by_cases hd : d = i
 ·subst hd
  rw [if_pos rfl] at hu
  split at hu
  ·rename_i hlt
   cases hu
   exact ⟨x,by rw [List.getElem?_set,if_pos rfl,if_pos (by rw [h.length]; exact hlt)],hv⟩
  ·cases hu
 ·rw [if_neg hd] at hu
  obtain ⟨y,hy,hr⟩ := h.get hu
  exact ⟨y,by rw [List.getElem?_set,if_neg hd]; exact hy,hr⟩
theorem VRL.replicate {v : V} {x : Value} (h : VR m v x) : ∀ n,VRL m (List.replicate n v) (List.replicate n x)
 | 0 => VRL.nil
 | n + 1 => VRL.cons h (VRL.replicate h n)
theorem VRL.range {vs : List V} {xs : List Value} (h : VRL m vs xs) (o n : Nat) : VRL m (getR vs o n) ((xs.drop o).take n) := (h.drop o).take n
end lists
def TR (m : Mp) (T : List V) (tmps : Array Value) : Prop := VRL m T tmps.toList
def pendR : Option C → Option Code → Prop
 | none,none => True
 | some .ret,some .ret => True
 | some (.exit a),some (.exit b) => a = b
 | _,_ => False
def ER (m : Mp) : List (V × V × Nat) → List MapEntry → Prop
 | [],ys => ys = []
 | e :: es,ys => ∃ y ys',VR m e.1 y.key ∧ VR m e.2.1 y.val ∧ y.born = e.2.2 ∧ ER m es ys' ∧ ys = y :: ys'
def IterR (m : Mp) (mm : Option Nat) (r : Option Nat) : Prop :=
 match mm with
 | none => r = none
 | some i => ∃ b sh e,m i = some (b,sh,e) ∧ r = some b
def FzOK (fz : Option Nat) (sh n : Nat) (fzr : Nat × Nat) : Prop :=
 match fz with
 | none => fzr = (0,0)
 | some f => fzr.1 ≤ fzr.2 ∧ ∀ j,fzr.1 ≤ j → j < fzr.2 → if f = 0 then n ≤ j else j < sh + f
def OR (P : Program) (m : Mp) (ob : Go.Obj) (sh e : Nat) : Obj → Prop
 | .cells vs ty opn ro fz => ∃ c fzr,ob = .cells c ty fzr ∧ VRL m vs ((c.toList.drop sh).take vs.length) ∧
   (if opn then sh + vs.length + e * P.cellsOf ty ≤ c.size else sh = 0 ∧ e = 0 ∧ c.size = vs.length) ∧
   (ro = false → FzOK fz sh c.size fzr)
 | .map es clock => ∃ es',ob = .map es' clock ∧ ER m es es'.toList
 | .mapIter mm since seen stepped => sh = 0 ∧ ∃ r,ob = .mapIter r since seen.toArray stepped ∧ IterR m mm r
 | .strIter s pos => sh = 0 ∧ ob = .stringIter ⟨s.toArray⟩ pos
 | .loop st pend T ps as b => ∃ L : Loop,ob = .loop L ∧ L.state = st ∧ pendR pend L.pending ∧ TR m T L.tmps ∧ L.params = ps.toArray ∧
   cC P L.assign = some as ∧ cC P L.body = some b
 | .dead => True
theorem ER.mono {m m' : Mp} (hs : Sub m m') : ∀ {es : List (V × V × Nat)} {ys : List MapEntry},ER m es ys → ER m' es ys
 | [],_,h => h
 | _ :: _,_,h => by
  obtain ⟨y,ys,h1,h2,h3,h4,h5⟩ := h
  exact ⟨y,ys,VR.mono hs _ _ h1,VR.mono hs _ _ h2,h3,ER.mono hs h4,h5⟩
theorem OR.mono {P : Program} {m m' : Mp} (hs : Sub m m') {ob : Go.Obj} {sh e : Nat} : ∀ {o : Obj},OR P m ob sh e o → OR P m' ob sh e o
 | .cells ..,h => by obtain ⟨c,fzr,h1,h2,h3⟩ := h; exact ⟨c,fzr,h1,VRL.mono hs _ _ h2,h3⟩
 | .map ..,h => by obtain ⟨es',h1,h2⟩ := h; exact ⟨es',h1,h2.mono hs⟩
 | .mapIter mm _ _ _,h => by
  obtain ⟨h0,r,h1,h2⟩ := h
  refine ⟨h0,r,h1,?_⟩
  cases mm with
  | none => exact h2
  | some i => obtain ⟨b,sh,e,h3,h4⟩ := h2; exact ⟨b,sh,e,hs _ _ h3,h4⟩
 | .strIter ..,h => h
 | .loop ..,h => by obtain ⟨L,h1,h2,h3,h4,h5⟩ := h; exact ⟨L,h1,h2,h3,VRL.mono hs _ _ h4,h5⟩
 | .dead,h => h
def Obj.live : Obj → Bool
 | .dead => false
 | _ => true
def Obj.mut : Obj → Bool
 | .dead => false
 | .cells _ _ _ true _ => false
 | _ => true
theorem Obj.live_of_mut {o : Obj} (h : o.mut = true) : o.live = true := by cases o <;> simp_all [Obj.mut,Obj.live]
structure HR (P : Program) (m : Mp) (h : H) (w : World) : Prop where
 ok : h.ok
 dom : ∀ i x,m i = some x → i < h.size
 glob : ∀ g,g < P.globals.size → m g = some (g,0,0)
 blk : ∀ i r sh e,m i = some (r,sh,e) → r < w.heap.size
 obj : ∀ i o,h.get i = some o → o.live = true → ∃ r sh e ob,m i = some (r,sh,e) ∧ w.heap[r]? = some ob ∧ OR P m ob sh e o
 inj : ∀ i j o o' r sh e sh' e',h.get i = some o → h.get j = some o' → o.mut = true → o'.live = true →
  m i = some (r,sh,e) → m j = some (r,sh',e') → i = j
def Own (m : Mp) (h : H) (b : Nat) : Prop := ∃ i o sh e,h.get i = some o ∧ o.mut = true ∧ m i = some (b,sh,e)
structure Ext (m : Mp) (h : H) (w : World) (m' : Mp) (h' : H) (w' : World) : Prop where
 sub : Sub m m'
 hsize : h.size ≤ h'.size
 wsize : w.heap.size ≤ w'.heap.size
 frame : ∀ b,b < w.heap.size → ¬ Own m h b → w'.heap[b]? = w.heap[b]?
 own : ∀ b,b < w.heap.size → Own m' h' b → Own m h b
 os : w'.os = w.os
 output : w'.output = w.output
 tape : w'.tape = w.tape
 rng : ∀ b,b < w.heap.size → (∃ i y,m' i = some (b,y)) → ∃ i y,m i = some (b,y)
theorem Ext.refl (m : Mp) (h : H) (w : World) : Ext m h w m h w := ⟨Sub.refl m,Nat.le_refl _,Nat.le_refl _,fun _ _ _ => rfl,fun _ _ h => h,rfl,rfl,rfl,fun _ _ h => h⟩
theorem Ext.trans {m m1 m2 : Mp} {h h1 h2 : H} {w w1 w2 : World} (a : Ext m h w m1 h1 w1) (b : Ext m1 h1 w1 m2 h2 w2) : Ext m h w m2 h2 w2 where
 sub := a.sub.trans b.sub
 hsize := Nat.le_trans a.hsize b.hsize
 wsize := Nat.le_trans a.wsize b.wsize
 frame := fun x hx hn => by
  rw [b.frame x (Nat.lt_of_lt_of_le hx a.wsize) (fun ho => hn (a.own x hx ho))]
  exact a.frame x hx hn
 own := fun x hx ho => a.own x hx (b.own x (Nat.lt_of_lt_of_le hx a.wsize) ho)
 os := b.os.trans a.os
 output := b.output.trans a.output
 tape := b.tape.trans a.tape
 rng := fun x hx h => a.rng x hx (b.rng x (Nat.lt_of_lt_of_le hx a.wsize) h)
structure Drew (w w' : World) : Prop where
 heap : w'.heap = w.heap
 os : w'.os = w.os
 output : w'.output = w.output
 tape : w'.tape = w.tape
 drawn : w.drawn ≤ w'.drawn
theorem Drew.refl (w : World) : Drew w w := ⟨rfl,rfl,rfl,rfl,Nat.le_refl _⟩
theorem Drew.one (w : World) : Drew w { w with drawn := w.drawn + 1 } := ⟨rfl,rfl,rfl,rfl,Nat.le_succ _⟩
theorem Drew.trans {a b c : World} (x : Drew a b) (y : Drew b c) : Drew a c := ⟨y.heap.trans x.heap,y.os.trans x.os,y.output.trans x.output,y.tape.trans x.tape,Nat.le_trans x.drawn y.drawn⟩
theorem HR.drew {P : Program} {m : Mp} {h : H} {w w' : World} (hr : HR P m h w) (d : Drew w w') : HR P m h w' where
 ok := hr.ok
 dom := hr.dom
 glob := hr.glob
 blk := by rw [d.heap]; exact hr.blk
 obj := by rw [d.heap]; exact hr.obj
 inj := hr.inj
theorem Ext.drew (m : Mp) (h : H) {w w' : World} (d : Drew w w') : Ext m h w m h w' where
 sub := Sub.refl m
 hsize := Nat.le_refl _
 wsize := by rw [d.heap]; exact Nat.le_refl _
 frame := fun b _ _ => by rw [d.heap]
 own := fun _ _ h => h
 os := d.os
 output := d.output
 tape := d.tape
 rng := fun _ _ h => h
structure New (w : World) (ob : Go.Obj) (w' : World) : Prop where
 heap : w'.heap = w.heap.push ob
 os : w'.os = w.os
 output : w'.output = w.output
 tape : w'.tape = w.tape
 drawn : w.drawn ≤ w'.drawn
theorem New.alloc (w : World) (ob : Go.Obj) : New w ob { w with heap := w.heap.push ob } := ⟨rfl,rfl,rfl,rfl,Nat.le_refl _⟩
theorem New.of_drew {w w1 w2 : World} {ob : Go.Obj} (d : Drew w w1) (n : New w1 ob w2) : New w ob w2 :=
 ⟨by rw [n.heap,d.heap],n.os.trans d.os,n.output.trans d.output,n.tape.trans d.tape,Nat.le_trans d.drawn n.drawn⟩
structure Upd (w : World) (r : Nat) (ob : Go.Obj) (w' : World) : Prop where
 size : w'.heap.size = w.heap.size
 here : w'.heap[r]? = some ob
 there : ∀ b,b ≠ r → w'.heap[b]? = w.heap[b]?
 os : w'.os = w.os
 output : w'.output = w.output
 tape : w'.tape = w.tape
 drawn : w.drawn ≤ w'.drawn
def upd (m : Mp) (i : Nat) (x : Nat × Nat × Nat) : Mp := fun j => if j = i then some x else m j
theorem sub_upd {m : Mp} {i : Nat} {x : Nat × Nat × Nat} (h : m i = none) : Sub m (upd m i x) := fun j y hy => by
 unfold upd; split
 ·rename_i e; subst e; rw [h] at hy; cases hy
 ·exact hy
theorem upd_self (m : Mp) (i : Nat) (x : Nat × Nat × Nat) : upd m i x i = some x := by simp [upd]
theorem HR.fresh {P : Program} {m : Mp} {h : H} {w : World} (hr : HR P m h w) : m h.size = none := by
 cases hm : m h.size with
 | none => rfl
 | some x => exact absurd (hr.dom _ _ hm) (Nat.lt_irrefl _)
theorem HR.push {P : Program} {m : Mp} {h h' : H} {w w' : World} {o : Obj} {ob : Go.Obj} {e : Nat} (hr : HR P m h w) (hp : h.push o = some h') (hn : New w ob w')
  (hor : OR P m ob 0 e o) :
  HR P (upd m h.size (w.heap.size,0,e)) h' w' ∧ Ext m h w (upd m h.size (w.heap.size,0,e)) h' w' := by
 have hs := sub_upd (x := (w.heap.size,0,e)) hr.fresh
 have hsz := H.size_push hp
 have hget : ∀ b,b < w.heap.size → w'.heap[b]? = w.heap[b]? := fun b hb => by
  rw [hn.heap,Array.getElem?_push]; rw [if_neg (by omega)]
 have hlast : w'.heap[w.heap.size]? = some ob := by rw [hn.heap]; simp
 have hws : w'.heap.size = w.heap.size + 1 := by rw [hn.heap]; simp
 have hold : ∀ i o,i ≠ h.size → h'.get i = some o → h.get i = some o := fun i o hi hg => by rw [H.get_push hp,if_neg hi] at hg; exact hg
 have hup : ∀ i x,i ≠ h.size → upd m h.size (w.heap.size,0,e) i = some x → m i = some x := fun i x hi hx => by simpa [upd,hi] using hx
 refine ⟨?_,?_⟩
 ·constructor
  ·exact hsz.2
  ·intro i x hx
   by_cases hi : i = h.size
   ·omega
   ·have := hr.dom _ _ (hup i x hi hx); omega
  ·intro g hg; exact hs _ _ (hr.glob g hg)
  ·intro i r sh e' hx
   by_cases hi : i = h.size
   ·subst hi; rw [upd_self] at hx; cases hx; omega
   ·have := hr.blk _ _ _ _ (hup i _ hi hx); omega
  ·intro i o' hg hl
   by_cases hi : i = h.size
   ·subst hi
    rw [H.get_push hp,if_pos rfl] at hg; cases hg
    exact ⟨_,_,_,ob,upd_self _ _ _,hlast,hor.mono hs⟩
   ·obtain ⟨r,sh,e',ob',h1,h2,h3⟩ := hr.obj i o' (hold i o' hi hg) hl
    exact ⟨r,sh,e',ob',hs _ _ h1,by rw [hget r (hr.blk _ _ _ _ h1)]; exact h2,h3.mono hs⟩
  ·intro i j o1 o2 r sh e1 sh' e2 hi hj hl1 hl2 hm1 hm2
   by_cases hi' : i = h.size <;> by_cases hj' : j = h.size
   ·omega
   ·subst hi'; rw [upd_self] at hm1; cases hm1
    have := hr.blk _ _ _ _ (hup j _ hj' hm2); omega
   ·subst hj'; rw [upd_self] at hm2; cases hm2
    have := hr.blk _ _ _ _ (hup i _ hi' hm1); omega
   ·exact hr.inj i j o1 o2 r sh e1 sh' e2 (hold i _ hi' hi) (hold j _ hj' hj) hl1 hl2 (hup i _ hi' hm1) (hup j _ hj' hm2)
 ·constructor
  ·exact hs
  ·omega
  ·omega
  ·intro b hb _; exact hget b hb
  ·rintro b hb ⟨i,o',sh,e',hg,hm,hmi⟩
   by_cases hi : i = h.size
   ·subst hi; rw [upd_self] at hmi; cases hmi; omega
   ·exact ⟨i,o',sh,e',hold i o' hi hg,hm,hup i _ hi hmi⟩
  ·exact hn.os
  ·exact hn.output
  ·exact hn.tape
  ·rintro b hb ⟨i,y,hm⟩
   by_cases hi : i = h.size
   ·subst hi; rw [upd_self] at hm; cases hm; omega
   ·exact ⟨i,y,hup i _ hi hm⟩
theorem HR.set {P : Program} {m : Mp} {h : H} {w w' : World} {i r sh e : Nat} {o o' : Obj} {ob : Go.Obj} (hr : HR P m h w) (hg : h.get i = some o) (hm : o.mut = true)
  (hi : m i = some (r,sh,e)) (hu : Upd w r ob w') (hor : OR P m ob sh e o') :
  HR P m (h.set i o') w' ∧ Ext m h w m (h.set i o') w' := by
 have hlt := H.get_lt hg
 have hlv := Obj.live_of_mut hm
 have hr' : r < w.heap.size := hr.blk _ _ _ _ hi
 refine ⟨?_,?_⟩
 ·constructor
  ·exact H.set_ok hr.ok i o'
  ·exact hr.dom
  ·exact hr.glob
  ·intro j r' sh' e' hj; rw [hu.size]; exact hr.blk _ _ _ _ hj
  ·intro j oj hgj hlj
   rw [H.get_set hr.ok hlt] at hgj
   by_cases hij : i = j
   ·subst hij; rw [if_pos rfl] at hgj; cases hgj
    exact ⟨r,sh,e,ob,hi,hu.here,hor⟩
   ·rw [if_neg hij] at hgj
    obtain ⟨r2,sh2,e2,ob2,h1,h2,h3⟩ := hr.obj j oj hgj hlj
    refine ⟨r2,sh2,e2,ob2,h1,?_,h3⟩
    rw [hu.there r2 ?_]; · exact h2
    intro he; subst he
    exact hij (hr.inj i j o oj r2 sh e sh2 e2 hg hgj hm hlj hi h1)
  ·intro a b oa ob' r2 sh1 e1 sh2 e2 ha hb hla hlb hma hmb
   have key : ∀ a oa,(h.set i o').get a = some oa → oa.live = true → ∃ o2,h.get a = some o2 ∧ o2.live = true := fun a oa ha hla => by
    rw [H.get_set hr.ok hlt] at ha
    by_cases hia : i = a
    ·subst hia; exact ⟨o,hg,hlv⟩
    ·rw [if_neg hia] at ha; exact ⟨oa,ha,hla⟩
   have keym : ∀ a oa,(h.set i o').get a = some oa → oa.mut = true → ∃ o2,h.get a = some o2 ∧ o2.mut = true := fun a oa ha hla => by
    rw [H.get_set hr.ok hlt] at ha
    by_cases hia : i = a
    ·subst hia; exact ⟨o,hg,hm⟩
    ·rw [if_neg hia] at ha; exact ⟨oa,ha,hla⟩
   obtain ⟨o2,h2,l2⟩ := keym a oa ha hla
   obtain ⟨o3,h3,l3⟩ := key b ob' hb hlb
   exact hr.inj a b o2 o3 r2 sh1 e1 sh2 e2 h2 h3 l2 l3 hma hmb
 ·constructor
  ·exact Sub.refl m
  ·exact Nat.le_refl _
  ·rw [hu.size]; exact Nat.le_refl _
  ·intro b hb hn
   exact hu.there b (fun he => hn (by subst he; exact ⟨i,o,sh,e,hg,hm,hi⟩))
  ·rintro b hb ⟨j,oj,sh',e',hgj,hmj,hj⟩
   rw [H.get_set hr.ok hlt] at hgj
   by_cases hij : i = j
   ·subst hij; exact ⟨i,o,sh',e',hg,hm,hj⟩
   ·rw [if_neg hij] at hgj; exact ⟨j,oj,sh',e',hgj,hmj,hj⟩
  ·exact hu.os
  ·exact hu.output
  ·exact hu.tape
  ·exact fun _ _ hh => hh
theorem HR.move {P : Program} {m : Mp} {h h' : H} {w w' : World} {i r sh e sh2 e2 : Nat} {o o' : Obj} {ob : Go.Obj} (hr : HR P m h w) (hg : h.get i = some o) (hm : o.mut = true)
  (hi : m i = some (r,sh,e)) (hu : Upd w r ob w') (hp : (h.set i .dead).push o' = some h') (hor : OR P m ob sh2 e2 o') :
  HR P (upd m h.size (r,sh2,e2)) h' w' ∧ Ext m h w (upd m h.size (r,sh2,e2)) h' w' := by
 have hlt := H.get_lt hg
 have hlv := Obj.live_of_mut hm
 have hs := sub_upd (x := (r,sh2,e2)) hr.fresh
 have hsz := H.size_push hp
 rw [H.set_size] at hsz
 have hr' : r < w.heap.size := hr.blk _ _ _ _ hi
 have hget : ∀ j o,h'.get j = some o → o.live = true → (j = h.size ∧ o = o') ∨ (j ≠ h.size ∧ i ≠ j ∧ h.get j = some o) := fun j oj hj hlj => by
  rw [H.get_push hp,H.set_size] at hj
  by_cases hjs : j = h.size
  ·rw [if_pos hjs] at hj; cases hj; exact .inl ⟨hjs,rfl⟩
  ·rw [if_neg hjs,H.get_set hr.ok hlt] at hj
   by_cases hij : i = j
   ·rw [if_pos hij] at hj; cases hj; simp [Obj.live] at hlj
   ·rw [if_neg hij] at hj; exact .inr ⟨hjs,hij,hj⟩
 have hup : ∀ j x,j ≠ h.size → upd m h.size (r,sh2,e2) j = some x → m j = some x := fun j x hj hx => by simpa [upd,hj] using hx
 refine ⟨?_,?_⟩
 ·constructor
  ·exact hsz.2
  ·intro j x hx
   by_cases hj : j = h.size
   ·omega
   ·have := hr.dom _ _ (hup j x hj hx); omega
  ·intro g hgl; exact hs _ _ (hr.glob g hgl)
  ·intro j r2 sh' e' hx
   rw [hu.size]
   by_cases hj : j = h.size
   ·subst hj; rw [upd_self] at hx; cases hx; exact hr'
   ·exact hr.blk _ _ _ _ (hup j _ hj hx)
  ·intro j oj hgj hlj
   rcases hget j oj hgj hlj with ⟨rfl,rfl⟩ | ⟨hj,hij,hgj'⟩
   ·exact ⟨r,sh2,e2,ob,upd_self _ _ _,hu.here,hor.mono hs⟩
   ·obtain ⟨r2,sh',e',ob2,h1,h2,h3⟩ := hr.obj j oj hgj' hlj
    refine ⟨r2,sh',e',ob2,hs _ _ h1,?_,h3.mono hs⟩
    rw [hu.there r2 ?_]; · exact h2
    intro he; subst he
    exact hij (hr.inj i j o oj r2 sh e sh' e' hg hgj' hm hlj hi h1)
  ·intro a b oa ob' r2 sh1 e1 sh3 e3 ha hb hla hlb hma hmb
   rcases hget a oa ha (Obj.live_of_mut hla) with ⟨rfl,_⟩ | ⟨ha',hia,hga⟩ <;> rcases hget b ob' hb hlb with ⟨rfl,_⟩ | ⟨hb',hib,hgb⟩
   ·rfl
   ·rw [upd_self] at hma; cases hma
    exact absurd (hr.inj i b o ob' r sh e sh3 e3 hg hgb hm hlb hi (hup b _ hb' hmb)) hib
   ·rw [upd_self] at hmb; cases hmb
    exact absurd (hr.inj a i oa o r sh1 e1 sh e hga hg hla hlv (hup a _ ha' hma) hi).symm hia
   ·exact hr.inj a b oa ob' r2 sh1 e1 sh3 e3 hga hgb hla hlb (hup a _ ha' hma) (hup b _ hb' hmb)
 ·constructor
  ·exact hs
  ·omega
  ·rw [hu.size]; exact Nat.le_refl _
  ·intro b hb hn
   exact hu.there b (fun he => hn (by subst he; exact ⟨i,o,sh,e,hg,hm,hi⟩))
  ·rintro b hb ⟨j,oj,sh',e',hgj,hmj,hj⟩
   rcases hget j oj hgj (Obj.live_of_mut hmj) with ⟨rfl,_⟩ | ⟨hj',hij,hgj'⟩
   ·rw [upd_self] at hj; cases hj; exact ⟨i,o,sh,e,hg,hm,hi⟩
   ·exact ⟨j,oj,sh',e',hgj',hmj,hup j _ hj' hj⟩
  ·exact hu.os
  ·exact hu.output
  ·exact hu.tape
  ·rintro b hb ⟨j,y,hj⟩
   by_cases hjs : j = h.size
   ·subst hjs; rw [upd_self] at hj; cases hj; exact ⟨i,_,hi⟩
   ·exact ⟨j,y,hup j _ hjs hj⟩
theorem HR.kill {P : Program} {m : Mp} {h : H} {w : World} {i : Nat} {o : Obj} (hr : HR P m h w) (hg : h.get i = some o) : HR P m (h.set i .dead) w ∧ Ext m h w m (h.set i .dead) w := by
 have hlt := H.get_lt hg
 have hget : ∀ j oj,(h.set i .dead).get j = some oj → oj.live = true → h.get j = some oj := fun j oj hj hl => by
  rw [H.get_set hr.ok hlt] at hj
  by_cases hij : i = j
  ·rw [if_pos hij] at hj; cases hj; simp [Obj.live] at hl
  ·rw [if_neg hij] at hj; exact hj
 refine ⟨⟨H.set_ok hr.ok i _,hr.dom,hr.glob,hr.blk,fun j oj hj hl => hr.obj j oj (hget j oj hj hl) hl,fun a b oa ob r sh e sh' e' ha hb hla hlb => hr.inj a b oa ob r sh e sh' e' (hget a oa ha (Obj.live_of_mut hla)) (hget b ob hb hlb) hla hlb⟩,?_⟩
 refine ⟨Sub.refl m,Nat.le_refl _,Nat.le_refl _,fun _ _ _ => rfl,?_,rfl,rfl,rfl,fun _ _ h => h⟩
 rintro b hb ⟨j,oj,sh',e',hgj,hmj,hj⟩
 exact ⟨j,oj,sh',e',hget j oj hgj (Obj.live_of_mut hmj),hmj,hj⟩
end Go.AM
namespace Go.AM
variable {P : Program} {m : Mp} {h : H} {w : World}
theorem run_underlying {t : TypeId} {d : TypeDesc} (hd : P.underlying t = some d) (w : World) : (underlying t).run P w = .ok d w := by
 simp [underlying,hd]
theorem run_typeInfo {t : TypeId} {i : TypeInfo} (hi : P.info? t = some i) (w : World) : (typeInfo t).run P w = .ok i w := by
 simp [typeInfo,hi]
theorem sizeT_spec {t : TypeId} {s : Nat} (hs : sizeT P t = some s) : ∃ i d,P.info? t = some i ∧ P.underlying t = some d ∧ i.size = s := by
 unfold sizeT at hs
 split at hs
 ·rename_i i d h1 h2; cases hs; exact ⟨i,d,h1,h2,rfl⟩
 ·cases hs
theorem sizeT_cells {t : TypeId} {s : Nat} (hs : sizeT P t = some s) : P.cellsOf t = s := by
 obtain ⟨i,d,h1,_,h3⟩ := sizeT_spec hs
 simp [Program.cellsOf,h1,h3]
theorem run_sizeOf {t : TypeId} {s : Nat} (hs : sizeT P t = some s) (w : World) : (sizeOf t).run P w = .ok s w := by
 obtain ⟨i,d,h1,h2,h3⟩ := sizeT_spec hs
 simp [sizeOf,run_typeInfo h1,h3]
theorem run_isAgg {t : TypeId} {d : TypeDesc} (hd : P.underlying t = some d) (w : World) : (isAgg t).run P w = .ok (aggT P t) w := by
 simp only [isAgg,Sem.run_bind,run_underlying hd,Result.andThen_ok,aggT,hd]
 cases d <;> rfl
theorem run_isAgg' {t : TypeId} {s : Nat} (hs : sizeT P t = some s) (w : World) : (isAgg t).run P w = .ok (aggT P t) w := by
 obtain ⟨i,d,h1,h2,h3⟩ := sizeT_spec hs
 exact run_isAgg h2 w
theorem mapM_VRL {d : Nat} (ih : ∀ (x : Value) (v : V),vOf d x = some v → VR m v x) : ∀ (xs : List Value) (vs : List V),xs.mapM (vOf d) = some vs → VRL m vs xs
 | [],vs,h => by simp at h; subst h; rfl
 | x :: xs,vs,h => by
  rw [List.mapM_cons] at h
  cases hx : vOf d x with
  | none => simp [hx] at h
  | some v =>
   cases hxs : xs.mapM (vOf d) with
   | none => simp [hx,hxs] at h
   | some vs' =>
    simp [hx,hxs] at h
    subst h
    exact VRL.cons (ih x v hx) (mapM_VRL ih xs vs' hxs)
theorem vOf_sound : ∀ (d : Nat) (x : Value) (v : V),vOf d x = some v → VR m v x
 | 0,_,_,h => by simp [vOf] at h
 | d + 1,x,v,h => by
  unfold vOf at h
  split at h
  case h_1 => cases h; rfl
  case h_2 => cases h; rfl
  case h_3 s => cases h; cases s; simp [VR]
  case h_4 => cases h; rfl
  case h_5 => cases h; simp [VR]
  case h_6 => cases h; rfl
  case h_7 => cases h; rfl
  case h_8 => cases h; rfl
  case h_9 t y =>
   cases hy : vOf d y with
   | none => simp [hy] at h
   | some u => simp [hy] at h; subst h; exact ⟨y,vOf_sound d y u hy,rfl⟩
  case h_10 cs =>
   cases hy : cs.toList.mapM (vOf d) with
   | none => rw [hy] at h; cases h
   | some u => rw [hy] at h; cases h; exact ⟨cs.toList,mapM_VRL (vOf_sound d) _ _ hy,rfl⟩
  case h_11 cs =>
   cases hy : cs.toList.mapM (vOf d) with
   | none => rw [hy] at h; cases h
   | some u => rw [hy] at h; cases h; exact ⟨cs.toList,mapM_VRL (vOf_sound d) _ _ hy,rfl⟩
  case h_12 f fs cs =>
   split at h
   ·rename_i a b ha hb
    cases h
    exact ⟨fs.toList,cs.toList,mapM_VRL (vOf_sound d) _ _ ha,mapM_VRL (vOf_sound d) _ _ hb,rfl⟩
   ·cases h
  case h_13 => cases h
theorem evA {T : List V} {a : Act} {x : Operand} {y : A} {v : V} (hT : TR m T a.tmps) (hg : ∀ g,g < P.globals.size → m g = some (g,0,0))
  (hc : cA P x = some y) (hv : y.ev T = some v) : VR m v (a.eval x) := by
 cases x with
 | tmp t =>
  simp [cA] at hc; subst hc
  obtain ⟨z,h1,h2⟩ := VRL.get hT hv
  simp only [Act.eval]
  have : a.tmps.getD t undef = z := by
   rw [Array.getElem?_toList] at h1
   simp [Array.getD_eq_getD_getElem?,h1]
  rw [this]; exact h2
 | const c =>
  simp only [cA] at hc
  cases hy : vOf 64 c with
  | none => simp [hy] at hc
  | some u =>
   simp [hy] at hc; subst hc
   simp [A.ev] at hv; subst hv
   exact vOf_sound 64 c u hy
 | global g =>
  simp only [cA] at hc
  split at hc
  ·rename_i hlt
   cases hc
   simp [A.ev] at hv; subst hv
   exact ⟨g,0,0,hg g hlt,rfl⟩
  ·cases hc
 | func f =>
  simp [cA] at hc; subst hc
  simp [A.ev] at hv; subst hv
  exact ⟨[],[],rfl,rfl,rfl⟩
theorem evAs {T : List V} {a : Act} (hT : TR m T a.tmps) (hg : ∀ g,g < P.globals.size → m g = some (g,0,0)) : ∀ {xs : List Operand} {ys : List A} {vs : List V},
  cAs P xs = some ys → evs T ys = some vs → VRL m vs (xs.map a.eval)
 | [],ys,vs,hc,hv => by simp [cAs] at hc; subst hc; simp [evs] at hv; subst hv; rfl
 | x :: xs,ys,vs,hc,hv => by
  simp only [cAs] at hc
  split at hc
  ·rename_i y l h1 h2
   cases hc
   simp only [evs] at hv
   split at hv
   ·rename_i v vs' h3 h4
    cases hv
    exact VRL.cons (evA hT hg h1 h3) (evAs hT hg h2 h4)
   ·cases hv
  ·cases hc
def OptR (m : Mp) (v : Option V) (x : Option Value) : Prop :=
 match v with
 | none => x = none
 | some u => ∃ z,x = some z ∧ VR m u z
theorem evAo {T : List V} {a : Act} (hT : TR m T a.tmps) (hg : ∀ g,g < P.globals.size → m g = some (g,0,0)) {x : Option Operand} {y : Option A} {v : Option V}
  (hc : cAo P x = some y) (hv : evo T y = some v) : OptR m v (x.map a.eval) := by
 cases x with
 | none => simp [cAo] at hc; subst hc; simp [evo] at hv; subst hv; rfl
 | some x =>
  simp only [cAo] at hc
  cases h1 : cA P x with
  | none => simp [h1] at hc
  | some z =>
   simp [h1] at hc; subst hc
   simp only [evo] at hv
   split at hv
   ·rename_i u hu; cases hv; exact ⟨a.eval x,rfl,evA hT hg h1 hu⟩
   ·cases hv
theorem VR.one {v : V} {x : Value} (h : VR m v x) (ho : v.one = true) : x.oneCell' = true := by
 cases v with
 | bool b => cases h; rfl
 | int k n => cases h; rfl
 | str s => cases h; rfl
 | ptr a => cases a with
  | none => cases h; rfl
  | some a => obtain ⟨r,sh,e,_,rfl⟩ := h; rfl
 | slice a l c o => cases a with
  | none => cases h; rfl
  | some a => obtain ⟨r,sh,e,ad,_,rfl,_⟩ := h; rfl
 | map a => cases a with
  | none => cases h; rfl
  | some a => obtain ⟨r,sh,e,_,rfl⟩ := h; rfl
 | func f fs cs => obtain ⟨xs,ys,_,_,rfl⟩ := h; rfl
 | yield l => obtain ⟨r,sh,e,_,rfl⟩ := h; rfl
 | nilFunc => cases h; rfl
 | iface t v => obtain ⟨y,_,rfl⟩ := h; rfl
 | nilIface => cases h; rfl
 | agg cs => simp [V.one] at ho
 | tup cs => simp [V.one] at ho
 | junk => exact h.1
theorem VR.cells {v : V} {x : Value} (h : VR m v x) : VRL m v.cells x.cells.toList := by
 cases v with
 | agg cs => obtain ⟨ys,h1,rfl⟩ := h; simpa [V.cells,Value.cells] using h1
 | tup cs =>
  have h0 := h
  obtain ⟨ys,h1,rfl⟩ := h
  exact VRL.one h0
 | _ =>
  have h0 := h
  have ho := VR.one h rfl
  have hx : x.cells = #[x] := by cases x <;> first | rfl | simp [Value.oneCell'] at ho
  rw [hx]
  exact VRL.one h0
theorem cell_at {r o : Nat} {c : Array Value} {ty : TypeId} {fz : Nat × Nat} (hb : w.heap[r]? = some (.cells c ty fz)) : w.cell? ⟨r,o,none⟩ = c[o]? := by
 simp [World.cell?,hb]
theorem run_loadCellsFrom {r o : Nat} {c : Array Value} {ty : TypeId} {fz : Nat × Nat} (hb : w.heap[r]? = some (.cells c ty fz)) :
  ∀ (n i : Nat) (acc : Array Value),o + i + n ≤ c.size → (loadCellsFrom ⟨r,o,none⟩ i n acc).run P w = .ok (acc ++ ((c.toList.drop (o + i)).take n).toArray) w
 | 0,i,acc,_ => by simp [loadCellsFrom]
 | n + 1,i,acc,hn => by
  have hlt : o + i < c.size := by omega
  have hadd : Addr.add ⟨r,o,none⟩ i = ⟨r,o + i,none⟩ := by unfold Addr.add; split <;> simp_all
  have hc : w.cell? ⟨r,o + i,none⟩ = some c[o + i] := by rw [cell_at hb]; simp [hlt]
  simp only [loadCellsFrom,Sem.run_bind,run_load,hadd,hc,Result.andThen_ok]
  rw [run_loadCellsFrom hb n (i + 1) _ (by omega)]
  congr 1
  have hd : c.toList.drop (o + i) = c[o + i] :: c.toList.drop (o + (i + 1)) := by
   rw [← Array.getElem_toList hlt,show o + (i + 1) = (o + i) + 1 by omega]; exact List.drop_eq_getElem_cons (by simpa using hlt)
  rw [hd,List.take_succ_cons]
  simp
theorem run_loadCells {r o n : Nat} {c : Array Value} {ty : TypeId} {fz : Nat × Nat} (hb : w.heap[r]? = some (.cells c ty fz)) (hn : o + n ≤ c.size) :
  (loadCells ⟨r,o,none⟩ n).run P w = .ok ((c.toList.drop o).take n).toArray w := by
 simp only [loadCells]
 rw [run_loadCellsFrom hb n 0 #[] (by omega)]
 simp
theorem run_loadCells_zero (a : Addr) (w : World) : (loadCells a 0).run P w = .ok #[] w := by simp [loadCells,loadCellsFrom]
theorem getElem?_splice {α : Type} (l xs : List α) (k j : Nat) (hk : k + xs.length ≤ l.length) :
  (l.take k ++ xs ++ l.drop (k + xs.length))[j]? = if j < k then l[j]? else if j < k + xs.length then xs[j - k]? else l[j]? := by
 have h1 : (l.take k).length = k := by simp; omega
 by_cases hj : j < k
 ·rw [if_pos hj,List.append_assoc,List.getElem?_append_left (by omega)]
  rw [List.getElem?_take,if_pos hj]
 ·rw [if_neg hj,List.append_assoc,List.getElem?_append_right (by omega),h1]
  by_cases hj2 : j < k + xs.length
  ·rw [if_pos hj2,List.getElem?_append_left (by omega)]
  ·rw [if_neg hj2,List.getElem?_append_right (by omega),List.getElem?_drop]
   congr 1; omega
theorem run_storeCells {r o : Nat} {ty : TypeId} {fz : Nat × Nat} : ∀ (xs : List Value) (i : Nat) (c : Array Value) (w : World),
  w.heap[r]? = some (.cells c ty fz) → (∀ x ∈ xs,x.oneCell' = true) → o + i + xs.length ≤ c.size → (∀ j,o + i ≤ j → j < o + i + xs.length → ¬ (fz.1 ≤ j ∧ j < fz.2)) →
  ∃ w' c',(storeCells ⟨r,o,none⟩ xs i).run P w = .ok () w' ∧ Upd w r (.cells c' ty fz) w' ∧ c'.toList = c.toList.take (o + i) ++ xs ++ c.toList.drop (o + i + xs.length)
 | [],i,c,w,hb,_,_,_ => by
  refine ⟨w,c,by simp [storeCells],⟨rfl,hb,fun _ _ => rfl,rfl,rfl,rfl,Nat.le_refl _⟩,?_⟩
  simp
 | x :: xs,i,c,w,hb,h1,h2,h3 => by
  simp only [List.length_cons] at h2 h3
  have hlt : o + i < c.size := by omega
  have hadd : Addr.add ⟨r,o,none⟩ i = ⟨r,o + i,none⟩ := by unfold Addr.add; split <;> simp_all
  have hc : w.cell? ⟨r,o + i,none⟩ = some c[o + i] := by rw [cell_at hb]; simp [hlt]
  have hf : w.frozen? ⟨r,o + i,none⟩ = false := by
   have := h3 (o + i) (by omega) (by omega)
   simp only [World.frozen?,hb]
   obtain ⟨lo,hi⟩ := fz
   simp only at this ⊢
   simp; omega
  have hrs : r < w.heap.size := by
   rcases Nat.lt_or_ge r w.heap.size with h | h
   ·exact h
   ·simp [Array.getElem?_eq_none h] at hb
  have hset : (w.setCell ⟨r,o + i,none⟩ x).heap[r]? = some (.cells (c.setIfInBounds (o + i) x) ty fz) := by
   simp [World.setCell,Array.getElem?_modify,hb]
  have h4 : ∀ j,o + (i + 1) ≤ j → j < o + (i + 1) + xs.length → ¬ (fz.1 ≤ j ∧ j < fz.2) := fun j hj1 hj2 => h3 j (by omega) (by omega)
  obtain ⟨w',c',hr,hu,hl⟩ := run_storeCells xs (i + 1) (c.setIfInBounds (o + i) x) (w.setCell ⟨r,o + i,none⟩ x) hset (fun y hy => h1 y (List.mem_cons_of_mem _ hy))
   (by rw [Array.size_setIfInBounds]; omega) h4
  refine ⟨w',c',?_,?_,?_⟩
  ·simp only [storeCells,Sem.run_bind,hadd,run_store P w _ _ _ (h1 x (List.mem_cons_self ..)),hc,hf,Bool.false_eq_true,if_false,Result.andThen_ok]
   exact hr
  ·refine ⟨hu.size.trans (World.size_setCell _ _ _),hu.here,fun b hb' => ?_,hu.os,hu.output,hu.tape,hu.drawn⟩
   rw [hu.there b hb']
   simp [World.setCell,Array.getElem?_modify,Ne.symm hb']
  ·rw [hl]
   refine List.ext_getElem? fun j => ?_
   have e1 : o + (i + 1) = o + i + 1 := by omega
   rw [e1]
   rw [getElem?_splice (c.setIfInBounds (o + i) x).toList xs (o + i + 1) j (by simp; omega)]
   rw [getElem?_splice c.toList (x :: xs) (o + i) j (by simp; omega)]
   simp only [Array.toList_setIfInBounds,List.getElem?_set,Array.length_toList]
   have e2 : (x :: xs).length = xs.length + 1 := rfl
   by_cases a1 : j < o + i
   ·rw [if_pos (by omega),if_pos a1,if_neg (by omega)]
   ·rw [if_neg a1]
    by_cases a2 : j = o + i
    ·subst a2
     rw [if_pos (by omega),if_pos rfl,if_pos hlt,if_pos (by omega)]; simp
    ·rw [if_neg (by omega)]
     by_cases a3 : j < o + i + 1 + xs.length
     ·rw [if_pos a3,if_pos (by omega),show j - (o + i) = (j - (o + i + 1)) + 1 by omega,List.getElem?_cons_succ]
     ·rw [if_neg a3,if_neg (by omega),if_neg (by omega)]
end Go.AM
namespace Go.AM
def Yld (r : Result Next) (x : Value) (w' : World) : Prop := r = .ok (.value x) w' ∨ (r = .ok .skip w' ∧ x = undef)
def CallR (P : Program) (m : Mp) (w : World) (r : Result Next) (f : V) (args : List V) : Prop :=
 match f with
 | .func g fs cs => ∃ xs : List Value,VRL m (fs ++ args ++ cs) xs ∧ r = (callFunc g xs.toArray).run P w
 | .yield l => ∃ R sh e, ∃ xs : List Value,m l = some (R,sh,e) ∧ VRL m args xs ∧ r = (Instr.yield R xs.toArray).run P w
 | _ => True
def ResOK (P : Program) (m : Mp) (h : H) (w : World) (r : Result Next) : Res → Prop
 | .pur v => ∃ x,VR m v x ∧ Yld r x w
 | .rd v => ∃ x,VR m v x ∧ Yld r x w
 | .eff v h' => ∃ m' w' x,HR P m' h' w' ∧ Ext m h w m' h' w' ∧ VR m' v x ∧ Yld r x w'
 | .call f args => CallR P m w r f args
structure Cx (P : Program) (m : Mp) (h : H) (w : World) (T : List V) (a : Act) : Prop where
 tr : TR m T a.tmps
 hr : HR P m h w
def Snd (P : Program) (m : Mp) (h : H) (w : World) (T : List V) (a : Act) (o : Oper) (k : K) : Prop :=
 ∀ r,evK P T h k = some r → ResOK P m h w ((execOp a.eval o).run P w) r
variable {P : Program} {m : Mp} {h : H} {w : World} {T : List V} {a : Act} {o : Oper} {k : K}
theorem Cx.av (cx : Cx P m h w T a) {x : Operand} {y : A} {v : V} (hc : cA P x = some y) (hv : y.ev T = some v) : VR m v (a.eval x) := evA cx.tr cx.hr.glob hc hv
theorem Cx.avs (cx : Cx P m h w T a) {xs : List Operand} {ys : List A} {vs : List V} (hc : cAs P xs = some ys) (hv : evs T ys = some vs) : VRL m vs (xs.map a.eval) := evAs cx.tr cx.hr.glob hc hv
theorem pur_val {s : Sem Value} {v : V} {x : Value} (h1 : s.run P w = .ok x w) (hv : VR m v x) (he : execOp a.eval o = (do pure (Next.value (← s)))) :
  ResOK P m h w ((execOp a.eval o).run P w) (.pur v) := ⟨x,hv,.inl (by rw [he]; simp [h1])⟩
theorem rd_val {s : Sem Value} {v : V} {x : Value} (h1 : s.run P w = .ok x w) (hv : VR m v x) (he : execOp a.eval o = (do pure (Next.value (← s)))) :
  ResOK P m h w ((execOp a.eval o).run P w) (.rd v) := ⟨x,hv,.inl (by rw [he]; simp [h1])⟩
theorem snd_move (cx : Cx P m h w T a) {x : Operand} (ho : o.op = .move x ∨ o.op = .assign x) (hc : (cA P x).map K.mv = some k) : Snd P m h w T a o k := by
 intro r hr
 cases h1 : cA P x with
 | none => simp [h1] at hc
 | some y =>
  simp [h1] at hc; subst hc
  simp only [evK] at hr
  cases h2 : y.ev T with
  | none => simp [h2] at hr
  | some v =>
   simp [h2] at hr; subst hr
   refine ⟨a.eval x,cx.av h1 h2,.inl ?_⟩
   rcases ho with ho | ho <;> simp [execOp,ho]
theorem snd_pick (cx : Cx P m h w T a) {c x y : Operand} (ho : o.op = .pick c x y) (hc : cK P (.pick c x y) = some k) : Snd P m h w T a o k := by
 intro r hr
 simp only [cK] at hc
 split at hc <;> cases hc
 rename_i c' x' y' h1 h2 h3
 simp only [evK] at hr
 split at hr <;> cases hr
 rename_i b v u e1 e2 e3
 have hb : a.eval c = .bool b := cx.av h1 e1
 refine ⟨if b then a.eval x else a.eval y,?_,.inl ?_⟩
 ·cases b
  ·exact cx.av h3 e3
  ·exact cx.av h2 e2
 ·simp [execOp,ho,hb,asBool]
theorem snd_nilck (cx : Cx P m h w T a) {x : Operand} (ho : o.op = .nilCheck x) (hc : cK P (.nilCheck x) = some k) : Snd P m h w T a o k := by
 intro r hr
 simp only [cK] at hc
 cases h1 : cA P x with
 | none => simp [h1] at hc
 | some y =>
  simp [h1] at hc; subst hc
  simp only [evK] at hr
  split at hr <;> cases hr
  rename_i v n1 n2 n3 n4 e
  have hv := cx.av h1 e
  refine ⟨a.eval x,hv,.inl ?_⟩
  have : (execOp a.eval o) = pure (.value (a.eval x)) := by
   simp only [execOp,ho]
   cases v with
   | ptr p => cases p with
    | none => exact absurd rfl (n1 · )
    | some p => obtain ⟨r,sh,e,_,hx⟩ := hv; rw [hx]
   | nilFunc => exact absurd rfl (n3 ·)
   | nilIface => exact absurd rfl (n2 ·)
   | bool b => rw [show a.eval x = _ from hv]
   | int k n => rw [show a.eval x = _ from hv]
   | str s => rw [show a.eval x = _ from hv]
   | slice p l c q => cases p with
    | none => rw [show a.eval x = _ from hv]
    | some p => obtain ⟨r,sh,e,ad,_,hx,_⟩ := hv; rw [hx]
   | map p => cases p with
    | none => rw [show a.eval x = _ from hv]
    | some p => obtain ⟨r,sh,e,_,hx⟩ := hv; rw [hx]
   | func f fs cs => obtain ⟨xs,ys,_,_,hx⟩ := hv; rw [hx]
   | yield l => obtain ⟨r,sh,e,_,hx⟩ := hv; rw [hx]
   | iface t u => obtain ⟨y,_,hx⟩ := hv; rw [hx]
   | agg cs => obtain ⟨ys,_,hx⟩ := hv; rw [hx]
   | tup cs => obtain ⟨ys,_,hx⟩ := hv; rw [hx]
   | junk => exact absurd rfl (n4 ·)
  rw [this]; rfl
theorem snd_un (cx : Cx P m h w T a) {op : UnOp} {t : TypeId} {x : Operand} (ho : o.op = .unOp op t x) (hc : cK P (.unOp op t x) = some k) : Snd P m h w T a o k := by
 intro r hr
 simp only [cK] at hc
 cases h1 : cA P x with
 | none => simp [h1] at hc
 | some y =>
  simp [h1] at hc; subst hc
  simp only [evK] at hr
  split at hr
  ·rename_i v e
   have hv := cx.av h1 e
   cases hu : unV op v with
   | none => simp [hu] at hr
   | some u =>
    simp [hu] at hr; subst hr
    unfold unV at hu
    split at hu <;> cases hu
    ·refine pur_val (s := Op.unary .neg (a.eval x)) ?_ rfl (by simp [execOp,ho])
     rw [show a.eval x = _ from hv]; simp [Op.unary,Op.intArith]
    ·rename_i kd n
     refine pur_val (s := Op.unary .xor (a.eval x)) ?_ rfl (by simp [execOp,ho])
     rw [show a.eval x = _ from hv]; simp [Op.unary,Op.intBits]
    ·refine pur_val (s := Op.unary .not (a.eval x)) ?_ rfl (by simp [execOp,ho])
     rw [show a.eval x = _ from hv]; simp [Op.unary]
  ·cases hr
theorem snd_mkF (cx : Cx P m h w T a) {f : FuncId} {fs cs : Array Operand} (ho : o.op = .makeFunc (.func f) fs cs) (hc : cK P (.makeFunc (.func f) fs cs) = some k) : Snd P m h w T a o k := by
 intro r hr
 simp only [cK] at hc
 split at hc <;> cases hc
 rename_i fs' cs' h1 h2
 simp only [evK] at hr
 split at hr <;> cases hr
 rename_i vs us e1 e2
 refine pur_val (s := Instr.makeFunc (.func f) (fs.map a.eval) (cs.map a.eval)) (x := .func (.func f) (fs.map a.eval) (cs.map a.eval)) (by simp [Instr.makeFunc]) ?_ (by simp [execOp,ho])
 exact ⟨_,_,cx.avs h1 e1,cx.avs h2 e2,by rw [← Array.toList_map,← Array.toList_map]⟩
theorem snd_mkI (cx : Cx P m h w T a) {t : TypeId} {x : Operand} (ho : o.op = .makeInterface t x) (hc : cK P (.makeInterface t x) = some k) : Snd P m h w T a o k := by
 intro r hr
 simp only [cK] at hc
 split at hc
 ·cases hc
 ·rename_i d y n h1 h2
  cases hc
  simp only [evK] at hr
  cases e : y.ev T with
  | none => simp [e] at hr
  | some v =>
   simp [e] at hr; subst hr
   refine pur_val (s := Instr.makeInterface t (a.eval x)) (x := .iface t (a.eval x)) ?_ ⟨_,cx.av h2 e,rfl⟩ (by simp [execOp,ho])
   simp only [Instr.makeInterface,Sem.run_bind,run_underlying h1,Result.andThen_ok]
   cases d <;> first | rfl | exact (n _ rfl).elim
 ·cases hc
theorem snd_extract (cx : Cx P m h w T a) {x : Operand} {i : Nat} (ho : o.op = .extract x i) (hc : cK P (.extract x i) = some k) : Snd P m h w T a o k := by
 intro r hr
 simp only [cK] at hc
 cases h1 : cA P x with
 | none => simp [h1] at hc
 | some y =>
  simp [h1] at hc; subst hc
  simp only [evK] at hr
  split at hr
  ·rename_i vs e
   obtain ⟨ys,hys,hx⟩ := cx.av h1 e
   cases hv : vs[i]? with
   | none => simp [hv] at hr
   | some v =>
    simp [hv] at hr; subst hr
    obtain ⟨z,hz,hr⟩ := hys.get hv
    exact pur_val (s := Instr.extract (a.eval x) i) (x := z) (by rw [hx]; simp [Instr.extract,hz]) hr (by simp [execOp,ho])
  ·cases hr
theorem run_part {t : TypeId} {s : Nat} (hs : sizeT P t = some s) {cs : List V} {xs : List Value} (hc : VRL m cs xs) {off : Nat} {v : V} (hv : partV cs off s (aggT P t) = some v) :
  ∃ x,(part t xs.toArray off).run P w = .ok x w ∧ VR m v x := by
 simp only [part,Sem.run_bind,run_isAgg' hs,Result.andThen_ok,partV] at hv ⊢
 cases ha : aggT P t with
 | true =>
  simp only [ha,if_true] at hv ⊢
  cases hv
  refine ⟨.agg (xs.toArray.extract off (off + s)),by simp [run_sizeOf hs],?_⟩
  refine ⟨(xs.drop off).take s,hc.range off s,?_⟩
  congr 1
  apply Array.ext'
  simp [List.extract_eq_take_drop]
 | false =>
  simp only [ha,Bool.false_eq_true,if_false] at hv ⊢
  obtain ⟨x,hx,hr⟩ := hc.get hv
  exact ⟨x,by simp [hx],hr⟩
theorem snd_fld (cx : Cx P m h w T a) {t : TypeId} {x : Operand} {f : Nat} (ho : o.op = .field t x f) (hc : cK P (.field t x f) = some k) : Snd P m h w T a o k := by
 intro r hr
 simp only [cK] at hc
 split at hc
 ·rename_i fs y h1 h2
  split at hc
  ·rename_i fd h3
   cases h4 : sizeT P fd.type with
   | none => simp [h4] at hc
   | some s =>
    simp [h4] at hc; subst hc
    simp only [evK] at hr
    split at hr
    ·rename_i cs e
     obtain ⟨ys,hys,hx⟩ := cx.av h2 e
     cases hv : partV cs fd.offset s (aggT P fd.type) with
     | none => simp [hv] at hr
     | some v =>
      simp [hv] at hr; subst hr
      obtain ⟨z,hz,hzr⟩ := run_part (w := w) h4 hys hv
      exact pur_val (s := Instr.field t (a.eval x) f) (x := z) (by rw [hx]; simp [Instr.field,run_underlying h1,h3,asAgg,hz]) hzr (by simp [execOp,ho])
    ·cases hr
  ·cases hc
 ·cases hc
theorem snd_index (cx : Cx P m h w T a) {t : TypeId} {x i : Operand} (ho : o.op = .index t x i) (hc : cK P (.index t x i) = some k) : Snd P m h w T a o k := by
 intro r hr
 simp only [cK] at hc
 split at hc
 ·rename_i n e y j h1 h2 h3
  cases h4 : sizeT P e with
  | none => simp [h4] at hc
  | some s =>
   simp [h4] at hc; subst hc
   simp only [evK] at hr
   split at hr
   ·rename_i cs kd q e1 e2
    obtain ⟨ys,hys,hx⟩ := cx.av h2 e1
    have hi : a.eval i = .int kd q := cx.av h3 e2
    split at hr
    ·rename_i hq
     cases hv : partV cs (q.toNat * s) s (aggT P e) with
     | none => simp [hv] at hr
     | some v =>
      simp [hv] at hr; subst hr
      obtain ⟨z,hz,hzr⟩ := run_part (w := w) h4 hys hv
      exact pur_val (s := Instr.index t (a.eval x) (a.eval i)) (x := z) (by rw [hx,hi]; simp [Instr.index,asIntOf,run_underlying h1,hq,run_sizeOf h4,hz]) hzr (by simp [execOp,ho])
    ·cases hr
   ·cases hr
 ·rename_i y j h1 h2 h3
  cases hc
  simp only [evK] at hr
  split at hr
  ·rename_i s kd q e1 e2
   have hx : a.eval x = .string ⟨s.toArray⟩ := cx.av h2 e1
   have hi : a.eval i = .int kd q := cx.av h3 e2
   split at hr
   ·rename_i hq
    cases hv : s[q.toNat]? with
    | none => simp [hv] at hr
    | some b =>
     simp [hv] at hr; subst hr
     refine pur_val (s := Instr.index t (a.eval x) (a.eval i)) (x := .int .u8 b.toNat) ?_ rfl (by simp [execOp,ho])
     have hlt : q.toNat < s.length := by
      rcases Nat.lt_or_ge q.toNat s.length with h' | h'
      ·exact h'
      ·simp [List.getElem?_eq_none h'] at hv
     have hb : (⟨s.toArray⟩ : ByteArray)[q.toNat]? = some b := by
      rw [ByteArray.getElem?_lt' _ _ (by simpa [ByteArray.size] using hlt)]
      have : s[q.toNat]? = some s[q.toNat] := by simp [hlt]
      rw [this] at hv; cases hv; rfl
     rw [hx,hi]; simp [Instr.index,asIntOf,run_underlying h1,hq,hb]
   ·cases hr
  ·cases hr
 ·cases hc
end Go.AM
namespace Go.AM
variable {P : Program} {m : Mp} {h : H} {w : World} {T : List V} {a : Act} {o : Oper} {k : K}
theorem run_eqFields_of {D : Nat} {h : H} (hr : HR P m h w) : ∀ (fs : List Field) (e : EqT) (xs ys : List V) (rx ry : List Value) (b : Bool) (f : TypeId → Option EqT),
  (∀ t q (x y : V) (X Y : Value) (b : Bool),f t = some q → VR m x X → VR m y Y → eqV h q x y = some b → (Op.equalIn D t X Y).run P w = .ok b w) →
  eqFields P f fs = some e → VRL m xs rx → VRL m ys ry → eqV h e (.agg xs) (.agg ys) = some b → (Op.eqFields D rx.toArray ry.toArray fs).run P w = .ok b w
 | [],e,xs,ys,rx,ry,b,f,_,he,_,_,hb => by
  simp [eqFields] at he; subst he
  simp [eqV] at hb; subst hb
  rfl
 | fd :: fs,e,xs,ys,rx,ry,b,f,ih,he,hx,hy,hb => by
  simp only [eqFields] at he
  split at he
  ·cases he
  ·rename_i rest h1
   split at he
   ·rename_i hn
    cases he
    have := run_eqFields_of hr fs e xs ys rx ry b f ih h1 hx hy hb
    simp only [Op.eqFields,hn]; simpa using this
   ·rename_i hn
    split at he
    ·rename_i q s h2 h3
     cases he
     simp only [eqV] at hb
     split at hb
     ·rename_i u v e1 e2
      obtain ⟨U,hU,rU⟩ := run_part (w := w) h3 hx e1
      obtain ⟨W,hW,rW⟩ := run_part (w := w) h3 hy e2
      simp only [Op.eqFields,ne_eq,hn,not_false_eq_true,if_true,Sem.run_bind,hU,hW,Result.andThen_ok]
      split at hb
      ·rename_i e3
       rw [ih _ q u v U W true h2 rU rW e3]
       simp only [Result.andThen_ok,Bool.not_true,Bool.false_eq_true,if_false]
       exact run_eqFields_of hr fs rest xs ys rx ry b f ih h1 hx hy hb
      ·rename_i r e3
       cases b with
       | true => exact absurd hb (e3 ·)
       | false => rw [ih _ q u v U W false h2 rU rW hb]; simp
     ·cases hb
    ·cases he
theorem run_eqItems_of {D e s : Nat} {h : H} {q : EqT} (hs : sizeT P e = some s) {xs ys : List V} {rx ry : List Value} (hx : VRL m xs rx) (hy : VRL m ys ry)
  (ih : ∀ (x y : V) (X Y : Value) (b : Bool),VR m x X → VR m y Y → eqV h q x y = some b → (Op.equalIn D e X Y).run P w = .ok b w) : ∀ (n i : Nat) (b : Bool),
  allM (fun i => match partV xs (i * s) s (aggT P e),partV ys (i * s) s (aggT P e) with
   | some x,some y => eqV h q x y
   | _,_ => none) n i = some b → (Op.eqItems D e s rx.toArray ry.toArray (List.range' i n)).run P w = .ok b w
 | 0,i,b,hb => by simp [allM] at hb; subst hb; rfl
 | n + 1,i,b,hb => by
  simp only [allM] at hb
  rw [List.range'_succ]
  cases e1 : partV xs (i * s) s (aggT P e) with
  | none => simp [e1] at hb
  | some u =>
   cases e2 : partV ys (i * s) s (aggT P e) with
   | none => simp [e1,e2] at hb
   | some v =>
    simp only [e1,e2] at hb
    obtain ⟨U,hU,rU⟩ := run_part (w := w) hs hx e1
    obtain ⟨W,hW,rW⟩ := run_part (w := w) hs hy e2
    simp only [Op.eqItems,Sem.run_bind,hU,hW,Result.andThen_ok]
    split at hb
    ·rename_i e3
     rw [ih u v U W true rU rW e3]
     simp only [Result.andThen_ok,Bool.not_true,Bool.false_eq_true,if_false]
     exact run_eqItems_of hs hx hy ih n (i + 1) b hb
    ·rename_i r e3
     cases b with
     | true => exact absurd hb (e3 ·)
     | false => rw [ih u v U W false rU rW hb]; simp
theorem byteArray_beq (s t : List UInt8) : ((⟨s.toArray⟩ : ByteArray) == ⟨t.toArray⟩) = (s == t) := by
 rw [beq_toListBytes]; simp [ByteArray.toList_eq]
theorem frozen_zero {r o : Nat} {c : Array Value} {ty : TypeId} (hb : w.heap[r]? = some (.cells c ty (0,0))) : w.frozen? ⟨r,o,none⟩ = false := by
 simp [World.frozen?,hb]
theorem run_sameAddr {i j oi oj : Nat} {r sh e r' sh' e' : Nat} {b : Bool} (hr : HR P m h w) (h1 : m i = some (r,sh,e)) (h2 : m j = some (r',sh',e'))
  (hb : ptrEq h (i,oi) (j,oj) = some b) : (sameAddr ⟨r,sh + oi,none⟩ ⟨r',sh' + oj,none⟩).run P w = .ok b w := by
 unfold ptrEq at hb
 simp only at hb
 split at hb
 ·rename_i hij
  subst hij
  rw [h1] at h2; cases h2
  cases hb
  simp only [sameAddr,beq_self_eq_true,if_true,Sem.run_pure]
  congr 1
  rw [Bool.eq_iff_iff]; simp
 ·rename_i hij
  split at hb
  ·rename_i vs ty op vs' ty' op' g1 g2
   cases hb
   obtain ⟨a1,b1,c1,d1,e1,f1,c,fz,rfl,_,_,hz⟩ := hr.obj i _ g1 rfl
   obtain ⟨a2,b2,c2,d2,e2,f2,c',fz',rfl,_,_,hz'⟩ := hr.obj j _ g2 rfl
   have hz := hz rfl
   have hz' := hz' rfl
   simp only [FzOK] at hz hz'
   subst hz; subst hz'
   rw [h1] at e1; cases e1
   rw [h2] at e2; cases e2
   have hne : r ≠ r' := fun he => by
    subst he
    exact hij (hr.inj i j _ _ r sh e sh' e' g1 g2 rfl rfl h1 h2)
   have hs1 : w.shape? r = some (ty,c.size) := by simp [World.shape?,f1]
   have hs2 : w.shape? r' = some (ty',c'.size) := by simp [World.shape?,f2]
   simp [sameAddr,hne,frozen_zero f1,frozen_zero f2,noView,viewAt,hs1,hs2,mayBeOne,stringish]
  ·cases hb
theorem eqV_fnil {x y : V} {b : Bool} (hb : eqV h .fnil x y = some b) : ∃ xs ys,x = .agg xs ∧ y = .agg ys := by
 unfold eqV at hb; split at hb <;> simp_all
theorem eqV_fcons {p q : Nat} {g : Bool} {e r : EqT} {x y : V} {b : Bool} (hb : eqV h (.fcons p q g e r) x y = some b) : ∃ xs ys,x = .agg xs ∧ y = .agg ys := by
 unfold eqV at hb; split at hb <;> simp_all
theorem eqV_bool {x y : V} {b : Bool} (hb : eqV h .bool x y = some b) : ∃ p q,x = .bool p ∧ y = .bool q := by
 unfold eqV at hb; split at hb <;> simp_all
theorem eqV_int {x y : V} {b : Bool} (hb : eqV h .int x y = some b) : ∃ k p k' q,x = .int k p ∧ y = .int k' q := by
 unfold eqV at hb; split at hb <;> simp_all
theorem eqV_str {x y : V} {b : Bool} (hb : eqV h .str x y = some b) : ∃ p q,x = .str p ∧ y = .str q := by
 unfold eqV at hb; split at hb <;> simp_all
theorem eqV_ar {p q : Nat} {g : Bool} {e : EqT} {x y : V} {b : Bool} (hb : eqV h (.ar p q g e) x y = some b) : ∃ xs ys,x = .agg xs ∧ y = .agg ys := by
 unfold eqV at hb; split at hb <;> simp_all
set_option maxHeartbeats 1000000 in
theorem eqV_sound (hr : HR P m h w) : ∀ (d : Nat) (t : TypeId) (q : EqT) (x y : V) (X Y : Value) (b : Bool) (D : Nat),d ≤ D → eqT P d t = some q → VR m x X → VR m y Y →
  eqV h q x y = some b → (Op.equalIn D t X Y).run P w = .ok b w
 | 0,_,_,_,_,_,_,_,_,_,hq,_,_,_ => by simp [eqT] at hq
 | d + 1,t,q,x,y,X,Y,b,D,hD,hq,hx,hy,hb => by
  obtain ⟨D,rfl⟩ : ∃ D',D = D' + 1 := ⟨D - 1,by omega⟩
  have hD' : d ≤ D := by omega
  have ih := eqV_sound hr d
  simp only [eqT] at hq
  split at hq
  ·-- bool
   rename_i hu; cases hq
   obtain ⟨p,q,rfl,rfl⟩ := eqV_bool hb
   simp only [eqV] at hb; cases hb
   cases hx; cases hy
   exact run_equalIn_bool w D t _ _ hu
  ·rename_i hu; cases hq
   obtain ⟨k1,p,k2,q,rfl,rfl⟩ := eqV_int hb
   simp only [eqV] at hb
   cases hx; cases hy
   split at hb
   ·rename_i hk; subst hk; cases hb
    simp [Op.equalIn,run_underlying hu]
   ·cases hb
  ·rename_i hu; cases hq
   obtain ⟨p,q,rfl,rfl⟩ := eqV_str hb
   simp only [eqV] at hb; cases hb
   cases hx; cases hy
   simp [Op.equalIn,run_underlying hu,byteArray_beq]
  ·-- pointers
   rename_i e hu
   split at hq
   ·rename_i s hs
    cases hq
    cases x with
    | ptr p => cases y with
     | ptr q => cases p with
      | none =>
       simp only [eqV] at hb; cases hb
       cases hx
       cases q with
       | none => cases hy; simp [Op.equalIn,run_underlying hu]
       | some q => obtain ⟨r,sh,e,_,rfl⟩ := hy; simp [Op.equalIn,run_underlying hu]
      | some p => cases q with
       | none =>
        simp only [eqV] at hb; cases hb
        cases hy
        obtain ⟨r,sh,e,_,rfl⟩ := hx; simp [Op.equalIn,run_underlying hu]
       | some q =>
        simp only [eqV] at hb
        obtain ⟨i,oi⟩ := p
        obtain ⟨j,oj⟩ := q
        obtain ⟨r,sh,e,h1,rfl⟩ := hx
        obtain ⟨r',sh',e',h2,rfl⟩ := hy
        have := run_sameAddr hr h1 h2 hb
        simp [Op.equalIn,run_underlying hu,run_sizeOf hs,this]
     | _ => simp [eqV] at hb
    | _ => cases y <;> simp [eqV] at hb
   ·cases hq
  ·-- slices
   rename_i e hu; cases hq
   cases x with
   | slice p l c op => cases y with
    | slice q l' c' op' => cases p with
     | none =>
      simp only [eqV] at hb; cases hb
      cases hx
      cases q with
      | none => cases hy; simp [Op.equalIn,run_underlying hu]
      | some q => obtain ⟨r,sh,e,ad,_,rfl,_⟩ := hy; simp [Op.equalIn,run_underlying hu]
     | some p => cases q with
      | none =>
       simp only [eqV] at hb; cases hb
       cases hy
       obtain ⟨r,sh,e,ad,_,rfl,_⟩ := hx; simp [Op.equalIn,run_underlying hu]
      | some q => simp [eqV] at hb
    | _ => simp [eqV] at hb
   | _ => cases y <;> simp [eqV] at hb
  ·-- maps
   rename_i kt et hu; cases hq
   cases x with
   | map p => cases y with
    | map q => cases p with
     | none =>
      simp only [eqV] at hb; cases hb
      cases hx
      cases q with
      | none => cases hy; simp [Op.equalIn,run_underlying hu]
      | some q => obtain ⟨r,sh,e,_,rfl⟩ := hy; simp [Op.equalIn,run_underlying hu]
     | some p => cases q with
      | none =>
       simp only [eqV] at hb; cases hb
       cases hy
       obtain ⟨r,sh,e,_,rfl⟩ := hx; simp [Op.equalIn,run_underlying hu]
      | some q => simp [eqV] at hb
    | _ => simp [eqV] at hb
   | _ => cases y <;> simp [eqV] at hb
  ·-- functions
   rename_i u1 u2 u3 hu; cases hq
   cases x with
   | nilFunc => cases y with
    | nilFunc => simp only [eqV] at hb; cases hb; cases hx; cases hy; simp [Op.equalIn,run_underlying hu]
    | func f fs cs => simp only [eqV] at hb; cases hb; cases hx; obtain ⟨_,_,_,_,rfl⟩ := hy; simp [Op.equalIn,run_underlying hu]
    | yield l => simp only [eqV] at hb; cases hb; cases hx; obtain ⟨_,_,_,_,rfl⟩ := hy; simp [Op.equalIn,run_underlying hu]
    | _ => simp [eqV] at hb
   | func f fs cs => cases y with
    | nilFunc => simp only [eqV] at hb; cases hb; cases hy; obtain ⟨_,_,_,_,rfl⟩ := hx; simp [Op.equalIn,run_underlying hu]
    | _ => simp [eqV] at hb
   | yield l => cases y with
    | nilFunc => simp only [eqV] at hb; cases hb; cases hy; obtain ⟨_,_,_,_,rfl⟩ := hx; simp [Op.equalIn,run_underlying hu]
    | _ => simp [eqV] at hb
   | _ => cases y <;> simp [eqV] at hb
  ·-- interfaces
   rename_i ms hu; cases hq
   cases x with
   | nilIface => cases y with
    | nilIface => simp only [eqV] at hb; cases hb; cases hx; cases hy; simp [Op.equalIn,run_underlying hu]
    | iface t u => simp only [eqV] at hb; cases hb; cases hx; obtain ⟨_,_,rfl⟩ := hy; simp [Op.equalIn,run_underlying hu]
    | _ => simp [eqV] at hb
   | iface t u => cases y with
    | nilIface => simp only [eqV] at hb; cases hb; cases hy; obtain ⟨_,_,rfl⟩ := hx; simp [Op.equalIn,run_underlying hu]
    | iface t' u' =>
     simp only [eqV] at hb
     split at hb
     ·rename_i hne; cases hb; obtain ⟨_,_,rfl⟩ := hy; obtain ⟨_,_,rfl⟩ := hx; simp [Op.equalIn,run_underlying hu,hne]
     ·cases hb
    | _ => simp [eqV] at hb
   | _ => cases y <;> simp [eqV] at hb
  ·-- structs
   rename_i fs hu
   split at hq
   ·cases hq
   ·rename_i hst
    have hpf : P.fieldsOf t = fs := by simp [Program.fieldsOf,hu]
    have key : ∀ xs ys : List V,x = .agg xs → y = .agg ys → (Op.equalIn (D + 1) t X Y).run P w = .ok b w := by
     rintro xs ys rfl rfl
     obtain ⟨rx,hrx,rfl⟩ := hx
     obtain ⟨ry,hry,rfl⟩ := hy
     rw [run_equalIn_struct w D t _ _ (by rw [hpf]; exact hu) (by simpa using hst),hpf]
     exact run_eqFields_of hr fs.toList q xs ys rx ry b (eqT P d) (fun t q x y X Y b h1 h2 h3 h4 => ih t q x y X Y b D hD' h1 h2 h3 h4) hq hrx hry hb
    have hq2 : q = .fnil ∨ ∃ a b c d e,q = .fcons a b c d e := by
     clear hb key
     generalize fs.toList = l at hq
     induction l generalizing q with
     | nil => simp [eqFields] at hq; exact .inl hq.symm
     | cons f l ihl =>
      simp only [eqFields] at hq
      split at hq
      ·cases hq
      ·split at hq
       ·cases hq; rename_i h1 _ ; first | exact ihl _ h1 | exact ihl _ ‹_›
       ·split at hq
        ·cases hq; exact .inr ⟨_,_,_,_,_,rfl⟩
        ·cases hq
    rcases hq2 with rfl | ⟨_,_,_,_,_,rfl⟩
    ·obtain ⟨xs,ys,e1,e2⟩ := eqV_fnil hb; exact key xs ys e1 e2
    ·obtain ⟨xs,ys,e1,e2⟩ := eqV_fcons hb; exact key xs ys e1 e2
  ·-- arrays
   rename_i n e hu
   split at hq
   ·rename_i q' s h1 h2
    cases hq
    obtain ⟨ie,de,i1,i2,i3⟩ := sizeT_spec h2
    obtain ⟨xs,ys,rfl,rfl⟩ := eqV_ar hb
    simp only [eqV] at hb
    obtain ⟨rx,hrx,rfl⟩ := hx
    obtain ⟨ry,hry,rfl⟩ := hy
    rw [run_equalIn_array w D rx.toArray ry.toArray hu i1,sizeT_cells h2,List.range_eq_range']
    exact run_eqItems_of h2 hrx hry (fun x y X Y b a1 a2 a3 => ih e q' x y X Y b D hD' h1 a1 a2 a3) n 0 b hb
   ·cases hq
  ·cases hq
end Go.AM
namespace Go.AM
variable {P : Program} {m : Mp} {h : H} {w : World} {T : List V} {a : Act} {o : Oper} {k : K}
theorem run_eqGuard_ok {op : BinOp} {t : TypeId} {x y : Operand} {X Y : Value} (h1 : (X = .nilIface ∧ Y = .nilIface) → (isLit x || isLit y) = true)
    (h2 : ∀ c d,X = .agg c → Y = .agg d → P.eqGuardType P.depth t = false) (w : World) : (eqGuard op t x y X Y).run P w = .ok () w := by
  by_cases hn : X = .nilIface ∧ Y = .nilIface
  · obtain ⟨rfl,rfl⟩ := hn
    have hl := h1 ⟨rfl,rfl⟩
    clear h1 h2
    cases op <;> first
      | rfl
      | (cases x <;> cases y <;> first | rfl | (simp [isLit] at hl))
  · have hg : op = .eql ∨ op = .neq → (eqGuard op t x y X Y).run P w = .ok () w := fun hop => by
      cases X with
      | agg c => cases Y with
        | agg d => have := h2 c d rfl rfl; rcases hop with rfl | rfl <;> simp [eqGuard,this]
        | _ => rcases hop with rfl | rfl <;> rfl
      | nilIface => cases Y with
        | nilIface => exact absurd ⟨rfl,rfl⟩ hn
        | _ => rcases hop with rfl | rfl <;> rfl
      | _ => rcases hop with rfl | rfl <;> rfl
    cases op <;> first | exact hg (.inl rfl) | exact hg (.inr rfl) | rfl
theorem intOp_sound {op : BinOp} {kd : IntKind} {p q : Int} {v : V} (t : TypeId) (hv : intOp op kd p q = some v) (hs : op ≠ .shl ∧ op ≠ .shr) :
    ∃ x,(binOp op t (.int kd p) (.int kd q)).run P w = .ok x w ∧ VR m v x := by
  unfold intOp at hv
  split at hv <;> first
    | (cases hv; refine ⟨_,?_,rfl⟩; simp [binOp,Op.intArith,Op.intCmp,Op.intBits]; done)
    | (split at hv
       · cases hv
       · rename_i hq; cases hv; refine ⟨_,?_,rfl⟩; simp [binOp,Op.intDiv,hq])
    | cases hv
theorem shOp_sound {op : BinOp} {kd k' : IntKind} {p q : Int} {v : V} (t : TypeId) (hv : shOp op kd p q = some v) :
    ∃ x,(binOp op t (.int kd p) (.int k' q)).run P w = .ok x w ∧ VR m v x := by
  unfold shOp at hv
  split at hv
  · cases hv
  · rename_i hq
    split at hv <;> cases hv <;> exact ⟨_,by simp [binOp,Op.shift,hq],rfl⟩
theorem strOp_sound {op : BinOp} {p q : List UInt8} {v : V} (t : TypeId) (hv : strOp op p q = some v) :
    ∃ x,(binOp op t (.string ⟨p.toArray⟩) (.string ⟨q.toArray⟩)).run P w = .ok x w ∧ VR m v x := by
  unfold strOp at hv
  split at hv
  · split at hv
    · rename_i hl
      cases hv
      refine ⟨.string ⟨(p ++ q).toArray⟩,?_,rfl⟩
      have h1 : ¬ ((((⟨p.toArray⟩ : ByteArray).size + (⟨q.toArray⟩ : ByteArray).size : Nat) : Int) > IntKind.i64.max) := by
        simp [ByteArray.size,IntKind.max,IntKind.signed,IntKind.bits]; omega
      simp only [binOp,Op.stringOp,h1,if_false,Sem.run_pure]
      congr 2
    · cases hv
  all_goals first
    | (cases hv; refine ⟨_,?_,rfl⟩; simp [binOp,Op.stringOp,ByteArray.toList_eq]; done)
    | cases hv
theorem run_equalOp {u v : V} {X Y : Value} {q : EqT} {b : Bool} {t : TypeId} (hx : VR m u X) (hy : VR m v Y) (hb : eqV h q u v = some b)
    (n1 : ∀ k a k' b,u = .int k a → v = .int k' b → False) (n2 : ∀ a b,u = .str a → v = .str b → False) (hE : (Op.equal t X Y).run P w = .ok b w) :
    (binOp .eql t X Y).run P w = .ok (.bool b) w ∧ (binOp .neq t X Y).run P w = .ok (.bool !b) w := by
  have key : (binOp .eql t X Y = do pure (.bool (← Op.equal t X Y))) ∧ (binOp .neq t X Y = do pure (.bool (!(← Op.equal t X Y)))) := by
    cases u with
    | bool p => cases hx; exact ⟨rfl,rfl⟩
    | int k p =>
      exfalso
      clear hx hy hE
      unfold eqV at hb
      split at hb <;> first | exact n1 _ _ _ _ rfl rfl | simp_all
    | str p =>
      exfalso
      clear hx hy hE
      unfold eqV at hb
      split at hb <;> first | exact n2 _ _ rfl rfl | simp_all
    | ptr p => cases p with
      | none => cases hx; exact ⟨rfl,rfl⟩
      | some p => obtain ⟨_,_,_,_,rfl⟩ := hx; exact ⟨rfl,rfl⟩
    | slice p _ _ _ => cases p with
      | none => cases hx; exact ⟨rfl,rfl⟩
      | some p => obtain ⟨_,_,_,_,_,rfl,_⟩ := hx; exact ⟨rfl,rfl⟩
    | map p => cases p with
      | none => cases hx; exact ⟨rfl,rfl⟩
      | some p => obtain ⟨_,_,_,_,rfl⟩ := hx; exact ⟨rfl,rfl⟩
    | func f fs cs => obtain ⟨_,_,_,_,rfl⟩ := hx; exact ⟨rfl,rfl⟩
    | yield l => obtain ⟨_,_,_,_,rfl⟩ := hx; exact ⟨rfl,rfl⟩
    | nilFunc => cases hx; exact ⟨rfl,rfl⟩
    | iface t' z => obtain ⟨_,_,rfl⟩ := hx; exact ⟨rfl,rfl⟩
    | nilIface => cases hx; exact ⟨rfl,rfl⟩
    | agg cs => obtain ⟨_,_,rfl⟩ := hx; exact ⟨rfl,rfl⟩
    | tup cs => exfalso; unfold eqV at hb; split at hb <;> simp_all
    | junk => exfalso; unfold eqV at hb; split at hb <;> simp_all
  rw [key.1,key.2]
  simp [hE]
theorem VR.of_nilIface {v : V} (hv : VR m v .nilIface) : v = .nilIface := by
  cases v with
  | ptr p => cases p <;> simp [VR] at hv
  | slice p _ _ _ => cases p <;> simp [VR] at hv
  | map p => cases p <;> simp [VR] at hv
  | nilIface => rfl
  | _ => simp [VR] at hv
theorem VR.of_agg {v : V} {c : Array Value} (hv : VR m v (.agg c)) : ∃ xs,v = .agg xs := by
  cases v with
  | ptr p => cases p <;> simp [VR] at hv
  | slice p _ _ _ => cases p <;> simp [VR] at hv
  | map p => cases p <;> simp [VR] at hv
  | agg xs => exact ⟨xs,rfl⟩
  | junk => simp [VR,Value.oneCell'] at hv
  | _ => simp [VR] at hv
theorem eqT_agg {d : Nat} {t : TypeId} {q : EqT} {xs : List V} {v : V} {b : Bool} (hq : eqT P (d + 1) t = some q) (hb : eqV h q (.agg xs) v = some b) : aggT P t = true := by
  simp only [eqT] at hq
  unfold aggT
  split at hq
  case h_9 => rename_i hu; simp [hu]
  case h_10 => rename_i hu; simp [hu]
  case h_11 => cases hq
  case h_4 => split at hq <;> first | cases hq; done | (cases hq; exfalso; unfold eqV at hb; first | cases hb; done | (split at hb <;> simp_all))
  all_goals (cases hq; exfalso; unfold eqV at hb; first | cases hb; done | (split at hb <;> simp_all))
theorem snd_bin (cx : Cx P m h w T a) {op : BinOp} {t t' : TypeId} {x y : Operand} (ho : o.op = .binOp op t x y t') (hc : cK P (.binOp op t x y t') = some k) : Snd P m h w T a o k := by
  intro r hr
  simp only [cK] at hc
  split at hc <;> cases hc
  rename_i x' y' h1 h2
  simp only [evK] at hr
  split at hr
  · rename_i u v e1 e2
    have hx := cx.av h1 e1
    have hy := cx.av h2 e2
    have he : execOp a.eval o = (do pure (Next.value (← (do eqGuard op t x y (a.eval x) (a.eval y); binOp op t (a.eval x) (a.eval y))))) := by simp [execOp,ho]
    unfold binV at hr
    split at hr
    · rename_i kd p k' q
      rw [show a.eval x = _ from hx,show a.eval y = _ from hy] at he
      have hg : (eqGuard op t x y (.int kd p) (.int k' q)).run P w = .ok () w := run_eqGuard_ok (by simp) (by simp) w
      have sh : ∀ r,(shOp op kd p q).map Res.pur = some r → ResOK P m h w ((execOp a.eval o).run P w) r := fun r hr => by
        cases hv : shOp op kd p q with
        | none => simp [hv] at hr
        | some z =>
          simp [hv] at hr; subst hr
          obtain ⟨X,h3,h4⟩ := shOp_sound (P := P) (w := w) (m := m) (k' := k') t hv
          exact pur_val (x := X) (by simp [hg,h3]) h4 he
      split at hr
      · exact sh r hr
      · exact sh r hr
      · rename_i s1 s2
        split at hr
        · rename_i hk
          subst hk
          cases hv : intOp op kd p q with
          | none => simp [hv] at hr
          | some z =>
            simp [hv] at hr; subst hr
            obtain ⟨X,h3,h4⟩ := intOp_sound (P := P) (w := w) (m := m) t hv ⟨s1,s2⟩
            exact pur_val (x := X) (by simp [hg,h3]) h4 he
        · cases hr
    · rename_i p q
      rw [show a.eval x = _ from hx,show a.eval y = _ from hy] at he
      have hg : (eqGuard op t x y (.string ⟨p.toArray⟩) (.string ⟨q.toArray⟩)).run P w = .ok () w := run_eqGuard_ok (by simp) (by simp) w
      cases hv : strOp op p q with
      | none => simp [hv] at hr
      | some z =>
        simp [hv] at hr; subst hr
        obtain ⟨X,h3,h4⟩ := strOp_sound (P := P) (w := w) (m := m) t hv
        exact pur_val (x := X) (by simp [hg,h3]) h4 he
    · rename_i n1 n2
      split at hr
      · cases hr
      · rename_i q hq
        have hq' : eqT P 40 t = some q := by
          unfold eqTop at hq; split at hq
          · cases hq
          · exact hq
        have fin : ∀ b,eqV h q u v = some b → (u = .nilIface → v = .nilIface → (isLit x || isLit y) = true) →
            ((eqGuard op t x y (a.eval x) (a.eval y)).run P w = .ok () w ∧ (binOp .eql t (a.eval x) (a.eval y)).run P w = .ok (.bool b) w ∧ (binOp .neq t (a.eval x) (a.eval y)).run P w = .ok (.bool !b) w) := fun b hb hn => by
          have hE : (Op.equal t (a.eval x) (a.eval y)).run P w = .ok b w := eqV_sound cx.hr 40 t q u v _ _ b 10000 (by omega) hq' hx hy hb
          refine ⟨run_eqGuard_ok ?_ ?_ w,run_equalOp hx hy hb n1 n2 hE⟩
          · rintro ⟨ex,ey⟩
            exact hn (VR.of_nilIface (ex ▸ hx)) (VR.of_nilIface (ey ▸ hy))
          · intro c d ec _
            obtain ⟨xs,rfl⟩ := VR.of_agg (ec ▸ hx)
            have hag := eqT_agg hq' hb
            unfold eqTop at hq
            rw [hag] at hq
            simp only [Bool.true_and] at hq
            split at hq
            · cases hq
            · rename_i hgt; simpa using hgt
        split at hr
        · cases hr
        · rename_i u v _ _ _ nn
          have hn : u = .nilIface → v = .nilIface → (isLit x || isLit y) = true := fun e1 e2 => by
            cases hl : (isLit x || isLit y) with
            | true => rfl
            | false => exact (nn e1 e2 hl).elim
          split at hr <;> cases hr
          · rename_i b hb
            obtain ⟨f1,f2,f3⟩ := fin b hb hn
            exact rd_val (x := .bool b) (by simp [f1,f2]) rfl he
          · rename_i b hb
            obtain ⟨f1,f2,f3⟩ := fin b hb hn
            exact rd_val (x := .bool !b) (by simp [f1,f3]) rfl he
  · cases hr
end Go.AM
