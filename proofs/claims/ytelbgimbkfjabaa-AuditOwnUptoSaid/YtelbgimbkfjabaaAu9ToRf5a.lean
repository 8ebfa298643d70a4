/- My own texts, laid for this claim. -/
import Derived.Test.YtelbgimbkfjabaaAu2ToAu8
import Derived.Test.YtelbgimbkfjabaaTf7ToTf11
set_option linter.unusedSimpArgs false
set_option linter.unusedVariables false
namespace Go.AM.Sc
open Go.AM
variable {P : Program} {E : Env}
theorem wrapU {n : Int} (h0 : 0 ≤ n) (h1 : n ≤ 9223372036854775807) : IntKind.u64.wrap n = n := by
 have : IntKind.u64.wrap n = n % 18446744073709551616 := by
  simp [IntKind.wrap,IntKind.signed,IntKind.bits]
 rw [this]; omega
theorem wrapI {n : Int} (h0 : -9223372036854775808 ≤ n) (h1 : n ≤ 9223372036854775807) : IntKind.i64.wrap n = n := by
 have : IntKind.i64.wrap n = (n + 9223372036854775808) % 18446744073709551616 - 9223372036854775808 := by
  simp [IntKind.wrap,IntKind.signed,IntKind.bits,IntKind.max]
  omega
 rw [this]; omega
def okF (n : Int) : Bool := decide (0 ≤ n) && decide (n ≤ 1099511627776)
theorem okF_iff {n : Int} : okF n = true ↔ 0 ≤ n ∧ n ≤ 1099511627776 := by simp [okF]
theorem count30 (F : Fa E) {n : Int} {h : H} : Sp P E (.func 30 [] []) [iI n] h fun r h' => r = .bool (okF n) ∧ h' = h := by
 refine Sp_fn F.f30 F.p30 (by simp [fn30]) ?_
 by_cases h0 : n ≥ 0
 ·by_cases h1 : n ≤ 1099511627776
  ·simp only [GR,evK,binV,intOp,strOp,unV,Nat.reduceLT,Nat.reduceEqDiff,↓reduceIte,fn30,c30,r30_0,h0,h1]
   simp [okF,h0,h1]
  ·simp only [GR,evK,binV,intOp,strOp,unV,Nat.reduceLT,Nat.reduceEqDiff,↓reduceIte,fn30,c30,r30_0,h0,h1]
   simp [okF,h1]
 ·simp only [GR,evK,binV,intOp,strOp,unV,Nat.reduceLT,Nat.reduceEqDiff,↓reduceIte,fn30,c30,r30_0,h0]
  have : ¬ 0 ≤ n := h0
  simp [okF,this]
theorem starts27 (F : Fa E) {x : View} {h : H} : Sp P E (.func 27 [] []) [.agg x.cells] h fun r h' => r = .bool (okF x.first) ∧ Kp h h' := by
 have hk0 : Kp h (h.psh (.cells x.cells 63 false false none)) := Keeps.psh (Nat.le_refl _) _
 have gx := psh_same h (.cells x.cells 63 false false none)
 refine Sp_fn F.f27 F.p27 (by simp [fn27]) ?_
 by_cases h0 : x.first ≥ 0
 ·by_cases h1 : x.first ≤ 1099511627776
  ·simp only [GR,evK,binV,intOp,strOp,unV,Nat.reduceLT,Nat.reduceEqDiff,↓reduceIte,fn27,c27,r27_0,r27_1,gx,View.len,View.g6,h0,h1]
   exact ⟨by simp [okF,h0,h1],hk0⟩
  ·simp only [GR,evK,binV,intOp,strOp,unV,Nat.reduceLT,Nat.reduceEqDiff,↓reduceIte,fn27,c27,r27_0,r27_1,gx,View.len,View.g6,h0,h1]
   exact ⟨by simp [okF,h1],hk0⟩
 ·simp only [GR,evK,binV,intOp,strOp,unV,Nat.reduceLT,Nat.reduceEqDiff,↓reduceIte,fn27,c27,r27_0,r27_1,gx,View.len,View.g6,h0]
  have : ¬ 0 ≤ x.first := h0
  exact ⟨by simp [okF,this],hk0⟩
def Entry.zero : Entry := ⟨0,0,0,⟨0,0,0,0,0,[],[],[]⟩,0,0,sN,⟨0,⟨0,0,0,0,0,0,0,0⟩,⟨0,0,0,0,0,0,0,0⟩,⟨0,0,0,0,0,0,0,0⟩⟩,0,⟨0,0,0,0,0,0,0,0⟩,0,⟨0,0,0,sN⟩,0,0,0⟩
def atW (w : WV) (s : Int) : Option (Entry × DEnt) := if w.x.first ≤ s then w.es[(s - w.x.first).toNat]? else none
def entOf : Option (Entry × DEnt) → Entry
 | some p => p.1
 | none => Entry.zero
set_option maxHeartbeats 2000000 in
theorem at31 (F : Fa E) {w : WV} {s : Int} {h : H} (hw : VIn h w) (hf : okF w.x.first = true) (hs0 : -9223372036854775808 ≤ s) (hs1 : s ≤ 9223372036854775807) :
  Sp P E (.func 31 [] []) [.agg w.x.cells,iI s] h fun r h' => r = .tup [.agg (entOf (atW w s)).cells,.bool (atW w s).isSome] ∧ Kp h h' := by
 obtain ⟨f0,f1⟩ := okF_iff.1 hf
 have hl := hw.elen
 have hk0 : Kp h (h.psh (.cells w.x.cells 63 false false none)) := Keeps.psh (Nat.le_refl _) _
 have gx0 := psh_same h (.cells w.x.cells 63 false false none)
 generalize hh1 : h.psh (.cells w.x.cells 63 false false none) = h1 at *
 have hk1 : Kp h1 (h1.psh (.cells Entry.zero.cells 49 false false none)) := Keeps.psh (Nat.le_refl _) _
 have gx := Kp.of hk1 gx0
 have ge := psh_same h1 (.cells Entry.zero.cells 49 false false none)
 generalize hh2 : h1.psh (.cells Entry.zero.cells 49 false false none) = h2 at *
 have fl : ∀ z : Entry,z.cells.length = 56 := fun _ => rfl
 have p0 : ∀ z : Entry,List.take 56 z.cells = z.cells := fun _ => rfl
 have hle : h.size ≤ h1.size := hk0.size
 obtain ⟨a1,c1,o1,e1⟩ := hw.chosen.len
 rw [List.length_map] at e1
 have none_case : atW w s = none → ∀ ρ : Nat → V,ρ 4 = pP h1.size → XO P E none 32 r31_2 [.c .ret,.c (.seq (.region r31_3) (.ret))] ρ h2 (Fin [.c 4 56 true,.t 5] fun r h' => r = .tup [.agg (entOf (atW w s)).cells,.bool (atW w s).isSome] ∧ Kp h h') := by
  intro hn ρ q4
  rw [hn]
  obtain ⟨h3,e3,g3,k3,z3⟩ := put_ex (o := 0) (ws := Entry.zero.cells) ge (by rw [fl]; decide) (by decide) rfl
  have g3' : cC h3 h1.size Entry.zero.cells 49 := g3
  have k3' : Kp h h3 := Keeps.trans (n := h.size) (hk0.trans hk1) (k3.mono hle)
  have fz := fl Entry.zero
  have pz := p0 Entry.zero
  generalize hzc : Entry.zero.cells = zc at *
  rw [← hzc] at e3
  simp only [Entry.zero,Entry.cells,Opr.cells,Epoch.cells,Vec.cells,Part.cells] at e3
  simp only [GR,evK,binV,intOp,strOp,unV,Nat.reduceLT,Nat.reduceEqDiff,↓reduceIte,r31_2,q4,e3]
  rw [resVs_c (L := 32) (i := h1.size) (o := 0) (by decide) _ (by exact q4)]
  simp only [GR,evK,binV,intOp,strOp,unV,Nat.reduceLT,Nat.reduceEqDiff,↓reduceIte,g3',fz,pz]
  exact ⟨by rw [← hzc]; rfl,k3'⟩
 refine Sp_fn F.f31 F.p31 (by simp [fn31]) ?_
 have hh2' := hh2
 simp only [Entry.zero,Entry.cells,Opr.cells,Epoch.cells,Vec.cells,Part.cells] at hh2'
 by_cases hlt : s < w.x.first
 ·have hn : atW w s = none := by unfold atW; rw [if_neg (by omega)]
  simp only [GR,evK,binV,intOp,strOp,unV,Nat.reduceLT,Nat.reduceEqDiff,↓reduceIte,fn31,c31,r31_0,hh1,hh2',r31_1,gx,View.len,View.g6,hlt]
  exact none_case hn _ rfl
 ·have u1 : IntKind.u64.wrap s = s := wrapU (by omega) (by omega)
  have u2 : IntKind.u64.wrap w.x.first = w.x.first := wrapU f0 (by omega)
  have u3 : IntKind.u64.wrap (s - w.x.first) = s - w.x.first := wrapU (by omega) (by omega)
  have u4 : IntKind.u64.wrap (w.es.length : Int) = w.es.length := wrapU (by omega) (by omega)
  by_cases hge : s - w.x.first ≥ (w.es.length : Int)
  ·have hn : atW w s = none := by unfold atW; rw [if_pos (by omega)]; exact List.getElem?_eq_none (by omega)
   simp only [GR,evK,binV,intOp,strOp,unV,Nat.reduceLT,Nat.reduceEqDiff,↓reduceIte,fn31,c31,r31_0,hh1,hh2',r31_1,gx,View.len,View.g6,View.g7,e1,hlt,u1,u2,u3,u4,hge]
   exact none_case hn _ rfl
  ·obtain ⟨j,hj⟩ : ∃ j : Nat,s - w.x.first = j := ⟨(s - w.x.first).toNat,by omega⟩
   have hjl : j < w.es.length := by omega
   have hn : atW w s = some w.es[j] := by unfold atW; rw [if_pos (by omega),hj,Int.toNat_natCast,List.getElem?_eq_getElem hjl]
   have dx := hw.ents _ (List.getElem_mem hjl)
   obtain ⟨b,o,cap,opn,cs,ty,op,ro,fz,v1,hg,hll,he⟩ := (hw.chosen.keep (hk0.trans hk1)).get (k := j) (x := w.es[j].1.cells) (by simp [hjl])
   rw [List.length_map] at v1
   unfold getR at he
   have i3 : IntKind.i64.wrap (s - w.x.first) = (j : Int) := by rw [wrapI (by omega) (by omega),hj]
   obtain ⟨h3,e3,g3,k3,z3⟩ := put_ex (o := 0) (ws := w.es[j].1.cells) ge (by rw [fl,fl]; decide) dx.one rfl
   have g3' : h3.get h1.size = some (.cells w.es[j].1.cells 49 false false none) := g3
   have k3' : Kp h h3 := Keeps.trans (n := h.size) (hk0.trans hk1) (k3.mono hle)
   have flx := fl w.es[j].1
   have p0x := p0 w.es[j].1
   rw [hn]
   generalize hxc : w.es[j].1.cells = xc at *
   simp only [GR,evK,binV,intOp,strOp,unV,Nat.reduceLT,Nat.reduceEqDiff,↓reduceIte,fn31,c31,r31_0,hh1,hh2',r31_1,gx,View.len,View.g6,View.g7,e1,hlt,u1,u2,u3,u4,hge,r31_3]
   rw [← e1,v1]
   simp only [GR,evK,binV,intOp,strOp,unV,Nat.reduceLT,Nat.reduceEqDiff,↓reduceIte,hge,i3,hg,Int.ofNat_lt,hjl,Int.natCast_nonneg,Int.toNat_natCast,hll,he,flx,p0x,e3]
   rw [resVs_c (L := 32) (i := h1.size) (o := 0) (by decide) _ (by rfl)]
   simp only [GR,evK,binV,intOp,strOp,unV,Nat.reduceLT,Nat.reduceEqDiff,↓reduceIte,g3',flx,p0x]
   exact ⟨by rw [← hxc]; rfl,k3'⟩
def atR (w : WV) (s : Int) : Option (Entry × DEnt) := if okF w.x.first = true then atW w s else none
set_option maxHeartbeats 2000000 in
theorem at28 (F : Fa E) {w : WV} {s : Int} {h : H} (hw : VIn h w) (hs0 : -9223372036854775808 ≤ s) (hs1 : s ≤ 9223372036854775807) :
  Sp P E (.func 28 [] []) [.agg w.x.cells,iI s] h fun r h' => r = .tup [.agg (entOf (atR w s)).cells,.bool (atR w s).isSome] ∧ Kp h h' := by
 have hl := hw.elen
 have hk0 : Kp h (h.psh (.cells w.x.cells 63 false false none)) := Keeps.psh (Nat.le_refl _) _
 have gx0 := psh_same h (.cells w.x.cells 63 false false none)
 generalize hh1 : h.psh (.cells w.x.cells 63 false false none) = h1 at *
 have hk1 : Kp h1 (h1.psh (.cells Entry.zero.cells 49 false false none)) := Keeps.psh (Nat.le_refl _) _
 have gx1 := Kp.of hk1 gx0
 have ge1 := psh_same h1 (.cells Entry.zero.cells 49 false false none)
 generalize hh2 : h1.psh (.cells Entry.zero.cells 49 false false none) = h2 at *
 have fl : ∀ z : Entry,z.cells.length = 56 := fun _ => rfl
 have p0 : ∀ z : Entry,List.take 56 z.cells = z.cells := fun _ => rfl
 have p21 : ∀ z : View,List.take 21 z.cells = z.cells := fun _ => rfl
 have hle : h.size ≤ h1.size := hk0.size
 obtain ⟨a1,c1,o1,e1⟩ := hw.chosen.len
 rw [List.length_map] at e1
 refine Sp_fn F.f28 F.p28 (by simp [fn28]) ?_
 have hh2' := hh2
 simp only [Entry.zero,Entry.cells,Opr.cells,Epoch.cells,Vec.cells,Part.cells] at hh2'
 simp only [GR,evK,binV,intOp,strOp,unV,Nat.reduceLT,Nat.reduceEqDiff,↓reduceIte,fn28,c28,r28_0,hh1,hh2',r28_1,gx1,View.len,p21]
 refine XC_of (starts27 F) ?_
 rintro _ h4 ⟨rfl,k4⟩
 have gx := Kp.of k4 gx1
 have ge := Kp.of k4 ge1
 have kk := (hk0.trans hk1).trans k4
 have none_case : atR w s = none → ∀ ρ : Nat → V,ρ 4 = pP h1.size → XO P E none 34 r28_2 [.c .ret,.c (.seq (.region r28_3) (.ret))] ρ h4 (Fin [.c 4 56 true,.t 5] fun r h' => r = .tup [.agg (entOf (atR w s)).cells,.bool (atR w s).isSome] ∧ Kp h h') := by
  intro hn ρ q4
  rw [hn]
  obtain ⟨h3,e3,g3,k3,z3⟩ := put_ex (o := 0) (ws := Entry.zero.cells) ge (by rw [fl]; decide) (by decide) rfl
  have g3' : cC h3 h1.size Entry.zero.cells 49 := g3
  have k3' : Kp h h3 := Keeps.trans (n := h.size) kk (k3.mono hle)
  have fz := fl Entry.zero
  have pz := p0 Entry.zero
  generalize hzc : Entry.zero.cells = zc at *
  rw [← hzc] at e3
  simp only [Entry.zero,Entry.cells,Opr.cells,Epoch.cells,Vec.cells,Part.cells] at e3
  simp only [GR,evK,binV,intOp,strOp,unV,Nat.reduceLT,Nat.reduceEqDiff,↓reduceIte,r28_2,q4,e3]
  rw [resVs_c (L := 34) (i := h1.size) (o := 0) (by decide) _ (by exact q4)]
  simp only [GR,evK,binV,intOp,strOp,unV,Nat.reduceLT,Nat.reduceEqDiff,↓reduceIte,g3',fz,pz]
  exact ⟨by rw [← hzc]; rfl,k3'⟩
 cases hf : okF w.x.first with
 | false =>
  have hn : atR w s = none := by unfold atR; rw [hf]; rfl
  simp only [GR,evK,binV,intOp,strOp,unV,Nat.reduceLT,Nat.reduceEqDiff,↓reduceIte,Bool.not_false]
  exact none_case hn _ rfl
 | true =>
  obtain ⟨f0,f1⟩ := okF_iff.1 hf
  have hr : atR w s = atW w s := by unfold atR; rw [hf]; rfl
  by_cases hlt : s < w.x.first
  ·have hn : atR w s = none := by rw [hr]; unfold atW; rw [if_neg (by omega)]
   simp only [GR,evK,binV,intOp,strOp,unV,Nat.reduceLT,Nat.reduceEqDiff,↓reduceIte,Bool.not_true,gx,View.len,View.g6,hlt]
   exact none_case hn _ rfl
  ·have i0 : IntKind.i64.wrap (s - w.x.first) = s - w.x.first := wrapI (by omega) (by omega)
   by_cases hge : s - w.x.first ≥ (w.es.length : Int)
   ·have hn : atR w s = none := by rw [hr]; unfold atW; rw [if_pos (by omega)]; exact List.getElem?_eq_none (by omega)
    simp only [GR,evK,binV,intOp,strOp,unV,Nat.reduceLT,Nat.reduceEqDiff,↓reduceIte,Bool.not_true,gx,View.len,View.g6,View.g7,e1,hlt,i0,hge]
    exact none_case hn _ rfl
   ·obtain ⟨j,hj⟩ : ∃ j : Nat,s - w.x.first = j := ⟨(s - w.x.first).toNat,by omega⟩
    have hjl : j < w.es.length := by omega
    have hn : atR w s = some w.es[j] := by rw [hr]; unfold atW; rw [if_pos (by omega),hj,Int.toNat_natCast,List.getElem?_eq_getElem hjl]
    have dx := hw.ents _ (List.getElem_mem hjl)
    obtain ⟨b,o,cap,opn,cs,ty,op,ro,fz,v1,hg,hll,he⟩ := (hw.chosen.keep kk).get (k := j) (x := w.es[j].1.cells) (by simp [hjl])
    rw [List.length_map] at v1
    unfold getR at he
    have i3 : IntKind.i64.wrap (s - w.x.first) = (j : Int) := by rw [i0,hj]
    obtain ⟨h3,e3,g3,k3,z3⟩ := put_ex (o := 0) (ws := w.es[j].1.cells) ge (by rw [fl,fl]; decide) dx.one rfl
    have g3' : h3.get h1.size = some (.cells w.es[j].1.cells 49 false false none) := g3
    have k3' : Kp h h3 := Keeps.trans (n := h.size) kk (k3.mono hle)
    have flx := fl w.es[j].1
    have p0x := p0 w.es[j].1
    rw [hn]
    generalize hxc : w.es[j].1.cells = xc at *
    simp only [GR,evK,binV,intOp,strOp,unV,Nat.reduceLT,Nat.reduceEqDiff,↓reduceIte,Bool.not_true,gx,View.len,View.g6,View.g7,e1,hlt,i0,hge,r28_3]
    rw [← e1,v1]
    rw [hj]
    simp only [GR,evK,binV,intOp,strOp,unV,Nat.reduceLT,Nat.reduceEqDiff,↓reduceIte,hg,Int.ofNat_lt,hjl,Int.natCast_nonneg,Int.toNat_natCast,hll,he,flx,p0x,e3]
    rw [resVs_c (L := 34) (i := h1.size) (o := 0) (by decide) _ (by rfl)]
    simp only [GR,evK,binV,intOp,strOp,unV,Nat.reduceLT,Nat.reduceEqDiff,↓reduceIte,g3',flx,p0x]
    exact ⟨by rw [← hxc]; rfl,k3'⟩
def KC (h h' : H) : Prop := ∀ i vs ty op ro fz,h.get i = some (.cells vs ty op ro fz) → h'.get i = some (.cells vs ty op ro fz)
theorem KC.refl (h : H) : KC h h := fun _ _ _ _ _ _ x => x
theorem KC.trans {a b c : H} (x : KC a b) (y : KC b c) : KC a c := fun i vs ty op ro fz h => y i vs ty op ro fz (x i vs ty op ro fz h)
theorem KC.kp {h h' : H} (k : Kp h h') : KC h h' := fun _ _ _ _ _ _ x => k.of x
theorem Sl.kc {h h' : H} {sz : Nat} {v : V} {xs : List (List V)} (s : Sl h sz v xs) (hk : KC h h') : Sl h' sz v xs := by
 cases s with
 | nil a cap opn => exact .nil a cap opn
 | «at» b o cap opn xs vs ty op ro fz hg hl he => exact .at b o cap opn xs vs ty op ro fz (hk _ _ _ _ _ _ hg) hl he
theorem Str.kc {h h' : H} {v : V} {s : List UInt8} (a : Str h v s) (hk : KC h h') : Str h' v s := by
 rcases a with a | ⟨p,n,c,o,cs,h1,h2,h3⟩
 ·exact .inl a
 ·refine .inr ⟨p,n,c,o,cs,h1,?_,h3⟩
  obtain ⟨i,q⟩ := p
  by_cases hn : n * 1 = 0
  ·simp only [elemsV,hn,if_true] at h2 ⊢; exact h2
  ·simp only [elemsV,hn,if_false] at h2 ⊢
   split at h2
   ·rename_i vs ty op ro fz hg
    rw [hk _ _ _ _ _ _ hg]
    exact h2
   ·cases h2
theorem EIn.kc {h h' : H} {x : Entry} {d : DEnt} (a : EIn h x d) (hk : KC h h') : EIn h' x d := ⟨a.flat,Sl.kc a.ops hk,a.len,Str.kc a.dat hk,a.dlen⟩
theorem Sl.elems {h : H} {sz : Nat} {v : V} {xs : List (List V)} (s : Sl h sz v xs) (hx : ∀ x ∈ xs,x.length = sz) : elemsV h sz xs.length v = some xs.flatten := by
 cases s with
 | nil a cap opn =>
  cases a with
  | none => simp [elemsV]
  | some p => obtain ⟨i,o⟩ := p; simp [elemsV]
 | «at» b o cap opn _ vs ty op ro fz hg hl he =>
  have key : ∀ m,m ≤ xs.length → getR vs o (m * sz) = (xs.take m).flatten := by
   intro m
   induction m with
   | zero => intro _; simp [getR]
   | succ m ih =>
    intro hm
    have h1 := ih (by omega)
    have h2 := he m xs[m] (by simp)
    rw [List.take_succ_eq_append_getElem (by omega),List.flatten_append,← h1]
    have : getR vs o ((m + 1) * sz) = getR vs o (m * sz) ++ getR vs (o + m * sz) sz := by
     unfold getR
     rw [show (m + 1) * sz = m * sz + sz by rw [Nat.add_mul,Nat.one_mul],List.take_add,List.drop_drop]
    rw [this,h2]
    simp
  have hk := key xs.length (Nat.le_refl _)
  rw [List.take_length] at hk
  simp only [elemsV,hg]
  by_cases h0 : xs.length * sz = 0
  ·rw [if_pos h0]
   rw [h0] at hk
   rw [← hk]; simp [getR]
  ·rw [if_neg h0,if_pos hl,hk]
def cutB (h : H) (b : Nat) : H := if b < h.size then h.set b .dead else h
theorem cutB_lt {h : H} {b : Nat} (hb : b < h.size) : cutB h b = h.set b .dead := if_pos hb
theorem cutB_kc (h : H) (b : Nat) : KC (cutB h b) h := by
 intro i vs ty op ro fz hg
 unfold cutB at hg
 split at hg
 ·rename_i hb
  by_cases hi : b = i
  ·subst hi; rw [hset_same hb] at hg; cases hg
  ·rw [hset_other hb hi] at hg; exact hg
 ·exact hg
theorem cutB_kp {h h' : H} (hk : Kp h h') {b : Nat} (hb : b < h.size) : KC (cutB h b) (cutB h' b) := by
 intro i vs ty op ro fz hg
 have hi := H.get_lt (cutB_kc h b i _ _ _ _ _ hg)
 have hb' : b < h'.size := Nat.lt_of_lt_of_le hb hk.size
 rw [cutB_lt hb] at hg
 rw [cutB_lt hb']
 by_cases hib : b = i
 ·subst hib; rw [hset_same hb] at hg; cases hg
 ·rw [hset_other hb hib] at hg
  rw [hset_other hb' hib]
  exact hk.of hg
def cutV (h : H) : V → H
 | .slice (some (b,_)) _ _ _ => cutB h b
 | _ => h
theorem cut_kc (h : H) (v : V) : KC (cutV h v) h := by
 unfold cutV
 split
 ·exact cutB_kc _ _
 ·exact KC.refl _
theorem Acc.lt {h : H} {lo ty sz : Nat} {v : V} {xs : List (List V)} (a : Acc h lo ty sz v xs) {b q n c : Nat} {o : Bool} (hv : v = .slice (some (b,q)) n c o) : b < h.size := by
 rcases a.shape with ⟨_,rfl⟩ | ⟨b',rfl,_,h3⟩
 ·cases hv
 ·cases hv; exact H.get_lt h3
theorem cut_kp {h h' : H} (hk : Kp h h') {lo ty sz : Nat} {v : V} {xs : List (List V)} (a : Acc h lo ty sz v xs) : KC (cutV h v) (cutV h' v) := by
 unfold cutV
 split
 ·exact cutB_kp hk (Acc.lt a rfl)
 ·exact KC.kp hk
theorem app_one {h : H} {lo ty sz bytes : Nat} {v x : V} {xs : List (List V)} {y : List V} (a : Acc h lo ty sz v xs) (hlo : lo ≤ h.size) (hl : lenV x = some 1) (he : elemsV h sz 1 x = some y)
  (hy : y.length = sz ∧ y.all V.one = true) (hb : xs.length + 1 ≤ 1099511627776 ∧ (2 * (xs.length + 1) + 1024) * bytes ≤ 281474976710656) :
  ∃ v' h',appV h ty sz bytes v x = some (.eff v' h') ∧ Acc h' lo ty sz v' (xs ++ [y]) ∧ Keeps lo h h' ∧ KC (cutV h v) (cutV h' v') := by
 have hall : ∀ z ∈ xs ++ [y],z.length = sz ∧ z.all V.one = true := fun z hz => (List.mem_append.1 hz).elim (a.elem z) fun hz => by rw [List.mem_singleton.1 hz]; exact hy
 have news : ∀ (h : H) (o : Obj),KC h (cutB (h.psh o) h.size) := by
  intro h o i vs ty op ro fz hg
  have hi := H.get_lt hg
  rw [cutB_lt (by rw [psh_size]; omega),hset_other (by rw [psh_size]; omega) (by omega),H.get_psh,if_neg (by omega)]
  exact hg
 rcases a.shape with ⟨rfl,rfl⟩ | ⟨b,rfl,h2,h3⟩
 ·refine ⟨.slice (some (h.size,0)) 1 1 true,h.psh (.cells y ty true false none),?_,⟨.inr ⟨h.size,by simp,hlo,by rw [psh_same]; simp⟩,hall⟩,Keeps.psh hlo _,news h _⟩
  simp only [List.length_nil,Nat.zero_add] at hb
  have h1 : ¬ (1 : Nat) ≤ 0 := by omega
  have hb2 : 2 * 1 + 1024 = 1026 := rfl
  unfold appV
  simp only [hl,he,Nat.zero_add,h1,if_false,hb,and_self,if_true,push_eq]
  simp [elemsV]
 ·have hbs := H.get_lt h3
  have hfl := flatten_length a.elem
  refine ⟨.slice (some (h.size,0)) (xs.length + 1) (xs.length + 1) true,(h.set b .dead).psh (.cells (xs.flatten ++ y) ty true false none),?_,⟨.inr ⟨h.size,by simp,hlo,?_⟩,hall⟩,?_,?_⟩
  ·have h1 : ¬ xs.length + 1 ≤ xs.length := by omega
   have h4 : 0 + xs.length * sz = xs.flatten.length := by rw [hfl]; omega
   unfold appV
   simp only [hl,he,h1,if_false,hb,and_self,if_true,h3,Nat.le_refl,h4,hy.2,fzFree]
   simp only [push_eq,Option.map_none]
   rw [getR_all (by rw [hfl])]
  ·have := psh_same (h.set b .dead) (.cells (xs.flatten ++ y) ty true false none)
   rw [H.set_size] at this
   rw [this]; simp
  ·exact (Keeps.set hbs h2 _).trans (Keeps.psh (by rw [H.set_size]; exact hlo) _)
  ·show KC (cutB h b) (cutB ((h.set b .dead).psh (.cells (xs.flatten ++ y) ty true false none)) h.size)
   rw [cutB_lt hbs]
   exact news (h.set b .dead) _
def KL (lo : Nat) (h h' : H) : Prop := ∀ i vs ty op ro fz,lo ≤ i → h.get i = some (.cells vs ty op ro fz) → h'.get i = some (.cells vs ty op ro fz)
theorem KL.kp {h h' : H} (k : Kp h h') (lo : Nat) : KL lo h h' := fun _ _ _ _ _ _ _ x => k.of x
theorem KL.set {lo b : Nat} {h : H} (hb : b < lo) (hlt : b < h.size) (o : Obj) : KL lo h (h.set b o) := fun i _ _ _ _ _ hi x => by rw [hset_other hlt (by omega)]; exact x
theorem KL.trans {lo : Nat} {a b c : H} (x : KL lo a b) (y : KL lo b c) : KL lo a c := fun i vs ty op ro fz hi h => y i vs ty op ro fz hi (x i vs ty op ro fz hi h)
theorem KL.cut {lo b : Nat} {h : H} (hb : b < lo) : KL lo h (cutB h b) := by
 unfold cutB
 split
 ·rename_i hlt; exact KL.set hb hlt _
 ·exact fun _ _ _ _ _ _ _ x => x
def SlF (lo : Nat) (h : H) (v : V) (sz : Nat) (xs : List (List V)) : Prop := (∃ a c o,v = .slice a 0 c o ∧ xs = []) ∨ ∃ b ty,lo ≤ b ∧ v = .slice (some (b,0)) xs.length xs.length true ∧ h.get b = some (.cells xs.flatten ty true false none)
def DFr (lo : Nat) (h : H) (v : V) (s : List UInt8) : Prop := (∃ a c o,v = .slice a 0 c o ∧ s = []) ∨ ∃ b ty cs,lo ≤ b ∧ v = .slice (some (b,0)) cs.length cs.length true ∧ h.get b = some (.cells cs ty true false none) ∧ bytesV cs = some s
theorem SlF.mv {lo : Nat} {h h' : H} {v : V} {sz : Nat} {xs : List (List V)} (a : SlF lo h v sz xs) (k : KL lo h h') : SlF lo h' v sz xs := by
 rcases a with a | ⟨b,ty,h1,h2,h3⟩
 ·exact .inl a
 ·exact .inr ⟨b,ty,h1,h2,k _ _ _ _ _ _ h1 h3⟩
theorem SlF.lo {lo lo' : Nat} {h : H} {v : V} {sz : Nat} {xs : List (List V)} (a : SlF lo h v sz xs) (k : lo' ≤ lo) : SlF lo' h v sz xs := by
 rcases a with a | ⟨b,ty,h1,h2,h3⟩
 ·exact .inl a
 ·exact .inr ⟨b,ty,Nat.le_trans k h1,h2,h3⟩
theorem DFr.mv {lo : Nat} {h h' : H} {v : V} {s : List UInt8} (a : DFr lo h v s) (k : KL lo h h') : DFr lo h' v s := by
 rcases a with a | ⟨b,ty,cs,h1,h2,h3,h4⟩
 ·exact .inl a
 ·exact .inr ⟨b,ty,cs,h1,h2,k _ _ _ _ _ _ h1 h3,h4⟩
theorem DFr.lo {lo lo' : Nat} {h : H} {v : V} {s : List UInt8} (a : DFr lo h v s) (k : lo' ≤ lo) : DFr lo' h v s := by
 rcases a with a | ⟨b,ty,cs,h1,h2,h3,h4⟩
 ·exact .inl a
 ·exact .inr ⟨b,ty,cs,Nat.le_trans k h1,h2,h3,h4⟩
theorem flat_get {sz : Nat} : ∀ (l : List (List V)) (k : Nat) (x : List V),(∀ y ∈ l,y.length = sz) → l[k]? = some x → (l.flatten.drop (k * sz)).take sz = x
 | [],k,x,_,hk => by simp at hk
 | y :: l,k,x,hl,hk => by
  have hy := hl y List.mem_cons_self
  cases k with
  | zero =>
   simp only [List.getElem?_cons_zero,Option.some.injEq] at hk
   subst hk
   rw [Nat.zero_mul,List.drop_zero,List.flatten_cons,← hy,List.take_left']
   rfl
  | succ k =>
   simp only [List.getElem?_cons_succ] at hk
   have := flat_get l k x (fun z hz => hl z (List.mem_cons_of_mem _ hz)) hk
   rw [List.flatten_cons,show (k + 1) * sz = y.length + k * sz by rw [Nat.add_mul,hy]; omega,← List.drop_drop,List.drop_left']
   ·exact this
   ·rfl
theorem flat_len {sz : Nat} : ∀ (l : List (List V)),(∀ y ∈ l,y.length = sz) → l.flatten.length = l.length * sz
 | [],_ => by simp
 | y :: l,h => by
  rw [List.flatten_cons,List.length_append,flat_len l fun z hz => h z (List.mem_cons_of_mem _ hz),h y List.mem_cons_self,List.length_cons,Nat.add_mul]; omega
theorem SlF.sl {lo : Nat} {h : H} {v : V} {sz : Nat} {xs : List (List V)} (a : SlF lo h v sz xs) (hx : ∀ x ∈ xs,x.length = sz) : Sl h sz v xs := by
 rcases a with ⟨a,c,o,rfl,rfl⟩ | ⟨b,ty,h1,rfl,h3⟩
 ·exact .nil _ _ _
 ·refine .at b 0 _ _ xs _ _ _ _ _ h3 (by rw [flat_len xs hx]; omega) fun k x hk => ?_
  unfold getR
  rw [Nat.zero_add]
  exact flat_get xs k x hx hk
theorem DFr.str {lo : Nat} {h : H} {v : V} {s : List UInt8} (a : DFr lo h v s) : Str h v s := by
 rcases a with ⟨a,c,o,rfl,rfl⟩ | ⟨b,ty,cs,h1,rfl,h3,h4⟩
 ·cases a with
  | none => exact .inl ⟨_,_,rfl,rfl⟩
  | some p =>
   obtain ⟨i,q⟩ := p
   exact .inr ⟨(i,q),0,c,o,[],rfl,by simp [elemsV],rfl⟩
 ·refine .inr ⟨(b,0),cs.length,cs.length,true,cs,rfl,?_,h4⟩
  simp only [elemsV,h3,Nat.mul_one,Nat.zero_add,Nat.le_refl,if_true]
  by_cases h0 : cs.length = 0
  ·rw [if_pos h0,List.eq_nil_of_length_eq_zero h0]
  ·rw [if_neg h0,getR_all rfl]
structure EFr (lo : Nat) (h : H) (x : Entry) (d : DEnt) : Prop where
 flat : flatOf x = d.flat
 ops : SlF lo h x.ops 8 (d.ops.map Opr.cells)
 len : d.ops.length ≤ 1048576
 dat : DFr lo h x.part.data d.data
 dlen : d.data.length ≤ 1048576
theorem opr_len {xs : List Opr} : ∀ x ∈ xs.map Opr.cells,x.length = 8 := by
 intro x hx
 obtain ⟨y,_,rfl⟩ := List.mem_map.1 hx
 rfl
theorem EFr.ein {lo : Nat} {h : H} {x : Entry} {d : DEnt} (a : EFr lo h x d) : EIn h x d := ⟨a.flat,a.ops.sl opr_len,a.len,a.dat.str,a.dlen⟩
theorem EFr.mv {lo : Nat} {h h' : H} {x : Entry} {d : DEnt} (a : EFr lo h x d) (k : KL lo h h') : EFr lo h' x d := ⟨a.flat,a.ops.mv k,a.len,a.dat.mv k,a.dlen⟩
theorem EFr.cut {lo b : Nat} {h : H} {x : Entry} {d : DEnt} (a : EFr lo h x d) (hb : b < lo) : EIn (cutB h b) x d := (a.mv (KL.cut hb)).ein
theorem app_mk {h : H} {ty sz bytes n : Nat} {base : Option (Nat × Nat)} {x : V} {ys : List V} (hl : lenV x = some n) (he : elemsV h sz n x = some ys) (hb : n ≤ 1099511627776 ∧ (2 * n + 1024) * bytes ≤ 281474976710656) :
  ∃ v' h',appV h ty sz bytes (.slice base 0 0 false) x = some (.eff v' h') ∧ Kp h h' ∧ ((n = 0 ∧ ∃ a,v' = .slice a 0 0 false) ∨ (0 < n ∧ v' = .slice (some (h.size,0)) n n true ∧ h'.get h.size = some (.cells ys ty true false none))) := by
 by_cases hn : n = 0
 ·subst hn
  have : ys = [] := by
   cases x with
   | slice a m c o =>
    cases a with
    | none => simp [elemsV] at he; exact he
    | some p => obtain ⟨i,q⟩ := p; simp [elemsV] at he; exact he
   | str s => simp [elemsV] at he; exact he.2
   | _ => simp [elemsV] at he
  subst this
  refine ⟨.slice base 0 0 false,h,?_,Keeps.refl _ _,.inl ⟨rfl,_,rfl⟩⟩
  unfold appV
  cases base with
  | none => simp [hl,he]
  | some p => obtain ⟨i,q⟩ := p; simp [hl,he,putCells]
 ·refine ⟨.slice (some (h.size,0)) n n true,h.psh (.cells ys ty true false none),?_,Keeps.psh (Nat.le_refl _) _,.inr ⟨by omega,rfl,psh_same _ _⟩⟩
  have h1 : ¬ n ≤ 0 := by omega
  unfold appV
  simp only [hl,he,Nat.zero_add,h1,if_false,hb,and_self,if_true,push_eq]
  cases base with
  | none => simp [elemsV]
  | some p => obtain ⟨i,q⟩ := p; simp [elemsV]
theorem elems_len {h : H} {sz n : Nat} {v : V} {ys : List V} {a : Option (Nat × Nat)} {m c : Nat} {o : Bool} (hv : v = .slice a m c o) (he : elemsV h sz n v = some ys) : ys.length = n * sz := by
 subst hv
 cases a with
 | none =>
  simp only [elemsV] at he
  split at he
  ·rename_i h0; cases he; rw [h0]; rfl
  ·cases he
 | some p =>
  obtain ⟨i,q⟩ := p
  simp only [elemsV] at he
  split at he
  ·rename_i h0; cases he; rw [h0]; rfl
  ·split at he
   ·split at he
    ·rename_i hle
     cases he
     unfold getR
     rw [List.length_take,List.length_drop]; omega
    ·cases he
   ·cases he
theorem bytesV_len : ∀ {cs : List V} {s : List UInt8},bytesV cs = some s → cs.length = s.length
 | [],s,h => by simp [bytesV] at h; subst h; rfl
 | c :: cs,s,h => by
  unfold bytesV at h
  split at h
  ·rename_i e; cases e
  ·rename_i n r e
   cases e
   split at h
   ·rename_i bs e2
    cases h
    simp [bytesV_len e2]
   ·cases h
  ·cases h
variable {P : Program} {E : Env} {ro : Option Nat} {L : Nat} {K : List Fr} {ρ : Nat → V} {h : H} {Q : Po}
def r23_0 : List O := [⟨some 2,.mv (.k (.ptr none)),none,0,[2]⟩,
 ⟨some 3,.mv (.k (.bool false)),none,1,[3]⟩]
def r23_1 : List O := [⟨some 13,.call (.k (.func 44 [] [])) [],none,0,[13]⟩,
 om 4 13 1]
def r23_2 : List O := [om 14 5 0,
 om 15 0 0,
 oL 16 15 2,
 olt 17 14 16 7]
def r23_3 : List O := [om 20 0 0,
 om 21 5 0,
 oi 22 4 20 21 3,
 oN 23 4 22 7,
 ⟨some 6,.alloc 67 [(iI 0),(iI 0),(.str []),sN],none,0,[6]⟩,
 ost 4 6 23 31]
def r23_4 : List O := [oa 24 0 6 0,
 ol 25 24 1,
 ⟨some 26,.bin .eql (some .int) true (.t 25) (.k (iI 1)),none,3,[26,25]⟩,
 om 27 26 7,
 oaf 28 0 6 27 15,
 olf 29 28 27 31,
 ⟨some 30,.bin .eql (some .int) true (.t 29) (.k (iI 2)),some (27,false),63,[30,27,29]⟩,
 ⟨some 31,.pick (.t 27) (.k (.bool true)) (.t 30),none,127,[31,27,30]⟩,
 om 7 31 255]
def r23_5 : List O := [oa 32 0 6 0,
 ol 33 32 1,
 ⟨some 34,.bin .lss (some .int) true (.t 33) (.k (iI 1)),none,3,[34,33]⟩,
 om 35 34 7,
 ⟨some 36,.mv (.t 5),some (35,false),15,[36,35,5]⟩,
 ⟨some 37,.bin .gtr (some .int) true (.t 36) (.k (iI 0)),some (35,false),31,[37,35,36]⟩,
 ⟨some 38,.mv (.t 37),some (35,false),63,[38,35,37]⟩,
 oag 39 0 6 38 127,
 olg 40 39 38 255,
 og 41 0 38 127,
 og 42 5 38 127,
 ⟨some 43,.bin .sub (some .int) true (.t 42) (.k (iI 1)),some (38,true),1151,[43,38,42]⟩,
 oig 44 4 41 43 38 3711,
 oag 45 0 44 38 7807,
 olg 46 45 38 15999,
 ⟨some 47,.bin .leq (some .int) false (.t 40) (.t 46),some (38,true),32767,[47,38,40,46]⟩,
 ⟨some 48,.pick (.t 38) (.t 47) (.k (.bool false)),some (35,false),65535,[48,35,38,47]⟩,
 ⟨some 49,.pick (.t 35) (.k (.bool true)) (.t 48),none,131071,[49,35,48]⟩,
 om 50 49 262143,
 oaf 51 3 6 50 524287,
 olf 52 51 50 1048575,
 ⟨some 53,.call (.k (.func 45 [] [])) [(.t 52)],some (50,false),2097151,[53,50,52]⟩,
 ⟨some 54,.un .not (.t 53),some (50,false),4194303,[54,50,53]⟩,
 ⟨some 55,.pick (.t 50) (.k (.bool true)) (.t 54),none,8388607,[55,50,54]⟩,
 om 56 55 16777215,
 ⟨some 57,.mv (.t 7),some (56,false),33554431,[57,56,7]⟩,
 ⟨some 58,.mv (.t 57),some (56,false),67108863,[58,56,57]⟩,
 oag 59 1 6 58 134217727,
 olg 60 59 58 268435455,
 ⟨some 61,.bin .neq (some .int) true (.t 60) (.k (iI 0)),some (58,true),536870911,[61,58,60]⟩,
 og 62 61 58 1073741823,
 oaf 63 2 6 62 2147483647,
 olf 64 63 62 4294967295,
 ⟨some 65,.bin .neq (some .str) true (.t 64) (.k (.str [])),some (62,false),8589934591,[65,62,64]⟩,
 ⟨some 66,.pick (.t 62) (.k (.bool true)) (.t 65),some (58,true),17179869183,[66,58,62,65]⟩,
 ⟨some 67,.pick (.t 58) (.t 66) (.k (.bool false)),some (56,false),34359738367,[67,56,58,66]⟩,
 ⟨some 68,.pick (.t 56) (.k (.bool true)) (.t 67),none,68719476735,[68,56,67]⟩,
 om 69 68 137438953471,
 ⟨some 70,.mv (.t 7),some (69,false),274877906943,[70,69,7]⟩,
 ⟨some 71,.un .not (.t 70),some (69,false),549755813887,[71,69,70]⟩,
 ⟨some 72,.mv (.t 71),some (69,false),1099511627775,[72,69,71]⟩,
 oag 73 2 6 72 2199023255551,
 olg 74 73 72 4398046511103,
 ⟨some 75,.call (.k (.func 46 [] [])) [(.t 74)],some (72,true),8796093022207,[75,72,74]⟩,
 ong 76 75 72 17592186044415,
 ⟨some 77,.pick (.t 72) (.t 76) (.k (.bool false)),some (69,false),35184372088831,[77,69,72,76]⟩,
 ⟨some 78,.pick (.t 69) (.k (.bool true)) (.t 77),none,70368744177663,[78,69,77]⟩]
theorem d23_5 (hx : XDO P E ro L r23_5 K ρ h Q) : XD P E ro L r23_5 K ρ h Q := XD_ord rfl hx
def r23_6 : List O := [⟨some 2,.mv (.k (.ptr none)),none,0,[2]⟩,
 ⟨some 3,.mv (.k (.bool false)),none,1,[3]⟩]
def r23_7 : List O := [om 79 4 0,
 oN 80 4 6 0,
 ⟨some 81,.call (.k (.func 47 [] [])) [(.t 79),(.t 80)],none,3,[81,79,80]⟩]
def r23_8 : List O := [om 18 5 0,
 op1 19 18 1,
 om 5 19 3]
abbrev e23_9 : C := .seq (.seq (.region r23_2) (.cond (.t 17) (.skip) (.exit 0))) (.seq (.block 1 (.seq (.region r23_3) (.seq (.region r23_4) (.seq (.seq (.draw r23_5) (.cond (.t 78) (.seq (.region r23_6) (.ret)) (.skip))) (.region r23_7))))) (.region r23_8))
def b23_9 : C := e23_9
theorem u23_9 : XL P E ro L b23_9 K ρ h Q = X P E ro L (.c e23_9 :: .l b23_9 :: K) ρ h Q := XL_unroll b23_9
def r23_10 : List O := [om 82 4 0,
 om 83 4 0,
 ⟨some 84,.nilck (.t 83),none,2,[84,83]⟩,
 oa 85 0 84 6,
 ol 86 85 14,
 ⟨some 87,.call (.k (.func 48 [] [])) [(.t 86)],none,30,[87,86]⟩,
 ⟨some 88,.nilck (.t 82),none,63,[88,82]⟩,
 oa 89 0 88 127,
 ost 1 89 87 255]
def r23_11 : List O := [om 90 8 0,
 om 91 4 0,
 ⟨some 92,.nilck (.t 91),none,2,[92,91]⟩,
 oa 93 0 92 6,
 ol 94 93 14,
 oL 95 94 30,
 olt 96 90 95 63]
def r23_12 : List O := [om 99 4 0,
 ⟨some 100,.nilck (.t 99),none,1,[100,99]⟩,
 oa 101 0 100 3,
 ol 102 101 7,
 om 103 8 0,
 oi 104 4 102 103 31,
 oa 105 0 104 63,
 ol 106 105 127,
 om 9 106 255]
def r23_13 : List O := [om 107 9 0,
 ⟨some 108,.bin .neq (some .int) true (.t 107) (.k (iI 1)),none,1,[108,107]⟩,
 om 109 108 3,
 og 110 9 109 7,
 ⟨some 111,.bin .neq (some .int) true (.t 110) (.k (iI 2)),some (109,true),15,[111,109,110]⟩,
 oe 112 111 109 31]
def r23_14 : List O := [om 116 4 0,
 om 117 9 0,
 ⟨some 118,.call (.k (.func 49 [] [])) [(.t 116),(.t 117)],none,3,[118,116,117]⟩,
 om 115 118 7,
 ox 119 115 0 15,
 ox 120 115 1 15,
 om 11 119 31,
 om 12 120 127]
def r23_15 : List O := [om 121 12 0,
 ono 122 121 1,
 om 123 122 3,
 ⟨some 124,.mv (.t 10),some (123,false),7,[124,123,10]⟩,
 ⟨some 125,.mv (.t 4),some (123,false),7,[125,123,4]⟩,
 ⟨some 126,.nilck (.t 125),some (123,false),23,[126,123,125]⟩,
 oaf 127 0 126 123 55,
 olf 128 127 123 119,
 ⟨some 129,.lenL (.t 128),some (123,false),247,[129,123,128]⟩,
 ⟨some 130,.bin .gtr (some .int) false (.t 124) (.t 129),some (123,false),511,[130,123,124,129]⟩,
 ⟨some 131,.pick (.t 123) (.k (.bool true)) (.t 130),none,1023,[131,123,130]⟩]
def r23_16 : List O := [⟨some 2,.mv (.k (.ptr none)),none,0,[2]⟩,
 ⟨some 3,.mv (.k (.bool false)),none,1,[3]⟩]
def r23_17 : List O := [om 132 4 0,
 ⟨some 133,.nilck (.t 132),none,1,[133,132]⟩,
 oa 134 0 133 3,
 ol 135 134 7,
 om 136 11 0,
 oi 137 4 135 136 31,
 oa 138 1 137 63,
 ol 139 138 127,
 om 9 139 255]
def r23_18 : List O := [om 113 10 0,
 op1 114 113 1,
 om 10 114 3]
abbrev e23_19 : C := .seq (.seq (.region r23_13) (.cond (.t 112) (.skip) (.exit 4))) (.seq (.block 5 (.seq (.region r23_14) (.seq (.seq (.region r23_15) (.cond (.t 131) (.seq (.region r23_16) (.ret)) (.skip))) (.region r23_17)))) (.region r23_18))
def b23_19 : C := e23_19
theorem u23_19 : XL P E ro L b23_19 K ρ h Q = X P E ro L (.c e23_19 :: .l b23_19 :: K) ρ h Q := XL_unroll b23_19
def r23_20 : List O := [om 97 8 0,
 op1 98 97 1,
 om 8 98 3]
abbrev e23_21 : C := .seq (.seq (.region r23_11) (.cond (.t 96) (.skip) (.exit 2))) (.seq (.block 3 (.seq (.region r23_12) (.seq (.region [⟨some 10,.mv (.k (iI 0)),none,0,[10]⟩]) (.block 4 (.loop b23_19))))) (.region r23_20))
def b23_21 : C := e23_21
theorem u23_21 : XL P E ro L b23_21 K ρ h Q = X P E ro L (.c e23_21 :: .l b23_21 :: K) ρ h Q := XL_unroll b23_21
def r23_22 : List O := [om 140 4 0,
 om 2 140 1,
 ⟨some 3,.mv (.k (.bool true)),none,3,[3]⟩]
def c23 : C := .seq (.region r23_0) (.seq (.region r23_1) (.seq (.seq (.region [⟨some 5,.mv (.k (iI 0)),none,0,[5]⟩]) (.block 0 (.loop b23_9))) (.seq (.region r23_10) (.seq (.seq (.region [⟨some 8,.mv (.k (iI 0)),none,0,[8]⟩]) (.block 2 (.loop b23_21))) (.seq (.region r23_22) (.ret))))))
def fn23 : Fn := ⟨141,[.t 2,.t 3],c23⟩
def r44_0 : List O := [⟨some 1,.build [(iI 0),(iI 0),(.str []),sN] [(0,1,(.k (iI 1)))],none,0,[1]⟩,
 ⟨some 2,.build [(iI 0),(iI 0),(.str []),sN] [(0,1,(.k (iI 2)))],none,0,[2]⟩,
 ⟨some 3,.bslice 67 2 [(iI 0),(iI 0),(.str []),sN,(iI 0),(iI 0),(.str []),sN] [(0,4,(.t 1)),(4,4,(.t 2))],none,3,[3,1,2]⟩,
 ⟨some 4,.build [sN,sN] [(0,1,(.t 3))],none,7,[4,3]⟩,
 ⟨some 5,.box 97 (.t 4),none,15,[5,4]⟩,
 om 0 5 31]
def c44 : C := .seq (.region [⟨some 0,.mv (.k (.ptr none)),none,0,[0]⟩]) (.seq (.region r44_0) (.ret))
def fn44 : Fn := ⟨6,[.t 0],c44⟩
def r45_0 : List O := [om 4 3 0,
 om 5 0 0,
 oL 6 5 2,
 olt 7 4 6 7]
def r45_1 : List O := [om 10 0 0,
 om 11 3 0,
 oi 12 2 10 11 3,
 oa 13 0 12 7,
 ol 14 13 15,
 ⟨some 15,.bin .eql (some .str) true (.t 14) (.k (.str [])),none,31,[15,14]⟩,
 om 16 15 63,
 ⟨some 17,.mv (.t 0),some (16,false),127,[17,16,0]⟩,
 ⟨some 18,.mv (.t 3),some (16,false),127,[18,16,3]⟩,
 ⟨some 19,.iadrL 2 (.t 17) (.t 18),some (16,false),511,[19,16,17,18]⟩,
 oaf 20 0 19 16 1023,
 olf 21 20 16 2047,
 ⟨some 22,.lenS (.t 21),some (16,false),4095,[22,16,21]⟩,
 ⟨some 23,.bin .gtr (some .int) true (.t 22) (.k (iI 255)),some (16,false),8191,[23,16,22]⟩,
 ⟨some 24,.pick (.t 16) (.k (.bool true)) (.t 23),none,16383,[24,16,23]⟩,
 om 25 24 32767,
 ⟨some 26,.mv (.t 0),some (25,false),65535,[26,25,0]⟩,
 ⟨some 27,.mv (.t 3),some (25,false),65535,[27,25,3]⟩,
 ⟨some 28,.iadrL 2 (.t 26) (.t 27),some (25,false),262143,[28,25,26,27]⟩,
 oaf 29 1 28 25 524287,
 olf 30 29 25 1048575,
 ⟨some 31,.bin .eql (some .str) true (.t 30) (.k (.str [])),some (25,false),2097151,[31,25,30]⟩,
 ⟨some 32,.pick (.t 25) (.k (.bool true)) (.t 31),none,4194303,[32,25,31]⟩,
 om 33 32 8388607,
 ⟨some 34,.mv (.t 0),some (33,false),16777215,[34,33,0]⟩,
 ⟨some 35,.mv (.t 3),some (33,false),16777215,[35,33,3]⟩,
 ⟨some 36,.iadrL 2 (.t 34) (.t 35),some (33,false),67108863,[36,33,34,35]⟩,
 oaf 37 1 36 33 134217727,
 olf 38 37 33 268435455,
 ⟨some 39,.lenS (.t 38),some (33,false),536870911,[39,33,38]⟩,
 ⟨some 40,.bin .gtr (some .int) true (.t 39) (.k (iI 255)),some (33,false),1073741823,[40,33,39]⟩,
 ⟨some 41,.pick (.t 33) (.k (.bool true)) (.t 40),none,2147483647,[41,33,40]⟩,
 om 42 41 4294967295,
 ⟨some 43,.mv (.t 3),some (42,false),8589934591,[43,42,3]⟩,
 ⟨some 44,.bin .gtr (some .int) true (.t 43) (.k (iI 0)),some (42,false),17179869183,[44,42,43]⟩,
 ⟨some 45,.mv (.t 44),some (42,false),34359738367,[45,42,44]⟩,
 og 46 0 45 68719476735,
 og 47 3 45 68719476735,
 oig 48 2 46 47 45 274877906943,
 oag 49 0 48 45 549755813887,
 olg 50 49 45 1099511627775,
 og 51 0 45 68719476735,
 og 52 3 45 68719476735,
 ⟨some 53,.bin .sub (some .int) true (.t 52) (.k (iI 1)),some (45,true),4466765987839,[53,45,52]⟩,
 oig 54 2 51 53 45 15461882265599,
 oag 55 0 54 45 33054068310015,
 olg 56 55 45 68238440398847,
 ⟨some 57,.bin .leq (some .str) false (.t 50) (.t 56),some (45,true),140737488355327,[57,45,50,56]⟩,
 ⟨some 58,.pick (.t 45) (.t 57) (.k (.bool false)),some (42,false),281474976710655,[58,42,45,57]⟩,
 ⟨some 59,.pick (.t 42) (.k (.bool true)) (.t 58),none,562949953421311,[59,42,58]⟩]
theorem d45_1 : XD P E ro L r45_1 K ρ h Q = XO P E ro L r45_1 K ρ h Q := XD_still rfl
def r45_2 : List O := [om 8 3 0,
 op1 9 8 1,
 om 3 9 3]
abbrev e45_3 : C := .seq (.seq (.region r45_0) (.cond (.t 7) (.skip) (.exit 0))) (.seq (.block 1 (.seq (.draw r45_1) (.cond (.t 59) (.seq (.region [⟨some 2,.mv (.k (.bool false)),none,0,[2]⟩]) (.ret)) (.skip)))) (.region r45_2))
def b45_3 : C := e45_3
theorem u45_3 : XL P E ro L b45_3 K ρ h Q = X P E ro L (.c e45_3 :: .l b45_3 :: K) ρ h Q := XL_unroll b45_3
def c45 : C := .seq (.region [⟨some 2,.mv (.k (.bool false)),none,0,[2]⟩]) (.seq (.seq (.region [⟨some 3,.mv (.k (iI 0)),none,0,[3]⟩]) (.block 0 (.loop b45_3))) (.seq (.region [⟨some 2,.mv (.k (.bool true)),none,0,[2]⟩]) (.ret)))
def fn45 : Fn := ⟨60,[.t 2],c45⟩
def r46_0 : List O := [om 4 0 0,
 ⟨some 5,.bin .eql (some .str) true (.t 4) (.k (.str [])),none,1,[5,4]⟩,
 om 6 5 3,
 ⟨some 7,.mv (.t 0),some (6,false),7,[7,6,0]⟩,
 ⟨some 8,.lenS (.t 7),some (6,false),15,[8,6,7]⟩,
 ⟨some 9,.bin .gtr (some .int) true (.t 8) (.k (iI 255)),some (6,false),31,[9,6,8]⟩,
 ⟨some 10,.pick (.t 6) (.k (.bool true)) (.t 9),none,63,[10,6,9]⟩,
 om 11 10 127,
 ⟨some 12,.mv (.t 0),some (11,false),255,[12,11,0]⟩,
 ⟨some 13,.bin .eql (some .str) true (.t 12) (.k (.str [46])),some (11,false),511,[13,11,12]⟩,
 ⟨some 14,.pick (.t 11) (.k (.bool true)) (.t 13),none,1023,[14,11,13]⟩,
 om 15 14 2047,
 ⟨some 16,.mv (.t 0),some (15,false),4095,[16,15,0]⟩,
 ⟨some 17,.bin .eql (some .str) true (.t 16) (.k (.str [46,46])),some (15,false),8191,[17,15,16]⟩,
 ⟨some 18,.pick (.t 15) (.k (.bool true)) (.t 17),none,16383,[18,15,17]⟩]
def r46_1 : List O := [om 19 3 0,
 om 20 0 0,
 ⟨some 21,.lenS (.t 20),none,2,[21,20]⟩,
 olt 22 19 21 7]
def r46_2 : List O := [om 25 0 0,
 om 26 3 0,
 ⟨some 27,.idxS (.t 25) (.t 26),none,3,[27,25,26]⟩,
 ⟨some 28,.bin .eql (some .int) true (.t 27) (.k (.int .u8 47)),none,7,[28,27]⟩]
def r46_3 : List O := [om 23 3 0,
 op1 24 23 1,
 om 3 24 3]
abbrev e46_4 : C := .seq (.seq (.region r46_1) (.cond (.t 22) (.skip) (.exit 0))) (.seq (.block 1 (.seq (.region r46_2) (.cond (.t 28) (.seq (.region [⟨some 2,.mv (.k (.bool false)),none,0,[2]⟩]) (.ret)) (.skip)))) (.region r46_3))
def b46_4 : C := e46_4
theorem u46_4 : XL P E ro L b46_4 K ρ h Q = X P E ro L (.c e46_4 :: .l b46_4 :: K) ρ h Q := XL_unroll b46_4
def c46 : C := .seq (.region [⟨some 2,.mv (.k (.bool false)),none,0,[2]⟩]) (.seq (.seq (.region r46_0) (.cond (.t 18) (.seq (.region [⟨some 2,.mv (.k (.bool false)),none,0,[2]⟩]) (.ret)) (.skip))) (.seq (.seq (.region [⟨some 3,.mv (.k (iI 0)),none,0,[3]⟩]) (.block 0 (.loop b46_4))) (.seq (.region [⟨some 2,.mv (.k (.bool true)),none,0,[2]⟩]) (.ret))))
def fn46 : Fn := ⟨29,[.t 2],c46⟩
def r47_0 : List O := [om 8 0 0,
 oa 9 0 3 0,
 ol 10 9 2,
 ⟨some 11,.call (.k (.func 49 [] [])) [(.t 8),(.t 10)],none,7,[11,8,10]⟩,
 om 7 11 15,
 ox 12 7 0 31,
 ox 13 7 1 31,
 om 4 12 63,
 om 5 13 255]
def r47_1 : List O := [om 15 0 0,
 ⟨some 16,.nilck (.t 15),none,1,[16,15]⟩,
 oa 17 0 16 3,
 ol 18 17 7,
 om 19 4 0,
 oN 20 4 3 0,
 oi 21 4 18 19 63,
 ost 4 21 20 127]
theorem d47_1 (hx : XDO P E ro L r47_1 K ρ h Q) : XD P E ro L r47_1 K ρ h Q := XD_ord rfl hx
def r47_2 : List O := [om 22 0 0,
 ⟨some 23,.nilck (.t 22),none,1,[23,22]⟩,
 oa 24 0 23 3,
 ol 25 24 7,
 om 26 4 0,
 ⟨some 27,.slL 4 (.t 25) none (some (.t 26)) none,none,31,[27,25,26]⟩,
 ⟨some 28,.app 67 4 56 (.k sN) (.t 27),none,63,[28,27]⟩,
 om 6 28 127]
def r47_3 : List O := [om 29 6 0,
 oN 30 4 3 0,
 ⟨some 31,.bslice 67 1 [(iI 0),(iI 0),(.str []),sN] [(0,4,(.t 30))],none,2,[31,30]⟩,
 ⟨some 32,.app 67 4 56 (.t 29) (.t 31),none,7,[32,29,31]⟩,
 om 6 32 15]
def r47_4 : List O := [om 33 0 0,
 om 34 6 0,
 om 35 0 0,
 ⟨some 36,.nilck (.t 35),none,4,[36,35]⟩,
 oa 37 0 36 12,
 ol 38 37 28,
 om 39 4 0,
 ⟨some 40,.slL 4 (.t 38) (some (.t 39)) none none,none,124,[40,38,39]⟩,
 ⟨some 41,.app 67 4 56 (.t 34) (.t 40),none,254,[41,34,40]⟩,
 ⟨some 42,.nilck (.t 33),none,511,[42,33]⟩,
 oa 43 0 42 1023,
 ost 1 43 41 2047]
def c47 : C := .seq (.region [⟨some 3,.box 67 (.t 1),none,0,[3,1]⟩]) (.seq (.region r47_0) (.seq (.seq (.region [om 14 5 0]) (.cond (.t 14) (.seq (.draw r47_1) (.ret)) (.skip))) (.seq (.region r47_2) (.seq (.region r47_3) (.region r47_4)))))
def fn47 : Fn := ⟨44,[],c47⟩
def r48_0 : List O := [om 6 4 0,
 om 7 0 0,
 oL 8 7 2,
 olt 9 6 8 7]
def r48_1 : List O := [om 12 0 0,
 om 13 4 0,
 oi 14 4 12 13 3,
 oN 15 4 14 7,
 ⟨some 5,.alloc 67 [(iI 0),(iI 0),(.str []),sN],none,0,[5]⟩,
 ost 4 5 15 31]
def r48_2 : List O := [oa 16 3 5 0,
 ol 17 16 1,
 ⟨some 18,.app 115 2 32 (.k sN) (.t 17),none,3,[18,17]⟩,
 oa 19 3 5 7,
 ost 1 19 18 15]
def r48_3 : List O := [om 20 3 0,
 oN 21 4 5 0,
 ⟨some 22,.bslice 67 1 [(iI 0),(iI 0),(.str []),sN] [(0,4,(.t 21))],none,2,[22,21]⟩,
 ⟨some 23,.app 67 4 56 (.t 20) (.t 22),none,7,[23,20,22]⟩,
 om 3 23 15]
def r48_4 : List O := [om 10 4 0,
 op1 11 10 1,
 om 4 11 3]
abbrev e48_5 : C := .seq (.seq (.region r48_0) (.cond (.t 9) (.skip) (.exit 0))) (.seq (.block 1 (.seq (.region r48_1) (.seq (.region r48_2) (.region r48_3)))) (.region r48_4))
def b48_5 : C := e48_5
theorem u48_5 : XL P E ro L b48_5 K ρ h Q = X P E ro L (.c e48_5 :: .l b48_5 :: K) ρ h Q := XL_unroll b48_5
def r48_6 : List O := [om 24 3 0,
 om 2 24 1]
def c48 : C := .seq (.region [⟨some 2,.mv (.k sN),none,0,[2]⟩]) (.seq (.region [⟨some 3,.mv (.k sN),none,0,[3]⟩]) (.seq (.seq (.region [⟨some 4,.mv (.k (iI 0)),none,0,[4]⟩]) (.block 0 (.loop b48_5))) (.seq (.region r48_6) (.ret))))
def fn48 : Fn := ⟨25,[.t 2],c48⟩
def r49_0 : List O := [⟨some 4,.mv (.k (iI 0)),none,0,[4]⟩,
 ⟨some 5,.mv (.k (.bool false)),none,1,[5]⟩]
def r49_1 : List O := [om 7 6 0,
 om 8 0 0,
 ⟨some 9,.nilck (.t 8),none,2,[9,8]⟩,
 oa 10 0 9 6,
 ol 11 10 14,
 oL 12 11 30,
 olt 13 7 12 63,
 om 14 13 127,
 og 15 0 14 255,
 ⟨some 16,.nilck (.t 15),some (14,true),511,[16,14,15]⟩,
 oag 17 0 16 14 1023,
 olg 18 17 14 2047,
 og 19 6 14 255,
 oig 20 4 18 19 14 8191,
 oag 21 0 20 14 16383,
 olg 22 21 14 32767,
 og 23 1 14 255,
 ⟨some 24,.bin .lss (some .int) false (.t 22) (.t 23),some (14,true),131071,[24,14,22,23]⟩,
 oe 25 24 14 262143]
def r49_2 : List O := [om 26 6 0,
 op1 27 26 1,
 om 6 27 3]
abbrev e49_3 : C := .seq (.seq (.region r49_1) (.cond (.t 25) (.skip) (.exit 0))) (.block 1 (.region r49_2))
def b49_3 : C := e49_3
theorem u49_3 : XL P E ro L b49_3 K ρ h Q = X P E ro L (.c e49_3 :: .l b49_3 :: K) ρ h Q := XL_unroll b49_3
def r49_4 : List O := [om 28 6 0,
 om 29 6 0,
 om 30 0 0,
 ⟨some 31,.nilck (.t 30),none,4,[31,30]⟩,
 oa 32 0 31 12,
 ol 33 32 28,
 oL 34 33 60,
 olt 35 29 34 126,
 om 36 35 254,
 og 37 0 36 510,
 ⟨some 38,.nilck (.t 37),some (36,true),1022,[38,36,37]⟩,
 oag 39 0 38 36 2046,
 olg 40 39 36 4094,
 og 41 6 36 510,
 oig 42 4 40 41 36 16382,
 oag 43 0 42 36 32766,
 olg 44 43 36 65534,
 og 45 1 36 510,
 oq 46 44 45 36 262142,
 oe 47 46 36 524286,
 om 4 28 511,
 om 5 47 2097151]
theorem d49_4 : XD P E ro L r49_4 K ρ h Q = XO P E ro L r49_4 K ρ h Q := XD_still rfl
def c49 : C := .seq (.region r49_0) (.seq (.region [⟨some 6,.mv (.k (iI 0)),none,0,[6]⟩]) (.seq (.block 0 (.loop b49_3)) (.seq (.draw r49_4) (.ret))))
def fn49 : Fn := ⟨48,[.t 4,.t 5],c49⟩
end Go.AM.Sc
namespace Go.AM.Sc
open Go.AM
variable {P : Program} {E : Env}
structure Fr23 (E : Env) : Prop where
 f23 : E.fns 23 = some fn23
 p23 : E.prim 23 = none
 f44 : E.fns 44 = some fn44
 p44 : E.prim 44 = none
 f45 : E.fns 45 = some fn45
 p45 : E.prim 45 = none
 f46 : E.fns 46 = some fn46
 p46 : E.prim 46 = none
 f47 : E.fns 47 = some fn47
 p47 : E.prim 47 = none
 f48 : E.fns 48 = some fn48
 p48 : E.prim 48 = none
 f49 : E.fns 49 = some fn49
 p49 : E.prim 49 = none
theorem getR_nth {vs : List V} {o n : Nat} {x : List V} (h : getR vs o n = x) {i : Nat} {y : V} (hi : x[i]? = some y) : vs[o + i]? = some y := by
 unfold getR at h
 rw [← h,List.getElem?_take] at hi
 split at hi
 ·rw [List.getElem?_drop] at hi; exact hi
 ·cases hi
theorem loop46 {h : H} {s : List UInt8} (hl : s.length ≤ 255) {Q : V → H → Prop} (hQ : ∀ c,s.contains 47 = c → Q (.bool (!c)) h) :
  ∀ (d k : Nat) (ρ : Nat → V),s.length - k = d → k ≤ s.length → ρ 0 = .str s → ρ 3 = iI k → (s.take k).contains 47 = false →
   XL P E none 29 b46_4 [.b 0,.c (.seq (.region [⟨some 2,.mv (.k (.bool true)),none,0,[2]⟩]) (.ret))] ρ h (Fin [.t 2] Q) := by
 intro d
 induction d with
 | zero =>
  intro k ρ hd hk q0 q3 hn
  have hke : ¬ k < s.length := by omega
  rw [List.take_of_length_le (by omega)] at hn
  rw [u46_4]
  simp only [GR,evK,binV,intOp,strOp,unV,Nat.reduceLT,Nat.reduceEqDiff,↓reduceIte,r46_1,q0,q3,Int.ofNat_lt,hke]
  exact hQ false hn
 | succ d ih =>
  intro k ρ hd hk q0 q3 hn
  have hke : k < s.length := by omega
  have hget : s[k]? = some s[k] := List.getElem?_eq_getElem hke
  have hw : IntKind.i64.wrap ((k : Int) + 1) = ((k + 1 : Nat) : Int) := wrap_nat (n := k + 1) (by omega)
  have ht := contains_take hke hn
  rw [u46_4]
  cases he : s[k] == 47 with
  | true =>
   rw [he] at ht
   simp only [GR,evK,binV,intOp,strOp,unV,Nat.reduceLT,Nat.reduceEqDiff,↓reduceIte,r46_1,q0,q3,Int.ofNat_lt,hke,r46_2,Int.natCast_nonneg,Int.toNat_natCast,hget,u8_eq,he]
   exact hQ true (contains_more ht)
  | false =>
   rw [he] at ht
   simp only [GR,evK,binV,intOp,strOp,unV,Nat.reduceLT,Nat.reduceEqDiff,↓reduceIte,r46_1,q0,q3,Int.ofNat_lt,hke,r46_2,Int.natCast_nonneg,Int.toNat_natCast,hget,u8_eq,he,r46_3,hw]
   exact ih (k + 1) _ (by omega) (by omega) q0 rfl ht
theorem name46 (F : Fr23 E) (s : List UInt8) (h : H) : Sp P E (.func 46 [] []) [.str s] h fun v h' => v = .bool (nameB s) ∧ h' = h := by
 refine Sp_fn F.f46 F.p46 (by simp [fn46]) ?_
 have l1 : ((255 : Int) < (s.length : Int)) = (255 < s.length) := by apply propext; omega
 cases e1 : (s == []) with
 | true =>
  simp only [GR,evK,binV,intOp,strOp,unV,Nat.reduceLT,Nat.reduceEqDiff,↓reduceIte,fn46,c46,r46_0,e1]
  first | exact ⟨by simp [nameB,e1],rfl⟩ | simp [nameB,e1]
 | false =>
  by_cases e2 : 255 < s.length
  ·have : ¬ s.length ≤ 255 := by omega
   simp only [GR,evK,binV,intOp,strOp,unV,Nat.reduceLT,Nat.reduceEqDiff,↓reduceIte,fn46,c46,r46_0,e1,gt_iff_lt,l1,e2]
   first | exact ⟨by simp [nameB,this],rfl⟩ | simp [nameB,this]
  ·cases e3 : (s == [46]) with
   | true =>
    simp only [GR,evK,binV,intOp,strOp,unV,Nat.reduceLT,Nat.reduceEqDiff,↓reduceIte,fn46,c46,r46_0,e1,gt_iff_lt,l1,e2,e3]
    first | exact ⟨by simp [nameB,e3],rfl⟩ | simp [nameB,e3]
   | false =>
    cases e4 : (s == [46,46]) with
    | true =>
     simp only [GR,evK,binV,intOp,strOp,unV,Nat.reduceLT,Nat.reduceEqDiff,↓reduceIte,fn46,c46,r46_0,e1,gt_iff_lt,l1,e2,e3,e4]
     first | exact ⟨by simp [nameB,e4],rfl⟩ | simp [nameB,e4]
    | false =>
     simp only [GR,evK,binV,intOp,strOp,unV,Nat.reduceLT,Nat.reduceEqDiff,↓reduceIte,fn46,c46,r46_0,e1,gt_iff_lt,l1,e2,e3,e4]
     refine loop46 (s := s) (by omega) ?_ _ 0 _ rfl (Nat.zero_le _) rfl rfl (by simp)
     intro c hc
     exact ⟨by rw [nameB_head e1 (by omega) e3 e4,hc],rfl⟩
def prevK (as : List Attr) (j : Nat) : List UInt8 := match j with
 | 0 => []
 | j + 1 => ((as[j]?).map Attr.key).getD []
theorem leq_nil (a : List UInt8) : leqB a [] = (a == []) := by
 unfold leqB
 cases a <;> simp [Op.bytesLess]
set_option maxHeartbeats 1000000 in
theorem loop45 {h : H} {av : V} {as : List Attr} (hs : Sl h 2 av (as.map Attr.cells)) (hl : as.length ≤ 1048576) {Q : V → H → Prop} (hQ : Q (.bool (attrsB [] as)) h) :
  ∀ (d j : Nat) (ρ : Nat → V),as.length - j = d → j ≤ as.length → ρ 0 = av → ρ 3 = iI j → attrsB [] as = attrsB (prevK as j) (as.drop j) →
   XL P E none 60 b45_3 [.b 0,.c (.seq (.region [⟨some 2,.mv (.k (.bool true)),none,0,[2]⟩]) (.ret))] ρ h (Fin [.t 2] Q) := by
 obtain ⟨sa,sc,so,hav⟩ := hs.len
 rw [List.length_map] at hav
 intro d
 induction d with
 | zero =>
  intro j ρ hd hj q0 q3 hat
  have hje : ¬ j < as.length := by omega
  rw [List.drop_eq_nil_of_le (by omega)] at hat
  rw [hat] at hQ
  have q0' := q0.trans hav
  rw [u45_3]
  simp only [GR,evK,binV,intOp,strOp,unV,Nat.reduceLT,Nat.reduceEqDiff,↓reduceIte,r45_0,q0',q3,Int.ofNat_lt,hje]
  exact hQ
 | succ d ih =>
  intro j ρ hd hj q0 q3 hat
  have hje : j < as.length := by omega
  obtain ⟨b,o,cap,opn,cs,ty,op,ro,fz,v1,hg,hll,he⟩ := hs.get (k := j) (x := as[j].cells) (by simp [hje])
  have q0' : ρ 0 = V.slice (some (b,o)) as.length cap opn := by rw [q0,v1,List.length_map]
  have e0 : cs[o + j * 2]? = some (.str as[j].key) := by have := getR_nth he (i := 0) (y := .str as[j].key) rfl; simpa using this
  have e1 : cs[o + j * 2 + 1]? = some (.str as[j].value) := getR_nth he (i := 1) (y := .str as[j].value) rfl
  have hw : IntKind.i64.wrap ((j : Int) + 1) = ((j + 1 : Nat) : Int) := wrap_nat (n := j + 1) (by omega)
  rw [attrsB_at hje] at hat
  have hpk : prevK as (j + 1) = as[j].key := by simp [prevK,hje]
  have hprev : 0 < j → cs[o + (j - 1) * 2]? = some (.str (prevK as j)) := fun h0 => by
   obtain ⟨i,rfl⟩ : ∃ i,j = i + 1 := ⟨j - 1,by omega⟩
   have hi : i < as.length := by omega
   obtain ⟨b2,o2,cap2,opn2,cs2,ty2,op2,ro2,fz2,v2,hg2,hll2,he2⟩ := hs.get (k := i) (x := as[i].cells) (by simp [hi])
   rw [v1] at v2
   cases v2
   rw [hg] at hg2; cases hg2
   have := getR_nth he2 (i := 0) (y := .str as[i].key) rfl
   simp only [prevK,List.getElem?_eq_getElem hi,Option.map_some,Option.getD_some]
   simpa using this
  have hpk0 : j = 0 → prevK as j = [] := by rintro rfl; rfl
  have hkl : ∀ s : List UInt8,((255 : Int) < (s.length : Int)) = (255 < s.length) := fun s => by apply propext; omega
  generalize as[j].key = ak at *
  generalize as[j].value = av1 at *
  generalize prevK as j = pk at *
  rw [u45_3]
  cases c1 : ak == [] with
  | true =>
   have hbad : attrsB [] as = false := by rw [hat]; simp [pairB,c1]
   rw [hbad] at hQ
   simp only [GR,evK,binV,intOp,strOp,unV,Nat.reduceLT,Nat.reduceEqDiff,↓reduceIte,r45_0,q0',q3,Int.ofNat_lt,hje]
   rw [X_draw,d45_1]
   simp only [GR,evK,binV,intOp,strOp,unV,Nat.reduceLT,Nat.reduceEqDiff,↓reduceIte,r45_1,q0',q3,Int.ofNat_lt,hje,Int.natCast_nonneg,Int.toNat_natCast,hg,e0,e1,c1]
   exact hQ
  | false =>
  by_cases c2 : 255 < ak.length
  ·have c2' : ¬ ak.length ≤ 255 := by omega
   have hbad : attrsB [] as = false := by rw [hat]; simp [pairB,c2']
   rw [hbad] at hQ
   simp only [GR,evK,binV,intOp,strOp,unV,Nat.reduceLT,Nat.reduceEqDiff,↓reduceIte,r45_0,q0',q3,Int.ofNat_lt,hje]
   rw [X_draw,d45_1]
   simp only [GR,evK,binV,intOp,strOp,unV,Nat.reduceLT,Nat.reduceEqDiff,↓reduceIte,r45_1,q0',q3,Int.ofNat_lt,hje,Int.natCast_nonneg,Int.toNat_natCast,hg,e0,e1,c1,gt_iff_lt,hkl,c2]
   exact hQ
  ·cases c3 : av1 == [] with
   | true =>
    have hbad : attrsB [] as = false := by rw [hat]; simp [c3]
    rw [hbad] at hQ
    simp only [GR,evK,binV,intOp,strOp,unV,Nat.reduceLT,Nat.reduceEqDiff,↓reduceIte,r45_0,q0',q3,Int.ofNat_lt,hje]
    rw [X_draw,d45_1]
    simp only [GR,evK,binV,intOp,strOp,unV,Nat.reduceLT,Nat.reduceEqDiff,↓reduceIte,r45_1,q0',q3,Int.ofNat_lt,hje,Int.natCast_nonneg,Int.toNat_natCast,hg,e0,e1,c1,gt_iff_lt,hkl,c2,c3]
    exact hQ
   | false =>
   by_cases c4 : 255 < av1.length
   ·have c4' : ¬ av1.length ≤ 255 := by omega
    have hbad : attrsB [] as = false := by rw [hat]; simp [pairB,c4']
    rw [hbad] at hQ
    simp only [GR,evK,binV,intOp,strOp,unV,Nat.reduceLT,Nat.reduceEqDiff,↓reduceIte,r45_0,q0',q3,Int.ofNat_lt,hje]
    rw [X_draw,d45_1]
    simp only [GR,evK,binV,intOp,strOp,unV,Nat.reduceLT,Nat.reduceEqDiff,↓reduceIte,r45_1,q0',q3,Int.ofNat_lt,hje,Int.natCast_nonneg,Int.toNat_natCast,hg,e0,e1,c1,gt_iff_lt,hkl,c2,c3,c4]
    exact hQ
   ·have hpair : pairB ak av1 = true := by simp [pairB,c1]; omega
    by_cases c5 : 0 < j
    ·have hp := hprev c5
     have c5' : ((0 : Int) < (j : Int)) = True := by simp; omega
     have hw2 : IntKind.i64.wrap ((j : Int) - 1) = ((j - 1 : Nat) : Int) := by
      rw [show (j : Int) - 1 = ((j - 1 : Nat) : Int) by omega]; exact wrap_nat (by omega)
     have hj1 : j - 1 < as.length := by omega
     cases c6 : Op.bytesLess ak pk || ak == pk with
     | true =>
      have hbad : attrsB [] as = false := by rw [hat]; simp [leqB,c6]
      rw [hbad] at hQ
      simp only [GR,evK,binV,intOp,strOp,unV,Nat.reduceLT,Nat.reduceEqDiff,↓reduceIte,r45_0,q0',q3,Int.ofNat_lt,hje]
      rw [X_draw,d45_1]
      simp only [GR,evK,binV,intOp,strOp,unV,Nat.reduceLT,Nat.reduceEqDiff,↓reduceIte,r45_1,q0',q3,Int.ofNat_lt,hje,Int.natCast_nonneg,Int.toNat_natCast,hg,e0,e1,c1,gt_iff_lt,hkl,c2,c3,c4,c5',hw2,hj1,hp,c6]
      exact hQ
     | false =>
      simp only [GR,evK,binV,intOp,strOp,unV,Nat.reduceLT,Nat.reduceEqDiff,↓reduceIte,r45_0,q0',q3,Int.ofNat_lt,hje]
      rw [X_draw,d45_1]
      simp only [GR,evK,binV,intOp,strOp,unV,Nat.reduceLT,Nat.reduceEqDiff,↓reduceIte,r45_1,q0',q3,Int.ofNat_lt,hje,Int.natCast_nonneg,Int.toNat_natCast,hg,e0,e1,c1,gt_iff_lt,hkl,c2,c3,c4,c5',hw2,hj1,hp,c6,r45_2,hw]
      refine ih (j + 1) _ (by omega) (by omega) q0 rfl ?_
      rw [hat,hpk]; simp [leqB,c6,c3,hpair]
    ·have c5' : ((0 : Int) < (j : Int)) = False := by simp; omega
     have hj0 : j = 0 := by omega
     simp only [GR,evK,binV,intOp,strOp,unV,Nat.reduceLT,Nat.reduceEqDiff,↓reduceIte,r45_0,q0',q3,Int.ofNat_lt,hje]
     rw [X_draw,d45_1]
     simp only [GR,evK,binV,intOp,strOp,unV,Nat.reduceLT,Nat.reduceEqDiff,↓reduceIte,r45_1,q0',q3,Int.ofNat_lt,hje,Int.natCast_nonneg,Int.toNat_natCast,hg,e0,e1,c1,gt_iff_lt,hkl,c2,c3,c4,c5',r45_2,hw]
     refine ih (j + 1) _ (by omega) (by omega) q0 rfl ?_
     rw [hat,hpk,hpk0 hj0,leq_nil]; simp [c1,c3,hpair]
theorem attrs45 (F : Fr23 E) {h : H} {av : V} {as : List Attr} (hs : Sl h 2 av (as.map Attr.cells)) (hl : as.length ≤ 1048576) : Sp P E (.func 45 [] []) [av] h fun v h' => v = .bool (attrsB [] as) ∧ h' = h := by
 refine Sp_fn F.f45 F.p45 (by simp [fn45]) ?_
 simp only [GR,evK,binV,intOp,strOp,unV,Nat.reduceLT,Nat.reduceEqDiff,↓reduceIte,fn45,c45]
 exact loop45 hs hl ⟨rfl,rfl⟩ _ 0 _ rfl (Nat.zero_le _) rfl rfl rfl
def IsSl (v : V) : Prop := ∃ a n c o,v = .slice a n c o
structure RT (lo : Nat) (h : H) (t : Nat) (xs : List TNode) : Prop where
 ex : ∃ was b opn,cC h t [.slice (some (b,0)) xs.length xs.length opn,was] 97 ∧ h.get b = some (.cells (xs.map TNode.cells).flatten 67 opn false none) ∧ lo ≤ b
 low : lo ≤ t
 one : ∀ x ∈ xs,IsSl x.attrs
theorem RT.kp {lo : Nat} {h h' : H} {t : Nat} {xs : List TNode} (a : RT lo h t xs) (k : Kp h h') : RT lo h' t xs := by
 obtain ⟨was,b,opn,h1,h2,h3⟩ := a.ex
 exact ⟨⟨was,b,opn,k.of h1,k.of h2,h3⟩,a.low,a.one⟩
theorem tn_len {xs : List TNode} : ∀ y ∈ xs.map TNode.cells,y.length = 4 := by
 intro y hy; obtain ⟨x,_,rfl⟩ := List.mem_map.1 hy; rfl
theorem tn_cell {xs : List TNode} {k : Nat} (hk : k < xs.length) {i : Nat} {y : V} (hi : xs[k].cells[i]? = some y) : (xs.map TNode.cells).flatten[k * 4 + i]? = some y := by
 have := flat_get (xs.map TNode.cells) k xs[k].cells tn_len (by simp [hk])
 exact getR_nth (vs := (xs.map TNode.cells).flatten) (o := k * 4) (n := 4) this hi
def findI (xs : List TNode) (n : Int) : Nat := (xs.takeWhile fun x => decide (x.node < n)).length
def findB (xs : List TNode) (n : Int) : Bool := match xs[findI xs n]? with
 | some x => x.node == n
 | none => false
theorem findI_at {xs : List TNode} {n : Int} {k : Nat} (hk : k ≤ xs.length) (ha : ∀ x ∈ xs.take k,x.node < n) (hb : ∀ h : k < xs.length,¬ xs[k].node < n) : findI xs n = k := by
 unfold findI
 have h1 : xs = xs.take k ++ xs.drop k := (List.take_append_drop k xs).symm
 rw [h1,List.takeWhile_append_of_pos (by intro x hx; simpa using ha x hx)]
 have h2 : (xs.drop k).takeWhile (fun x => decide (x.node < n)) = [] := by
  by_cases hlt : k < xs.length
  ·rw [List.drop_eq_getElem_cons hlt,List.takeWhile_cons_of_neg (by simpa using hb hlt)]
  ·rw [List.drop_eq_nil_of_le (by omega)]; rfl
 rw [h2]; simp; omega
theorem find49 (F : Fr23 E) {lo : Nat} {h : H} {t : Nat} {xs : List TNode} (a : RT lo h t xs) (hl : xs.length ≤ 1048578) (n : Int) : Sp P E (.func 49 [] []) [pP t,iI n] h fun v h' => v = .tup [iI (findI xs n),.bool (findB xs n)] ∧ h' = h := by
 obtain ⟨was,b,opn,gt,gb,hlo⟩ := a.ex
 have loop : ∀ (d k : Nat) (ρ : Nat → V),xs.length - k = d → k ≤ xs.length → ρ 0 = pP t → ρ 1 = iI n → ρ 6 = iI k → (∀ x ∈ xs.take k,x.node < n) →
   XL P E none 48 b49_3 [.b 0,.c (.seq (.draw r49_4) (.ret))] ρ h (Fin [.t 4,.t 5] fun v h' => v = .tup [iI (findI xs n),.bool (findB xs n)] ∧ h' = h) := by
  intro d
  induction d with
  | zero =>
   intro k ρ hd hk q0 q1 q6 hn
   have hke : ¬ k < xs.length := by omega
   have hfi := findI_at hk hn (fun h => (hke h).elim)
   have hfb : findB xs n = false := by unfold findB; rw [hfi,List.getElem?_eq_none (by omega)]
   rw [u49_3]
   simp only [GR,evK,binV,intOp,strOp,unV,Nat.reduceLT,Nat.reduceEqDiff,↓reduceIte,r49_1,q0,gt,q6,Int.ofNat_lt,hke]
   rw [X_draw,d49_4]
   simp only [GR,evK,binV,intOp,strOp,unV,Nat.reduceLT,Nat.reduceEqDiff,↓reduceIte,r49_4,q0,gt,q6,Int.ofNat_lt,hke]
   first | exact ⟨by rw [hfi,hfb],rfl⟩ | rw [hfi,hfb]
  | succ d ih =>
   intro k ρ hd hk q0 q1 q6 hn
   have hke : k < xs.length := by omega
   have e0 : (xs.map TNode.cells).flatten[k * 4]? = some (iI xs[k].node) := by have := tn_cell hke (i := 0) (y := iI xs[k].node) rfl; simpa using this
   have hw : IntKind.i64.wrap ((k : Int) + 1) = ((k + 1 : Nat) : Int) := wrap_nat (n := k + 1) (by omega)
   by_cases hlt : xs[k].node < n
   ·rw [u49_3]
    simp only [GR,evK,binV,intOp,strOp,unV,Nat.reduceLT,Nat.reduceEqDiff,↓reduceIte,r49_1,q0,q1,gt,q6,Int.ofNat_lt,hke,Int.natCast_nonneg,Int.toNat_natCast,gb,Nat.zero_add,e0,hlt,r49_2,hw]
    refine ih (k + 1) _ (by omega) (by omega) q0 q1 rfl ?_
    rw [List.take_succ_eq_append_getElem hke]
    intro x hx
    rcases List.mem_append.1 hx with hx | hx
    ·exact hn x hx
    ·rw [List.mem_singleton.1 hx]; exact hlt
   ·have hfi := findI_at hk hn (fun _ => hlt)
    have hfb : findB xs n = (xs[k].node == n) := by unfold findB; rw [hfi,List.getElem?_eq_getElem hke]
    rw [u49_3]
    simp only [GR,evK,binV,intOp,strOp,unV,Nat.reduceLT,Nat.reduceEqDiff,↓reduceIte,r49_1,q0,q1,gt,q6,Int.ofNat_lt,hke,Int.natCast_nonneg,Int.toNat_natCast,gb,Nat.zero_add,e0,hlt]
    rw [X_draw,d49_4]
    simp only [GR,evK,binV,intOp,strOp,unV,Nat.reduceLT,Nat.reduceEqDiff,↓reduceIte,r49_4,q0,q1,gt,q6,Int.ofNat_lt,hke,Int.natCast_nonneg,Int.toNat_natCast,gb,Nat.zero_add,e0]
    first | exact ⟨by rw [hfi,hfb],rfl⟩ | rw [hfi,hfb]
 refine Sp_fn F.f49 F.p49 (by simp [fn49]) ?_
 simp only [GR,evK,binV,intOp,strOp,unV,Nat.reduceLT,Nat.reduceEqDiff,↓reduceIte,fn49,c49,r49_0]
 exact loop _ 0 _ rfl (Nat.zero_le _) rfl rfl rfl (by simp)
theorem RT.sl {lo : Nat} {h : H} {t : Nat} {xs : List TNode} (a : RT lo h t xs) : ∃ was b opn,cC h t [.slice (some (b,0)) xs.length xs.length opn,was] 97 ∧ h.get b = some (.cells (xs.map TNode.cells).flatten 67 opn false none) ∧ lo ≤ b ∧ elemsV h 4 xs.length (.slice (some (b,0)) xs.length xs.length opn) = some (xs.map TNode.cells).flatten := by
 obtain ⟨was,b,opn,h1,h2,h3⟩ := a.ex
 refine ⟨was,b,opn,h1,h2,h3,?_⟩
 have hf := flat_len (xs.map TNode.cells) tn_len
 rw [List.length_map] at hf
 simp only [elemsV]
 by_cases h0 : xs.length * 4 = 0
 ·have : xs = [] := List.eq_nil_of_length_eq_zero (by omega)
  subst this; simp
 ·simp only [h0,if_false,h2,Nat.zero_add,hf,Nat.le_refl,if_true]
  rw [getR_all hf]
theorem tn_one {x : TNode} (h : IsSl x.attrs) : x.cells.all V.one = true := by
 obtain ⟨a,n,c,o,e⟩ := h
 simp [TNode.cells,V.one,e]
theorem tn_nj {x : TNode} (h : IsSl x.attrs) : V.njL x.cells = true := by
 obtain ⟨a,n,c,o,e⟩ := h
 simp [TNode.cells,V.nj,V.njL,e]
theorem put_at {h : H} {b o : Nat} {vs ws : List V} {ty : Nat} {op : Bool} (hg : h.get b = some (.cells vs ty op false none)) (hw : o + ws.length ≤ vs.length) (h1 : ws.all V.one = true) (hne : ws.isEmpty = false) :
  putCells h b o ws = some (h.set b (.cells (setR vs o ws) ty op false none)) := by
 unfold putCells
 simp only [hne,Bool.false_eq_true,if_false,hg,hw,h1,fzFree,and_self,if_true]
theorem tn_flat_set (xs : List TNode) (i : Nat) (x : TNode) (hi : i < xs.length) : setR (xs.map TNode.cells).flatten (i * 4) x.cells = ((xs.set i x).map TNode.cells).flatten := by
 induction xs generalizing i with
 | nil => simp at hi
 | cons y xs ih =>
  cases i with
  | zero => simp [setR,TNode.cells]
  | succ i =>
   have := ih i (by simpa using hi)
   simp only [setR,TNode.len] at this
   simp only [List.map_cons,List.flatten_cons,List.set_cons_succ,← this,setR,TNode.len]
   have e1 : (i + 1) * 4 = y.cells.length + i * 4 := by rw [TNode.len]; omega
   have e2 : (i + 1) * 4 + 4 = y.cells.length + (i * 4 + 4) := by rw [TNode.len]; omega
   rw [e2,e1,List.take_length_add_append,List.drop_length_add_append]
   simp [List.append_assoc]
set_option maxHeartbeats 1000000 in
theorem put47_new (F : Fr23 E) {lo : Nat} {h : H} {t : Nat} {xs : List TNode} (a : RT lo h t xs) (hlo : lo ≤ h.size) (hl : xs.length ≤ 1048578) {x : TNode} (hx : IsSl x.attrs) (hI : findI xs x.node = xs.length) (hB : findB xs x.node = false) (hpos : 0 < xs.length) :
  Sp P E (.func 47 [] []) [pP t,.agg x.cells] h fun _ h' => RT lo h' t (xs ++ [x]) ∧ Keeps lo h h' := by
 have k1 : Kp h (h.psh (.cells x.cells 67 false false none)) := Keeps.psh (Nat.le_refl _) _
 have g1 := psh_same h (.cells x.cells 67 false false none)
 have hs1 := psh_size h (.cells x.cells 67 false false none)
 have hg0 : x.cells[0]? = some (iI x.node) := rfl
 have hxl := TNode.len x
 have hxo := tn_one hx
 have htk : List.take 4 x.cells = x.cells := rfl
 have sp := find49 (P := P) F (a.kp k1) hl x.node
 rw [hI,hB] at sp
 refine Sp_fn F.f47 F.p47 (by simp [fn47]) ?_
 have hnode : x.node = x.node := rfl
 generalize hxc : x.cells = xc at *
 simp only [GR,evK,binV,intOp,strOp,unV,Nat.reduceLT,Nat.reduceEqDiff,↓reduceIte,fn47,c47]
 generalize h.psh (.cells xc 67 false false none) = h1 at *
 simp only [GR,evK,binV,intOp,strOp,unV,Nat.reduceLT,Nat.reduceEqDiff,↓reduceIte,r47_0,g1,hg0]
 refine XC_of sp ?_
 rintro _ h1' ⟨rfl,e1⟩
 rw [e1]
 clear e1 h1'
 have a1 := a.kp k1
 obtain ⟨was,b,opn,gt,gb,hb,hel⟩ := a1.sl
 have hbl : boundsV xs.length xs.length none (some (iI (xs.length : Int))) none = some (0,xs.length,xs.length) := by
  have := bounds_hi (len := xs.length) (cap := xs.length) (k := .i64) (a := (xs.length : Int)) (by omega)
  simpa using this
 have hbh : boundsV xs.length xs.length (some (iI (xs.length : Int))) none none = some (xs.length,xs.length,xs.length) := by
  have := bounds_lo (len := xs.length) (cap := xs.length) (k := .i64) (a := (xs.length : Int)) (by omega)
  simpa using this
 obtain ⟨v2,h2,e2,k2,hv2⟩ := app_mk (h := h1) (ty := 67) (sz := 4) (bytes := 56) (n := xs.length) (base := none) (x := .slice (some (b,0)) xs.length xs.length opn) rfl hel (by omega)
 rcases hv2 with ⟨h0,_⟩ | ⟨_,rfl,gv2⟩
 ·omega
 have acc2 : Acc h2 lo 67 4 (.slice (some (h1.size,0)) xs.length xs.length true) (xs.map TNode.cells) :=
  ⟨.inr ⟨h1.size,by simp,by omega,gv2⟩,fun y hy => by obtain ⟨z,hz,rfl⟩ := List.mem_map.1 hy; exact ⟨rfl,tn_one (a.one z hz)⟩⟩
 simp only [GR,evK,binV,intOp,strOp,unV,Nat.reduceLT,Nat.reduceEqDiff,↓reduceIte,r47_2,gt,Nat.le_refl,hbl,Nat.zero_mul,Nat.add_zero,Nat.sub_zero,Option.isNone_none,Bool.and_true,e2]
 have g12 := k2.of g1
 have hel3 := elems_psh (h := h2) (cs := xc) (ty := 67) (sz := 4) (by rw [hxl]) (by decide)
 obtain ⟨v3,h3,e3,acc3,k3,kc3⟩ := app_one (bytes := 56) (x := .slice (some (h2.size,0)) 1 1 false) (y := xc) (acc2.keep (Keeps.psh (Nat.le_refl _) (.cells xc 67 false false none))) (by rw [psh_size]; have := k2.size; omega) rfl (by simpa using hel3) ⟨by rw [hxl],hxo⟩ (by rw [List.length_map]; omega)
 have hdz : List.drop 4 [iI 0,iI 0,.str [],sN] = [] := rfl
 simp only [GR,evK,binV,intOp,strOp,unV,Nat.reduceLT,Nat.reduceEqDiff,↓reduceIte,r47_3,g12,hxl,htk,hdz,e3]
 have hs2 := k2.size
 have htlt := H.get_lt gt
 have hk23 : Kp h2 (h2.psh (.cells xc 67 false false none)) := Keeps.psh (Nat.le_refl _) _
 have hs23 := psh_size h2 (.cells xc 67 false false none)
 have gt2 := hk23.of (k2.of gt)
 have gv23 := hk23.of gv2
 have htne : h1.size ≠ t := by omega
 have gt3 : cC h3 t [.slice (some (b,0)) xs.length xs.length opn,was] 97 := by
  have h5 : cC (cutV (h2.psh (.cells xc 67 false false none)) (.slice (some (h1.size,0)) xs.length xs.length true)) t [.slice (some (b,0)) xs.length xs.length opn,was] 97 := by
   show (cutB (h2.psh (.cells xc 67 false false none)) h1.size).get t = _
   rw [cutB_lt (H.get_lt gv23),hset_other (H.get_lt gv23) htne]; exact gt2
  exact cut_kc _ _ _ _ _ _ _ _ (kc3 _ _ _ _ _ _ h5)
 rcases acc3.shape with ⟨h0,_⟩ | ⟨b3,rfl,hb3,gb3⟩
 ·simp at h0
 have hlen3 : (xs.map TNode.cells ++ [xc]).length = xs.length + 1 := by simp
 rw [hlen3] at e3
 have e4 : ∀ a c o,appV h3 67 4 56 (.slice (some (b3,0)) (xs.length + 1) (xs.length + 1) true) (.slice a 0 c o) = some (.eff (.slice (some (b3,0)) (xs.length + 1) (xs.length + 1) true) h3) := by
  intro a c o
  unfold appV
  cases a with
  | none => simp [lenV,elemsV,putCells]
  | some p => obtain ⟨i,q⟩ := p; simp [lenV,elemsV,putCells]
 have e5 : putCells h3 t 0 [.slice (some (b3,0)) (xs.length + 1) (xs.length + 1) true] = some (h3.set t (.cells [.slice (some (b3,0)) (xs.length + 1) (xs.length + 1) true,was] 97 false false none)) := by
  simp [putCells,gt3,fzFree,V.one,setR]
 rw [hlen3]
 simp only [GR,evK,binV,intOp,strOp,unV,Nat.reduceLT,Nat.reduceEqDiff,↓reduceIte,r47_4,gt3,hbh,Nat.sub_self,Option.isNone_none,Bool.and_true,e4,e5]
 have hne3 : t ≠ b3 := by
  rintro rfl; change _ = _ at gb3; rw [gt3] at gb3; simp at gb3
 refine ⟨⟨⟨was,b3,true,?_,?_,hb3⟩,a.low,?_⟩,?_⟩
 ·show _ = _; rw [hset_same (H.get_lt gt3)]; simp
 ·show _ = _; rw [hset_other (H.get_lt gt3) hne3,gb3,List.map_append,← hxc]; rfl
 ·intro y hy
  rcases List.mem_append.1 hy with hy | hy
  ·exact a.one y hy
  ·rw [List.mem_singleton.1 hy]; exact hx
 ·refine Keeps.trans (n := lo) (k1.mono hlo) (Keeps.trans (n := lo) (k2.mono (by omega)) (Keeps.trans (n := lo) (hk23.mono (by omega)) (Keeps.trans (n := lo) k3 (Keeps.set (H.get_lt gt3) a.low _))))
set_option maxHeartbeats 1000000 in
theorem put47_top (F : Fr23 E) {lo : Nat} {h : H} {t : Nat} {xs : List TNode} (a : RT lo h t xs) (hlo : lo ≤ h.size) (hl : xs.length ≤ 1048578) {x : TNode} (hx : IsSl x.attrs) {i : Nat} (hi : i < xs.length) (hI : findI xs x.node = i) (hB : findB xs x.node = true) :
  Sp P E (.func 47 [] []) [pP t,.agg x.cells] h fun _ h' => RT lo h' t (xs.set i x) ∧ Keeps lo h h' := by
 have k1 : Kp h (h.psh (.cells x.cells 67 false false none)) := Keeps.psh (Nat.le_refl _) _
 have g1 := psh_same h (.cells x.cells 67 false false none)
 have hs1 := psh_size h (.cells x.cells 67 false false none)
 have hg0 : x.cells[0]? = some (iI x.node) := rfl
 have hxl := TNode.len x
 have hxo := tn_one hx
 have htk : List.take 4 x.cells = x.cells := rfl
 have hset := tn_flat_set xs i x hi
 have sp := find49 (P := P) F (a.kp k1) hl x.node
 rw [hI,hB] at sp
 have hnj := tn_nj hx
 refine Sp_fn F.f47 F.p47 (by simp [fn47]) ?_
 generalize hxc : x.cells = xc at *
 simp only [GR,evK,binV,intOp,strOp,unV,Nat.reduceLT,Nat.reduceEqDiff,↓reduceIte,fn47,c47]
 generalize h.psh (.cells xc 67 false false none) = h1 at *
 simp only [GR,evK,binV,intOp,strOp,unV,Nat.reduceLT,Nat.reduceEqDiff,↓reduceIte,r47_0,g1,hg0]
 refine XC_of sp ?_
 rintro _ h1' ⟨rfl,e1⟩
 rw [e1]
 clear e1 h1'
 have a1 := a.kp k1
 obtain ⟨was,b,opn,gt,gb,hb,hel⟩ := a1.sl
 have hf := flat_len (xs.map TNode.cells) tn_len
 rw [List.length_map] at hf
 have e5 : putCells h1 b (i * 4) xc = some (h1.set b (.cells ((xs.set i x).map TNode.cells).flatten 67 opn false none)) := by
  rw [put_at gb (by rw [hf,hxl]; omega) hxo (by cases xc with | nil => simp at hxl | cons _ _ => rfl),hset]
 have hii : ((i : Int) < (xs.length : Int)) = True := by simp; omega
 simp only [GR,evK,binV,intOp,strOp,unV,Nat.reduceLT,Nat.reduceEqDiff,↓reduceIte]
 rw [X_draw]
 refine d47_1 ?_
 simp only [GR,evK,binV,intOp,strOp,unV,Nat.reduceLT,Nat.reduceEqDiff,↓reduceIte,r47_1,gt,g1,hxl,htk,Int.natCast_nonneg,hii,Int.toNat_natCast,Nat.zero_add,hi,hnj,e5]
 have hne : b ≠ t := by rintro rfl; change _ = _ at gt; rw [gb] at gt; simp at gt
 have r1 : RT lo (h1.set b (.cells ((xs.set i x).map TNode.cells).flatten 67 opn false none)) t (xs.set i x) := by
  refine ⟨⟨was,b,opn,?_,hset_same (H.get_lt gb) _,hb⟩,a.low,fun y hy => ?_⟩
  ·show _ = _; rw [hset_other (H.get_lt gb) hne,gt,List.length_set]
  ·rcases List.mem_or_eq_of_mem_set hy with hy | rfl
   ·exact a.one y hy
   ·exact hx
 exact ⟨r1,Keeps.trans (n := lo) (k1.mono hlo) (Keeps.set (H.get_lt gb) hb _)⟩
def TNode.np (x : TNode) : NP := (x.node,x.parent)
def RdA (h : H) (x : TNode) : Prop := ∃ as : List (List V),Sl h 2 x.attrs as ∧ (∀ y ∈ as,y.length = 2) ∧ as.length ≤ 1048576
theorem RdA.keep {h h' : H} {x : TNode} (a : RdA h x) (k : Kp h h') : RdA h' x := by
 obtain ⟨as,h1,h2⟩ := a
 exact ⟨as,h1.keep k,h2⟩
set_option maxHeartbeats 2000000 in
theorem clone48 (F : Fr23 E) {h0 : H} {b : Nat} {opn : Bool} {xs : List TNode} (hg : h0.get b = some (.cells (xs.map TNode.cells).flatten 67 opn false none)) (hl : xs.length ≤ 1048578) (hsl : ∀ x ∈ xs,IsSl x.attrs) (hrd : ∀ x ∈ xs,RdA h0 x) :
  Sp P E (.func 48 [] []) [.slice (some (b,0)) xs.length xs.length opn] h0 fun v h' => ∃ ys : List TNode,Acc h' h0.size 67 4 v (ys.map TNode.cells) ∧ ys.map TNode.np = xs.map TNode.np ∧ (∀ y ∈ ys,IsSl y.attrs) ∧ Kp h0 h' := by
 have hf := flat_len (xs.map TNode.cells) tn_len
 rw [List.length_map] at hf
 have loop : ∀ (d k : Nat) (ys : List TNode) (ρ : Nat → V) (h : H) (ov : V),xs.length - k = d → k ≤ xs.length → ρ 0 = .slice (some (b,0)) xs.length xs.length opn → ρ 3 = ov → ρ 4 = iI k → Acc h h0.size 67 4 ov (ys.map TNode.cells) → ys.map TNode.np = (xs.take k).map TNode.np → (∀ y ∈ ys,IsSl y.attrs) → Kp h0 h →
   XL P E none 25 b48_5 [.b 0,.c (.seq (.region r48_6) (.ret))] ρ h (Fin [.t 2] fun v h' => ∃ ys : List TNode,Acc h' h0.size 67 4 v (ys.map TNode.cells) ∧ ys.map TNode.np = xs.map TNode.np ∧ (∀ y ∈ ys,IsSl y.attrs) ∧ Kp h0 h') := by
  intro d
  induction d with
  | zero =>
   intro k ys ρ h ov hd hk q0 q3 q4 acc hnp hys kk
   have hke : ¬ k < xs.length := by omega
   rw [List.take_of_length_le (by omega)] at hnp
   rw [u48_5]
   simp only [GR,evK,binV,intOp,strOp,shOp,unV,Nat.reduceLT,Nat.reduceEqDiff,Nat.reduceAdd,↓reduceIte,Nat.reduceLeDiff,reduceCtorEq,r48_0,q0,q4,Int.ofNat_lt,hke,r48_6,q3]
   exact ⟨ys,acc,hnp,hys,kk⟩
  | succ d ih =>
   intro k ys ρ h ov hd hk q0 q3 q4 acc hnp hys kk
   have hke : k < xs.length := by omega
   have hgh := kk.of hg
   have hmem := List.getElem_mem hke
   have hx := hsl _ hmem
   have hget := flat_get (xs.map TNode.cells) k xs[k].cells tn_len (by simp [hke])
   have hw : IntKind.i64.wrap ((k : Int) + 1) = ((k + 1 : Nat) : Int) := wrap_nat (n := k + 1) (by omega)
   have hylen : ys.length = k := by have := congrArg List.length hnp; simp at this; omega
   obtain ⟨h3,e3,g3,k3,z3⟩ := put_fresh h (vs := [iI 0,iI 0,.str [],sN]) (ws := xs[k].cells) (ty := 67) rfl (tn_one hx) rfl
   obtain ⟨as,hsa,hsl2,hal⟩ := (hrd _ hmem).keep (Kp.trans kk k3)
   have hea := Sl.elems hsa hsl2
   obtain ⟨sa,sc,so,hav⟩ := hsa.len
   rw [hav] at hea
   obtain ⟨v4,h4,e4,k4,hv4⟩ := app_mk (h := h3) (ty := 115) (sz := 2) (bytes := 32) (n := as.length) (base := none) (x := .slice sa as.length sc so) rfl hea (by omega)
   have hv4s : IsSl v4 := by
    rcases hv4 with ⟨_,a,rfl⟩ | ⟨_,rfl,_⟩ <;> exact ⟨_,_,_,_,rfl⟩
   clear hv4
   have hv4s' := hv4s
   obtain ⟨p4,n4,c4,o4,rfl⟩ := hv4s'
   have g4 := k4.of g3
   have hxc : xs[k].cells = [iI xs[k].node,iI xs[k].parent,.str xs[k].name,.slice sa as.length sc so] := by simp only [TNode.cells,hav]
   rw [hxc] at e3 g3 g4 hget
   have e5 : putCells h4 h.size 3 [.slice p4 n4 c4 o4] = some (h4.set h.size (.cells [iI xs[k].node,iI xs[k].parent,.str xs[k].name,.slice p4 n4 c4 o4] 67 false false none)) := by
    rw [put_at g4 (by simp) rfl rfl]; rfl
   have k5 : Keeps h.size h (h4.set h.size (.cells [iI xs[k].node,iI xs[k].parent,.str xs[k].name,.slice p4 n4 c4 o4] 67 false false none)) := Keeps.trans (n := h.size) k3 (Keeps.trans (n := h.size) (k4.mono (by omega)) (Keeps.set (H.get_lt g4) (Nat.le_refl _) _))
   have g5 := hset_same (H.get_lt g4) (.cells [iI xs[k].node,iI xs[k].parent,.str xs[k].name,.slice p4 n4 c4 o4] 67 false false none)
   generalize h4.set h.size (.cells [iI xs[k].node,iI xs[k].parent,.str xs[k].name,.slice p4 n4 c4 o4] 67 false false none) = h5 at *
   have hel := elems_psh (h := h5) (cs := [iI xs[k].node,iI xs[k].parent,.str xs[k].name,.slice p4 n4 c4 o4]) (ty := 67) (sz := 4) rfl (by decide)
   have k6 : Kp h5 (h5.psh (.cells [iI xs[k].node,iI xs[k].parent,.str xs[k].name,.slice p4 n4 c4 o4] 67 false false none)) := Keeps.psh (Nat.le_refl _) _
   have kk6 := Kp.trans kk (Kp.trans k5 k6)
   obtain ⟨v7,h7,e7,acc7,k7,_⟩ := app_one (bytes := 56) (x := .slice (some (h5.size,0)) 1 1 false) (y := [iI xs[k].node,iI xs[k].parent,.str xs[k].name,.slice p4 n4 c4 o4]) (acc.keep (Kp.trans k5 k6)) (by have := kk6.size; omega) rfl (by simpa using hel) ⟨rfl,rfl⟩ (by rw [List.length_map]; omega)
   have hll : k * 4 + 4 ≤ (xs.map TNode.cells).flatten.length := by rw [hf]; omega
   have hdz : List.drop 4 [iI 0,iI 0,.str [],sN] = [] := rfl
   rw [u48_5]
   simp only [GR,evK,binV,intOp,strOp,shOp,unV,Nat.reduceLT,Nat.reduceEqDiff,Nat.reduceAdd,↓reduceIte,Nat.reduceLeDiff,reduceCtorEq,r48_0,q0,q4,Int.ofNat_lt,hke,r48_1,Int.natCast_nonneg,Int.toNat_natCast,hgh,Nat.zero_add,hll,hget,e3,r48_2,g3,e4,e5,r48_3,q3,g5,hdz,e7,r48_4,hw]
   refine ih (k + 1) (ys ++ [⟨xs[k].node,xs[k].parent,xs[k].name,V.slice p4 n4 c4 o4⟩]) _ h7 v7 (by omega) (by omega) ?_ ?_ ?_ ?_ ?_ ?_ (Keeps.trans kk6 k7)
   ·exact q0
   ·rfl
   ·rfl
   ·rw [List.map_append]; exact acc7
   ·rw [List.map_append,hnp,List.take_succ_eq_append_getElem hke,List.map_append]; rfl
   ·intro y hy
    rcases List.mem_append.1 hy with hy | hy
    ·exact hys y hy
    ·rw [List.mem_singleton.1 hy]; exact hv4s
 refine Sp_fn F.f48 F.p48 (by simp [fn48]) ?_
 simp only [GR,evK,binV,intOp,strOp,shOp,unV,Nat.reduceLT,Nat.reduceEqDiff,Nat.reduceAdd,↓reduceIte,Nat.reduceLeDiff,reduceCtorEq,fn48,c48]
 exact loop _ 0 [] _ h0 _ rfl (Nat.zero_le _) rfl rfl rfl (Acc.nil _ _ _ _) (by simp) (by simp) (Keeps.refl _ _)
theorem new44 (F : Fr23 E) (h : H) : Sp P E (.func 44 [] []) [] h fun v h' => ∃ t xs,v = pP t ∧ RT h.size h' t xs ∧ xs.map TNode.np = [(1,0),(2,0)] ∧ (∀ x ∈ xs,x.attrs = sN) ∧ Kp h h' := by
 refine Sp_fn F.f44 F.p44 (by simp [fn44]) ?_
 simp only [GR,evK,binV,intOp,strOp,shOp,unV,Nat.reduceLT,Nat.reduceEqDiff,Nat.reduceAdd,↓reduceIte,Nat.reduceLeDiff,reduceCtorEq,fn44,c44,r44_0]
 refine ⟨_,[⟨1,0,[],sN⟩,⟨2,0,[],sN⟩],rfl,⟨⟨_,h.size,false,psh_same _ _,psh_old (psh_same _ _) _,Nat.le_refl _⟩,by rw [psh_size]; omega,?_⟩,rfl,?_,Keeps.trans (n := h.size) (Keeps.psh (Nat.le_refl _) _) (Keeps.psh (by rw [psh_size]; omega) _)⟩
 ·intro x hx; simp at hx; rcases hx with rfl | rfl <;> exact ⟨_,_,_,_,rfl⟩
 ·intro x hx; simp at hx; rcases hx with rfl | rfl <;> rfl
def look (M : List NP) (n : Int) : Option Int := (M.find? fun x => x.1 == n).map (·.2)
def climbB (M : List NP) : Nat → Int → Bool
 | 0,n => topI n
 | f + 1,n => topI n || match look M n with
  | some p => climbB M f p
  | none => false
theorem look_mem {M : List NP} {n p : Int} (h : look M n = some p) : (n,p) ∈ M := by
 unfold look at h
 obtain ⟨x,h1,rfl⟩ := Option.map_eq_some_iff.1 h
 have h2 := List.mem_of_find?_eq_some h1
 have h3 := List.find?_some h1
 simp at h3
 rw [← h3]; exact h2
theorem look_of {M : List NP} (g : Grf M) {x : NP} (h : x ∈ M) : look M x.1 = some x.2 := by
 cases hl : look M x.1 with
 | none =>
  unfold look at hl
  have := List.find?_eq_none.1 (Option.map_eq_none_iff.1 hl) x h
  simp at this
 | some p => rw [g.uniq h (look_mem hl) rfl]
inductive Pth (M : List NP) : Int → List Int → Prop where
 | top {c : Int} : topI c = true → Pth M c []
 | step {x : NP} {l : List Int} : x ∈ M → topI x.1 = false → Pth M x.2 l → Pth M x.1 (x.1 :: l)
theorem Pth.of {M : List NP} {n : Int} (h : Rch M n) : ∃ l,Pth M n l := by
 induction h with
 | top h => exact ⟨[],.top h⟩
 | step hx ht _ ih => obtain ⟨l,hl⟩ := ih; exact ⟨_,.step hx ht hl⟩
theorem Pth.uniq {M : List NP} (g : Grf M) {n : Int} {l : List Int} (h : Pth M n l) : ∀ {l' : List Int},Pth M n l' → l = l' := by
 induction h with
 | top ht =>
  intro l' h'
  cases h' with
  | top _ => rfl
  | step _ hf _ => rw [ht] at hf; cases hf
 | @step x l hx ht _ ih =>
  intro l' h'
  generalize hc : x.1 = c at h'
  cases h' with
  | top ht' => rw [← hc,ht] at ht'; cases ht'
  | @step y l2 hy _ hp =>
   have := g.uniq hx hy hc
   subst this
   rw [ih hp]
theorem Pth.suf {M : List NP} {n : Int} {l : List Int} (h : Pth M n l) : ∀ {c : Int},c ∈ l → ∃ l',Pth M c l' ∧ l'.length ≤ l.length := by
 induction h with
 | top _ => intro c hc; cases hc
 | @step x l hx ht hp ih =>
  intro c hc
  rcases List.mem_cons.1 hc with rfl | hc
  ·exact ⟨_,.step hx ht hp,Nat.le_refl _⟩
  ·obtain ⟨l',h1,h2⟩ := ih hc
   exact ⟨l',h1,by simp; omega⟩
theorem Pth.nodup {M : List NP} (g : Grf M) {n : Int} {l : List Int} (h : Pth M n l) : l.Nodup ∧ ∀ c ∈ l,c ∈ M.map (·.1) := by
 induction h with
 | top _ => simp
 | @step x l hx ht hp ih =>
  refine ⟨List.nodup_cons.2 ⟨fun hm => ?_,ih.1⟩,fun c hc => ?_⟩
  ·obtain ⟨l',h1,h2⟩ := hp.suf hm
   have := (Pth.step hx ht hp).uniq g h1
   rw [← this] at h2; simp at h2; omega
  ·rcases List.mem_cons.1 hc with rfl | hc
   ·exact List.mem_map.2 ⟨x,hx,rfl⟩
   ·exact ih.2 c hc
theorem Pth.climb {M : List NP} (g : Grf M) {n : Int} {l : List Int} (h : Pth M n l) : ∀ f,l.length ≤ f → climbB M f n = true := by
 induction h with
 | top ht =>
  intro f _
  cases f <;> simp [climbB,ht]
 | @step x l hx ht hp ih =>
  intro f hf
  cases f with
  | zero => simp at hf
  | succ f => simp only [climbB,look_of g hx,ih f (by simp at hf; omega),Bool.or_true]
theorem climb_rch {M : List NP} (g : Grf M) {f : Nat} (hf : M.length ≤ f) {n : Int} : climbB M f n = true ↔ Rch M n := by
 constructor
 ·have : ∀ (f : Nat) (n : Int),climbB M f n = true → Rch M n := by
   intro f
   induction f with
   | zero => intro n h; exact .top h
   | succ f ih =>
    intro n h
    cases ht : topI n with
    | true => exact .top ht
    | false =>
     simp only [climbB,ht,Bool.false_or] at h
     cases hl : look M n with
     | none => rw [hl] at h; cases h
     | some p =>
      rw [hl] at h
      exact .step (look_mem hl) ht (ih p h)
  exact this f n
 ·intro h
  obtain ⟨l,hl⟩ := Pth.of h
  refine hl.climb g f ?_
  have := (hl.nodup g).1.length_le_of_subset (l₂ := M.map (·.1)) (fun c hc => (hl.nodup g).2 c hc)
  simp at this; omega
def Srt (M : List NP) : Prop := (M.map (·.1)).Pairwise (· < ·)
theorem np_node (xs : List TNode) : (xs.map TNode.np).map (·.1) = xs.map TNode.node := by simp [TNode.np]
theorem find_at {xs : List TNode} (hs : Srt (xs.map TNode.np)) {j : Nat} (hj : j < xs.length) : findI xs xs[j].node = j ∧ findB xs xs[j].node = true := by
 have hI : findI xs xs[j].node = j := by
  refine findI_at (by omega) (fun x hx => ?_) (fun _ => by omega)
  unfold Srt at hs
  rw [np_node] at hs
  obtain ⟨i,hi,rfl⟩ := List.mem_iff_getElem.1 hx
  simp at hi
  have := List.pairwise_iff_getElem.1 hs i j (by simp; omega) (by simp; omega) (by omega)
  simpa using this
 refine ⟨hI,?_⟩
 unfold findB
 rw [hI,List.getElem?_eq_getElem hj]
 simp
theorem find_no {xs : List TNode} {n : Int} (h : n ∉ xs.map TNode.node) : findB xs n = false := by
 unfold findB
 split
 ·rename_i x hx
  have := List.mem_of_getElem? hx
  simp only [beq_eq_false_iff_ne,ne_eq]
  rintro rfl
  exact h (List.mem_map.2 ⟨x,this,rfl⟩)
 ·rfl
theorem find_look {xs : List TNode} (g : Grf (xs.map TNode.np)) (hs : Srt (xs.map TNode.np)) (n : Int) : (findB xs n = false ∧ look (xs.map TNode.np) n = none) ∨ ∃ hj : findI xs n < xs.length,findB xs n = true ∧ look (xs.map TNode.np) n = some xs[findI xs n].parent := by
 cases hl : look (xs.map TNode.np) n with
 | none =>
  refine .inl ⟨find_no fun hm => ?_,rfl⟩
  obtain ⟨x,hx,rfl⟩ := List.mem_map.1 hm
  have := look_of g (List.mem_map.2 ⟨x,hx,rfl⟩)
  simp only [TNode.np] at this
  rw [hl] at this
  cases this
 | some p =>
  refine .inr ?_
  obtain ⟨x,hx,he⟩ := List.mem_map.1 (look_mem hl)
  obtain ⟨j,hj,rfl⟩ := List.mem_iff_getElem.1 hx
  simp only [TNode.np,Prod.mk.injEq] at he
  obtain ⟨rfl,rfl⟩ := he
  obtain ⟨h1,h2⟩ := find_at hs hj
  exact ⟨by rw [h1]; exact hj,h2,by simp [h1]⟩
def r23_5a : List O := [⟨some 32,.fadr 0 (.t 6),none,0,[32,6]⟩,
 ⟨some 33,.load1 (.t 32),none,1,[33,32]⟩,
 ⟨some 34,.bin .lss (some .int) true (.t 33) (.k (iI 1)),none,3,[34,33]⟩,
 ⟨some 35,.mv (.t 34),none,7,[35,34]⟩,
 ⟨some 36,.mv (.t 5),some (35,false),15,[36,35,5]⟩,
 ⟨some 37,.bin .gtr (some .int) true (.t 36) (.k (iI 0)),some (35,false),31,[37,35,36]⟩,
 ⟨some 38,.mv (.t 37),some (35,false),63,[38,35,37]⟩,
 ⟨some 39,.fadr 0 (.t 6),some (38,true),127,[39,38,6]⟩,
 ⟨some 40,.load1 (.t 39),some (38,true),255,[40,38,39]⟩,
 ⟨some 41,.mv (.t 0),some (38,true),127,[41,38,0]⟩,
 ⟨some 42,.mv (.t 5),some (38,true),127,[42,38,5]⟩,
 ⟨some 43,.bin .sub (some .int) true (.t 42) (.k (iI 1)),some (38,true),1151,[43,38,42]⟩,
 ⟨some 44,.iadrL 4 (.t 41) (.t 43),some (38,true),3711,[44,38,41,43]⟩,
 ⟨some 45,.fadr 0 (.t 44),some (38,true),7807,[45,38,44]⟩,
 ⟨some 46,.load1 (.t 45),some (38,true),15999,[46,38,45]⟩,
 ⟨some 47,.bin .leq (some .int) false (.t 40) (.t 46),some (38,true),32767,[47,38,40,46]⟩,
 ⟨some 48,.pick (.t 38) (.t 47) (.k (.bool false)),some (35,false),65535,[48,35,38,47]⟩,
 ⟨some 49,.pick (.t 35) (.k (.bool true)) (.t 48),none,131071,[49,35,48]⟩,
 ⟨some 50,.mv (.t 49),none,262143,[50,49]⟩,
 ⟨some 51,.fadr 3 (.t 6),some (50,false),524287,[51,50,6]⟩,
 ⟨some 52,.load1 (.t 51),some (50,false),1048575,[52,50,51]⟩,
 ⟨some 53,.call (.k (.func 45 [] [])) [(.t 52)],some (50,false),2097151,[53,50,52]⟩]
def r23_5b : List O := [⟨some 54,.un .not (.t 53),some (50,false),4194303,[54,50,53]⟩,
 ⟨some 55,.pick (.t 50) (.k (.bool true)) (.t 54),none,8388607,[55,50,54]⟩,
 ⟨some 56,.mv (.t 55),none,16777215,[56,55]⟩,
 ⟨some 57,.mv (.t 7),some (56,false),33554431,[57,56,7]⟩,
 ⟨some 58,.mv (.t 57),some (56,false),67108863,[58,56,57]⟩,
 ⟨some 59,.fadr 1 (.t 6),some (58,true),134217727,[59,58,6]⟩,
 ⟨some 60,.load1 (.t 59),some (58,true),268435455,[60,58,59]⟩,
 ⟨some 61,.bin .neq (some .int) true (.t 60) (.k (iI 0)),some (58,true),536870911,[61,58,60]⟩,
 ⟨some 62,.mv (.t 61),some (58,true),1073741823,[62,58,61]⟩,
 ⟨some 63,.fadr 2 (.t 6),some (62,false),2147483647,[63,62,6]⟩,
 ⟨some 64,.load1 (.t 63),some (62,false),4294967295,[64,62,63]⟩,
 ⟨some 65,.bin .neq (some .str) true (.t 64) (.k (.str [])),some (62,false),8589934591,[65,62,64]⟩,
 ⟨some 66,.pick (.t 62) (.k (.bool true)) (.t 65),some (58,true),17179869183,[66,58,62,65]⟩,
 ⟨some 67,.pick (.t 58) (.t 66) (.k (.bool false)),some (56,false),34359738367,[67,56,58,66]⟩,
 ⟨some 68,.pick (.t 56) (.k (.bool true)) (.t 67),none,68719476735,[68,56,67]⟩,
 ⟨some 69,.mv (.t 68),none,137438953471,[69,68]⟩,
 ⟨some 70,.mv (.t 7),some (69,false),274877906943,[70,69,7]⟩,
 ⟨some 71,.un .not (.t 70),some (69,false),549755813887,[71,69,70]⟩,
 ⟨some 72,.mv (.t 71),some (69,false),1099511627775,[72,69,71]⟩,
 ⟨some 73,.fadr 2 (.t 6),some (72,true),2199023255551,[73,72,6]⟩,
 ⟨some 74,.load1 (.t 73),some (72,true),4398046511103,[74,72,73]⟩,
 ⟨some 75,.call (.k (.func 46 [] [])) [(.t 74)],some (72,true),8796093022207,[75,72,74]⟩,
 ⟨some 76,.un .not (.t 75),some (72,true),17592186044415,[76,72,75]⟩,
 ⟨some 77,.pick (.t 72) (.t 76) (.k (.bool false)),some (69,false),35184372088831,[77,69,72,76]⟩,
 ⟨some 78,.pick (.t 69) (.k (.bool true)) (.t 77),none,70368744177663,[78,69,77]⟩]
theorem r23_5_split : r23_5 = r23_5a ++ r23_5b := rfl
theorem rest23T {S : List Fr} {Q : Po} {h : H} {ρ : Nat → V} (w50 : ρ 50 = .bool true) (cont : ∀ ρ2 : Nat → V,ρ2 78 = .bool true → ρ2 0 = ρ 0 → ρ2 4 = ρ 4 → ρ2 5 = ρ 5 → ρ2 6 = ρ 6 → X P E none 141 S ρ2 h Q) : XDO P E none 141 r23_5b S ρ h Q := by
 simp only [GR,evK,binV,intOp,strOp,unV,Nat.reduceLT,Nat.reduceEqDiff,↓reduceIte,r23_5b,w50]
 exact cont _ rfl rfl rfl rfl rfl
theorem rest23 (F : Fr23 E) {S : List Fr} {Q : Po} {h : H} {ρ : Nat → V} {c : Nat} {nd pa : Int} {nm : List UInt8} {v : V} {a : Bool} (g : cC h c [iI nd,iI pa,.str nm,v] 67)
  (w6 : ρ 6 = pP c) (w7 : ρ 7 = .bool (topI nd)) (w50 : ρ 50 = .bool false) (w53 : ρ 53 = .bool a)
  (cont : ∀ ρ2 : Nat → V,ρ2 78 = .bool (!(a && (if topI nd then (pa == 0 && nm == []) else nameB nm))) → ρ2 0 = ρ 0 → ρ2 4 = ρ 4 → ρ2 5 = ρ 5 → ρ2 6 = ρ 6 → X P E none 141 S ρ2 h Q) : XDO P E none 141 r23_5b S ρ h Q := by
 cases a with
 | false =>
  simp only [GR,evK,binV,intOp,strOp,unV,Nat.reduceLT,Nat.reduceEqDiff,↓reduceIte,r23_5b,w50,w53,Bool.not_false]
  exact cont _ (by simp [up]) rfl rfl rfl rfl
 | true =>
  cases htop : topI nd with
  | true =>
   rw [htop] at w7 cont
   by_cases hp : pa = 0
   ·have hp' : (pa != 0) = false := by simp [hp]
    cases hn : nm == [] with
    | false =>
     simp only [GR,evK,binV,intOp,strOp,unV,Nat.reduceLT,Nat.reduceEqDiff,↓reduceIte,r23_5b,w50,w53,Bool.not_true,Bool.not_false,w7,w6,g,hp',hn]
     exact cont _ (by simp [up,hn]) rfl rfl rfl rfl
    | true =>
     simp only [GR,evK,binV,intOp,strOp,unV,Nat.reduceLT,Nat.reduceEqDiff,↓reduceIte,r23_5b,w50,w53,Bool.not_true,w7,w6,g,hp',hn]
     exact cont _ (by simp [up,hn,hp]) rfl rfl rfl rfl
   ·have hp' : (pa != 0) = true := by simp [hp]
    simp only [GR,evK,binV,intOp,strOp,unV,Nat.reduceLT,Nat.reduceEqDiff,↓reduceIte,r23_5b,w50,w53,Bool.not_true,w7,w6,g,hp']
    exact cont _ (by simp [up,hp]) rfl rfl rfl rfl
  | false =>
   rw [htop] at w7 cont
   simp only [GR,evK,binV,intOp,strOp,unV,Nat.reduceLT,Nat.reduceEqDiff,↓reduceIte,r23_5b,w50,w53,Bool.not_true,Bool.not_false,w7,w6,g]
   refine XCD_of (name46 (P := P) F nm h) ?_
   rintro _ hx ⟨rfl,e2⟩
   rw [e2]
   clear e2 hx
   cases hnm : nameB nm with
   | false =>
    simp only [GR,evK,binV,intOp,strOp,unV,Nat.reduceLT,Nat.reduceEqDiff,↓reduceIte,Bool.not_false]
    exact cont _ (by simp [up,hnm]) rfl rfl rfl rfl
   | true =>
    simp only [GR,evK,binV,intOp,strOp,unV,Nat.reduceLT,Nat.reduceEqDiff,↓reduceIte,Bool.not_true]
    exact cont _ (by simp [up,hnm]) rfl rfl rfl rfl
set_option maxHeartbeats 1000000 in
theorem chk23 (F : Fr23 E) {S : List Fr} {Q : Po} {h : H} {ρ : Nat → V} {c b o n cap k : Nat} {opn : Bool} {cs : List V} {ty : Nat} {op ro : Bool} {fz : Option Nat} {nd pa last : Int} {nm : List UInt8} {v : V} {as : List Attr} (g : cC h c [iI nd,iI pa,.str nm,v] 67)
  (hs : Sl h 2 v (as.map Attr.cells)) (hv : IsSl v) (hal : as.length ≤ 1048576) (w0 : ρ 0 = .slice (some (b,o)) n cap opn) (w5 : ρ 5 = iI k) (w6 : ρ 6 = pP c) (w7 : ρ 7 = .bool (topI nd)) (hg : h.get b = some (.cells cs ty op ro fz)) (hk : k < n) (hn : n ≤ 1048576) (h0 : 0 ≤ last) (hl0 : k = 0 → last = 0) (hprev : 0 < k → cs[o + (k - 1) * 4]? = some (iI last))
  (cont : ∀ ρ2 : Nat → V,ρ2 78 = .bool (!(headB last ⟨nd,pa,nm,as⟩ && attrsB [] as)) → ρ2 0 = ρ 0 → ρ2 4 = ρ 4 → ρ2 5 = ρ 5 → ρ2 6 = ρ 6 → X P E none 141 S ρ2 h Q) : XDO P E none 141 r23_5 S ρ h Q := by
 obtain ⟨sa,sn,sc,so,rfl⟩ := hv
 rw [r23_5_split]
 by_cases c1 : nd < 1
 ·have hx : ¬ last < nd := by omega
  simp only [GR,evK,binV,intOp,strOp,unV,Nat.reduceLT,Nat.reduceEqDiff,↓reduceIte,r23_5a,g,w6,c1]
  refine rest23T ?_ ?_
  ·rfl
  ·intro ρ2 e78 e0 e4 e5 e6
   exact cont ρ2 (by rw [e78]; simp [headB,hx]) e0 e4 e5 e6
 ·by_cases c2 : 0 < k
  ·have c2' : ((0 : Int) < (k : Int)) = True := by simp; omega
   have hp1 := hprev c2
   have hw2 : IntKind.i64.wrap ((k : Int) - 1) = ((k - 1 : Nat) : Int) := by
    rw [show (k : Int) - 1 = ((k - 1 : Nat) : Int) by omega]; exact wrap_nat (by omega)
   have hk1 : k - 1 < n := by omega
   by_cases c3 : nd ≤ last
   ·have hx : ¬ last < nd := by omega
    simp only [GR,evK,binV,intOp,strOp,unV,Nat.reduceLT,Nat.reduceEqDiff,↓reduceIte,r23_5a,g,w0,w5,w6,c1,gt_iff_lt,c2',hw2,Int.natCast_nonneg,Int.ofNat_lt,hk1,Int.toNat_natCast,hg,hp1,c3]
    refine rest23T ?_ ?_
    ·rfl
    ·intro ρ2 e78 e0 e4 e5 e6
     exact cont ρ2 (by rw [e78]; simp [headB,hx]) e0 e4 e5 e6
   ·have hlt : last < nd := by omega
    simp only [GR,evK,binV,intOp,strOp,unV,Nat.reduceLT,Nat.reduceEqDiff,↓reduceIte,r23_5a,g,w0,w5,w6,c1,gt_iff_lt,c2',hw2,Int.natCast_nonneg,Int.ofNat_lt,hk1,Int.toNat_natCast,hg,hp1,c3]
    refine XCD_of (attrs45 (P := P) F hs hal) ?_
    rintro _ hx ⟨rfl,e2⟩
    rw [e2]
    clear e2 hx
    refine rest23 (P := P) F (a := attrsB [] as) g ?_ ?_ ?_ ?_ ?_
    ·exact w6
    ·exact w7
    ·rfl
    ·rfl
    ·intro ρ2 e78 e0 e4 e5 e6
     refine cont ρ2 ?_ e0 e4 e5 e6
     rw [e78]; simp only [headB,hlt,decide_true,Bool.true_and,Bool.and_comm]
  ·have c2' : ((0 : Int) < (k : Int)) = False := by simp; omega
   have hl00 := hl0 (by omega)
   have hlt : last < nd := by omega
   simp only [GR,evK,binV,intOp,strOp,unV,Nat.reduceLT,Nat.reduceEqDiff,↓reduceIte,r23_5a,g,w5,w6,c1,gt_iff_lt,c2']
   refine XCD_of (attrs45 (P := P) F hs hal) ?_
   rintro _ hx ⟨rfl,e2⟩
   rw [e2]
   clear e2 hx
   refine rest23 (P := P) F (a := attrsB [] as) g ?_ ?_ ?_ ?_ ?_
   ·exact w6
   ·exact w7
   ·rfl
   ·rfl
   ·intro ρ2 e78 e0 e4 e5 e6
    refine cont ρ2 ?_ e0 e4 e5 e6
    rw [e78]; simp only [headB,hlt,decide_true,Bool.true_and,Bool.and_comm]
end Go.AM.Sc
