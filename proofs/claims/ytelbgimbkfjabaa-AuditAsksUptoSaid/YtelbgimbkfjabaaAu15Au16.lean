/- My own texts of the evaluator, its soundness and its symbolic runs, laid for this claim. -/
import Derived.Test.YtelbgimbkfjabaaAu13Au14
set_option linter.unusedSimpArgs false
set_option linter.unusedVariables false
/-! A group's log: the program's answer. -/
namespace Go.AM.Sc
open Go.AM
variable {P : Program} {E : Env}
theorem Entry.hfill (x : Entry) : x.cells ++ List.drop 56 [.int .i64 0, .int .i64 0, .int .i64 0, .int .i64 0, .int .i64 0, .int .i64 0, .int .i64 0, .int .i64 0, .str [], .str [], .str [], .int .i64 0, .int .i64 0, .slice none 0 0 false, .int .i64 0, .int .i64 0, .int .i64 0, .int .i64 0, .int .i64 0, .int .i64 0, .int .i64 0, .int .i64 0, .int .i64 0, .int .i64 0, .int .i64 0, .int .i64 0, .int .i64 0, .int .i64 0, .int .i64 0, .int .i64 0, .int .i64 0, .int .i64 0, .int .i64 0, .int .i64 0, .int .i64 0, .int .i64 0, .int .i64 0, .int .i64 0, .int .i64 0, .int .i64 0, .int .i64 0, .int .i64 0, .int .i64 0, .int .i64 0, .int .i64 0, .int .i64 0, .int .i64 0, .int .i64 0, .int .i64 0, .int .i64 0, .int .i64 0, .int .i64 0, .slice none 0 0 false, .int .i64 0, .int .i64 0, .int .i64 0] = x.cells := by
  have : List.drop 56 [.int .i64 0, .int .i64 0, .int .i64 0, .int .i64 0, .int .i64 0, .int .i64 0, .int .i64 0, .int .i64 0, .str [], .str [], .str [], .int .i64 0, .int .i64 0, .slice none 0 0 false, .int .i64 0, .int .i64 0, .int .i64 0, .int .i64 0, .int .i64 0, .int .i64 0, .int .i64 0, .int .i64 0, .int .i64 0, .int .i64 0, .int .i64 0, .int .i64 0, .int .i64 0, .int .i64 0, .int .i64 0, .int .i64 0, .int .i64 0, .int .i64 0, .int .i64 0, .int .i64 0, .int .i64 0, .int .i64 0, .int .i64 0, .int .i64 0, .int .i64 0, .int .i64 0, .int .i64 0, .int .i64 0, .int .i64 0, .int .i64 0, .int .i64 0, .int .i64 0, .int .i64 0, .int .i64 0, .int .i64 0, .int .i64 0, .int .i64 0, .int .i64 0, .slice none 0 0 false, .int .i64 0, .int .i64 0, .int .i64 0] = ([] : List V) := rfl
  rw [this, List.append_nil]
structure Out (h : H) (lo : Nat) (v : V) (ps : List (Entry × DEnt)) : Prop where
  acc : Acc h lo 49 56 v (ps.map fun p => p.1.cells)
  ins : ∀ p ∈ ps, EIn (cutV h v) p.1 p.2
theorem Out.nil (h : H) (lo : Nat) : Out h lo (.slice none 0 0 false) [] := ⟨Acc.nil _ _ _ _, by simp⟩
theorem Out.keep {h h' : H} {lo : Nat} {v : V} {ps : List (Entry × DEnt)} (a : Out h lo v ps) (k : Kp h h') : Out h' lo v ps :=
  ⟨a.acc.keep k,fun p hp => (a.ins p hp).kc (cut_kp k a.acc)⟩
theorem Out.app {h h6 : H} {lo n : Nat} {v : V} {ps : List (Entry × DEnt)} (a : Out h lo v ps) (k : Kp h h6) (hlo : lo ≤ h.size) (hn : h.size ≤ n) {x : Entry} {d : DEnt} (hx : EFr n h6 x d) (hl : ps.length ≤ 1048576) :
    ∃ v' h', appV (h6.psh (.cells x.cells 49 false false none)) 49 56 504 v (.slice (some (h6.size, 0)) 1 1 false) = some (.eff v' h') ∧ Out h' lo v' (ps ++ [(x, d)]) ∧ Keeps lo h6 h' := by
  have k7 : Kp h6 (h6.psh (.cells x.cells 49 false false none)) := Keeps.psh (Nat.le_refl _) _
  have kk := k.trans k7
  have hs6 := k.size
  have he := elems_psh (h := h6) (cs := x.cells) (ty := 49) (sz := 56) rfl (by decide)
  obtain ⟨v', h', e1, e2, e3, e4⟩ := app_one (bytes := 504) (x := .slice (some (h6.size, 0)) 1 1 false) (y := x.cells) (a.acc.keep kk) (by rw [psh_size]; omega) rfl (by simpa using he) ⟨rfl, hx.ein.one⟩ (by rw [List.length_map]; omega)
  refine ⟨v', h', e1, ⟨by rw [List.map_append]; exact e2, fun p hp => ?_⟩, (k7.mono (by omega)).trans e3⟩
  rcases List.mem_append.1 hp with hp | hp
  · exact (a.ins p hp).kc ((cut_kp kk a.acc).trans e4)
  · rw [List.mem_singleton.1 hp]
    have hx7 := hx.mv (KL.kp k7 n)
    have : EIn (cutV (h6.psh (.cells x.cells 49 false false none)) v) x d := by
      unfold cutV
      split
      · rename_i b q m c o
        exact hx7.cut (Nat.lt_of_lt_of_le (Acc.lt a.acc rfl) hn)
      · exact hx7.ein
    exact this.kc e4
theorem hit_first {l : List WV} {s : Int} {k : Nat} (hk : k < l.length) (hn : ∀ w ∈ l.take k, atW w s = none) {p : Entry × DEnt} (hp : atW l[k] s = some p) : hitG l s = some p := by
  unfold hitG
  rw [← List.take_append_drop k l, List.findSome?_append, List.findSome?_eq_none_iff.2 hn, List.drop_eq_getElem_cons hk, List.findSome?_cons, hp]
  rfl
theorem hit_none {l : List WV} {s : Int} (hn : ∀ w ∈ l, atW w s = none) : hitG l s = none := List.findSome?_eq_none_iff.2 hn
theorem at_in {h : H} {w : WV} (hw : VIn h w) {s : Int} {p : Entry × DEnt} (hp : atW w s = some p) : EIn h p.1 p.2 := hw.ents p (at_range hp).2.2
theorem zero_one : Entry.zero.cells.all V.one = true := by decide
theorem entOf_one {h : H} {w : WV} (hw : VIn h w) (s : Int) : (entOf (atW w s)).cells.all V.one = true := by
  cases hp : atW w s with
  | none => exact zero_one
  | some p => exact (at_in hw hp).one
set_option maxHeartbeats 4000000 in
theorem inner10 (F : Fa E) {sv : V} {ss : List WV} {hL : H} (hs : Sl hL 21 sv (ss.map fun w => w.x.cells)) (hins : ∀ w ∈ ss, VIn hL w) (hok : ∀ w ∈ ss, okF w.x.first = true) (hl : ss.length ≤ 1048576) {s : Int} (hs0 : 0 ≤ s) (hs1 : s ≤ 9223372036854775806)
    {ps : List (Entry × DEnt)} (hpl : ps.length ≤ 1048576) {u : V} {K : List Fr} {Q : Po}
    (contN : ∀ (ρ' : Nat → V) (h' : H) (ov : V), (∀ w ∈ ss, atW w s = none) → ρ' 9 = u → ρ' 12 = ov → Out h' hL.size ov ps → Kp hL h' → XO P E none 85 r10_22 (.c .ret :: .b 5 :: K) ρ' h' Q)
    (contH : ∀ (ρ' : Nat → V) (h' : H) (ov : V) (p : Entry × DEnt) (x : Entry), hitG ss s = some p → ρ' 6 = sv → ρ' 9 = u → ρ' 13 = .int .i64 s → ρ' 12 = ov → Out h' hL.size ov (ps ++ [(x, p.2)]) → Kp hL h' → X P E none 85 K ρ' h' Q) :
    ∀ (d k : Nat) (ρ : Nat → V) (h : H) (ov : V), ss.length - k = d → k ≤ ss.length → ρ 6 = sv → ρ 9 = u → ρ 12 = ov → ρ 13 = .int .i64 s → ρ 64 = sv → ρ 65 = .int .i64 ss.length → ρ 66 = .int .i64 k → (∀ w ∈ ss.take k, atW w s = none) → Out h hL.size ov ps → Kp hL h →
      XL P E none 85 b10_21 (.b 6 :: .c (.seq (.region r10_22) (.ret)) :: .b 5 :: K) ρ h Q := by
  intro d
  induction d with
  | zero =>
    intro k ρ h ov hd hk q6 q9 q12 q13 q64 q65 q66 hn ho hkp
    have hke : ¬ k < ss.length := by omega
    rw [List.take_of_length_le (by omega)] at hn
    rw [u10_21]
    simp (maxSteps := 2000000) only [GO,GO2,evK,fillV,setR,binV,intOp,strOp,shOp,unV,getR,lenV,partV,V.nj,V.njL,V.cells,Nat.reduceLT,Nat.reduceEqDiff,Nat.reduceAdd,↓reduceIte,Nat.reduceLeDiff,reduceCtorEq,q65,q66,Int.ofNat_lt,hke]
    exact contN _ h ov hn q9 q12 ho hkp
  | succ d ih =>
    intro k ρ h ov hd hk q6 q9 q12 q13 q64 q65 q66 hn ho hkp
    have hke : k < ss.length := by omega
    obtain ⟨b, o, cap, opn, cs, ty, op, ro, fz, v1, hg, hll, he⟩ := (hs.keep hkp).get (k := k) (x := ss[k].x.cells) (by simp [hke])
    have q64' : ρ 64 = V.slice (some (b, o)) ss.length cap opn := by rw [q64, v1, List.length_map]
    have hmem := List.getElem_mem hke
    have dx := (hins _ hmem).keep hkp
    have fl : ∀ z : View, z.cells.length = 21 := fun _ => rfl
    have p0 : ∀ z : View, List.take 21 z.cells = z.cells := fun _ => rfl
    obtain ⟨h3, e3, g3, k3, z3⟩ := put_ex (o := 0) (ws := ss[k].x.cells) (psh_same h (.cells View.zero.cells 63 false false none)) (by rw [fl, fl]; decide) dx.one rfl
    have g3' : h3.get h.size = some (.cells ss[k].x.cells 63 false false none) := g3
    have k3' : Kp h h3 := Keeps.trans (Keeps.psh (Nat.le_refl _) _) k3
    have dx3 := dx.keep k3'
    unfold getR at he
    have hw : IntKind.i64.wrap ((k : Int) + 1) = ((k + 1 : Nat) : Int) := wrap_nat (n := k + 1) (by omega)
    have flx := fl ss[k].x
    have p0x := p0 ss[k].x
    have sp := at31 (P := P) F (s := s) dx3 (hok _ hmem) (by omega) (by omega)
    generalize hxc : ss[k].x.cells = xc at *
    simp only [View.zero, View.cells] at e3
    rw [u10_21]
    simp (maxSteps := 2000000) only [GO,GO2,evK,fillV,setR,binV,intOp,strOp,shOp,unV,getR,lenV,partV,V.nj,V.njL,V.cells,Nat.reduceLT,Nat.reduceEqDiff,Nat.reduceAdd,↓reduceIte,Nat.reduceLeDiff,reduceCtorEq,q65,q66,Int.ofNat_lt,hke,r10_17,r10_18,q64',hg,hll,he,Int.natCast_nonneg,Int.toNat_natCast,flx,p0x,e3,g3',q13]
    refine XC_of sp ?_
    rintro _ h4 ⟨rfl, k4⟩
    have fe : ∀ z : Entry, z.cells.length = 56 := fun _ => rfl
    have pe : ∀ z : Entry, List.take 56 z.cells = z.cells := fun _ => rfl
    have hone4 := entOf_one dx3 s
    obtain ⟨h5, e5, g5, k5, z5⟩ := put_ex (o := 0) (ws := (entOf (atW ss[k] s)).cells) (psh_same h4 (.cells Entry.zero.cells 49 false false none)) (by rw [fe, fe]; decide) hone4 rfl
    have g5' : h5.get h4.size = some (.cells (entOf (atW ss[k] s)).cells 49 false false none) := g5
    have k5' : Kp h4 h5 := Keeps.trans (Keeps.psh (Nat.le_refl _) _) k5
    have kk := (k3'.trans k4).trans k5'
    have fle := fe (entOf (atW ss[k] s))
    have p0e := pe (entOf (atW ss[k] s))
    cases hp : atW ss[k] s with
    | none =>
      rw [hp] at e5 g5' fle p0e
      generalize hyc : (entOf none).cells = yc at *
      simp only [Entry.zero, Entry.cells, Opr.cells, Epoch.cells, Vec.cells, Part.cells] at e5
      simp (maxSteps := 2000000) only [GO,GO2,evK,fillV,setR,binV,intOp,strOp,shOp,unV,getR,lenV,partV,V.nj,V.njL,V.cells,Nat.reduceLT,Nat.reduceEqDiff,Nat.reduceAdd,↓reduceIte,Nat.reduceLeDiff,reduceCtorEq,fle,e5,Option.isSome_none,r10_20,q66,hw]
      refine ih (k + 1) _ h5 ov (by omega) (by omega) q6 q9 q12 q13 q64 q65 rfl ?_ (ho.keep kk) (hkp.trans kk)
      rw [List.take_succ_eq_append_getElem hke]
      intro w hw'
      rcases List.mem_append.1 hw' with hw' | hw'
      · exact hn w hw'
      · rw [List.mem_singleton.1 hw']; exact hp
    | some p =>
      rw [hp] at e5 g5' fle p0e
      have hh := hit_first hke hn hp
      have ein := (at_in dx3 hp).keep (k4.trans k5')
      have sp2 := clone32 (P := P) F ein
      have hent : (entOf (some p)).cells = p.1.cells := rfl
      rw [hent] at e5 g5' fle p0e
      generalize hyc : p.1.cells = yc at *
      rw [hent]
      simp only [Entry.zero, Entry.cells, Opr.cells, Epoch.cells, Vec.cells, Part.cells] at e5
      simp (maxSteps := 2000000) only [GO,GO2,evK,fillV,setR,binV,intOp,strOp,shOp,unV,getR,lenV,partV,V.nj,V.njL,V.cells,Nat.reduceLT,Nat.reduceEqDiff,Nat.reduceAdd,↓reduceIte,Nat.reduceLeDiff,reduceCtorEq,hyc,fle,e5,Option.isSome_some,r10_19,g5',p0e]
      refine XC_of sp2 ?_
      rintro _ h6 ⟨⟨x', rfl, hfr⟩, k6⟩
      obtain ⟨v', h8, e8, ho8, k8⟩ := ho.app (kk.trans k6) hkp.size kk.size hfr hpl
      have flx' := fe x'
      have hfill := Entry.hfill x'
      generalize hzc : x'.cells = zc at *
      simp (maxSteps := 2000000) only [GO,GO2,evK,fillV,setR,binV,intOp,strOp,shOp,unV,getR,lenV,partV,V.nj,V.njL,V.cells,Nat.reduceLT,Nat.reduceEqDiff,Nat.reduceAdd,↓reduceIte,Nat.reduceLeDiff,reduceCtorEq,flx',hfill,q12,e8]
      exact contH _ h8 v' p x' hh q6 q9 q13 rfl ho8 (Keeps.trans (n := hL.size) (hkp.trans (kk.trans k6)) k8)
set_option maxHeartbeats 4000000 in
theorem outer10 (F : Fa E) {sv : V} {ss : List WV} {hL : H} (hs : Sl hL 21 sv (ss.map fun w => w.x.cells)) (hins : ∀ w ∈ ss, VIn hL w) (hok : ∀ w ∈ ss, okF w.x.first = true) (hl : ss.length ≤ 1048576) (htot : totG ss ≤ 1048576) (hl0 : 0 ≤ leastG ss) (hl1 : leastG ss ≤ 1099511627776) {Q : V → H → Prop} (hQ : ∀ r h', LogOut h' ss r → Kp hL h' → Q r h') :
    ∀ (n i : Nat) (ps : List (Entry × DEnt)) (ρ : Nat → V) (h : H) (ov : V), fuelG ss - i = n → LI ss i ps → ρ 6 = sv → ρ 9 = .int .i64 (leastG ss) → ρ 12 = ov → ρ 13 = .int .i64 (leastG ss + i) → Out h hL.size ov ps → Kp hL h →
      XL P E none 85 b10_24 [.b 4] ρ h (Fin [.t 4, .t 5] Q) := by
  obtain ⟨a1, c1, o1, e1⟩ := hs.len
  rw [List.length_map] at e1
  intro n
  induction n with
  | zero =>
    intro i ps ρ h ov hn hi q6 q9 q12 q13 ho hkp
    have hle := hi.le
    rw [u10_24]
    simp (maxSteps := 2000000) only [GO,GO2,evK,fillV,setR,binV,intOp,strOp,shOp,unV,getR,lenV,partV,V.nj,V.njL,V.cells,Nat.reduceLT,Nat.reduceEqDiff,Nat.reduceAdd,↓reduceIte,Nat.reduceLeDiff,reduceCtorEq,r10_16,q6,e1]
    refine inner10 F hs hins hok hl (s := leastG ss + i) (by omega) (by omega) (by rw [hi.len]; omega) (u := .int .i64 (leastG ss)) (fun ρ' h' ov' hno w9 w12 ho' k' => ?_) (fun ρ' h' ov' p x hh w6 w9 w13 w12 ho' k' => ?_) _ 0 _ h ov rfl (Nat.zero_le _) q6 q9 q12 q13 e1.symm rfl rfl (by simp) ho hkp
    · simp (maxSteps := 2000000) only [GO,GO2,evK,fillV,setR,binV,intOp,strOp,shOp,unV,getR,lenV,partV,V.nj,V.njL,V.cells,Nat.reduceLT,Nat.reduceEqDiff,Nat.reduceAdd,↓reduceIte,Nat.reduceLeDiff,reduceCtorEq,r10_22,w9,w12]
      exact hQ _ _ ⟨ov', ps, rfl, ho'.acc.sl, fun p hp => (ho'.ins p hp).kc (cut_kc _ _), hi.done (hit_none hno), by rw [hi.len]; omega⟩ k'
    · have := hit_top hh
      unfold fuelG at hn
      omega
  | succ n ih =>
    intro i ps ρ h ov hn hi q6 q9 q12 q13 ho hkp
    have hle := hi.le
    rw [u10_24]
    simp (maxSteps := 2000000) only [GO,GO2,evK,fillV,setR,binV,intOp,strOp,shOp,unV,getR,lenV,partV,V.nj,V.njL,V.cells,Nat.reduceLT,Nat.reduceEqDiff,Nat.reduceAdd,↓reduceIte,Nat.reduceLeDiff,reduceCtorEq,r10_16,q6,e1]
    refine inner10 F hs hins hok hl (s := leastG ss + i) (by omega) (by omega) (by rw [hi.len]; omega) (u := .int .i64 (leastG ss)) (fun ρ' h' ov' hno w9 w12 ho' k' => ?_) (fun ρ' h' ov' p x hh w6 w9 w13 w12 ho' k' => ?_) _ 0 _ h ov rfl (Nat.zero_le _) q6 q9 q12 q13 e1.symm rfl rfl (by simp) ho hkp
    · simp (maxSteps := 2000000) only [GO,GO2,evK,fillV,setR,binV,intOp,strOp,shOp,unV,getR,lenV,partV,V.nj,V.njL,V.cells,Nat.reduceLT,Nat.reduceEqDiff,Nat.reduceAdd,↓reduceIte,Nat.reduceLeDiff,reduceCtorEq,r10_22,w9,w12]
      exact hQ _ _ ⟨ov', ps, rfl, ho'.acc.sl, fun p hp => (ho'.ins p hp).kc (cut_kc _ _), hi.done (hit_none hno), by rw [hi.len]; omega⟩ k'
    · have hw : IntKind.i64.wrap (leastG ss + i + 1) = leastG ss + ((i + 1 : Nat) : Int) := by rw [wrapI (by omega) (by omega)]; omega
      simp (maxSteps := 2000000) only [GO,GO2,evK,fillV,setR,binV,intOp,strOp,shOp,unV,getR,lenV,partV,V.nj,V.njL,V.cells,Nat.reduceLT,Nat.reduceEqDiff,Nat.reduceAdd,↓reduceIte,Nat.reduceLeDiff,reduceCtorEq,r10_23,w13,hw]
      exact ih (i + 1) _ _ h' ov' (by omega) (hi.step hh) w6 w9 w12 rfl ho' k'
set_option maxHeartbeats 4000000 in
theorem log10 (F : Fa E) {v : V} {vs : List WV} {g : Int} {h0 : H} (hv : VsIn h0 v vs) (ht : totG vs ≤ 1048576) : Sp P E (.func 10 [] []) [v, .int .i64 g] h0 fun r h' => LogOut h' (selG g vs) r ∧ Kp h0 h' := by
  obtain ⟨a1, c1, o1, e1⟩ := hv.sl.len
  rw [List.length_map] at e1
  have hl := hv.len
  have hsl := selG_len g vs
  obtain ⟨lk0, lk1⟩ := least_ok (g := g) (vs := vs)
  refine Sp_fn F.f10 F.p10 (by simp [fn10]) ?_
  simp (maxSteps := 2000000) only [GO,GO2,evK,fillV,setR,binV,intOp,strOp,shOp,unV,getR,lenV,partV,V.nj,V.njL,V.cells,Nat.reduceLT,Nat.reduceEqDiff,Nat.reduceAdd,↓reduceIte,Nat.reduceLeDiff,reduceCtorEq,fn10,c10,r10_0,r10_1,e1]
  refine sel10 F hv (fun ρ1 h1 w1 ha k1 => ?_) _ 0 _ h0 rfl (Nat.zero_le _) rfl e1.symm rfl rfl (Acc.nil _ _ _ _) (Keeps.refl _ _)
  have hs := ha.sl
  obtain ⟨b1, c2, o2, e2⟩ := hs.len
  rw [List.length_map] at e2
  have hins : ∀ w ∈ selG g vs, VIn h1 w := fun w hw => (hv.ins w (sel_ok hw).1).keep k1
  have hok : ∀ w ∈ selG g vs, okF w.x.first = true := fun w hw => okF_iff.2 (sel_ok hw).2
  have htot : totG (selG g vs) ≤ 1048576 := Nat.le_trans (tot_filter _ _) ht
  cases hss : selG g vs with
  | nil =>
    rw [hss] at e2
    have z0 : (((0 : Nat) : Int) == 0) = true := rfl
    simp (maxSteps := 2000000) only [GO,GO2,evK,fillV,setR,binV,intOp,strOp,shOp,unV,getR,lenV,partV,V.nj,V.njL,V.cells,Nat.reduceLT,Nat.reduceEqDiff,Nat.reduceAdd,↓reduceIte,Nat.reduceLeDiff,reduceCtorEq,r10_7,e2,List.length_nil,z0,r10_8]
    exact ⟨⟨.slice none 0 0 false, [], rfl, .nil _ _ _, by simp, rfl, by simp⟩, k1⟩
  | cons f r =>
    rw [hss] at e2 hs hins hok htot hsl lk0 lk1
    obtain ⟨b, o, cap, opn, cs, ty, op, ro, fz, v1, hg, hll, he⟩ := hs.get (k := 0) (x := f.x.cells) (by simp)
    rw [List.length_map, List.length_cons] at v1
    have f6 := cell_get he hll 6 _ (by decide) (View.g6 f.x)
    have z0 : (((r.length + 1 : Nat) : Int) == 0) = false := by
      rw [beq_eq_false_iff_ne]; omega
    have c00 : (0 : Int) ≤ 0 := Int.le_refl _
    have t00 : Int.toNat 0 = 0 := rfl
    have hn0 : (0 : Int) < ((r.length + 1 : Nat) : Int) := by omega
    simp (maxSteps := 2000000) only [GO,GO2,evK,fillV,setR,binV,intOp,strOp,shOp,unV,getR,lenV,partV,V.nj,V.njL,V.cells,Nat.reduceLT,Nat.reduceEqDiff,Nat.reduceAdd,↓reduceIte,Nat.reduceLeDiff,reduceCtorEq,r10_7,v1,z0,r10_9,hn0,c00,t00,hg,f6,r10_10]
    refine least10 F hs (a0 := f.x.first) (fun w hw => (hins w hw).one) (by omega) (fun ρ2 h2 w6 w9 k2 => ?_) _ 0 _ h1 rfl (Nat.zero_le _) rfl v1.symm rfl rfl rfl (Keeps.refl _ _)
    have hfold : (f :: r).foldl (fun a w => lessI a w.x.first) f.x.first = leastG (f :: r) := by
      simp only [List.foldl_cons, leastG]
      congr 1
      unfold lessI; split <;> rfl
    rw [hfold] at w9
    have hz : leastG (f :: r) = leastG (f :: r) + ((0 : Nat) : Int) := by omega
    simp (maxSteps := 2000000) only [GO,GO2,evK,fillV,setR,binV,intOp,strOp,shOp,unV,getR,lenV,partV,V.nj,V.njL,V.cells,Nat.reduceLT,Nat.reduceEqDiff,Nat.reduceAdd,↓reduceIte,Nat.reduceLeDiff,reduceCtorEq,r10_15,w9]
    exact outer10 F (hs.keep k2) (fun w hw => (hins w hw).keep k2) hok (by omega) htot lk0 lk1 (fun r' h' ho hk => ⟨ho, (k1.trans k2).trans hk⟩) _ 0 [] _ h2 _ rfl (LI.zero _) w6 w9 rfl (by rw [← hz]; rfl) (Out.nil _ _) (Keeps.refl _ _)
end Go.AM.Sc
/-! A group's log: the document's answer. -/
namespace Go.AM.Sc
open Go.AM
variable {P : Program} {E : Env}
theorem least_snoc {S : List WV} {w : WV} : leastG (S ++ [w]) = if S.isEmpty then w.x.first else lessI (leastG S) w.x.first := by
  cases S with
  | nil => rfl
  | cons f r =>
    show leastG (f :: (r ++ [w])) = _
    simp only [leastG, List.foldl_append, List.foldl_cons, List.foldl_nil, List.isEmpty_cons, Bool.false_eq_true, if_false]
set_option maxHeartbeats 4000000 in
theorem least9 (F : Fa E) {v : V} {vs : List WV} {g : Int} {h0 : H} (hv : VsIn h0 v vs) {K : List Fr} {Q : Po}
    (cont : ∀ (ρ' : Nat → V) (h' : H), ρ' 0 = v → ρ' 1 = .int .i64 g → ρ' 6 = .int .i64 (leastG (selG g vs)) → ρ' 7 = .bool (!(selG g vs).isEmpty) → Kp h0 h' → X P E none 109 K ρ' h' Q) :
    ∀ (d k : Nat) (ρ : Nat → V) (h : H), vs.length - k = d → k ≤ vs.length → ρ 0 = v → ρ 1 = .int .i64 g → ρ 8 = .int .i64 k → ρ 6 = .int .i64 (leastG (selG g (vs.take k))) → ρ 7 = .bool (!(selG g (vs.take k)).isEmpty) → Kp h0 h →
      XL P E none 109 b9_5 (.b 0 :: K) ρ h Q := by
  obtain ⟨a1, c1, o1, e1⟩ := hv.sl.len
  rw [List.length_map] at e1
  have hl := hv.len
  intro d
  induction d with
  | zero =>
    intro k ρ h hd hk q0 q1 q8 q6 q7 hkp
    have hke : ¬ k < vs.length := by omega
    rw [List.take_of_length_le (by omega)] at q6 q7
    rw [u9_5]
    simp (maxSteps := 2000000) only [GO,GO2,evK,fillV,setR,binV,intOp,strOp,shOp,unV,getR,lenV,partV,V.nj,V.njL,V.cells,Nat.reduceLT,Nat.reduceEqDiff,Nat.reduceAdd,↓reduceIte,Nat.reduceLeDiff,reduceCtorEq,r9_1,q0,e1,q8,Int.ofNat_lt,hke]
    exact cont _ _ q0 q1 q6 q7 hkp
  | succ d ih =>
    intro k ρ h hd hk q0 q1 q8 q6 q7 hkp
    have hke : k < vs.length := by omega
    obtain ⟨b, o, cap, opn, cs, ty, op, ro, fz, v1, hg, hll, he⟩ := (hv.sl.keep hkp).get (k := k) (x := vs[k].x.cells) (by simp [hke])
    have q0' : ρ 0 = V.slice (some (b, o)) vs.length cap opn := by rw [q0, v1, List.length_map]
    have f0 := cell_get he hll 0 _ (by decide) (View.g0 vs[k].x)
    rw [Nat.add_zero] at f0
    have f2 := cell_get he hll 2 _ (by decide) (View.g2 vs[k].x)
    have f6 := cell_get he hll 6 _ (by decide) (View.g6 vs[k].x)
    have he' := he
    unfold getR at he'
    have hw : IntKind.i64.wrap ((k : Int) + 1) = ((k + 1 : Nat) : Int) := wrap_nat (n := k + 1) (by omega)
    have htk := selG_take (g := g) hke
    have skip : ∀ (ρ' : Nat → V) (h' : H), isG g vs[k] = false → Kp h h' → ρ' 0 = ρ 0 → ρ' 1 = .int .i64 g → ρ' 8 = .int .i64 ((k + 1 : Nat) : Int) → ρ' 6 = ρ 6 → ρ' 7 = ρ 7 → XL P E none 109 b9_5 (.b 0 :: K) ρ' h' Q := by
      intro ρ' h' hi k' w0 w1 w8 w6 w7
      rw [hi] at htk
      have ht : selG g (vs.take (k + 1)) = selG g (vs.take k) := by rw [htk]; simp
      exact ih (k + 1) ρ' h' (by omega) (by omega) (w0.trans q0) w1 w8 (by rw [ht, w6, q6]) (by rw [ht, w7, q7]) (hkp.trans k')
    rw [u9_5]
    cases hu : vs[k].x.up with
    | false =>
      have hi : isG g vs[k] = false := by simp [isG, hu]
      rw [hu] at f2
      simp (maxSteps := 2000000) only [GO,GO2,evK,fillV,setR,binV,intOp,strOp,shOp,unV,getR,lenV,partV,V.nj,V.njL,V.cells,Nat.reduceLT,Nat.reduceEqDiff,Nat.reduceAdd,↓reduceIte,Nat.reduceLeDiff,reduceCtorEq,r9_1,q0',q8,Int.ofNat_lt,hke,r9_2,hg,Int.natCast_nonneg,Int.toNat_natCast,f2,r9_4,hw]
      exact skip _ _ hi (Keeps.refl _ _) rfl q1 rfl rfl rfl
    | true =>
      rw [hu] at f2
      by_cases hgr : vs[k].x.at_.group = g
      · have hb : (vs[k].x.at_.group == g) = true := by simp [hgr]
        have hi : isG g vs[k] = okF vs[k].x.first := by simp [isG, hu, hgr]
        simp (maxSteps := 2000000) only [GO,GO2,evK,fillV,setR,binV,intOp,strOp,shOp,unV,getR,lenV,partV,V.nj,V.njL,V.cells,Nat.reduceLT,Nat.reduceEqDiff,Nat.reduceAdd,↓reduceIte,Nat.reduceLeDiff,reduceCtorEq,r9_1,q0',q8,Int.ofNat_lt,hke,r9_2,hg,Int.natCast_nonneg,Int.toNat_natCast,f2,Nat.add_zero,f0,q1,hb,hll,he']
        refine XC_of (starts27 F) ?_
        rintro _ h4 ⟨rfl, k4⟩
        have hg4 := Kp.of k4 hg
        cases hok : okF vs[k].x.first with
        | false =>
          rw [hok] at hi
          simp (maxSteps := 2000000) only [GO,GO2,evK,fillV,setR,binV,intOp,strOp,shOp,unV,getR,lenV,partV,V.nj,V.njL,V.cells,Nat.reduceLT,Nat.reduceEqDiff,Nat.reduceAdd,↓reduceIte,Nat.reduceLeDiff,reduceCtorEq,r9_4,q8,hw]
          exact skip _ _ hi k4 rfl q1 rfl rfl rfl
        | true =>
          rw [hok] at hi
          rw [hi, if_pos rfl] at htk
          have hls := least_snoc (S := selG g (vs.take k)) (w := vs[k])
          rw [← htk] at hls
          have hne : (selG g (vs.take (k + 1))).isEmpty = false := by rw [htk]; simp
          cases hse : (selG g (vs.take k)).isEmpty with
          | true =>
            rw [hse] at q7 hls
            simp (maxSteps := 2000000) only [GO,GO2,evK,fillV,setR,binV,intOp,strOp,shOp,unV,getR,lenV,partV,V.nj,V.njL,V.cells,Nat.reduceLT,Nat.reduceEqDiff,Nat.reduceAdd,↓reduceIte,Nat.reduceLeDiff,reduceCtorEq,q7,Bool.not_true,Bool.not_false,r9_3,q0',q8,hg4,Int.ofNat_lt,hke,Int.natCast_nonneg,Int.toNat_natCast,f6,r9_4,hw]
            exact ih (k + 1) _ h4 (by omega) (by omega) q0 q1 rfl (by rw [hls]; rfl) (by rw [hne]; rfl) (hkp.trans k4)
          | false =>
            rw [hse] at q7 hls
            simp only [Bool.false_eq_true, if_false] at hls
            by_cases hlt : vs[k].x.first < leastG (selG g (vs.take k))
            · have hlI : lessI (leastG (selG g (vs.take k))) vs[k].x.first = vs[k].x.first := if_pos hlt
              simp (maxSteps := 2000000) only [GO,GO2,evK,fillV,setR,binV,intOp,strOp,shOp,unV,getR,lenV,partV,V.nj,V.njL,V.cells,Nat.reduceLT,Nat.reduceEqDiff,Nat.reduceAdd,↓reduceIte,Nat.reduceLeDiff,reduceCtorEq,q7,Bool.not_true,Bool.not_false,q0',q8,q6,hg4,Int.ofNat_lt,hke,Int.natCast_nonneg,Int.toNat_natCast,f6,hlt,r9_3,r9_4,hw]
              exact ih (k + 1) _ h4 (by omega) (by omega) q0 q1 rfl (by rw [hls, hlI]; rfl) (by rw [hne]; rfl) (hkp.trans k4)
            · have hlI : lessI (leastG (selG g (vs.take k))) vs[k].x.first = leastG (selG g (vs.take k)) := if_neg hlt
              simp (maxSteps := 2000000) only [GO,GO2,evK,fillV,setR,binV,intOp,strOp,shOp,unV,getR,lenV,partV,V.nj,V.njL,V.cells,Nat.reduceLT,Nat.reduceEqDiff,Nat.reduceAdd,↓reduceIte,Nat.reduceLeDiff,reduceCtorEq,q7,Bool.not_true,Bool.not_false,q0',q8,q6,hg4,Int.ofNat_lt,hke,Int.natCast_nonneg,Int.toNat_natCast,f6,hlt,r9_4,hw]
              exact ih (k + 1) _ h4 (by omega) (by omega) q0 q1 rfl (by rw [hls, hlI]; exact q6) (by rw [hne]; exact q7) (hkp.trans k4)
      · have hb : (vs[k].x.at_.group == g) = false := by simp [hgr]
        have hi : isG g vs[k] = false := by simp [isG, hgr]
        simp (maxSteps := 2000000) only [GO,GO2,evK,fillV,setR,binV,intOp,strOp,shOp,unV,getR,lenV,partV,V.nj,V.njL,V.cells,Nat.reduceLT,Nat.reduceEqDiff,Nat.reduceAdd,↓reduceIte,Nat.reduceLeDiff,reduceCtorEq,r9_1,q0',q8,Int.ofNat_lt,hke,r9_2,hg,Int.natCast_nonneg,Int.toNat_natCast,f2,Nat.add_zero,f0,q1,hb,r9_4,hw]
        exact skip _ _ hi (Keeps.refl _ _) rfl q1 rfl rfl rfl
end Go.AM.Sc
