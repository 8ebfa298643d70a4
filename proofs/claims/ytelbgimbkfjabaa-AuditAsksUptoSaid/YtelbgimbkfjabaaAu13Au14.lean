/- My own texts of the evaluator, its soundness and its symbolic runs, laid for this claim. -/
import Derived.Test.YtelbgimbkfjabaaAu11Au12
set_option linter.unusedSimpArgs false
set_option linter.unusedVariables false
/-! What a group's log is: plainly. -/
namespace Go.AM.Sc
open Go.AM
def isG (g : Int) (w : WV) : Bool := w.x.up && (w.x.at_.group == g && okF w.x.first)
def selG (g : Int) (vs : List WV) : List WV := vs.filter (isG g)
def lessI (a b : Int) : Int := if b < a then b else a
def leastG : List WV → Int
  | [] => 0
  | f :: r => r.foldl (fun a w => lessI a w.x.first) f.x.first
def hitG (l : List WV) (s : Int) : Option (Entry × DEnt) := l.findSome? fun w => atW w s
def logG (l : List WV) : Nat → Int → List DEnt
  | 0, _ => []
  | n + 1, s => match hitG l s with
    | none => []
    | some p => p.2 :: logG l n (s + 1)
def topG : List WV → Int
  | [] => 0
  | w :: l => max (w.x.first + w.es.length) (topG l)
def fuelG (l : List WV) : Nat := (topG l - leastG l).toNat + 1
def fullG (l : List WV) : List DEnt := logG l (fuelG l) (leastG l)
def totG (l : List WV) : Nat := (l.map fun w => w.es.length).sum
theorem at_range {w : WV} {s : Int} {p : Entry × DEnt} (h : atW w s = some p) : w.x.first ≤ s ∧ s < w.x.first + w.es.length ∧ p ∈ w.es := by
  unfold atW at h
  split at h
  · rename_i hle
    obtain ⟨hlt, hp⟩ := List.getElem?_eq_some_iff.1 h
    exact ⟨hle, by omega, hp ▸ List.getElem_mem hlt⟩
  · cases h
theorem hit_mem {l : List WV} {s : Int} {p : Entry × DEnt} (h : hitG l s = some p) : ∃ w ∈ l, atW w s = some p := List.exists_of_findSome?_eq_some h
theorem top_le : ∀ {l : List WV} {w : WV}, w ∈ l → w.x.first + w.es.length ≤ topG l
  | [], _, h => by cases h
  | a :: l, w, h => by
    unfold topG
    rcases List.mem_cons.1 h with rfl | h
    · omega
    · have := top_le h; omega
theorem hit_top {l : List WV} {s : Int} {p : Entry × DEnt} (h : hitG l s = some p) : s < topG l := by
  obtain ⟨w, hw, ha⟩ := hit_mem h
  have := at_range ha
  have := top_le hw
  omega
def cnt (p : Int → Bool) (a : Int) : Nat → Nat
  | 0 => 0
  | i + 1 => cnt p a i + if p (a + i) then 1 else 0
theorem cnt_all {p : Int → Bool} {a : Int} : ∀ {i : Nat}, (∀ k : Nat, k < i → p (a + k) = true) → cnt p a i = i
  | 0, _ => rfl
  | i + 1, h => by
    have := cnt_all (i := i) fun k hk => h k (by omega)
    simp only [cnt, this, h i (by omega), if_true]
theorem cnt_or {p q r : Int → Bool} {a : Int} (h : ∀ t, p t = true → q t = true ∨ r t = true) : ∀ i, cnt p a i ≤ cnt q a i + cnt r a i
  | 0 => Nat.le_refl _
  | i + 1 => by
    have ih := cnt_or (a := a) h i
    have := h (a + i)
    simp only [cnt]
    cases hp : p (a + i) with
    | false => simp only [Bool.false_eq_true, if_false]; omega
    | true =>
      rcases this hp with hq | hr
      · simp only [hq, if_true]; omega
      · simp only [hr, if_true]; omega
theorem cnt_in {f a : Int} {n : Nat} : ∀ i, cnt (fun t => decide (f ≤ t) && decide (t < f + n)) a i ≤ ((if a + i < f + n then a + i else f + n) - f).toNat
  | 0 => by simp [cnt]
  | i + 1 => by
    have ih := cnt_in (f := f) (a := a) (n := n) i
    simp only [cnt]
    by_cases h1 : f ≤ a + i
    · by_cases h2 : a + i < f + n
      · simp only [h1, h2, decide_true, Bool.and_self, if_true] at ih ⊢
        split <;> omega
      · simp only [h2, decide_false, Bool.and_false, Bool.false_eq_true, if_false] at ih ⊢
        split <;> omega
    · simp only [h1, decide_false, Bool.false_and, Bool.false_eq_true, if_false] at ih ⊢
      split at ih <;> split <;> omega
theorem cnt_hit {a : Int} : ∀ (l : List WV) (i : Nat), cnt (fun t => (hitG l t).isSome) a i ≤ totG l
  | [], i => by
    have : ∀ i, cnt (fun t => (hitG [] t).isSome) a i = 0 := by
      intro i
      induction i with
      | zero => rfl
      | succ i ih =>
        simp only [cnt, ih]
        simp [hitG]
    rw [this]; exact Nat.zero_le _
  | w :: l, i => by
    have h1 := cnt_hit (a := a) l i
    have h2 := cnt_in (f := w.x.first) (a := a) (n := w.es.length) i
    have h3 := cnt_or (p := fun t => (hitG (w :: l) t).isSome) (q := fun t => decide (w.x.first ≤ t) && decide (t < w.x.first + w.es.length)) (r := fun t => (hitG l t).isSome) (a := a) (fun t ht => by
      simp only [hitG, List.findSome?_cons] at ht
      cases hw : atW w t with
      | none => rw [hw] at ht; exact .inr ht
      | some p =>
        obtain ⟨q1, q2, _⟩ := at_range hw
        exact .inl (by simp [q1, q2])) i
    have h4 : ((if a + i < w.x.first + w.es.length then a + i else w.x.first + w.es.length) - w.x.first).toNat ≤ w.es.length := by split <;> omega
    simp only [totG, List.map_cons, List.sum_cons] at h1 ⊢
    omega
theorem log_stop {l : List WV} {s : Int} (h : hitG l s = none) : ∀ n, logG l n s = []
  | 0 => rfl
  | n + 1 => by simp only [logG, h]
structure LI (l : List WV) (i : Nat) (ps : List (Entry × DEnt)) : Prop where
  len : ps.length = i
  eq : ps.map (·.2) ++ logG l (fuelG l - i) (leastG l + i) = fullG l
  hit : ∀ k : Nat, k < i → (hitG l (leastG l + k)).isSome = true
theorem LI.zero (l : List WV) : LI l 0 [] := ⟨rfl, by simp [fullG], fun k h => by omega⟩
theorem LI.step {l : List WV} {i : Nat} {ps : List (Entry × DEnt)} (a : LI l i ps) {p : Entry × DEnt} {x : Entry} (h : hitG l (leastG l + i) = some p) : LI l (i + 1) (ps ++ [(x, p.2)]) := by
  have ht := hit_top h
  have hf : fuelG l - i = (fuelG l - (i + 1)) + 1 := by unfold fuelG; omega
  refine ⟨by simp [a.len], ?_, fun k hk => ?_⟩
  · have := a.eq
    rw [hf] at this
    simp only [logG, h] at this
    rw [List.map_append, List.append_assoc, ← this]
    simp only [List.map_cons, List.map_nil, List.singleton_append]
    rw [show leastG l + ((i + 1 : Nat) : Int) = leastG l + i + 1 by omega]
  · by_cases hki : k = i
    · subst hki; rw [h]; rfl
    · exact a.hit k (by omega)
theorem LI.done {l : List WV} {i : Nat} {ps : List (Entry × DEnt)} (a : LI l i ps) (h : hitG l (leastG l + i) = none) : ps.map (·.2) = fullG l := by
  have := a.eq
  rw [log_stop h, List.append_nil] at this
  exact this
theorem LI.le {l : List WV} {i : Nat} {ps : List (Entry × DEnt)} (a : LI l i ps) : i ≤ totG l := by
  have h1 := cnt_all (p := fun t => (hitG l t).isSome) (a := leastG l) (i := i) fun k hk => a.hit k hk
  have h2 := cnt_hit (a := leastG l) l i
  omega
theorem tot_filter (p : WV → Bool) : ∀ l : List WV, totG (l.filter p) ≤ totG l
  | [] => Nat.le_refl _
  | w :: l => by
    have ih := tot_filter p l
    simp only [totG] at ih ⊢
    rw [List.filter_cons]
    split
    · simp only [List.map_cons, List.sum_cons]; omega
    · simp only [List.map_cons, List.sum_cons]; omega
theorem sel_ok {g : Int} {vs : List WV} {w : WV} (h : w ∈ selG g vs) : w ∈ vs ∧ 0 ≤ w.x.first ∧ w.x.first ≤ 1099511627776 := by
  obtain ⟨h1, h2⟩ := List.mem_filter.1 h
  unfold isG at h2
  simp only [Bool.and_eq_true] at h2
  exact ⟨h1, okF_iff.1 h2.2.2⟩
theorem fold_ok : ∀ {l : List WV} {a : Int}, (0 ≤ a ∧ a ≤ 1099511627776) → (∀ w ∈ l, 0 ≤ w.x.first ∧ w.x.first ≤ 1099511627776) → 0 ≤ l.foldl (fun a w => lessI a w.x.first) a ∧ l.foldl (fun a w => lessI a w.x.first) a ≤ 1099511627776
  | [], _, ha, _ => ha
  | w :: l, a, ha, h => by
    have hw := h w List.mem_cons_self
    exact fold_ok (l := l) (a := lessI a w.x.first) (by unfold lessI; split <;> omega) fun v hv => h v (List.mem_cons_of_mem _ hv)
theorem least_ok {g : Int} {vs : List WV} : 0 ≤ leastG (selG g vs) ∧ leastG (selG g vs) ≤ 1099511627776 := by
  have h : ∀ w ∈ selG g vs, 0 ≤ w.x.first ∧ w.x.first ≤ 1099511627776 := fun w hw => (sel_ok hw).2
  cases hs : selG g vs with
  | nil => exact ⟨Int.le_refl _, by decide⟩
  | cons f r =>
    rw [hs] at h
    exact fold_ok (h f List.mem_cons_self) fun w hw => h w (List.mem_cons_of_mem _ hw)
theorem selG_take {g : Int} {vs : List WV} {k : Nat} (hk : k < vs.length) : selG g (vs.take (k + 1)) = selG g (vs.take k) ++ if isG g vs[k] then [vs[k]] else [] := by
  unfold selG
  rw [List.take_succ_eq_append_getElem hk, List.filter_append]
  congr 1
  by_cases h : isG g vs[k] <;> simp [List.filter_cons, h]
theorem selG_len (g : Int) (vs : List WV) : (selG g vs).length ≤ vs.length := List.length_filter_le _ _
def LogOut (h : H) (l : List WV) (r : V) : Prop := ∃ (v : V) (ps : List (Entry × DEnt)), r = .tup [.int .i64 (leastG l), v] ∧ Sl h 56 v (ps.map fun p => p.1.cells) ∧ (∀ p ∈ ps, EIn h p.1 p.2) ∧ ps.map (·.2) = fullG l ∧ ps.length ≤ 1048576
end Go.AM.Sc
/-! A group's log: the views that count, and the least slot: the program. -/
namespace Go.AM.Sc
open Go.AM
variable {P : Program} {E : Env}
theorem View.hfill (x : View) : x.cells ++ List.drop 21 [.int .i64 0, .int .i64 0, .bool false, .bool false, .bool false, .int .i64 0, .int .i64 0, .slice none 0 0 false, .int .i64 0, .int .i64 0, .int .i64 0, .int .i64 0, .int .i64 0, .int .i64 0, .int .i64 0, .int .i64 0, .int .i64 0, .int .i64 0, .int .i64 0, .slice none 0 0 false, .slice none 0 0 false] = x.cells := by simp
set_option maxHeartbeats 2000000 in
theorem sel10 (F : Fa E) {v : V} {vs : List WV} {g : Int} {h0 : H} (hv : VsIn h0 v vs) {K : List Fr} {Q : Po}
    (cont : ∀ (ρ' : Nat → V) (h' : H), ρ' 1 = .int .i64 g → Acc h' h0.size 63 21 (ρ' 6) ((selG g vs).map fun w => w.x.cells) → Kp h0 h' → X P E none 85 K ρ' h' Q) :
    ∀ (d k : Nat) (ρ : Nat → V) (h : H), vs.length - k = d → k ≤ vs.length → ρ 1 = .int .i64 g → ρ 18 = v → ρ 19 = .int .i64 vs.length → ρ 20 = .int .i64 k → Acc h h0.size 63 21 (ρ 6) ((selG g (vs.take k)).map fun w => w.x.cells) → Kp h0 h →
      XL P E none 85 b10_6 (.b 0 :: K) ρ h Q := by
  have hl := hv.len
  intro d
  induction d with
  | zero =>
    intro k ρ h hd hk q1 q18 q19 q20 ha hkp
    have hke : ¬ k < vs.length := by omega
    rw [List.take_of_length_le (by omega)] at ha
    rw [u10_6]
    simp (maxSteps := 2000000) only [GO,GO2,evK,fillV,setR,binV,intOp,strOp,shOp,unV,getR,lenV,partV,V.nj,V.njL,V.cells,Nat.reduceLT,Nat.reduceEqDiff,Nat.reduceAdd,↓reduceIte,Nat.reduceLeDiff,reduceCtorEq,q19,q20,Int.ofNat_lt,hke]
    exact cont _ _ q1 ha hkp
  | succ d ih =>
    intro k ρ h hd hk q1 q18 q19 q20 ha hkp
    have hke : k < vs.length := by omega
    obtain ⟨b, o, cap, opn, cs, ty, op, ro, fz, v1, hg, hll, he⟩ := (hv.sl.keep hkp).get (k := k) (x := vs[k].x.cells) (by simp [hke])
    have qe : ∀ u : V, u = v → u = V.slice (some (b, o)) vs.length cap opn := fun u hu => by rw [hu, v1, List.length_map]
    have q18' := qe _ q18
    have dx := (hv.ins _ (List.getElem_mem hke)).keep hkp
    have fl : ∀ z : View, z.cells.length = 21 := fun _ => rfl
    have p0 : ∀ z : View, List.take 21 z.cells = z.cells := fun _ => rfl
    obtain ⟨h3, e3, g3, k3, z3⟩ := put_ex (o := 0) (ws := vs[k].x.cells) (psh_same h (.cells View.zero.cells 63 false false none)) (by rw [fl, fl]; decide) dx.one rfl
    have g3' : h3.get h.size = some (.cells vs[k].x.cells 63 false false none) := g3
    have k3' : Kp h h3 := Keeps.trans (Keeps.psh (Nat.le_refl _) _) k3
    have kk := hkp.trans k3'
    have ha3 := ha.keep k3'
    unfold getR at he
    have hw : IntKind.i64.wrap ((k : Int) + 1) = ((k + 1 : Nat) : Int) := wrap_nat (n := k + 1) (by omega)
    have flx := fl vs[k].x
    have p0x := p0 vs[k].x
    have f0 := View.g0 vs[k].x
    have f2 := View.g2 vs[k].x
    have f6 := View.g6 vs[k].x
    have hls := selG_len g (vs.take k)
    rw [List.length_take] at hls
    have htk := selG_take (g := g) hke
    have done : ∀ (ρ' : Nat → V), isG g vs[k] = false → ρ' 6 = ρ 6 → ρ' 1 = .int .i64 g → ρ' 18 = ρ 18 → ρ' 19 = .int .i64 vs.length → ρ' 20 = .int .i64 ((k + 1 : Nat) : Int) → XL P E none 85 b10_6 (.b 0 :: K) ρ' h3 Q := by
      intro ρ' hi w6 w1 w18 w19 w20
      rw [hi] at htk
      exact ih (k + 1) ρ' h3 (by omega) (by omega) w1 (w18.trans q18) w19 w20 (by rw [htk, w6]; simpa using ha3) kk
    have hone := dx.one
    have hfill := View.hfill vs[k].x
    generalize hxc : vs[k].x.cells = xc at *
    simp only [View.zero, View.cells] at e3
    rw [u10_6]
    cases hu : vs[k].x.up with
    | false =>
      have hi : isG g vs[k] = false := by simp [isG, hu]
      rw [hu] at f2
      simp (maxSteps := 2000000) only [GO,GO2,evK,fillV,setR,binV,intOp,strOp,shOp,unV,getR,lenV,partV,V.nj,V.njL,V.cells,Nat.reduceLT,Nat.reduceEqDiff,Nat.reduceAdd,↓reduceIte,Nat.reduceLeDiff,reduceCtorEq,q19,q20,Int.ofNat_lt,hke,r10_2,r10_3,q18',hg,hll,he,Int.natCast_nonneg,Int.toNat_natCast,flx,p0x,e3,g3',f2,r10_5,hw]
      exact done _ hi rfl q1 rfl q19 rfl
    | true =>
      rw [hu] at f2
      by_cases hgr : vs[k].x.at_.group = g
      · have hb : (vs[k].x.at_.group == g) = true := by simp [hgr]
        have hi : isG g vs[k] = okF vs[k].x.first := by simp [isG, hu, hgr]
        simp (maxSteps := 2000000) only [GO,GO2,evK,fillV,setR,binV,intOp,strOp,shOp,unV,getR,lenV,partV,V.nj,V.njL,V.cells,Nat.reduceLT,Nat.reduceEqDiff,Nat.reduceAdd,↓reduceIte,Nat.reduceLeDiff,reduceCtorEq,q19,q20,Int.ofNat_lt,hke,r10_2,r10_3,q18',hg,hll,he,Int.natCast_nonneg,Int.toNat_natCast,flx,p0x,e3,g3',f2,f0,q1,hb,f6]
        refine XC_of (count30 F) ?_
        rintro _ h4 ⟨rfl, rfl⟩
        cases hok : okF vs[k].x.first with
        | false =>
          rw [hok] at hi
          simp (maxSteps := 2000000) only [GO,GO2,evK,fillV,setR,binV,intOp,strOp,shOp,unV,getR,lenV,partV,V.nj,V.njL,V.cells,Nat.reduceLT,Nat.reduceEqDiff,Nat.reduceAdd,↓reduceIte,Nat.reduceLeDiff,reduceCtorEq,r10_5,q20,hw]
          exact done _ hi rfl q1 rfl q19 rfl
        | true =>
          rw [hok] at hi
          rw [hi, if_pos rfl] at htk
          have kp : Kp h4 (h4.psh (.cells xc 63 false false none)) := Keeps.psh (Nat.le_refl _) _
          have kk4 := kk.trans kp
          obtain ⟨v', h', e5, e6, e7⟩ := app_acc (x := .slice (some (h4.size, 0)) 1 1 false) (ys := [xc]) (bytes := 200) (ha3.keep kp) kk4.size rfl (elems_psh flx (by decide)) (by intro y hy; rw [List.mem_singleton.1 hy]; exact ⟨flx, hone⟩) (by rw [List.length_map, List.length_singleton]; omega)
          simp (maxSteps := 2000000) only [GO,GO2,evK,fillV,setR,binV,intOp,strOp,shOp,unV,getR,lenV,partV,V.nj,V.njL,V.cells,Nat.reduceLT,Nat.reduceEqDiff,Nat.reduceAdd,↓reduceIte,Nat.reduceLeDiff,reduceCtorEq,r10_4,g3',flx,p0x,hfill,e5,r10_5,q20,hw]
          refine ih (k + 1) _ h' (by omega) (by omega) q1 q18 q19 rfl ?_ (Keeps.trans (n := h0.size) kk4 e7)
          rw [htk, List.map_append, List.map_cons, List.map_nil, hxc]
          exact e6
      · have hb : (vs[k].x.at_.group == g) = false := by simp [hgr]
        have hi : isG g vs[k] = false := by simp [isG, hgr]
        simp (maxSteps := 2000000) only [GO,GO2,evK,fillV,setR,binV,intOp,strOp,shOp,unV,getR,lenV,partV,V.nj,V.njL,V.cells,Nat.reduceLT,Nat.reduceEqDiff,Nat.reduceAdd,↓reduceIte,Nat.reduceLeDiff,reduceCtorEq,q19,q20,Int.ofNat_lt,hke,r10_2,r10_3,q18',hg,hll,he,Int.natCast_nonneg,Int.toNat_natCast,flx,p0x,e3,g3',f2,f0,q1,hb,r10_5,hw]
        exact done _ hi rfl q1 rfl q19 rfl
theorem minmax_ok (a b : Int) : minmaxV false (.int .i64 a) [.int .i64 b] = some (.int .i64 (lessI a b)) := by
  simp only [minmaxV, lessI]
  simp
set_option maxHeartbeats 2000000 in
theorem least10 (F : Fa E) {sv : V} {ss : List WV} {a0 : Int} {h0 : H} (hs : Sl h0 21 sv (ss.map fun w => w.x.cells)) (hone : ∀ w ∈ ss, w.x.cells.all V.one = true) (hl : ss.length ≤ 1048576) {K : List Fr} {Q : Po}
    (cont : ∀ (ρ' : Nat → V) (h' : H), ρ' 6 = sv → ρ' 9 = .int .i64 (ss.foldl (fun a w => lessI a w.x.first) a0) → Kp h0 h' → X P E none 85 K ρ' h' Q) :
    ∀ (d k : Nat) (ρ : Nat → V) (h : H), ss.length - k = d → k ≤ ss.length → ρ 6 = sv → ρ 50 = sv → ρ 51 = .int .i64 ss.length → ρ 52 = .int .i64 k → ρ 9 = .int .i64 ((ss.take k).foldl (fun a w => lessI a w.x.first) a0) → Kp h0 h →
      XL P E none 85 b10_14 (.b 2 :: K) ρ h Q := by
  intro d
  induction d with
  | zero =>
    intro k ρ h hd hk q6 q50 q51 q52 q9 hkp
    have hke : ¬ k < ss.length := by omega
    rw [List.take_of_length_le (by omega)] at q9
    rw [u10_14]
    simp (maxSteps := 2000000) only [GO,GO2,evK,fillV,setR,binV,intOp,strOp,shOp,unV,getR,lenV,partV,V.nj,V.njL,V.cells,Nat.reduceLT,Nat.reduceEqDiff,Nat.reduceAdd,↓reduceIte,Nat.reduceLeDiff,reduceCtorEq,q51,q52,Int.ofNat_lt,hke]
    exact cont _ _ q6 q9 hkp
  | succ d ih =>
    intro k ρ h hd hk q6 q50 q51 q52 q9 hkp
    have hke : k < ss.length := by omega
    obtain ⟨b, o, cap, opn, cs, ty, op, ro, fz, v1, hg, hll, he⟩ := (hs.keep hkp).get (k := k) (x := ss[k].x.cells) (by simp [hke])
    have q50' : ρ 50 = V.slice (some (b, o)) ss.length cap opn := by rw [q50, v1, List.length_map]
    have fl : ∀ z : View, z.cells.length = 21 := fun _ => rfl
    have p0 : ∀ z : View, List.take 21 z.cells = z.cells := fun _ => rfl
    obtain ⟨h3, e3, g3, k3, z3⟩ := put_ex (o := 0) (ws := ss[k].x.cells) (psh_same h (.cells View.zero.cells 63 false false none)) (by rw [fl, fl]; decide) (hone _ (List.getElem_mem hke)) rfl
    have g3' : h3.get h.size = some (.cells ss[k].x.cells 63 false false none) := g3
    have k3' : Kp h h3 := Keeps.trans (Keeps.psh (Nat.le_refl _) _) k3
    unfold getR at he
    have hw : IntKind.i64.wrap ((k : Int) + 1) = ((k + 1 : Nat) : Int) := wrap_nat (n := k + 1) (by omega)
    have flx := fl ss[k].x
    have p0x := p0 ss[k].x
    have f6 := View.g6 ss[k].x
    generalize hxc : ss[k].x.cells = xc at *
    simp only [View.zero, View.cells] at e3
    rw [u10_14]
    simp (maxSteps := 2000000) only [GO,GO2,evK,fillV,setR,binV,intOp,strOp,shOp,unV,getR,lenV,partV,V.nj,V.njL,V.cells,Nat.reduceLT,Nat.reduceEqDiff,Nat.reduceAdd,↓reduceIte,Nat.reduceLeDiff,reduceCtorEq,q51,q52,Int.ofNat_lt,hke,r10_11,r10_12,q50',hg,hll,he,Int.natCast_nonneg,Int.toNat_natCast,flx,p0x,e3,g3',f6,q9,minmax_ok,r10_13,hw]
    refine ih (k + 1) _ h3 (by omega) (by omega) q6 q50 q51 rfl ?_ (hkp.trans k3')
    rw [List.take_succ_eq_append_getElem hke, List.foldl_append]
    rfl
end Go.AM.Sc
