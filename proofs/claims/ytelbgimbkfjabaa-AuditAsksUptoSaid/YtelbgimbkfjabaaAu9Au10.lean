/- My own texts of the evaluator, its soundness and its symbolic runs, laid for this claim. -/
import Derived.Test.YtelbgimbkfjabaaAu7Au8
set_option linter.unusedSimpArgs false
set_option linter.unusedVariables false
/-! A view's entry for a slot. -/
namespace Go.AM.Sc
open Go.AM
variable {P : Program} {E : Env}
theorem wrapU {n : Int} (h0 : 0 ≤ n) (h1 : n ≤ 9223372036854775807) : IntKind.u64.wrap n = n := by
  have : IntKind.u64.wrap n = n % 18446744073709551616 := by
    simp [IntKind.wrap, IntKind.signed, IntKind.bits]
  rw [this]; omega
theorem wrapI {n : Int} (h0 : -9223372036854775808 ≤ n) (h1 : n ≤ 9223372036854775807) : IntKind.i64.wrap n = n := by
  have : IntKind.i64.wrap n = (n + 9223372036854775808) % 18446744073709551616 - 9223372036854775808 := by
    simp [IntKind.wrap, IntKind.signed, IntKind.bits, IntKind.max]
    omega
  rw [this]; omega
def okF (n : Int) : Bool := decide (0 ≤ n) && decide (n ≤ 1099511627776)
theorem okF_iff {n : Int} : okF n = true ↔ 0 ≤ n ∧ n ≤ 1099511627776 := by simp [okF]
theorem count30 (F : Fa E) {n : Int} {h : H} : Sp P E (.func 30 [] []) [.int .i64 n] h fun r h' => r = .bool (okF n) ∧ h' = h := by
  refine Sp_fn F.f30 F.p30 (by simp [fn30]) ?_
  by_cases h0 : n ≥ 0
  · by_cases h1 : n ≤ 1099511627776
    · simp (maxSteps := 2000000) only [GO,GO2,evK,fillV,setR,binV,intOp,strOp,shOp,unV,getR,lenV,partV,V.nj,V.njL,V.cells,Nat.reduceLT,Nat.reduceEqDiff,Nat.reduceAdd,↓reduceIte,Nat.reduceLeDiff,reduceCtorEq,fn30,c30,r30_0,h0,h1]
      simp [okF, h0, h1]
    · simp (maxSteps := 2000000) only [GO,GO2,evK,fillV,setR,binV,intOp,strOp,shOp,unV,getR,lenV,partV,V.nj,V.njL,V.cells,Nat.reduceLT,Nat.reduceEqDiff,Nat.reduceAdd,↓reduceIte,Nat.reduceLeDiff,reduceCtorEq,fn30,c30,r30_0,h0,h1]
      simp [okF, h1]
  · simp (maxSteps := 2000000) only [GO,GO2,evK,fillV,setR,binV,intOp,strOp,shOp,unV,getR,lenV,partV,V.nj,V.njL,V.cells,Nat.reduceLT,Nat.reduceEqDiff,Nat.reduceAdd,↓reduceIte,Nat.reduceLeDiff,reduceCtorEq,fn30,c30,r30_0,h0]
    have : ¬ 0 ≤ n := h0
    simp [okF, this]
theorem starts27 (F : Fa E) {x : View} {h : H} : Sp P E (.func 27 [] []) [.agg x.cells] h fun r h' => r = .bool (okF x.first) ∧ Kp h h' := by
  have hk0 : Kp h (h.psh (.cells x.cells 63 false false none)) := Keeps.psh (Nat.le_refl _) _
  have gx := psh_same h (.cells x.cells 63 false false none)
  refine Sp_fn F.f27 F.p27 (by simp [fn27]) ?_
  by_cases h0 : x.first ≥ 0
  · by_cases h1 : x.first ≤ 1099511627776
    · simp (maxSteps := 2000000) only [GO,GO2,evK,fillV,setR,binV,intOp,strOp,shOp,unV,getR,lenV,partV,V.nj,V.njL,V.cells,Nat.reduceLT,Nat.reduceEqDiff,Nat.reduceAdd,↓reduceIte,Nat.reduceLeDiff,reduceCtorEq,fn27,c27,r27_0,r27_1,gx,View.len,View.g6,h0,h1]
      exact ⟨by simp [okF, h0, h1], hk0⟩
    · simp (maxSteps := 2000000) only [GO,GO2,evK,fillV,setR,binV,intOp,strOp,shOp,unV,getR,lenV,partV,V.nj,V.njL,V.cells,Nat.reduceLT,Nat.reduceEqDiff,Nat.reduceAdd,↓reduceIte,Nat.reduceLeDiff,reduceCtorEq,fn27,c27,r27_0,r27_1,gx,View.len,View.g6,h0,h1]
      exact ⟨by simp [okF, h1], hk0⟩
  · simp (maxSteps := 2000000) only [GO,GO2,evK,fillV,setR,binV,intOp,strOp,shOp,unV,getR,lenV,partV,V.nj,V.njL,V.cells,Nat.reduceLT,Nat.reduceEqDiff,Nat.reduceAdd,↓reduceIte,Nat.reduceLeDiff,reduceCtorEq,fn27,c27,r27_0,r27_1,gx,View.len,View.g6,h0]
    have : ¬ 0 ≤ x.first := h0
    exact ⟨by simp [okF, this], hk0⟩
def Entry.zero : Entry := ⟨0, 0, 0, ⟨0, 0, 0, 0, 0, [], [], []⟩, 0, 0, .slice none 0 0 false, ⟨0, ⟨0, 0, 0, 0, 0, 0, 0, 0⟩, ⟨0, 0, 0, 0, 0, 0, 0, 0⟩, ⟨0, 0, 0, 0, 0, 0, 0, 0⟩⟩, 0, ⟨0, 0, 0, 0, 0, 0, 0, 0⟩, 0, ⟨0, 0, 0, .slice none 0 0 false⟩, 0, 0, 0⟩
def atW (w : WV) (s : Int) : Option (Entry × DEnt) := if w.x.first ≤ s then w.es[(s - w.x.first).toNat]? else none
def entOf : Option (Entry × DEnt) → Entry
  | some p => p.1
  | none => Entry.zero
set_option maxHeartbeats 2000000 in
theorem at31 (F : Fa E) {w : WV} {s : Int} {h : H} (hw : VIn h w) (hf : okF w.x.first = true) (hs0 : -9223372036854775808 ≤ s) (hs1 : s ≤ 9223372036854775807) :
    Sp P E (.func 31 [] []) [.agg w.x.cells, .int .i64 s] h fun r h' => r = .tup [.agg (entOf (atW w s)).cells, .bool (atW w s).isSome] ∧ Kp h h' := by
  obtain ⟨f0, f1⟩ := okF_iff.1 hf
  have hl := hw.elen
  have hk0 : Kp h (h.psh (.cells w.x.cells 63 false false none)) := Keeps.psh (Nat.le_refl _) _
  have gx0 := psh_same h (.cells w.x.cells 63 false false none)
  generalize hh1 : h.psh (.cells w.x.cells 63 false false none) = h1 at *
  have hk1 : Kp h1 (h1.psh (.cells Entry.zero.cells 49 false false none)) := Keeps.psh (Nat.le_refl _) _
  have gx := Kp.of hk1 gx0
  have ge := psh_same h1 (.cells Entry.zero.cells 49 false false none)
  generalize hh2 : h1.psh (.cells Entry.zero.cells 49 false false none) = h2 at *
  have fl : ∀ z : Entry, z.cells.length = 56 := fun _ => rfl
  have p0 : ∀ z : Entry, List.take 56 z.cells = z.cells := fun _ => rfl
  have hle : h.size ≤ h1.size := hk0.size
  obtain ⟨a1, c1, o1, e1⟩ := hw.chosen.len
  rw [List.length_map] at e1
  have none_case : atW w s = none → ∀ ρ : Nat → V, ρ 4 = .ptr (some (h1.size, 0)) → XO P E none 32 r31_2 [.c .ret, .c (.seq (.region r31_3) (.ret))] ρ h2 (Fin [.c 4 56 true, .t 5] fun r h' => r = .tup [.agg (entOf (atW w s)).cells, .bool (atW w s).isSome] ∧ Kp h h') := by
    intro hn ρ q4
    rw [hn]
    obtain ⟨h3, e3, g3, k3, z3⟩ := put_ex (o := 0) (ws := Entry.zero.cells) ge (by rw [fl]; decide) (by decide) rfl
    have g3' : h3.get h1.size = some (.cells Entry.zero.cells 49 false false none) := g3
    have k3' : Kp h h3 := Keeps.trans (n := h.size) (hk0.trans hk1) (k3.mono hle)
    have fz := fl Entry.zero
    have pz := p0 Entry.zero
    generalize hzc : Entry.zero.cells = zc at *
    rw [← hzc] at e3
    simp only [Entry.zero, Entry.cells, Opr.cells, Epoch.cells, Vec.cells, Part.cells] at e3
    simp (maxSteps := 2000000) only [GO,GO2,evK,fillV,setR,binV,intOp,strOp,shOp,unV,getR,lenV,partV,V.nj,V.njL,V.cells,Nat.reduceLT,Nat.reduceEqDiff,Nat.reduceAdd,↓reduceIte,Nat.reduceLeDiff,reduceCtorEq,r31_2,q4,e3]
    rw [resVs_c (L := 32) (i := h1.size) (o := 0) (by decide) _ (by exact q4)]
    simp (maxSteps := 2000000) only [GO,GO2,evK,fillV,setR,binV,intOp,strOp,shOp,unV,getR,lenV,partV,V.nj,V.njL,V.cells,Nat.reduceLT,Nat.reduceEqDiff,Nat.reduceAdd,↓reduceIte,Nat.reduceLeDiff,reduceCtorEq,g3',fz,pz]
    exact ⟨by rw [← hzc]; rfl, k3'⟩
  refine Sp_fn F.f31 F.p31 (by simp [fn31]) ?_
  have hh2' := hh2
  simp only [Entry.zero, Entry.cells, Opr.cells, Epoch.cells, Vec.cells, Part.cells] at hh2'
  by_cases hlt : s < w.x.first
  · have hn : atW w s = none := by unfold atW; rw [if_neg (by omega)]
    simp (maxSteps := 2000000) only [GO,GO2,evK,fillV,setR,binV,intOp,strOp,shOp,unV,getR,lenV,partV,V.nj,V.njL,V.cells,Nat.reduceLT,Nat.reduceEqDiff,Nat.reduceAdd,↓reduceIte,Nat.reduceLeDiff,reduceCtorEq,fn31,c31,r31_0,hh1,hh2',r31_1,gx,View.len,View.g6,hlt]
    exact none_case hn _ rfl
  · have u1 : IntKind.u64.wrap s = s := wrapU (by omega) (by omega)
    have u2 : IntKind.u64.wrap w.x.first = w.x.first := wrapU f0 (by omega)
    have u3 : IntKind.u64.wrap (s - w.x.first) = s - w.x.first := wrapU (by omega) (by omega)
    have u4 : IntKind.u64.wrap (w.es.length : Int) = w.es.length := wrapU (by omega) (by omega)
    by_cases hge : s - w.x.first ≥ (w.es.length : Int)
    · have hn : atW w s = none := by unfold atW; rw [if_pos (by omega)]; exact List.getElem?_eq_none (by omega)
      simp (maxSteps := 2000000) only [GO,GO2,evK,fillV,setR,binV,intOp,strOp,shOp,unV,getR,lenV,partV,V.nj,V.njL,V.cells,Nat.reduceLT,Nat.reduceEqDiff,Nat.reduceAdd,↓reduceIte,Nat.reduceLeDiff,reduceCtorEq,fn31,c31,r31_0,hh1,hh2',r31_1,gx,View.len,View.g6,View.g7,e1,hlt,u1,u2,u3,u4,hge]
      exact none_case hn _ rfl
    · obtain ⟨j, hj⟩ : ∃ j : Nat, s - w.x.first = j := ⟨(s - w.x.first).toNat, by omega⟩
      have hjl : j < w.es.length := by omega
      have hn : atW w s = some w.es[j] := by unfold atW; rw [if_pos (by omega), hj, Int.toNat_natCast, List.getElem?_eq_getElem hjl]
      have dx := hw.ents _ (List.getElem_mem hjl)
      obtain ⟨b, o, cap, opn, cs, ty, op, ro, fz, v1, hg, hll, he⟩ := (hw.chosen.keep (hk0.trans hk1)).get (k := j) (x := w.es[j].1.cells) (by simp [hjl])
      rw [List.length_map] at v1
      unfold getR at he
      have i3 : IntKind.i64.wrap (s - w.x.first) = (j : Int) := by rw [wrapI (by omega) (by omega), hj]
      obtain ⟨h3, e3, g3, k3, z3⟩ := put_ex (o := 0) (ws := w.es[j].1.cells) ge (by rw [fl, fl]; decide) dx.one rfl
      have g3' : h3.get h1.size = some (.cells w.es[j].1.cells 49 false false none) := g3
      have k3' : Kp h h3 := Keeps.trans (n := h.size) (hk0.trans hk1) (k3.mono hle)
      have flx := fl w.es[j].1
      have p0x := p0 w.es[j].1
      rw [hn]
      generalize hxc : w.es[j].1.cells = xc at *
      simp (maxSteps := 2000000) only [GO,GO2,evK,fillV,setR,binV,intOp,strOp,shOp,unV,getR,lenV,partV,V.nj,V.njL,V.cells,Nat.reduceLT,Nat.reduceEqDiff,Nat.reduceAdd,↓reduceIte,Nat.reduceLeDiff,reduceCtorEq,fn31,c31,r31_0,hh1,hh2',r31_1,gx,View.len,View.g6,View.g7,e1,hlt,u1,u2,u3,u4,hge,r31_3]
      rw [← e1, v1]
      simp (maxSteps := 2000000) only [GO,GO2,evK,fillV,setR,binV,intOp,strOp,shOp,unV,getR,lenV,partV,V.nj,V.njL,V.cells,Nat.reduceLT,Nat.reduceEqDiff,Nat.reduceAdd,↓reduceIte,Nat.reduceLeDiff,reduceCtorEq,hge,i3,hg,Int.ofNat_lt,hjl,Int.natCast_nonneg,Int.toNat_natCast,hll,he,flx,p0x,e3]
      rw [resVs_c (L := 32) (i := h1.size) (o := 0) (by decide) _ (by rfl)]
      simp (maxSteps := 2000000) only [GO,GO2,evK,fillV,setR,binV,intOp,strOp,shOp,unV,getR,lenV,partV,V.nj,V.njL,V.cells,Nat.reduceLT,Nat.reduceEqDiff,Nat.reduceAdd,↓reduceIte,Nat.reduceLeDiff,reduceCtorEq,g3',flx,p0x]
      exact ⟨by rw [← hxc]; rfl, k3'⟩
def atR (w : WV) (s : Int) : Option (Entry × DEnt) := if okF w.x.first = true then atW w s else none
set_option maxHeartbeats 2000000 in
theorem at28 (F : Fa E) {w : WV} {s : Int} {h : H} (hw : VIn h w) (hs0 : -9223372036854775808 ≤ s) (hs1 : s ≤ 9223372036854775807) :
    Sp P E (.func 28 [] []) [.agg w.x.cells, .int .i64 s] h fun r h' => r = .tup [.agg (entOf (atR w s)).cells, .bool (atR w s).isSome] ∧ Kp h h' := by
  have hl := hw.elen
  have hk0 : Kp h (h.psh (.cells w.x.cells 63 false false none)) := Keeps.psh (Nat.le_refl _) _
  have gx0 := psh_same h (.cells w.x.cells 63 false false none)
  generalize hh1 : h.psh (.cells w.x.cells 63 false false none) = h1 at *
  have hk1 : Kp h1 (h1.psh (.cells Entry.zero.cells 49 false false none)) := Keeps.psh (Nat.le_refl _) _
  have gx1 := Kp.of hk1 gx0
  have ge1 := psh_same h1 (.cells Entry.zero.cells 49 false false none)
  generalize hh2 : h1.psh (.cells Entry.zero.cells 49 false false none) = h2 at *
  have fl : ∀ z : Entry, z.cells.length = 56 := fun _ => rfl
  have p0 : ∀ z : Entry, List.take 56 z.cells = z.cells := fun _ => rfl
  have p21 : ∀ z : View, List.take 21 z.cells = z.cells := fun _ => rfl
  have hle : h.size ≤ h1.size := hk0.size
  obtain ⟨a1, c1, o1, e1⟩ := hw.chosen.len
  rw [List.length_map] at e1
  refine Sp_fn F.f28 F.p28 (by simp [fn28]) ?_
  have hh2' := hh2
  simp only [Entry.zero, Entry.cells, Opr.cells, Epoch.cells, Vec.cells, Part.cells] at hh2'
  simp (maxSteps := 2000000) only [GO,GO2,evK,fillV,setR,binV,intOp,strOp,shOp,unV,getR,lenV,partV,V.nj,V.njL,V.cells,Nat.reduceLT,Nat.reduceEqDiff,Nat.reduceAdd,↓reduceIte,Nat.reduceLeDiff,reduceCtorEq,fn28,c28,r28_0,hh1,hh2',r28_1,gx1,View.len,p21]
  refine XC_of (starts27 F) ?_
  rintro _ h4 ⟨rfl, k4⟩
  have gx := Kp.of k4 gx1
  have ge := Kp.of k4 ge1
  have kk := (hk0.trans hk1).trans k4
  have none_case : atR w s = none → ∀ ρ : Nat → V, ρ 4 = .ptr (some (h1.size, 0)) → XO P E none 34 r28_2 [.c .ret, .c (.seq (.region r28_3) (.ret))] ρ h4 (Fin [.c 4 56 true, .t 5] fun r h' => r = .tup [.agg (entOf (atR w s)).cells, .bool (atR w s).isSome] ∧ Kp h h') := by
    intro hn ρ q4
    rw [hn]
    obtain ⟨h3, e3, g3, k3, z3⟩ := put_ex (o := 0) (ws := Entry.zero.cells) ge (by rw [fl]; decide) (by decide) rfl
    have g3' : h3.get h1.size = some (.cells Entry.zero.cells 49 false false none) := g3
    have k3' : Kp h h3 := Keeps.trans (n := h.size) kk (k3.mono hle)
    have fz := fl Entry.zero
    have pz := p0 Entry.zero
    generalize hzc : Entry.zero.cells = zc at *
    rw [← hzc] at e3
    simp only [Entry.zero, Entry.cells, Opr.cells, Epoch.cells, Vec.cells, Part.cells] at e3
    simp (maxSteps := 2000000) only [GO,GO2,evK,fillV,setR,binV,intOp,strOp,shOp,unV,getR,lenV,partV,V.nj,V.njL,V.cells,Nat.reduceLT,Nat.reduceEqDiff,Nat.reduceAdd,↓reduceIte,Nat.reduceLeDiff,reduceCtorEq,r28_2,q4,e3]
    rw [resVs_c (L := 34) (i := h1.size) (o := 0) (by decide) _ (by exact q4)]
    simp (maxSteps := 2000000) only [GO,GO2,evK,fillV,setR,binV,intOp,strOp,shOp,unV,getR,lenV,partV,V.nj,V.njL,V.cells,Nat.reduceLT,Nat.reduceEqDiff,Nat.reduceAdd,↓reduceIte,Nat.reduceLeDiff,reduceCtorEq,g3',fz,pz]
    exact ⟨by rw [← hzc]; rfl, k3'⟩
  cases hf : okF w.x.first with
  | false =>
    have hn : atR w s = none := by unfold atR; rw [hf]; rfl
    simp (maxSteps := 2000000) only [GO,GO2,evK,fillV,setR,binV,intOp,strOp,shOp,unV,getR,lenV,partV,V.nj,V.njL,V.cells,Nat.reduceLT,Nat.reduceEqDiff,Nat.reduceAdd,↓reduceIte,Nat.reduceLeDiff,reduceCtorEq,Bool.not_false]
    exact none_case hn _ rfl
  | true =>
    obtain ⟨f0, f1⟩ := okF_iff.1 hf
    have hr : atR w s = atW w s := by unfold atR; rw [hf]; rfl
    by_cases hlt : s < w.x.first
    · have hn : atR w s = none := by rw [hr]; unfold atW; rw [if_neg (by omega)]
      simp (maxSteps := 2000000) only [GO,GO2,evK,fillV,setR,binV,intOp,strOp,shOp,unV,getR,lenV,partV,V.nj,V.njL,V.cells,Nat.reduceLT,Nat.reduceEqDiff,Nat.reduceAdd,↓reduceIte,Nat.reduceLeDiff,reduceCtorEq,Bool.not_true,gx,View.len,View.g6,hlt]
      exact none_case hn _ rfl
    · have i0 : IntKind.i64.wrap (s - w.x.first) = s - w.x.first := wrapI (by omega) (by omega)
      by_cases hge : s - w.x.first ≥ (w.es.length : Int)
      · have hn : atR w s = none := by rw [hr]; unfold atW; rw [if_pos (by omega)]; exact List.getElem?_eq_none (by omega)
        simp (maxSteps := 2000000) only [GO,GO2,evK,fillV,setR,binV,intOp,strOp,shOp,unV,getR,lenV,partV,V.nj,V.njL,V.cells,Nat.reduceLT,Nat.reduceEqDiff,Nat.reduceAdd,↓reduceIte,Nat.reduceLeDiff,reduceCtorEq,Bool.not_true,gx,View.len,View.g6,View.g7,e1,hlt,i0,hge]
        exact none_case hn _ rfl
      · obtain ⟨j, hj⟩ : ∃ j : Nat, s - w.x.first = j := ⟨(s - w.x.first).toNat, by omega⟩
        have hjl : j < w.es.length := by omega
        have hn : atR w s = some w.es[j] := by rw [hr]; unfold atW; rw [if_pos (by omega), hj, Int.toNat_natCast, List.getElem?_eq_getElem hjl]
        have dx := hw.ents _ (List.getElem_mem hjl)
        obtain ⟨b, o, cap, opn, cs, ty, op, ro, fz, v1, hg, hll, he⟩ := (hw.chosen.keep kk).get (k := j) (x := w.es[j].1.cells) (by simp [hjl])
        rw [List.length_map] at v1
        unfold getR at he
        have i3 : IntKind.i64.wrap (s - w.x.first) = (j : Int) := by rw [i0, hj]
        obtain ⟨h3, e3, g3, k3, z3⟩ := put_ex (o := 0) (ws := w.es[j].1.cells) ge (by rw [fl, fl]; decide) dx.one rfl
        have g3' : h3.get h1.size = some (.cells w.es[j].1.cells 49 false false none) := g3
        have k3' : Kp h h3 := Keeps.trans (n := h.size) kk (k3.mono hle)
        have flx := fl w.es[j].1
        have p0x := p0 w.es[j].1
        rw [hn]
        generalize hxc : w.es[j].1.cells = xc at *
        simp (maxSteps := 2000000) only [GO,GO2,evK,fillV,setR,binV,intOp,strOp,shOp,unV,getR,lenV,partV,V.nj,V.njL,V.cells,Nat.reduceLT,Nat.reduceEqDiff,Nat.reduceAdd,↓reduceIte,Nat.reduceLeDiff,reduceCtorEq,Bool.not_true,gx,View.len,View.g6,View.g7,e1,hlt,i0,hge,r28_3]
        rw [← e1, v1]
        rw [hj]
        simp (maxSteps := 2000000) only [GO,GO2,evK,fillV,setR,binV,intOp,strOp,shOp,unV,getR,lenV,partV,V.nj,V.njL,V.cells,Nat.reduceLT,Nat.reduceEqDiff,Nat.reduceAdd,↓reduceIte,Nat.reduceLeDiff,reduceCtorEq,hg,Int.ofNat_lt,hjl,Int.natCast_nonneg,Int.toNat_natCast,hll,he,flx,p0x,e3]
        rw [resVs_c (L := 34) (i := h1.size) (o := 0) (by decide) _ (by rfl)]
        simp (maxSteps := 2000000) only [GO,GO2,evK,fillV,setR,binV,intOp,strOp,shOp,unV,getR,lenV,partV,V.nj,V.njL,V.cells,Nat.reduceLT,Nat.reduceEqDiff,Nat.reduceAdd,↓reduceIte,Nat.reduceLeDiff,reduceCtorEq,g3',flx,p0x]
        exact ⟨by rw [← hxc]; rfl, k3'⟩
end Go.AM.Sc
/-! Entries in memory of their own; a list of them that grows. -/
namespace Go.AM.Sc
open Go.AM
variable {P : Program} {E : Env}
def KC (h h' : H) : Prop := ∀ i vs ty op ro fz, h.get i = some (.cells vs ty op ro fz) → h'.get i = some (.cells vs ty op ro fz)
theorem KC.refl (h : H) : KC h h := fun _ _ _ _ _ _ x => x
theorem KC.trans {a b c : H} (x : KC a b) (y : KC b c) : KC a c := fun i vs ty op ro fz h => y i vs ty op ro fz (x i vs ty op ro fz h)
theorem KC.kp {h h' : H} (k : Kp h h') : KC h h' := fun _ _ _ _ _ _ x => k.of x
theorem Sl.kc {h h' : H} {sz : Nat} {v : V} {xs : List (List V)} (s : Sl h sz v xs) (hk : KC h h') : Sl h' sz v xs := by
  cases s with
  | nil a cap opn => exact .nil a cap opn
  | «at» b o cap opn xs vs ty op ro fz hg hl he => exact .at b o cap opn xs vs ty op ro fz (hk _ _ _ _ _ _ hg) hl he
theorem Str.kc {h h' : H} {v : V} {s : List UInt8} (a : Str h v s) (hk : KC h h') : Str h' v s := by
  rcases a with a | ⟨p, n, c, o, cs, h1, h2, h3⟩
  · exact .inl a
  · refine .inr ⟨p, n, c, o, cs, h1, ?_, h3⟩
    obtain ⟨i, q⟩ := p
    by_cases hn : n * 1 = 0
    · simp only [elemsV, hn, if_true] at h2 ⊢; exact h2
    · simp only [elemsV, hn, if_false] at h2 ⊢
      split at h2
      · rename_i vs ty op ro fz hg
        rw [hk _ _ _ _ _ _ hg]
        exact h2
      · cases h2
theorem EIn.kc {h h' : H} {x : Entry} {d : DEnt} (a : EIn h x d) (hk : KC h h') : EIn h' x d := ⟨a.flat, Sl.kc a.ops hk, a.len, Str.kc a.dat hk, a.dlen⟩
theorem Sl.elems {h : H} {sz : Nat} {v : V} {xs : List (List V)} (s : Sl h sz v xs) (hx : ∀ x ∈ xs, x.length = sz) : elemsV h sz xs.length v = some xs.flatten := by
  cases s with
  | nil a cap opn =>
    cases a with
    | none => simp [elemsV]
    | some p => obtain ⟨i, o⟩ := p; simp [elemsV]
  | «at» b o cap opn _ vs ty op ro fz hg hl he =>
    have key : ∀ m, m ≤ xs.length → getR vs o (m * sz) = (xs.take m).flatten := by
      intro m
      induction m with
      | zero => intro _; simp [getR]
      | succ m ih =>
        intro hm
        have h1 := ih (by omega)
        have h2 := he m xs[m] (by simp)
        rw [List.take_succ_eq_append_getElem (by omega), List.flatten_append, ← h1]
        have : getR vs o ((m + 1) * sz) = getR vs o (m * sz) ++ getR vs (o + m * sz) sz := by
          unfold getR
          rw [show (m + 1) * sz = m * sz + sz by rw [Nat.add_mul, Nat.one_mul], List.take_add, List.drop_drop]
        rw [this, h2]
        simp
    have hk := key xs.length (Nat.le_refl _)
    rw [List.take_length] at hk
    simp only [elemsV, hg]
    by_cases h0 : xs.length * sz = 0
    · rw [if_pos h0]
      rw [h0] at hk
      rw [← hk]; simp [getR]
    · rw [if_neg h0, if_pos hl, hk]
def cutB (h : H) (b : Nat) : H := if b < h.size then h.set b .dead else h
theorem cutB_lt {h : H} {b : Nat} (hb : b < h.size) : cutB h b = h.set b .dead := if_pos hb
theorem cutB_kc (h : H) (b : Nat) : KC (cutB h b) h := by
  intro i vs ty op ro fz hg
  unfold cutB at hg
  split at hg
  · rename_i hb
    by_cases hi : b = i
    · subst hi; rw [hset_same hb] at hg; cases hg
    · rw [hset_other hb hi] at hg; exact hg
  · exact hg
theorem cutB_kp {h h' : H} (hk : Kp h h') {b : Nat} (hb : b < h.size) : KC (cutB h b) (cutB h' b) := by
  intro i vs ty op ro fz hg
  have hi := H.get_lt (cutB_kc h b i _ _ _ _ _ hg)
  have hb' : b < h'.size := Nat.lt_of_lt_of_le hb hk.size
  rw [cutB_lt hb] at hg
  rw [cutB_lt hb']
  by_cases hib : b = i
  · subst hib; rw [hset_same hb] at hg; cases hg
  · rw [hset_other hb hib] at hg
    rw [hset_other hb' hib]
    exact hk.of hg
def cutV (h : H) : V → H
  | .slice (some (b, _)) _ _ _ => cutB h b
  | _ => h
theorem cut_kc (h : H) (v : V) : KC (cutV h v) h := by
  unfold cutV
  split
  · exact cutB_kc _ _
  · exact KC.refl _
theorem Acc.lt {h : H} {lo ty sz : Nat} {v : V} {xs : List (List V)} (a : Acc h lo ty sz v xs) {b q n c : Nat} {o : Bool} (hv : v = .slice (some (b, q)) n c o) : b < h.size := by
  rcases a.shape with ⟨_, rfl⟩ | ⟨b', rfl, _, h3⟩
  · cases hv
  · cases hv; exact H.get_lt h3
theorem cut_kp {h h' : H} (hk : Kp h h') {lo ty sz : Nat} {v : V} {xs : List (List V)} (a : Acc h lo ty sz v xs) : KC (cutV h v) (cutV h' v) := by
  unfold cutV
  split
  · exact cutB_kp hk (Acc.lt a rfl)
  · exact KC.kp hk
theorem app_one {h : H} {lo ty sz bytes : Nat} {v x : V} {xs : List (List V)} {y : List V} (a : Acc h lo ty sz v xs) (hlo : lo ≤ h.size) (hl : lenV x = some 1) (he : elemsV h sz 1 x = some y)
    (hy : y.length = sz ∧ y.all V.one = true) (hb : xs.length + 1 ≤ 1099511627776 ∧ (2 * (xs.length + 1) + 1024) * bytes ≤ 281474976710656) :
    ∃ v' h', appV h ty sz bytes v x = some (.eff v' h') ∧ Acc h' lo ty sz v' (xs ++ [y]) ∧ Keeps lo h h' ∧ KC (cutV h v) (cutV h' v') := by
  have hall : ∀ z ∈ xs ++ [y], z.length = sz ∧ z.all V.one = true := fun z hz => (List.mem_append.1 hz).elim (a.elem z) fun hz => by rw [List.mem_singleton.1 hz]; exact hy
  have news : ∀ (h : H) (o : Obj), KC h (cutB (h.psh o) h.size) := by
    intro h o i vs ty op ro fz hg
    have hi := H.get_lt hg
    rw [cutB_lt (by rw [psh_size]; omega), hset_other (by rw [psh_size]; omega) (by omega), H.get_psh, if_neg (by omega)]
    exact hg
  rcases a.shape with ⟨rfl, rfl⟩ | ⟨b, rfl, h2, h3⟩
  · refine ⟨.slice (some (h.size, 0)) 1 1 true, h.psh (.cells y ty true false none), ?_, ⟨.inr ⟨h.size, by simp, hlo, by rw [psh_same]; simp⟩, hall⟩, Keeps.psh hlo _, news h _⟩
    simp only [List.length_nil, Nat.zero_add] at hb
    have h1 : ¬ (1 : Nat) ≤ 0 := by omega
    have hb2 : 2 * 1 + 1024 = 1026 := rfl
    unfold appV
    simp only [hl, he, Nat.zero_add, h1, if_false, hb, and_self, if_true, push_eq]
    simp [elemsV]
  · have hbs := H.get_lt h3
    have hfl := flatten_length a.elem
    refine ⟨.slice (some (h.size, 0)) (xs.length + 1) (xs.length + 1) true, (h.set b .dead).psh (.cells (xs.flatten ++ y) ty true false none), ?_, ⟨.inr ⟨h.size, by simp, hlo, ?_⟩, hall⟩, ?_, ?_⟩
    · have h1 : ¬ xs.length + 1 ≤ xs.length := by omega
      have h4 : 0 + xs.length * sz = xs.flatten.length := by rw [hfl]; omega
      unfold appV
      simp only [hl, he, h1, if_false, hb, and_self, if_true, h3, Nat.le_refl, h4, hy.2, fzFree]
      simp only [push_eq, Option.map_none]
      rw [getR_all (by rw [hfl])]
    · have := psh_same (h.set b .dead) (.cells (xs.flatten ++ y) ty true false none)
      rw [H.set_size] at this
      rw [this]; simp
    · exact (Keeps.set hbs h2 _).trans (Keeps.psh (by rw [H.set_size]; exact hlo) _)
    · show KC (cutB h b) (cutB ((h.set b .dead).psh (.cells (xs.flatten ++ y) ty true false none)) h.size)
      rw [cutB_lt hbs]
      exact news (h.set b .dead) _
end Go.AM.Sc
