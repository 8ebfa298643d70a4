/- strconv.toError by the kit's contract; the start with tables and one sentinel. -/
import Derived.Test.YtpfoofcallfjjaaGreatDoorWcCode
set_option linter.unusedSimpArgs false
set_option linter.unusedVariables false
/-! The rules of the symbolic steps, all in one. -/
namespace Go.AM
abbrev StmtOf {p : Prop} (_ : p) : Prop := p
theorem GO : StmtOf ((And.intro @XDP_nil (And.intro @XDP_cons (And.intro @XSP_pur (And.intro @XSP_rd (And.intro @XAP_eff (And.intro @XAP_call (And.intro @XDJ_nil (And.intro @XDJ_cons (And.intro @XSJ_pur (And.intro @XSJ_rd (And.intro @XAJ_eff (And.intro @XAJ_call (And.intro @ptrLt_mk (And.intro @rdLo_load1 (And.intro @rdLo_loadN (And.intro @XDK_nil (And.intro @XDK_cons (And.intro @XSK_pur (And.intro @XSK_rd (And.intro @XAK_eff (And.intro @XAK_call (And.intro @XDQ_nil (And.intro @XDQ_cons (And.intro @XSQ_pur (And.intro @XSQ_rd (And.intro @XAQ_eff (And.intro @XAQ_call (And.intro @XDO_nil (And.intro @XDO_cons (And.intro @XRD_pur (And.intro @XRD_rd (And.intro @XRD_eff (And.intro @XRD_call (And.intro @still_mv (And.intro @still_pick (And.intro @still_alloc (And.intro @still_box (And.intro @still_build (And.intro @still_bslice (And.intro @still_load1 (And.intro @still_loadN (And.intro @still_store (And.intro @still_nilck (And.intro @still_bin (And.intro @still_un (And.intro @still_cvt (And.intro @still_s2b (And.intro @still_b2s (And.intro @still_mkI (And.intro @still_mkF (And.intro @still_mkMap (And.intro @still_mkSlice (And.intro @still_slS (And.intro @still_slL (And.intro @still_fadr (And.intro @still_iadrL (And.intro @still_iadrA (And.intro @still_fld (And.intro @still_idxA (And.intro @still_idxS (And.intro @still_lookup (And.intro @still_mapUpd (And.intro @still_mapDel (And.intro @still_rng (And.intro @still_next (And.intro @still_entry (And.intro @still_extract (And.intro @still_lenS (And.intro @still_lenL (And.intro @still_lenM (And.intro @still_app (And.intro @still_copy (And.intro @still_minmax (And.intro @still_call (And.intro @still_bad (And.intro @still_slA (And.intro @still_capL (And.intro @still_appZ (And.intro @still_i2s (And.intro @still_sid (And.intro @still_same (And.intro @still_p2u (And.intro @still_u2p (And.intro @still_usd (And.intro @still_ustr (And.intro @still_mkNZ (And.intro @still_tass (And.intro @still_inv (And.intro @X_nil (And.intro @X_skip (And.intro @X_region (And.intro @X_seq (And.intro @X_block (And.intro @X_loop (And.intro @X_l (And.intro @X_b (And.intro @X_exit (And.intro @X_ret (And.intro @XQ_nil (And.intro @XQ_c (And.intro @XQ_l (And.intro @XQ_b (And.intro @X_cond (And.intro @XT_bool (And.intro @XO_nil (And.intro @XO_cons (And.intro @XR_pur (And.intro @XR_rd (And.intro @XR_eff (And.intro @XR_call (And.intro @upo_some (And.intro @upo_none (And.intro @wantV_none (And.intro @wantV_some (And.intro @isB_bool (And.intro @ev_t (And.intro @ev_k (And.intro @evs_cons (And.intro @evs_nil (And.intro @evo_none (And.intro @evo_some (And.intro @up_app (And.intro @argF_zero (And.intro @argF_succ (And.intro @push_eq (And.intro @Fin_nrm (And.intro @Fin_ret (And.intro @resVs_nil (And.intro @resVs_t (And.intro @oneOr_one @oneOr_two))))))))))))))))))))))))))))))))))))))))))))))))))))))))))))))))))))))))))))))))))))))))))))))))))))))))))))))))))))))))))))))))))) := (And.intro @XDP_nil (And.intro @XDP_cons (And.intro @XSP_pur (And.intro @XSP_rd (And.intro @XAP_eff (And.intro @XAP_call (And.intro @XDJ_nil (And.intro @XDJ_cons (And.intro @XSJ_pur (And.intro @XSJ_rd (And.intro @XAJ_eff (And.intro @XAJ_call (And.intro @ptrLt_mk (And.intro @rdLo_load1 (And.intro @rdLo_loadN (And.intro @XDK_nil (And.intro @XDK_cons (And.intro @XSK_pur (And.intro @XSK_rd (And.intro @XAK_eff (And.intro @XAK_call (And.intro @XDQ_nil (And.intro @XDQ_cons (And.intro @XSQ_pur (And.intro @XSQ_rd (And.intro @XAQ_eff (And.intro @XAQ_call (And.intro @XDO_nil (And.intro @XDO_cons (And.intro @XRD_pur (And.intro @XRD_rd (And.intro @XRD_eff (And.intro @XRD_call (And.intro @still_mv (And.intro @still_pick (And.intro @still_alloc (And.intro @still_box (And.intro @still_build (And.intro @still_bslice (And.intro @still_load1 (And.intro @still_loadN (And.intro @still_store (And.intro @still_nilck (And.intro @still_bin (And.intro @still_un (And.intro @still_cvt (And.intro @still_s2b (And.intro @still_b2s (And.intro @still_mkI (And.intro @still_mkF (And.intro @still_mkMap (And.intro @still_mkSlice (And.intro @still_slS (And.intro @still_slL (And.intro @still_fadr (And.intro @still_iadrL (And.intro @still_iadrA (And.intro @still_fld (And.intro @still_idxA (And.intro @still_idxS (And.intro @still_lookup (And.intro @still_mapUpd (And.intro @still_mapDel (And.intro @still_rng (And.intro @still_next (And.intro @still_entry (And.intro @still_extract (And.intro @still_lenS (And.intro @still_lenL (And.intro @still_lenM (And.intro @still_app (And.intro @still_copy (And.intro @still_minmax (And.intro @still_call (And.intro @still_bad (And.intro @still_slA (And.intro @still_capL (And.intro @still_appZ (And.intro @still_i2s (And.intro @still_sid (And.intro @still_same (And.intro @still_p2u (And.intro @still_u2p (And.intro @still_usd (And.intro @still_ustr (And.intro @still_mkNZ (And.intro @still_tass (And.intro @still_inv (And.intro @X_nil (And.intro @X_skip (And.intro @X_region (And.intro @X_seq (And.intro @X_block (And.intro @X_loop (And.intro @X_l (And.intro @X_b (And.intro @X_exit (And.intro @X_ret (And.intro @XQ_nil (And.intro @XQ_c (And.intro @XQ_l (And.intro @XQ_b (And.intro @X_cond (And.intro @XT_bool (And.intro @XO_nil (And.intro @XO_cons (And.intro @XR_pur (And.intro @XR_rd (And.intro @XR_eff (And.intro @XR_call (And.intro @upo_some (And.intro @upo_none (And.intro @wantV_none (And.intro @wantV_some (And.intro @isB_bool (And.intro @ev_t (And.intro @ev_k (And.intro @evs_cons (And.intro @evs_nil (And.intro @evo_none (And.intro @evo_some (And.intro @up_app (And.intro @argF_zero (And.intro @argF_succ (And.intro @push_eq (And.intro @Fin_nrm (And.intro @Fin_ret (And.intro @resVs_nil (And.intro @resVs_t (And.intro @oneOr_one @oneOr_two))))))))))))))))))))))))))))))))))))))))))))))))))))))))))))))))))))))))))))))))))))))))))))))))))))))))))))))))))))))))))))))))))
theorem GO2 : StmtOf ((And.intro @Option.map_some.{0,0} (And.intro @if_true.{1} (And.intro @if_false.{1} (And.intro @ite_true.{1} (And.intro @ite_false.{1} (And.intro @Bool.false_eq_true (And.intro @beq_self_eq_true.{0} (And.intro @beq_true (And.intro @beq_false (And.intro @Bool.not_true (And.intro @Bool.not_false (And.intro @Bool.not_eq_true (And.intro @Bool.not_eq_false (And.intro @List.length_cons.{0} (And.intro @List.length_nil.{0} (And.intro @List.take_zero.{0} (And.intro @List.nil_append.{0} (And.intro @List.append_nil.{0} (And.intro @List.drop_succ_cons.{0} (And.intro @List.drop_zero.{0} (And.intro @List.drop_nil.{0} (And.intro @List.cons_append.{0} (And.intro @List.take_succ_cons.{0} (And.intro @List.take_nil.{0} (And.intro @and_self (And.intro @and_true (And.intro @true_and (And.intro @Nat.le_refl (And.intro @decide_true (And.intro @decide_false (And.intro @decide_eq_true_eq (And.intro @List.getElem?_cons_zero.{0} (And.intro @List.getElem?_cons_succ.{0} (And.intro @List.replicate_succ.{0} (And.intro @List.replicate_zero.{0} (And.intro @List.flatten_cons.{0} (And.intro @List.flatten_nil.{0} (And.intro @Nat.zero_add @Nat.add_zero))))))))))))))))))))))))))))))))))))))) := (And.intro @Option.map_some.{0,0} (And.intro @if_true.{1} (And.intro @if_false.{1} (And.intro @ite_true.{1} (And.intro @ite_false.{1} (And.intro @Bool.false_eq_true (And.intro @beq_self_eq_true.{0} (And.intro @beq_true (And.intro @beq_false (And.intro @Bool.not_true (And.intro @Bool.not_false (And.intro @Bool.not_eq_true (And.intro @Bool.not_eq_false (And.intro @List.length_cons.{0} (And.intro @List.length_nil.{0} (And.intro @List.take_zero.{0} (And.intro @List.nil_append.{0} (And.intro @List.append_nil.{0} (And.intro @List.drop_succ_cons.{0} (And.intro @List.drop_zero.{0} (And.intro @List.drop_nil.{0} (And.intro @List.cons_append.{0} (And.intro @List.take_succ_cons.{0} (And.intro @List.take_nil.{0} (And.intro @and_self (And.intro @and_true (And.intro @true_and (And.intro @Nat.le_refl (And.intro @decide_true (And.intro @decide_false (And.intro @decide_eq_true_eq (And.intro @List.getElem?_cons_zero.{0} (And.intro @List.getElem?_cons_succ.{0} (And.intro @List.replicate_succ.{0} (And.intro @List.replicate_zero.{0} (And.intro @List.flatten_cons.{0} (And.intro @List.flatten_nil.{0} (And.intro @Nat.zero_add @Nat.add_zero))))))))))))))))))))))))))))))))))))))
end Go.AM
/-! Blocks that are held: none is another's, none is old. -/
namespace Go.AM
abbrev Cell := Nat × Obj
structure Ow (lo : Nat) (h : H) (m : List Cell) : Prop where
  get : ∀ p ∈ m, h.get p.1 = some p.2
  low : ∀ p ∈ m, lo ≤ p.1
  nd : (m.map (·.1)).Nodup
variable {lo : Nat} {h h' : H} {m m' : List Cell}
theorem Ow.nil (lo : Nat) (h : H) : Ow lo h [] := ⟨by simp, by simp, by simp⟩
theorem Ow.perm (a : Ow lo h m) (p : m.Perm m') : Ow lo h m' := ⟨fun x hx => a.get x (p.mem_iff.2 hx), fun x hx => a.low x (p.mem_iff.2 hx), (p.map _).nodup_iff.1 a.nd⟩
theorem Ow.kp (a : Ow lo h m) (k : Kp h h') : Ow lo h' m := ⟨fun x hx => k.of (a.get x hx), a.low, a.nd⟩
theorem Ow.sub (a : Ow lo h m) (s : m'.Sublist m) : Ow lo h m' := ⟨fun x hx => a.get x (s.mem hx), fun x hx => a.low x (s.mem hx), (s.map _).nodup a.nd⟩
theorem Ow.tail {p : Cell} (a : Ow lo h (p :: m)) : Ow lo h m := a.sub (List.sublist_cons_self _ _)
theorem Ow.right {m1 : List Cell} (a : Ow lo h (m1 ++ m)) : Ow lo h m := a.sub (List.sublist_append_right _ _)
theorem Ow.left {m1 : List Cell} (a : Ow lo h (m ++ m1)) : Ow lo h m := a.sub (List.sublist_append_left _ _)
theorem Ow.head {i : Nat} {o : Obj} (a : Ow lo h ((i, o) :: m)) : h.get i = some o := a.get _ List.mem_cons_self
theorem Ow.at {i : Nat} {o : Obj} (a : Ow lo h m) (hm : (i, o) ∈ m) : h.get i = some o := a.get _ hm
theorem Ow.ne {i : Nat} {o : Obj} (a : Ow lo h ((i, o) :: m)) {p : Cell} (hp : p ∈ m) : p.1 ≠ i := by
  have := a.nd
  rw [List.map_cons, List.nodup_cons] at this
  rintro rfl
  exact this.1 (List.mem_map.2 ⟨p, hp, rfl⟩)
theorem Ow.set {i : Nat} {o : Obj} (a : Ow lo h ((i, o) :: m)) (o' : Obj) : Ow lo (h.set i o') ((i, o') :: m) ∧ Keeps lo h (h.set i o') := by
  have hg := a.head
  have hlt := H.get_lt hg
  have hlo := a.low _ List.mem_cons_self
  refine ⟨⟨fun p hp => ?_, fun p hp => ?_, a.nd⟩, Keeps.set hlt hlo _⟩
  · rcases List.mem_cons.1 hp with rfl | hp
    · exact hset_same hlt _
    · rw [hset_other hlt (Ne.symm (a.ne hp))]; exact a.get p (List.mem_cons_of_mem _ hp)
  · rcases List.mem_cons.1 hp with rfl | hp
    · exact hlo
    · exact a.low p (List.mem_cons_of_mem _ hp)
theorem Ow.push (a : Ow lo h m) (hlo : lo ≤ h.size) (o : Obj) : Ow lo (h.psh o) ((h.size, o) :: m) := by
  refine ⟨fun p hp => ?_, fun p hp => ?_, ?_⟩
  · rcases List.mem_cons.1 hp with rfl | hp
    · exact psh_same _ _
    · exact psh_old (a.get p hp) _
  · rcases List.mem_cons.1 hp with rfl | hp
    · exact hlo
    · exact a.low p hp
  · rw [List.map_cons, List.nodup_cons]
    refine ⟨fun hm => ?_, a.nd⟩
    obtain ⟨p, hp, e⟩ := List.mem_map.1 hm
    have := H.get_lt (a.get p hp)
    simp only at e
    omega
/-- A list that grows: no block, or one of its own. -/
def vl (b : Option Nat) (n : Nat) : V := match b with
  | none => .slice none 0 0 false
  | some b => .slice (some (b, 0)) n n true
def fpt (b : Option Nat) (ty : Nat) (cs : List V) : List Cell := match b with
  | none => []
  | some b => [(b, .cells cs ty true false none)]
theorem vl_one (b : Option Nat) (n : Nat) : [vl b n].all V.one = true := by cases b <;> rfl
theorem flatten_ln {sz : Nat} : ∀ {xs : List (List V)}, (∀ x ∈ xs, x.length = sz) → xs.flatten.length = xs.length * sz
  | [], _ => by simp
  | x :: xs, h => by
    rw [List.flatten_cons, List.length_append, flatten_ln (fun y hy => h y (List.mem_cons_of_mem _ hy)), h x List.mem_cons_self, List.length_cons, Nat.add_mul]; omega
theorem getR_whole' {vs : List V} {n : Nat} (h : vs.length = n) : getR vs 0 n = vs := by unfold getR; simp [← h]
theorem Ow.app {ty sz bytes : Nat} {b : Option Nat} {xs ys : List (List V)} {x : V} (a : Ow lo h (fpt b ty xs.flatten ++ m)) (hb : b = none → xs = []) (hlo : lo ≤ h.size) (hx : ∀ z ∈ xs, z.length = sz)
    (hl : lenV x = some ys.length) (he : elemsV h sz ys.length x = some ys.flatten) (hy1 : ys.flatten.all V.one = true) (hbd : xs.length + ys.length ≤ 1099511627776 ∧ (2 * (xs.length + ys.length) + 1024) * bytes ≤ 281474976710656) :
    ∃ b' h', appV h ty sz bytes (vl b xs.length) x = some (.eff (vl b' (xs ++ ys).length) h') ∧ Ow lo h' (fpt b' ty (xs ++ ys).flatten ++ m) ∧ (b' = none → xs ++ ys = []) ∧ Keeps lo h h' ∧ (∀ i o, h.get i = some o → b ≠ some i → h'.get i = some o) := by
  cases b with
  | none =>
    have hx0 := hb rfl
    subst hx0
    by_cases hn : ys.length = 0
    · have : ys = [] := List.eq_nil_of_length_eq_zero hn
      subst this
      refine ⟨none, h, ?_, a, fun _ => rfl, Keeps.refl _ _, fun _ _ hg _ => hg⟩
      simp only [List.length_nil] at hl he
      unfold appV vl; simp [hl, he]
    · refine ⟨some h.size, h.psh (.cells ys.flatten ty true false none), ?_, ?_, by simp, Keeps.psh hlo _, fun _ _ hg _ => psh_old hg _⟩
      · simp only [List.length_nil, Nat.zero_add] at hbd
        have : ¬ ys.length ≤ 0 := by omega
        unfold appV vl
        simp only [hl, he, Nat.zero_add, this, if_false, hbd, and_self, if_true, push_eq]
        simp [elemsV]
      · simpa [fpt] using Ow.push (m := m) (by simpa [fpt] using a) hlo (.cells ys.flatten ty true false none)
  | some b =>
    have hg : h.get b = some (.cells xs.flatten ty true false none) := a.at (by simp [fpt])
    have hlt := H.get_lt hg
    by_cases hn : ys.length = 0
    · have : ys = [] := List.eq_nil_of_length_eq_zero hn
      subst this
      refine ⟨some b, h, ?_, by simpa using a, by simp, Keeps.refl _ _, fun _ _ hg _ => hg⟩
      simp only [List.length_nil] at hl he
      unfold appV vl; simp [hl, he, putCells]
    · have hfl := flatten_ln hx
      have hs := Ow.set (i := b) (o := .cells xs.flatten ty true false none) (m := m) (by simpa [fpt] using a) .dead
      have hp := Ow.push hs.1 (by rw [H.set_size]; exact hlo) (.cells (xs.flatten ++ ys.flatten) ty true false none)
      rw [H.set_size] at hp
      refine ⟨some h.size, (h.set b .dead).psh (.cells (xs.flatten ++ ys.flatten) ty true false none), ?_, ?_, by simp, hs.2.trans (Keeps.psh (by rw [H.set_size]; exact hlo) _), fun i o hg2 hne => ?_⟩
      · have h1 : ¬ xs.length + ys.length ≤ xs.length := by omega
        have h4 : 0 + xs.length * sz = xs.flatten.length := by rw [hfl]; omega
        unfold appV vl
        simp only [hl, he, h1, if_false, hbd, and_self, if_true, hg, Nat.le_refl, h4, hy1, fzFree]
        simp only [push_eq, Option.map_none]
        rw [getR_whole' (by rw [hfl])]
        simp
      · have hp2 := hp.sub (m' := (h.size, .cells (xs.flatten ++ ys.flatten) ty true false none) :: m) (List.Sublist.cons_cons _ (List.sublist_cons_self _ _))
        simpa [fpt] using hp2
      · have hne2 : b ≠ i := fun e => hne (by rw [e])
        refine psh_old ?_ _
        rw [hset_other hlt hne2]; exact hg2
theorem Ow.lt (a : Ow lo h m) {p : Cell} (hp : p ∈ m) : p.1 < h.size := H.get_lt (a.get p hp)
end Go.AM
namespace Go.AM
variable {lo : Nat} {h h' : H} {m m' m1 m2 : List Cell}
theorem perm_mid (m1 f m2 : List Cell) : (m1 ++ (f ++ m2)).Perm (f ++ (m1 ++ m2)) := by
  rw [← List.append_assoc, ← List.append_assoc]
  exact (List.perm_append_comm).append_right m2
theorem Ow.setM {i : Nat} {o : Obj} (a : Ow lo h (m1 ++ (i, o) :: m2)) (o' : Obj) : Ow lo (h.set i o') (m1 ++ (i, o') :: m2) ∧ Keeps lo h (h.set i o') := by
  have p : ∀ x : Cell, (m1 ++ x :: m2).Perm (x :: (m1 ++ m2)) := fun x => List.perm_middle
  obtain ⟨q, k⟩ := (a.perm (p _)).set o'
  exact ⟨q.perm (p _).symm, k⟩
theorem Ow.appM {ty sz bytes : Nat} {b : Option Nat} {xs ys : List (List V)} {x : V} (a : Ow lo h (m1 ++ (fpt b ty xs.flatten ++ m2))) (hb : b = none → xs = []) (hlo : lo ≤ h.size) (hx : ∀ z ∈ xs, z.length = sz)
    (hl : lenV x = some ys.length) (he : elemsV h sz ys.length x = some ys.flatten) (hy1 : ys.flatten.all V.one = true) (hbd : xs.length + ys.length ≤ 1099511627776 ∧ (2 * (xs.length + ys.length) + 1024) * bytes ≤ 281474976710656) :
    ∃ b' h', appV h ty sz bytes (vl b xs.length) x = some (.eff (vl b' (xs ++ ys).length) h') ∧ Ow lo h' (m1 ++ (fpt b' ty (xs ++ ys).flatten ++ m2)) ∧ (b' = none → xs ++ ys = []) ∧ Keeps lo h h' ∧ (∀ i o, h.get i = some o → b ≠ some i → h'.get i = some o) := by
  obtain ⟨b', h', e1, e2, e3, e4, e5⟩ := (a.perm (perm_mid _ _ _)).app hb hlo hx hl he hy1 hbd
  exact ⟨b', h', e1, e2.perm (perm_mid _ _ _).symm, e3, e4, e5⟩
theorem Ow.pushM (a : Ow lo h (m1 ++ m2)) (hlo : lo ≤ h.size) (o : Obj) : Ow lo (h.psh o) (m1 ++ (h.size, o) :: m2) := (a.push hlo o).perm List.perm_middle.symm
end Go.AM
namespace Go.AM
variable {lo : Nat} {h h' : H} {m m' m1 m2 : List Cell}
theorem single_flat (cs : List V) : (cs.map fun x => [x]).flatten = cs := by induction cs <;> simp_all
theorem Ow.appc {ty bytes : Nat} {b : Option Nat} {cs ds : List V} {x : V} (a : Ow lo h (m1 ++ (fpt b ty cs ++ m2))) (hb : b = none → cs = []) (hlo : lo ≤ h.size)
    (hl : lenV x = some ds.length) (he : elemsV h 1 ds.length x = some ds) (h1 : ds.all V.one = true) (hbd : cs.length + ds.length ≤ 1099511627776 ∧ (2 * (cs.length + ds.length) + 1024) * bytes ≤ 281474976710656) :
    ∃ b' h', appV h ty 1 bytes (vl b cs.length) x = some (.eff (vl b' (cs ++ ds).length) h') ∧ Ow lo h' (m1 ++ (fpt b' ty (cs ++ ds) ++ m2)) ∧ (b' = none → cs ++ ds = []) ∧ Keeps lo h h' ∧ (∀ i o, h.get i = some o → b ≠ some i → h'.get i = some o) := by
  have a' : Ow lo h (m1 ++ (fpt b ty (cs.map fun x => [x]).flatten ++ m2)) := by rw [single_flat]; exact a
  obtain ⟨b', h', e1, e2, e3, e4, e5⟩ := a'.appM (sz := 1) (bytes := bytes) (ys := ds.map fun x => [x]) (x := x) (fun h => by rw [hb h]; rfl) hlo (fun z hz => by obtain ⟨y, _, rfl⟩ := List.mem_map.1 hz; rfl) (by rw [List.length_map]; exact hl) (by rw [List.length_map, single_flat]; exact he) (by rw [single_flat]; exact h1) (by simpa using hbd)
  rw [← List.map_append, single_flat, List.length_map, List.length_map] at *
  exact ⟨b', h', e1, e2, fun h => by have := e3 h; simpa using this, e4, e5⟩
theorem Ow.new (a : Ow lo h m) (k : Kp h h') {b : Nat} {o : Obj} (hb : h.size ≤ b) (hlo : lo ≤ h.size) (hg : h'.get b = some o) : Ow lo h' ((b, o) :: m) := by
  refine ⟨fun p hp => ?_, fun p hp => ?_, ?_⟩
  · rcases List.mem_cons.1 hp with rfl | hp
    · exact hg
    · exact k.of (a.get p hp)
  · rcases List.mem_cons.1 hp with rfl | hp
    · show lo ≤ b; omega
    · exact a.low p hp
  · rw [List.map_cons, List.nodup_cons]
    refine ⟨fun hm => ?_, a.nd⟩
    obtain ⟨p, hp, e⟩ := List.mem_map.1 hm
    have := H.get_lt (a.get p hp)
    simp only at e
    omega
theorem Ow.newM (a : Ow lo h (m1 ++ m2)) (k : Kp h h') {b : Nat} {o : Obj} (hb : h.size ≤ b) (hlo : lo ≤ h.size) (hg : h'.get b = some o) : Ow lo h' (m1 ++ (b, o) :: m2) := (a.new k hb hlo hg).perm List.perm_middle.symm
end Go.AM
/-! Names of logs and of segments. -/
namespace Go.AM.Wc
open Go.AM
open Go.Lib (itoa)
variable {P : Program} {E : Env} {T : H → Prop}
def low (c : UInt8) : Bool := decide (97 ≤ c.toNat ∧ c.toNat ≤ 122)
def isName (s : List UInt8) : Bool := s.all low && decide (1 ≤ s.length ∧ s.length ≤ 20)
theorem bad_name {s : List UInt8} {k : Nat} (hk : k < s.length) (h : low s[k] = false) : isName s = false := by
  have : s.all low = false := by
    rw [Bool.eq_false_iff]
    intro ha
    have := List.all_eq_true.1 ha s[k] (List.getElem_mem hk)
    rw [h] at this; cases this
  simp [isName, this]
theorem take_ok {s : List UInt8} {k : Nat} (hk : k < s.length) (h : low s[k] = true) (ht : (s.take k).all low = true) : (s.take (k + 1)).all low = true := by
  rw [List.take_succ_eq_append_getElem hk, List.all_append, ht]
  simp [h]
theorem wrap_le {n : Int} (h0 : -9223372036854775808 ≤ n) (h1 : n ≤ 9223372036854775807) : IntKind.i64.wrap n = n := by
  have : IntKind.i64.wrap n = (n + 9223372036854775808) % 18446744073709551616 - 9223372036854775808 := by
    simp [IntKind.wrap, IntKind.signed, IntKind.bits, IntKind.max]
    omega
  rw [this]; omega
structure Fw (P : Program) (E : Env) (T : H → Prop) : Prop where
  tlow : ∀ lo h h', 1 ≤ lo → T h → Keeps lo h h' → T h'
  tsize : ∀ h, T h → 1 ≤ h.size
  num57 : ∀ n h, -9223372036854775808 ≤ n → n ≤ 9223372036854775807 → T h → Sp P E (.func 57 [] []) [.int .i64 n, .int .i64 10] h fun v h' => v = .str (itoa n) ∧ h' = h
  rep58 : ∀ (k : Nat) h, k ≤ 12 → Sp P E (.func 58 [] []) [.str [48], .int .i64 k] h fun v h' => v = .str (List.replicate k 48) ∧ Kp h h'
  f3 : E.fns 3 = some fn3
  p3 : E.prim 3 = none
  f7 : E.fns 7 = some fn7
  p7 : E.prim 7 = none
  f8 : E.fns 8 = some fn8
  p8 : E.prim 8 = none
  f9 : E.fns 9 = some fn9
  p9 : E.prim 9 = none
  f10 : E.fns 10 = some fn10
  p10 : E.prim 10 = none
  f11 : E.fns 11 = some fn11
  p11 : E.prim 11 = none
  f12 : E.fns 12 = some fn12
  p12 : E.prim 12 = none
  f13 : E.fns 13 = some fn13
  p13 : E.prim 13 = none
  f14 : E.fns 14 = some fn14
  p14 : E.prim 14 = none
  f23 : E.fns 23 = some fn23
  p23 : E.prim 23 = none
  f24 : E.fns 24 = some fn24
  p24 : E.prim 24 = none
  f25 : E.fns 25 = some fn25
  p25 : E.prim 25 = none
  f26 : E.fns 26 = some fn26
  p26 : E.prim 26 = none
  f30 : E.fns 30 = some fn30
  p30 : E.prim 30 = none
  f33 : E.fns 33 = some fn33
  p33 : E.prim 33 = none
  f34 : E.fns 34 = some fn34
  p34 : E.prim 34 = none
  f35 : E.fns 35 = some fn35
  p35 : E.prim 35 = none
  f36 : E.fns 36 = some fn36
  p36 : E.prim 36 = none
  f37 : E.fns 37 = some fn37
  p37 : E.prim 37 = none
  f38 : E.fns 38 = some fn38
  p38 : E.prim 38 = none
  f39 : E.fns 39 = some fn39
  p39 : E.prim 39 = none
  f40 : E.fns 40 = some fn40
  p40 : E.prim 40 = none
  f41 : E.fns 41 = some fn41
  p41 : E.prim 41 = none
  f42 : E.fns 42 = some fn42
  p42 : E.prim 42 = none
  f55 : E.fns 55 = some fn55
  p55 : E.prim 55 = none
  f63 : E.fns 63 = some fn63
  p63 : E.prim 63 = none
  f65 : E.fns 65 = some fn65
  p65 : E.prim 65 = none
  f67 : E.fns 67 = some fn67
  p67 : E.prim 67 = none
  f68 : E.fns 68 = some fn68
  p68 : E.prim 68 = none
  f69 : E.fns 69 = some fn69
  p69 : E.prim 69 = none
  f100 : E.fns 100 = some fn100
  p100 : E.prim 100 = none
  f103 : E.fns 103 = some fn103
  p103 : E.prim 103 = none
  f104 : E.fns 104 = some fn104
  p104 : E.prim 104 = none
  f106 : E.fns 106 = some fn106
  p106 : E.prim 106 = none
  f107 : E.fns 107 = some fn107
  p107 : E.prim 107 = none
  f108 : E.fns 108 = some fn108
  p108 : E.prim 108 = none
  f141 : E.fns 141 = some fn141
  p141 : E.prim 141 = none
theorem Fw.tkeep {P : Program} {E : Env} {T : H → Prop} (F : Fw P E T) {h h' : H} (t : T h) (k : Kp h h') : T h' := F.tlow _ _ _ (F.tsize _ t) t k
theorem named24 (F : Fw P E T) {s : List UInt8} {h : H} (hlen : s.length ≤ 134217728) : Sp P E (.func 24 [] []) [.str s] h fun v h' => v = .bool (isName s) ∧ h' = h.psh (.cells (bytes s) 5 true false (some 0)) := by
  refine Sp_fn F.f24 F.p24 (by simp [fn24]) ?_
  have hg : (h.psh (.cells (bytes s) 5 true false (some 0))).get h.size = some (.cells (bytes s) 5 true false (some 0)) := psh_same _ _
  generalize hh : h.psh (.cells (bytes s) 5 true false (some 0)) = h1 at hg ⊢
  have loop : ∀ (d k : Nat) (ρ : Nat → V), s.length - k ≤ d → k ≤ s.length → (s.take k).all low = true → ρ 0 = .str s → ρ 6 = .slice (some (h.size, 0)) s.length s.length true → ρ 7 = .int .i64 s.length → ρ 8 = .int .i64 k →
      XL P E none 27 b24_4 [.b 0, .c (.seq (.region r24_5) (.ret))] ρ h1 (Fin [.t 2] fun v h' => v = .bool (isName s) ∧ h' = h1) := by
    intro d
    induction d with
    | zero =>
      intro k ρ hd hk ht q0 q6 q7 q8
      have hke : ¬ k < s.length := by omega
      rw [List.take_of_length_le (by omega)] at ht
      rw [u24_4]
      by_cases c1 : (s.length : Int) ≥ 1
      · by_cases c2 : (s.length : Int) ≤ 20
        · simp (maxSteps := 2000000) only [GO, GO2, evK, fillV, setR, binV, intOp, strOp, shOp, unV, getR, lenV, partV, V.nj, V.njL, V.cells, Nat.reduceLT, Nat.reduceEqDiff, Nat.reduceAdd, ↓reduceIte, Nat.reduceLeDiff, reduceCtorEq, r24_5, q0, q7, q8, Int.ofNat_lt, hke, c1, c2]
          simp [isName, ht]; omega
        · simp (maxSteps := 2000000) only [GO, GO2, evK, fillV, setR, binV, intOp, strOp, shOp, unV, getR, lenV, partV, V.nj, V.njL, V.cells, Nat.reduceLT, Nat.reduceEqDiff, Nat.reduceAdd, ↓reduceIte, Nat.reduceLeDiff, reduceCtorEq, r24_5, q0, q7, q8, Int.ofNat_lt, hke, c1, c2]
          simp [isName]; omega
      · simp (maxSteps := 2000000) only [GO, GO2, evK, fillV, setR, binV, intOp, strOp, shOp, unV, getR, lenV, partV, V.nj, V.njL, V.cells, Nat.reduceLT, Nat.reduceEqDiff, Nat.reduceAdd, ↓reduceIte, Nat.reduceLeDiff, reduceCtorEq, r24_5, q0, q7, q8, Int.ofNat_lt, hke, c1]
        simp [isName]; omega
    | succ d ih =>
      intro k ρ hd hk ht q0 q6 q7 q8
      by_cases hke : k < s.length
      rotate_left
      · exact ih k ρ (by omega) hk ht q0 q6 q7 q8
      have hge : (bytes s)[k]? = some (.int .u8 s[k].toNat) := by simp [bytes, hke, byt]
      have hw : IntKind.i64.wrap ((k : Int) + 1) = ((k + 1 : Nat) : Int) := wrap_nat (n := k + 1) (by omega)
      rw [u24_4]
      by_cases c1 : (s[k].toNat : Int) < 97
      · simp (maxSteps := 2000000) only [GO, GO2, evK, fillV, setR, binV, intOp, strOp, shOp, unV, getR, lenV, partV, V.nj, V.njL, V.cells, Nat.reduceLT, Nat.reduceEqDiff, Nat.reduceAdd, ↓reduceIte, Nat.reduceLeDiff, reduceCtorEq, r24_1, r24_2, q6, q7, q8, hg, Int.ofNat_lt, hke, hge, Int.natCast_nonneg, Int.toNat_natCast, Nat.mul_one, Nat.zero_add, c1]
        rw [bad_name hke (by simp [low]; omega)]
      by_cases c2 : (s[k].toNat : Int) > 122
      · simp (maxSteps := 2000000) only [GO, GO2, evK, fillV, setR, binV, intOp, strOp, shOp, unV, getR, lenV, partV, V.nj, V.njL, V.cells, Nat.reduceLT, Nat.reduceEqDiff, Nat.reduceAdd, ↓reduceIte, Nat.reduceLeDiff, reduceCtorEq, r24_1, r24_2, q6, q7, q8, hg, Int.ofNat_lt, hke, hge, Int.natCast_nonneg, Int.toNat_natCast, Nat.mul_one, Nat.zero_add, c1, c2]
        rw [bad_name hke (by simp [low]; omega)]
      simp (maxSteps := 2000000) only [GO, GO2, evK, fillV, setR, binV, intOp, strOp, shOp, unV, getR, lenV, partV, V.nj, V.njL, V.cells, Nat.reduceLT, Nat.reduceEqDiff, Nat.reduceAdd, ↓reduceIte, Nat.reduceLeDiff, reduceCtorEq, r24_1, r24_2, r24_3, q6, q7, q8, hg, Int.ofNat_lt, hke, hge, Int.natCast_nonneg, Int.toNat_natCast, Nat.mul_one, Nat.zero_add, c1, c2, hw]
      exact ih (k + 1) _ (by omega) (by omega) (take_ok hke (by simp [low]; omega) ht) q0 q6 q7 rfl
  simp (maxSteps := 2000000) only [GO, GO2, evK, fillV, setR, binV, intOp, strOp, shOp, unV, getR, lenV, partV, V.nj, V.njL, V.cells, Nat.reduceLT, Nat.reduceEqDiff, Nat.reduceAdd, ↓reduceIte, Nat.reduceLeDiff, reduceCtorEq, fn24, c24, r24_0]
  rw [show List.map (fun b : UInt8 => V.int .u8 b.toNat) s = bytes s from rfl, hh]
  exact loop s.length 0 _ (by omega) (by omega) rfl rfl rfl rfl rfl
def segS (s : List UInt8) (n : Int) : List UInt8 := if isName s = true ∧ 0 ≤ n ∧ n ≤ 999999999999 then s ++ [46] ++ (List.replicate (12 - (itoa n).length) 48 ++ itoa n) else []
theorem name_len {s : List UInt8} (h : isName s = true) : s.length ≤ 20 := by
  simp [isName] at h; omega
theorem seg23 (F : Fw P E T) {s : List UInt8} {n : Int} {h : H} (ht : T h) (hlen : s.length ≤ 134217728) (hd : 0 ≤ n → n ≤ 999999999999 → (itoa n).length ≤ 12) : Sp P E (.func 23 [] []) [.str s, .int .i64 n] h fun v h' => v = .str (segS s n) ∧ Kp h h' := by
  have hk0 : Kp h (h.psh (.cells (bytes s) 5 true false (some 0))) := Keeps.psh (Nat.le_refl _) _
  refine Sp_fn F.f23 F.p23 (by simp [fn23]) ?_
  simp (maxSteps := 2000000) only [GO, GO2, evK, fillV, setR, binV, intOp, strOp, shOp, unV, getR, lenV, partV, V.nj, V.njL, V.cells, Nat.reduceLT, Nat.reduceEqDiff, Nat.reduceAdd, ↓reduceIte, Nat.reduceLeDiff, reduceCtorEq, fn23, c23, r23_0]
  refine XC_of (named24 F hlen) ?_
  rintro _ h1 ⟨rfl, rfl⟩
  have ht1 := F.tkeep ht hk0
  generalize h.psh (.cells (bytes s) 5 true false (some 0)) = h1 at *
  unfold segS
  cases hn : isName s with
  | false =>
    simp (maxSteps := 2000000) only [GO, GO2, evK, fillV, setR, binV, intOp, strOp, shOp, unV, getR, lenV, partV, V.nj, V.njL, V.cells, Nat.reduceLT, Nat.reduceEqDiff, Nat.reduceAdd, ↓reduceIte, Nat.reduceLeDiff, reduceCtorEq, Bool.not_false]
    simp [hk0]
  | true =>
    by_cases c1 : n < 0
    · simp (maxSteps := 2000000) only [GO, GO2, evK, fillV, setR, binV, intOp, strOp, shOp, unV, getR, lenV, partV, V.nj, V.njL, V.cells, Nat.reduceLT, Nat.reduceEqDiff, Nat.reduceAdd, ↓reduceIte, Nat.reduceLeDiff, reduceCtorEq, Bool.not_true, c1]
      rw [if_neg (by omega)]
      exact ⟨rfl, hk0⟩
    by_cases c2 : n > 999999999999
    · simp (maxSteps := 2000000) only [GO, GO2, evK, fillV, setR, binV, intOp, strOp, shOp, unV, getR, lenV, partV, V.nj, V.njL, V.cells, Nat.reduceLT, Nat.reduceEqDiff, Nat.reduceAdd, ↓reduceIte, Nat.reduceLeDiff, reduceCtorEq, Bool.not_true, c1, c2]
      rw [if_neg (by omega)]
      exact ⟨rfl, hk0⟩
    have hl := hd (by omega) (by omega)
    have hs := name_len hn
    rw [if_pos ⟨rfl, by omega, by omega⟩]
    simp (maxSteps := 2000000) only [GO, GO2, evK, fillV, setR, binV, intOp, strOp, shOp, unV, getR, lenV, partV, V.nj, V.njL, V.cells, Nat.reduceLT, Nat.reduceEqDiff, Nat.reduceAdd, ↓reduceIte, Nat.reduceLeDiff, reduceCtorEq, Bool.not_true, c1, c2, r23_1]
    refine XC_of (F.num57 n _ (by omega) (by omega) ht1) ?_
    rintro _ h2 ⟨rfl, rfl⟩
    have l1 : s.length + 1 ≤ 9223372036854775807 := by omega
    have hw : IntKind.i64.wrap (12 - ((itoa n).length : Int)) = ((12 - (itoa n).length : Nat) : Int) := by rw [wrap_le (by omega) (by omega)]; omega
    simp (maxSteps := 2000000) only [GO, GO2, evK, fillV, setR, binV, intOp, strOp, shOp, unV, getR, lenV, partV, V.nj, V.njL, V.cells, Nat.reduceLT, Nat.reduceEqDiff, Nat.reduceAdd, ↓reduceIte, Nat.reduceLeDiff, reduceCtorEq, r23_2, l1, hw]
    refine XC_of (F.rep58 (12 - (itoa n).length) _ (by omega)) ?_
    rintro _ h3 ⟨rfl, k3⟩
    have l2 : s.length + 1 + (12 - (itoa n).length) ≤ 9223372036854775807 := by omega
    have l3 : s.length + 1 + (12 - (itoa n).length) + (itoa n).length ≤ 9223372036854775807 := by omega
    simp (maxSteps := 2000000) only [GO, GO2, evK, fillV, setR, binV, intOp, strOp, shOp, unV, getR, lenV, partV, V.nj, V.njL, V.cells, Nat.reduceLT, Nat.reduceEqDiff, Nat.reduceAdd, ↓reduceIte, Nat.reduceLeDiff, reduceCtorEq, List.length_append, List.length_replicate, List.length_cons, List.length_nil, l2, l3]
    exact ⟨by simp, hk0.trans k3⟩
end Go.AM.Wc
/-! Bytes: what can be read, what is new; clones, numbers, frames. -/
namespace Go.AM.Wc
open Go.AM
variable {P : Program} {E : Env} {T : H → Prop}
def Bs (cs : List V) : Prop := ∀ x ∈ cs, ∃ n, x = .int .u8 n
theorem Bs.one {cs : List V} (h : Bs cs) : cs.all V.one = true := List.all_eq_true.2 fun x hx => by obtain ⟨n, rfl⟩ := h x hx; rfl
theorem Bs.app {cs ds : List V} (h : Bs cs) (k : Bs ds) : Bs (cs ++ ds) := fun x hx => (List.mem_append.1 hx).elim (h x) (k x)
theorem Bs.take {cs : List V} (h : Bs cs) (n : Nat) : Bs (cs.take n) := fun x hx => h x (List.mem_of_mem_take hx)
/-- A slice of n bytes that can be read. -/
def Rb (h : H) (v : V) (n : Nat) : Prop := ∃ a c o cs, v = .slice a n c o ∧ elemsV h 1 n v = some cs ∧ cs.length = n ∧ Bs cs
/-- A new slice of n bytes. -/
def Nb (h h' : H) (r : V) (n : Nat) : Prop := ∃ b cs, r = vl (some b) n ∧ cs.length = n ∧ Bs cs ∧ h.size ≤ b ∧ h'.get b = some (.cells cs 5 true false none) ∧ Kp h h'
theorem elems_kp {h h' : H} (k : Kp h h') {sz n : Nat} {v : V} {cs : List V} (he : elemsV h sz n v = some cs) : elemsV h' sz n v = some cs := by
  cases v with
  | slice a len c o =>
    cases a with
    | none => exact he
    | some p =>
      obtain ⟨i, q⟩ := p
      simp only [elemsV] at he ⊢
      split at he
      · rename_i h0; rw [if_pos h0]; exact he
      · rename_i h0
        rw [if_neg h0]
        cases hg : h.get i with
        | none => rw [hg] at he; simp at he
        | some ob => rw [hg] at he; rw [k.of hg]; exact he
  | str s => exact he
  | _ => simp [elemsV] at he
theorem Rb.kp {h h' : H} {v : V} {n : Nat} (a : Rb h v n) (k : Kp h h') : Rb h' v n := by
  obtain ⟨p, c, o, cs, h1, h2, h3⟩ := a
  exact ⟨p, c, o, cs, h1, elems_kp k h2, h3⟩
theorem Rb.len {h : H} {v : V} {n : Nat} (a : Rb h v n) : ∃ p c o, v = .slice p n c o := by
  obtain ⟨p, c, o, cs, h1, _⟩ := a
  exact ⟨p, c, o, h1⟩
theorem vl_elems {h : H} {b : Nat} {cs : List V} {ty : Nat} {op ro : Bool} {fz : Option Nat} (hg : h.get b = some (.cells cs ty op ro fz)) : elemsV h 1 cs.length (vl (some b) cs.length) = some cs := by
  simp only [vl, elemsV]
  by_cases h0 : cs.length * 1 = 0
  · rw [if_pos h0]
    have : cs = [] := List.eq_nil_of_length_eq_zero (by omega)
    rw [this]
  · rw [if_neg h0, hg]
    simp [getR_whole']
theorem Rb.of {h : H} {b : Nat} {cs : List V} {ty : Nat} {op ro : Bool} {fz : Option Nat} (hg : h.get b = some (.cells cs ty op ro fz)) (hb : Bs cs) : Rb h (vl (some b) cs.length) cs.length := ⟨_, _, _, cs, rfl, vl_elems hg, rfl, hb⟩
theorem Nb.rb {h h' : H} {r : V} {n : Nat} (a : Nb h h' r n) : Rb h' r n := by
  obtain ⟨b, cs, rfl, rfl, h2, h3, h4, h5⟩ := a
  exact Rb.of h4 h2
theorem Nb.kp {h h' : H} {r : V} {n : Nat} (a : Nb h h' r n) : Kp h h' := by obtain ⟨b, cs, _, _, _, _, _, h5⟩ := a; exact h5
theorem Rb.at {h : H} {v : V} {n k : Nat} (a : Rb h v n) (hk : k < n) : ∃ b o c q cs ty op ro fz m, v = .slice (some (b, o)) n c q ∧ h.get b = some (.cells cs ty op ro fz) ∧ cs[o + k]? = some (.int .u8 m) := by
  obtain ⟨p, c, q, cs, rfl, h2, h3, h4⟩ := a
  cases p with
  | none => simp only [elemsV] at h2; rw [if_neg (by omega)] at h2; cases h2
  | some p =>
    obtain ⟨i, o⟩ := p
    simp only [elemsV] at h2
    rw [if_neg (by omega)] at h2
    split at h2
    · rename_i vs ty op ro fz hg
      split at h2
      · rename_i hl
        cases h2
        have hx : (getR vs o (n * 1))[k]? = vs[o + k]? := by
          unfold getR
          rw [List.getElem?_take_of_lt (by omega), List.getElem?_drop]
        have hkl : k < (getR vs o (n * 1)).length := by rw [h3]; exact hk
        obtain ⟨m, hm⟩ := h4 _ (List.getElem_mem hkl)
        refine ⟨i, o, c, q, vs, ty, op, ro, fz, m, rfl, hg, ?_⟩
        rw [← hx, List.getElem?_eq_getElem hkl, hm]
      · cases h2
    · cases h2
theorem clone42 (F : Fw P E T) {h : H} {v : V} {n : Nat} (hv : Rb h v n) (hn : 1 ≤ n) (hm : n ≤ 1048576) : Sp P E (.func 42 [] []) [v] h fun r h' => Nb h h' r n := by
  have hv0 := hv
  obtain ⟨p, c, q, cs, rfl, he, hl, hb⟩ := hv
  have hp : ∃ a, p = some a := by
    cases p with
    | none => simp only [elemsV] at he; rw [if_neg (by omega)] at he; cases he
    | some a => exact ⟨a, rfl⟩
  obtain ⟨a, rfl⟩ := hp
  have k1 : Kp h (h.psh (.cells [] 5 false false none)) := Keeps.psh (Nat.le_refl _) _
  have he1 := elems_kp k1 he
  have s1 := psh_size h (.cells [] 5 false false none)
  have hap : appV (h.psh (.cells [] 5 false false none)) 5 1 1 (.slice (some (h.size, 0)) 0 0 false) (.slice (some a) n c q) = some (.eff (.slice (some (h.size + 1, 0)) n n true) ((h.psh (.cells [] 5 false false none)).psh (.cells cs 5 true false none))) := by
    unfold appV
    have c1 : ¬ n ≤ 0 := by omega
    have c2 : n ≤ 1099511627776 ∧ (2 * n + 1024) * 1 ≤ 281474976710656 := by omega
    have c3 : elemsV (h.psh (.cells [] 5 false false none)) 1 0 (.slice (some (h.size, 0)) 0 0 false) = some [] := by simp [elemsV]
    simp only [lenV, he1, Nat.zero_add, c1, if_false, c2, and_self, if_true, c3, push_eq, s1, List.nil_append]
  have c4 : eqV h .sl (.slice (some a) n c q) (.slice none 0 0 false) = some false := by simp [eqV]
  have g2 := psh_same (h.psh (.cells [] 5 false false none)) (.cells cs 5 true false none)
  rw [s1] at g2
  have k2 : Kp (h.psh (.cells [] 5 false false none)) ((h.psh (.cells [] 5 false false none)).psh (.cells cs 5 true false none)) := Keeps.psh (Nat.le_refl _) _
  refine Sp_fn F.f42 F.p42 (by simp [fn42]) ?_
  simp (maxSteps := 2000000) only [GO, GO2, evK, fillV, setR, binV, intOp, strOp, shOp, unV, getR, lenV, partV, V.nj, V.njL, V.cells, Nat.reduceLT, Nat.reduceEqDiff, Nat.reduceAdd, ↓reduceIte, Nat.reduceLeDiff, reduceCtorEq, fn42, c42, r42_0, c4, r42_1, hap]
  exact ⟨h.size + 1, cs, rfl, hl, hb, by omega, g2, Kp.trans k1 k2⟩
end Go.AM.Wc
/-! Frames: what matters of them here is that they are new bytes. -/
namespace Go.AM.Wc
open Go.AM
variable {P : Program} {E : Env} {T : H → Prop}
theorem nb_of {h h' : H} {b : Nat} {cs : List V} (a : Ow h.size h' (fpt (some b) 5 cs ++ [])) (hb : Bs cs) (k : Kp h h') : Nb h h' (vl (some b) cs.length) cs.length :=
  ⟨b, cs, rfl, rfl, hb, a.low (b, .cells cs 5 true false none) (by simp [fpt]), a.at (by simp [fpt]), k⟩
theorem one_elems (h : H) (x : V) : elemsV (h.psh (.cells [x] 5 false false none)) 1 1 (.slice (some (h.size, 0)) 1 1 false) = some [x] := by
  simp only [elemsV]
  rw [if_neg (by omega), psh_same]
  simp [getR]
set_option maxHeartbeats 1000000 in
theorem number108 (F : Fw P E T) {h0 : H} {n : Int} (hn0 : 0 ≤ n) (hn1 : n ≤ 1048576) : Sp P E (.func 108 [] []) [.int .i64 n] h0 fun r h' => ∃ k, 1 ≤ k ∧ k ≤ 5 ∧ Nb h0 h' r k := by
  have lt1 : ¬ (1 : Int) < 0 := by decide
  have lt7 : ¬ (7 : Int) < 0 := by decide
  have n1 : ¬ n < 0 := by omega
  have wu : ∀ u : Int, 0 ≤ u → u ≤ 4194304 → IntKind.u64.wrap u = u := by
    intro u h1 h2
    simp [IntKind.wrap, IntKind.signed, IntKind.bits, IntKind.max]
    omega
  have hsh : IntKind.u64.wrap (n * 2 ^ (min (Int.toNat 1) IntKind.u64.bits)) = 2 * n := by
    have : min (Int.toNat 1) IntKind.u64.bits = 1 := by decide
    rw [this, wu _ (by omega) (by omega)]; omega
  have hw0 := wu n hn0 (by omega)
  have one1 : ∀ x : Int, [V.int .u8 x].all V.one = true := fun _ => rfl
  have fin : ∀ (ρ : Nat → V) (h : H) (b : Option Nat) (cs : List V) (u : Int), 0 ≤ u → ρ 3 = .int .u64 u → ρ 4 = vl b cs.length → (b = none → cs = []) → cs.length ≤ 4 → Bs cs → Ow h0.size h (fpt b 5 cs ++ []) → Kp h0 h → XO P E none 27 r108_7 [.c .ret] ρ h (Fin [.t 2] fun r h' => ∃ k, 1 ≤ k ∧ k ≤ 5 ∧ Nb h0 h' r k) := by
    intro ρ h b cs u hu q3 q4 hb hc hbs ow kk
    have k1 : Kp h (h.psh (.cells [.int .u8 (IntKind.u8.wrap u)] 5 false false none)) := Keeps.psh (Nat.le_refl _) _
    obtain ⟨b', h', e1, e2, e3, e4, _⟩ := Ow.appc (m1 := []) (bytes := 1) (ds := [V.int .u8 (IntKind.u8.wrap u)]) (x := .slice (some (h.size, 0)) 1 1 false) (ow.kp k1) hb (Nat.le_trans kk.size k1.size) rfl (one_elems h _) rfl (by simp; omega)
    cases b' with
    | none => exact absurd (e3 rfl) (by simp)
    | some b' =>
    have hd0 : List.drop 1 [V.int .u8 0] = [] := rfl
    simp (maxSteps := 2000000) only [GO, GO2, evK, fillV, setR, binV, intOp, strOp, shOp, unV, getR, lenV, partV, V.nj, V.njL, V.cells, Nat.reduceLT, Nat.reduceEqDiff, Nat.reduceAdd, ↓reduceIte, Nat.reduceLeDiff, reduceCtorEq, r108_7, q4, q3, hd0, e1]
    refine ⟨(cs ++ [V.int .u8 (IntKind.u8.wrap u)]).length, by simp, by simp; omega, ?_⟩
    exact nb_of e2 (Bs.app hbs (by intro x hx; rw [List.mem_singleton.1 hx]; exact ⟨_, rfl⟩)) (Keeps.trans (n := h0.size) (Kp.trans kk k1) e4)
  have loop : ∀ (d : Nat) (u : Int) (ρ : Nat → V) (h : H) (b : Option Nat) (cs : List V), 0 ≤ u → u < 128 ^ (d + 1) → d ≤ 3 → ρ 3 = .int .u64 u → ρ 4 = vl b cs.length → (b = none → cs = []) → cs.length + d ≤ 4 → Bs cs → Ow h0.size h (fpt b 5 cs ++ []) → Kp h0 h →
      XL P E none 27 b108_6 [.b 0, .c (.seq (.region r108_7) (.ret))] ρ h (Fin [.t 2] fun r h' => ∃ k, 1 ≤ k ∧ k ≤ 5 ∧ Nb h0 h' r k) := by
    intro d
    induction d with
    | zero =>
      intro u ρ h b cs hu0 hu1 hd q3 q4 hb hc hbs ow kk
      have hge : ¬ u ≥ 128 := by simp at hu1; omega
      rw [u108_6]
      simp (maxSteps := 2000000) only [GO, GO2, evK, fillV, setR, binV, intOp, strOp, shOp, unV, getR, lenV, partV, V.nj, V.njL, V.cells, Nat.reduceLT, Nat.reduceEqDiff, Nat.reduceAdd, ↓reduceIte, Nat.reduceLeDiff, reduceCtorEq, r108_3, q3, hge]
      exact fin _ h b cs u hu0 (by exact q3) (by exact q4) hb (by omega) hbs ow kk
    | succ d ih =>
      intro u ρ h b cs hu0 hu1 hd q3 q4 hb hc hbs ow kk
      rw [u108_6]
      by_cases hge : u ≥ 128
      · have k1 : Kp h (h.psh (.cells [.int .u8 (IntKind.u8.wrap ((BitVec.ofInt IntKind.u8.bits (IntKind.u8.wrap u) ||| BitVec.ofInt IntKind.u8.bits 128).toNat : Int))] 5 false false none)) := Keeps.psh (Nat.le_refl _) _
        obtain ⟨b', h', e1, e2, e3, e4, _⟩ := Ow.appc (m1 := []) (bytes := 1) (ds := [V.int .u8 (IntKind.u8.wrap ((BitVec.ofInt IntKind.u8.bits (IntKind.u8.wrap u) ||| BitVec.ofInt IntKind.u8.bits 128).toNat : Int))]) (x := .slice (some (h.size, 0)) 1 1 false) (ow.kp k1) hb (Nat.le_trans kk.size k1.size) rfl (one_elems h _) rfl (by simp; omega)
        have hd0 : List.drop 1 [V.int .u8 0] = [] := rfl
        have hdv : u.fdiv (2 ^ (min (Int.toNat 7) IntKind.u64.bits)) = u / 128 := by
          have : min (Int.toNat 7) IntKind.u64.bits = 7 := by decide
          rw [this]
          exact Int.fdiv_eq_ediv_of_nonneg _ (by decide)
        simp (maxSteps := 2000000) only [GO, GO2, evK, fillV, setR, binV, intOp, strOp, shOp, unV, getR, lenV, partV, V.nj, V.njL, V.cells, Nat.reduceLT, Nat.reduceEqDiff, Nat.reduceAdd, ↓reduceIte, Nat.reduceLeDiff, reduceCtorEq, r108_3, q3, hge, r108_4, q4, hd0, e1, r108_5, lt7, hdv]
        refine ih (u / 128) _ h' b' _ (by omega) ?_ (by omega) ?_ ?_ e3 (by simp; omega) (Bs.app hbs (by intro x hx; rw [List.mem_singleton.1 hx]; exact ⟨_, rfl⟩)) e2 (Keeps.trans (n := h0.size) (Kp.trans kk k1) e4)
        · rw [Int.pow_succ] at hu1
          exact Int.ediv_lt_of_lt_mul (by decide) hu1
        · rfl
        · rfl
      · simp (maxSteps := 2000000) only [GO, GO2, evK, fillV, setR, binV, intOp, strOp, shOp, unV, getR, lenV, partV, V.nj, V.njL, V.cells, Nat.reduceLT, Nat.reduceEqDiff, Nat.reduceAdd, ↓reduceIte, Nat.reduceLeDiff, reduceCtorEq, r108_3, q3, hge]
        exact fin _ h b cs u hu0 (by exact q3) (by exact q4) hb (by omega) hbs ow kk
  refine Sp_fn F.f108 F.p108 (by simp [fn108]) ?_
  simp (maxSteps := 2000000) only [GO, GO2, evK, fillV, setR, binV, intOp, strOp, shOp, unV, getR, lenV, partV, V.nj, V.njL, V.cells, Nat.reduceLT, Nat.reduceEqDiff, Nat.reduceAdd, ↓reduceIte, Nat.reduceLeDiff, reduceCtorEq, fn108, c108, r108_0, hw0, lt1, hsh, r108_1, n1]
  refine loop 3 (2 * n) _ h0 none [] (by omega) (by omega) (Nat.le_refl _) ?_ ?_ (fun _ => rfl) (by simp) (by intro x hx; cases hx) (by simpa [fpt] using Ow.nil _ _) (Keeps.refl _ _)
  · rfl
  · rfl
theorem four103 (F : Fw P E T) {h0 : H} {s : Int} : Sp P E (.func 103 [] []) [.int .u32 s] h0 fun r h' => ∃ b cs, r = .slice (some (b, 0)) 4 4 false ∧ cs.length = 4 ∧ Bs cs ∧ h'.get b = some (.cells cs 5 false false none) ∧ Kp h0 h' := by
  have l8 : ¬ (8 : Int) < 0 := by decide
  have l16 : ¬ (16 : Int) < 0 := by decide
  have l24 : ¬ (24 : Int) < 0 := by decide
  refine Sp_fn F.f103 F.p103 (by simp [fn103]) ?_
  simp (maxSteps := 2000000) only [GO, GO2, evK, fillV, setR, binV, intOp, strOp, shOp, unV, getR, lenV, partV, V.nj, V.njL, V.cells, Nat.reduceLT, Nat.reduceEqDiff, Nat.reduceAdd, ↓reduceIte, Nat.reduceLeDiff, reduceCtorEq, fn103, c103, r103_0, l8, l16, l24]
  refine ⟨_, _, rfl, rfl, ?_, psh_same _ _, Keeps.psh (Nat.le_refl _) _⟩
  intro x hx
  simp at hx
  rcases hx with rfl | rfl | rfl | rfl <;> exact ⟨_, rfl⟩
end Go.AM.Wc
/-! Frames: checks, joins. -/
namespace Go.AM.Wc
open Go.AM
variable {P : Program} {E : Env} {T : H → Prop}
set_option maxHeartbeats 1000000 in
theorem bits8 {h : H} {K : List Fr} {Q : Po} {ρ0 : Nat → V} (cont : ∀ (ρ' : Nat → V) (s : Int), (∀ j, j ≠ 3 → j ≠ 8 → j < 25 → ρ' j = ρ0 j) → ρ' 3 = .int .u32 s → X P E none 40 K ρ' h Q) :
    ∀ (d k : Nat) (ρ : Nat → V), 8 - k = d → k ≤ 8 → (∀ j, j ≠ 3 → j ≠ 8 → j < 25 → ρ j = ρ0 j) → (∃ s, ρ 3 = .int .u32 s) → ρ 25 = .int .i64 k → XL P E none 40 b104_10 (.b 4 :: K) ρ h Q := by
  have lt1 : ¬ (1 : Int) < 0 := by decide
  intro d
  induction d with
  | zero =>
    intro k ρ hd hk hr ⟨s, q3⟩ q25
    have hke : ¬ (k : Int) < 8 := by omega
    rw [u104_10]
    simp (maxSteps := 2000000) only [GO, GO2, evK, fillV, setR, binV, intOp, strOp, shOp, unV, getR, lenV, partV, V.nj, V.njL, V.cells, Nat.reduceLT, Nat.reduceEqDiff, Nat.reduceAdd, ↓reduceIte, Nat.reduceLeDiff, reduceCtorEq, q25, hke]
    refine cont _ s (fun j h1 h2 h3 => ?_) ?_
    · simp only [up_app]
      repeat rw [if_neg (by omega)]
      exact hr j h1 h2 h3
    · exact q3
  | succ d ih =>
    intro k ρ hd hk hr ⟨s, q3⟩ q25
    have hke : (k : Int) < 8 := by omega
    have hw : IntKind.i64.wrap ((k : Int) + 1) = ((k + 1 : Nat) : Int) := wrap_nat (n := k + 1) (by omega)
    rw [u104_10]
    simp (maxSteps := 2000000) only [GO, GO2, evK, fillV, setR, binV, intOp, strOp, shOp, unV, getR, lenV, partV, V.nj, V.njL, V.cells, Nat.reduceLT, Nat.reduceEqDiff, Nat.reduceAdd, ↓reduceIte, Nat.reduceLeDiff, reduceCtorEq, q25, hke, r104_5, q3, r104_6, lt1, r104_7]
    split
    · simp (maxSteps := 2000000) only [GO, GO2, evK, fillV, setR, binV, intOp, strOp, shOp, unV, getR, lenV, partV, V.nj, V.njL, V.cells, Nat.reduceLT, Nat.reduceEqDiff, Nat.reduceAdd, ↓reduceIte, Nat.reduceLeDiff, reduceCtorEq, r104_8, r104_9, q25, hw]
      refine ih (k + 1) _ (by omega) (by omega) (fun j h1 h2 h3 => ?_) ?_ ?_
      · simp only [up_app]
        repeat rw [if_neg (by omega)]
        exact hr j h1 h2 h3
      · exact ⟨_, rfl⟩
      · rfl
    · simp (maxSteps := 2000000) only [GO, GO2, evK, fillV, setR, binV, intOp, strOp, shOp, unV, getR, lenV, partV, V.nj, V.njL, V.cells, Nat.reduceLT, Nat.reduceEqDiff, Nat.reduceAdd, ↓reduceIte, Nat.reduceLeDiff, reduceCtorEq, r104_9, q25, hw]
      refine ih (k + 1) _ (by omega) (by omega) (fun j h1 h2 h3 => ?_) ?_ ?_
      · simp only [up_app]
        repeat rw [if_neg (by omega)]
        exact hr j h1 h2 h3
      · exact ⟨_, rfl⟩
      · rfl
set_option maxHeartbeats 1000000 in
theorem sum104 (F : Fw P E T) {h : H} {b n : Nat} {v : V} (hv : Rb h v n) (hn : n ≤ 1048576) (hg : h.get b = some (.cells [v] 45 false false none)) : Sp P E (.func 104 [] []) [.slice (some (b, 0)) 1 1 false] h fun r h' => (∃ s, r = .int .u32 s) ∧ h' = h := by
  obtain ⟨p, c, q, hvv⟩ := hv.len
  have fin : ∀ (ρ : Nat → V) (s : Int), ρ 3 = .int .u32 s → ρ 10 = .int .i64 (1 : Nat) → ρ 11 = .int .i64 (0 : Nat) → XO P E none 40 r104_13 [.l b104_14, .b 0, .c (.seq (.region r104_15) (.ret))] ρ h (Fin [.t 2] fun r h' => (∃ s, r = .int .u32 s) ∧ h' = h) := by
    intro ρ s q3 q10 q11
    have hw : IntKind.i64.wrap (((0 : Nat) : Int) + 1) = ((1 : Nat) : Int) := wrap_nat (n := 1) (by omega)
    have h1 : ¬ ((1 : Nat) : Int) < ((1 : Nat) : Int) := by decide
    simp (maxSteps := 2000000) only [GO, GO2, evK, fillV, setR, binV, intOp, strOp, shOp, unV, getR, lenV, partV, V.nj, V.njL, V.cells, Nat.reduceLT, Nat.reduceEqDiff, Nat.reduceAdd, ↓reduceIte, Nat.reduceLeDiff, reduceCtorEq, r104_13, q11, hw]
    rw [u104_14]
    simp (maxSteps := 2000000) only [GO, GO2, evK, fillV, setR, binV, intOp, strOp, shOp, unV, getR, lenV, partV, V.nj, V.njL, V.cells, Nat.reduceLT, Nat.reduceEqDiff, Nat.reduceAdd, ↓reduceIte, Nat.reduceLeDiff, reduceCtorEq, q10, h1, r104_15, q3]
    exact ⟨_, rfl⟩
  have loop : ∀ (d k : Nat) (ρ : Nat → V) (s : Int), n - k = d → k ≤ n → ρ 3 = .int .u32 s → ρ 10 = .int .i64 (1 : Nat) → ρ 11 = .int .i64 (0 : Nat) → ρ 15 = v → ρ 16 = .int .i64 n → ρ 17 = .int .i64 k →
      XL P E none 40 b104_12 [.b 2, .b 1, .c (.region r104_13), .l b104_14, .b 0, .c (.seq (.region r104_15) (.ret))] ρ h (Fin [.t 2] fun r h' => (∃ s, r = .int .u32 s) ∧ h' = h) := by
    intro d
    induction d with
    | zero =>
      intro k ρ s hd hk q3 q10 q11 q15 q16 q17
      have hke : ¬ k < n := by omega
      rw [u104_12]
      simp (maxSteps := 2000000) only [GO, GO2, evK, fillV, setR, binV, intOp, strOp, shOp, unV, getR, lenV, partV, V.nj, V.njL, V.cells, Nat.reduceLT, Nat.reduceEqDiff, Nat.reduceAdd, ↓reduceIte, Nat.reduceLeDiff, reduceCtorEq, q16, q17, Int.ofNat_lt, hke]
      exact fin _ s (by exact q3) (by exact q10) (by exact q11)
    | succ d ih =>
      intro k ρ s hd hk q3 q10 q11 q15 q16 q17
      have hke : k < n := by omega
      obtain ⟨b1, o1, c1, p1, cs, ty, op, ro, fz, x, hv1, hg1, hx⟩ := hv.at hke
      have q15' := q15.trans hv1
      have hw : IntKind.i64.wrap ((k : Int) + 1) = ((k + 1 : Nat) : Int) := wrap_nat (n := k + 1) (by omega)
      rw [u104_12]
      simp (maxSteps := 2000000) only [GO, GO2, evK, fillV, setR, binV, intOp, strOp, shOp, unV, getR, lenV, partV, V.nj, V.njL, V.cells, Nat.reduceLT, Nat.reduceEqDiff, Nat.reduceAdd, ↓reduceIte, Nat.reduceLeDiff, reduceCtorEq, q16, q17, Int.ofNat_lt, hke, r104_3, q15', Int.natCast_nonneg, Int.toNat_natCast, Nat.mul_one, hg1, hx, r104_4, q3]
      refine bits8 (ρ0 := _) ?_ 8 0 _ rfl (Nat.zero_le _) (fun j _ _ _ => rfl) ?_ ?_
      · intro ρ2 s2 hr2 y3
        have y17 : ρ2 17 = .int .i64 k := (hr2 17 (by decide) (by decide) (by decide)).trans q17
        simp (maxSteps := 2000000) only [GO, GO2, evK, fillV, setR, binV, intOp, strOp, shOp, unV, getR, lenV, partV, V.nj, V.njL, V.cells, Nat.reduceLT, Nat.reduceEqDiff, Nat.reduceAdd, ↓reduceIte, Nat.reduceLeDiff, reduceCtorEq, r104_11, y17, hw]
        refine ih (k + 1) _ s2 (by omega) (by omega) ?_ ?_ ?_ ?_ ?_ ?_
        · exact y3
        · exact (hr2 10 (by decide) (by decide) (by decide)).trans q10
        · exact (hr2 11 (by decide) (by decide) (by decide)).trans q11
        · exact (hr2 15 (by decide) (by decide) (by decide)).trans q15
        · exact (hr2 16 (by decide) (by decide) (by decide)).trans q16
        · rfl
      · exact ⟨_, rfl⟩
      · rfl
  refine Sp_fn F.f104 F.p104 (by simp [fn104]) ?_
  have h0 : ((0 : Int) : Int) < ((1 : Nat) : Int) := by decide
  have h00 : (0 : Int) ≤ 0 := Int.le_refl _
  have ht0 : Int.toNat 0 = 0 := rfl
  simp (maxSteps := 2000000) only [GO, GO2, evK, fillV, setR, binV, intOp, strOp, shOp, unV, getR, lenV, partV, V.nj, V.njL, V.cells, Nat.reduceLT, Nat.reduceEqDiff, Nat.reduceAdd, ↓reduceIte, Nat.reduceLeDiff, reduceCtorEq, fn104, c104, r104_0]
  rw [u104_14]
  rw [hvv] at hg hv loop
  simp (maxSteps := 2000000) only [GO, GO2, evK, fillV, setR, binV, intOp, strOp, shOp, unV, getR, lenV, partV, V.nj, V.njL, V.cells, Nat.reduceLT, Nat.reduceEqDiff, Nat.reduceAdd, ↓reduceIte, Nat.reduceLeDiff, reduceCtorEq, h0, r104_1, h00, ht0, Nat.zero_mul, Nat.add_zero, hg, r104_2]
  refine loop n 0 _ 4294967295 rfl (Nat.zero_le _) ?_ ?_ ?_ ?_ ?_ ?_
  · rfl
  · rfl
  · rfl
  · rfl
  · rfl
  · rfl
theorem grow141 (F : Fw P E T) {h : H} {n : Nat} (hn : 1 ≤ n) (hm : n ≤ 4194304) : Sp P E (.func 141 [] []) [.slice none 0 0 false, .int .i64 n] h fun r h' => r = .slice (some (h.size, 0)) 0 n true ∧ h' = h.psh (.cells (List.replicate n (V.int .u8 0)) 5 true false none) := by
  have c1 : ¬ (n : Int) < 0 := by omega
  have c2 : IntKind.i64.wrap ((n : Int) - IntKind.i64.wrap (((0 : Nat) : Int) - ((0 : Nat) : Int))) = n := by
    have h0 : IntKind.i64.wrap (((0 : Nat) : Int) - ((0 : Nat) : Int)) = 0 := by decide
    rw [h0, Int.sub_zero]; exact wrap_nat (by omega)
  have c3 : (n : Int) > 0 := by omega
  have b1 : boundsV 0 0 none (some (.int .i64 ((0 : Nat) : Int))) none = some (0, 0, 0) := by decide
  have b2 : boundsV n n none (some (.int .i64 ((0 : Nat) : Int))) none = some (0, 0, n) := by
    have := bounds_hi (len := n) (cap := n) (k := .i64) (a := ((0 : Nat) : Int)) (by omega)
    simpa using this
  have c4 : (0 : Int) ≤ n ∧ (n : Int) ≤ 1099511627776 ∧ n * 1 ≤ 281474976710656 := by omega
  have c5 : ¬ n ≤ 0 := by omega
  have c6 : n ≤ 1099511627776 ∧ (2 * n + 1024) * 1 ≤ 281474976710656 := by omega
  have e0 : ∀ q : Bool, elemsV h 1 0 (.slice none 0 0 q) = some [] := fun q => by simp [elemsV]
  have hf : (List.replicate n [V.int .u8 0]).flatten = List.replicate n (V.int .u8 0) := by
    have := single_flat (List.replicate n (V.int .u8 0))
    rwa [List.map_replicate] at this
  refine Sp_fn F.f141 F.p141 (by simp [fn141]) ?_
  simp (maxSteps := 2000000) only [GO, GO2, evK, fillV, setR, binV, intOp, strOp, shOp, unV, getR, lenV, partV, V.nj, V.njL, V.cells, Nat.reduceLT, Nat.reduceEqDiff, Nat.reduceAdd, ↓reduceIte, Nat.reduceLeDiff, reduceCtorEq, fn141, c141, r141_0, c1, r141_2, c2, r141_3, c3, r141_4, b1, Option.map_none, Nat.sub_zero, Nat.sub_self, Option.isNone_none, Bool.and_true, Int.toNat_natCast, c4, c5, c6, e0, hf, b2, r141_5, Nat.zero_mul, Option.map_some]
end Go.AM.Wc
/-! Frames. -/
namespace Go.AM.Wc
open Go.AM
variable {P : Program} {E : Env} {T : H → Prop}
theorem put_at {h : H} {b o : Nat} {vs ws : List V} {ty : Nat} {op : Bool} (hg : h.get b = some (.cells vs ty op false none)) (hw : o + ws.length ≤ vs.length) (h1 : ws.all V.one = true) (hne : ws.isEmpty = false) :
    putCells h b o ws = some (h.set b (.cells (setR vs o ws) ty op false none)) := by
  unfold putCells
  simp only [hne, Bool.false_eq_true, if_false, hg, hw, h1, fzFree, and_self, if_true]
theorem setR_len {vs ws : List V} {o : Nat} (h : o + ws.length ≤ vs.length) : (setR vs o ws).length = vs.length := by
  unfold setR; simp; omega
theorem Bs.set {vs ws : List V} (a : Bs vs) (b : Bs ws) (o : Nat) : Bs (setR vs o ws) := by
  intro x hx
  unfold setR at hx
  simp only [List.mem_append] at hx
  rcases hx with (hx | hx) | hx
  · exact a x (List.mem_of_mem_take hx)
  · exact b x hx
  · exact a x (List.mem_of_mem_drop hx)
def tot (vs : List (V × Nat)) : Nat := (vs.map (·.2)).sum
theorem tot_take {vs : List (V × Nat)} {k : Nat} (hk : k < vs.length) : tot (vs.take (k + 1)) = tot (vs.take k) + vs[k].2 := by
  unfold tot
  rw [List.take_succ_eq_append_getElem hk, List.map_append, List.sum_append]; simp
theorem tot_le (vs : List (V × Nat)) (k : Nat) : tot (vs.take k) ≤ tot vs := by
  have : tot vs = tot (vs.take k) + tot (vs.drop k) := by
    unfold tot
    rw [← List.sum_append, ← List.map_append, List.take_append_drop]
  omega
set_option maxHeartbeats 1000000 in
theorem concat107 (F : Fw P E T) {h : H} {b : Nat} {vs : List (V × Nat)} (hv : ∀ p ∈ vs, Rb h p.1 p.2) (hl : vs.length ≤ 1048576) (ht : 1 ≤ tot vs) (hm : tot vs ≤ 4194304) (hg : h.get b = some (.cells (vs.map (·.1)) 45 false false none)) :
    Sp P E (.func 107 [] []) [.slice (some (b, 0)) vs.length vs.length false] h fun r h' => Nb h h' r (tot vs) := by
  have gk : ∀ {k : Nat} (hk : k < vs.length), (vs.map (·.1))[k]? = some vs[k].1 := fun hk => by simp [hk]
  have loop2 : ∀ (d k : Nat) (ρ : Nat → V) (h1 : H), vs.length - k = d → k ≤ vs.length → ρ 6 = .slice (some (h.size, 0)) (tot (vs.take k)) (tot vs) true → ρ 25 = .slice (some (b, 0)) vs.length vs.length false → ρ 26 = .int .i64 vs.length → ρ 27 = .int .i64 k → (∃ cs, h1.get h.size = some (.cells cs 5 true false none) ∧ cs.length = tot vs ∧ Bs cs) → Kp h h1 →
      XL P E none 36 b107_12 [.b 2, .c (.seq (.region r107_13) (.ret))] ρ h1 (Fin [.t 2] fun r h' => Nb h h' r (tot vs)) := by
    intro d
    induction d with
    | zero =>
      intro k ρ h1 hd hk q6 q25 q26 q27 hb kk
      have hke : ¬ k < vs.length := by omega
      rw [List.take_of_length_le (by omega)] at q6
      obtain ⟨cs, g1, g2, g3⟩ := hb
      rw [u107_12]
      simp (maxSteps := 2000000) only [GO, GO2, evK, fillV, setR, binV, intOp, strOp, shOp, unV, getR, lenV, partV, V.nj, V.njL, V.cells, Nat.reduceLT, Nat.reduceEqDiff, Nat.reduceAdd, ↓reduceIte, Nat.reduceLeDiff, reduceCtorEq, q26, q27, Int.ofNat_lt, hke, r107_13, q6]
      exact ⟨h.size, cs, rfl, g2, g3, Nat.le_refl _, g1, kk⟩
    | succ d ih =>
      intro k ρ h1 hd hk q6 q25 q26 q27 hb kk
      have hke : k < vs.length := by omega
      obtain ⟨cs, g1, g2, g3⟩ := hb
      have hvk := (hv _ (List.getElem_mem hke)).kp kk
      obtain ⟨p, c, o, ws, e1, e2, e3, e4⟩ := hvk
      have htk := tot_take hke
      have htl := tot_le vs (k + 1)
      have hgb := kk.of hg
      have hgk := gk hke
      have njv : (vs[k].1).nj = true := by rw [e1]; rfl
      have hw : IntKind.i64.wrap ((k : Int) + 1) = ((k + 1 : Nat) : Int) := wrap_nat (n := k + 1) (by omega)
      have hap : ∃ h2, appV h1 5 1 1 (.slice (some (h.size, 0)) (tot (vs.take k)) (tot vs) true) vs[k].1 = some (.eff (.slice (some (h.size, 0)) (tot (vs.take (k + 1))) (tot vs) true) h2) ∧ (∃ cs, h2.get h.size = some (.cells cs 5 true false none) ∧ cs.length = tot vs ∧ Bs cs) ∧ Kp h h2 := by
        have hlv : lenV vs[k].1 = some vs[k].2 := by rw [e1]; rfl
        have c1 : tot (vs.take k) + vs[k].2 ≤ tot vs := by omega
        by_cases hz : ws = []
        · refine ⟨h1, ?_, ⟨cs, g1, g2, g3⟩, kk⟩
          have h0 : vs[k].2 = 0 := by rw [← e3, hz]; rfl
          unfold appV
          simp only [hlv, e2, c1, if_true]
          subst hz
          simp [putCells, htk]
        · have hp := put_at (ws := ws) (o := tot (vs.take k)) g1 (by omega) e4.one (by cases ws with | nil => exact (hz rfl).elim | cons _ _ => rfl)
          refine ⟨_, ?_, ⟨_, hset_same (H.get_lt g1) _, (setR_len (vs := cs) (ws := ws) (o := tot (vs.take k)) (by omega)).trans g2, g3.set e4 _⟩, Keeps.trans (n := h.size) kk (Keeps.set (H.get_lt g1) (Nat.le_refl _) _)⟩
          unfold appV
          simp only [hlv, e2, c1, if_true, Nat.zero_add, Nat.mul_one, hp, htk]
      obtain ⟨h2, a1, a2, a3⟩ := hap
      rw [u107_12]
      simp (maxSteps := 2000000) only [GO, GO2, evK, fillV, setR, binV, intOp, strOp, shOp, unV, getR, lenV, partV, V.nj, V.njL, V.cells, Nat.reduceLT, Nat.reduceEqDiff, Nat.reduceAdd, ↓reduceIte, Nat.reduceLeDiff, reduceCtorEq, q26, q27, Int.ofNat_lt, hke, r107_9, q25, Int.natCast_nonneg, Int.toNat_natCast, Nat.mul_one, Nat.zero_add, hgb, hgk, njv, r107_10, q6, a1, r107_11, hw]
      refine ih (k + 1) _ h2 (by omega) (by omega) ?_ ?_ ?_ ?_ a2 a3
      · rfl
      · exact q25
      · exact q26
      · rfl
  have loop1 : ∀ (d k : Nat) (ρ : Nat → V), vs.length - k = d → k ≤ vs.length → ρ 0 = .slice (some (b, 0)) vs.length vs.length false → ρ 3 = .int .i64 (tot (vs.take k) : Nat) → ρ 9 = .slice (some (b, 0)) vs.length vs.length false → ρ 10 = .int .i64 vs.length → ρ 11 = .int .i64 k →
      XL P E none 36 b107_6 [.b 0, .c (.seq (.region r107_7) (.seq (.seq (.region r107_8) (.block 2 (.loop b107_12))) (.seq (.region r107_13) (.ret))))] ρ h (Fin [.t 2] fun r h' => Nb h h' r (tot vs)) := by
    intro d
    induction d with
    | zero =>
      intro k ρ hd hk q0 q3 q9 q10 q11
      have hke : ¬ k < vs.length := by omega
      rw [List.take_of_length_le (by omega)] at q3
      rw [u107_6]
      simp (maxSteps := 2000000) only [GO, GO2, evK, fillV, setR, binV, intOp, strOp, shOp, unV, getR, lenV, partV, V.nj, V.njL, V.cells, Nat.reduceLT, Nat.reduceEqDiff, Nat.reduceAdd, ↓reduceIte, Nat.reduceLeDiff, reduceCtorEq, q10, q11, Int.ofNat_lt, hke, r107_7, q3]
      refine XC_of (grow141 F ht hm) ?_
      rintro _ h1 ⟨rfl, e1⟩
      rw [e1]
      clear e1 h1
      simp (maxSteps := 2000000) only [GO, GO2, evK, fillV, setR, binV, intOp, strOp, shOp, unV, getR, lenV, partV, V.nj, V.njL, V.cells, Nat.reduceLT, Nat.reduceEqDiff, Nat.reduceAdd, ↓reduceIte, Nat.reduceLeDiff, reduceCtorEq, r107_8, q0]
      refine loop2 vs.length 0 _ _ rfl (Nat.zero_le _) ?_ ?_ ?_ ?_ ⟨_, psh_same _ _, by simp, ?_⟩ (Keeps.psh (Nat.le_refl _) _)
      · show _ = _
        have : tot (vs.take 0) = 0 := by simp [tot]
        rw [this]; rfl
      · rfl
      · rfl
      · rfl
      · intro x hx; rw [List.eq_of_mem_replicate hx]; exact ⟨_, rfl⟩
    | succ d ih =>
      intro k ρ hd hk q0 q3 q9 q10 q11
      have hke : k < vs.length := by omega
      have htk := tot_take hke
      have htl := tot_le vs (k + 1)
      have hgk := gk hke
      obtain ⟨p, c, o, e1⟩ := (hv _ (List.getElem_mem hke)).len
      rw [e1] at hgk
      have hw : IntKind.i64.wrap ((k : Int) + 1) = ((k + 1 : Nat) : Int) := wrap_nat (n := k + 1) (by omega)
      have hw2 : IntKind.i64.wrap ((tot (vs.take k) : Int) + (vs[k].2 : Int)) = ((tot (vs.take (k + 1)) : Nat) : Int) := by rw [htk]; exact wrap_nat (by omega)
      have hneg : ¬ ((tot (vs.take (k + 1)) : Nat) : Int) < 0 := by omega
      rw [u107_6]
      simp (maxSteps := 2000000) only [GO, GO2, evK, fillV, setR, binV, intOp, strOp, shOp, unV, getR, lenV, partV, V.nj, V.njL, V.cells, Nat.reduceLT, Nat.reduceEqDiff, Nat.reduceAdd, ↓reduceIte, Nat.reduceLeDiff, reduceCtorEq, q10, q11, Int.ofNat_lt, hke, r107_1, q9, Int.natCast_nonneg, Int.toNat_natCast, Nat.mul_one, Nat.zero_add, hg, hgk, r107_2, q3, hw2, r107_3, hneg, r107_5, hw]
      refine ih (k + 1) _ (by omega) (by omega) ?_ ?_ ?_ ?_ ?_
      · exact q0
      · rfl
      · exact q9
      · exact q10
      · rfl
  refine Sp_fn F.f107 F.p107 (by simp [fn107]) ?_
  simp (maxSteps := 2000000) only [GO, GO2, evK, fillV, setR, binV, intOp, strOp, shOp, unV, getR, lenV, partV, V.nj, V.njL, V.cells, Nat.reduceLT, Nat.reduceEqDiff, Nat.reduceAdd, ↓reduceIte, Nat.reduceLeDiff, reduceCtorEq, fn107, c107, r107_0]
  refine loop1 vs.length 0 _ rfl (Nat.zero_le _) ?_ ?_ ?_ ?_ ?_
  · rfl
  · have : tot (vs.take 0) = 0 := by simp [tot]
    rw [this]; rfl
  · rfl
  · rfl
  · rfl
set_option maxHeartbeats 1000000 in
theorem frame69 (F : Fw P E T) {h : H} {v : V} {n : Nat} (hv : Rb h v n) (hn : n ≤ 1048576) : Sp P E (.func 69 [] []) [v] h fun r h' => ∃ f k, r = .tup [f, .int .i64 0] ∧ n + 1 ≤ k ∧ k ≤ n + 9 ∧ Nb h h' f k := by
  have hv0 := hv
  obtain ⟨p, c, o, hvv⟩ := hv.len
  have c1 : ¬ (n : Int) > 1048576 := by omega
  refine Sp_fn F.f69 F.p69 (by simp [fn69]) ?_
  rw [hvv] at hv ⊢
  simp (maxSteps := 2000000) only [GO, GO2, evK, fillV, setR, binV, intOp, strOp, shOp, unV, getR, lenV, partV, V.nj, V.njL, V.cells, Nat.reduceLT, Nat.reduceEqDiff, Nat.reduceAdd, ↓reduceIte, Nat.reduceLeDiff, reduceCtorEq, fn69, c69, r69_0, r69_1, c1, r69_3]
  refine XC_of (number108 F (by omega) (by omega)) ?_
  rintro w1 h1 ⟨k1, hk1, hk2, nb1⟩
  have hw1 := nb1.rb.len
  obtain ⟨p1, c1', o1, hw1'⟩ := hw1
  have kk1 := nb1.kp
  have ka : Kp h1 (h1.psh (.cells [.slice p n c o] 45 false false none)) := Keeps.psh (Nat.le_refl _) _
  have ga := psh_same h1 (.cells [.slice p n c o] 45 false false none)
  have hd0 : List.drop 1 [V.slice none 0 0 false] = [] := rfl
  simp (maxSteps := 2000000) only [GO, GO2, evK, fillV, setR, binV, intOp, strOp, shOp, unV, getR, lenV, partV, V.nj, V.njL, V.cells, Nat.reduceLT, Nat.reduceEqDiff, Nat.reduceAdd, ↓reduceIte, Nat.reduceLeDiff, reduceCtorEq, hd0]
  refine XC_of (sum104 F ((hv.kp kk1).kp ka) hn ga) ?_
  rintro _ hx ⟨⟨s, rfl⟩, e2⟩
  rw [e2]
  clear e2 hx
  simp (maxSteps := 2000000) only [GO, GO2, evK, fillV, setR, binV, intOp, strOp, shOp, unV, getR, lenV, partV, V.nj, V.njL, V.cells, Nat.reduceLT, Nat.reduceEqDiff, Nat.reduceAdd, ↓reduceIte, Nat.reduceLeDiff, reduceCtorEq]
  refine XC_of (four103 F) ?_
  rintro _ h3 ⟨b4, cs4, rfl, hl4, hb4, hg4, k4⟩
  have k14 : Kp h1 h3 := Kp.trans ka k4
  have rb4 : Rb h3 (.slice (some (b4, 0)) 4 4 false) 4 := ⟨_, _, _, cs4, rfl, by have := vl_elems (b := b4) hg4; rw [hl4] at this; exact this, hl4, hb4⟩
  have rb1 := nb1.rb.kp k14
  have rb0 := hv.kp (Kp.trans kk1 k14)
  rw [hw1'] at rb1 ⊢
  have kb : Kp h3 (h3.psh (.cells [.slice p1 k1 c1' o1, .slice p n c o, .slice (some (b4, 0)) 4 4 false] 45 false false none)) := Keeps.psh (Nat.le_refl _) _
  have gb := psh_same h3 (.cells [.slice p1 k1 c1' o1, .slice p n c o, .slice (some (b4, 0)) 4 4 false] 45 false false none)
  have hd1 : List.drop 1 [V.slice none 0 0 false, .slice none 0 0 false, .slice none 0 0 false] = [.slice none 0 0 false, .slice none 0 0 false] := rfl
  have sp := concat107 (P := P) F (vs := [(.slice p1 k1 c1' o1, k1), (.slice p n c o, n), (.slice (some (b4, 0)) 4 4 false, 4)]) (fun q hq => by
    simp only [List.mem_cons, List.not_mem_nil, or_false] at hq
    rcases hq with rfl | rfl | rfl
    · exact rb1.kp kb
    · exact rb0.kp kb
    · exact rb4.kp kb) (by simp) (by simp [tot]; omega) (by simp [tot]; omega) gb
  simp (maxSteps := 2000000) only [GO, GO2, evK, fillV, setR, binV, intOp, strOp, shOp, unV, getR, lenV, partV, V.nj, V.njL, V.cells, Nat.reduceLT, Nat.reduceEqDiff, Nat.reduceAdd, ↓reduceIte, Nat.reduceLeDiff, reduceCtorEq]
  refine XC_of sp ?_
  rintro f h5 nb
  have ht : tot [(V.slice p1 k1 c1' o1, k1), (V.slice p n c o, n), (V.slice (some (b4, 0)) 4 4 false, 4)] = k1 + n + 4 := by simp [tot]; omega
  rw [ht] at nb
  simp (maxSteps := 2000000) only [GO, GO2, evK, fillV, setR, binV, intOp, strOp, shOp, unV, getR, lenV, partV, V.nj, V.njL, V.cells, Nat.reduceLT, Nat.reduceEqDiff, Nat.reduceAdd, ↓reduceIte, Nat.reduceLeDiff, reduceCtorEq]
  refine ⟨f, k1 + n + 4, rfl, by omega, by omega, ?_⟩
  obtain ⟨bb, cc, q1, q2, q3, q4, q5, q6⟩ := nb
  have := (Kp.trans (Kp.trans kk1 k14) kb).size
  exact ⟨bb, cc, q1, q2, q3, by omega, q5, Kp.trans (Kp.trans (Kp.trans kk1 k14) kb) q6⟩
end Go.AM.Wc
/-! The evaluator over code whose map loops may take any order: every order is run, and what comes of each is asked. -/
namespace Go.AM
variable {P : Program} {ap : Ap}

/-- What a step of a map's loop may hand out, where several entries are left and none was laid since the loop began. -/
def nexts (T : List V) (h : H) (x : A) : Option (List (V × H)) := match x.ev T with
  | some (.ptr (some (r, 0))) => match h.get r with
    | some (.mapIter (some m) since seen last) => match h.get m with
      | some (.map es clock) =>
        if !seen.isEmpty && !es.isEmpty && es.all (fun e => decide (e.2.2 ≥ last)) then none else
        let left := es.filter fun e => !seen.contains e.2.2
        let old := left.filter fun e => decide (e.2.2 < since)
        let new := left.filter fun e => decide (e.2.2 ≥ since)
        if old.isEmpty || !new.isEmpty then none else
        some (old.map fun e => (.tup [.bool true, e.1, e.2.1], h.set r (.mapIter (some m) since (seen ++ [e.2.2]) clock)))
      | _ => none
    | _ => none
  | _ => none

theorem next_any {m : Mp} {h : H} {w : World} {T : List V} {a : Act} {o : Oper} (cx : Cx P m h w T a) {x : Operand} (ho : o.op = .next x false) {y : A} (h1 : cA P x = some y) {l : List (V × H)} (hl : nexts T h y = some l) :
    ∃ v h', (v, h') ∈ l ∧ ∃ m' w' z, HR P m' h' w' ∧ Ext m h w m' h' w' ∧ VR m' v z ∧ (execOp a.eval o).run P w = .ok (.value z) w' := by
  have he : execOp a.eval o = (do pure (Next.value (← Instr.next (a.eval x) false o.type))) := by simp [execOp, ho]
  unfold nexts at hl
  split at hl
  · rename_i i e1
    obtain ⟨R, sh, ex, hm, hx⟩ := cx.av h1 e1
    split at hl
    · rename_i mi since seen st hg
      obtain ⟨q, rfl, g1, b, sh2, e2, hmi, rfl⟩ := cx.hr.iter hg hm
      have hob : (getObj R).run P w = .ok (.mapIter (some b) since seen.toArray st) w := run_getObj g1 (by intros; simp)
      split at hl
      · rename_i es cl hg2
        obtain ⟨es', g2, g3⟩ := cx.hr.map hg2 hmi
        have hobm : (getObj b).run P w = .ok (.map es' cl) w := run_getObj g2 (by intros; simp)
        split at hl
        · cases hl
        · rename_i hcond
          have hl1 := g3.filter (f := fun e => !seen.contains e.2.2) (g := fun y => !seen.toArray.contains y.born) (fun e y hb => by simp [hb])
          have ho1 := hl1.filter (f := fun e => decide (e.2.2 < since)) (g := fun y => decide (y.born < since)) (fun e y hb => by simp [hb])
          have hn1 := hl1.filter (f := fun e => decide (e.2.2 ≥ since)) (g := fun y => decide (y.born ≥ since)) (fun e y hb => by simp [hb])
          have hco : (!seen.toArray.isEmpty && !es'.isEmpty && es'.all (fun y => decide (y.born ≥ st))) = false := by
            have e1 : seen.toArray.isEmpty = seen.isEmpty := by simp
            have e2 : es'.isEmpty = es.isEmpty := by
              have hlen : es'.size = es.length := by simpa using g3.length
              cases es <;> simp [Array.isEmpty, hlen]
            have e3 : es'.all (fun y => decide (y.born ≥ st)) = es.all (fun e => decide (e.2.2 ≥ st)) := by
              rw [← Array.all_toList]; exact g3.all (fun e y hb => by simp [hb])
            rw [e1, e2, e3]; simpa using hcond
          simp only at hl
          split at hl
          · cases hl
          · rename_i hne
            cases hl
            simp only [Bool.or_eq_true, Bool.not_eq_true', not_or, Bool.not_eq_false] at hne
            obtain ⟨hold, hnew⟩ := hne
            generalize hO : (es'.filter fun y => !seen.toArray.contains y.born).filter (fun y => decide (y.born < since)) = L
            have hLl : L.toList = ((es'.toList.filter fun y => !seen.toArray.contains y.born).filter (fun y => decide (y.born < since))) := by
              rw [← hO, Array.toList_filter, Array.toList_filter]
            have a2 : (es'.filter fun y => !seen.toArray.contains y.born).filter (fun y => decide (y.born ≥ since)) = #[] := by
              apply Array.ext'
              rw [Array.toList_filter, Array.toList_filter]
              have := List.isEmpty_iff.1 hnew
              rw [this] at hn1
              exact hn1
            rw [← hLl] at ho1
            have hlen := ho1.length
            have hL0 : L.size ≠ 0 := by
              rw [← Array.length_toList, hlen]
              intro h0
              exact hold (List.isEmpty_iff.2 (List.length_eq_zero_iff.1 h0))
            have hch : ∃ (j : Nat) (w1 : World), j < L.size ∧ (w1 = w ∨ w1 = w.drew) ∧ (choose (Question.mapNext L.size)).run P w = .ok j w1 := by
              by_cases hf : L.size ≤ 1
              · exact ⟨0, w, by omega, Or.inl rfl, by simp [choose, Sem.run, Question.forced, hf]⟩
              · exact ⟨_, w.drew, Nat.mod_lt _ (by omega), Or.inr rfl, by
                  simp only [choose, Sem.run, Question.forced, decide_eq_true_eq, hf, if_false, Question.cut]
                  rfl⟩
            obtain ⟨j, w1, hj, hal, hrun⟩ := hch
            have get : ∀ {os : List (V × V × Nat)} {ys : List MapEntry} (j : Nat), ER m os ys → j < ys.length → ∃ e y, os[j]? = some e ∧ ys[j]? = some y ∧ VR m e.1 y.key ∧ VR m e.2.1 y.val ∧ y.born = e.2.2 := by
              intro os
              induction os with
              | nil => intro ys j hE hj; cases hE; simp at hj
              | cons e0 os ih =>
                intro ys j hE hj
                obtain ⟨y, ys', z1, z2, z3, z4, rfl⟩ := hE
                cases j with
                | zero => exact ⟨e0, y, rfl, rfl, z1, z2, z3⟩
                | succ j => exact ih j z4 (by simpa using hj)
            obtain ⟨e, y, y1, y2, y3, y4, y5⟩ := get j ho1 (by rw [Array.length_toList]; exact hj)
            rw [Array.getElem?_toList] at y2
            have hheap : w1.heap = w.heap := by rcases hal with rfl | rfl <;> rfl
            have hg1' : w1.heap[R]? = some (.mapIter (some b) since seen.toArray st) := by rw [hheap]; exact g1
            have hr1 : HR P m h w1 := by
              rcases hal with rfl | rfl
              · exact cx.hr
              · exact ⟨cx.hr.ok, cx.hr.dom, cx.hr.glob, cx.hr.blk, cx.hr.obj, cx.hr.inj⟩
            have hx1 : Ext m h w m h w1 := by
              rcases hal with rfl | rfl
              · exact Ext.refl _ _ _
              · exact ⟨Sub.refl m, Nat.le_refl _, Nat.le_refl _, fun _ _ _ => rfl, fun _ _ h => h, rfl, rfl, rfl, fun _ _ h => h⟩
            obtain ⟨k1, k2⟩ := hr1.set (o' := .mapIter (some mi) since (seen ++ [e.2.2]) cl) hg rfl hm (Upd.setObj (ob' := .mapIter (some b) since (seen.toArray.push y.born) cl) hg1')
              ⟨rfl, some b, by rw [y5]; simp, b, sh2, e2, hmi, rfl⟩
            refine ⟨_, _, List.mem_map.2 ⟨e, List.mem_of_getElem? y1, rfl⟩, m, _, .tuple #[.bool true, y.key, y.val], k1, hx1.trans k2, ⟨[_, _, _], .cons rfl (.cons y3 (.one y4)), rfl⟩, ?_⟩
            rw [he, hx]
            have hso : ∀ ob, (setObj R ob).run P w1 = .ok () { w1 with heap := w1.heap.setIfInBounds R ob } := fun ob => run_setObj hg1' (by intros; simp)
            have hemp : L.isEmpty = false := by simp [Array.isEmpty, hL0]
            simp only [Instr.next, Nat.add_zero, Sem.run_bind, hob, hobm, Result.andThen_ok, hco, Bool.false_eq_true, if_false, hO, a2, hemp, Array.append_empty, Array.empty_append, Array.size_map, hrun, Array.getElem?_map, y2, Option.map_some, hso, Sem.run_pure]
      · cases hl
    · cases hl
  · cases hl
end Go.AM
namespace Go.AM
variable {P : Program} {ap : Ap}
theorem cBuiltin_next {b : Builtin} {xs : List Operand} {ts : List TypeId} {s : Bool} {x : A} (h : cBuiltin P b xs ts = some (.next s x)) : False := by
  unfold cBuiltin at h
  repeat' split at h
  all_goals try (cases h; done)
  all_goals simp only [Option.map_eq_some_iff] at h
  all_goals try (obtain ⟨y, h1, h2⟩ := h; cases h2; done)
theorem cK_next {op : Op} {s : Bool} {x : A} (h : cK P op = some (.next s x)) : ∃ y, op = .next y s ∧ cA P y = some x := by
  cases op
  all_goals simp only [cK, Option.map_eq_some_iff] at h
  all_goals try (obtain ⟨y, h1, h2⟩ := h; cases h2; exact ⟨_, rfl, h1⟩)
  all_goals try (obtain ⟨y, h1, h2⟩ := h; cases h2; done)
  all_goals try (cases h; done)
  all_goals repeat' split at h
  all_goals try (obtain ⟨y, h1, h2⟩ := h; cases h2; done)
  all_goals try (cases h; done)
  all_goals try (exact (cBuiltin_next h).elim)
  all_goals try simp only [Option.map_eq_some_iff] at h
  all_goals try (obtain ⟨y, h1, h2⟩ := h; cases h2; done)
  all_goals try (rename_i hq; cases hq; done)
  all_goals try contradiction
end Go.AM
/-! Code whose map loops may take any order, by rules: what every run comes to. -/
namespace Go.AM
variable {P : Program} {E : Env}

inductive NC (P : Program) (E : Env) (ro : Option Nat) : C → St → (Ex → St → Prop) → Prop
  | det {c : C} {s s' : St} {ex : Ex} {R : Ex → St → Prop} : (∀ b, c ≠ .loop b) → EC P E ro c s = some (ex, s') → R ex s' → NC P E ro c s R
  | seq {a b : C} {s : St} {M R : Ex → St → Prop} : NC P E ro a s M → (∀ s', M .nrm s' → NC P E ro b s' R) → (∀ ex s', ex ≠ .nrm → M ex s' → R ex s') → NC P E ro (.seq a b) s R
  | condT {c : A} {a b : C} {s : St} {R : Ex → St → Prop} : c.ev s.1 = some (.bool true) → NC P E ro a s R → NC P E ro (.cond c a b) s R
  | condF {c : A} {a b : C} {s : St} {R : Ex → St → Prop} : c.ev s.1 = some (.bool false) → NC P E ro b s R → NC P E ro (.cond c a b) s R
  | block {id : Nat} {b : C} {s : St} {M R : Ex → St → Prop} : NC P E ro b s M → (∀ s', M .nrm s' → R .nrm s') → (∀ s', M .ret s' → R .ret s') → (∀ i s', M (.exit i) s' → if i = id then R .nrm s' else R (.exit i) s') → NC P E ro (.block id b) s R
  | loop {b : C} {s : St} {M R : Ex → St → Prop} : NC P E ro b s M → (∀ s', M .nrm s' → NC P E ro (.loop b) s' R) → (∀ ex s', ex ≠ .nrm → M ex s' → R ex s') → NC P E ro (.loop b) s R
  | next {o : O} {rest : List O} {s : St} {l : List (V × H)} {x : A} {R : Ex → St → Prop} : o.op = .next false x → o.guard = none → nexts s.1 s.2 x = some l → (∀ p ∈ l, ∃ s', evOs P (AP P E) rest (putV s.1 o.dst p.1) p.2 = some s' ∧ R .nrm s') → NC P E ro (.region (o :: rest)) s R

section
variable {F : Fence} {n : Nat}
/-- A loop's body begins, the loop stands behind it. -/
def Lp (F : Fence) (n : Nat) (P : Program) (c : Code) (Q : Exit → Act → World → Prop) (a : Act) (w : World) : Prop :=
  ∀ (b : Frame) (k : List Item) (cs : List Frame), b.roundOf = F.round → F.fn b.fn → F.room (cs.length + 1 + n) →
    ∃ e a' w', Q e a' w' ∧ ArrivesIn (Machine.fenced P F) P (lone (b.atR a (.code c :: .inLoop c :: k)) cs w) b k cs e a' w'
theorem Lp.wp {c : Code} {Q : Exit → Act → World → Prop} {a : Act} {w : World} (h : Lp F n P c Q a w) : (Code.loop c).wpIn F n P Q a w := by
  intro b k cs hro hb hr
  obtain ⟨e, a', w', hq, harr⟩ := h b k cs hro hb hr
  exact ⟨e, a', w', hq, .of_steps (.one (fenced_calm hb hr rfl) stepR_loop) harr⟩
theorem Lp.round {c : Code} {Q : Exit → Act → World → Prop} {a : Act} {w : World} (h : c.wpIn F n P (Exit.then (Lp F n P c Q) Q) a w) : Lp F n P c Q a w := by
  intro b k cs hro hb hr
  obtain ⟨e, a₁, w₁, hq, harr⟩ := h b (.inLoop c :: k) cs hro hb hr
  cases e with
  | normal =>
    obtain ⟨e₂, a₂, w₂, hq₂, harr₂⟩ := hq b k cs hro hb hr
    exact ⟨e₂, a₂, w₂, hq₂, .of_steps (StepsIn.trans harr (.one (fenced_calm hb hr rfl) stepR_inLoop)) harr₂⟩
  | exit id => exact ⟨_, a₁, w₁, hq, .pass (x := .inLoop c) rfl (fun _ _ => .inl (by simp)) harr⟩
  | goto l => exact ⟨_, a₁, w₁, hq, .pass (x := .inLoop c) rfl (fun _ _ => .inl (by simp)) harr⟩
  | ret => exact ⟨_, a₁, w₁, hq, .pass (x := .inLoop c) rfl (fun _ _ => .inl (by simp)) harr⟩
  | panic ch => exact ⟨_, a₁, w₁, hq, .pass (x := .inLoop c) rfl (fun _ _ => .inl (by simp)) harr⟩
  | outgrown => exact ⟨_, a₁, w₁, hq, .pass (x := .inLoop c) rfl (fun _ _ => .inl (by simp)) harr⟩
end


theorem ncR_any {ap : Ap} (ha : ApOK P ap) {ops : Array Oper} {m0 : Mp} {h0 : H} {w0 : World} {ds : List Deferred} {ro : Option Nat} {n : Nat} {Q : Exit → Act → World → Prop} {R : St → Prop} {T : List V} {h : H} {o : O} {rest : List O} {x : A} {lst : List (V × H)}
    (eop : o.op = .next false x) (egd : o.guard = none) (hn : nexts T h x = some lst) (hall : ∀ p ∈ lst, ∃ s', evOs P ap rest (putV T o.dst p.1) p.2 = some s' ∧ R s')
    (hQ : ∀ s' m' w' a', R s' → Mid P m0 h0 w0 m' s'.2 w' s'.1 ds a' → Q .normal a' w') {os : List Oper} (hl : OpsOK P (ops.toList.map (·.dst)) os (o :: rest))
    {m : Mp} {w : World} {a : Act} (md : Mid P m0 h0 w0 m h w T ds a) : wpListIn (FF ro) n P ops Q os a w := by
  cases os with
  | nil => cases hl
  | cons o' os' =>
    obtain ⟨k, g, oo, l', h1, h2, h3, h4, h5, h6, hoo⟩ := hl
    cases hoo
    rw [eop] at h3
    subst h3
    rw [egd] at h4
    subst h4
    obtain ⟨y, ho, hy⟩ := cK_next h1
    obtain ⟨v, h', hmem, m', w', z, k1, k2, k3, k4⟩ := next_any md.cx ho hy hn
    simp only [wpListIn]
    rw [wanted_sound md.cx.tr h2]
    rw [if_pos (show wantV T none = true from rfl)]
    refine ⟨fun _ _ => trivial, ?_⟩
    rw [Oper.semAt_eq _ _ _ (cK_noDefer h1), k4]
    obtain ⟨s', e, hr⟩ := hall (v, h') hmem
    rw [h5] at e
    exact ops_sound ha (fun m' w' a' md' => hQ s' m' w' a' hr md') os' _ h6 _ _ e m' w' _ (md.put k3 k1 k2 o'.dst)

theorem cRegion_shape {ops : List Oper} {d : Bool} {c : C} (h : cRegion P ops d = some c) : (∃ l, c = .draw l ∧ d = true) ∨ ∃ l, c = .region l ∧ cOsFrom P (ops.map (·.dst)) ops [] = some l ∧ d = false := by
  unfold cRegion at h
  split at h
  · cases h
  · rename_i l hl
    cases d with
    | true =>
      simp only [if_true] at h
      split at h
      · simp only [Option.some.injEq] at h
        exact .inl ⟨_, h.symm, rfl⟩
      · cases h
    | false =>
      simp only [Bool.false_eq_true, if_false, Option.some.injEq] at h
      exact .inr ⟨l, h.symm, hl, rfl⟩

/-- What a piece of code is, from what it was compiled to. -/
def CInv (P : Program) (c : C) (x : Code) : Prop := match c with
  | .seq a b => ∃ y z, x = .seq y z ∧ cC P y = some a ∧ cC P z = some b
  | .cond c a b => ∃ c' y z, x = .cond c' y z ∧ cA P c' = some c ∧ cC P y = some a ∧ cC P z = some b
  | .block id b => ∃ y, x = .block id y ∧ cC P y = some b
  | .loop b => ∃ y, x = .loop y ∧ cC P y = some b
  | .region l => ∃ i ops, x = .region i ops false ∧ cOsFrom P (ops.toList.map (·.dst)) ops.toList [] = some l
  | _ => True

theorem cC_inv {x : Code} {c : C} (hn : ∀ y, x ≠ .scope y) (h : cC P x = some c) : CInv P c x := by
  cases x with
  | scope y => exact (hn y rfl).elim
  | region i ops d =>
    simp only [cC] at h
    rcases cRegion_shape h with ⟨l, rfl, rfl⟩ | ⟨l, rfl, hl, rfl⟩
    · trivial
    · exact ⟨i, ops, rfl, hl⟩
  | seq y z =>
    simp only [cC] at h
    split at h <;> cases h
    exact ⟨y, z, rfl, by assumption, by assumption⟩
  | cond c' y z =>
    simp only [cC] at h
    split at h <;> cases h
    exact ⟨c', y, z, rfl, by assumption, by assumption, by assumption⟩
  | block id y =>
    simp only [cC, Option.map_eq_some_iff] at h
    obtain ⟨b, h1, rfl⟩ := h
    exact ⟨y, rfl, h1⟩
  | loop y =>
    simp only [cC, Option.map_eq_some_iff] at h
    obtain ⟨b, h1, rfl⟩ := h
    exact ⟨y, rfl, h1⟩
  | rangeFunc f ps x y =>
    simp only [cC] at h
    split at h <;> cases h
    trivial
  | skip => simp only [cC] at h; cases h; trivial
  | label _ => simp only [cC] at h; cases h; trivial
  | exit _ => simp only [cC] at h; cases h; trivial
  | ret => simp only [cC] at h; cases h; trivial
  | refuse _ => simp only [cC] at h; cases h; trivial
  | goto _ => simp only [cC] at h; cases h

theorem strip {c : C} {p : Code → Prop} (hs : ∀ x, p x → p (.scope x)) (hn : ∀ x, CInv P c x → p x) : ∀ x, cC P x = some c → p x := by
  intro x
  induction x with
  | scope y ih => intro h; exact hs y (ih (by simpa only [cC] using h))
  | _ => intro h; exact hn _ (cC_inv (by intro y e; cases e) h)

/-- What a piece of code's abstract run says of its real one. -/
def Snds (P : Program) (ro R' : Option Nat) (B : Nat) (R : Ex → St → Prop) (s : St) (f : (Exit → Act → World → Prop) → Act → World → Prop) : Prop :=
  ∀ {Q : Exit → Act → World → Prop} {m : Mp} {w : World} {a : Act}, Cx P m s.2 w s.1 a → RoR m ro R' → DefOK B m s.2 w a.defers →
    (∀ ex s' m' w' a', R ex s' → At P B m s.2 w m' s'.2 w' s'.1 a' → Q (exR ex) a' w') → f Q a w

theorem NC_sound (hmix : P.follows .mixedOrders = true) {prim : Nat → Option (List V → H → Option (V × H))} (hp : PrimOK P prim) {ro R' : Option Nat} {B n : Nat} {c : C} {s : St} {R : Ex → St → Prop} (hN : NC P (envOf P prim) ro c s R) :
    (∀ x, cC P x = some c → Snds P ro R' B R s (x.wpIn (FF R') n P)) ∧ (∀ cb, c = .loop cb → ∀ x, cC P x = some cb → Snds P ro R' B R s (Lp (FF R') n P x)) := by
  have scope : ∀ {s : St} {R : Ex → St → Prop} (x : Code), Snds P ro R' B R s (x.wpIn (FF R') n P) → Snds P ro R' B R s ((Code.scope x).wpIn (FF R') n P) := by
    intro s R x hx Q m w a cx hro hd hQ
    refine wpIn_scope_straight (hx cx hro hd fun ex s' m' w' a' hr hat => ?_)
    have := hQ ex s' m' w' a' hr hat
    cases ex <;> exact this
  induction hN with
  | det hnl he hR =>
    rename_i c s s' ex R
    refine ⟨fun x hx Q m w a cx hro hd hQ => ?_, fun cb e => (hnl cb e).elim⟩
    obtain ⟨k, hk⟩ := EC_iff.1 he
    exact code_sound hmix (ap_sound hmix hp k) x c hx (ex := ex) (T' := s'.1) (h' := s'.2) hk cx hro hd fun m' w' a' hat => hQ ex s' m' w' a' hR hat
  | seq h1 h2 h3 ih1 ih2 =>
    rename_i a b s M R
    refine ⟨strip scope fun x hx => ?_, fun cb e => by cases e⟩
    obtain ⟨y, z, rfl, e1, e2⟩ := hx
    intro Q m w a cx hro hd hQ
    refine wpIn_seq (ih1.1 y e1 cx hro hd fun ex s1 m1 w1 a1 hr hat => ?_)
    cases ex with
    | nrm => exact (ih2 s1 hr).1 z e2 hat.cx (hro.ext hat.ext.sub) hat.dfr fun ex s' m' w' a' hr' hat' => hQ ex s' m' w' a' hr' ⟨hat'.cx, hat.ext.trans hat'.ext, hat'.dfr⟩
    | exit id => exact hQ (.exit id) s1 m1 w1 a1 (h3 _ _ (by simp) hr) hat
    | ret => exact hQ .ret s1 m1 w1 a1 (h3 _ _ (by simp) hr) hat
  | condT he h1 ih =>
    rename_i c a b s R
    refine ⟨strip scope fun x hx => ?_, fun cb e => by cases e⟩
    obtain ⟨c', y, z, rfl, e1, e2, e3⟩ := hx
    intro Q m w a cx hro hd hQ
    exact wpIn_cond (t := true) (cx.av e1 he) (ih.1 y e2 cx hro hd hQ)
  | condF he h1 ih =>
    rename_i c a b s R
    refine ⟨strip scope fun x hx => ?_, fun cb e => by cases e⟩
    obtain ⟨c', y, z, rfl, e1, e2, e3⟩ := hx
    intro Q m w a cx hro hd hQ
    exact wpIn_cond (t := false) (cx.av e1 he) (ih.1 z e3 cx hro hd hQ)
  | block h1 h2 h3 h4 ih =>
    rename_i id b s M R
    refine ⟨strip scope fun x hx => ?_, fun cb e => by cases e⟩
    obtain ⟨y, rfl, e1⟩ := hx
    intro Q m w a cx hro hd hQ
    refine wpIn_block (ih.1 y e1 cx hro hd fun ex s1 m1 w1 a1 hr hat => ?_)
    cases ex with
    | nrm => exact hQ .nrm s1 m1 w1 a1 (h2 _ hr) hat
    | ret => exact hQ .ret s1 m1 w1 a1 (h3 _ hr) hat
    | exit id' =>
      have hr := h4 _ _ hr
      split at hr
      · rename_i hid
        simp only [exR, Exit.inBlock, hid, if_true]
        exact hQ .nrm s1 m1 w1 a1 hr hat
      · rename_i hid
        simp only [exR, Exit.inBlock, hid, if_false]
        exact hQ (.exit id') s1 m1 w1 a1 hr hat
  | loop h1 h2 h3 ih1 ih2 =>
    rename_i b s M R
    have key : ∀ cb, C.loop b = .loop cb → ∀ x, cC P x = some cb → Snds P ro R' B R s (Lp (FF R') n P x) := by
      intro cb e x hx Q m w a cx hro hd hQ
      cases e
      refine Lp.round (ih1.1 x hx cx hro hd fun ex s1 m1 w1 a1 hr hat => ?_)
      cases ex with
      | nrm => exact (ih2 s1 hr).2 b rfl x hx hat.cx (hro.ext hat.ext.sub) hat.dfr fun ex s' m' w' a' hr' hat' => hQ ex s' m' w' a' hr' ⟨hat'.cx, hat.ext.trans hat'.ext, hat'.dfr⟩
      | exit id => exact hQ (.exit id) s1 m1 w1 a1 (h3 _ _ (by simp) hr) hat
      | ret => exact hQ .ret s1 m1 w1 a1 (h3 _ _ (by simp) hr) hat
    refine ⟨strip scope fun x hx => ?_, key⟩
    obtain ⟨y, rfl, e1⟩ := hx
    intro Q m w a cx hro hd hQ
    exact Lp.wp (key b rfl y e1 cx hro hd hQ)
  | next ho hg hl hall =>
    rename_i o rest s l x R
    refine ⟨strip scope fun y hy => ?_, fun cb e => by cases e⟩
    obtain ⟨i, ops, rfl, e1⟩ := hy
    intro Q m w a cx hro hd hQ
    obtain ⟨k, hk⟩ : ∃ k, ∀ p ∈ l, ∃ s', evOs P (ap P (envOf P prim) k) rest (putV s.1 o.dst p.1) p.2 = some s' ∧ R .nrm s' := by
      clear hl
      induction l with
      | nil => exact ⟨0, by simp⟩
      | cons p l ihl =>
        obtain ⟨k1, hk1⟩ := ihl fun q hq => hall q (List.mem_cons_of_mem _ hq)
        obtain ⟨s', es, hr⟩ := hall p List.mem_cons_self
        obtain ⟨k2, hk2⟩ := evOs_lim rest es
        refine ⟨max k1 k2, fun q hq => ?_⟩
        rcases List.mem_cons.1 hq with rfl | hq
        · exact ⟨s', evOs_mono (ap_mono P _ (Nat.le_max_right k1 k2)) _ hk2, hr⟩
        · obtain ⟨s2, e2, r2⟩ := hk1 q hq
          exact ⟨s2, evOs_mono (ap_mono P _ (Nat.le_max_left k1 k2)) _ e2, r2⟩
    refine wpIn_region_list (ncR_any (ap_sound hmix hp k) ho hg hl hk (R := fun s' => R .nrm s') (fun s' m' w' a' hr md => hQ .nrm s' m' w' a' hr ⟨md.cx, md.ext, by rw [md.defers]; exact hd.ext md.ext⟩) (cOsFrom_ok _ _ _ e1) ⟨cx, Ext.refl _ _ _, rfl⟩)
end Go.AM
/-! The decimal numeral as a primitive that the kernel can run. -/
namespace Go.AM
variable {P : Program}
def eqInts : List V → List Int → Bool
  | [], [] => true
  | .int .u64 a :: vs, b :: bs => a == b && eqInts vs bs
  | _, _ => false
theorem eqInts_ok : ∀ {vs : List V} {zs : List Int}, eqInts vs zs = true → vs = ints .u64 zs
  | [], [], _ => rfl
  | v :: vs, [], h => by cases v <;> simp [eqInts] at h
  | [], _ :: _, h => by simp [eqInts] at h
  | v :: vs, b :: bs, h => by
    unfold eqInts at h
    split at h
    · rename_i e; cases e
    · rename_i a vs' b' bs' e1 e2
      cases e1; cases e2
      simp only [Bool.and_eq_true, beq_iff_eq] at h
      rw [h.1, eqInts_ok h.2]; rfl
    · cases h
theorem eqInts_ints : ∀ zs : List Int, eqInts (ints .u64 zs) zs = true
  | [] => rfl
  | z :: zs => by
    have := eqInts_ints zs
    show eqInts (.int .u64 z :: ints .u64 zs) (z :: zs) = true
    simp [eqInts, this]
def tabB (h : H) (g ty : Nat) : Bool := match h.get g with
  | some (.cells vs t false true none) => t == ty && eqInts vs Lib.pow10Tab
  | _ => false
theorem tabB_ok {h : H} {g ty : Nat} (hb : tabB h g ty = true) : Tb g ty h := by
  unfold tabB at hb
  split at hb
  · rename_i vs t e
    simp only [Bool.and_eq_true, beq_iff_eq] at hb
    unfold Tb
    rw [e, hb.1, eqInts_ok hb.2]
  · cases hb
theorem tabB_of {h : H} {g ty : Nat} (hb : Tb g ty h) : tabB h g ty = true := by
  unfold Tb at hb
  unfold tabB
  rw [hb]
  simp [eqInts_ints]
def fmt10C (g ty : Nat) : List V → H → Option (V × H) := fun args h => match args with
  | [.int .i64 n, .int .i64 10] => if tabB h g ty && (decide (-9223372036854775808 ≤ n) && decide (n ≤ 9223372036854775807)) then some (.str (Lib.itoa n), h) else none
  | _ => none
theorem fmt10C_P {g ty : Nat} {args : List V} {h : H} {r : V × H} (he : fmt10C g ty args h = some r) : fmt10P g ty args h = some r := by
  unfold fmt10C at he
  split at he
  · split at he
    · rename_i hc
      simp only [Bool.and_eq_true, decide_eq_true_eq] at hc
      unfold fmt10P
      rw [← he]
      exact if_pos ⟨tabB_ok hc.1, hc.2.1, hc.2.2⟩
    · cases he
  · cases he
open Go.RowKit

theorem HR.below {m : Mp} {h : H} {w w' : World} (hr : HR P m h w) (hb : Below w.heap.size w w') : HR P m h w' ∧ Ext m h w m h w' := by
  have hws := hb.size
  refine ⟨⟨hr.ok, hr.dom, hr.glob, fun i r sh e hm => ?_, fun i o hg hl => ?_, hr.inj⟩, ?_⟩
  · have := hr.blk i r sh e hm; omega
  · obtain ⟨r, sh, e, ob', h1, h2, h3⟩ := hr.obj i o hg hl
    exact ⟨r, sh, e, ob', h1, by rw [hb.block r (hr.blk i r sh e h1)]; exact h2, h3⟩
  · exact ⟨Sub.refl m, Nat.le_refl _, hws, fun b hb' _ => hb.block b hb', fun _ _ h => h, hb.os, hb.output, hb.tape, fun _ _ h => h⟩

/-- A package's sentinel, an error of the type 't', in the block 'g'. -/
def Es (g t ty : Nat) (h : H) : Prop := h.get g = some (.cells [.iface t .junk] ty false true none)
theorem Es.keep {g t ty : Nat} (h h' : H) (e : Es g t ty h) (hk : Keeps h.size h h') : Es g t ty h' := Kp.of hk e
end Go.AM
/-! A closed call, run once over the tables alone, as a primitive at any heap that holds them. -/
namespace Go.AM
open Go.RowKit
variable {P : Program}
/-- An object that names no block. -/
def Flat (P : Program) (o : Obj) : Prop := ∀ m m' ob sh e, OR P m ob sh e o → OR P m' ob sh e o
theorem Flat.ints (k : IntKind) (zs : List Int) (ty : Nat) : Flat P (.cells (ints k zs) ty false true none) := by
  intro m m' ob sh e ⟨c, fzr, h1, h2, h3⟩
  refine ⟨c, fzr, h1, ?_, h3⟩
  rw [VRL_ints_eq h2]
  exact VRL_ints _ _ _
theorem HR.tables {m : Mp} {h h0 : H} {w : World} (hr : HR P m h w) (hk : h0.ok) (hs : h0.size = P.globals.size) (hsub : ∀ i o, h0.get i = some o → h.get i = some o ∧ Flat P o) : HR P (map0 P) h0 w where
  ok := hk
  dom := fun i x hx => by unfold map0 at hx; split at hx <;> first | (rw [hs]; assumption) | cases hx
  glob := fun g hg => by simp [map0, hg]
  blk := fun i r sh e hm => by
    unfold map0 at hm
    split at hm <;> cases hm
    rename_i hi
    exact hr.blk _ _ _ _ (hr.glob i hi)
  obj := fun i o hg hl => by
    have hi := H.get_lt hg
    rw [hs] at hi
    obtain ⟨h1, h2⟩ := hsub i o hg
    obtain ⟨r, sh, e, ob, q1, q2, q3⟩ := hr.obj i o h1 hl
    have := hr.glob i hi
    rw [q1] at this
    cases this
    exact ⟨i, 0, 0, ob, by simp [map0, hi], q2, h2 _ _ _ _ _ q3⟩
  inj := fun i j o o' r sh e sh' e' _ _ _ _ h1 h2 => by
    unfold map0 at h1 h2
    split at h1 <;> split at h2 <;> cases h1 <;> cases h2 <;> rfl
/-- The law's first call: closed, and true. -/
def yesP (c : H → Bool) : List V → H → Option (V × H) := fun args h => match args with
  | [] => if c h then some (.bool true, h) else none
  | _ => none
theorem yes_ok (hmix : P.follows .mixedOrders = true) {prim : Nat → Option (List V → H → Option (V × H))} (hp : PrimOK P prim) {k g : Nat} {h0 h1 : H} {c : H → Bool}
    (run : ap P (envOf P prim) k (.func g [] []) [] h0 = some (.bool true, h1)) (hk : h0.ok) (hs : h0.size = P.globals.size) (hno : ∀ i o, h0.get i = some o → o.mut = false)
    (hc : ∀ h, c h = true → ∀ i o, h0.get i = some o → h.get i = some o ∧ Flat P o)
    {args : List V} {h : H} {v : V} {h' : H} {m : Mp} {w : World} {xs : List Value} (he : yesP c args h = some (v, h')) (hr : HR P m h w) (hx : VRL m args xs) (n : Nat) : CallsIn (FF none) n P g xs.toArray w (Post P m h w v h') := by
  unfold yesP at he
  split at he
  · split at he
    · rename_i hc2
      cases he
      cases hx
      have h2 := calls_of_ap hmix hp run (hr.tables hk hs (hc h hc2)) hno (xs := []) rfl
      refine callsIn_wide.2 (h2.mono fun e w' ⟨m', x, q1, q2, q3⟩ => ?_)
      cases q2
      obtain ⟨a, b⟩ := hr.below q3
      exact ⟨m, _, q1, rfl, a, b⟩
    · cases he
  · cases he
end Go.AM
