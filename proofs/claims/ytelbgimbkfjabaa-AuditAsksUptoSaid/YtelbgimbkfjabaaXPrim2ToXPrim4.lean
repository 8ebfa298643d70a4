/- strconv.toError by the kit's contract; the start with tables and one sentinel. -/
import Derived.Test.YtelbgimbkfjabaaXJToXPrim
import Derived.Below
set_option linter.unusedSimpArgs false
set_option linter.unusedVariables false
/-! The decimal numeral as a primitive that the kernel can run. -/
namespace Go.AM
variable {P : Program}
def eqInts : List V → List Int → Bool
  | [], [] => true
  | .int .u64 a :: vs, b :: bs => a == b && eqInts vs bs
  | _, _ => false
theorem eqInts_ok : ∀ {vs : List V} {zs : List Int}, eqInts vs zs = true → vs = ints .u64 zs
  | [], [], _ => rfl
  | v :: vs, [], h => by cases v <;> simp [eqInts] at h
  | [], _ :: _, h => by simp [eqInts] at h
  | v :: vs, b :: bs, h => by
    unfold eqInts at h
    split at h
    · rename_i e; cases e
    · rename_i a vs' b' bs' e1 e2
      cases e1; cases e2
      simp only [Bool.and_eq_true, beq_iff_eq] at h
      rw [h.1, eqInts_ok h.2]; rfl
    · cases h
theorem eqInts_ints : ∀ zs : List Int, eqInts (ints .u64 zs) zs = true
  | [] => rfl
  | z :: zs => by
    have := eqInts_ints zs
    show eqInts (.int .u64 z :: ints .u64 zs) (z :: zs) = true
    simp [eqInts, this]
def tabB (h : H) (g ty : Nat) : Bool := match h.get g with
  | some (.cells vs t false true none) => t == ty && eqInts vs Lib.pow10Tab
  | _ => false
theorem tabB_ok {h : H} {g ty : Nat} (hb : tabB h g ty = true) : Tb g ty h := by
  unfold tabB at hb
  split at hb
  · rename_i vs t e
    simp only [Bool.and_eq_true, beq_iff_eq] at hb
    unfold Tb
    rw [e, hb.1, eqInts_ok hb.2]
  · cases hb
theorem tabB_of {h : H} {g ty : Nat} (hb : Tb g ty h) : tabB h g ty = true := by
  unfold Tb at hb
  unfold tabB
  rw [hb]
  simp [eqInts_ints]
def itoaC (g ty : Nat) : List V → H → Option (V × H) := fun args h => match args with
  | [.int .i64 n] => if tabB h g ty && (decide (-9223372036854775808 ≤ n) && decide (n ≤ 9223372036854775807)) then some (.str (Lib.itoa n), h) else none
  | _ => none
def fmt10C (g ty : Nat) : List V → H → Option (V × H) := fun args h => match args with
  | [.int .i64 n, .int .i64 10] => if tabB h g ty && (decide (-9223372036854775808 ≤ n) && decide (n ≤ 9223372036854775807)) then some (.str (Lib.itoa n), h) else none
  | _ => none
theorem itoaC_P {g ty : Nat} {args : List V} {h : H} {r : V × H} (he : itoaC g ty args h = some r) : itoaP g ty args h = some r := by
  unfold itoaC at he
  split at he
  · split at he
    · rename_i hc
      simp only [Bool.and_eq_true, decide_eq_true_eq] at hc
      unfold itoaP
      rw [← he]
      exact if_pos ⟨tabB_ok hc.1, hc.2.1, hc.2.2⟩
    · cases he
  · cases he
theorem fmt10C_P {g ty : Nat} {args : List V} {h : H} {r : V × H} (he : fmt10C g ty args h = some r) : fmt10P g ty args h = some r := by
  unfold fmt10C at he
  split at he
  · split at he
    · rename_i hc
      simp only [Bool.and_eq_true, decide_eq_true_eq] at hc
      unfold fmt10P
      rw [← he]
      exact if_pos ⟨tabB_ok hc.1, hc.2.1, hc.2.2⟩
    · cases he
  · cases he
theorem itoa_runs : Lib.itoa 12 = [49, 50] := by decide +kernel
end Go.AM
namespace Go.AM
open Go.RowKit
variable {P : Program}

theorem HR.below {m : Mp} {h : H} {w w' : World} (hr : HR P m h w) (hb : Below w.heap.size w w') : HR P m h w' ∧ Ext m h w m h w' := by
  have hws := hb.size
  refine ⟨⟨hr.ok, hr.dom, hr.glob, fun i r sh e hm => ?_, fun i o hg hl => ?_, hr.inj⟩, ?_⟩
  · have := hr.blk i r sh e hm; omega
  · obtain ⟨r, sh, e, ob', h1, h2, h3⟩ := hr.obj i o hg hl
    exact ⟨r, sh, e, ob', h1, by rw [hb.block r (hr.blk i r sh e h1)]; exact h2, h3⟩
  · exact ⟨Sub.refl m, Nat.le_refl _, hws, fun b hb' _ => hb.block b hb', fun _ _ h => h, hb.os, hb.output, hb.tape, fun _ _ h => h⟩

theorem HR.init2 {h0 : H} {W : World} (hk : h0.ok) (hs : h0.size = P.globals.size) (hW : P.globals.size ≤ W.heap.size)
    (hob : ∀ i o, h0.get i = some o → o = .dead ∨ ∃ vs xs ty, o = .cells vs ty false true none ∧ W.heap[i]? = some (.cells xs.toArray ty) ∧ VRL (map0 P) vs xs) : HR P (map0 P) h0 W where
  ok := hk
  dom := fun i x hx => by unfold map0 at hx; split at hx <;> first | (rw [hs]; assumption) | cases hx
  glob := fun g hg => by simp [map0, hg]
  blk := fun i r sh e hm => by unfold map0 at hm; split at hm <;> cases hm; omega
  obj := fun i o hg hl => by
    have hi := H.get_lt hg
    rw [hs] at hi
    rcases hob i o hg with rfl | ⟨vs, xs, ty, rfl, hw, hv⟩
    · cases hl
    · exact ⟨i, 0, 0, _, by simp [map0, hi], hw, OR.closed hv⟩
  inj := fun i j o o' r sh e sh' e' _ _ _ _ h1 h2 => by
    unfold map0 at h1 h2
    split at h1 <;> split at h2 <;> cases h1 <;> cases h2 <;> rfl

def Es (g t ty : Nat) (h : H) : Prop := h.get g = some (.cells [.iface t .junk] ty false true none)
theorem Es.keep {g t ty : Nat} (h h' : H) (e : Es g t ty h) (hk : Keeps h.size h h') : Es g t ty h' := Kp.of hk e
theorem cell_of_HR {m : Mp} {h : H} {w : World} {g t ty : Nat} (hr : HR P m h w) (hg : Es g t ty h) (hlt : g < P.globals.size) : ∃ p, w.cell? ⟨g, 0, none⟩ = some (.iface t p) := by
  obtain ⟨r, sh, e, ob, h1, h2, h3⟩ := hr.obj g _ hg rfl
  have := hr.glob g hlt
  rw [h1] at this
  cases this
  obtain ⟨c, fzr, rfl, h4, h5, _⟩ := h3
  simp only [Bool.false_eq_true, if_false] at h5
  have hl : c.toList.length = 1 := by rw [Array.length_toList]; exact h5.2.2
  rw [List.drop_zero, List.take_of_length_le (by simp only [List.length_cons, List.length_nil]; omega)] at h4
  obtain ⟨y, ys, ⟨z, _, rfl⟩, hy, hc⟩ := h4
  cases hy
  refine ⟨z, ?_⟩
  have hc0 : c[0]? = some (.iface t z) := by rw [← Array.getElem?_toList, hc]; rfl
  simp [World.cell?, h2, hc0]
open Classical in
noncomputable def toErrP (g t ty : Nat) : List V → H → Option (V × H) := fun args h => match args with
  | [.str _, .str s, .int .i64 _, .int .i64 _, .iface 110 (.int .i64 2)] => if Es g t ty h ∧ s.length ≤ 100 then some (.junk, h) else none
  | _ => none
theorem toErr_ok {g t ty : Nat} {f : FuncId} (hlt : g < P.globals.size)
    (hc : ∀ (fn s : ByteArray) (base bits : Int) (ev : Value) (w : World), s.size ≤ 281474976710656 → w.cell? ⟨g, 0, none⟩ = some ev → (ev = .nilIface ∨ ∃ te pe, ev = .iface te pe) →
      Calls P f #[.string fn, .string s, .int .i64 base, .int .i64 bits, .iface 110 (.int .i64 2)] w fun e w' => ∃ t N, e = .returned (.iface t (.pointer (some ⟨N, 0, none⟩))) ∧ Below w.heap.size w w')
    {args : List V} {h : H} {v : V} {h' : H} {m : Mp} {w : World} {xs : List Value} (he : toErrP g t ty args h = some (v, h')) (hr : HR P m h w) (hx : VRL m args xs) (n : Nat) : CallsIn (FF none) n P f xs.toArray w (Post P m h w v h') := by
  unfold toErrP at he
  split at he
  · rename_i fn s base bits
    split at he
    · rename_i hc2
      cases he
      obtain ⟨y1, ys1, e1, ⟨y2, ys2, e2, ⟨y3, ys3, e3, ⟨y4, ys4, e4, ⟨y5, ys5, e5, e6, rfl⟩, rfl⟩, rfl⟩, rfl⟩, rfl⟩ := hx
      cases e1; cases e2; cases e3; cases e4; cases e6
      obtain ⟨z, hz, rfl⟩ := e5
      cases hz
      obtain ⟨p, hp⟩ := cell_of_HR hr hc2.1 hlt
      refine callsIn_wide.2 ((hc ⟨fn.toArray⟩ ⟨s.toArray⟩ base bits _ w (by show s.toArray.size ≤ _; simp only [List.size_toArray]; have := hc2.2; omega) hp (.inr ⟨_, _, rfl⟩)).mono fun e w' ⟨t, N, q1, q2⟩ => ?_)
      obtain ⟨a, b⟩ := hr.below q2
      exact ⟨m, _, q1, ⟨rfl, fun _ hb => (by cases hb), fun hb => (by cases hb)⟩, a, b⟩
    · cases he
  · cases he
end Go.AM
/-! A closed call, run once over the tables alone, as a primitive at any heap that holds them. -/
namespace Go.AM
open Go.RowKit
variable {P : Program}
def Flat (P : Program) (o : Obj) : Prop := ∀ m m' ob sh e, OR P m ob sh e o → OR P m' ob sh e o
theorem Flat.ints (k : IntKind) (zs : List Int) (ty : Nat) : Flat P (.cells (ints k zs) ty false true none) := by
  intro m m' ob sh e ⟨c, fzr, h1, h2, h3⟩
  refine ⟨c, fzr, h1, ?_, h3⟩
  rw [VRL_ints_eq h2]
  exact VRL_ints _ _ _
theorem HR.tables {m : Mp} {h h0 : H} {w : World} (hr : HR P m h w) (hk : h0.ok) (hs : h0.size = P.globals.size) (hsub : ∀ i o, h0.get i = some o → h.get i = some o ∧ Flat P o) : HR P (map0 P) h0 w where
  ok := hk
  dom := fun i x hx => by unfold map0 at hx; split at hx <;> first | (rw [hs]; assumption) | cases hx
  glob := fun g hg => by simp [map0, hg]
  blk := fun i r sh e hm => by
    unfold map0 at hm
    split at hm <;> cases hm
    rename_i hi
    exact hr.blk _ _ _ _ (hr.glob i hi)
  obj := fun i o hg hl => by
    have hi := H.get_lt hg
    rw [hs] at hi
    obtain ⟨h1, h2⟩ := hsub i o hg
    obtain ⟨r, sh, e, ob, q1, q2, q3⟩ := hr.obj i o h1 hl
    have := hr.glob i hi
    rw [q1] at this
    cases this
    exact ⟨i, 0, 0, ob, by simp [map0, hi], q2, h2 _ _ _ _ _ q3⟩
  inj := fun i j o o' r sh e sh' e' _ _ _ _ h1 h2 => by
    unfold map0 at h1 h2
    split at h1 <;> split at h2 <;> cases h1 <;> cases h2 <;> rfl
def yesP (c : H → Bool) : List V → H → Option (V × H) := fun args h => match args with
  | [] => if c h then some (.bool true, h) else none
  | _ => none
theorem yes_ok (hmix : P.follows .mixedOrders = true) {prim : Nat → Option (List V → H → Option (V × H))} (hp : PrimOK P prim) {k g : Nat} {h0 h1 : H} {c : H → Bool}
    (run : ap P (envOf P prim) k (.func g [] []) [] h0 = some (.bool true, h1)) (hk : h0.ok) (hs : h0.size = P.globals.size) (hno : ∀ i o, h0.get i = some o → o.mut = false)
    (hc : ∀ h, c h = true → ∀ i o, h0.get i = some o → h.get i = some o ∧ Flat P o)
    {args : List V} {h : H} {v : V} {h' : H} {m : Mp} {w : World} {xs : List Value} (he : yesP c args h = some (v, h')) (hr : HR P m h w) (hx : VRL m args xs) (n : Nat) : CallsIn (FF none) n P g xs.toArray w (Post P m h w v h') := by
  unfold yesP at he
  split at he
  · split at he
    · rename_i hc2
      cases he
      cases hx
      have h2 := calls_of_ap hmix hp run (hr.tables hk hs (hc h hc2)) hno (xs := []) rfl
      refine callsIn_wide.2 (h2.mono fun e w' ⟨m', x, q1, q2, q3⟩ => ?_)
      cases q2
      obtain ⟨a, b⟩ := hr.below q3
      exact ⟨m, _, q1, rfl, a, b⟩
    · cases he
  · cases he
end Go.AM
