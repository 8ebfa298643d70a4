/- My own texts, laid for this claim. -/
import Derived.Test.YtpfoofcallfjjaaGreatDoorWdCodeToWe8
set_option linter.unusedSimpArgs false
set_option linter.unusedVariables false
namespace Go.AM.Wc
open Go.AM Go.AM.Wd Go.AM.We
variable {P : Program} {E : Env} {T : H → Prop}
theorem bs_four (s : Int) : Bs (fourF s) := by
 intro x hx
 simp only [fourF,List.mem_cons,List.not_mem_nil,or_false] at hx
 rcases hx with h | h | h | h <;> exact ⟨_,h⟩
theorem Nx.app {h0 h h1 : H} {r x : V} {cs ds : List V} (a : Nx h0 h r cs) (k1 : Kp h h1) (hl : lenV x = some ds.length) (he : elemsV h1 1 ds.length x = some ds) (hd : Bs ds) (hm : cs.length + ds.length ≤ 4294967296) (h1p : 1 ≤ cs.length) :
  ∃ r' h2,appV h1 5 1 1 r x = some (.eff r' h2) ∧ Nx h0 h2 r' (cs ++ ds) ∧ Kp h0 h2 := by
 obtain ⟨b,rfl,hb,hsz,hg,k⟩ := a
 have ow : Ow h0.size h1 ([] ++ (fpt (some b) 5 cs ++ [])) := by
  refine ⟨fun p hp => ?_,fun p hp => ?_,by simp [fpt]⟩
  ·simp only [fpt,List.nil_append,List.append_nil,List.mem_singleton] at hp; subst hp; exact k1.of hg
  ·simp only [fpt,List.nil_append,List.append_nil,List.mem_singleton] at hp; subst hp; exact hsz
 obtain ⟨b',h2,e1,e2,e3,e4,_⟩ := Ow.appc (bytes := 1) (ds := ds) (x := x) ow (by simp) (Nat.le_trans k.size k1.size) hl he hd.one (by omega)
 cases b' with
 | none => have := e3 rfl; simp at this; rw [this.1] at h1p; simp at h1p
 | some b' =>
  have kk : Kp h0 h2 := Keeps.trans (n := h0.size) (Kp.trans k k1) e4
  exact ⟨_,h2,e1,nx_of e2 (hb.app hd) kk,kk⟩
theorem bytes77 (D : Fd P E) {h : H} {v : V} {cs : List V} (hv : Rx h v cs) (hn : cs.length ≤ 1048576) : Sp P E (.func 77 [] []) [v] h fun r h' => Nx h h' r (numF cs.length ++ cs) := by
 obtain ⟨p,c,o,hvv⟩ := hv.shape
 refine Sp_fn D.f77 D.p77 (by simp [fn77]) ?_
 rw [hvv] at hv ⊢
 simp only [GR,evK,binV,intOp,strOp,shOp,unV,Nat.reduceLT,Nat.reduceEqDiff,Nat.reduceAdd,↓reduceIte,Nat.reduceLeDiff,reduceCtorEq,fn77,c77,r77_0]
 refine XC_of (int113 D (by omega) (by omega)) ?_
 rintro r h1 nx
 have hv1 := hv.kp nx.kp
 obtain ⟨p',c',o',e0,he,hb⟩ := hv1
 have hnl := numF_len cs.length
 obtain ⟨r',h2,e1,nx2,k2⟩ := nx.app (Keeps.refl _ _) (x := .slice p cs.length c o) rfl he hb (by omega) hnl.1
 simp only [GR,evK,binV,intOp,strOp,shOp,unV,Nat.reduceLT,Nat.reduceEqDiff,Nat.reduceAdd,↓reduceIte,Nat.reduceLeDiff,reduceCtorEq,e1]
 exact nx2
theorem bAnd1 {s : Int} (h0 : 0 ≤ s) (h1 : s < 4294967296) : bAnd s 1 = s.tmod 2 := by
 obtain ⟨n,rfl⟩ := Int.eq_ofNat_of_zero_le h0
 unfold bAnd
 have e1 : (n : Int).tmod 2 = ((n % 2 : Nat) : Int) := by rw [Int.tmod_eq_emod_of_nonneg (by omega)]; rfl
 have e2 : (BitVec.ofInt 32 (n : Int) &&& BitVec.ofInt 32 1).toNat = n % 2 := by
  rw [BitVec.toNat_and,BitVec.toNat_ofInt,BitVec.toNat_ofInt]
  have a1 : ((n : Int) % ((2 ^ 32 : Nat) : Int)).toNat = n := by omega
  have a2 : ((1 : Int) % ((2 ^ 32 : Nat) : Int)).toNat = 1 := by decide
  rw [a1,a2,Nat.and_one_is_mod]
 rw [e1,e2,wrap32 (by omega) (by omega)]
theorem bXor_range {a b : Int} : 0 ≤ bXor a b ∧ bXor a b < 4294967296 := by
 have e : bXor a b = IntKind.u32.wrap (((BitVec.ofInt 32 a ^^^ BitVec.ofInt 32 b).toNat : Nat) : Int) := rfl
 have hlt : (BitVec.ofInt 32 a ^^^ BitVec.ofInt 32 b).toNat < 4294967296 := BitVec.isLt _
 rw [e,wrap32 (by omega) (by omega)]
 omega
theorem half_eq {s : Int} (h0 : 0 ≤ s) (h1 : s < 4294967296) : IntKind.u32.wrap (s.tdiv 2) = s.fdiv (2 ^ (min (1 : Int).toNat 32)) := by
 have : min (1 : Int).toNat 32 = 1 := by decide
 rw [this,Int.tdiv_eq_ediv_of_nonneg h0,show ((2 : Int) ^ 1) = 2 from rfl,Int.fdiv_eq_ediv_of_nonneg _ (by decide),wrap32 (by omega) (by omega)]
theorem half_range {s : Int} (h0 : 0 ≤ s) (h1 : s < 4294967296) : 0 ≤ s.fdiv (2 ^ (min (1 : Int).toNat 32)) ∧ s.fdiv (2 ^ (min (1 : Int).toNat 32)) < 4294967296 := by
 have : min (1 : Int).toNat 32 = 1 := by decide
 rw [this,show ((2 : Int) ^ 1) = 2 from rfl,Int.fdiv_eq_ediv_of_nonneg _ (by decide)]
 omega
theorem bit1_eq {s : Int} (h0 : 0 ≤ s) (h1 : s < 4294967296) : bit1 s = if (s.tmod 2 == 1) = true then bXor (IntKind.u32.wrap (s.tdiv 2)) 3988292384 else IntKind.u32.wrap (s.tdiv 2) := by
 unfold bit1
 rw [bAnd1 h0 h1,half_eq h0 h1]
theorem bit1_range {s : Int} (h0 : 0 ≤ s) (h1 : s < 4294967296) : 0 ≤ bit1 s ∧ bit1 s < 4294967296 := by
 unfold bit1
 split
 ·exact bXor_range
 ·exact half_range h0 h1
set_option maxHeartbeats 1000000 in
theorem bits76 {h : H} {K : List Fr} {Q : Po} {ρ0 : Nat → V} {s0 : Int} (cont : ∀ (ρ' : Nat → V),(∀ j,j ≠ 3 → j ≠ 5 → j < 19 → ρ' j = ρ0 j) → ρ' 3 = .int .u32 (bitN 8 s0) → X P E none 33 K ρ' h Q) :
  ∀ (d k : Nat) (ρ : Nat → V) (s : Int),8 - k = d → k ≤ 8 → 0 ≤ s → s < 4294967296 → bitN d s = bitN 8 s0 → (∀ j,j ≠ 3 → j ≠ 5 → j < 19 → ρ j = ρ0 j) → ρ 3 = .int .u32 s → ρ 5 = .int .i64 k → XL P E none 33 b76_7 (.b 2 :: K) ρ h Q := by
 have z2 : ¬ (2 : Int) = 0 := by decide
 intro d
 induction d with
 | zero =>
  intro k ρ s hd hk hs0 hs1 hs hr q3 q5
  have hke : ¬ (k : Int) < 8 := by omega
  rw [u76_7]
  simp only [GR,evK,binV,intOp,strOp,shOp,unV,Nat.reduceLT,Nat.reduceEqDiff,Nat.reduceAdd,↓reduceIte,Nat.reduceLeDiff,reduceCtorEq,r76_2,q5,hke]
  refine cont _ (fun j h1 h2 h3 => ?_) ?_
  ·simp only [up_app]
   repeat rw [if_neg (by omega)]
   exact hr j h1 h2 h3
  ·rw [← hs]; exact q3
 | succ d ih =>
  intro k ρ s hd hk hs0 hs1 hs hr q3 q5
  have hke : (k : Int) < 8 := by omega
  have hw : IntKind.i64.wrap ((k : Int) + 1) = ((k + 1 : Nat) : Int) := wrap_nat (n := k + 1) (by omega)
  have hb : bitN d (bit1 s) = bitN 8 s0 := hs
  have hbe := bit1_eq hs0 hs1
  have hbr := bit1_range hs0 hs1
  rw [u76_7]
  cases hc : (s.tmod 2 == 1) with
  | true =>
   rw [hc,if_pos rfl] at hbe
   simp only [GR,evK,binV,intOp,strOp,shOp,unV,Nat.reduceLT,Nat.reduceEqDiff,Nat.reduceAdd,↓reduceIte,Nat.reduceLeDiff,reduceCtorEq,r76_2,q5,hke,r76_3,q3,z2,hc,r76_4,r76_6,hw]
   refine ih (k + 1) _ (bit1 s) (by omega) (by omega) hbr.1 hbr.2 hb (fun j h1 h2 h3 => ?_) ?_ ?_
   ·simp only [up_app]
    repeat rw [if_neg (by omega)]
    exact hr j h1 h2 h3
   ·rw [hbe]; rfl
   ·rfl
  | false =>
   rw [hc,if_neg (by simp)] at hbe
   simp only [GR,evK,binV,intOp,strOp,shOp,unV,Nat.reduceLT,Nat.reduceEqDiff,Nat.reduceAdd,↓reduceIte,Nat.reduceLeDiff,reduceCtorEq,r76_2,q5,hke,r76_3,q3,z2,hc,r76_5,r76_6,hw]
   refine ih (k + 1) _ (bit1 s) (by omega) (by omega) hbr.1 hbr.2 hb (fun j h1 h2 h3 => ?_) ?_ ?_
   ·simp only [up_app]
    repeat rw [if_neg (by omega)]
    exact hr j h1 h2 h3
   ·rw [hbe]; rfl
   ·rfl
theorem sum76 (D : Fd P E) {h : H} {v : V} {cs : List V} (hv : Rx h v cs) (hn : cs.length ≤ 1048576) : Sp P E (.func 76 [] []) [v] h fun r h' => r = .int .u32 (crcF cs) ∧ h' = h := by
 obtain ⟨p,c,q,hvv⟩ := hv.shape
 have loop : ∀ (d k : Nat) (ρ : Nat → V),cs.length - k = d → k ≤ cs.length → ρ 3 = .int .u32 ((cs.take k).foldl byteS 4294967295) → ρ 4 = .int .i64 k → ρ 0 = v →
   XL P E none 33 b76_9 [.b 0,.c (.seq (.region r76_10) (.ret))] ρ h (Fin [.t 2] fun r h' => r = .int .u32 (crcF cs) ∧ h' = h) := by
  intro d
  induction d with
  | zero =>
   intro k ρ hd hk q3 q4 q0
   have hke : ¬ k < cs.length := by omega
   rw [List.take_of_length_le (by omega)] at q3
   rw [hvv] at q0
   rw [u76_9]
   simp only [GR,evK,binV,intOp,strOp,shOp,unV,Nat.reduceLT,Nat.reduceEqDiff,Nat.reduceAdd,↓reduceIte,Nat.reduceLeDiff,reduceCtorEq,r76_0,q4,q0,Int.ofNat_lt,hke,r76_10,q3]
   rfl
  | succ d ih =>
   intro k ρ hd hk q3 q4 q0
   have hke : k < cs.length := by omega
   obtain ⟨b1,o1,c1,p1,vs,ty,op,ro,fz,x,hv1,hg1,hx,hck⟩ := hv.at hke
   have q0' := q0.trans hv1
   have hw : IntKind.i64.wrap ((k : Int) + 1) = ((k + 1 : Nat) : Int) := wrap_nat (n := k + 1) (by omega)
   rw [u76_9]
   simp only [GR,evK,binV,intOp,strOp,shOp,unV,Nat.reduceLT,Nat.reduceEqDiff,Nat.reduceAdd,↓reduceIte,Nat.reduceLeDiff,reduceCtorEq,r76_0,q4,q0',Int.ofNat_lt,hke,r76_1,Int.natCast_nonneg,Int.toNat_natCast,Nat.mul_one,hg1,hx,q3]
   refine bits76 (ρ0 := _) (s0 := bXor ((cs.take k).foldl byteS 4294967295) (IntKind.u32.wrap x)) ?_ 8 0 _ _ rfl (Nat.zero_le _) bXor_range.1 bXor_range.2 rfl (fun j _ _ _ => rfl) ?_ ?_
   ·intro ρ2 hr2 y3
    have y4 : ρ2 4 = .int .i64 k := (hr2 4 (by decide) (by decide) (by decide)).trans q4
    have y0 : ρ2 0 = v := (hr2 0 (by decide) (by decide) (by decide)).trans q0
    simp only [GR,evK,binV,intOp,strOp,shOp,unV,Nat.reduceLT,Nat.reduceEqDiff,Nat.reduceAdd,↓reduceIte,Nat.reduceLeDiff,reduceCtorEq,r76_8,y4,hw]
    refine ih (k + 1) _ (by omega) (by omega) ?_ ?_ ?_
    ·rw [foldl_take hke,hck]; exact y3
    ·rfl
    ·exact y0
   ·rfl
   ·rfl
 refine Sp_fn D.f76 D.p76 (by simp [fn76]) ?_
 simp only [GR,evK,binV,intOp,strOp,shOp,unV,Nat.reduceLT,Nat.reduceEqDiff,Nat.reduceAdd,↓reduceIte,Nat.reduceLeDiff,reduceCtorEq,fn76,c76]
 refine loop cs.length 0 _ rfl (Nat.zero_le _) ?_ ?_ ?_
 ·rfl
 ·rfl
 ·rfl
theorem frame48 (D : Fd P E) {h : H} {v : V} {cs : List V} (hv : Rx h v cs) (hn : cs.length ≤ 1048576) : Sp P E (.func 48 [] []) [v] h fun r h' => ∃ f,r = .tup [f,.int .i64 0] ∧ Nx h h' f (frameF cs) := by
 obtain ⟨p,c,o,hvv⟩ := hv.shape
 have c1 : ¬ (cs.length : Int) > 1048576 := by omega
 have l8 : ¬ (8 : Int) < 0 := by decide
 have l16 : ¬ (16 : Int) < 0 := by decide
 have l24 : ¬ (24 : Int) < 0 := by decide
 refine Sp_fn D.f48 D.p48 (by simp [fn48]) ?_
 rw [hvv] at hv ⊢
 simp only [GR,evK,binV,intOp,strOp,shOp,unV,Nat.reduceLT,Nat.reduceEqDiff,Nat.reduceAdd,↓reduceIte,Nat.reduceLeDiff,reduceCtorEq,fn48,c48,r48_0,r48_1,c1,r48_3]
 refine XC_of (sum76 D hv hn) ?_
 rintro _ hx ⟨rfl,e2⟩
 rw [e2]
 clear e2 hx
 simp only [GR,evK,binV,intOp,strOp,shOp,unV,Nat.reduceLT,Nat.reduceEqDiff,Nat.reduceAdd,↓reduceIte,Nat.reduceLeDiff,reduceCtorEq,r48_4]
 refine XC_of (bytes77 D hv hn) ?_
 rintro r h1 nx
 have hd0 : List.drop 1 [V.int .u8 0,.int .u8 0,.int .u8 0,.int .u8 0] = [.int .u8 0,.int .u8 0,.int .u8 0] := rfl
 have k1 : Kp h1 (h1.psh (.cells (fourF (crcF cs)) 5 false false none)) := Keeps.psh (Nat.le_refl _) _
 have he : elemsV (h1.psh (.cells (fourF (crcF cs)) 5 false false none)) 1 (fourF (crcF cs)).length (.slice (some (h1.size,0)) 4 4 false) = some (fourF (crcF cs)) := by
  simp only [elemsV,psh_same]; rfl
 have hnl := numF_len cs.length
 obtain ⟨r',h2,e1,nx2,k2⟩ := nx.app k1 (x := .slice (some (h1.size,0)) 4 4 false) (ds := fourF (crcF cs)) rfl he (bs_four _) (by simp only [List.length_append]; show _ + 4 ≤ _; omega) (by rw [List.length_append]; omega)
 have hfd : fourF (crcF cs) = [.int .u8 (IntKind.u8.wrap (crcF cs)),.int .u8 (IntKind.u8.wrap ((crcF cs).fdiv (2 ^ (min (8 : Int).toNat IntKind.u32.bits)))),.int .u8 (IntKind.u8.wrap ((crcF cs).fdiv (2 ^ (min (16 : Int).toNat IntKind.u32.bits)))),.int .u8 (IntKind.u8.wrap ((crcF cs).fdiv (2 ^ (min (24 : Int).toNat IntKind.u32.bits))))] := rfl
 rw [hfd] at e1
 simp only [GR,evK,binV,intOp,strOp,shOp,unV,Nat.reduceLT,Nat.reduceEqDiff,Nat.reduceAdd,↓reduceIte,Nat.reduceLeDiff,reduceCtorEq,l8,l16,l24,e1]
 exact ⟨r',rfl,nx2⟩
end Go.AM.Wc
namespace Go.AM.Wc
open Go.AM Go.AM.Wd Go.AM.We
open Go.Lib (itoa decDigits)
variable {P : Program} {E : Env} {T : H → Prop}
theorem name75 (D : Fd P E) {s : List UInt8} {h : H} (hlen : s.length ≤ 134217728) : Sp P E (.func 75 [] []) [.str s] h fun v h' => v = .bool (isName s) ∧ h' = h := by
 refine Sp_fn D.f75 D.p75 (by simp [fn75]) ?_
 have loop : ∀ (d k : Nat) (ρ : Nat → V),s.length - k ≤ d → k ≤ s.length → (s.take k).all low = true → ρ 0 = .str s → ρ 3 = .int .i64 k →
   XL P E none 28 b75_3 [.b 0,.c (.seq (.region r75_4) (.ret))] ρ h (Fin [.t 2] fun v h' => v = .bool (isName s) ∧ h' = h) := by
  intro d
  induction d with
  | zero =>
   intro k ρ hd hk ht q0 q3
   have hke : ¬ k < s.length := by omega
   rw [List.take_of_length_le (by omega)] at ht
   rw [u75_3]
   by_cases c1 : (s.length : Int) ≥ 1
   ·by_cases c2 : (s.length : Int) ≤ 20
    ·simp only [GR,evK,binV,intOp,strOp,shOp,unV,Nat.reduceLT,Nat.reduceEqDiff,Nat.reduceAdd,↓reduceIte,Nat.reduceLeDiff,reduceCtorEq,r75_0,r75_4,q0,q3,Int.ofNat_lt,hke,c1,c2]
     simp [isName,ht]; omega
    ·simp only [GR,evK,binV,intOp,strOp,shOp,unV,Nat.reduceLT,Nat.reduceEqDiff,Nat.reduceAdd,↓reduceIte,Nat.reduceLeDiff,reduceCtorEq,r75_0,r75_4,q0,q3,Int.ofNat_lt,hke,c1,c2]
     simp [isName]; omega
   ·simp only [GR,evK,binV,intOp,strOp,shOp,unV,Nat.reduceLT,Nat.reduceEqDiff,Nat.reduceAdd,↓reduceIte,Nat.reduceLeDiff,reduceCtorEq,r75_0,r75_4,q0,q3,Int.ofNat_lt,hke,c1]
    simp [isName]; omega
  | succ d ih =>
   intro k ρ hd hk ht q0 q3
   by_cases hke : k < s.length
   rotate_left
   ·exact ih k ρ (by omega) hk ht q0 q3
   have hge : s[k]? = some s[k] := by simp [hke]
   have hw : IntKind.i64.wrap ((k : Int) + 1) = ((k + 1 : Nat) : Int) := wrap_nat (n := k + 1) (by omega)
   rw [u75_3]
   by_cases c1 : (s[k].toNat : Int) < 97
   ·simp only [GR,evK,binV,intOp,strOp,shOp,unV,Nat.reduceLT,Nat.reduceEqDiff,Nat.reduceAdd,↓reduceIte,Nat.reduceLeDiff,reduceCtorEq,r75_0,r75_1,q0,q3,Int.ofNat_lt,hke,hge,Int.natCast_nonneg,Int.toNat_natCast,c1]
    rw [bad_name hke (by simp [low]; omega)]
   by_cases c2 : (s[k].toNat : Int) > 122
   ·simp only [GR,evK,binV,intOp,strOp,shOp,unV,Nat.reduceLT,Nat.reduceEqDiff,Nat.reduceAdd,↓reduceIte,Nat.reduceLeDiff,reduceCtorEq,r75_0,r75_1,q0,q3,Int.ofNat_lt,hke,hge,Int.natCast_nonneg,Int.toNat_natCast,c1,c2]
    rw [bad_name hke (by simp [low]; omega)]
   simp only [GR,evK,binV,intOp,strOp,shOp,unV,Nat.reduceLT,Nat.reduceEqDiff,Nat.reduceAdd,↓reduceIte,Nat.reduceLeDiff,reduceCtorEq,r75_0,r75_1,r75_2,q0,q3,Int.ofNat_lt,hke,hge,Int.natCast_nonneg,Int.toNat_natCast,c1,c2,hw]
   exact ih (k + 1) _ (by omega) (by omega) (take_ok hke (by simp [low]; omega) ht) q0 rfl
 simp only [GR,evK,binV,intOp,strOp,shOp,unV,Nat.reduceLT,Nat.reduceEqDiff,Nat.reduceAdd,↓reduceIte,Nat.reduceLeDiff,reduceCtorEq,fn75,c75]
 exact loop s.length 0 _ (by omega) (by omega) rfl rfl rfl
theorem seg47 (F : Fw P E T) (D : Fd P E) {s : List UInt8} {n : Int} {h : H} (ht : T h) (hlen : s.length ≤ 134217728) (hd : 0 ≤ n → n ≤ 999999999999 → (itoa n).length ≤ 12) : Sp P E (.func 47 [] []) [.str s,.int .i64 n] h fun v h' => v = .str (segS s n) ∧ h' = h := by
 refine Sp_fn D.f47 D.p47 (by simp [fn47]) ?_
 simp only [GR,evK,binV,intOp,strOp,shOp,unV,Nat.reduceLT,Nat.reduceEqDiff,Nat.reduceAdd,↓reduceIte,Nat.reduceLeDiff,reduceCtorEq,fn47,c47,r47_0]
 refine XC_of (name75 D hlen) ?_
 rintro _ h1 ⟨rfl,rfl⟩
 unfold segS
 cases hn : isName s with
 | false =>
  simp only [GR,evK,binV,intOp,strOp,shOp,unV,Nat.reduceLT,Nat.reduceEqDiff,Nat.reduceAdd,↓reduceIte,Nat.reduceLeDiff,reduceCtorEq,Bool.not_false]
  simp
 | true =>
  by_cases c1 : n < 0
  ·simp only [GR,evK,binV,intOp,strOp,shOp,unV,Nat.reduceLT,Nat.reduceEqDiff,Nat.reduceAdd,↓reduceIte,Nat.reduceLeDiff,reduceCtorEq,Bool.not_true,c1]
   rw [if_neg (by omega)]
  by_cases c2 : n > 999999999999
  ·simp only [GR,evK,binV,intOp,strOp,shOp,unV,Nat.reduceLT,Nat.reduceEqDiff,Nat.reduceAdd,↓reduceIte,Nat.reduceLeDiff,reduceCtorEq,Bool.not_true,c1,c2]
   rw [if_neg (by omega)]
  have hl := hd (by omega) (by omega)
  have hs := name_len hn
  rw [if_pos ⟨rfl,by omega,by omega⟩]
  simp only [GR,evK,binV,intOp,strOp,shOp,unV,Nat.reduceLT,Nat.reduceEqDiff,Nat.reduceAdd,↓reduceIte,Nat.reduceLeDiff,reduceCtorEq,Bool.not_true,c1,c2,r47_1]
  refine XC_of (F.num57 n _ (by omega) (by omega) ht) ?_
  rintro _ h2 ⟨rfl,rfl⟩
  simp only [GR,evK,binV,intOp,strOp,shOp,unV,Nat.reduceLT,Nat.reduceEqDiff,Nat.reduceAdd,↓reduceIte,Nat.reduceLeDiff,reduceCtorEq]
  have loop : ∀ (d k : Nat) (ρ : Nat → V),12 - (itoa n).length - k = d → k ≤ 12 - (itoa n).length → ρ 0 = .str s → ρ 5 = .str (List.replicate k 48 ++ itoa n) →
    XL P E none 28 b47_4 [.b 0,.c (.seq (.region r47_5) (.ret))] ρ h2 (Fin [.t 4] fun v h' => v = .str (s ++ [46] ++ (List.replicate (12 - (itoa n).length) 48 ++ itoa n)) ∧ h' = h2) := by
   intro d
   induction d with
   | zero =>
    intro k ρ hdk hk q0 q5
    have hke : k = 12 - (itoa n).length := by omega
    subst hke
    have c3 : ¬ ((12 - (itoa n).length + (itoa n).length : Nat) : Int) < 12 := by omega
    have l1 : s.length + 1 ≤ 9223372036854775807 := by omega
    have l2 : s.length + 1 + (12 - (itoa n).length + (itoa n).length) ≤ 9223372036854775807 := by omega
    rw [u47_4]
    simp only [GR,evK,binV,intOp,strOp,shOp,unV,Nat.reduceLT,Nat.reduceEqDiff,Nat.reduceAdd,↓reduceIte,Nat.reduceLeDiff,reduceCtorEq,r47_2,r47_5,q0,q5,List.length_append,List.length_replicate,c3,l1,l2]
   | succ d ih =>
    intro k ρ hdk hk q0 q5
    have c3 : ((k + (itoa n).length : Nat) : Int) < 12 := by omega
    have l1 : 1 + (k + (itoa n).length) ≤ 9223372036854775807 := by omega
    rw [u47_4]
    simp only [GR,evK,binV,intOp,strOp,shOp,unV,Nat.reduceLT,Nat.reduceEqDiff,Nat.reduceAdd,↓reduceIte,Nat.reduceLeDiff,reduceCtorEq,r47_2,r47_3,q0,q5,List.length_append,List.length_replicate,c3,l1]
    refine ih (k + 1) _ (by omega) (by omega) ?_ ?_
    ·exact q0
    ·show V.str _ = _
     rw [List.replicate_succ]; rfl
  refine loop _ 0 _ rfl (Nat.zero_le _) ?_ ?_
  ·rfl
  ·rfl
theorem segref (F : Fw P E T) (D : Fd P E) {n : Nat} {h : H} (ht : T h) (hn : n ≤ 999999999999) : Sp P E (.func 47 [] []) [.str logN,.int .i64 (n : Int)] h fun v h' => v = .str (segN n) ∧ h' = h :=
 seg47 F D (s := logN) (n := (n : Int)) ht (by decide) fun h0 h1 => itoa_le h0 h1
theorem dval_acc : ∀ (l : List UInt8) (a : Nat),l.foldl (fun a c => a * 10 + (c.toNat - 48)) a = a * 10 ^ l.length + dval l
 | [],a => by simp [dval]
 | c :: l,a => by
  have h1 := dval_acc l (a * 10 + (c.toNat - 48))
  have h2 : dval (c :: l) = (0 * 10 + (c.toNat - 48)) * 10 ^ l.length + dval l := dval_acc l (0 * 10 + (c.toNat - 48))
  rw [List.foldl_cons,h1,h2,List.length_cons,Nat.pow_succ,Nat.add_mul,Nat.zero_mul,Nat.zero_add]
  have : a * 10 * 10 ^ l.length = a * (10 ^ l.length * 10) := by rw [Nat.mul_assoc,Nat.mul_comm 10]
  omega
theorem dval_cons (c : UInt8) (l : List UInt8) : dval (c :: l) = (c.toNat - 48) * 10 ^ l.length + dval l := by
 have := dval_acc l (0 * 10 + (c.toNat - 48))
 simpa [dval] using this
def dig (c : UInt8) : Prop := 48 ≤ c.toNat ∧ c.toNat ≤ 57
theorem dval_lt : ∀ (l : List UInt8),(∀ c ∈ l,dig c) → dval l < 10 ^ l.length
 | [],_ => by simp [dval]
 | c :: l,h => by
  have h1 := dval_lt l fun x hx => h x (List.mem_cons_of_mem _ hx)
  have hc := h c List.mem_cons_self
  rw [dval_cons,List.length_cons,Nat.pow_succ]
  have h2 : (c.toNat - 48) * 10 ^ l.length ≤ 9 * 10 ^ l.length := Nat.mul_le_mul_right _ (by have := hc.2; omega)
  omega
theorem less_dig : ∀ (x y : List UInt8),x.length = y.length → (∀ c ∈ x,dig c) → (∀ c ∈ y,dig c) → dval x < dval y → Op.bytesLess x y = true
 | [],[],_,_,_,h => by simp [dval] at h
 | [],_ :: _,h,_,_,_ => by simp at h
 | _ :: _,[],h,_,_,_ => by simp at h
 | a :: x,b :: y,hl,hx,hy,h => by
  have ha := hx a List.mem_cons_self
  have hb := hy b List.mem_cons_self
  have h1 := dval_lt x fun c hc => hx c (List.mem_cons_of_mem _ hc)
  have h2 := dval_lt y fun c hc => hy c (List.mem_cons_of_mem _ hc)
  have hl' : x.length = y.length := by simpa using hl
  rw [dval_cons,dval_cons,hl'] at h
  rw [hl'] at h1
  simp only [Op.bytesLess,Bool.or_eq_true,Bool.and_eq_true,decide_eq_true_eq,beq_iff_eq]
  rcases Nat.lt_trichotomy a.toNat b.toNat with hab | hab | hab
  ·exact .inl (UInt8.lt_iff_toNat_lt.2 hab)
  ·refine .inr ⟨UInt8.toNat_inj.1 hab,less_dig x y hl' (fun c hc => hx c (List.mem_cons_of_mem _ hc)) (fun c hc => hy c (List.mem_cons_of_mem _ hc)) ?_⟩
   rw [hab] at h; omega
  ·exfalso
   have : (b.toNat - 48 + 1) * 10 ^ y.length ≤ (a.toNat - 48) * 10 ^ y.length := Nat.mul_le_mul_right _ (by have := hb.1; omega)
   rw [Nat.add_mul] at this
   omega
theorem less_pre (p x y : List UInt8) : Op.bytesLess (p ++ x) (p ++ y) = Op.bytesLess x y := by
 induction p with
 | nil => rfl
 | cons a p ih =>
  have : ¬ a < a := UInt8.lt_irrefl a
  simp [Op.bytesLess,ih,this]
theorem less_self : ∀ x : List UInt8,Op.bytesLess x x = false
 | [] => rfl
 | a :: x => by
  have : ¬ a < a := UInt8.lt_irrefl a
  simp [Op.bytesLess,less_self x,this]
theorem dig_dec : ∀ u, ∀ c ∈ decDigits u,dig c := by
 intro u
 induction u using Nat.strongRecOn with
 | _ u ih =>
  rw [decDigits]
  split
  ·rename_i h
   intro c hc
   rw [List.mem_singleton] at hc
   subst hc
   have : (UInt8.ofNat (48 + u)).toNat = 48 + u := by rw [UInt8.toNat_ofNat']; omega
   unfold dig; omega
  ·rename_i h
   intro c hc
   rcases List.mem_append.1 hc with hc | hc
   ·exact ih _ (by omega) c hc
   ·rw [List.mem_singleton] at hc
    subst hc
    have : (UInt8.ofNat (48 + u % 10)).toNat = 48 + u % 10 := by rw [UInt8.toNat_ofNat']; omega
    unfold dig; omega
def digs (n : Nat) : List UInt8 := List.replicate (12 - (decDigits n).length) 48 ++ decDigits n
theorem digs_len {n : Nat} (h : n ≤ 999999999999) : (digs n).length = 12 := by
 have : (decDigits n).length ≤ 12 := dec_le 11 n (by omega)
 simp only [digs,List.length_append,List.length_replicate]; omega
theorem digs_dig (n : Nat) : ∀ c ∈ digs n,dig c := by
 intro c hc
 rcases List.mem_append.1 hc with hc | hc
 ·rw [List.eq_of_mem_replicate hc]; unfold dig; decide
 ·exact dig_dec n c hc
theorem digs_val (n : Nat) : dval (digs n) = n := by unfold digs; rw [dval_zeros,dval_dec]
theorem segN_digs {n : Nat} (h : n ≤ 999999999999) : segN n = [108,111,103,46] ++ digs n := segN_eq h
theorem segN_less {n m : Nat} (h : n < m) (hm : m ≤ 999999999999) : Op.bytesLess (segN n) (segN m) = true := by
 rw [segN_digs (by omega),segN_digs hm,less_pre]
 exact less_dig _ _ (by rw [digs_len (by omega),digs_len hm]) (digs_dig n) (digs_dig m) (by rw [digs_val,digs_val]; exact h)
end Go.AM.Wc
namespace Go.AM
def BK (B : List Nat) (h h' : H) : Prop := ∀ i ∈ B,h'.get i = h.get i
theorem BK.refl (B : List Nat) (h : H) : BK B h h := fun _ _ => rfl
theorem BK.trans {B : List Nat} {h h1 h2 : H} (a : BK B h h1) (b : BK B h1 h2) : BK B h h2 := fun i hi => (b i hi).trans (a i hi)
section
variable (P : Program) (E : Env) (ro : Option Nat) (L : Nat) (S : List Fr) (Q : Po) (lo : List Nat) (h0 : H)
def RdB (P : Program) (lo : List Nat) (T : List V) (h : H) (k : AM.K) (v : V) : Prop := ∀ h',BK lo h h' → evK P T h' k = some (.rd v)
def XDB : List Bool → List O → (Nat → V) → H → Prop
 | f :: fs,o :: r,ρ,h =>
  if wantV (toL L ρ) o.guard then
   if o.op.still then match evK P (toL L ρ) (if f then h else h0) o.op with
    | some (.pur v) => XDB fs r (upo ρ o.dst v) h
    | some (.rd v) => v.nj = true ∧ RdB P lo (toL L ρ) (if f then h else h0) o.op v ∧ XDB fs r (upo ρ o.dst v) h
    | _ => False
   else match evK P (toL L ρ) h o.op with
    | some (.eff v h') => BK lo h h' ∧ XDB fs r (upo ρ o.dst v) h'
    | some (.call g args) => ∃ v h',AP P E g args h = some (v,h') ∧ BK lo h h' ∧ XDB fs r (upo ρ o.dst v) h'
    | _ => False
  else XDB fs r (upo ρ o.dst undefV) h
 | _,_,ρ,h => X P E ro L S ρ h Q
end
variable {P : Program} {E : Env} {ro : Option Nat} {L : Nat} {S : List Fr} {Q : Po} {lo : List Nat} {h0 : H}
def EntsB (P : Program) (lo : List Nat) (h0 : H) : List Bool → List O → List Ent → Prop
 | f :: fs,o :: r,e :: es => (e.act = true → BK lo e.h e.h') ∧ (e.rd = true → e.v.nj = true ∧ RdB P lo e.T (if f then e.h else h0) o.op e.v) ∧ EntsB P lo h0 fs r es
 | _,_,_ => True
theorem XDB_ents : ∀ (fs : List Bool) (ops : List O) (ρ : Nat → V) (h : H),fs.length = ops.length → BK lo h0 h → XDB P E ro L S Q lo h0 fs ops ρ h →
  ∃ es T' h',evDr P (AP P E) ops (toL L ρ) h = some (es,T',h') ∧ EntsB P lo h0 fs ops es ∧ XX P E ro S .nrm T' h' Q
 | [],[],ρ,h,_,_,hx => ⟨[],toL L ρ,h,rfl,trivial,by simpa only [XDB,X] using hx⟩
 | [],_ :: _,_,_,hl,_,_ => by simp at hl
 | _ :: _,[],_,_,hl,_,_ => by simp at hl
 | f :: fs,o :: r,ρ,h,hl,hk,hx => by
  have one : ∀ (ent : Ent) (v : V) (h1 : H),(ent.act = true → BK lo ent.h ent.h') → (ent.rd = true → ent.v.nj = true ∧ RdB P lo ent.T (if f then ent.h else h0) o.op ent.v) → BK lo h0 h1 → XDB P E ro L S Q lo h0 fs r (upo ρ o.dst v) h1 →
    ∃ es T' h',((evDr P (AP P E) r (putV (toL L ρ) o.dst v) h1).map fun x => (ent :: x.1,x.2)) = some (es,T',h') ∧ EntsB P lo h0 (f :: fs) (o :: r) es ∧ XX P E ro S .nrm T' h' Q := by
   intro ent v h1 a1 a2 a3 a4
   obtain ⟨es,T',h',e1,e2,e3⟩ := XDB_ents fs r _ h1 (by simpa using hl) a3 a4
   exact ⟨ent :: es,T',h',by rw [putV_upo,e1]; rfl,⟨a1,a2,e2⟩,e3⟩
  unfold XDB at hx
  simp only [evDr]
  split at hx
  ·rename_i hw
   simp only [hw,if_true]
   split at hx
   ·split at hx
    ·rename_i v he
     have he' : evK P (toL L ρ) h o.op = some (.pur v) := by
      cases f with
      | true => simpa using he
      | false => simp only [Bool.false_eq_true,if_false] at he; exact evK_pur he
     rw [he']
     exact one ⟨toL L ρ,h,h,v,false,false⟩ v h (by simp) (by simp) hk hx
    ·rename_i v he
     have he' : evK P (toL L ρ) h o.op = some (.rd v) := by
      cases f with
      | true => simpa using he
      | false => exact hx.2.1 h hk
     rw [he']
     exact one ⟨toL L ρ,h,h,v,false,true⟩ v h (by simp) (fun _ => ⟨hx.1,hx.2.1⟩) hk hx.2.2
    ·exact hx.elim
   ·split at hx
    ·rename_i v h' he
     rw [he]
     exact one ⟨toL L ρ,h,h',v,true,false⟩ v h' (fun _ => hx.1) (by simp) (hk.trans hx.1) hx.2
    ·rename_i g args he
     rw [he]
     obtain ⟨v,h',ha,hk2,hx⟩ := hx
     simp only [ha]
     exact one ⟨toL L ρ,h,h',v,true,false⟩ v h' (fun _ => hk2) (by simp) (hk.trans hk2) hx
    ·exact hx.elim
  ·rename_i hw
   simp only [hw]
   exact one ⟨toL L ρ,h,h,undefV,false,false⟩ undefV h (by simp) (by simp) hk hx
theorem EntsB_get : ∀ (fs : List Bool) (ops : List O) (es : List Ent),EntsB P lo h0 fs ops es → ∀ (i : Nat) f o e,fs[i]? = some f → ops[i]? = some o → es[i]? = some e →
  (e.act = true → BK lo e.h e.h') ∧ (e.rd = true → e.v.nj = true ∧ RdB P lo e.T (if f then e.h else h0) o.op e.v)
 | [],_,_,_,_,_,_,_,h,_,_ => by simp at h
 | _ :: _,[],_,_,_,_,_,_,_,h,_ => by simp at h
 | _ :: _,_ :: _,[],_,_,_,_,_,_,_,h => by simp at h
 | f :: fs,o :: ops,e :: es,hq,i,f',o',e',h1,h2,h3 => by
  cases i with
  | zero => simp at h1 h2 h3; subst h1 h2 h3; exact ⟨hq.1,hq.2.1⟩
  | succ i => exact EntsB_get fs ops es hq.2.2 i f' o' e' (by simpa using h1) (by simpa using h2) (by simpa using h3)
theorem readsB {o : O} {e : Ent} {i : Nat} (hpre : (∀ h,BK lo h0 h → sameAt P o e h = true) ∨ ((∀ h,BK lo e.h h → sameAt P o e h = true) ∧ True)) (hna : e.act = false) : ∀ (ops : List O) (es : List Ent) (j : Nat) (h : H),
  (∀ e0,es[0]? = some e0 → e0.h = h) → (∀ (k : Nat) a b,es[k]? = some a → es[k + 1]? = some b → b.h = a.h') → (∀ (k : Nat) a,es[k]? = some a → a.act = false → a.h' = a.h) → (∀ (k : Nat) a,es[k]? = some a → a.act = true → BK lo a.h a.h') → es.length = ops.length →
  BK lo h0 h → (j ≤ i → es[i - j]? = some e) → (i < j → BK lo e.h h) →
  ((∀ h,BK lo h0 h → sameAt P o e h = true) ∨ ∀ (k : Nat) a,es[k]? = some a → a.act = true → j + k < i → o.pre.testBit (j + k) = true) →
  readsOk P o e i h (actsOf ops es j) = true
 | [],[],j,h,_,_,_,_,_,hk,h4,h5,_ => by
  have hji : i < j := by
   rcases Nat.lt_or_ge i j with h | h
   ·exact h
   ·have := h4 h; simp at this
  simp only [actsOf,readsOk]
  rcases hpre with hp | hp
  ·exact hp h hk
  ·exact hp.1 h (h5 hji)
 | [],_ :: _,_,_,_,_,_,_,hl,_,_,_,_ => by simp at hl
 | _ :: _,[],_,_,_,_,_,_,hl,_,_,_,_ => by simp at hl
 | o1 :: ops,e1 :: es,j,h,h1,h2,h3,h3',hl,hk,h4,h5,h6 => by
  have e1h := h1 e1 rfl
  have nxt : ∀ h',e1.h' = h' → BK lo h0 h' → (i < j + 1 → BK lo e.h h') → readsOk P o e i h' (actsOf ops es (j + 1)) = true := by
   intro h' hh hk' hlast
   refine readsB hpre hna ops es (j + 1) h' (fun e0 he0 => ?_) (fun k a b ha hb => h2 (k + 1) a b (by simpa using ha) (by simpa using hb)) (fun k a ha => h3 (k + 1) a (by simpa using ha)) (fun k a ha => h3' (k + 1) a (by simpa using ha)) (by simpa using hl) hk'
    (fun hj => ?_) hlast ?_
   ·rw [← hh]; exact h2 0 e1 e0 rfl (by simpa using he0)
   ·have := h4 (by omega)
    rw [show i - j = (i - (j + 1)) + 1 by omega] at this
    simpa using this
   ·rcases h6 with h6 | h6
    ·exact .inl h6
    ·refine .inr fun k a ha hact hlt => ?_
     have := h6 (k + 1) a (by simpa using ha) hact (by omega)
     rwa [show j + (k + 1) = j + 1 + k by omega] at this
  have heq : ∀ {x},j = i → e1 = x → x = e → True := fun _ _ _ => trivial
  unfold actsOf
  by_cases ha : e1.act = true
  ·simp only [ha,if_true,readsOk]
   have hkk : BK lo h e1.h' := by rw [← e1h]; exact h3' 0 e1 rfl ha
   have hne : j ≠ i := by
    intro hji
    have := h4 (by omega)
    rw [hji,Nat.sub_self] at this
    simp at this; subst this
    rw [hna] at ha; cases ha
   rw [nxt e1.h' rfl (hk.trans hkk) (fun hh => (h5 (by omega)).trans hkk)]
   simp only [Bool.or_true,Bool.and_true,Bool.or_eq_true]
   rcases h6 with h6 | h6
   ·exact .inr (h6 h hk)
   ·rcases Nat.lt_or_ge j i with hlt | hge
    ·exact .inl (.inl (by simpa using h6 0 e1 rfl ha (by omega)))
    ·rcases hpre with hp | hp
     ·exact .inr (hp h hk)
     ·exact .inr (hp.1 h (h5 (by omega)))
  ·have ha' : e1.act = false := by simpa using ha
   simp only [ha',Bool.false_eq_true,if_false]
   have hh := h3 0 e1 rfl ha'
   refine nxt h (hh.trans e1h) hk fun hji => ?_
   rcases Nat.lt_or_ge i j with hlt | hge
   ·exact h5 hlt
   ·have hij : i = j := by omega
    have := h4 hge
    rw [hij,Nat.sub_self] at this
    simp at this; subst this
    rw [e1h]; exact BK.refl _ _
theorem XD_kb {ops : List O} {fs : List Bool} {ρ : Nat → V} (hf : flagsFrom [] ops 0 = fs) (hc : (chained fs ops && fstat ops) = true) (hx : XDB P E ro L S Q lo h0 fs ops ρ h0) : XD P E ro L ops S ρ h0 Q := by
 have hlen : fs.length = ops.length := by
  rw [← hf]
  have : ∀ (ops : List O) (acts : List Nat) (j : Nat),(flagsFrom acts ops j).length = ops.length := by
   intro ops
   induction ops with
   | nil => intro _ _; rfl
   | cons o r ih => intro _ _; simp [flagsFrom,ih]
  exact this _ _ _
 obtain ⟨es,T',h',he,hq,hX⟩ := XDB_ents fs ops ρ h0 hlen (BK.refl _ _) hx
 obtain ⟨e1,e2,e3,e4,e5⟩ := evDr_ents ops (toL L ρ) h0 es T' h' he
 refine ⟨T',h',?_,hX⟩
 have fget : ∀ (i : Nat) o,ops[i]? = some o → ∃ f,fs[i]? = some f ∧ (f = true → ∀ (k : Nat) o',k < i → ops[k]? = some o' → o'.op.still = false → o.pre.testBit k = true) := fun i o hi => by
  obtain ⟨f,h1,h2⟩ := flags_get ops [] 0 i o hi
  rw [hf] at h1
  refine ⟨f,h1,fun hft k o' hk ho' hs => ?_⟩
  have := (h2 hft).2 k o' hk ho' hs
  simpa using this
 have hkp : ∀ (k : Nat) a,es[k]? = some a → a.act = true → BK lo a.h a.h' := fun k a ha hact => by
  have hkl : k < ops.length := by rw [← e1]; exact (List.getElem?_eq_some_iff.1 ha).1
  obtain ⟨f,hf1,_⟩ := fget k ops[k] (List.getElem?_eq_getElem hkl)
  exact (EntsB_get fs ops es hq k f ops[k] a hf1 (List.getElem?_eq_getElem hkl) ha).1 hact
 rw [Bool.and_eq_true] at hc
 obtain ⟨hc,hfs⟩ := hc
 have hfl : floatOk (actsF ops es 0) ops = true := fstat_ok hfs fun k o e a1 a2 a3 => (e2 k e o a2 a1).1 a3
 have hch : chainF (actsF ops es 0) = true := chain_ok ops es 0 fun k l o o' a b a1 a2 a3 a4 a5 a6 a7 => by
  have hs := (e2 k a o a3 a1).1 a5
  have hs' := (e2 l b o' a4 a2).1 a6
  obtain ⟨f,hf1,hf2⟩ := fget l o' a2
  rw [Nat.zero_add]
  exact (chained_get fs ops hc l f o' hf1 a2 hs').elim (fun hft => .inr (hf2 hft k o a7 a1 hs)) .inl
 have hheap : ∀ (k : Nat) a,es[k]? = some a → BK lo h0 a.h := by
  intro k
  induction k with
  | zero => intro a ha; rw [e3 a ha]; exact BK.refl _ _
  | succ k ih =>
   intro a ha
   have hkl : k < es.length := by have := (List.getElem?_eq_some_iff.1 ha).1; omega
   have hb := ih es[k] (List.getElem?_eq_getElem hkl)
   rw [e4 k es[k] a (List.getElem?_eq_getElem hkl) ha]
   cases hact : es[k].act with
   | true => exact hb.trans (hkp k es[k] (List.getElem?_eq_getElem hkl) hact)
   | false => rw [e5 k es[k] (List.getElem?_eq_getElem hkl) hact]; exact hb
 have hrd : rdsOk P (actsOf ops es 0) h0 ops es 0 = true := rds_ok ops es 0 fun k o e a1 a2 a3 => by
  rw [Nat.zero_add]
  obtain ⟨q1,q2⟩ := (e2 k e o a2 a1).2 a3
  obtain ⟨f,hf1,hf2⟩ := fget k o a1
  obtain ⟨hnj,hor⟩ := (EntsB_get fs ops es hq k f o e hf1 a1 a2).2 a3
  have hsame : ∀ hh,evK P e.T hh o.op = some (.rd e.v) → sameAt P o e hh = true := fun hh hv => by
   unfold sameAt; rw [hv]; exact V.beq_refl _ hnj
  cases f with
  | true =>
   simp only [if_true] at hor
   refine readsB (lo := lo) (h0 := h0) (.inr ⟨fun hh hk => hsame hh (hor hh hk),trivial⟩) q2 ops es 0 h0 e3 e4 e5 hkp e1 (BK.refl _ _) (fun _ => by simpa using a2) (fun hh => by omega) (.inr fun l a b1 b3 b4 => ?_)
   rw [Nat.zero_add] at b4 ⊢
   have hll : l < ops.length := by rw [← e1]; exact (List.getElem?_eq_some_iff.1 b1).1
   exact hf2 rfl l ops[l] b4 (List.getElem?_eq_getElem hll) ((e2 l a ops[l] b1 (List.getElem?_eq_getElem hll)).1 b3)
  | false =>
   simp only [Bool.false_eq_true,if_false] at hor
   have hall : ∀ hh,BK lo h0 hh → sameAt P o e hh = true := fun hh hk => hsame hh (hor hh hk)
   exact readsB (lo := lo) (.inl hall) q2 ops es 0 h0 e3 e4 e5 hkp e1 (BK.refl _ _) (fun _ => by simpa using a2) (fun hh => by omega) (.inl hall)
 unfold evDraw
 rw [he]
 simp only [hch,hrd,hfl,Bool.and_self,Bool.or_true,if_true]
section
variable {ρ : Nat → V} {h : H} {f : Bool} {fs : List Bool} {r : List O}
def XSB (P : Program) (E : Env) (ro : Option Nat) (L : Nat) (S : List Fr) (Q : Po) (lo : List Nat) (h0 : H) (fs : List Bool) (dst : Option Nat) (r : List O) (ρ : Nat → V) (h : H) (hr : H) (k : AM.K) : Option Res → Prop
 | some (.pur v) => XDB P E ro L S Q lo h0 fs r (upo ρ dst v) h
 | some (.rd v) => v.nj = true ∧ RdB P lo (toL L ρ) hr k v ∧ XDB P E ro L S Q lo h0 fs r (upo ρ dst v) h
 | _ => False
def XCB (P : Program) (E : Env) (ro : Option Nat) (L : Nat) (S : List Fr) (Q : Po) (lo : List Nat) (h0 : H) (fs : List Bool) (g : V) (args : List V) (dst : Option Nat) (r : List O) (ρ : Nat → V) (h : H) : Prop :=
 ∃ v h',AP P E g args h = some (v,h') ∧ BK lo h h' ∧ XDB P E ro L S Q lo h0 fs r (upo ρ dst v) h'
def XAB (P : Program) (E : Env) (ro : Option Nat) (L : Nat) (S : List Fr) (Q : Po) (lo : List Nat) (h0 : H) (fs : List Bool) (dst : Option Nat) (r : List O) (ρ : Nat → V) (h : H) : Option Res → Prop
 | some (.eff v h') => BK lo h h' ∧ XDB P E ro L S Q lo h0 fs r (upo ρ dst v) h'
 | some (.call g args) => XCB P E ro L S Q lo h0 fs g args dst r ρ h
 | _ => False
theorem XDB_nil : XDB P E ro L S Q lo h0 [] [] ρ h = X P E ro L S ρ h Q := by simp only [XDB]
theorem XDB_cons (dst : Option Nat) (k : AM.K) (g : Option (Nat × Bool)) (pre : Nat) (ns : List Nat) :
  XDB P E ro L S Q lo h0 (f :: fs) (⟨dst,k,g,pre,ns⟩ :: r) ρ h = if wantV (toL L ρ) g then (if k.still then XSB P E ro L S Q lo h0 fs dst r ρ h (if f then h else h0) k (evK P (toL L ρ) (if f then h else h0) k) else XAB P E ro L S Q lo h0 fs dst r ρ h (evK P (toL L ρ) h k)) else XDB P E ro L S Q lo h0 fs r (upo ρ dst undefV) h := by
 simp only [XDB]
 congr 1
theorem XSB_pur (dst : Option Nat) (hr : H) (k : AM.K) (v : V) : XSB P E ro L S Q lo h0 fs dst r ρ h hr k (some (.pur v)) = XDB P E ro L S Q lo h0 fs r (upo ρ dst v) h := rfl
theorem XSB_rd (dst : Option Nat) (hr : H) (k : AM.K) (v : V) : XSB P E ro L S Q lo h0 fs dst r ρ h hr k (some (.rd v)) = (v.nj = true ∧ RdB P lo (toL L ρ) hr k v ∧ XDB P E ro L S Q lo h0 fs r (upo ρ dst v) h) := rfl
theorem XAB_eff (dst : Option Nat) (v : V) (h' : H) : XAB P E ro L S Q lo h0 fs dst r ρ h (some (.eff v h')) = (BK lo h h' ∧ XDB P E ro L S Q lo h0 fs r (upo ρ dst v) h') := rfl
theorem XAB_call (dst : Option Nat) (g : V) (args : List V) : XAB P E ro L S Q lo h0 fs dst r ρ h (some (.call g args)) = XCB P E ro L S Q lo h0 fs g args dst r ρ h := rfl
theorem XCB_of {g : V} {args : List V} {R : V → H → Prop} (s : Sp P E g args h R) {dst : Option Nat} (hk : ∀ v h',R v h' → BK lo h h' ∧ XDB P E ro L S Q lo h0 fs r (upo ρ dst v) h') : XCB P E ro L S Q lo h0 fs g args dst r ρ h := by
 obtain ⟨v,h',e,q⟩ := s
 exact ⟨v,h',e,(hk v h' q).1,(hk v h' q).2⟩
theorem RdB.load1 {T : List V} {a : A} {i o : Nat} {vs : List V} {ty : Nat} {op ro : Bool} {fz : Option Nat} {v : V} (ha : a.ev T = some (.ptr (some (i,o)))) (hi : i ∈ lo) (hg : h.get i = some (.cells vs ty op ro fz)) (hv : vs[o]? = some v) : RdB P lo T h (.load1 a) v := by
 intro h' hk
 simp only [evK,ha,hk i hi,hg,hv,Option.map_some]
end
end Go.AM
namespace Go.AM
theorem readsMB {P : Program} {D : List Nat} {h0 : H} {o : O} {e : Ent} {i : Nat} (hpre : (∀ h,BK D h0 h → sameAt P o e h = true) ∨ (∀ h,BK D e.h h → sameAt P o e h = true)) (hna : e.act = false) : ∀ (ops : List O) (es : List Ent) (j : Nat) (h : H),
  (∀ e0,es[0]? = some e0 → e0.h = h) → (∀ (k : Nat) a b,es[k]? = some a → es[k + 1]? = some b → b.h = a.h') → (∀ (k : Nat) a,es[k]? = some a → a.act = false → a.h' = a.h) →
  (∀ (k : Nat) a q,es[k]? = some a → ops[k]? = some q → a.act = true → BK D a.h a.h' ∨ q.pre.testBit i = true) → es.length = ops.length →
  BK D h0 h → (j ≤ i → es[i - j]? = some e) → (i < j → BK D e.h h) →
  ((∀ h,BK D h0 h → sameAt P o e h = true) ∨ ∀ (k : Nat) a,es[k]? = some a → a.act = true → j + k < i → o.pre.testBit (j + k) = true) →
  readsOk P o e i h (actsOf ops es j) = true
 | [],[],j,h,_,_,_,_,_,hk,h4,h5,_ => by
  have hji : i < j := by
   rcases Nat.lt_or_ge i j with h | h
   ·exact h
   ·have := h4 h; simp at this
  simp only [actsOf,readsOk]
  rcases hpre with hp | hp
  ·exact hp h hk
  ·exact hp h (h5 hji)
 | [],_ :: _,_,_,_,_,_,_,hl,_,_,_,_ => by simp at hl
 | _ :: _,[],_,_,_,_,_,_,hl,_,_,_,_ => by simp at hl
 | o1 :: ops,e1 :: es,j,h,h1,h2,h3,h3',hl,hk,h4,h5,h6 => by
  have e1h := h1 e1 rfl
  have nxt : ∀ h',e1.h' = h' → BK D h0 h' → (i < j + 1 → BK D e.h h') → readsOk P o e i h' (actsOf ops es (j + 1)) = true := by
   intro h' hh hk' hlast
   refine readsMB hpre hna ops es (j + 1) h' (fun e0 he0 => ?_) (fun k a b ha hb => h2 (k + 1) a b (by simpa using ha) (by simpa using hb)) (fun k a ha => h3 (k + 1) a (by simpa using ha)) (fun k a q ha hq => h3' (k + 1) a q (by simpa using ha) (by simpa using hq)) (by simpa using hl) hk'
    (fun hj => ?_) hlast ?_
   ·rw [← hh]; exact h2 0 e1 e0 rfl (by simpa using he0)
   ·have := h4 (by omega)
    rw [show i - j = (i - (j + 1)) + 1 by omega] at this
    simpa using this
   ·rcases h6 with h6 | h6
    ·exact .inl h6
    ·refine .inr fun k a ha hact hlt => ?_
     have := h6 (k + 1) a (by simpa using ha) hact (by omega)
     rwa [show j + (k + 1) = j + 1 + k by omega] at this
  unfold actsOf
  by_cases ha : e1.act = true
  ·simp only [ha,if_true,readsOk]
   have hne : j ≠ i := by
    intro hji
    have := h4 (by omega)
    rw [hji,Nat.sub_self] at this
    simp at this; subst this
    rw [hna] at ha; cases ha
   have hc : ((o.pre.testBit j || (actsOf ops es (j + 1)).any fun b => o.pre.testBit b.1) || sameAt P o e h) = true := by
    simp only [Bool.or_eq_true]
    rcases h6 with h6 | h6
    ·exact .inr (h6 h hk)
    ·rcases Nat.lt_or_ge j i with hlt | hge
     ·exact .inl (.inl (by simpa using h6 0 e1 rfl ha (by omega)))
     ·rcases hpre with hp | hp
      ·exact .inr (hp h hk)
      ·exact .inr (hp h (h5 (by omega)))
   rw [hc,Bool.true_and,Bool.or_eq_true]
   rcases h3' 0 e1 o1 rfl rfl ha with hkk | hpin
   ·rw [e1h] at hkk
    exact .inr (nxt e1.h' rfl (hk.trans hkk) (fun hh => (h5 (by omega)).trans hkk))
   ·exact .inl hpin
  ·have ha' : e1.act = false := by simpa using ha
   simp only [ha',Bool.false_eq_true,if_false]
   have hh := h3 0 e1 rfl ha'
   refine nxt h (hh.trans e1h) hk fun hji => ?_
   rcases Nat.lt_or_ge i j with hlt | hge
   ·exact h5 hlt
   ·have hij : i = j := by omega
    have := h4 hge
    rw [hij,Nat.sub_self] at this
    simp at this; subst this
    rw [e1h]; exact BK.refl _ _
variable {P : Program} {E : Env} {ro : Option Nat} {L : Nat} {S : List Fr} {Q : Po} {D : List Nat} {h0 : H}
theorem XD_lastB {A B : List O} {fs : List Bool} {ρ : Nat → V} (hf : flagsFrom [] A 0 = fs) (hc : (chained (flagsFrom [] (A ++ B) 0) (A ++ B) && fstat (A ++ B) && pinB A B) = true) (hx : XDB P E ro L (.c (.region B) :: S) Q D h0 fs A ρ h0) : XD P E ro L (A ++ B) S ρ h0 Q := by
 have flen : ∀ (ops : List O) (acts : List Nat) (j : Nat),(flagsFrom acts ops j).length = ops.length := by
  intro ops
  induction ops with
  | nil => intro _ _; rfl
  | cons o r ih => intro _ _; simp [flagsFrom,ih]
 have hlen : fs.length = A.length := by rw [← hf]; exact flen _ _ _
 obtain ⟨esA,T1,h1,heA,hq,hX⟩ := XDB_ents fs A ρ h0 hlen (BK.refl _ _) hx
 simp only [XX,EK,EC_region] at hX
 obtain ⟨ex',T3,h3,hX1,hX2⟩ := hX
 cases hB : evOs P (AP P E) B T1 h1 with
 | none => rw [hB] at hX1; simp at hX1
 | some r =>
 obtain ⟨T2,h2⟩ := r
 rw [hB] at hX1
 simp only [Option.map_some] at hX1
 obtain ⟨esB,heB⟩ := evDr_of B T1 h1 T2 h2 hB
 have he := evDr_append A B _ _ esA T1 h1 esB T2 h2 heA heB
 refine ⟨T2,h2,?_,ex',T3,h3,by simpa using hX1,hX2⟩
 obtain ⟨a1,a2,a3,a4,a5⟩ := evDr_ents A (toL L ρ) h0 esA T1 h1 heA
 obtain ⟨b1,b2,b3,b4,b5⟩ := evDr_ents B T1 h1 esB T2 h2 heB
 obtain ⟨e1,e2,e3,e4,e5⟩ := evDr_ents (A ++ B) (toL L ρ) h0 (esA ++ esB) T2 h2 he
 rw [Bool.and_eq_true,Bool.and_eq_true] at hc
 obtain ⟨⟨hc,hfs⟩,hpin⟩ := hc
 have fget : ∀ (i : Nat) o,(A ++ B)[i]? = some o → ∃ f,(flagsFrom [] (A ++ B) 0)[i]? = some f ∧ (f = true → ∀ (k : Nat) o',k < i → (A ++ B)[k]? = some o' → o'.op.still = false → o.pre.testBit k = true) := fun i o hi => by
  obtain ⟨f,h1,h2⟩ := flags_get (A ++ B) [] 0 i o hi
  refine ⟨f,h1,fun hft k o' hk ho' hs => ?_⟩
  have := (h2 hft).2 k o' hk ho' hs
  simpa using this
 have fgetA : ∀ (i : Nat) o,A[i]? = some o → ∃ f,fs[i]? = some f ∧ (f = true → ∀ (k : Nat) o',k < i → A[k]? = some o' → o'.op.still = false → o.pre.testBit k = true) := fun i o hi => by
  obtain ⟨f,h1,h2⟩ := flags_get A [] 0 i o hi
  rw [hf] at h1
  refine ⟨f,h1,fun hft k o' hk ho' hs => ?_⟩
  have := (h2 hft).2 k o' hk ho' hs
  simpa using this
 have hfl : floatOk (actsF (A ++ B) (esA ++ esB) 0) (A ++ B) = true := fstat_ok hfs fun k o e a1 a2 a3 => (e2 k e o a2 a1).1 a3
 have hch : chainF (actsF (A ++ B) (esA ++ esB) 0) = true := chain_ok (A ++ B) (esA ++ esB) 0 fun k l o o' a b a1 a2 a3 a4 a5 a6 a7 => by
  have hs := (e2 k a o a3 a1).1 a5
  have hs' := (e2 l b o' a4 a2).1 a6
  obtain ⟨f,hf1,hf2⟩ := fget l o' a2
  rw [Nat.zero_add]
  exact (chained_get _ (A ++ B) hc l f o' hf1 a2 hs').elim (fun hft => .inr (hf2 hft k o a7 a1 hs)) .inl
 have hrd : rdsOk P (actsOf (A ++ B) (esA ++ esB) 0) h0 (A ++ B) (esA ++ esB) 0 = true := rds_ok (A ++ B) (esA ++ esB) 0 fun k o e q1 q2 q3 => by
  rw [Nat.zero_add]
  obtain ⟨w1,w2⟩ := (e2 k e o q2 q1).2 q3
  have hns := sure_rd w1
  rcases Nat.lt_or_ge k A.length with hkA | hkB
  rotate_left
  ·exfalso
   have hb : B[k - A.length]? = some o := by rw [List.getElem?_append_right hkB] at q1; exact q1
   have hmem := List.mem_of_getElem? hb
   have := List.all_eq_true.1 hpin o hmem
   rw [hns] at this
   simp at this
  have q1A : A[k]? = some o := by rw [List.getElem?_append_left hkA] at q1; exact q1
  have q2A : esA[k]? = some e := by rw [List.getElem?_append_left (by omega)] at q2; exact q2
  obtain ⟨f,hf1,hf2⟩ := fgetA k o q1A
  obtain ⟨hnj,hor⟩ := (EntsB_get fs A esA hq k f o e hf1 q1A q2A).2 q3
  have hsame : ∀ hh,evK P e.T hh o.op = some (.rd e.v) → sameAt P o e hh = true := fun hh hv => by
   unfold sameAt; rw [hv]; exact V.beq_refl _ hnj
  have hacts : ∀ (l : Nat) a q,(esA ++ esB)[l]? = some a → (A ++ B)[l]? = some q → a.act = true → BK D a.h a.h' ∨ q.pre.testBit k = true := fun l a q c1 c2 c3 => by
   rcases Nat.lt_or_ge l A.length with hlA | hlB
   ·rw [List.getElem?_append_left (by omega)] at c1
    rw [List.getElem?_append_left hlA] at c2
    obtain ⟨f',hf1',_⟩ := fgetA l q c2
    exact .inl ((EntsB_get fs A esA hq l f' q a hf1' c2 c1).1 c3)
   ·rw [List.getElem?_append_right (by omega)] at c1
    rw [List.getElem?_append_right hlB] at c2
    rw [a1] at c1
    have hs := (b2 _ a q c1 c2).1 c3
    have hp := List.all_eq_true.1 hpin q (List.mem_of_getElem? c2)
    simp only [Bool.and_eq_true,hs,Bool.false_or] at hp
    have hz : (o,k) ∈ A.zipIdx := by
     rw [List.mem_zipIdx_iff_getElem?]; exact q1A
    have := List.all_eq_true.1 hp.2 _ hz
    simp only [hns,Bool.false_or] at this
    exact .inr this
  have hget : (esA ++ esB)[k - 0]? = some e := by simpa using q2
  cases f with
  | true =>
   simp only [if_true] at hor
   refine readsMB (D := D) (h0 := h0) (.inr fun hh hk => hsame hh (hor hh hk)) w2 (A ++ B) (esA ++ esB) 0 h0 e3 e4 e5 hacts e1 (BK.refl _ _) (fun _ => hget) (fun hh => by omega) (.inr fun l a b1 b3 b4 => ?_)
   rw [Nat.zero_add] at b4 ⊢
   have hll : l < A.length := by omega
   have b1' : esA[l]? = some a := by rw [List.getElem?_append_left (by omega)] at b1; exact b1
   exact hf2 rfl l A[l] b4 (List.getElem?_eq_getElem hll) ((a2 l a A[l] b1' (List.getElem?_eq_getElem hll)).1 b3)
  | false =>
   simp only [Bool.false_eq_true,if_false] at hor
   have hall : ∀ hh,BK D h0 hh → sameAt P o e hh = true := fun hh hk => hsame hh (hor hh hk)
   exact readsMB (D := D) (.inl hall) w2 (A ++ B) (esA ++ esB) 0 h0 e3 e4 e5 hacts e1 (BK.refl _ _) (fun _ => hget) (fun hh => by omega) (.inl hall)
 unfold evDraw
 rw [he]
 simp only [hch,hrd,hfl,Bool.and_self,Bool.or_true,if_true]
end Go.AM
namespace Go.AM.We
variable {P : Program} {E : Env} {ro : Option Nat} {L : Nat} {K : List Fr} {ρ : Nat → V} {h : H} {Q : Po}
open Go.AM
def r16_10a : List O := [om 75 0 0,⟨some 76,.nilck (.t 75),none,1,[76,75]⟩,oa 77 0 76 3,ol 78 77 7,om 79 0 0,⟨some 80,.nilck (.t 79),none,16,[80,79]⟩,oa 81 1 80 48,ol 82 81 112,om 83 0 0,⟨some 84,.nilck (.t 83),none,256,[84,83]⟩,oa 85 2 84 768,ol 86 85 1792,om 87 7 0,oi 88 4 86 87 7936,oa 89 0 88 16128,ol 90 89 32512,⟨some 91,.call (.k (.func 47 [] [])) [(.t 82),(.t 90)],none,65520,[91,82,90]⟩]
def r16_10b : List O := [⟨some 92,.call (.k (.func 46 [] [])) [(.t 78),(.t 91)],none,131071,[92,78,91]⟩,om 10 92 262143]
theorem l16_10 (hx : XDQ P E ro L (.c (.region r16_10b) :: K) Q h [true,true,true,true,true,true,true,true,true,true,true,true,true,true,true,true,true] r16_10a ρ h) : XD P E ro L r16_10 K ρ h Q := XD_last (A := r16_10a) (B := r16_10b) rfl rfl hx
def r16_16a : List O := [om 114 0 0,⟨some 115,.nilck (.t 114),none,1,[115,114]⟩,oa 116 0 115 3,ol 117 116 7,om 118 0 0,⟨some 119,.nilck (.t 118),none,16,[119,118]⟩,oa 120 1 119 48,ol 121 120 112,om 122 9 0,⟨some 123,.call (.k (.func 47 [] [])) [(.t 121),(.t 122)],none,496,[123,121,122]⟩,om 124 11 0]
def r16_16b : List O := [⟨some 125,.call (.k (.func 49 [] [])) [(.t 117),(.t 123),(.t 124)],none,2047,[125,117,123,124]⟩,om 13 125 4095]
theorem l16_16 (hx : XDQ P E ro L (.c (.region r16_16b) :: K) Q h [true,true,true,true,true,true,true,true,true,true,false] r16_16a ρ h) : XD P E ro L r16_16 K ρ h Q := XD_last (A := r16_16a) (B := r16_16b) rfl rfl hx
def r16_25a : List O := [om 164 14 0,om 165 14 0,⟨some 166,.nilck (.t 165),none,2,[166,165]⟩,oa 167 2 166 6,ol 168 167 14,om 169 1 0,om 170 6 0,oi 171 1 169 170 96,ol 172 171 224,⟨some 173,.bslice 45 1 [(.slice none 0 0 false)] [(0,1,(.t 172))],none,480,[173,172]⟩]
def r16_25b : List O := [⟨some 174,.app 45 1 24 (.t 168) (.t 173),none,1022,[174,168,173]⟩,⟨some 175,.nilck (.t 164),none,2047,[175,164]⟩,oa 176 2 175 4095,ost 1 176 174 8191]
theorem l16_25 (hx : XDQ P E ro L (.c (.region r16_25b) :: K) Q h [true,true,true,true,true,true,true,true,true,true] r16_25a ρ h) : XD P E ro L r16_25 K ρ h Q := XD_last (A := r16_25a) (B := r16_25b) rfl rfl hx
def r81_5a : List O := [om 40 0 0,⟨some 41,.nilck (.t 40),none,1,[41,40]⟩,oa 42 1 41 3,ol 43 42 7,om 44 6 0,om 45 0 0,⟨some 46,.nilck (.t 45),none,32,[46,45]⟩,oa 47 1 46 96,ol 48 47 224,om 49 6 0,oi 50 3 48 49 992,oa 51 1 50 2016,ol 52 51 4064,⟨some 53,.app 5 1 1 (.k (.slice none 0 0 false)) (.t 52),none,8160,[53,52]⟩,om 54 2 0,⟨some 55,.app 5 1 1 (.t 53) (.t 54),none,32736,[55,53,54]⟩,oi 56 3 43 44 65535,oa 57 1 56 131071]
def r81_5b : List O := [ost 1 57 55 262143]
theorem l81_5 (D : List Nat) (hx : XDB P E ro L (.c (.region r81_5b) :: K) Q D h [true,true,true,true,true,true,true,true,true,true,true,true,true,true,false,true,true,true] r81_5a ρ h) : XD P E ro L r81_5 K ρ h Q := XD_lastB (A := r81_5a) (B := r81_5b) rfl rfl hx
end Go.AM.We
namespace Go.AM.Wc
open Go.AM Go.AM.Wd Go.AM.We
variable {P : Program} {E : Env} {T : H → Prop}
structure Rq where
 name : List UInt8
 b : Option Nat
 cs : List V
 syn : Int
def Rq.cells (q : Rq) : List V := [.str q.name,vl q.b q.cs.length,.int .i64 q.syn]
def Rq.foot (q : Rq) : List Cell := fpt q.b 5 q.cs
def rdC (R : Nat) (fv : V) : List V := [.int .i64 R,fv,.int .i64 0,.int .i64 0,.bool false]
def rdO (R : Nat) (fv : V) : Obj := .cells (rdC R fv) 123 false false none
def rdX (R rd : Nat) (fb : Option Nat) (qs : List Rq) : List Cell := (rd,rdO R (vl fb qs.length)) :: (fpt fb 129 (qs.flatMap Rq.cells) ++ qs.flatMap Rq.foot)
def totQ (qs : List Rq) : Nat := (qs.map fun q => q.cs.length).sum
structure RqX (R : Nat) (fb : Option Nat) (qs : List Rq) : Prop where
 nn : fb = none → qs = []
 emp : ∀ q ∈ qs,q.b = none → q.cs = []
 room : totQ qs ≤ R
 byt : ∀ q ∈ qs,Bs q.cs
 cap : R ≤ 4194304
 few : qs.length ≤ 1024
theorem rq_len (pre : List Rq) : (pre.flatMap Rq.cells).length = pre.length * 3 := by
 induction pre with
 | nil => rfl
 | cons s r ih => simp only [List.flatMap_cons,List.length_append,ih,Rq.cells,List.length_cons,List.length_nil]; omega
theorem rq_get (pre : List Rq) (c : List V) (j : Nat) : (pre.flatMap Rq.cells ++ c)[pre.length * 3 + j]? = c[j]? := by
 rw [List.getElem?_append_right (by rw [rq_len]; omega),rq_len]
 congr 1; omega
theorem rq_get0 (pre : List Rq) (c : List V) : (pre.flatMap Rq.cells ++ c)[pre.length * 3]? = c[0]? := rq_get pre c 0
theorem rq_set (pre : List Rq) (c : List V) (j : Nat) (ws : List V) : setR (pre.flatMap Rq.cells ++ c) (pre.length * 3 + j) ws = pre.flatMap Rq.cells ++ setR c j ws := by
 have hl := rq_len pre
 unfold setR
 rw [List.take_append,List.drop_append,hl]
 rw [List.take_of_length_le (by omega),List.drop_of_length_le (by rw [hl]; omega)]
 simp only [List.nil_append,List.append_assoc]
 rw [show pre.length * 3 + j - pre.length * 3 = j by omega,show pre.length * 3 + j + ws.length - pre.length * 3 = j + ws.length by omega]
theorem rq_mid (q1 : List Rq) (q : Rq) (q2 : List Rq) : (q1 ++ q :: q2).flatMap Rq.cells = q1.flatMap Rq.cells ++ (q.cells ++ q2.flatMap Rq.cells) := by simp
structure RdH (h : H) (R rd : Nat) (fb : Option Nat) (qs : List Rq) : Prop where
 gd : h.get rd = some (rdO R (vl fb qs.length))
 nn : fb = none → qs = []
 gf : ∀ b,fb = some b → h.get b = some (.cells (qs.flatMap Rq.cells) 129 true false none)
theorem RdH.kp {h h' : H} {R rd : Nat} {fb : Option Nat} {qs : List Rq} (a : RdH h R rd fb qs) (k : Kp h h') : RdH h' R rd fb qs := ⟨k.of a.gd,a.nn,fun b hb => k.of (a.gf b hb)⟩
theorem RdH.of {lo : Nat} {h : H} {R rd : Nat} {fb : Option Nat} {qs : List Rq} {m1 m2 : List Cell} (a : Ow lo h (m1 ++ (rdX R rd fb qs ++ m2))) (nn : fb = none → qs = []) : RdH h R rd fb qs where
 gd := a.at (by simp [rdX])
 nn := nn
 gf := fun b hb => by subst hb; exact a.at (by simp [rdX,fpt])
theorem RdH.shape {h : H} {R rd : Nat} {fb : Option Nat} {qs : List Rq} (a : RdH h R rd fb qs) : ∃ p c o,vl fb qs.length = .slice p qs.length c o := vl_shape fb qs.length fun h => by rw [a.nn h]; rfl
theorem RdH.some {h : H} {R rd : Nat} {fb : Option Nat} {q1 : List Rq} {q : Rq} {q2 : List Rq} (a : RdH h R rd fb (q1 ++ q :: q2)) : ∃ b,fb = some b ∧ h.get b = some (.cells (q1.flatMap Rq.cells ++ (q.cells ++ q2.flatMap Rq.cells)) 129 true false none) := by
 cases fb with
 | none => have := a.nn rfl; simp at this
 | some b => exact ⟨b,rfl,by rw [← rq_mid]; exact a.gf b rfl⟩
theorem looks78 (D : Fd P E) {h : H} {R rd b : Nat} {fv : V} {n : List UInt8} (gd : h.get rd = some (rdO R fv)) (gb : h.get b = some (.cells [.str n] 9 false false none)) (h1 : 1 ≤ n.length) (h2 : n.length ≤ 64) : Sp P E (.func 78 [] []) [.ptr (some (rd,0)),.slice (some (b,0)) 1 1 false] h fun v h' => v = .int .i64 0 ∧ h' = h := by
 have c0 : (0 : Int) < ((1 : Nat) : Int) := by decide
 have c00 : (0 : Int) ≤ 0 := Int.le_refl _
 have t00 : Int.toNat 0 = 0 := rfl
 have c1 : (n == ([] : List UInt8)) = false := by
  cases n with
  | nil => simp at h1
  | cons _ _ => rfl
 have c2 : ¬ (n.length : Int) > 64 := by omega
 have hw : IntKind.i64.wrap ((0 : Int) + 1) = 1 := by decide
 have c3 : ¬ (1 : Int) < ((1 : Nat) : Int) := by decide
 unfold rdO rdC at gd
 refine Sp_fn D.f78 D.p78 (by simp [fn78]) ?_
 simp only [GR,evK,binV,intOp,strOp,shOp,unV,Nat.reduceLT,Nat.reduceEqDiff,Nat.reduceAdd,↓reduceIte,Nat.reduceLeDiff,reduceCtorEq,fn78,c78,r78_0,gd]
 rw [u78_4]
 simp only [GR,evK,binV,intOp,strOp,shOp,unV,Nat.reduceLT,Nat.reduceEqDiff,Nat.reduceAdd,↓reduceIte,Nat.reduceLeDiff,reduceCtorEq,r78_1,c0,r78_2,c00,t00,Nat.zero_mul,gb,c1,c2,r78_3,hw]
 rw [u78_4]
 simp only [GR,evK,binV,intOp,strOp,shOp,unV,Nat.reduceLT,Nat.reduceEqDiff,Nat.reduceAdd,↓reduceIte,Nat.reduceLeDiff,reduceCtorEq,r78_1,c3]
theorem blows73 (D : Fd P E) {h : H} {R rd : Nat} {fv : V} (gd : h.get rd = some (rdO R fv)) : Sp P E (.func 73 [] []) [.ptr (some (rd,0))] h fun v h' => v = .bool false ∧ h' = h := by
 have c0 : ((0 : Int) == 0) = true := rfl
 unfold rdO rdC at gd
 refine Sp_fn D.f73 D.p73 (by simp [fn73]) ?_
 simp only [GR,evK,binV,intOp,strOp,shOp,unV,Nat.reduceLT,Nat.reduceEqDiff,Nat.reduceAdd,↓reduceIte,Nat.reduceLeDiff,reduceCtorEq,fn73,c73,r73_0,gd,c0]
theorem down83 (D : Fd P E) {h : H} {R rd : Nat} {fv : V} (gd : h.get rd = some (rdO R fv)) : Sp P E (.func 83 [] []) [.ptr (some (rd,0))] h fun v h' => v = .bool false ∧ h' = h := by
 unfold rdO rdC at gd
 refine Sp_fn D.f83 D.p83 (by simp [fn83]) ?_
 simp only [GR,evK,binV,intOp,strOp,shOp,unV,Nat.reduceLT,Nat.reduceEqDiff,Nat.reduceAdd,↓reduceIte,Nat.reduceLeDiff,reduceCtorEq,fn83,c83,r83_0,gd]
theorem restart70 (D : Fd P E) {h : H} {R rd : Nat} {fv : V} (gd : h.get rd = some (rdO R fv)) : Sp P E (.func 70 [] []) [.ptr (some (rd,0))] h fun v h' => v = .int .i64 1 ∧ h' = h := by
 unfold rdO rdC at gd
 refine Sp_fn D.f70 D.p70 (by simp [fn70]) ?_
 simp only [GR,evK,binV,intOp,strOp,shOp,unV,Nat.reduceLT,Nat.reduceEqDiff,Nat.reduceAdd,↓reduceIte,Nat.reduceLeDiff,reduceCtorEq,fn70,c70,r70_0,gd]
theorem findloop (D : Fd P E) {h : H} {R rd : Nat} {fb : Option Nat} {qs : List Rq} {n : List UInt8} {K : List Fr} {Q : Po} (a : RdH h R rd fb qs) (hl : qs.length ≤ 1024) {q1 q2 : List Rq} (hsp : qs = q1 ++ q2) (h1 : ∀ x ∈ q1,Op.bytesLess x.name n = true)
  (cont : ∀ ρ' : Nat → V,ρ' 0 = .ptr (some (rd,0)) → ρ' 1 = .str n → ρ' 6 = .int .i64 q1.length → XL P E none 48 b79_3 K ρ' h Q) :
  ∀ (d k : Nat) (ρ : Nat → V),q1.length - k = d → k ≤ q1.length → ρ 0 = .ptr (some (rd,0)) → ρ 1 = .str n → ρ 6 = .int .i64 k → XL P E none 48 b79_3 K ρ h Q := by
 intro d
 obtain ⟨sp,sc,so,hsv⟩ := a.shape
 have gd := a.gd
 unfold rdO rdC at gd
 induction d with
 | zero =>
  intro k ρ hd hk q0 q1' q6
  have : k = q1.length := by omega
  subst this
  exact cont ρ q0 q1' q6
 | succ d ih =>
  intro k ρ hd hk q0 q1' q6
  have hke : k < q1.length := by omega
  have hkq : k < qs.length := by rw [hsp,List.length_append]; omega
  have hs1 : qs = q1.take k ++ q1[k] :: (q1.drop (k + 1) ++ q2) := by
   have e : q1 = q1.take k ++ q1[k] :: q1.drop (k + 1) := by simp
   have := congrArg (· ++ q2) e
   simp only [List.append_assoc,List.cons_append] at this
   rw [hsp]; exact this
  have a' := a
  rw [hs1] at a'
  obtain ⟨b,rfl,gf⟩ := a'.some
  have hlt : (q1.take k).length = k := by rw [List.length_take]; omega
  have hx0 : ((q1.take k).flatMap Rq.cells ++ (q1[k].cells ++ (q1.drop (k + 1) ++ q2).flatMap Rq.cells))[k * 3]? = some (.str q1[k].name) := by
   have := rq_get0 (q1.take k) (q1[k].cells ++ (q1.drop (k + 1) ++ q2).flatMap Rq.cells)
   rw [hlt] at this
   rw [this]; rfl
  have hless := h1 _ (List.getElem_mem hke)
  have hw : IntKind.i64.wrap ((k : Int) + 1) = ((k + 1 : Nat) : Int) := wrap_nat (n := k + 1) (by omega)
  have hvl : vl (some b) qs.length = .slice (some (b,0)) qs.length qs.length true := rfl
  rw [hvl] at gd
  rw [u79_3]
  simp only [GR,evK,binV,intOp,strOp,shOp,unV,Nat.reduceLT,Nat.reduceEqDiff,Nat.reduceAdd,↓reduceIte,Nat.reduceLeDiff,reduceCtorEq,r79_1,q6,q0,gd,Int.ofNat_lt,hkq,Int.natCast_nonneg,Int.toNat_natCast,Nat.zero_add,Nat.add_zero,gf,hx0,q1',hless,r79_2,hw]
  refine ih (k + 1) _ (by omega) (by omega) ?_ ?_ ?_
  ·exact q0
  ·exact q1'
  ·rfl
theorem find_end (D : Fd P E) {h : H} {R rd : Nat} {fb : Option Nat} {qs : List Rq} {n : List UInt8} (a : RdH h R rd fb qs) (hl : qs.length ≤ 1024) (h1 : ∀ x ∈ qs,Op.bytesLess x.name n = true) : Sp P E (.func 79 [] []) [.ptr (some (rd,0)),.str n] h fun v h' => v = .tup [.int .i64 qs.length,.bool false] ∧ h' = h := by
 obtain ⟨sp,sc,so,hsv⟩ := a.shape
 have gd := a.gd
 unfold rdO rdC at gd
 rw [hsv] at gd
 have hke : ¬ qs.length < qs.length := Nat.lt_irrefl _
 refine Sp_fn D.f79 D.p79 (by simp [fn79]) ?_
 simp only [GR,evK,binV,intOp,strOp,shOp,unV,Nat.reduceLT,Nat.reduceEqDiff,Nat.reduceAdd,↓reduceIte,Nat.reduceLeDiff,reduceCtorEq,fn79,c79,r79_0]
 refine findloop D a hl (q2 := []) (by simp) h1 ?_ qs.length 0 _ (by omega) (Nat.zero_le _) ?_ ?_ ?_
 ·intro ρ' y0 y1 y6
  rw [u79_3]
  simp only [GR,evK,binV,intOp,strOp,shOp,unV,Nat.reduceLT,Nat.reduceEqDiff,Nat.reduceAdd,↓reduceIte,Nat.reduceLeDiff,reduceCtorEq,r79_1,y6,y0,gd,Int.ofNat_lt,hke]
  rw [X_draw,d79_4]
  simp only [GR,evK,binV,intOp,strOp,shOp,unV,Nat.reduceLT,Nat.reduceEqDiff,Nat.reduceAdd,↓reduceIte,Nat.reduceLeDiff,reduceCtorEq,r79_4,y6,y0,gd,Int.ofNat_lt,hke]
 ·rfl
 ·rfl
 ·rfl
theorem find_at (D : Fd P E) {h : H} {R rd : Nat} {fb : Option Nat} {q1 : List Rq} {q : Rq} {q2 : List Rq} (a : RdH h R rd fb (q1 ++ q :: q2)) (hl : (q1 ++ q :: q2).length ≤ 1024) (h1 : ∀ x ∈ q1,Op.bytesLess x.name q.name = true) : Sp P E (.func 79 [] []) [.ptr (some (rd,0)),.str q.name] h fun v h' => v = .tup [.int .i64 q1.length,.bool true] ∧ h' = h := by
 have gd := a.gd
 obtain ⟨b,rfl,gf⟩ := a.some
 unfold rdO rdC at gd
 have hvl : vl (some b) (q1 ++ q :: q2).length = .slice (some (b,0)) (q1 ++ q :: q2).length (q1 ++ q :: q2).length true := rfl
 rw [hvl] at gd
 have hke : q1.length < (q1 ++ q :: q2).length := by simp
 have hx0 : (q1.flatMap Rq.cells ++ (q.cells ++ q2.flatMap Rq.cells))[q1.length * 3]? = some (.str q.name) := by rw [rq_get0]; rfl
 have hse := less_self q.name
 have heq : (q.name == q.name) = true := by simp
 refine Sp_fn D.f79 D.p79 (by simp [fn79]) ?_
 simp only [GR,evK,binV,intOp,strOp,shOp,unV,Nat.reduceLT,Nat.reduceEqDiff,Nat.reduceAdd,↓reduceIte,Nat.reduceLeDiff,reduceCtorEq,fn79,c79,r79_0]
 refine findloop D a hl (q1 := q1) (q2 := q :: q2) rfl h1 ?_ q1.length 0 _ (by omega) (Nat.zero_le _) ?_ ?_ ?_
 ·intro ρ' y0 y1 y6
  rw [u79_3]
  simp only [GR,evK,binV,intOp,strOp,shOp,unV,Nat.reduceLT,Nat.reduceEqDiff,Nat.reduceAdd,↓reduceIte,Nat.reduceLeDiff,reduceCtorEq,r79_1,y6,y0,y1,gd,Int.ofNat_lt,hke,Int.natCast_nonneg,Int.toNat_natCast,Nat.zero_add,Nat.add_zero,gf,hx0,hse]
  rw [X_draw,d79_4]
  simp only [GR,evK,binV,intOp,strOp,shOp,unV,Nat.reduceLT,Nat.reduceEqDiff,Nat.reduceAdd,↓reduceIte,Nat.reduceLeDiff,reduceCtorEq,r79_4,y6,y0,y1,gd,Int.ofNat_lt,hke,Int.natCast_nonneg,Int.toNat_natCast,Nat.zero_add,Nat.add_zero,gf,hx0,heq]
 ·rfl
 ·rfl
 ·rfl
theorem totQ_mid (q1 : List Rq) (q : Rq) (q2 : List Rq) : totQ (q1 ++ q :: q2) = totQ (q1 ++ q2) + q.cs.length := by simp [totQ]; omega
theorem used80 (D : Fd P E) {h : H} {R rd : Nat} {fb : Option Nat} {qs : List Rq} (a : RdH h R rd fb qs) (hl : qs.length ≤ 1024) (hm : totQ qs ≤ 4194304) (hb : ∀ q ∈ qs,q.b = none → q.cs = []) : Sp P E (.func 80 [] []) [.ptr (some (rd,0))] h fun v h' => v = .int .i64 (totQ qs) ∧ h' = h := by
 obtain ⟨sp,sc,so,hsv⟩ := a.shape
 have gd := a.gd
 unfold rdO rdC at gd
 have tk : ∀ k,k < qs.length → totQ (qs.take (k + 1)) = totQ (qs.take k) + ((qs[k]?).map fun q => q.cs.length).getD 0 := fun k hk => by
  unfold totQ
  rw [List.take_succ_eq_append_getElem hk,List.map_append,List.sum_append,List.getElem?_eq_getElem hk]; simp
 have tl : ∀ k,totQ (qs.take k) ≤ totQ qs := fun k => by
  have : totQ qs = totQ (qs.take k) + totQ (qs.drop k) := by unfold totQ; rw [← List.sum_append,← List.map_append,List.take_append_drop]
  omega
 have loop : ∀ (d k : Nat) (ρ : Nat → V),qs.length - k = d → k ≤ qs.length → ρ 0 = .ptr (some (rd,0)) → ρ 3 = .int .i64 (totQ (qs.take k)) → ρ 4 = .int .i64 k →
   XL P E none 26 b80_3 [.b 0,.c (.seq (.region r80_4) (.ret))] ρ h (Fin [.t 2] fun v h' => v = .int .i64 (totQ qs) ∧ h' = h) := by
  intro d
  induction d with
  | zero =>
   intro k ρ hd hk q0 q3 q4
   have hke : ¬ k < qs.length := by omega
   rw [List.take_of_length_le (by omega)] at q3
   rw [hsv] at gd
   rw [u80_3]
   simp only [GR,evK,binV,intOp,strOp,shOp,unV,Nat.reduceLT,Nat.reduceEqDiff,Nat.reduceAdd,↓reduceIte,Nat.reduceLeDiff,reduceCtorEq,r80_0,q4,q0,gd,Int.ofNat_lt,hke,r80_4,q3]
  | succ d ih =>
   intro k ρ hd hk q0 q3 q4
   have hke : k < qs.length := by omega
   have hs1 : qs = qs.take k ++ qs[k] :: qs.drop (k + 1) := by simp
   have a' := a
   rw [hs1] at a'
   obtain ⟨b,rfl,gf⟩ := a'.some
   have hlt : (qs.take k).length = k := by rw [List.length_take]; omega
   obtain ⟨qp,qc,qo,hqv⟩ := vl_shape qs[k].b qs[k].cs.length (fun h => by rw [hb _ (List.getElem_mem hke) h]; rfl)
   have hx1 : ((qs.take k).flatMap Rq.cells ++ (qs[k].cells ++ (qs.drop (k + 1)).flatMap Rq.cells))[k * 3 + 1]? = some (.slice qp qs[k].cs.length qc qo) := by
    have := rq_get (qs.take k) (qs[k].cells ++ (qs.drop (k + 1)).flatMap Rq.cells) 1
    rw [hlt] at this
    rw [this,← hqv]; rfl
   have htk := tk k hke
   rw [List.getElem?_eq_getElem hke] at htk
   simp only [Option.map_some,Option.getD_some] at htk
   have htl := tl (k + 1)
   have hw : IntKind.i64.wrap ((k : Int) + 1) = ((k + 1 : Nat) : Int) := wrap_nat (n := k + 1) (by omega)
   have hw2 : IntKind.i64.wrap ((totQ (qs.take k) : Int) + (qs[k].cs.length : Int)) = ((totQ (qs.take (k + 1)) : Nat) : Int) := by rw [htk]; exact wrap_nat (by omega)
   have hvl : vl (some b) qs.length = .slice (some (b,0)) qs.length qs.length true := rfl
   rw [hvl] at gd
   rw [u80_3]
   simp only [GR,evK,binV,intOp,strOp,shOp,unV,Nat.reduceLT,Nat.reduceEqDiff,Nat.reduceAdd,↓reduceIte,Nat.reduceLeDiff,reduceCtorEq,r80_0,q4,q0,gd,Int.ofNat_lt,hke,r80_1,q3,Int.natCast_nonneg,Int.toNat_natCast,Nat.zero_add,gf,hx1,hw2,r80_2,hw]
   refine ih (k + 1) _ (by omega) (by omega) ?_ ?_ ?_
   ·exact q0
   ·rfl
   ·rfl
 refine Sp_fn D.f80 D.p80 (by simp [fn80]) ?_
 simp only [GR,evK,binV,intOp,strOp,shOp,unV,Nat.reduceLT,Nat.reduceEqDiff,Nat.reduceAdd,↓reduceIte,Nat.reduceLeDiff,reduceCtorEq,fn80,c80]
 refine loop qs.length 0 _ rfl (Nat.zero_le _) ?_ ?_ ?_
 ·rfl
 ·rfl
 ·rfl
end Go.AM.Wc
namespace Go.AM.Wc
open Go.AM Go.AM.Wd Go.AM.We
variable {P : Program} {E : Env} {T : H → Prop}
theorem Ow.appn {lo : Nat} {h : H} {m1 m2 : List Cell} {ty sz bytes : Nat} {ys : List (List V)} {x : V} (a : Ow lo h (m1 ++ m2)) (hlo : lo ≤ h.size)
  (hl : lenV x = some ys.length) (he : elemsV h sz ys.length x = some ys.flatten) (hbd : ys.length ≤ 1099511627776 ∧ (2 * ys.length + 1024) * bytes ≤ 281474976710656) :
  ∃ b' h',appV h ty sz bytes (.slice none 0 0 false) x = some (.eff (vl b' ys.length) h') ∧ Ow lo h' (m1 ++ (fpt b' ty ys.flatten ++ m2)) ∧ (b' = none ↔ ys = []) ∧ Kp h h' := by
 by_cases hn : ys.length = 0
 ·have : ys = [] := List.eq_nil_of_length_eq_zero hn
  subst this
  refine ⟨none,h,?_,by simpa [fpt] using a,by simp,Keeps.refl _ _⟩
  simp only [List.length_nil] at hl he
  unfold appV vl; simp [hl,he]
 ·have hne : ys ≠ [] := fun e => hn (by rw [e]; rfl)
  refine ⟨some h.size,h.psh (.cells ys.flatten ty true false none),?_,?_,by simp [hne],Keeps.psh (Nat.le_refl _) _⟩
  ·have h1 : ¬ ys.length ≤ 0 := by omega
   unfold appV vl
   simp only [hl,he,Nat.zero_add,h1,if_false,hbd,and_self,if_true,push_eq]
   simp [elemsV]
  ·exact Ow.pushM a hlo _
theorem rdx_mid (m1 : List Cell) (R rd b : Nat) (q1 : List Rq) (q : Rq) (q2 : List Rq) (m2 : List Cell) :
  m1 ++ (rdX R rd (some b) (q1 ++ q :: q2) ++ m2) = (m1 ++ [(rd,rdO R (vl (some b) (q1 ++ q :: q2).length))]) ++ (b,.cells (q1.flatMap Rq.cells ++ (q.cells ++ q2.flatMap Rq.cells)) 129 true false none) :: (q1.flatMap Rq.foot ++ (fpt q.b 5 q.cs ++ (q2.flatMap Rq.foot ++ m2))) := by
 simp [rdX,fpt,Rq.foot]
set_option maxHeartbeats 2000000 in
theorem tail81 {lo : Nat} {h : H} {R rd b : Nat} {q1 : List Rq} {q : Rq} {q2 : List Rq} {m1 m2 : List Cell} {v : V} {ds : List V} {ρ : Nat → V} {Q : V → H → Prop}
  (ow : Ow lo h (m1 ++ (rdX R rd (some b) (q1 ++ q :: q2) ++ m2))) (hlo : lo ≤ h.size) (hqe : q.b = none → q.cs = []) (hqb : Bs q.cs) (hv : Rx h v ds) (hm : q.cs.length + ds.length ≤ 4294967296)
  (q0 : ρ 0 = .ptr (some (rd,0))) (q2' : ρ 2 = v) (q6 : ρ 6 = .int .i64 q1.length)
  (cont : ∀ b' h',(b' = none → q.cs ++ ds = []) → Ow lo h' (m1 ++ (rdX R rd (some b) (q1 ++ { q with b := b',cs := q.cs ++ ds } :: q2) ++ m2)) → Keeps lo h h' → Q (oneOr []) h') :
  XD P E none 58 r81_5 [] ρ h (Fin [] Q) := by
 rw [rdx_mid] at ow
 have gd := ow.at (i := rd) (o := rdO R (vl (some b) (q1 ++ q :: q2).length)) (by simp)
 have gf := ow.at (i := b) (o := .cells (q1.flatMap Rq.cells ++ (q.cells ++ q2.flatMap Rq.cells)) 129 true false none) (by simp)
 have hvl : vl (some b) (q1 ++ q :: q2).length = .slice (some (b,0)) (q1 ++ q :: q2).length (q1 ++ q :: q2).length true := rfl
 have hke : q1.length < (q1 ++ q :: q2).length := by simp
 obtain ⟨qp,qc,qo,hqv⟩ := vl_shape q.b q.cs.length (fun h => by rw [hqe h]; rfl)
 have hx1 : (q1.flatMap Rq.cells ++ (q.cells ++ q2.flatMap Rq.cells))[q1.length * 3 + 1]? = some (.slice qp q.cs.length qc qo) := by
  rw [rq_get,← hqv]; rfl
 -- a copy of the file's bytes
 have hqel : elemsV h 1 q.cs.length (.slice qp q.cs.length qc qo) = some q.cs := by
  cases hb : q.b with
  | none =>
   have := hqe hb
   rw [this] at hqv ⊢
   cases qp <;> simp [elemsV]
  | some bq =>
   rw [hb] at hqv
   rw [← hqv]
   exact vl_elems (ow.at (i := bq) (o := .cells q.cs 5 true false none) (by simp [fpt,hb]))
 have hsm : (q.cs.map fun x => [x]).length = q.cs.length := List.length_map ..
 obtain ⟨b1,h1,e1,ow1,hb1,k1⟩ := Ow.appn (ty := 5) (sz := 1) (bytes := 1) (x := .slice qp q.cs.length qc qo) (ys := q.cs.map fun x => [x]) (m1 := (m1 ++ [(rd,rdO R (vl (some b) (q1 ++ q :: q2).length))]) ++ (b,.cells (q1.flatMap Rq.cells ++ (q.cells ++ q2.flatMap Rq.cells)) 129 true false none) :: (q1.flatMap Rq.foot ++ (fpt q.b 5 q.cs ++ q2.flatMap Rq.foot))) (m2 := m2) (by simpa using ow) hlo (by rw [hsm]; rfl) (by rw [hsm,single_flat]; exact hqel) (by rw [hsm]; omega)
 rw [hsm] at e1
 rw [single_flat] at ow1
 have hl1 : lo ≤ h1.size := Nat.le_trans hlo k1.size
 obtain ⟨vp,vc,vo,hvv,he,hbs⟩ := hv.kp k1
 obtain ⟨b2,h2,e2,ow2,hb2,k2,fr2⟩ := Ow.appc (bytes := 1) (x := v) (ds := ds) ow1 (fun h => by have := hb1.1 h; simpa using this) hl1 (by rw [hvv]; rfl) he hbs.one (by omega)
 have gd1 := k1.of gd
 have gf1 := k1.of gf
 have gd2 := ow2.at (i := rd) (o := rdO R (vl (some b) (q1 ++ q :: q2).length)) (by simp)
 have gf2 := ow2.at (i := b) (o := .cells (q1.flatMap Rq.cells ++ (q.cells ++ q2.flatMap Rq.cells)) 129 true false none) (by simp)
 obtain ⟨q',hq'⟩ : ∃ q' : Rq,q' = { q with b := b2,cs := q.cs ++ ds } := ⟨_,rfl⟩
 have hset : setR (q.cells ++ q2.flatMap Rq.cells) 1 [vl b2 (q.cs ++ ds).length] = q'.cells ++ q2.flatMap Rq.cells := by rw [hq']; rfl
 obtain ⟨vp2,vc2,vo2,hv2⟩ := vl_shape b2 (q.cs ++ ds).length (fun h => by rw [hb2 h]; rfl)
 have e3 := put_at (ws := [vl b2 (q.cs ++ ds).length]) (o := q1.length * 3 + 1) gf2 (by simp only [List.length_append,rq_len,List.length_cons,List.length_nil,show q.cells.length = 3 from rfl]; omega) (vl_one _ _) rfl
 rw [rq_set,hset] at e3
 have ow2' : Ow lo h2 ((m1 ++ [(rd,rdO R (vl (some b) (q1 ++ q :: q2).length))]) ++ (b,.cells (q1.flatMap Rq.cells ++ (q.cells ++ q2.flatMap Rq.cells)) 129 true false none) :: ((q1.flatMap Rq.foot ++ (fpt q.b 5 q.cs ++ q2.flatMap Rq.foot)) ++ (fpt b2 5 (q.cs ++ ds) ++ m2))) := by simpa using ow2
 obtain ⟨ow3,k3⟩ := ow2'.setM (.cells (q1.flatMap Rq.cells ++ (q'.cells ++ q2.flatMap Rq.cells)) 129 true false none)
 have kk : Keeps lo h (h2.set b (.cells (q1.flatMap Rq.cells ++ (q'.cells ++ q2.flatMap Rq.cells)) 129 true false none)) := Keeps.trans (k1.mono hlo) (Keeps.trans k2 k3)
 have own : Ow lo (h2.set b (.cells (q1.flatMap Rq.cells ++ (q'.cells ++ q2.flatMap Rq.cells)) 129 true false none)) (m1 ++ (rdX R rd (some b) (q1 ++ q' :: q2) ++ m2)) := by
  rw [rdx_mid]
  have hlen : (q1 ++ q' :: q2).length = (q1 ++ q :: q2).length := by simp
  rw [hlen]
  have ow4 : Ow lo (h2.set b (.cells (q1.flatMap Rq.cells ++ (q'.cells ++ q2.flatMap Rq.cells)) 129 true false none)) (((m1 ++ [(rd,rdO R (vl (some b) (q1 ++ q :: q2).length))]) ++ (b,.cells (q1.flatMap Rq.cells ++ (q'.cells ++ q2.flatMap Rq.cells)) 129 true false none) :: q1.flatMap Rq.foot) ++ (fpt q.b 5 q.cs ++ (q2.flatMap Rq.foot ++ (fpt b2 5 (q.cs ++ ds) ++ m2)))) := by simpa using ow3
  have ow5 := ow4.dropA
  have ow6 := ow5.perm (m' := ((m1 ++ [(rd,rdO R (vl (some b) (q1 ++ q :: q2).length))]) ++ (b,.cells (q1.flatMap Rq.cells ++ (q'.cells ++ q2.flatMap Rq.cells)) 129 true false none) :: q1.flatMap Rq.foot) ++ (fpt b2 5 (q.cs ++ ds) ++ (q2.flatMap Rq.foot ++ m2))) (List.Perm.append_left _ (perm_mid _ _ _))
  simpa [hq'] using ow6
 rw [hq'] at own kk
 have fin := cont b2 _ hb2 own kk
 unfold rdO rdC at gd gd1 gd2
 rw [hvl] at gd gd1 gd2
 rw [hv2] at e2 e3
 refine l81_5 [rd,b] ?_
 simp only [GR,evK,binV,intOp,strOp,shOp,unV,Nat.reduceLT,Nat.reduceEqDiff,Nat.reduceAdd,↓reduceIte,Nat.reduceLeDiff,reduceCtorEq,XDB_nil,XDB_cons,XSB_pur,XSB_rd,XAB_eff,XAB_call,r81_5a,q0,gd,q6,Int.natCast_nonneg,Int.toNat_natCast,Int.ofNat_lt,hke,Nat.zero_add,gf,hx1,e1,q2',e2]
 refine ⟨?_,?_,?_,?_,?_,?_⟩
 ·exact RdB.load1 (by rw [ev_t (by decide)]; rfl) (by simp) gd rfl
 ·exact RdB.load1 (by rw [ev_t (by decide)]; rfl) (by simp) gd rfl
 ·exact RdB.load1 (by rw [ev_t (by decide)]; rfl) (by simp) gf hx1
 ·intro i hi
  simp only [List.mem_cons,List.not_mem_nil,or_false] at hi
  rcases hi with rfl | rfl
  ·rw [gd,gd1]
  ·rw [gf,gf1]
 ·intro i hi
  simp only [List.mem_cons,List.not_mem_nil,or_false] at hi
  rcases hi with rfl | rfl
  ·rw [gd1,gd2]
  ·rw [gf1,gf2]
 ·rw [hq'] at e3
  simp only [GR,evK,binV,intOp,strOp,shOp,unV,Nat.reduceLT,Nat.reduceEqDiff,Nat.reduceAdd,↓reduceIte,Nat.reduceLeDiff,reduceCtorEq,r81_5b,gd2,q6,Int.natCast_nonneg,Int.toNat_natCast,Int.ofNat_lt,hke,Nat.zero_add,e3]
  exact fin
end Go.AM.Wc
namespace Go.AM.Wc
open Go.AM Go.AM.Wd Go.AM.We
variable {P : Program} {E : Env} {T : H → Prop}
theorem put81_old (D : Fd P E) {lo : Nat} {h : H} {R rd b : Nat} {q1 : List Rq} {q : Rq} {q2 : List Rq} {m1 m2 : List Cell} {v : V} {ds : List V}
  (ow : Ow lo h (m1 ++ (rdX R rd (some b) (q1 ++ q :: q2) ++ m2))) (hlo : lo ≤ h.size) (hqe : q.b = none → q.cs = []) (hqb : Bs q.cs) (hv : Rx h v ds) (hl : (q1 ++ q :: q2).length ≤ 1024) (hm : q.cs.length + ds.length ≤ 4294967296) (h1 : ∀ x ∈ q1,Op.bytesLess x.name q.name = true) :
  Sp P E (.func 81 [] []) [.ptr (some (rd,0)),.str q.name,v] h fun _ h' => ∃ b',(b' = none → q.cs ++ ds = []) ∧ Ow lo h' (m1 ++ (rdX R rd (some b) (q1 ++ { q with b := b',cs := q.cs ++ ds } :: q2) ++ m2)) ∧ Keeps lo h h' := by
 have rh := RdH.of ow (by simp)
 obtain ⟨vp,vc,vo,hvv⟩ := hv.shape
 refine Sp_fn D.f81 D.p81 (by simp [fn81]) ?_
 simp only [GR,evK,binV,intOp,strOp,shOp,unV,Nat.reduceLT,Nat.reduceEqDiff,Nat.reduceAdd,↓reduceIte,Nat.reduceLeDiff,reduceCtorEq,fn81,c81,r81_0]
 refine XC_of (find_at D rh hl h1) ?_
 rintro _ hx ⟨rfl,e2⟩
 rw [e2]
 clear e2 hx
 simp only [GR,evK,binV,intOp,strOp,shOp,unV,Nat.reduceLT,Nat.reduceEqDiff,Nat.reduceAdd,↓reduceIte,Nat.reduceLeDiff,reduceCtorEq,List.getElem?_cons_zero,List.getElem?_cons_succ,r81_1,Bool.not_true]
 rw [X_draw]
 refine tail81 ow hlo hqe hqb hv hm ?_ ?_ ?_ ?_
 ·rfl
 ·rfl
 ·rfl
 ·exact fun b' h' hb o k => ⟨b',hb,o,k⟩
theorem put81_new (D : Fd P E) {lo : Nat} {h : H} {R rd : Nat} {fb : Option Nat} {qs : List Rq} {m1 m2 : List Cell} {n : List UInt8} {v : V} {ds : List V}
  (ow : Ow lo h (m1 ++ (rdX R rd fb qs ++ m2))) (hlo : lo ≤ h.size) (nn : fb = none ↔ qs = []) (hvs : ∀ h',Keeps lo h h' → Ow lo h' m2 → Rx h' v ds) (hl : qs.length ≤ 1023) (hm : ds.length ≤ 4294967296) (h1 : ∀ x ∈ qs,Op.bytesLess x.name n = true) :
  Sp P E (.func 81 [] []) [.ptr (some (rd,0)),.str n,v] h fun _ h' => ∃ fb' b',(b' = none → ds = []) ∧ Ow lo h' (m1 ++ (rdX R rd (some fb') (qs ++ [⟨n,b',ds,0⟩]) ++ m2)) ∧ Keeps lo h h' := by
 have rh := RdH.of ow nn.1
 obtain ⟨vp,vc,vo,hvv⟩ := (hvs h (Keeps.refl _ _) ow.right.right).shape
 have gd := rh.gd
 have hcc : (qs.map Rq.cells).length = qs.length := List.length_map ..
 have hx3 : ∀ z ∈ qs.map Rq.cells,z.length = 3 := fun z hz => by obtain ⟨y,_,rfl⟩ := List.mem_map.1 hz; rfl
 -- the files ahead,copied
 have hel : elemsV h 3 qs.length (vl fb qs.length) = some (qs.map Rq.cells).flatten := by
  cases fb with
  | none => rw [nn.1 rfl]; simp [vl,elemsV]
  | some b =>
   have gf := rh.gf b rfl
   rw [List.flatMap_def] at gf
   simp only [vl,elemsV,gf]
   have hfl := flatten_ln hx3
   rw [hcc] at hfl
   by_cases h0 : qs.length * 3 = 0
   ·rw [if_pos h0,List.eq_nil_of_length_eq_zero (hfl.trans h0)]
   ·rw [if_neg h0,if_pos (by omega),getR_whole' hfl]
 obtain ⟨sp,sc,so,hsv⟩ := vl_shape fb qs.length (fun h => by rw [nn.1 h]; rfl)
 have hcap : sc = qs.length := by
  cases fb with
  | none => have := nn.1 rfl; subst this; simp [vl] at hsv; exact hsv.2.1.symm
  | some b => simp [vl] at hsv; exact hsv.2.1.symm
 subst hcap
 rw [hsv] at hel gd
 have hel' : elemsV h 3 (qs.map Rq.cells).length (.slice sp qs.length qs.length (so && true)) = some (qs.map Rq.cells).flatten := by
  rw [hcc]; cases sp <;> exact hel
 have ow0 : Ow lo h ((m1 ++ rdX R rd fb qs) ++ m2) := by simpa using ow
 obtain ⟨b1,h1',e1,ow1,hb1,k1⟩ := Ow.appn (ty := 129) (sz := 3) (bytes := 48) (x := .slice sp qs.length qs.length (so && true)) (ys := qs.map Rq.cells) ow0 hlo (by rw [hcc]; rfl) hel' (by rw [hcc]; omega)
 rw [hcc] at e1
 -- the new file
 obtain ⟨q0,hq0⟩ : ∃ q0 : Rq,q0 = ⟨n,none,[],0⟩ := ⟨_,rfl⟩
 have hc0 : q0.cells = [V.str n,V.slice none 0 0 false,V.int .i64 0] := by rw [hq0]; rfl
 have k2 : Kp h1' (h1'.psh (.cells q0.cells 129 false false none)) := Keeps.psh (Nat.le_refl _) _
 have he3 : elemsV (h1'.psh (.cells q0.cells 129 false false none)) 3 1 (.slice (some (h1'.size,0)) 1 1 false) = some q0.cells := by
  simp only [elemsV,psh_same]; rw [hc0]; rfl
 have hl1 : lo ≤ h1'.size := Nat.le_trans hlo k1.size
 have hl2 : lo ≤ (h1'.psh (.cells q0.cells 129 false false none)).size := Nat.le_trans hl1 k2.size
 have ow2 := ow1.kp k2
 obtain ⟨b2,h2,e2,ow3,hb2,k3,fr3⟩ := Ow.appM (sz := 3) (bytes := 48) (x := .slice (some (h1'.size,0)) 1 1 false) (ys := [q0.cells]) ow2 (fun h => by rw [hb1.1 h]) hl2 hx3 rfl (by rw [show [q0.cells].length = 1 from rfl,he3]; simp) (by rw [hc0]; rfl) (by rw [hcc]; simp only [List.length_cons,List.length_nil]; omega)
 obtain ⟨fb',rfl⟩ : ∃ x,b2 = some x := by
  cases b2 with
  | none => have := hb2 rfl; simp at this
  | some x => exact ⟨x,rfl⟩
 have hl3 : (qs.map Rq.cells ++ [q0.cells]).length = qs.length + 1 := by simp
 rw [hcc,hl3] at e2
 have e3 : appV h2 129 3 48 (.slice (some (fb',0)) (qs.length + 1) (qs.length + 1) true) (.slice (sp.map fun x => (x.1,x.2 + qs.length * 3)) 0 0 (so && true)) = some (.eff (.slice (some (fb',0)) (qs.length + 1) (qs.length + 1) true) h2) := by
  unfold appV
  cases sp <;> simp [lenV,elemsV,putCells]
 have gd1 := k1.of gd
 have gd2 := k2.of gd1
 have ow3' : Ow lo h2 (m1 ++ (rd,rdO R (vl fb qs.length)) :: ((fpt fb 129 (qs.flatMap Rq.cells) ++ qs.flatMap Rq.foot) ++ (fpt (some fb') 129 (qs.map Rq.cells ++ [q0.cells]).flatten ++ m2))) := by simpa [rdX] using ow3
 have gd3 := ow3'.at (i := rd) (o := rdO R (vl fb qs.length)) (by simp)
 rw [hsv] at gd3
 obtain ⟨ow4,k4⟩ := ow3'.setM (rdO R (vl (some fb') (qs.length + 1)))
 have e4 := put_at (ws := [vl (some fb') (qs.length + 1)]) (o := 1) gd3 (by simp [rdC]) rfl rfl
 have hset : setR (rdC R (.slice sp qs.length qs.length so)) 1 [vl (some fb') (qs.length + 1)] = rdC R (vl (some fb') (qs.length + 1)) := rfl
 rw [hset] at e4
 unfold rdO at ow4 k4
 have kk4 : Keeps lo h (h2.set rd (.cells (rdC R (vl (some fb') (qs.length + 1))) 123 false false none)) := Keeps.trans (k1.mono hlo) (Keeps.trans (k2.mono hl1) (Keeps.trans k3 k4))
 have own : Ow lo (h2.set rd (.cells (rdC R (vl (some fb') (qs.length + 1))) 123 false false none)) (m1 ++ (rdX R rd (some fb') (qs ++ q0 :: []) ++ m2)) := by
  have o1 : Ow lo (h2.set rd (.cells (rdC R (vl (some fb') (qs.length + 1))) 123 false false none)) ((m1 ++ [(rd,rdO R (vl (some fb') (qs.length + 1)))]) ++ (fpt fb 129 (qs.flatMap Rq.cells) ++ (qs.flatMap Rq.foot ++ (fpt (some fb') 129 (qs.map Rq.cells ++ [q0.cells]).flatten ++ m2)))) := by simpa [rdO] using ow4
  have o2 := o1.dropA
  have o3 := o2.perm (m' := (m1 ++ [(rd,rdO R (vl (some fb') (qs.length + 1)))]) ++ (fpt (some fb') 129 (qs.map Rq.cells ++ [q0.cells]).flatten ++ (qs.flatMap Rq.foot ++ m2))) (List.Perm.append_left _ (perm_mid _ _ _))
  unfold rdX
  rw [show (qs ++ [q0]).length = qs.length + 1 by simp,show (qs ++ [q0]).flatMap Rq.cells = (qs.map Rq.cells ++ [q0.cells]).flatten by rw [List.flatMap_def]; simp,show (qs ++ [q0]).flatMap Rq.foot = qs.flatMap Rq.foot by rw [hq0]; simp [Rq.foot,fpt]]
  simpa using o3
 have hv4 := hvs _ kk4 own.right.right
 have hvl : vl (some fb') (qs.length + 1) = .slice (some (fb',0)) (qs.length + 1) (qs.length + 1) true := rfl
 have hbh : boundsV qs.length qs.length none (some (.int .i64 (qs.length : Int))) none = some (0,qs.length,qs.length) := by
  have := bounds_hi (len := qs.length) (cap := qs.length) (k := .i64) (a := (qs.length : Int)) (by omega)
  simpa using this
 have hbl : boundsV qs.length qs.length (some (.int .i64 (qs.length : Int))) none none = some (qs.length,qs.length,qs.length) := by
  have := bounds_lo (len := qs.length) (cap := qs.length) (k := .i64) (a := (qs.length : Int)) (by omega)
  simpa using this
 have hmp : Option.map (fun x : Nat × Nat => (x.1,x.2 + 0 * 3)) sp = sp := by cases sp <;> simp
 have hle : qs.length ≤ qs.length := Nat.le_refl _
 obtain ⟨bp,bc,bo,hb1v⟩ := vl_shape b1 qs.length (fun h => by have := hb1.1 h; simp at this; rw [this]; rfl)
 rw [hb1v] at e1 e2
 unfold rdO at gd gd1 gd2 gd3
 unfold rdC at gd gd1 gd2 gd3
 have gd3' : h2.get rd = some (.cells [.int .i64 R,.slice sp qs.length qs.length so,.int .i64 0,.int .i64 0,.bool false] 123 false false none) := gd3
 have hd0 : List.drop 3 [V.str [],.slice none 0 0 false,.int .i64 0] = [] := rfl
 rw [hvl] at e2 e4
 rw [hc0] at e2 k2
 generalize hh1 : h1'.psh (.cells [V.str n,V.slice none 0 0 false,V.int .i64 0] 129 false false none) = h1p at *
 refine Sp_fn D.f81 D.p81 (by simp [fn81]) ?_
 simp only [GR,evK,binV,intOp,strOp,shOp,unV,Nat.reduceLT,Nat.reduceEqDiff,Nat.reduceAdd,↓reduceIte,Nat.reduceLeDiff,reduceCtorEq,fn81,c81,r81_0]
 refine XC_of (find_end D rh (by omega) h1) ?_
 rintro _ hx ⟨rfl,ex⟩
 rw [ex]
 clear ex hx
 simp only [GR,evK,binV,intOp,strOp,shOp,unV,Nat.reduceLT,Nat.reduceEqDiff,Nat.reduceAdd,↓reduceIte,Nat.reduceLeDiff,reduceCtorEq,List.getElem?_cons_zero,List.getElem?_cons_succ,r81_1,Bool.not_false,r81_2,gd,hle,hbh,hmp,Nat.sub_zero,Option.isNone_none,e1,r81_3,List.length_cons,List.length_nil,Nat.zero_add,hd0,hh1,e2,r81_4,gd3',hbl,Nat.sub_self,e3,e4]
 rw [X_draw]
 have hq0b : q0.b = none := by rw [hq0]
 have hq0c : q0.cs = [] := by rw [hq0]
 refine tail81 (q1 := qs) (q := q0) (q2 := []) own (Nat.le_trans hlo kk4.size) (fun _ => hq0c) (by rw [hq0c]; intro x hx; cases hx) hv4 (by rw [hq0c]; simpa using hm) ?_ ?_ ?_ ?_
 ·rfl
 ·rfl
 ·rfl
 ·intro b' h' hb o k
  rw [hq0c,List.nil_append] at hb
  refine ⟨fb',b',hb,?_,Keeps.trans kk4 k⟩
  rw [hq0] at o
  exact o
def AppQ (R : Nat) (qs : List Rq) (n : List UInt8) (ds : List V) (e : Int) (qs' : List Rq) : Prop :=
 (e = 3 ∧ qs' = qs ∧ (∀ x ∈ qs,Op.bytesLess x.name n = true) ∧ 1024 ≤ qs.length) ∨
 (e = 6 ∧ qs' = qs ∧ ((∀ x ∈ qs,Op.bytesLess x.name n = true) → qs.length < 1024) ∧ R < totQ qs + ds.length) ∨
 (e = 0 ∧ (∀ x ∈ qs,Op.bytesLess x.name n = true) ∧ qs.length < 1024 ∧ totQ qs + ds.length ≤ R ∧ ∃ b',qs' = qs ++ [⟨n,b',ds,0⟩]) ∨
 (e = 0 ∧ totQ qs + ds.length ≤ R ∧ ∃ q1 q q2 b',qs = q1 ++ q :: q2 ∧ q.name = n ∧ (∀ x ∈ q1,Op.bytesLess x.name n = true) ∧ qs' = q1 ++ { q with b := b',cs := q.cs ++ ds } :: q2)
theorem RqX.put {R : Nat} {fb : Option Nat} {q1 : List Rq} {q : Rq} {q2 : List Rq} {b' : Option Nat} {cs' : List V} {z : Int} (a : RqX R fb (q1 ++ q :: q2)) (he : b' = none → cs' = []) (hb : Bs cs') (hr : totQ (q1 ++ q :: q2) + cs'.length ≤ R + q.cs.length) : RqX R fb (q1 ++ { q with b := b',cs := cs',syn := z } :: q2) where
 nn := by have := a.nn; simp at this; simpa using this
 emp := by
  intro g hg
  rcases List.mem_append.1 hg with h | h
  ·exact a.emp g (List.mem_append_left _ h)
  ·rcases List.mem_cons.1 h with rfl | h
   ·exact he
   ·exact a.emp g (List.mem_append_right _ (List.mem_cons_of_mem _ h))
 room := by
  rw [totQ_mid] at hr ⊢
  simp only
  omega
 byt := by
  intro g hg
  rcases List.mem_append.1 hg with h | h
  ·exact a.byt g (List.mem_append_left _ h)
  ·rcases List.mem_cons.1 h with rfl | h
   ·exact hb
   ·exact a.byt g (List.mem_append_right _ (List.mem_cons_of_mem _ h))
 cap := a.cap
 few := by have := a.few; simpa using this
set_option maxHeartbeats 1000000 in
theorem append49 (D : Fd P E) {lo : Nat} {h : H} {R rd : Nat} {fb : Option Nat} {qs : List Rq} {m1 m2 : List Cell} {n : List UInt8} {v : V} {ds : List V}
  (ow : Ow lo h (m1 ++ (rdX R rd fb qs ++ m2))) (hlo : lo ≤ h.size) (ok : RqX R fb qs) (nn : fb = none ↔ qs = []) (hvs : ∀ h',Keeps lo h h' → Ow lo h' m2 → Rx h' v ds) (hds : Bs ds) (hm : ds.length ≤ 4194304)
  (hn : (∀ x ∈ qs,Op.bytesLess x.name n = true) ∨ ∃ q1 q q2,qs = q1 ++ q :: q2 ∧ q.name = n ∧ (∀ x ∈ q1,Op.bytesLess x.name n = true)) (l1 : 1 ≤ n.length) (l2 : n.length ≤ 64) :
  Sp P E (.func 49 [] []) [.ptr (some (rd,0)),.str n,v] h fun r h' => ∃ e fb' qs',r = .int .i64 e ∧ Ow lo h' (m1 ++ (rdX R rd fb' qs' ++ m2)) ∧ RqX R fb' qs' ∧ (fb' = none ↔ qs' = []) ∧ AppQ R qs n ds e qs' ∧ Keeps lo h h' := by
 have k1 : Kp h (h.psh (.cells [.str n] 9 false false none)) := Keeps.psh (Nat.le_refl _) _
 have gb := psh_same h (.cells [.str n] 9 false false none)
 have ow1 := ow.kp k1
 have hl1 : lo ≤ (h.psh (.cells [.str n] 9 false false none)).size := Nat.le_trans hlo k1.size
 have hvs1 : ∀ h',Keeps lo (h.psh (.cells [.str n] 9 false false none)) h' → Ow lo h' m2 → Rx h' v ds := fun h' k o => hvs h' (Keeps.trans (k1.mono hlo) k) o
 have rh := RdH.of ow1 nn.1
 have gd := rh.gd
 have hd0 : List.drop 1 [V.str []] = [] := rfl
 have c4 : ((0 : Int) != 0) = false := rfl
 have hcap := ok.cap
 have hroom := ok.room
 have hfew := ok.few
 have hv1 := hvs1 _ (Keeps.refl _ _) ow1.right.right
 obtain ⟨vp,vc,vo,hvv⟩ := hv1.shape
 obtain ⟨sp,sc,so,hsv⟩ := rh.shape
 have kk1 : Keeps lo h (h.psh (.cells [.str n] 9 false false none)) := k1.mono hlo
 have fail : ∀ e : Int,AppQ R qs n ds e qs → ∃ e' fb' qs',V.int .i64 e = .int .i64 e' ∧ Ow lo (h.psh (.cells [.str n] 9 false false none)) (m1 ++ (rdX R rd fb' qs' ++ m2)) ∧ RqX R fb' qs' ∧ (fb' = none ↔ qs' = []) ∧ AppQ R qs n ds e' qs' ∧ Keeps lo h (h.psh (.cells [.str n] 9 false false none)) :=
  fun e he => ⟨e,fb,qs,rfl,ow1,ok,nn,he,kk1⟩
 have hw : IntKind.i64.wrap ((R : Int) - (totQ qs : Int)) = (R : Int) - (totQ qs : Int) := wrap_le (by omega) (by omega)
 refine Sp_fn D.f49 D.p49 (by simp [fn49]) ?_
 simp only [GR,evK,binV,intOp,strOp,shOp,unV,Nat.reduceLT,Nat.reduceEqDiff,Nat.reduceAdd,↓reduceIte,Nat.reduceLeDiff,reduceCtorEq,fn49,c49,r49_0,hd0]
 refine XC_of (looks78 D gd gb l1 l2) ?_
 rintro _ hx ⟨rfl,e2⟩
 rw [e2]
 clear e2 hx
 generalize h.psh (.cells [.str n] 9 false false none) = h1 at *
 have gd' := gd
 unfold rdO rdC at gd'
 rcases hn with hn | ⟨q1,q,q2,rfl,rfl,hq1⟩
 ·by_cases hmf : (qs.length : Int) ≥ 1024
  ·simp only [GR,evK,binV,intOp,strOp,shOp,unV,Nat.reduceLT,Nat.reduceEqDiff,Nat.reduceAdd,↓reduceIte,Nat.reduceLeDiff,reduceCtorEq,r49_1,c4,r49_3]
   refine XC_of (find_end D rh hfew hn) ?_
   rintro _ hx ⟨rfl,e2⟩
   rw [e2]
   clear e2 hx
   rw [hsv] at gd'
   simp only [GR,evK,binV,intOp,strOp,shOp,unV,Nat.reduceLT,Nat.reduceEqDiff,Nat.reduceAdd,↓reduceIte,Nat.reduceLeDiff,reduceCtorEq,List.getElem?_cons_zero,List.getElem?_cons_succ,r49_4,Bool.not_false,gd',hmf]
   exact fail 3 (.inl ⟨rfl,rfl,hn,by omega⟩)
  ·simp only [GR,evK,binV,intOp,strOp,shOp,unV,Nat.reduceLT,Nat.reduceEqDiff,Nat.reduceAdd,↓reduceIte,Nat.reduceLeDiff,reduceCtorEq,r49_1,c4,r49_3]
   refine XC_of (find_end D rh hfew hn) ?_
   rintro _ hx ⟨rfl,e2⟩
   rw [e2]
   clear e2 hx
   have gd2 := gd'
   rw [hsv] at gd2
   simp only [GR,evK,binV,intOp,strOp,shOp,unV,Nat.reduceLT,Nat.reduceEqDiff,Nat.reduceAdd,↓reduceIte,Nat.reduceLeDiff,reduceCtorEq,List.getElem?_cons_zero,List.getElem?_cons_succ,r49_4,Bool.not_false,gd2,hmf]
   rw [X_draw]
   refine d49_5 ?_
   have hv0 := hvv
   rw [hvv]
   simp only [GR,evK,binV,intOp,strOp,shOp,unV,Nat.reduceLT,Nat.reduceEqDiff,Nat.reduceAdd,↓reduceIte,Nat.reduceLeDiff,reduceCtorEq,r49_5,gd2]
   refine XCQ_of (used80 D rh hfew (by omega) ok.emp) ?_
   rintro _ hx ⟨rfl,e2⟩
   rw [e2]
   clear e2 hx
   refine ⟨Keeps.refl _ _,?_⟩
   by_cases hfull : (ds.length : Int) > (R : Int) - (totQ qs : Int)
   ·simp only [GR,evK,binV,intOp,strOp,shOp,unV,Nat.reduceLT,Nat.reduceEqDiff,Nat.reduceAdd,↓reduceIte,Nat.reduceLeDiff,reduceCtorEq,hw,hfull]
    exact fail 6 (.inr (.inl ⟨rfl,rfl,fun _ => by omega,by omega⟩))
   ·simp only [GR,evK,binV,intOp,strOp,shOp,unV,Nat.reduceLT,Nat.reduceEqDiff,Nat.reduceAdd,↓reduceIte,Nat.reduceLeDiff,reduceCtorEq,hw,hfull,r49_6]
    refine XC_of (blows73 D gd) ?_
    rintro _ hx ⟨rfl,e2⟩
    rw [e2]
    clear e2 hx
    simp only [GR,evK,binV,intOp,strOp,shOp,unV,Nat.reduceLT,Nat.reduceEqDiff,Nat.reduceAdd,↓reduceIte,Nat.reduceLeDiff,reduceCtorEq,r49_7]
    rw [← hv0]
    refine XC_of (put81_new D ow1 hl1 nn hvs1 (by omega) (by omega) hn) ?_
    rintro _ h2 ⟨fb',b',hb,ow2,k2⟩
    simp only [GR,evK,binV,intOp,strOp,shOp,unV,Nat.reduceLT,Nat.reduceEqDiff,Nat.reduceAdd,↓reduceIte,Nat.reduceLeDiff,reduceCtorEq]
    refine ⟨0,some fb',_,rfl,ow2,?_,by simp,.inr (.inr (.inl ⟨rfl,hn,by omega,by omega,b',rfl⟩)),Keeps.trans kk1 k2⟩
    refine ⟨by simp,?_,?_,?_,ok.cap,by simp; omega⟩
    ·intro g hg
     rcases List.mem_append.1 hg with h | h
     ·exact ok.emp g h
     ·rw [List.mem_singleton.1 h]; exact hb
    ·rw [totQ_mid]; simp only [List.append_nil]; omega
    ·intro g hg
     rcases List.mem_append.1 hg with h | h
     ·exact ok.byt g h
     ·rw [List.mem_singleton.1 h]; exact hds
 ·obtain ⟨b,rfl,gf⟩ := rh.some
  simp only [GR,evK,binV,intOp,strOp,shOp,unV,Nat.reduceLT,Nat.reduceEqDiff,Nat.reduceAdd,↓reduceIte,Nat.reduceLeDiff,reduceCtorEq,r49_1,c4,r49_3]
  refine XC_of (find_at D rh hfew hq1) ?_
  rintro _ hx ⟨rfl,e2⟩
  rw [e2]
  clear e2 hx
  have gd2 := gd'
  rw [hsv] at gd2
  simp only [GR,evK,binV,intOp,strOp,shOp,unV,Nat.reduceLT,Nat.reduceEqDiff,Nat.reduceAdd,↓reduceIte,Nat.reduceLeDiff,reduceCtorEq,List.getElem?_cons_zero,List.getElem?_cons_succ,r49_4,Bool.not_true]
  rw [X_draw]
  refine d49_5 ?_
  have hv0 := hvv
  rw [hvv]
  simp only [GR,evK,binV,intOp,strOp,shOp,unV,Nat.reduceLT,Nat.reduceEqDiff,Nat.reduceAdd,↓reduceIte,Nat.reduceLeDiff,reduceCtorEq,r49_5,gd2]
  refine XCQ_of (used80 D rh hfew (by omega) ok.emp) ?_
  rintro _ hx ⟨rfl,e2⟩
  rw [e2]
  clear e2 hx
  refine ⟨Keeps.refl _ _,?_⟩
  have htm := totQ_mid q1 q q2
  by_cases hfull : (ds.length : Int) > (R : Int) - (totQ (q1 ++ q :: q2) : Int)
  ·simp only [GR,evK,binV,intOp,strOp,shOp,unV,Nat.reduceLT,Nat.reduceEqDiff,Nat.reduceAdd,↓reduceIte,Nat.reduceLeDiff,reduceCtorEq,hw,hfull]
   exact fail 6 (.inr (.inl ⟨rfl,rfl,fun hh => absurd (hh q (by simp)) (by rw [less_self]; simp),by omega⟩))
  ·simp only [GR,evK,binV,intOp,strOp,shOp,unV,Nat.reduceLT,Nat.reduceEqDiff,Nat.reduceAdd,↓reduceIte,Nat.reduceLeDiff,reduceCtorEq,hw,hfull,r49_6]
   refine XC_of (blows73 D gd) ?_
   rintro _ hx ⟨rfl,e2⟩
   rw [e2]
   clear e2 hx
   simp only [GR,evK,binV,intOp,strOp,shOp,unV,Nat.reduceLT,Nat.reduceEqDiff,Nat.reduceAdd,↓reduceIte,Nat.reduceLeDiff,reduceCtorEq,r49_7]
   rw [← hv0]
   refine XC_of (put81_old D ow1 hl1 (ok.emp q (by simp)) (ok.byt q (by simp)) hv1 hfew (by omega) hq1) ?_
   rintro _ h2 ⟨b',hb,ow2,k2⟩
   simp only [GR,evK,binV,intOp,strOp,shOp,unV,Nat.reduceLT,Nat.reduceEqDiff,Nat.reduceAdd,↓reduceIte,Nat.reduceLeDiff,reduceCtorEq]
   refine ⟨0,some b,_,rfl,ow2,ok.put hb ((ok.byt q (by simp)).app hds) ?_,by simp,.inr (.inr (.inr ⟨rfl,by omega,q1,q,q2,b',rfl,rfl,hq1,rfl⟩)),Keeps.trans kk1 k2⟩
   rw [List.length_append]; omega
end Go.AM.Wc
