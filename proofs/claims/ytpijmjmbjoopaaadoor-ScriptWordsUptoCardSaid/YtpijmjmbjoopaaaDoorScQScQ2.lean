/- My own texts of the evaluator, its soundness and its symbolic runs, laid for this claim. -/
import Derived.Test.YtpijmjmbjoopaaaDoorScBToScM
set_option linter.unusedSimpArgs false
set_option linter.unusedVariables false
namespace Go.AM.Sc
open Go.AM
variable {P : Program} {E : Env} {T : H → Prop}
def hexs : List UInt8 := [48,49,50,51,52,53,54,55,56,57,97,98,99,100,101,102]
def hexd (n : Nat) : UInt8 := hexs.getD n 0
def qB (b : UInt8) : List UInt8 :=
  if b.toNat = 34 ∨ b.toNat = 92 then [92,b] else if b.toNat < 32 ∨ 126 < b.toNat then [92,120,hexd (b.toNat / 16),hexd (b.toNat % 16)] else [b]
def qs (s : List UInt8) : List UInt8 := (s.map qB).flatten
def quoteB (s : List UInt8) : List UInt8 := [34] ++ qs s ++ [34]
theorem qB_len (b : UInt8) : (qB b).length ≤ 4 := by
  unfold qB; split
  · simp
  · split <;> simp
theorem qs_len : ∀ (s : List UInt8),(qs s).length ≤ 4 * s.length
  | [] => by simp [qs]
  | b :: s => by
    have ih := qs_len s
    have := qB_len b
    simp only [qs,List.map_cons,List.flatten_cons,List.length_append,List.length_cons] at ih ⊢
    omega
theorem qs_take {s : List UInt8} {k : Nat} (hk : k < s.length) : qs (s.take (k + 1)) = qs (s.take k) ++ qB s[k] := by
  rw [List.take_succ_eq_append_getElem hk]
  simp only [qs,List.map_append,List.flatten_append,List.map_cons,List.map_nil,List.flatten_cons,List.flatten_nil,List.append_nil]
theorem hexHi (b : UInt8) : (b.toNat : Int).fdiv (2 ^ min (Int.toNat 4) IntKind.u8.bits) = ((b.toNat / 16 : Nat) : Int) ∧ [48,49,50,51,52,53,54,55,56,57,97,98,99,100,101,(102 : UInt8)][b.toNat / 16]? = some (hexd (b.toNat / 16)) := by
  have key : ∀ n : Nat,n < 256 → ((n : Nat) : Int).fdiv (2 ^ min (Int.toNat 4) IntKind.u8.bits) = ((n / 16 : Nat) : Int) ∧ [48,49,50,51,52,53,54,55,56,57,97,98,99,100,101,(102 : UInt8)][n / 16]? = some (hexd (n / 16)) := by decide +kernel
  exact key _ (by have := b.toNat_lt; omega)
theorem hexLo (b : UInt8) : IntKind.u8.wrap ((BitVec.ofInt IntKind.u8.bits (b.toNat : Int) &&& BitVec.ofInt IntKind.u8.bits 15).toNat : Int) = ((b.toNat % 16 : Nat) : Int) ∧ [48,49,50,51,52,53,54,55,56,57,97,98,99,100,101,(102 : UInt8)][b.toNat % 16]? = some (hexd (b.toNat % 16)) := by
  have key : ∀ n : Nat,n < 256 → IntKind.u8.wrap ((BitVec.ofInt IntKind.u8.bits (n : Int) &&& BitVec.ofInt IntKind.u8.bits 15).toNat : Int) = ((n % 16 : Nat) : Int) ∧ [48,49,50,51,52,53,54,55,56,57,97,98,99,100,101,(102 : UInt8)][n % 16]? = some (hexd (n % 16)) := by decide +kernel
  exact key _ (by have := b.toNat_lt; omega)
theorem loop16 (F : Fns P E T) {s : List UInt8} {B b : Nat} (hlen : s.length ≤ 134217728) (h0 : H) {f0 : Nat} (hg0 : h0.get b = some (.cells (bytes s) 5 true false (some f0))) (K : List Fr) (Q : Po)
    (hQ : ∀ (ρ' : Nat → V) h',ρ' 3 = .ptr (some (B,0)) → Bd h' B ([34] ++ qs s) → Keeps B h0 h' → Frz h0 h' → X P E none 45 K ρ' h' Q) :
    ∀ (d k : Nat) (ρ : Nat → V) (h : H),d = s.length - k → k ≤ s.length → ρ 3 = .ptr (some (B,0)) → ρ 8 = .slice (some (b,0)) s.length s.length true → ρ 9 = .int .i64 s.length → ρ 10 = .int .i64 k →
      Bd h B ([34] ++ qs (s.take k)) → Keeps B h0 h → Frz h0 h → XL P E none 45 b16_9 (.b 0 :: K) ρ h Q := by
  intro d
  induction d with
  | zero =>
    intro k ρ h hd hk h3 h8 h9 h10 hb hkp hfz
    have hke : ¬ k < s.length := by omega
    rw [List.take_of_length_le (by omega)] at hb
    rw [u16_9]
    simp (maxSteps := 2000000) only [GO,GO2,evK,fillV,setR,binV,intOp,strOp,shOp,unV,getR,lenV,partV,V.nj,V.njL,V.cells,Nat.reduceLT,Nat.reduceEqDiff,Nat.reduceAdd,↓reduceIte,Nat.reduceLeDiff,reduceCtorEq,h9,h10,Int.ofNat_lt,hke]
    exact hQ _ _ h3 hb hkp hfz
  | succ d ih =>
    intro k ρ h hd hk h3 h8 h9 h10 hb hkp hfz
    have hke : k < s.length := by omega
    have hw : IntKind.i64.wrap ((k : Int) + 1) = ((k + 1 : Nat) : Int) := wrap_nat (n := k + 1) (by omega)
    have hg : h.get b = some (.cells (bytes s) 5 true false (some f0)) := by rw [hfz _ _ _ _ _ _ hg0]; exact hg0
    have hge : (bytes s)[k]? = some (.int .u8 s[k].toNat) := by simp [bytes,hke,byt]
    have hl1 := qs_len (s.take k)
    rw [List.length_take] at hl1
    have done : ∀ (ρ' : Nat → V) (h' : H),ρ' 3 = .ptr (some (B,0)) → ρ' 8 = .slice (some (b,0)) s.length s.length true → ρ' 9 = .int .i64 s.length → ρ' 10 = .int .i64 k → Bd h' B ([34] ++ qs (s.take k) ++ qB s[k]) → Keeps B h h' → Frz h h' →
        XO P E none 45 r16_8 (.l b16_9 :: .b 0 :: K) ρ' h' Q := by
      intro ρ' h' q3 q8 q9 q10 qb qk qz
      simp (maxSteps := 2000000) only [GO,GO2,evK,fillV,setR,binV,intOp,strOp,shOp,unV,getR,lenV,partV,V.nj,V.njL,V.cells,Nat.reduceLT,Nat.reduceEqDiff,Nat.reduceAdd,↓reduceIte,Nat.reduceLeDiff,reduceCtorEq,r16_8,q10,hw]
      refine ih (k + 1) _ h' (by omega) (by omega) q3 q8 q9 rfl ?_ (hkp.trans qk) (hfz.trans qz)
      rw [qs_take hke,← List.append_assoc]; exact qb
    have esc : ∀ (ρ' : Nat → V),ρ' 3 = .ptr (some (B,0)) → ρ' 5 = .int .u8 s[k].toNat → ρ' 8 = .slice (some (b,0)) s.length s.length true → ρ' 9 = .int .i64 s.length → ρ' 10 = .int .i64 k → (s[k].toNat = 34 ∨ s[k].toNat = 92) →
        XC P E none 45 (.func 38 [] []) [.ptr (some (B,0)),.int .u8 92] (some 23) [] (.c (.region r16_3) :: .b 2 :: .b 1 :: .c (.region r16_8) :: .l b16_9 :: .b 0 :: K) ρ' h Q := by
      intro ρ' q3 q5 q8 q9 q10 hc
      refine XC_of (writeByte' F hb (y := 92) (by simp only [List.length_append,List.length_cons,List.length_nil]; omega)) ?_
      rintro _ h1 ⟨b1,k1,z1⟩
      simp (maxSteps := 2000000) only [GO,GO2,evK,fillV,setR,binV,intOp,strOp,shOp,unV,getR,lenV,partV,V.nj,V.njL,V.cells,Nat.reduceLT,Nat.reduceEqDiff,Nat.reduceAdd,↓reduceIte,Nat.reduceLeDiff,reduceCtorEq,r16_3,q3,q5]
      refine XC_of (writeByte' F b1 (y := s[k]) (by simp only [List.length_append,List.length_cons,List.length_nil]; omega)) ?_
      rintro _ h2 ⟨b2,k2,z2⟩
      simp (maxSteps := 2000000) only [GO,GO2,evK,fillV,setR,binV,intOp,strOp,shOp,unV,getR,lenV,partV,V.nj,V.njL,V.cells,Nat.reduceLT,Nat.reduceEqDiff,Nat.reduceAdd,↓reduceIte,Nat.reduceLeDiff,reduceCtorEq]
      refine done _ h2 q3 q8 q9 q10 ?_ (k1.trans k2) (z1.trans z2)
      unfold qB
      rw [if_pos hc]
      simpa using b2
    rw [u16_9]
    simp (maxSteps := 2000000) only [GO,GO2,evK,fillV,setR,binV,intOp,strOp,shOp,unV,getR,lenV,partV,V.nj,V.njL,V.cells,Nat.reduceLT,Nat.reduceEqDiff,Nat.reduceAdd,↓reduceIte,Nat.reduceLeDiff,reduceCtorEq,r16_1,r16_2,h8,h9,h10,hg,hge,Int.ofNat_lt,hke,Int.natCast_nonneg,Int.toNat_natCast,Nat.mul_one]
    by_cases c1 : ((s[k].toNat : Int) == 34) = true
    · simp (maxSteps := 2000000) only [GO,GO2,evK,fillV,setR,binV,intOp,strOp,shOp,unV,getR,lenV,partV,V.nj,V.njL,V.cells,Nat.reduceLT,Nat.reduceEqDiff,Nat.reduceAdd,↓reduceIte,Nat.reduceLeDiff,reduceCtorEq,c1,h3]
      exact esc _ h3 rfl h8 h9 h10 (.inl (by have := beq_iff_eq.1 c1; omega))
    · have c1' : ((s[k].toNat : Int) == 34) = false := by simpa using c1
      by_cases c2 : ((s[k].toNat : Int) == 92) = true
      · simp (maxSteps := 2000000) only [GO,GO2,evK,fillV,setR,binV,intOp,strOp,shOp,unV,getR,lenV,partV,V.nj,V.njL,V.cells,Nat.reduceLT,Nat.reduceEqDiff,Nat.reduceAdd,↓reduceIte,Nat.reduceLeDiff,reduceCtorEq,c1',c2,h3]
        exact esc _ h3 rfl h8 h9 h10 (.inr (by have := beq_iff_eq.1 c2; omega))
      · have c2' : ((s[k].toNat : Int) == 92) = false := by simpa using c2
        have hn : ¬ (s[k].toNat = 34 ∨ s[k].toNat = 92) := by
          have n1 := beq_eq_false_iff_ne.1 c1'
          have n2 := beq_eq_false_iff_ne.1 c2'
          omega
        have hexc : ∀ (ρ' : Nat → V),ρ' 3 = .ptr (some (B,0)) → ρ' 5 = .int .u8 s[k].toNat → ρ' 8 = .slice (some (b,0)) s.length s.length true → ρ' 9 = .int .i64 s.length → ρ' 10 = .int .i64 k → (s[k].toNat < 32 ∨ 126 < s[k].toNat) →
            XC P E none 45 (.func 20 [] []) [.ptr (some (B,0)),.str [92,120]] (some 33) [] (.c (.seq (.region r16_5) (.region r16_6)) :: .b 2 :: .b 1 :: .c (.region r16_8) :: .l b16_9 :: .b 0 :: K) ρ' h Q := by
          intro ρ' q3 q5 q8 q9 q10 hc
          refine XC_of (writeStr' F hb (y := [92,120]) (by simp only [List.length_append,List.length_cons,List.length_nil]; omega)) ?_
          rintro _ h1 ⟨b1,k1,z1⟩
          have f1 : ¬ (4 : Int) < 0 := by decide
          obtain ⟨f2,f3⟩ := hexHi s[k]
          obtain ⟨f4,f5⟩ := hexLo s[k]
          simp (maxSteps := 2000000) only [GO,GO2,evK,fillV,setR,binV,intOp,strOp,shOp,unV,getR,lenV,partV,V.nj,V.njL,V.cells,Nat.reduceLT,Nat.reduceEqDiff,Nat.reduceAdd,↓reduceIte,Nat.reduceLeDiff,reduceCtorEq,r16_5,q3,q5,f1,f2,f3,Int.natCast_nonneg,Int.toNat_natCast]
          refine XC_of (writeByte' F b1 (y := hexd (s[k].toNat / 16)) (by simp only [List.length_append,List.length_cons,List.length_nil]; omega)) ?_
          rintro _ h2 ⟨b2,k2,z2⟩
          simp (maxSteps := 2000000) only [GO,GO2,evK,fillV,setR,binV,intOp,strOp,shOp,unV,getR,lenV,partV,V.nj,V.njL,V.cells,Nat.reduceLT,Nat.reduceEqDiff,Nat.reduceAdd,↓reduceIte,Nat.reduceLeDiff,reduceCtorEq,r16_6,q3,q5,f4,f5,Int.natCast_nonneg,Int.toNat_natCast]
          refine XC_of (writeByte' F b2 (y := hexd (s[k].toNat % 16)) (by simp only [List.length_append,List.length_cons,List.length_nil]; omega)) ?_
          rintro _ h3 ⟨b3,k3,z3⟩
          simp (maxSteps := 2000000) only [GO,GO2,evK,fillV,setR,binV,intOp,strOp,shOp,unV,getR,lenV,partV,V.nj,V.njL,V.cells,Nat.reduceLT,Nat.reduceEqDiff,Nat.reduceAdd,↓reduceIte,Nat.reduceLeDiff,reduceCtorEq]
          refine done _ h3 q3 q8 q9 q10 ?_ ((k1.trans k2).trans k3) ((z1.trans z2).trans z3)
          unfold qB
          rw [if_neg hn,if_pos hc]
          simpa using b3
        by_cases c3 : s[k].toNat < 32 ∨ 126 < s[k].toNat
        · by_cases c4 : (s[k].toNat : Int) < 32
          · simp (maxSteps := 2000000) only [GO,GO2,evK,fillV,setR,binV,intOp,strOp,shOp,unV,getR,lenV,partV,V.nj,V.njL,V.cells,Nat.reduceLT,Nat.reduceEqDiff,Nat.reduceAdd,↓reduceIte,Nat.reduceLeDiff,reduceCtorEq,c1',c2',r16_4,c4,h3]
            exact hexc _ h3 rfl h8 h9 h10 c3
          · have c5 : (s[k].toNat : Int) > 126 := by omega
            simp (maxSteps := 2000000) only [GO,GO2,evK,fillV,setR,binV,intOp,strOp,shOp,unV,getR,lenV,partV,V.nj,V.njL,V.cells,Nat.reduceLT,Nat.reduceEqDiff,Nat.reduceAdd,↓reduceIte,Nat.reduceLeDiff,reduceCtorEq,c1',c2',r16_4,c4,c5,h3]
            exact hexc _ h3 rfl h8 h9 h10 c3
        · have e3 : ¬ (s[k].toNat : Int) < 32 := by omega
          have e4 : ¬ (s[k].toNat : Int) > 126 := by omega
          simp (maxSteps := 2000000) only [GO,GO2,evK,fillV,setR,binV,intOp,strOp,shOp,unV,getR,lenV,partV,V.nj,V.njL,V.cells,Nat.reduceLT,Nat.reduceEqDiff,Nat.reduceAdd,↓reduceIte,Nat.reduceLeDiff,reduceCtorEq,c1',c2',r16_4,e3,e4,r16_7,h3]
          refine XC_of (writeByte' F hb (y := s[k]) (by simp only [List.length_append,List.length_cons,List.length_nil]; omega)) ?_
          rintro _ h1 ⟨b1,k1,z1⟩
          simp (maxSteps := 2000000) only [GO,GO2,evK,fillV,setR,binV,intOp,strOp,shOp,unV,getR,lenV,partV,V.nj,V.njL,V.cells,Nat.reduceLT,Nat.reduceEqDiff,Nat.reduceAdd,↓reduceIte,Nat.reduceLeDiff,reduceCtorEq]
          refine done _ h1 h3 h8 h9 h10 ?_ k1 z1
          unfold qB
          rw [if_neg hn,if_neg c3]
          exact b1
theorem quote16 (F : Fns P E T) {s : List UInt8} (hlen : s.length ≤ 134217728) {h : H} : Sp P E (.func 16 [] []) [.str s] h fun v h' => v = .str (quoteB s) ∧ Kp h h' := by
  have hql := qs_len s
  have hk0 : Keeps h.size h (h.psh (.cells [.ptr none,.slice none 0 0 false] 64 false false none)) := Keeps.psh (Nat.le_refl _) _
  refine Sp_fn F.f16 F.p16 (by simp [fn16]) ?_
  simp (maxSteps := 2000000) only [GO,GO2,evK,fillV,setR,binV,intOp,strOp,shOp,unV,getR,lenV,partV,V.nj,V.njL,V.cells,Nat.reduceLT,Nat.reduceEqDiff,Nat.reduceAdd,↓reduceIte,Nat.reduceLeDiff,reduceCtorEq,fn16,c16]
  refine XC_of (writeByte F ⟨_,Bdv.new h⟩ (y := 34) (by simp)) ?_
  rintro _ h1 ⟨b1,k1⟩
  simp (maxSteps := 2000000) only [GO,GO2,evK,fillV,setR,binV,intOp,strOp,shOp,unV,getR,lenV,partV,V.nj,V.njL,V.cells,Nat.reduceLT,Nat.reduceEqDiff,Nat.reduceAdd,↓reduceIte,Nat.reduceLeDiff,reduceCtorEq,r16_0]
  have hk2 : Kp h1 (h1.psh (.cells (bytes s) 5 true false (some 0))) := Keeps.psh (Nat.le_refl _) _
  refine loop16 F hlen (h1.psh (.cells (bytes s) 5 true false (some 0))) (psh_same _ _) _ _ (fun ρ' h2 w3 b2 k2 _ => ?_) s.length 0 _ _ (by omega) (by omega) rfl rfl rfl rfl (b1.keep hk2) (Keeps.refl _ _) (Frz.refl _)
  simp (maxSteps := 2000000) only [GO,GO2,evK,fillV,setR,binV,intOp,strOp,shOp,unV,getR,lenV,partV,V.nj,V.njL,V.cells,Nat.reduceLT,Nat.reduceEqDiff,Nat.reduceAdd,↓reduceIte,Nat.reduceLeDiff,reduceCtorEq,w3]
  refine XC_of (writeByte F b2 (y := 34) (by simp only [List.length_append,List.length_cons,List.length_nil]; omega)) ?_
  rintro _ h3 ⟨b3,k3⟩
  simp (maxSteps := 2000000) only [GO,GO2,evK,fillV,setR,binV,intOp,strOp,shOp,unV,getR,lenV,partV,V.nj,V.njL,V.cells,Nat.reduceLT,Nat.reduceEqDiff,Nat.reduceAdd,↓reduceIte,Nat.reduceLeDiff,reduceCtorEq,r16_10,w3]
  refine XC_of (bdString F b3 (by simp only [List.length_append,List.length_cons,List.length_nil]; omega)) ?_
  rintro _ h4 ⟨rfl,k4⟩
  simp (maxSteps := 2000000) only [GO,GO2,evK,fillV,setR,binV,intOp,strOp,shOp,unV,getR,lenV,partV,V.nj,V.njL,V.cells,Nat.reduceLT,Nat.reduceEqDiff,Nat.reduceAdd,↓reduceIte,Nat.reduceLeDiff,reduceCtorEq]
  refine ⟨rfl,?_⟩
  have kk : Keeps h.size h1 (h1.psh (.cells (bytes s) 5 true false (some 0))) := hk2.mono (Nat.le_trans hk0.size k1.size)
  exact ((((hk0.trans k1).trans kk).trans k2).trans k3).trans k4
end Go.AM.Sc
namespace Go.AM.Sc
open Go.AM
variable {P : Program} {E : Env} {T : H → Prop}
theorem runeB (b : UInt8) (hb : b.toNat < 128) : (Utf8.encode (IntKind.i32.wrap (b.toNat : Int))).data.toList = [b] := by
  have key : ∀ n : Nat,n < 128 → (Utf8.encode (IntKind.i32.wrap ((n : Nat) : Int))).data.toList = [UInt8.ofNat n] := by decide +kernel
  have := key _ hb
  simpa using this
theorem hexd_lt (n : Nat) : (hexd n).toNat < 128 := by
  by_cases h : n < 16
  · have key : ∀ n : Nat,n < 16 → (hexd n).toNat < 128 := by decide
    exact key n h
  · have : hexd n = 0 := by
      unfold hexd
      rw [List.getD_eq_getElem?_getD,List.getElem?_eq_none (by simp [hexs]; omega)]; rfl
    rw [this]; decide
theorem hexHi' (b : UInt8) : IntKind.u8.wrap ((b.toNat : Int).tdiv 16) = ((b.toNat / 16 : Nat) : Int) := by
  have key : ∀ n : Nat,n < 256 → IntKind.u8.wrap (((n : Nat) : Int).tdiv 16) = ((n / 16 : Nat) : Int) := by decide +kernel
  exact key _ (by have := b.toNat_lt; omega)
theorem hexLo' (b : UInt8) : (b.toNat : Int).tmod 16 = ((b.toNat % 16 : Nat) : Int) := rfl
theorem loop17 {s : List UInt8} (hlen : s.length ≤ 134217728) (h : H) (K : List Fr) (Q : Po)
    (hQ : ∀ (ρ' : Nat → V),ρ' 3 = .str ([34] ++ qs s) → X P E none 56 K ρ' h Q) :
    ∀ (d k : Nat) (ρ : Nat → V),d = s.length - k → k ≤ s.length → ρ 0 = .str s → ρ 4 = .int .i64 k → ρ 3 = .str ([34] ++ qs (s.take k)) →
      XL P E none 56 b17_8 (.b 0 :: K) ρ h Q := by
  intro d
  induction d with
  | zero =>
    intro k ρ hd hk h0 h4 h3
    have hke : ¬ k < s.length := by omega
    rw [List.take_of_length_le (by omega)] at h3
    rw [u17_8]
    simp (maxSteps := 2000000) only [GO,GO2,evK,fillV,setR,binV,intOp,strOp,shOp,unV,getR,lenV,partV,V.nj,V.njL,V.cells,Nat.reduceLT,Nat.reduceEqDiff,Nat.reduceAdd,↓reduceIte,Nat.reduceLeDiff,reduceCtorEq,r17_0,h0,h4,Int.ofNat_lt,hke]
    exact hQ _ h3
  | succ d ih =>
    intro k ρ hd hk h0 h4 h3
    have hke : k < s.length := by omega
    have hw : IntKind.i64.wrap ((k : Int) + 1) = ((k + 1 : Nat) : Int) := wrap_nat (n := k + 1) (by omega)
    have hge : s[k]? = some s[k] := by simp [hke]
    have hl1 := qs_len (s.take k)
    rw [List.length_take] at hl1
    have done : ∀ (ρ' : Nat → V),ρ' 0 = .str s → ρ' 4 = .int .i64 k → ρ' 3 = .str ([34] ++ qs (s.take k) ++ qB s[k]) → XO P E none 56 r17_7 (.l b17_8 :: .b 0 :: K) ρ' h Q := by
      intro ρ' q0 q4 q3
      simp (maxSteps := 2000000) only [GO,GO2,evK,fillV,setR,binV,intOp,strOp,shOp,unV,getR,lenV,partV,V.nj,V.njL,V.cells,Nat.reduceLT,Nat.reduceEqDiff,Nat.reduceAdd,↓reduceIte,Nat.reduceLeDiff,reduceCtorEq,r17_7,q4,hw]
      refine ih (k + 1) _ (by omega) (by omega) ?_ ?_ ?_
      · exact q0
      · rfl
      · rw [qs_take hke,← List.append_assoc]; exact q3
    have l1 : (qs (s.take k)).length + 1 + 2 ≤ 9223372036854775807 := by omega
    have l2 : (qs (s.take k)).length + 1 + 1 ≤ 9223372036854775807 := by omega
    have l4 : (qs (s.take k)).length + 1 + 4 ≤ 9223372036854775807 := by omega
    have f1 : ¬ (16 : Int) = 0 := by decide
    have f2 := hexHi' s[k]
    have f3 := (hexHi s[k]).2
    have f4 := hexLo' s[k]
    have f5 := (hexLo s[k]).2
    have f6 := runeB _ (hexd_lt (s[k].toNat / 16))
    have f7 := runeB _ (hexd_lt (s[k].toNat % 16))
    rw [u17_8]
    simp (maxSteps := 2000000) only [GO,GO2,evK,fillV,setR,binV,intOp,strOp,shOp,unV,getR,lenV,partV,V.nj,V.njL,V.cells,Nat.reduceLT,Nat.reduceEqDiff,Nat.reduceAdd,↓reduceIte,Nat.reduceLeDiff,reduceCtorEq,r17_0,r17_1,r17_2,h0,h4,hge,Int.ofNat_lt,hke,Int.natCast_nonneg,Int.toNat_natCast]
    by_cases c1 : ((s[k].toNat : Int) == 34) = true
    · have hr := runeB s[k] (by have := beq_iff_eq.1 c1; omega)
      simp (maxSteps := 2000000) only [GO,GO2,evK,fillV,setR,binV,intOp,strOp,shOp,unV,getR,lenV,partV,V.nj,V.njL,V.cells,Nat.reduceLT,Nat.reduceEqDiff,Nat.reduceAdd,↓reduceIte,Nat.reduceLeDiff,reduceCtorEq,c1,h3,r17_3,hr,l1]
      refine done _ ?_ ?_ ?_
      · exact h0
      · exact h4
      · unfold qB
        rw [if_pos (.inl (by have := beq_iff_eq.1 c1; omega))]
        show V.str _ = _
        simp
    · have c1' : ((s[k].toNat : Int) == 34) = false := by simpa using c1
      by_cases c2 : ((s[k].toNat : Int) == 92) = true
      · have hr := runeB s[k] (by have := beq_iff_eq.1 c2; omega)
        simp (maxSteps := 2000000) only [GO,GO2,evK,fillV,setR,binV,intOp,strOp,shOp,unV,getR,lenV,partV,V.nj,V.njL,V.cells,Nat.reduceLT,Nat.reduceEqDiff,Nat.reduceAdd,↓reduceIte,Nat.reduceLeDiff,reduceCtorEq,c1',c2,h3,r17_3,hr,l1]
        refine done _ ?_ ?_ ?_
        · exact h0
        · exact h4
        · unfold qB
          rw [if_pos (.inr (by have := beq_iff_eq.1 c2; omega))]
          show V.str _ = _
          simp
      · have c2' : ((s[k].toNat : Int) == 92) = false := by simpa using c2
        have hn : ¬ (s[k].toNat = 34 ∨ s[k].toNat = 92) := by
          have n1 := beq_eq_false_iff_ne.1 c1'
          have n2 := beq_eq_false_iff_ne.1 c2'
          omega
        by_cases c3 : s[k].toNat < 32 ∨ 126 < s[k].toNat
        · by_cases c4 : (s[k].toNat : Int) < 32
          · have c6 : ¬ (s[k].toNat : Int) ≥ 32 := by omega
            simp (maxSteps := 2000000) only [GO,GO2,evK,fillV,setR,binV,intOp,strOp,shOp,unV,getR,lenV,partV,V.nj,V.njL,V.cells,Nat.reduceLT,Nat.reduceEqDiff,Nat.reduceAdd,↓reduceIte,Nat.reduceLeDiff,reduceCtorEq,c1',c2',r17_4,c6,h3]
            rw [X_draw,d17_6]
            simp (maxSteps := 2000000) only [GO,GO2,evK,fillV,setR,binV,intOp,strOp,shOp,unV,getR,lenV,partV,V.nj,V.njL,V.cells,Nat.reduceLT,Nat.reduceEqDiff,Nat.reduceAdd,↓reduceIte,Nat.reduceLeDiff,reduceCtorEq,r17_6,h3,f1,f2,f3,f4,f5,f6,f7,Int.natCast_nonneg,Int.toNat_natCast,l4]
            refine done _ ?_ ?_ ?_
            · exact h0
            · exact h4
            · unfold qB
              rw [if_neg hn,if_pos c3]
              show V.str _ = _
              simp
          · have c5 : (s[k].toNat : Int) ≥ 32 := by omega
            have c6 : ¬ (s[k].toNat : Int) ≤ 126 := by omega
            simp (maxSteps := 2000000) only [GO,GO2,evK,fillV,setR,binV,intOp,strOp,shOp,unV,getR,lenV,partV,V.nj,V.njL,V.cells,Nat.reduceLT,Nat.reduceEqDiff,Nat.reduceAdd,↓reduceIte,Nat.reduceLeDiff,reduceCtorEq,c1',c2',r17_4,c5,c6,h3]
            rw [X_draw,d17_6]
            simp (maxSteps := 2000000) only [GO,GO2,evK,fillV,setR,binV,intOp,strOp,shOp,unV,getR,lenV,partV,V.nj,V.njL,V.cells,Nat.reduceLT,Nat.reduceEqDiff,Nat.reduceAdd,↓reduceIte,Nat.reduceLeDiff,reduceCtorEq,r17_6,h3,f1,f2,f3,f4,f5,f6,f7,Int.natCast_nonneg,Int.toNat_natCast,l4]
            refine done _ ?_ ?_ ?_
            · exact h0
            · exact h4
            · unfold qB
              rw [if_neg hn,if_pos c3]
              show V.str _ = _
              simp
        · have e3 : (s[k].toNat : Int) ≥ 32 := by omega
          have e4 : (s[k].toNat : Int) ≤ 126 := by omega
          have hr := runeB s[k] (by omega)
          simp (maxSteps := 2000000) only [GO,GO2,evK,fillV,setR,binV,intOp,strOp,shOp,unV,getR,lenV,partV,V.nj,V.njL,V.cells,Nat.reduceLT,Nat.reduceEqDiff,Nat.reduceAdd,↓reduceIte,Nat.reduceLeDiff,reduceCtorEq,c1',c2',r17_4,e3,e4,r17_5,h3,hr,l2]
          refine done _ ?_ ?_ ?_
          · exact h0
          · exact h4
          · unfold qB
            rw [if_neg hn,if_neg c3]
            show V.str _ = _
            simp
theorem quote17 (F : Fns P E T) {s : List UInt8} (hlen : s.length ≤ 134217728) {h : H} : Sp P E (.func 17 [] []) [.str s] h fun v h' => v = .str (quoteB s) ∧ h' = h := by
  have hql := qs_len s
  have l2 : (qs s).length + 1 + 1 ≤ 9223372036854775807 := by omega
  refine Sp_fn F.f17 F.p17 (by simp [fn17]) ?_
  simp (maxSteps := 2000000) only [GO,GO2,evK,fillV,setR,binV,intOp,strOp,shOp,unV,getR,lenV,partV,V.nj,V.njL,V.cells,Nat.reduceLT,Nat.reduceEqDiff,Nat.reduceAdd,↓reduceIte,Nat.reduceLeDiff,reduceCtorEq,fn17,c17]
  refine loop17 hlen h _ _ (fun ρ' w3 => ?_) s.length 0 _ (by omega) (by omega) ?_ ?_ ?_
  · simp (maxSteps := 2000000) only [GO,GO2,evK,fillV,setR,binV,intOp,strOp,shOp,unV,getR,lenV,partV,V.nj,V.njL,V.cells,Nat.reduceLT,Nat.reduceEqDiff,Nat.reduceAdd,↓reduceIte,Nat.reduceLeDiff,reduceCtorEq,r17_9,w3,l2]
    simp [quoteB]
  all_goals rfl
end Go.AM.Sc
