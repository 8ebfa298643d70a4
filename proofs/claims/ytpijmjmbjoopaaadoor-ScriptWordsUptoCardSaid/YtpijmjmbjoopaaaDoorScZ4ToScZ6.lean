/- My own texts of the evaluator, its soundness and its symbolic runs, laid for this claim. -/
import Derived.Test.YtpijmjmbjoopaaaDoorScZToScZ3
import Derived.Test.YtpijmjmbjoopaaaDoorScVScCode2
set_option linter.unusedSimpArgs false
set_option linter.unusedVariables false
namespace Go.AM.Sc
open Go.AM
variable {P : Program} {E : Env} {T : H → Prop}
def dec15 : List UInt8 → List UInt8
  | [] => []
  | [_] => []
  | c :: d :: r =>
    if c.toNat = 92 then
      match r with
      | a :: b :: e :: r' => if d.toNat = 120 ∧ hx a < 16 ∧ hx b < 16 then UInt8.ofNat (16 * hx a + hx b) :: dec15 (e :: r') else d :: dec15 (a :: b :: e :: r')
      | r => d :: dec15 r
    else c :: dec15 (d :: r)
theorem dec15_1 {c d : UInt8} {r : List UInt8} (h : ¬ c.toNat = 92) : dec15 (c :: d :: r) = c :: dec15 (d :: r) := by
  conv => lhs; unfold dec15
  rw [if_neg h]
theorem dec15_2 {c d : UInt8} {r : List UInt8} (hc : c.toNat = 92) (h : r.length < 3 ∨ ¬ d.toNat = 120) : dec15 (c :: d :: r) = d :: dec15 r := by
  conv => lhs; unfold dec15
  rw [if_pos hc]
  match r,h with
  | [],_ => rfl
  | [_],_ => rfl
  | [_,_],_ => rfl
  | a :: b :: e :: r,.inl h => simp at h; omega
  | a :: b :: e :: r,.inr h => simp only [h,false_and,if_false]
theorem dec15_3 {c d a b e : UInt8} {r : List UInt8} (hc : c.toNat = 92) (h : ¬ (hx a < 16 ∧ hx b < 16)) : dec15 (c :: d :: a :: b :: e :: r) = d :: dec15 (a :: b :: e :: r) := by
  conv => lhs; unfold dec15
  rw [if_pos hc]
  simp only [h,and_false,if_false]
theorem dec15_4 {c d a b e : UInt8} {r : List UInt8} (hc : c.toNat = 92) (h : d.toNat = 120 ∧ hx a < 16 ∧ hx b < 16) : dec15 (c :: d :: a :: b :: e :: r) = UInt8.ofNat (16 * hx a + hx b) :: dec15 (e :: r) := by
  conv => lhs; unfold dec15
  rw [if_pos hc]
  exact if_pos h
theorem dec15_len : ∀ (n : Nat) (l : List UInt8),l.length ≤ n → (dec15 l).length ≤ l.length := by
  intro n
  induction n with
  | zero => intro l h; have : l = [] := List.eq_nil_of_length_eq_zero (by omega); subst this; simp [dec15]
  | succ n ih =>
    intro l h
    match l with
    | [] => simp [dec15]
    | [c] => simp [dec15]
    | c :: d :: r =>
      simp only [List.length_cons] at h
      have hr := ih r (by omega)
      have hdr := ih (d :: r) (by simp only [List.length_cons]; omega)
      by_cases hc : c.toNat = 92
      · by_cases hd : d.toNat = 120 ∧ 3 ≤ r.length
        · match r,hd with
          | a :: b :: e :: r,hd =>
            by_cases hh : hx a < 16 ∧ hx b < 16
            · rw [dec15_4 hc ⟨hd.1,hh⟩]
              simp only [List.length_cons] at h ⊢
              have := ih (e :: r) (by simp only [List.length_cons]; omega)
              simp only [List.length_cons] at this; omega
            · rw [dec15_3 hc hh]
              simp only [List.length_cons] at hr ⊢; omega
        · rw [dec15_2 hc (by omega)]
          simp only [List.length_cons]; omega
      · rw [dec15_1 hc]
        simp only [List.length_cons] at hdr ⊢; omega
theorem loop15 (F : Fnz P E T) {s : List UInt8} (hlen : s.length ≤ 134217728) (h0 : H) (K : List Fr) (Q : Po)
    (hQ : ∀ (ρ' : Nat → V) h',ρ' 0 = .str s → Buf h' h0.size (ρ' 4) (dec15 (s.drop 1)) → Kp h0 h' → X P E none 98 K ρ' h' Q) :
    ∀ (d k : Nat) (o : List UInt8) (ρ : Nat → V) (h : H),s.length - k ≤ d → k ≤ s.length → o.length ≤ k → o ++ dec15 (s.drop k) = dec15 (s.drop 1) → ρ 0 = .str s → ρ 5 = .int .i64 k → Buf h h0.size (ρ 4) o → Kp h0 h →
      XL P E none 98 b15_12 (.b 0 :: K) ρ h Q := by
  intro d
  induction d with
  | zero =>
    intro k o ρ h hd hk ho hoo q0 q5 hb hkp
    have hwl : IntKind.i64.wrap ((s.length : Int) - 1) = (s.length : Int) - 1 := wrap_le (by omega) (by omega)
    have hke : ¬ (k : Int) < (s.length : Int) - 1 := by omega
    rw [List.drop_eq_nil_of_le (by omega)] at hoo
    simp only [dec15,List.append_nil] at hoo
    subst hoo
    rw [u15_12]
    simp (maxSteps := 2000000) only [GO,GO2,evK,fillV,setR,binV,intOp,strOp,shOp,unV,getR,lenV,partV,V.nj,V.njL,V.cells,Nat.reduceLT,Nat.reduceEqDiff,Nat.reduceAdd,↓reduceIte,Nat.reduceLeDiff,reduceCtorEq,r15_3,q0,q5,hwl,hke]
    exact hQ _ _ q0 hb hkp
  | succ d ih =>
    intro k o ρ h hd hk ho hoo q0 q5 hb hkp
    have hwl : IntKind.i64.wrap ((s.length : Int) - 1) = (s.length : Int) - 1 := wrap_le (by omega) (by omega)
    by_cases hke : (k : Int) < (s.length : Int) - 1
    rotate_left
    · have hz : dec15 (List.drop k s) = [] := by
        have hl : (List.drop k s).length ≤ 1 := by rw [List.length_drop]; omega
        match List.drop k s,hl with
        | [],_ => rfl
        | [_],_ => rfl
        | _ :: _ :: _,h => simp at h
      rw [hz,List.append_nil] at hoo
      subst hoo
      rw [u15_12]
      simp (maxSteps := 2000000) only [GO,GO2,evK,fillV,setR,binV,intOp,strOp,shOp,unV,getR,lenV,partV,V.nj,V.njL,V.cells,Nat.reduceLT,Nat.reduceEqDiff,Nat.reduceAdd,↓reduceIte,Nat.reduceLeDiff,reduceCtorEq,r15_3,q0,q5,hwl,hke]
      exact hQ _ _ q0 hb hkp
    have hkk : k < s.length := by omega
    have hk1 : k + 1 < s.length := by omega
    have done : ∀ (ρ' : Nat → V) (h' : H) (j : Nat) (y : UInt8),ρ' 0 = .str s → ρ' 5 = .int .i64 j → k ≤ j → j < s.length → (o ++ [y]) ++ dec15 (s.drop (j + 1)) = dec15 (s.drop 1) → Buf h' h0.size (ρ' 4) (o ++ [y]) → Kp h0 h' →
        XO P E none 98 r15_11 (.l b15_12 :: .b 0 :: K) ρ' h' Q := by
      intro ρ' h' j y w0 w5 hj hj2 hoo' hb' hk'
      have hw : IntKind.i64.wrap ((j : Int) + 1) = ((j + 1 : Nat) : Int) := wrap_nat (n := j + 1) (by omega)
      simp (maxSteps := 2000000) only [GO,GO2,evK,fillV,setR,binV,intOp,strOp,shOp,unV,getR,lenV,partV,V.nj,V.njL,V.cells,Nat.reduceLT,Nat.reduceEqDiff,Nat.reduceAdd,↓reduceIte,Nat.reduceLeDiff,reduceCtorEq,r15_11,w5,hw]
      exact ih (j + 1) (o ++ [y]) _ _ (by omega) (by omega) (by simp only [List.length_append,List.length_cons,List.length_nil]; omega) hoo' w0 rfl hb' hk'
    have hsz := hkp.size
    have hge : s[k]? = some s[k] := by simp [hkk]
    have hge1 : s[k + 1]? = some s[k + 1] := by simp [hk1]
    have hdk := List.drop_eq_getElem_cons hkk
    have hdk1 := List.drop_eq_getElem_cons hk1
    have hw1 : IntKind.i64.wrap ((k : Int) + 1) = ((k + 1 : Nat) : Int) := wrap_nat (n := k + 1) (by omega)
    rw [u15_12]
    by_cases c1 : ((s[k].toNat : Int) != 92) = true
    · have hne : ¬ s[k].toNat = 92 := by have := bne_iff_ne.1 c1; omega
      obtain ⟨v',h2,e1,e2,e3⟩ := app1 (y := s[k]) hb hsz (by omega)
      simp (maxSteps := 2000000) only [GO,GO2,evK,fillV,setR,binV,intOp,strOp,shOp,unV,getR,lenV,partV,V.nj,V.njL,V.cells,Nat.reduceLT,Nat.reduceEqDiff,Nat.reduceAdd,↓reduceIte,Nat.reduceLeDiff,reduceCtorEq,r15_3,r15_4,r15_5,q0,q5,hwl,hke,hge,Int.natCast_nonneg,Int.toNat_natCast,c1,e1]
      refine done _ h2 k s[k] q0 q5 (Nat.le_refl _) hkk ?_ e2 (Keeps.trans hkp e3)
      rw [List.append_assoc,← hoo,hdk,hdk1,dec15_1 hne]; rfl
    have c1' : ((s[k].toNat : Int) != 92) = false := by simpa using c1
    have hc92 : s[k].toNat = 92 := by
      have := c1'
      simp at this; omega
    have esc : ∀ ρ' : Nat → V,ρ' 0 = .str s → ρ' 5 = .int .i64 ((k + 1 : Nat) : Int) → Buf h h0.size (ρ' 4) o → dec15 (s.drop k) = s[k + 1] :: dec15 (s.drop (k + 1 + 1)) →
        XO P E none 98 r15_10 (.b 1 :: .c (.region r15_11) :: .l b15_12 :: .b 0 :: K) ρ' h Q := by
      intro ρ' w0 w5 hb' hdd
      obtain ⟨v',h2,e1,e2,e3⟩ := app1 (y := s[k + 1]) hb' hsz (by omega)
      simp (maxSteps := 2000000) only [GO,GO2,evK,fillV,setR,binV,intOp,strOp,shOp,unV,getR,lenV,partV,V.nj,V.njL,V.cells,Nat.reduceLT,Nat.reduceEqDiff,Nat.reduceAdd,↓reduceIte,Nat.reduceLeDiff,reduceCtorEq,r15_10,w0,w5,hge1,Int.natCast_nonneg,Int.toNat_natCast,e1]
      refine done _ h2 (k + 1) s[k + 1] w0 w5 (by omega) hk1 ?_ e2 (Keeps.trans hkp e3)
      rw [List.append_assoc,← hoo,hdd]; rfl
    have hw3 : IntKind.i64.wrap ((s.length : Int) - 3) = (s.length : Int) - 3 := wrap_le (by omega) (by omega)
    by_cases c2 : ((k + 1 : Nat) : Int) < (s.length : Int) - 3
    rotate_left
    · simp (maxSteps := 2000000) only [GO,GO2,evK,fillV,setR,binV,intOp,strOp,shOp,unV,getR,lenV,partV,V.nj,V.njL,V.cells,Nat.reduceLT,Nat.reduceEqDiff,Nat.reduceAdd,↓reduceIte,Nat.reduceLeDiff,reduceCtorEq,r15_3,r15_4,r15_6,r15_7,q0,q5,hwl,hke,hge,Int.natCast_nonneg,Int.toNat_natCast,c1',hw1,hw3,c2]
      exact esc _ q0 rfl hb (by rw [hdk,hdk1,dec15_2 hc92 (.inl (by rw [List.length_drop]; omega))])
    by_cases c3 : ((s[k + 1].toNat : Int) == 120) = true
    rotate_left
    · have c3' : ((s[k + 1].toNat : Int) == 120) = false := by simpa using c3
      have hne : ¬ s[k + 1].toNat = 120 := by have := beq_eq_false_iff_ne.1 c3'; omega
      simp (maxSteps := 2000000) only [GO,GO2,evK,fillV,setR,binV,intOp,strOp,shOp,unV,getR,lenV,partV,V.nj,V.njL,V.cells,Nat.reduceLT,Nat.reduceEqDiff,Nat.reduceAdd,↓reduceIte,Nat.reduceLeDiff,reduceCtorEq,r15_3,r15_4,r15_6,r15_7,q0,q5,hwl,hke,hge,hge1,Int.natCast_nonneg,Int.toNat_natCast,c1',hw1,hw3,c2,c3']
      exact esc _ q0 rfl hb (by rw [hdk,hdk1,dec15_2 hc92 (.inr hne)])
    have hc120 : s[k + 1].toNat = 120 := by have := beq_iff_eq.1 c3; omega
    have hk2 : k + 2 < s.length := by omega
    have hk3 : k + 3 < s.length := by omega
    have hk4 : k + 4 < s.length := by omega
    have hge2 : s[k + 2]? = some s[k + 2] := by simp [hk2]
    have hge3 : s[k + 3]? = some s[k + 3] := by simp [hk3]
    have hdk2 := List.drop_eq_getElem_cons hk2
    have hdk3 := List.drop_eq_getElem_cons hk3
    have hdk4 := List.drop_eq_getElem_cons hk4
    have hw2 : IntKind.i64.wrap (((k + 1 : Nat) : Int) + 1) = ((k + 2 : Nat) : Int) := wrap_nat (n := k + 2) (by omega)
    have hw4 : IntKind.i64.wrap (((k + 1 : Nat) : Int) + 2) = ((k + 3 : Nat) : Int) := wrap_nat (n := k + 3) (by omega)
    simp (maxSteps := 2000000) only [GO,GO2,evK,fillV,setR,binV,intOp,strOp,shOp,unV,getR,lenV,partV,V.nj,V.njL,V.cells,Nat.reduceLT,Nat.reduceEqDiff,Nat.reduceAdd,↓reduceIte,Nat.reduceLeDiff,reduceCtorEq,r15_3,r15_4,r15_6,r15_7,q0,q5,hwl,hke,hge,hge1,Int.natCast_nonneg,Int.toNat_natCast,c1',hw1,hw2,hw3,c2,c3,hge2]
    refine XC_of (hex37 F) ?_
    rintro _ h1 ⟨rfl,rfl⟩
    by_cases c5 : (hx s[k + 2] : Int) < 16
    rotate_left
    · simp (maxSteps := 2000000) only [GO,GO2,evK,fillV,setR,binV,intOp,strOp,shOp,unV,getR,lenV,partV,V.nj,V.njL,V.cells,Nat.reduceLT,Nat.reduceEqDiff,Nat.reduceAdd,↓reduceIte,Nat.reduceLeDiff,reduceCtorEq,c5]
      exact esc _ q0 rfl hb (by rw [hdk,hdk1,hdk2,hdk3,hdk4,dec15_3 hc92 (by omega)])
    simp (maxSteps := 2000000) only [GO,GO2,evK,fillV,setR,binV,intOp,strOp,shOp,unV,getR,lenV,partV,V.nj,V.njL,V.cells,Nat.reduceLT,Nat.reduceEqDiff,Nat.reduceAdd,↓reduceIte,Nat.reduceLeDiff,reduceCtorEq,c5,q0,hw4,hge3,Int.natCast_nonneg,Int.toNat_natCast]
    refine XC_of (hex37 F) ?_
    rintro _ h1 ⟨rfl,rfl⟩
    by_cases c6 : (hx s[k + 3] : Int) < 16
    rotate_left
    · simp (maxSteps := 2000000) only [GO,GO2,evK,fillV,setR,binV,intOp,strOp,shOp,unV,getR,lenV,partV,V.nj,V.njL,V.cells,Nat.reduceLT,Nat.reduceEqDiff,Nat.reduceAdd,↓reduceIte,Nat.reduceLeDiff,reduceCtorEq,c6]
      exact esc _ q0 rfl hb (by rw [hdk,hdk1,hdk2,hdk3,hdk4,dec15_3 hc92 (by omega)])
    simp (maxSteps := 2000000) only [GO,GO2,evK,fillV,setR,binV,intOp,strOp,shOp,unV,getR,lenV,partV,V.nj,V.njL,V.cells,Nat.reduceLT,Nat.reduceEqDiff,Nat.reduceAdd,↓reduceIte,Nat.reduceLeDiff,reduceCtorEq,c6]
    have f1 : IntKind.u8.wrap (16 * ((hx s[k + 2] : Nat) : Int)) = ((16 * hx s[k + 2] : Nat) : Int) := by
      have key : ∀ n : Nat,n < 16 → IntKind.u8.wrap (16 * (n : Int)) = ((16 * n : Nat) : Int) := by decide +kernel
      exact key _ (by omega)
    have f2 : IntKind.u8.wrap (((16 * hx s[k + 2] : Nat) : Int) + ((hx s[k + 3] : Nat) : Int)) = (((UInt8.ofNat (16 * hx s[k + 2] + hx s[k + 3])).toNat : Nat) : Int) := by
      have key : ∀ n : Nat,n < 256 → IntKind.u8.wrap (n : Int) = (((UInt8.ofNat n).toNat : Nat) : Int) := by decide +kernel
      rw [← Int.natCast_add]; exact key _ (by omega)
    have hw5 : IntKind.i64.wrap (((k + 1 : Nat) : Int) + 2) = ((k + 3 : Nat) : Int) := hw4
    obtain ⟨v',h2,e1,e2,e3,e4⟩ := app1s (y := UInt8.ofNat (16 * hx s[k + 2] + hx s[k + 3])) hb hsz (by omega)
    rw [X_draw]
    refine k15_8 h0.size (XDJ_XDK ?_)
    simp (maxSteps := 2000000) only [GO,GO2,evK,fillV,setR,binV,intOp,strOp,shOp,unV,getR,lenV,partV,V.nj,V.njL,V.cells,Nat.reduceLT,Nat.reduceEqDiff,Nat.reduceAdd,↓reduceIte,Nat.reduceLeDiff,reduceCtorEq,r15_8,q0,hw2,hge2,Int.natCast_nonneg,Int.toNat_natCast]
    refine XCJ_of (hex37 F) ?_
    rintro _ h3 ⟨rfl,rfl⟩
    refine ⟨Keeps.refl _ _,?_⟩
    simp (maxSteps := 2000000) only [GO,GO2,evK,fillV,setR,binV,intOp,strOp,shOp,unV,getR,lenV,partV,V.nj,V.njL,V.cells,Nat.reduceLT,Nat.reduceEqDiff,Nat.reduceAdd,↓reduceIte,Nat.reduceLeDiff,reduceCtorEq,q0,hw4,hge3,f1,Int.natCast_nonneg,Int.toNat_natCast]
    refine XCJ_of (hex37 F) ?_
    rintro _ h3 ⟨rfl,rfl⟩
    refine ⟨Keeps.refl _ _,?_⟩
    simp (maxSteps := 2000000) only [GO,GO2,evK,fillV,setR,binV,intOp,strOp,shOp,unV,getR,lenV,partV,V.nj,V.njL,V.cells,Nat.reduceLT,Nat.reduceEqDiff,Nat.reduceAdd,↓reduceIte,Nat.reduceLeDiff,reduceCtorEq,f2,e1]
    refine ⟨e3,e4,?_⟩
    simp (maxSteps := 2000000) only [GO,GO2,evK,fillV,setR,binV,intOp,strOp,shOp,unV,getR,lenV,partV,V.nj,V.njL,V.cells,Nat.reduceLT,Nat.reduceEqDiff,Nat.reduceAdd,↓reduceIte,Nat.reduceLeDiff,reduceCtorEq,r15_9,hw4]
    exact done _ h2 (k + 3) _ q0 rfl (by omega) hk3 (by
      rw [List.append_assoc,← hoo,hdk,hdk1,hdk2,hdk3,hdk4,dec15_4 hc92 ⟨hc120,by omega,by omega⟩]; rfl) e2 (Keeps.trans hkp (e3.trans e4))
def okEnds (s : List UInt8) : Prop := 2 ≤ s.length ∧ (s.head?.map UInt8.toNat) = some 34 ∧ (s.getLast?.map UInt8.toNat) = some 34
instance (s : List UInt8) : Decidable (okEnds s) := by unfold okEnds; infer_instance
theorem unquote15 (F : Fnz P E T) {s : List UInt8} (hlen : s.length ≤ 134217728) {h : H} : Sp P E (.func 15 [] []) [.str s] h fun v h' => v = (if okEnds s then unqV (dec15 (s.drop 1)) s else .tup [.str [],.bool false]) ∧ Kp h h' := by
  have hdl := dec15_len _ _ (Nat.le_refl (s.drop 1).length)
  rw [List.length_drop] at hdl
  refine Sp_fn F.f15 F.p15 (by simp [fn15]) ?_
  have bad : ¬ okEnds s → ∀ ρ : Nat → V,XO P E none 98 r15_2 [.c .ret,.c (.seq (.region [⟨some 4,.mv (.k (.slice none 0 0 false)),none,0,[4]⟩]) (.seq (.seq (.region [⟨some 5,.mv (.k (.int .i64 1)),none,0,[5]⟩]) (.block 0 (.loop b15_12))) (.seq (.seq (.region r15_13) (.cond (.t 95) (.seq (.region r15_14) (.ret)) (.skip))) (.seq (.region r15_15) (.ret)))))] ρ h (Fin [.t 2,.t 3] fun v h' => v = (if okEnds s then unqV (dec15 (s.drop 1)) s else .tup [.str [],.bool false]) ∧ Kp h h') := by
    intro hn ρ
    rw [if_neg hn]
    simp (maxSteps := 2000000) only [GO,GO2,evK,fillV,setR,binV,intOp,strOp,shOp,unV,getR,lenV,partV,V.nj,V.njL,V.cells,Nat.reduceLT,Nat.reduceEqDiff,Nat.reduceAdd,↓reduceIte,Nat.reduceLeDiff,reduceCtorEq,r15_2]
    exact Keeps.refl _ _
  by_cases c1 : (s.length : Int) < 2
  · simp (maxSteps := 2000000) only [GO,GO2,evK,fillV,setR,binV,intOp,strOp,shOp,unV,getR,lenV,partV,V.nj,V.njL,V.cells,Nat.reduceLT,Nat.reduceEqDiff,Nat.reduceAdd,↓reduceIte,Nat.reduceLeDiff,reduceCtorEq,fn15,c15,r15_0,r15_1,c1]
    exact bad (fun ⟨a,_⟩ => by omega) _
  have h0 : 0 < s.length := by omega
  have hl1 : s.length - 1 < s.length := by omega
  have hwl : IntKind.i64.wrap ((s.length : Int) - 1) = ((s.length - 1 : Nat) : Int) := by rw [wrap_le (by omega) (by omega)]; omega
  have hge0 : s[(0 : Int).toNat]? = some s[0] := by simp [h0]
  have hgel : s[s.length - 1]? = some s[s.length - 1] := by simp [hl1]
  have hz : (0 : Int) ≤ 0 := by decide
  have hhd : s.head?.map UInt8.toNat = some s[0].toNat := by rw [List.head?_eq_getElem?,List.getElem?_eq_getElem h0]; rfl
  have hlt : s.getLast?.map UInt8.toNat = some s[s.length - 1].toNat := by rw [List.getLast?_eq_getElem?,List.getElem?_eq_getElem hl1]; rfl
  by_cases c2 : ((s[0].toNat : Int) != 34) = true
  · simp (maxSteps := 2000000) only [GO,GO2,evK,fillV,setR,binV,intOp,strOp,shOp,unV,getR,lenV,partV,V.nj,V.njL,V.cells,Nat.reduceLT,Nat.reduceEqDiff,Nat.reduceAdd,↓reduceIte,Nat.reduceLeDiff,reduceCtorEq,fn15,c15,r15_0,r15_1,c1,hz,hge0,c2]
    exact bad (fun ⟨_,a,_⟩ => by
      rw [hhd] at a
      have := bne_iff_ne.1 c2
      simp only [Option.some.injEq] at a; omega) _
  have c2' : ((s[0].toNat : Int) != 34) = false := by simpa using c2
  by_cases c3 : ((s[s.length - 1].toNat : Int) != 34) = true
  · simp (maxSteps := 2000000) only [GO,GO2,evK,fillV,setR,binV,intOp,strOp,shOp,unV,getR,lenV,partV,V.nj,V.njL,V.cells,Nat.reduceLT,Nat.reduceEqDiff,Nat.reduceAdd,↓reduceIte,Nat.reduceLeDiff,reduceCtorEq,fn15,c15,r15_0,r15_1,c1,hz,hge0,c2',hwl,hgel,Int.natCast_nonneg,Int.toNat_natCast,c3]
    exact bad (fun ⟨_,_,a⟩ => by
      rw [hlt] at a
      have := bne_iff_ne.1 c3
      simp only [Option.some.injEq] at a; omega) _
  have c3' : ((s[s.length - 1].toNat : Int) != 34) = false := by simpa using c3
  have hok : okEnds s := by
    simp at c2' c3'
    exact ⟨by omega,by rw [hhd,Option.some.injEq]; omega,by rw [hlt,Option.some.injEq]; omega⟩
  rw [if_pos hok]
  simp (maxSteps := 2000000) only [GO,GO2,evK,fillV,setR,binV,intOp,strOp,shOp,unV,getR,lenV,partV,V.nj,V.njL,V.cells,Nat.reduceLT,Nat.reduceEqDiff,Nat.reduceAdd,↓reduceIte,Nat.reduceLeDiff,reduceCtorEq,fn15,c15,r15_0,r15_1,c1,hz,hge0,c2',hwl,hgel,Int.natCast_nonneg,Int.toNat_natCast,c3']
  refine loop15 F hlen _ _ _ (fun ρ' h2 w0 hb hk => ?_) _ 1 [] _ _ (Nat.le_refl _) (by omega) (by simp) rfl rfl rfl (Buf.nil _ _) (Keeps.refl _ _)
  have fin : ∀ ρ' : Nat → V,ρ' 0 = .str s → ρ' 92 = .str (dec15 (s.drop 1)) → Buf h2 h.size (ρ' 4) (dec15 (s.drop 1)) → XC P E none 98 (.func 17 [] []) [.str (dec15 (s.drop 1))] (some 93) [⟨some 94,.mv (.t 0),none,0,[94,0]⟩,
  ⟨some 95,.bin .neq (some .str) false (.t 93) (.t 94),none,15,[95,93,94]⟩] [.c (.cond (.t 95) (.seq (.region r15_14) (.ret)) (.skip)),.c (.seq (.region r15_15) (.ret))] ρ' h2 (Fin [.t 2,.t 3] fun v h' => v = unqV (dec15 (s.drop 1)) s ∧ Kp h h') := by
    intro ρ' w0 w92 hb
    refine XC_of (quote17 F.toFns (by omega)) ?_
    rintro _ h3 ⟨rfl,rfl⟩
    by_cases hc : quoteB (dec15 (s.drop 1)) = s
    · have hd : (quoteB (dec15 (s.drop 1)) == s) = true := beq_iff_eq.2 hc
      unfold unqV
      rw [if_pos hc]
      have he := hb.elems
      rcases hb with ⟨hv,hz⟩ | ⟨b,r,hv, -, -⟩
      · rw [hv,hz] at he
        rw [hz] at hd ⊢
        have he' : elemsV h3 1 0 (.slice none 0 0 false) = some [] := he
        simp (maxSteps := 2000000) only [GO,GO2,evK,fillV,setR,binV,intOp,strOp_cat,strOp_eql,strOp_neq,shOp,unV,getR,lenV,partV,V.nj,V.njL,V.cells,Nat.reduceLT,Nat.reduceEqDiff,Nat.reduceAdd,↓reduceIte,Nat.reduceLeDiff,reduceCtorEq,w0,hd,Bool.not_true,Bool.false_eq_true,r15_15,hv,he',Option.isNone_none]
        exact hk
      · rw [hv] at he
        simp (maxSteps := 2000000) only [GO,GO2,evK,fillV,setR,binV,intOp,strOp_cat,strOp_eql,strOp_neq,shOp,unV,getR,lenV,partV,V.nj,V.njL,V.cells,Nat.reduceLT,Nat.reduceEqDiff,Nat.reduceAdd,↓reduceIte,Nat.reduceLeDiff,reduceCtorEq,w0,hd,Bool.not_true,Bool.false_eq_true,r15_15,hv,he,bytesV_bytes,Option.isNone_some,Option.map_some]
        exact hk
    · have hd : (quoteB (dec15 (s.drop 1)) == s) = false := beq_eq_false_iff_ne.2 hc
      unfold unqV
      rw [if_neg hc]
      simp (maxSteps := 2000000) only [GO,GO2,evK,fillV,setR,binV,intOp,strOp_cat,strOp_eql,strOp_neq,shOp,unV,getR,lenV,partV,V.nj,V.njL,V.cells,Nat.reduceLT,Nat.reduceEqDiff,Nat.reduceAdd,↓reduceIte,Nat.reduceLeDiff,reduceCtorEq,w0,hd,Bool.not_false,r15_14]
      exact hk
  have he := hb.elems
  have hb' := hb
  rcases hb with ⟨hv,hz⟩ | ⟨b,r,hv, -, -⟩
  · rw [hv,hz] at he
    have he' : elemsV h2 1 0 (.slice none 0 0 false) = some [] := he
    simp (maxSteps := 2000000) only [GO,GO2,evK,fillV,setR,binV,intOp,strOp_cat,strOp_eql,strOp_neq,shOp,unV,getR,lenV,partV,V.nj,V.njL,V.cells,Nat.reduceLT,Nat.reduceEqDiff,Nat.reduceAdd,↓reduceIte,Nat.reduceLeDiff,reduceCtorEq,r15_13,hv,he',Option.isNone_none]
    rw [← hz]
    exact fin _ w0 (by rw [hz]; rfl) hb'
  · rw [hv] at he
    simp (maxSteps := 2000000) only [GO,GO2,evK,fillV,setR,binV,intOp,strOp_cat,strOp_eql,strOp_neq,shOp,unV,getR,lenV,partV,V.nj,V.njL,V.cells,Nat.reduceLT,Nat.reduceEqDiff,Nat.reduceAdd,↓reduceIte,Nat.reduceLeDiff,reduceCtorEq,r15_13,hv,he,bytesV_bytes,Option.isNone_some,Bool.false_eq_true,Option.map_some]
    exact fin _ w0 rfl hb'
end Go.AM.Sc
namespace Go.AM.Sc
open Go.AM
theorem pv_hexd {n : Nat} (h : n < 16) : pv (hexd n) = some n := by
  have key : ∀ n : Nat,n < 16 → pv (hexd n) = some n := by decide +kernel
  exact key n h
theorem hx_hexd {n : Nat} (h : n < 16) : hx (hexd n) = n := by
  have key : ∀ n : Nat,n < 16 → hx (hexd n) = n := by decide +kernel
  exact key n h
theorem byte_eq (b : UInt8) : UInt8.ofNat (16 * (b.toNat / 16) + b.toNat % 16) = b := by
  rw [Nat.div_add_mod]; simp
theorem hexes (b : UInt8) : b.toNat / 16 < 16 ∧ b.toNat % 16 < 16 := by
  have := b.toNat_lt
  omega
theorem dec36_qB (b : UInt8) (r : List UInt8) : dec36 (qB b ++ r) = b :: dec36 r := by
  unfold qB
  split
  · rename_i h
    exact dec36_2 rfl (.inl (by omega))
  · split
    · obtain ⟨h1,h2⟩ := hexes b
      show dec36 (92 :: 120 :: hexd (b.toNat / 16) :: hexd (b.toNat % 16) :: r) = _
      rw [dec36_3 rfl rfl]
      unfold pu
      rw [pv_hexd h1,pv_hexd h2]
      simp only [Option.getD_some]
      rw [byte_eq]
    · rename_i h _
      exact dec36_1 (.inl (by omega))
theorem dec36_qs : ∀ t : List UInt8,dec36 (qs t) = t
  | [] => rfl
  | b :: t => by
    have : qs (b :: t) = qB b ++ qs t := by simp [qs]
    rw [this,dec36_qB,dec36_qs t]
theorem dec15_qB (b e : UInt8) (r : List UInt8) : dec15 (qB b ++ (e :: r)) = b :: dec15 (e :: r) := by
  unfold qB
  split
  · rename_i h
    exact dec15_2 rfl (.inr (by omega))
  · split
    · obtain ⟨h1,h2⟩ := hexes b
      show dec15 (92 :: 120 :: hexd (b.toNat / 16) :: hexd (b.toNat % 16) :: e :: r) = _
      rw [dec15_4 rfl ⟨rfl,by rw [hx_hexd h1]; exact h1,by rw [hx_hexd h2]; exact h2⟩,hx_hexd h1,hx_hexd h2,byte_eq]
    · rename_i h _
      exact dec15_1 (by omega)
theorem qs_end (t : List UInt8) : ∃ e r,qs t ++ [34] = e :: r := by
  cases h : qs t ++ [34] with
  | nil => simp at h
  | cons e r => exact ⟨e,r,rfl⟩
theorem dec15_qs : ∀ t : List UInt8,dec15 (qs t ++ [34]) = t
  | [] => rfl
  | b :: t => by
    have : qs (b :: t) ++ [34] = qB b ++ (qs t ++ [34]) := by simp [qs]
    obtain ⟨e,r,he⟩ := qs_end t
    rw [this,he,dec15_qB,← he,dec15_qs t]
theorem trims (t : List UInt8) : trimS (trimP (quoteB t)) = qs t := by
  have h1 : trimP (quoteB t) = qs t ++ [34] := by simp [trimP,quoteB]
  rw [h1]
  unfold trimS
  have h2 : (qs t ++ [34]).length - 1 = (qs t).length := by simp
  rw [h2,List.drop_left,if_pos rfl,List.take_left]
theorem ok_quote (t : List UInt8) : okEnds (quoteB t) := by
  refine ⟨by simp [quoteB],by simp [quoteB],?_⟩
  unfold quoteB
  rw [List.getLast?_append]; rfl
theorem unq_eq (s : List UInt8) : unqV (dec36 (trimS (trimP s))) s = if okEnds s then unqV (dec15 (s.drop 1)) s else .tup [.str [],.bool false] := by
  by_cases h : ∃ t,quoteB t = s
  · obtain ⟨t,rfl⟩ := h
    rw [trims,dec36_qs,if_pos (ok_quote t)]
    have : (quoteB t).drop 1 = qs t ++ [34] := by simp [quoteB]
    rw [this,dec15_qs]
  · have hn : ∀ u,unqV u s = .tup [.str [],.bool false] := fun u => if_neg fun e => h ⟨u,e⟩
    rw [hn,hn]
    split <;> rfl
theorem unq_shape (u s : List UInt8) : ∃ a b,unqV u s = .tup [.str a,.bool b] := by
  unfold unqV
  split <;> exact ⟨_,_,rfl⟩
end Go.AM.Sc
namespace Go.AM.Sc
open Go.AM
open Go.Lib (itoa)
variable {P : Program} {E : Env} {T : H → Prop}
theorem entA_shape (x : Entry) : ∃ s e,entA x = .tup [.str s,.int .i64 e] := by
  unfold entA
  first
    | exact ⟨_,_,rfl⟩
    | (split <;> exact ⟨_,_,rfl⟩)
theorem resA_shape (b : Prop) [Decidable b] (s : List UInt8) : ∃ t e,resA b s = .tup [.str t,.int .i64 e] := by
  unfold resA
  first
    | exact ⟨_,_,rfl⟩
    | (split <;> exact ⟨_,_,rfl⟩)
theorem njL_ints : ∀ ns : List Int,V.njL (ns.map fun n => V.int .i64 n) = true
  | [] => rfl
  | n :: ns => by
    have := njL_ints ns
    simp [V.njL,V.nj,this]
set_option maxRecDepth 100000 in
set_option maxHeartbeats 4000000 in
theorem law5 (F : Fnz P E T) {x : WStep} {h : H} {s0 s : List UInt8} {ns : List Int} (ht : T h) (hx : SIn h x s0) (hs : s.length ≤ 134217728) (hn8 : ns.length = 8) (hin : ∀ n ∈ ns,InI n) :
    Sp P E (.func 5 [] []) [.agg x.cells,.str s,.agg (ns.map fun n => .int .i64 n)] h fun v _ => v = .bool true := by
  have hk0 : Kp h (h.psh (.cells x.cells 52 false false none)) := Keeps.psh (Nat.le_refl _) _
  have hg0 := psh_same h (.cells x.cells 52 false false none)
  have hk1 : Kp (h.psh (.cells x.cells 52 false false none)) ((h.psh (.cells x.cells 52 false false none)).psh (.cells (ns.map fun n => .int .i64 n) 43 false false none)) := Keeps.psh (Nat.le_refl _) _
  have gv := psh_same (h.psh (.cells x.cells 52 false false none)) (.cells (ns.map fun n => .int .i64 n) 43 false false none)
  have gx := Kp.of hk1 hg0
  have kk := Kp.trans hk0 hk1
  have fl : ∀ z : WStep,z.cells.length = 76 := fun _ => rfl
  have p0 : ∀ z : WStep,List.take 76 z.cells = z.cells := fun _ => rfl
  have p1 : ∀ z : WStep,List.take 56 (List.drop 15 z.cells) = z.entry.cells := fun _ => rfl
  have v8 : (ns.map fun n => V.int .i64 n).length = 8 := by rw [List.length_map,hn8]
  have p8 : List.take 8 (ns.map fun n => V.int .i64 n) = ns.map fun n => V.int .i64 n := List.take_of_length_le (by rw [v8]; omega)
  refine Sp_fn F.f5 F.p5 (by simp [fn5]) ?_
  simp (maxSteps := 2000000) only [GO,GO2,evK,fillV,setR,binV,intOp,strOp_cat,strOp_eql,strOp_neq,shOp,unV,getR,lenV,partV,V.nj,V.njL,V.cells,Nat.reduceLT,Nat.reduceEqDiff,Nat.reduceAdd,↓reduceIte,Nat.reduceLeDiff,reduceCtorEq,fn5,c5,r5_0]
  generalize hh1 : (h.psh (.cells x.cells 52 false false none)).psh (.cells (ns.map fun n => .int .i64 n) 43 false false none) = h1 at *
  generalize hB : (h.psh (.cells x.cells 52 false false none)).size = B at *
  simp (maxSteps := 2000000) only [GO,GO2,evK,fillV,setR,binV,intOp,strOp_cat,strOp_eql,strOp_neq,shOp,unV,getR,lenV,partV,V.nj,V.njL,V.cells,Nat.reduceLT,Nat.reduceEqDiff,Nat.reduceAdd,↓reduceIte,Nat.reduceLeDiff,reduceCtorEq,r5_1,gx,fl,p0]
  refine XC_of (step9 F.toFns (F.tkeep _ _ ht kk) (hx.mv kk)) ?_
  rintro _ h2 ⟨rfl,k2⟩
  have kk2 := Kp.trans kk k2
  have gx2 := Kp.of k2 gx
  have gv2 := Kp.of k2 gv
  obtain ⟨ta,ea,hra⟩ := resA_shape (stepOk x) (stepS x)
  simp (maxSteps := 2000000) only [GO,GO2,evK,fillV,setR,binV,intOp,strOp_cat,strOp_eql,strOp_neq,shOp,unV,getR,lenV,partV,V.nj,V.njL,V.cells,Nat.reduceLT,Nat.reduceEqDiff,Nat.reduceAdd,↓reduceIte,Nat.reduceLeDiff,reduceCtorEq,hra,r5_2,gx2,fl,p0]
  refine XC_of (step10 F.toFns (F.tkeep _ _ ht kk2) (hx.mv kk2)) ?_
  rintro _ h3 ⟨rfl,k3⟩
  have kk3 := Kp.trans kk2 k3
  have gx3 := Kp.of k3 gx2
  have gv3 := Kp.of k3 gv2
  obtain ⟨tc,ec,hrc⟩ := entA_shape x.entry
  simp (maxSteps := 2000000) only [GO,GO2,evK,fillV,setR,binV,intOp,strOp_cat,strOp_eql,strOp_neq,shOp,unV,getR,lenV,partV,V.nj,V.njL,V.cells,Nat.reduceLT,Nat.reduceEqDiff,Nat.reduceAdd,↓reduceIte,Nat.reduceLeDiff,reduceCtorEq,hra,r5_3,gx3,fl,p1]
  refine XC_of (entry12 F.toFns (F.tkeep _ _ ht kk3) (hx.mv kk3).ent hx.site hx.sponsor hx.length) ?_
  rintro _ h4 ⟨rfl,k4⟩
  have kk4 := Kp.trans kk3 k4
  have gx4 := Kp.of k4 gx3
  have gv4 := Kp.of k4 gv3
  simp (maxSteps := 2000000) only [GO,GO2,evK,fillV,setR,binV,intOp,strOp_cat,strOp_eql,strOp_neq,shOp,unV,getR,lenV,partV,V.nj,V.njL,V.cells,Nat.reduceLT,Nat.reduceEqDiff,Nat.reduceAdd,↓reduceIte,Nat.reduceLeDiff,reduceCtorEq,hrc,r5_4,gx4,fl,p1]
  refine XC_of (entry13 F.toFns (F.tkeep _ _ ht kk4) (hx.mv kk4).ent hx.site hx.sponsor hx.length) ?_
  rintro _ h5 ⟨rfl,k5⟩
  have kk5 := Kp.trans kk4 k5
  have gv5 := Kp.of k5 gv4
  simp (maxSteps := 2000000) only [GO,GO2,evK,fillV,setR,binV,intOp,strOp_cat,strOp_eql,strOp_neq,shOp,unV,getR,lenV,partV,V.nj,V.njL,V.cells,Nat.reduceLT,Nat.reduceEqDiff,Nat.reduceAdd,↓reduceIte,Nat.reduceLeDiff,reduceCtorEq,hrc,r5_5]
  refine XC_of (unquote14 F hs (F.tkeep _ _ ht kk5)) ?_
  rintro _ h6 ⟨rfl,k6⟩
  have kk6 := Kp.trans kk5 k6
  have gv6 := Kp.of k6 gv5
  obtain ⟨tu,bu,hru⟩ := unq_shape (dec36 (trimS (trimP s))) s
  simp (maxSteps := 2000000) only [GO,GO2,evK,fillV,setR,binV,intOp,strOp_cat,strOp_eql,strOp_neq,shOp,unV,getR,lenV,partV,V.nj,V.njL,V.cells,Nat.reduceLT,Nat.reduceEqDiff,Nat.reduceAdd,↓reduceIte,Nat.reduceLeDiff,reduceCtorEq,hru,r5_6]
  refine XC_of (unquote15 F hs) ?_
  rintro _ h7 ⟨rfl,k7⟩
  have kk7 := Kp.trans kk6 k7
  have gv7 := Kp.of k7 gv6
  rw [← unq_eq,hru]
  simp (maxSteps := 2000000) only [GO,GO2,evK,fillV,setR,binV,intOp,strOp_cat,strOp_eql,strOp_neq,shOp,unV,getR,lenV,partV,V.nj,V.njL,V.cells,Nat.reduceLT,Nat.reduceEqDiff,Nat.reduceAdd,↓reduceIte,Nat.reduceLeDiff,reduceCtorEq]
  rw [X_draw]
  refine d5_7 ?_
  simp (maxSteps := 2000000) only [GO,GO2,evK,fillV,setR,binV,intOp,strOp_cat,strOp_eql,strOp_neq,shOp,unV,getR,lenV,partV,V.nj,V.njL,V.cells,Nat.reduceLT,Nat.reduceEqDiff,Nat.reduceAdd,↓reduceIte,Nat.reduceLeDiff,reduceCtorEq,r5_7]
  refine XCQ_of (live8 F.toFns (F.tkeep _ _ ht kk7)) ?_
  rintro _ h8 ⟨rfl,k8⟩
  refine ⟨k8,?_⟩
  simp (maxSteps := 2000000) only [GO,GO2,evK,fillV,setR,binV,intOp,strOp_cat,strOp_eql,strOp_neq,shOp,unV,getR,lenV,partV,V.nj,V.njL,V.cells,Nat.reduceLT,Nat.reduceEqDiff,Nat.reduceAdd,↓reduceIte,Nat.reduceLeDiff,reduceCtorEq,beq_self_eq_true]
  have kk8 := Kp.trans kk7 k8
  have gv8 := Kp.of k8 gv7
  refine XCQ_of (quote16 F.toFns hs) ?_
  rintro _ h9 ⟨rfl,k9⟩
  refine ⟨k9,?_⟩
  have kk9 := Kp.trans kk8 k9
  have gv9 := Kp.of k9 gv8
  simp (maxSteps := 2000000) only [GO,GO2,evK,fillV,setR,binV,intOp,strOp_cat,strOp_eql,strOp_neq,shOp,unV,getR,lenV,partV,V.nj,V.njL,V.cells,Nat.reduceLT,Nat.reduceEqDiff,Nat.reduceAdd,↓reduceIte,Nat.reduceLeDiff,reduceCtorEq]
  refine XCQ_of (quote17 F.toFns hs) ?_
  rintro _ h10 ⟨rfl,rfl⟩
  refine ⟨Keeps.refl _ _,?_⟩
  have hbb : eqV h10 EqT.bool (.bool bu) (.bool bu) = some true := by simp [eqV]
  have nj := njL_ints ns
  simp (maxSteps := 2000000) only [GO,GO2,evK,fillV,setR,binV,intOp,strOp_cat,strOp_eql,strOp_neq,shOp,unV,getR,lenV,partV,V.nj,V.njL,V.cells,Nat.reduceLT,Nat.reduceEqDiff,Nat.reduceAdd,↓reduceIte,Nat.reduceLeDiff,reduceCtorEq,beq_self_eq_true,hbb,gv7,gv8,gv9,v8,p8,nj,true_and]
  refine XCQ_of (vector18 F.toFns hn8 hin (F.tkeep _ _ ht kk9)) ?_
  rintro _ h11 ⟨rfl,k11⟩
  refine ⟨k11,?_⟩
  have kk11 := Kp.trans kk9 k11
  have gv11 := Kp.of k11 gv9
  simp (maxSteps := 2000000) only [GO,GO2,evK,fillV,setR,binV,intOp,strOp_cat,strOp_eql,strOp_neq,shOp,unV,getR,lenV,partV,V.nj,V.njL,V.cells,Nat.reduceLT,Nat.reduceEqDiff,Nat.reduceAdd,↓reduceIte,Nat.reduceLeDiff,reduceCtorEq,gv7,gv8,gv9,gv11,v8,p8,nj,true_and]
  refine XCQ_of (vector19 F.toFns hn8 hin (F.tkeep _ _ ht kk11)) ?_
  rintro _ h12 ⟨rfl,k12⟩
  refine ⟨k12,?_⟩
  simp (maxSteps := 2000000) only [GO,GO2,evK,fillV,setR,binV,intOp,strOp_cat,strOp_eql,strOp_neq,shOp,unV,getR,lenV,partV,V.nj,V.njL,V.cells,Nat.reduceLT,Nat.reduceEqDiff,Nat.reduceAdd,↓reduceIte,Nat.reduceLeDiff,reduceCtorEq,beq_self_eq_true]
end Go.AM.Sc
