/- My own texts, laid for this claim. -/
import Derived.Test.YtpfoofcallfjjaaGreatDoorWc2ToXLast
set_option linter.unusedSimpArgs false
set_option linter.unusedVariables false
namespace Go.AM.Wc
variable {P : Program} {E : Env} {ro : Option Nat} {L : Nat} {K : List Fr} {ρ : Nat → V} {h : H} {Q : Po}
open Go.AM
def r38_6a : List O := [om 51 0 0,⟨some 52,.nilck (.t 51),none,1,[52,51]⟩,oa 53 0 52 3,ol 54 53 7,om 55 0 0,⟨some 56,.nilck (.t 55),none,16,[56,55]⟩,oa 57 1 56 48,ol 58 57 112,om 59 0 0,⟨some 60,.nilck (.t 59),none,256,[60,59]⟩,oa 61 2 60 768,ol 62 61 1792,om 63 7 0,oi 64 4 62 63 7936,oa 65 0 64 16128,ol 66 65 32512,⟨some 67,.call (.k (.func 23 [] [])) [(.t 58),(.t 66)],none,65520,[67,58,66]⟩]
def r38_6b : List O := [⟨some 68,.call (.k (.func 33 [] [])) [(.t 54),(.t 67)],none,131071,[68,54,67]⟩,om 8 68 262143]
theorem l38_6 (hx : XDQ P E ro L (.c (.region r38_6b) :: K) Q h [true,true,true,true,true,true,true,true,true,true,true,true,true,true,true,true,true] r38_6a ρ h) : XD P E ro L r38_6 K ρ h Q := XD_last (A := r38_6a) (B := r38_6b) rfl rfl hx
def r38_10a : List O := [om 79 0 0,⟨some 80,.nilck (.t 79),none,1,[80,79]⟩,oa 81 0 80 3,ol 82 81 7,om 83 0 0,⟨some 84,.nilck (.t 83),none,16,[84,83]⟩,oa 85 1 84 48,ol 86 85 112,om 87 0 0,⟨some 88,.nilck (.t 87),none,256,[88,87]⟩,oa 89 3 88 768,ol 90 89 1792,⟨some 91,.call (.k (.func 23 [] [])) [(.t 86),(.t 90)],none,4080,[91,86,90]⟩,om 92 5 0]
def r38_10b : List O := [⟨some 93,.call (.k (.func 65 [] [])) [(.t 82),(.t 91),(.t 92)],none,16383,[93,82,91,92]⟩,om 9 93 32767]
theorem l38_10 (hx : XDQ P E ro L (.c (.region r38_10b) :: K) Q h [true,true,true,true,true,true,true,true,true,true,true,true,true,false] r38_10a ρ h) : XD P E ro L r38_10 K ρ h Q := XD_last (A := r38_10a) (B := r38_10b) rfl rfl hx
def r38_13a : List O := [om 97 0 0,om 98 0 0,⟨some 99,.nilck (.t 98),none,2,[99,98]⟩,oa 100 2 99 6,ol 101 100 14,om 102 0 0,⟨some 103,.nilck (.t 102),none,32,[103,102]⟩,oa 104 3 103 96,ol 105 104 224,⟨some 106,.build [(.int .i64 0),(.slice none 0 0 false),(.int .i64 0),(.bool false)] [(0,1,(.t 105))],none,480,[106,105]⟩,⟨some 107,.bslice 74 1 [(.int .i64 0),(.slice none 0 0 false),(.int .i64 0),(.bool false)] [(0,4,(.t 106))],none,992,[107,106]⟩]
def r38_13b : List O := [⟨some 108,.app 74 4 48 (.t 101) (.t 107),none,2046,[108,101,107]⟩,⟨some 109,.nilck (.t 97),none,4095,[109,97]⟩,oa 110 2 109 8191,ost 1 110 108 16383]
theorem l38_13 (hx : XDQ P E ro L (.c (.region r38_13b) :: K) Q h [true,true,true,true,true,true,true,true,true,true,true] r38_13a ρ h) : XD P E ro L r38_13 K ρ h Q := XD_last (A := r38_13a) (B := r38_13b) rfl rfl hx
def r38_15a : List O := [om 113 0 0,⟨some 114,.nilck (.t 113),none,1,[114,113]⟩,oa 115 0 114 3,ol 116 115 7,om 117 0 0,⟨some 118,.nilck (.t 117),none,16,[118,117]⟩,oa 119 1 118 48,ol 120 119 112,om 121 0 0,⟨some 122,.nilck (.t 121),none,256,[122,121]⟩,oa 123 2 122 768,ol 124 123 1792,om 125 7 0,oi 126 4 124 125 7936,oa 127 0 126 16128,ol 128 127 32512,⟨some 129,.call (.k (.func 23 [] [])) [(.t 120),(.t 128)],none,65520,[129,120,128]⟩,om 130 5 0]
def r38_15b : List O := [⟨some 131,.call (.k (.func 65 [] [])) [(.t 116),(.t 129),(.t 130)],none,262143,[131,116,129,130]⟩,om 10 131 524287]
theorem l38_15 (hx : XDQ P E ro L (.c (.region r38_15b) :: K) Q h [true,true,true,true,true,true,true,true,true,true,true,true,true,true,true,true,true,false] r38_15a ρ h) : XD P E ro L r38_15 K ρ h Q := XD_last (A := r38_15a) (B := r38_15b) rfl rfl hx
def r38_19a : List O := [om 141 11 0,om 142 11 0,⟨some 143,.nilck (.t 142),none,2,[143,142]⟩,oa 144 1 143 6,ol 145 144 14,om 146 1 0,⟨some 147,.call (.k (.func 42 [] [])) [(.t 146)],none,32,[147,146]⟩,⟨some 148,.bslice 45 1 [(.slice none 0 0 false)] [(0,1,(.t 147))],none,96,[148,147]⟩]
def r38_19b : List O := [⟨some 149,.app 45 1 24 (.t 145) (.t 148),none,254,[149,145,148]⟩,⟨some 150,.nilck (.t 141),none,511,[150,141]⟩,oa 151 1 150 1023,ost 1 151 149 2047]
theorem l38_19 (hx : XDQ P E ro L (.c (.region r38_19b) :: K) Q h [true,true,true,true,true,true,true,true] r38_19a ρ h) : XD P E ro L r38_19 K ρ h Q := XD_last (A := r38_19a) (B := r38_19b) rfl rfl hx
def r13_2a : List O := [om 25 0 0,⟨some 26,.nilck (.t 25),none,1,[26,25]⟩,oa 27 0 26 3,ol 28 27 7,om 29 0 0,⟨some 30,.nilck (.t 29),none,16,[30,29]⟩,oa 31 1 30 48,ol 32 31 112,om 33 0 0,⟨some 34,.nilck (.t 33),none,256,[34,33]⟩,oa 35 2 34 768,ol 36 35 1792,⟨some 37,.iadrL 4 (.t 36) (.k (.int .i64 0)),none,3840,[37,36]⟩,oa 38 0 37 7936,ol 39 38 16128,⟨some 40,.call (.k (.func 23 [] [])) [(.t 32),(.t 39)],none,32752,[40,32,39]⟩]
def r13_2b : List O := [⟨some 41,.call (.k (.func 39 [] [])) [(.t 28),(.t 40)],none,65535,[41,28,40]⟩,om 5 41 131071]
theorem l13_2 (hx : XDQ P E ro L (.c (.region r13_2b) :: K) Q h [true,true,true,true,true,true,true,true,true,true,true,true,true,true,true,true] r13_2a ρ h) : XD P E ro L r13_2 K ρ h Q := XD_last (A := r13_2a) (B := r13_2b) rfl rfl hx
def r41_4a : List O := [om 21 0 0,oa 22 0 4 0,ol 23 22 2,om 24 5 0,⟨some 25,.bin .add (some .int) false (.t 23) (.t 24),none,14,[25,23,24]⟩,om 26 6 0,⟨some 27,.call (.k (.func 42 [] [])) [(.t 26)],none,32,[27,26]⟩]
def r41_4b : List O := [⟨some 28,.call (.t 21) [(.t 25),(.t 27)],none,127,[28,21,25,27]⟩,ono 29 28 255]
theorem l41_4 (hx : XDQ P E ro L (.c (.region r41_4b) :: K) Q h [true,true,true,true,true,true,true] r41_4a ρ h) : XD P E ro L r41_4 K ρ h Q := XD_last (A := r41_4a) (B := r41_4b) rfl rfl hx
end Go.AM.Wc
namespace Go.AM.Wc
open Go.AM
variable {P : Program} {E : Env} {T : H → Prop}
theorem seg_len (pre : List Sg) : (pre.flatMap Sg.cells).length = pre.length * 4 := by
 induction pre with
 | nil => rfl
 | cons s r ih => simp only [List.flatMap_cons,List.length_append,ih,Sg.cells,List.length_cons,List.length_nil]; omega
theorem seg_get (pre : List Sg) (c : List V) (j : Nat) : (pre.flatMap Sg.cells ++ c)[pre.length * 4 + j]? = c[j]? := by
 rw [List.getElem?_append_right (by rw [seg_len]; omega),seg_len]
 congr 1; omega
theorem seg_set (pre : List Sg) (c : List V) (j : Nat) (ws : List V) : setR (pre.flatMap Sg.cells ++ c) (pre.length * 4 + j) ws = pre.flatMap Sg.cells ++ setR c j ws := by
 have hl := seg_len pre
 unfold setR
 rw [List.take_append,List.drop_append,hl]
 rw [List.take_of_length_le (by omega),List.drop_of_length_le (by rw [hl]; omega)]
 simp only [List.nil_append,List.append_assoc]
 rw [show pre.length * 4 + j - pre.length * 4 = j by omega,show pre.length * 4 + j + ws.length - pre.length * 4 = j + ws.length by omega]
end Go.AM.Wc
namespace Go.AM.Wc
open Go.AM
variable {P : Program} {E : Env} {T : H → Prop}
theorem seg_nx (F : Fw P E T) {n : Nat} {h : H} (ht : T h) (hn : n ≤ 999999999999) : Sp P E (.func 23 [] []) [.str logN,.int .i64 (n : Int)] h fun v h' => v = .str (segN n) ∧ Kp h h' :=
 seg23 F (s := logN) (n := (n : Int)) ht (by decide) fun h0 h1 => itoa_le h0 h1
end Go.AM.Wc
namespace Go.AM.Wc
open Go.AM
variable {P : Program} {E : Env} {T : H → Prop}
end Go.AM.Wc
namespace Go.AM.Wc
open Go.AM
variable {P : Program} {E : Env} {T : H → Prop}
end Go.AM.Wc
namespace Go.AM
variable {P : Program} {E : Env} {ro : Option Nat} {L : Nat} {K : List Fr} {ρ : Nat → V} {h : H} {Q : Po}
theorem XX_split {c : C} {K : List Fr} {T : List V} {Q : Po} (hx : ∃ ex s',EC P E ro c (T,h) = some (ex,s') ∧ XX P E ro K ex s'.1 s'.2 Q) : XX P E ro (.c c :: K) .nrm T h Q := by
 obtain ⟨ex,s',h1,ex',T',h',h2,q⟩ := hx
 exact ⟨ex',T',h',by simp only [EK,h1,Option.bind_some]; exact h2,q⟩
theorem X_range {f : A} {ps : List Nat} {as b : C} {g : Nat} {fs cs : List V} (hf : f.ev (toL L ρ) = some (.func g fs cs)) (hro : roOk h ro = true)
  (sp : Sp P E (.func g fs cs) [.yield h.size] (h.psh (.loop .ready none (toL L ρ) ps as b)) fun _ h2 => ∃ st pend ps' as' b' T',h2.get h.size = some (.loop st pend T' ps' as' b') ∧ st ≠ .busy ∧
   ∀ oe : Obj,(∀ vs ty op ro fz,oe ≠ .cells vs ty op ro fz) →
   (match pend with
    | none => X P E ro L K ρ (h2.set h.size oe) Q
    | some .ret => XX P E ro K .ret (toL L ρ) (h2.set h.size oe) Q
    | some (.exit id) => XQ P E ro L (.exit id) K ρ (h2.set h.size oe) Q
    | some _ => False)) : X P E ro L (.c (.range f ps as b) :: K) ρ h Q := by
 obtain ⟨v,h2,e,st,pend,ps',as',b',T',hg,hst,hm⟩ := sp
 have hm := hm (.loop .exhausted pend T' ps' as' b') (by intro _ _ _ _ _ e; cases e)
 refine XX_split ?_
 rw [EC_range f ps as b (toL L ρ) h hro hf,e]
 simp only [rangeEnd,hg,hst,if_false]
 cases pend with
 | none => exact ⟨_,_,rfl,hm⟩
 | some c =>
  cases c with
  | ret => exact ⟨_,_,rfl,hm⟩
  | exit id => exact ⟨_,_,rfl,hm⟩
  | _ => exact hm.elim
theorem Sp_yield {l : Nat} {st : LoopState} {pend pend' : Option C} {ps : List Nat} {as b : C} {args : List V} {ρ' : Nat → V} {Q : V → H → Prop} (hg : h.get l = some (.loop st pend (toL L ρ) ps as b)) (hl : args.length = ps.length) (hz : zipSet (toL L ρ) ps args = toL L ρ')
  (hx : X P E (some l) L [.c as] ρ' h fun ex T1 h1 => ex = .nrm ∧ h1.get l = some (.loop .ready pend' (toL L ρ) ps as b) ∧ ∃ ρ1,T1 = toL L ρ1 ∧
   X P E (some l) L [.c b] ρ1 (h1.set l (.loop .busy pend' (toL L ρ) ps as b)) fun ex T2 h2 => h2.get l = some (.loop .busy pend' (toL L ρ) ps as b) ∧
    match ex with
    | .nrm => Q (.bool true) (h2.set l (.loop .ready none (toL L ρ) ps as b))
    | .ret => Q (.bool false) (h2.set l (.loop .done (some .ret) (toL L ρ) ps as b))
    | .exit id => Q (.bool false) (h2.set l (.loop .done (some (.exit id)) (toL L ρ) ps as b))) : Sp P E (.yield l) args h Q := by
 obtain ⟨ex,T1,h1,e1,rfl,hg1,ρ1,rfl,ex2,T2,h2,e2,hg2,hm⟩ := hx
 have c1 : EC P E (some l) as (toL L ρ',h) = some (.nrm,(toL L ρ1,h1)) := by
  simp only [EK] at e1
  cases hc : EC P E (some l) as (toL L ρ',h) with
  | none => rw [hc] at e1; simp at e1
  | some r => obtain ⟨a,s⟩ := r; rw [hc] at e1; simpa using e1
 have c2 : EC P E (some l) b (toL L ρ1,h1.set l (.loop .busy pend' (toL L ρ) ps as b)) = some (ex2,(T2,h2)) := by
  simp only [EK] at e2
  cases hc : EC P E (some l) b (toL L ρ1,h1.set l (.loop .busy pend' (toL L ρ) ps as b)) with
  | none => rw [hc] at e2; simp at e2
  | some r => obtain ⟨a,s⟩ := r; rw [hc] at e2; simpa using e2
 unfold Sp
 rw [AP_yield]
 unfold RND
 simp only [hg,hl,if_true,hz,c1,hg1,c2,hg2]
 cases ex2 with
 | nrm => exact ⟨_,_,rfl,hm⟩
 | ret => exact ⟨_,_,rfl,hm⟩
 | exit id => exact ⟨_,_,rfl,hm⟩
theorem zip1 (L : Nat) (ρ : Nat → V) (p : Nat) (v : V) : zipSet (toL L ρ) [p] [v] = toL L (up ρ p v) := by simp only [zipSet,toL_set]
theorem zip2 (L : Nat) (ρ : Nat → V) (p q : Nat) (v w : V) : zipSet (toL L ρ) [p,q] [v,w] = toL L (up (up ρ p v) q w) := by simp only [zipSet,toL_set]
structure KB (b : Nat) (h h' : H) : Prop where
 size : h.size ≤ h'.size
 get : ∀ i o,h.get i = some o → i ≠ b → (∀ vs,o ≠ .cells vs 30 true false none) → h'.get i = some o
theorem KB.refl (b : Nat) (h : H) : KB b h h := ⟨Nat.le_refl _,fun _ _ hg _ _ => hg⟩
theorem KB.kp {b : Nat} {h h' : H} (k : Kp h h') : KB b h h' := ⟨k.size,fun _ _ hg _ _ => k.of hg⟩
theorem KB.trans {b : Nat} {h1 h2 h3 : H} (x : KB b h1 h2) (y : KB b h2 h3) : KB b h1 h3 := ⟨Nat.le_trans x.size y.size,fun i o hg hb hn => y.get i o (x.get i o hg hb hn) hb hn⟩
end Go.AM
namespace Go.AM.Wc
open Go.AM
variable {P : Program} {E : Env} {T : H → Prop}
theorem put_fresh (h : H) {vs ws : List V} {ty : Nat} (hl : ws.length = vs.length) (h1 : ws.all V.one = true) (hne : ws.isEmpty = false) :
  ∃ h',putCells (h.psh (.cells vs ty false false none)) h.size 0 ws = some h' ∧ h'.get h.size = some (.cells ws ty false false none) ∧ Kp h h' ∧ h'.size = h.size + 1 := by
 have hg := psh_same h (.cells vs ty false false none)
 have hset : setR vs 0 ws = ws := by simp [setR,hl]
 refine ⟨(h.psh (.cells vs ty false false none)).set h.size (.cells ws ty false false none),?_,hset_same (H.get_lt hg) _,Keeps.trans (n := h.size) (Keeps.psh (Nat.le_refl _) _) (Keeps.set (H.get_lt hg) (Nat.le_refl _) _),rfl⟩
 unfold putCells
 simp only [hne,Bool.false_eq_true,if_false,hg,Nat.zero_add,hl,Nat.le_refl,h1,fzFree,and_self,if_true,hset]
def Sg.xs (s : Sg) : List (V × Nat) := s.rs.map fun c => (c.v,c.cs.length)
def Rs (h : H) (sv : V) (sgs : List Sg) : Prop := ∃ p c o,sv = .slice p sgs.length c o ∧ elemsV h 4 sgs.length sv = some (sgs.flatMap Sg.cells) ∧ ∀ s ∈ sgs,Rl h (vl s.rb s.rs.length) s.xs
theorem Rs.kp {h h' : H} {sv : V} {sgs : List Sg} (a : Rs h sv sgs) (k : Kp h h') : Rs h' sv sgs := by
 obtain ⟨p,c,o,h1,h2,h3⟩ := a
 exact ⟨p,c,o,h1,elems_kp k h2,fun s hs => (h3 s hs).kp k⟩
def Cl (h : H) (sv : V) (sgs : List Sg) : Prop := ∃ p c o,sv = .slice p sgs.length c o ∧ (sgs = [] ∨ ∃ b,p = some (b,0) ∧ h.get b = some (.cells (sgs.flatMap Sg.cells) 74 true false none))
def F74 (h h' : H) : Prop := ∀ i vs op ro fz,h.get i = some (.cells vs 74 op ro fz) → h'.get i = some (.cells vs 74 op ro fz)
theorem Cl.fr {h h' : H} {sv : V} {sgs : List Sg} (a : Cl h sv sgs) (k : F74 h h') : Cl h' sv sgs := by
 obtain ⟨p,c,o,h1,h2⟩ := a
 refine ⟨p,c,o,h1,h2.imp id ?_⟩
 rintro ⟨b,q1,q2⟩
 exact ⟨b,q1,k _ _ _ _ _ q2⟩
theorem F74.kp {h h' : H} (k : Kp h h') : F74 h h' := fun _ _ _ _ _ hg => k.of hg
theorem Rs.cl {h h1 : H} {sv sv' : V} {sgs : List Sg} (a : Rs h sv sgs) (k : Kp h h1) (c : Cl h1 sv' sgs) : Rs h1 sv' sgs := by
 obtain ⟨_,_,_,_,_,h3⟩ := a
 obtain ⟨p,c,o,rfl,hc⟩ := c
 refine ⟨p,c,o,rfl,?_,fun s hs => (h3 s hs).kp k⟩
 rcases hc with rfl | ⟨b,rfl,hg⟩
 ·cases p <;> simp [elemsV]
 ·have hl := seg_len sgs
  simp only [elemsV,hg,Nat.zero_add,← hl,Nat.le_refl,if_true]
  by_cases h0 : (sgs.flatMap Sg.cells).length = 0
  ·rw [if_pos h0,List.eq_nil_of_length_eq_zero h0]
  ·rw [if_neg h0,getR_whole' rfl]
theorem Rs.at {h : H} {sv : V} {sgs : List Sg} {k : Nat} (a : Rs h sv sgs) (hk : k < sgs.length) : ∃ b o c q cs ty op ro fz,sv = .slice (some (b,o)) sgs.length c q ∧ h.get b = some (.cells cs ty op ro fz) ∧ o + k * 4 + 4 ≤ cs.length ∧ List.take 4 (List.drop (o + k * 4) cs) = sgs[k].cells := by
 obtain ⟨p,c,q,rfl,h2,h3⟩ := a
 cases p with
 | none => simp only [elemsV] at h2; rw [if_neg (by omega)] at h2; cases h2
 | some p =>
  obtain ⟨i,o⟩ := p
  simp only [elemsV] at h2
  rw [if_neg (by omega)] at h2
  split at h2
  ·rename_i vs ty op ro fz hg
   split at h2
   ·rename_i hle
    simp only [Option.some.injEq] at h2
    refine ⟨i,o,c,q,vs,ty,op,ro,fz,rfl,hg,by omega,?_⟩
    have hsp : sgs = sgs.take k ++ sgs[k] :: sgs.drop (k + 1) := by simp
    have e : List.take 4 (List.drop (k * 4) (getR vs o (sgs.length * 4))) = List.take 4 (List.drop (k * 4) (sgs.flatMap Sg.cells)) := by rw [h2]
    unfold getR at e
    rw [List.drop_take,List.drop_drop,List.take_take,Nat.min_eq_left (by omega)] at e
    rw [e]
    have hl : ((sgs.take k).flatMap Sg.cells).length = k * 4 := by rw [seg_len,List.length_take,Nat.min_eq_left (by omega)]
    have : sgs.flatMap Sg.cells = (sgs.take k).flatMap Sg.cells ++ (sgs[k].cells ++ (sgs.drop (k + 1)).flatMap Sg.cells) := by
     have := congrArg (List.flatMap Sg.cells) hsp
     rw [List.flatMap_append,List.flatMap_cons] at this
     exact this
    rw [this,← hl,List.drop_left]
    have h4 : sgs[k].cells.length = 4 := rfl
    rw [← h4,List.take_left]
   ·cases h2
  ·cases h2
theorem clone40 (F : Fw P E T) {h : H} {sv : V} {sgs : List Sg} (hv : Rs h sv sgs) (hm : sgs.length ≤ 1000000000000) : Sp P E (.func 40 [] []) [sv] h fun r h' => Cl h' r sgs ∧ Kp h h' := by
 obtain ⟨p,c,q,rfl,he,_⟩ := hv
 refine Sp_fn F.f40 F.p40 (by simp [fn40]) ?_
 cases p with
 | none =>
  have h0 : sgs = [] := by
   simp only [elemsV] at he
   split at he
   ·simp only [Option.some.injEq] at he
    have := congrArg List.length he
    rw [seg_len] at this
    exact List.eq_nil_of_length_eq_zero (by simp at this; omega)
   ·cases he
  have c4 : eqV h .sl (.slice none sgs.length c q) (.slice none 0 0 false) = some true := by simp [eqV]
  simp only [GR,evK,binV,intOp,strOp,shOp,unV,Nat.reduceLT,Nat.reduceEqDiff,Nat.reduceAdd,↓reduceIte,Nat.reduceLeDiff,reduceCtorEq,fn40,c40,r40_0,c4]
  exact ⟨⟨none,0,false,by rw [h0]; rfl,.inl h0⟩,Keeps.refl _ _⟩
 | some a =>
  have k1 : Kp h (h.psh (.cells [] 74 false false none)) := Keeps.psh (Nat.le_refl _) _
  have he1 := elems_kp k1 he
  have s1 := psh_size h (.cells [] 74 false false none)
  have g1 := psh_same h (.cells [] 74 false false none)
  have c4 : eqV h .sl (.slice (some a) sgs.length c q) (.slice none 0 0 false) = some false := by simp [eqV]
  have c3 : elemsV (h.psh (.cells [] 74 false false none)) 4 0 (.slice (some (h.size,0)) 0 0 false) = some [] := by simp [elemsV]
  by_cases h0 : sgs.length = 0
  ·have hs : sgs = [] := List.eq_nil_of_length_eq_zero h0
   subst hs
   have hn0 : ([] : List Sg).length = 0 := rfl
   rw [hn0] at c4 ⊢
   have hap : appV (h.psh (.cells [] 74 false false none)) 74 4 48 (.slice (some (h.size,0)) 0 0 false) (.slice (some a) 0 c q) = some (.eff (.slice (some (h.size,0)) 0 0 false) (h.psh (.cells [] 74 false false none))) := by
    unfold appV
    simp [lenV,elemsV,putCells]
   simp only [GR,evK,binV,intOp,strOp,shOp,unV,Nat.reduceLT,Nat.reduceEqDiff,Nat.reduceAdd,↓reduceIte,Nat.reduceLeDiff,reduceCtorEq,fn40,c40,r40_0,c4,r40_1,hap]
   exact ⟨⟨_,_,_,rfl,.inl rfl⟩,k1⟩
  ·have hap : appV (h.psh (.cells [] 74 false false none)) 74 4 48 (.slice (some (h.size,0)) 0 0 false) (.slice (some a) sgs.length c q) = some (.eff (.slice (some (h.size + 1,0)) sgs.length sgs.length true) ((h.psh (.cells [] 74 false false none)).psh (.cells (sgs.flatMap Sg.cells) 74 true false none))) := by
    unfold appV
    have c1 : ¬ sgs.length ≤ 0 := by omega
    have c2 : sgs.length ≤ 1099511627776 ∧ (2 * sgs.length + 1024) * 48 ≤ 281474976710656 := by omega
    simp only [lenV,he1,Nat.zero_add,c1,if_false,c2,and_self,if_true,c3,push_eq,s1,List.nil_append]
   have g2 := psh_same (h.psh (.cells [] 74 false false none)) (.cells (sgs.flatMap Sg.cells) 74 true false none)
   rw [s1] at g2
   have k2 : Kp (h.psh (.cells [] 74 false false none)) ((h.psh (.cells [] 74 false false none)).psh (.cells (sgs.flatMap Sg.cells) 74 true false none)) := Keeps.psh (Nat.le_refl _) _
   simp only [GR,evK,binV,intOp,strOp,shOp,unV,Nat.reduceLT,Nat.reduceEqDiff,Nat.reduceAdd,↓reduceIte,Nat.reduceLeDiff,reduceCtorEq,fn40,c40,r40_0,c4,r40_1,hap]
   exact ⟨⟨_,_,_,rfl,.inr ⟨_,rfl,g2⟩⟩,Kp.trans k1 k2⟩
end Go.AM.Wc
namespace Go.AM.Wc
open Go.AM
variable {P : Program} {E : Env} {T : H → Prop}
theorem records14 (F : Fw P E T) {h : H} {lb bd : Nat} {sv : V} {nx sy : Int} {br : Bool} {sgs : List Sg} (gl : h.get lb = some (lgO bd sv nx sy br)) (hv : Rs h sv sgs) (hm : sgs.length ≤ 1000000000000) :
  Sp P E (.func 14 [] []) [.ptr (some (lb,0))] h fun r h' => ∃ tb sv',r = .func 41 [] [.ptr (some (tb,0))] ∧ h.size ≤ tb ∧ h'.get tb = some (.cells [sv'] 66 false false none) ∧ Cl h' sv' sgs ∧ Kp h h' := by
 have k1 : Kp h (h.psh (.cells [.slice none 0 0 false] 66 false false none)) := Keeps.psh (Nat.le_refl _) _
 have g1 := psh_same h (.cells [.slice none 0 0 false] 66 false false none)
 have gl1 := k1.of gl
 have hv1 := hv.kp k1
 refine Sp_fn F.f14 F.p14 (by simp [fn14]) ?_
 simp only [GR,evK,binV,intOp,strOp,shOp,unV,Nat.reduceLT,Nat.reduceEqDiff,Nat.reduceAdd,↓reduceIte,Nat.reduceLeDiff,reduceCtorEq,fn14,c14]
 generalize h.psh (.cells [.slice none 0 0 false] 66 false false none) = h1 at *
 simp only [GR,evK,binV,intOp,strOp,shOp,unV,Nat.reduceLT,Nat.reduceEqDiff,Nat.reduceAdd,↓reduceIte,Nat.reduceLeDiff,reduceCtorEq,r14_0]
 refine XC_of (none34 F gl1) ?_
 rintro _ hx ⟨rfl,e2⟩
 rw [e2]
 clear e2 hx
 obtain ⟨p,c,o,rfl,_⟩ := hv
 have gl1' := gl1
 unfold lgO lgC at gl1'
 simp only [GR,evK,binV,intOp,strOp,shOp,unV,Nat.reduceLT,Nat.reduceEqDiff,Nat.reduceAdd,↓reduceIte,Nat.reduceLeDiff,reduceCtorEq,Bool.not_false,r14_1,gl1']
 refine XC_of (clone40 F hv1 hm) ?_
 rintro sv' h2 ⟨hcl,k2⟩
 have g2 := k2.of g1
 have hcl0 := hcl
 obtain ⟨p',c',o',rfl,_⟩ := hcl0
 have e4 := put_at (ws := [.slice p' sgs.length c' o']) (o := 0) g2 (by simp) rfl rfl
 have hset : setR [V.slice none 0 0 false] 0 [.slice p' sgs.length c' o'] = [.slice p' sgs.length c' o'] := rfl
 rw [hset] at e4
 have hlt := H.get_lt g2
 have k3 : Kp h (h2.set h.size (.cells [.slice p' sgs.length c' o'] 66 false false none)) := Keeps.trans (n := h.size) (k1.trans k2) (Keeps.set hlt (Nat.le_refl _) _)
 have f3 : F74 h2 (h2.set h.size (.cells [.slice p' sgs.length c' o'] 66 false false none)) := by
  intro i vs op ro fz hg
  rw [hset_other hlt (by rintro rfl; rw [g2] at hg; cases hg)]; exact hg
 simp only [GR,evK,binV,intOp,strOp,shOp,unV,Nat.reduceLT,Nat.reduceEqDiff,Nat.reduceAdd,↓reduceIte,Nat.reduceLeDiff,reduceCtorEq,e4,r14_2]
 exact ⟨h.size,_,rfl,Nat.le_refl _,hset_same hlt _,hcl.fr f3,k3⟩
set_option maxHeartbeats 1000000 in
theorem iter41 (F : Fw P E T) {h : H} {tb l : Nat} {sv : V} {sgs : List Sg} {a nx : Nat} (hc : chain sgs a nx) (hm : nx ≤ 1000000000000) (Inv : Nat → H → Prop) (Stp : H → Prop)
  (hKp : ∀ k h1 h2,Inv k h1 → Kp h1 h2 → Inv k h2)
  (hRd : ∀ k h1,Inv k h1 → h1.get tb = some (.cells [sv] 66 false false none) ∧ Rs h1 sv sgs)
  (hY : ∀ k h1 r,a ≤ k → k < nx → Inv k h1 → Sp P E (.yield l) [.int .i64 (k : Nat),r] h1 fun v h2 => F74 h1 h2 ∧ ((v = .bool true ∧ Inv (k + 1) h2) ∨ (v = .bool false ∧ Stp h2)))
  (h0 : Inv a h) : Sp P E (.func 41 [] [.ptr (some (tb,0))]) [.yield l] h fun _ h' => Inv nx h' ∨ Stp h' := by
 have hnl := chain_len hc
 have hmem := chain_mem hc
 have inner : ∀ (s : Sg) (K : List Fr) (Q : Po) (ρ0 : Nat → V) (b4 : Nat),s ∈ sgs → ρ0 0 = .yield l → ρ0 4 = .ptr (some (b4,0)) → ρ0 14 = vl s.rb s.rs.length → ρ0 15 = .int .i64 s.rs.length →
   (∀ (ρ' : Nat → V) (h' : H),(∀ j,j < 16 → j ≠ 5 → j ≠ 6 → ρ' j = ρ0 j) → Inv (s.fst + s.rs.length) h' → X P E none 32 K ρ' h' Q) →
   (∀ (T' : List V) (h' : H),Stp h' → Q .ret T' h') →
   ∀ (d k : Nat) (ρ : Nat → V) (h1 : H),s.rs.length - k = d → k ≤ s.rs.length → (∀ j,j < 16 → j ≠ 5 → j ≠ 6 → ρ j = ρ0 j) → ρ 16 = .int .i64 k → Inv (s.fst + k) h1 → h1.get b4 = some (.cells s.cells 74 false false none) →
   XL P E none 32 b41_6 (.b 2 :: K) ρ h1 Q := by
  intro s K Q ρ0 b4 hs w0 w4 w14 w15 cont stop d
  obtain ⟨oks,hsa,hsz⟩ := hmem s hs
  obtain ⟨p,c,o,hsv⟩ := vl_shape s.rb s.rs.length (fun h => by rw [oks.nn h]; rfl)
  induction d with
  | zero =>
   intro k ρ h1 hd hk hr q16 inv g4
   have hke : ¬ k < s.rs.length := by omega
   have q15 := (hr 15 (by decide) (by decide) (by decide)).trans w15
   have hkk : k = s.rs.length := by omega
   subst hkk
   rw [u41_6]
   simp only [GR,evK,binV,intOp,strOp,shOp,unV,Nat.reduceLT,Nat.reduceEqDiff,Nat.reduceAdd,↓reduceIte,Nat.reduceLeDiff,reduceCtorEq,q15,q16,Int.ofNat_lt,hke]
   refine cont _ h1 (fun j hj h5 h6 => ?_) inv
   simp only [up_app]
   repeat rw [if_neg (by omega)]
   exact hr j hj h5 h6
  | succ d ih =>
   intro k ρ h1 hd hk hr q16 inv g4
   have hke : k < s.rs.length := by omega
   have q0 := (hr 0 (by decide) (by decide) (by decide)).trans w0
   have q4 := (hr 4 (by decide) (by decide) (by decide)).trans w4
   have q14 := (hr 14 (by decide) (by decide) (by decide)).trans w14
   have q15 := (hr 15 (by decide) (by decide) (by decide)).trans w15
   have hw : IntKind.i64.wrap ((k : Int) + 1) = ((k + 1 : Nat) : Int) := wrap_nat (n := k + 1) (by omega)
   have hw2 : IntKind.i64.wrap ((s.fst : Int) + (k : Int)) = ((s.fst + k : Nat) : Int) := by
    rw [wrap_le (by omega) (by omega)]; omega
   obtain ⟨gt,hrs⟩ := hRd _ _ inv
   obtain ⟨_,_,_,_,_,h3⟩ := hrs
   have hxl : s.xs.length = s.rs.length := List.length_map ..
   have hrl := h3 s hs
   obtain ⟨b1,o1,c1,p1,cs,ty,op,ro,fz,hvb,hg1,hx⟩ := hrl.at (k := k) (by omega)
   have hrb : Rb h1 s.xs[k].1 s.xs[k].2 := by obtain ⟨_,_,_,_,_,q⟩ := hrl; exact q _ (List.getElem_mem _)
   have hbd : 1 ≤ s.xs[k].2 ∧ s.xs[k].2 ≤ 65536 := by
    have := oks.rc s.rs[k] (List.getElem_mem hke)
    simp only [Sg.xs,List.getElem_map]
    exact this.2
   obtain ⟨rp,rc,ro',hrv⟩ := hrb.len
   rw [hxl] at hvb
   have q14' := q14.trans hvb
   have hfst : s.cells[0]? = some (.int .i64 s.fst) := rfl
   rw [hrv] at hx hrb
   rw [u41_6]
   simp only [GR,evK,binV,intOp,strOp,shOp,unV,Nat.reduceLT,Nat.reduceEqDiff,Nat.reduceAdd,↓reduceIte,Nat.reduceLeDiff,reduceCtorEq,q15,q16,Int.ofNat_lt,hke,r41_3,q14',Int.natCast_nonneg,Int.toNat_natCast,Nat.mul_one,hg1,hx]
   rw [X_draw]
   refine l41_4 ?_
   simp only [GR,evK,binV,intOp,strOp,shOp,unV,Nat.reduceLT,Nat.reduceEqDiff,Nat.reduceAdd,↓reduceIte,Nat.reduceLeDiff,reduceCtorEq,r41_4a,q0,q4,Nat.zero_add,Nat.add_zero,g4,hfst,hw2]
   refine XCQ_of (clone42 F hrb hbd.1 (by omega)) ?_
   rintro r h2 hnb
   have k2 := hnb.kp
   refine ⟨k2,?_⟩
   simp only [GR,evK,binV,intOp,strOp,shOp,unV,Nat.reduceLT,Nat.reduceEqDiff,Nat.reduceAdd,↓reduceIte,Nat.reduceLeDiff,reduceCtorEq,r41_4b]
   refine XC_of (hY (s.fst + k) h2 r (by omega) (by omega) (hKp _ _ _ inv k2)) ?_
   rintro _ h4 ⟨f4,hor⟩
   rcases hor with ⟨rfl,inv4⟩ | ⟨rfl,hst⟩
   ·simp only [GR,evK,binV,intOp,strOp,shOp,unV,Nat.reduceLT,Nat.reduceEqDiff,Nat.reduceAdd,↓reduceIte,Nat.reduceLeDiff,reduceCtorEq,Bool.not_true,r41_5,q16,hw]
    refine ih (k + 1) _ h4 (by omega) (by omega) (fun j hj h5 h6 => ?_) ?_ inv4 (f4 _ _ _ _ _ (k2.of g4))
    ·simp only [up_app]
     repeat rw [if_neg (by omega)]
     exact hr j hj h5 h6
    ·rfl
   ·simp only [GR,evK,binV,intOp,strOp,shOp,unV,Nat.reduceLT,Nat.reduceEqDiff,Nat.reduceAdd,↓reduceIte,Nat.reduceLeDiff,reduceCtorEq,Bool.not_false]
    exact stop _ h4 hst
 have outer : ∀ (r pre : List Sg) (k : Nat) (ρ : Nat → V) (h1 : H),sgs = pre ++ r → chain r k nx → Inv k h1 → ρ 0 = .yield l → ρ 7 = sv → ρ 8 = .int .i64 sgs.length → ρ 9 = .int .i64 pre.length →
   XL P E none 32 b41_8 [.b 0] ρ h1 (Fin [] fun _ h' => Inv nx h' ∨ Stp h') := by
  intro r
  induction r with
  | nil =>
   intro pre k ρ h1 hsp hch inv q0 q7 q8 q9
   have hke : ¬ pre.length < sgs.length := by rw [hsp]; simp
   simp only [chain] at hch
   rw [u41_8]
   simp only [GR,evK,binV,intOp,strOp,shOp,unV,Nat.reduceLT,Nat.reduceEqDiff,Nat.reduceAdd,↓reduceIte,Nat.reduceLeDiff,reduceCtorEq,q8,q9,Int.ofNat_lt,hke]
   exact .inl (hch ▸ inv)
  | cons s r ih =>
   intro pre k ρ h1 hsp hch inv q0 q7 q8 q9
   have hke : pre.length < sgs.length := by rw [hsp]; simp
   obtain ⟨hf,oks,hch2⟩ := hch
   have hat : sgs[pre.length] = s := by simp [hsp]
   obtain ⟨gt,hrs⟩ := hRd _ _ inv
   obtain ⟨b1,o1,c1,p1,cs,ty,op,ro,fz,hvb,hg1,hle,hcs⟩ := hrs.at hke
   rw [hat] at hcs
   have q7' := q7.trans hvb
   have hw : IntKind.i64.wrap ((pre.length : Int) + 1) = ((pre.length + 1 : Nat) : Int) := wrap_nat (n := pre.length + 1) (by omega)
   obtain ⟨p,c,o,hsv⟩ := vl_shape s.rb s.rs.length (fun h => by rw [oks.nn h]; rfl)
   obtain ⟨h2,e2,g2,k2,z2⟩ := put_fresh h1 (vs := [.int .i64 0,.slice none 0 0 false,.int .i64 0,.bool false]) (ws := s.cells) (ty := 74) rfl (by unfold Sg.cells; rw [hsv]; rfl) rfl
   have hx1 : s.cells[0 + 1]? = some (.slice p s.rs.length c o) := by unfold Sg.cells; rw [hsv]; rfl
   have hx1' : s.cells[1]? = some (.slice p s.rs.length c o) := hx1
   have hc4 : s.cells.length = 4 := rfl
   rw [u41_8]
   simp only [GR,evK,binV,intOp,strOp,shOp,unV,Nat.reduceLT,Nat.reduceEqDiff,Nat.reduceAdd,↓reduceIte,Nat.reduceLeDiff,reduceCtorEq,q8,q9,Int.ofNat_lt,hke,r41_1,q7',Int.natCast_nonneg,Int.toNat_natCast,hg1,hle,hcs,hc4,e2,r41_2,g2,Nat.zero_add,hx1']
   refine inner s _ _ _ h1.size (by rw [hsp]; simp) ?_ ?_ ?_ ?_ ?_ ?_ s.rs.length 0 _ h2 rfl (Nat.zero_le _) (fun j _ _ _ => rfl) ?_ ?_ g2
   ·exact q0
   ·rfl
   ·exact hsv.symm
   ·rfl
   ·intro ρ' h' hr inv'
    have y0 := (hr 0 (by decide) (by decide) (by decide)).trans q0
    have y7 := (hr 7 (by decide) (by decide) (by decide)).trans q7
    have y8 := (hr 8 (by decide) (by decide) (by decide)).trans q8
    have y9 := (hr 9 (by decide) (by decide) (by decide)).trans q9
    simp only [GR,evK,binV,intOp,strOp,shOp,unV,Nat.reduceLT,Nat.reduceEqDiff,Nat.reduceAdd,↓reduceIte,Nat.reduceLeDiff,reduceCtorEq,y9,r41_7,hw]
    refine ih (pre ++ [s]) (k + s.rs.length) _ h' (by rw [hsp]; simp) hch2 (hf ▸ inv') ?_ ?_ ?_ ?_
    ·exact y0
    ·exact y7
    ·exact y8
    ·rw [show (pre ++ [s]).length = pre.length + 1 by simp]; rfl
   ·intro T' h' hst
    rw [Fin_ret]; simp only [GR,evK,binV,intOp,strOp,shOp,unV,Nat.reduceLT,Nat.reduceEqDiff,Nat.reduceAdd,↓reduceIte,Nat.reduceLeDiff,reduceCtorEq]; exact .inr hst
   ·rfl
   ·exact hKp _ _ _ (by rw [hf,Nat.add_zero]; exact inv) k2
 obtain ⟨gt,hrs⟩ := hRd _ _ h0
 obtain ⟨p,c,o,hsv,_⟩ := hrs
 refine Sp_fn F.f41 F.p41 (by simp [fn41]) ?_
 rw [hsv] at gt outer
 simp only [GR,evK,binV,intOp,strOp,shOp,unV,Nat.reduceLT,Nat.reduceEqDiff,Nat.reduceAdd,↓reduceIte,Nat.reduceLeDiff,reduceCtorEq,fn41,c41,r41_0,gt]
 refine outer sgs [] a _ h rfl hc h0 ?_ ?_ ?_ ?_
 ·rfl
 ·rfl
 ·rfl
 ·rfl
end Go.AM.Wc
namespace Go.AM.Wc
open Go.AM
variable {P : Program} {E : Env} {T : H → Prop}
theorem F74.set {h : H} {i : Nat} {o : Obj} (hg : h.get i = some o) (hn : ∀ vs op ro fz,o ≠ .cells vs 74 op ro fz) (o' : Obj) : F74 h (h.set i o') := by
 intro j vs op ro fz hj
 rw [hset_other (H.get_lt hg) (by rintro rfl; rw [hg] at hj; exact hn _ _ _ _ (Option.some.inj hj))]
 exact hj
theorem F74.trans {h1 h2 h3 : H} (a : F74 h1 h2) (b : F74 h2 h3) : F74 h1 h3 := fun i vs op ro fz hg => b _ _ _ _ _ (a _ _ _ _ _ hg)
structure I10 (h h1 : H) (b2 l tb : Nat) (sv' : V) (sgs : List Sg) (o : Obj) (x : Int) : Prop where
 kp : Kp h h1
 gl : h1.get l = some o
 gb : h1.get b2 = some (.cells [.int .i64 x] 2 false false none)
 gt : h1.get tb = some (.cells [sv'] 66 false false none)
 cl : Cl h1 sv' sgs
theorem I10.keep {h h1 h2 : H} {b2 l tb : Nat} {sv' : V} {sgs : List Sg} {o : Obj} {x : Int} (a : I10 h h1 b2 l tb sv' sgs o x) (k : Kp h1 h2) : I10 h h2 b2 l tb sv' sgs o x :=
 ⟨Kp.trans a.kp k,k.of a.gl,k.of a.gb,k.of a.gt,a.cl.fr (F74.kp k)⟩
set_option maxHeartbeats 1000000 in
theorem first10 (F : Fw P E T) {h : H} {lb bd : Nat} {sv : V} {a nx : Nat} {sy : Int} {br : Bool} {sgs : List Sg} (gl : h.get lb = some (lgO bd sv nx sy br)) (hv : Rs h sv sgs) (hc : chain sgs a nx) (hm : nx ≤ 1000000000000) :
  Sp P E (.func 10 [] []) [.ptr (some (lb,0))] h fun r h' => r = .int .i64 (a : Nat) ∧ Kp h h' := by
 have hnl := chain_len hc
 have k1 : Kp h (h.psh (.cells [.int .i64 0] 2 false false none)) := Keeps.psh (Nat.le_refl _) _
 have g1 := psh_same h (.cells [.int .i64 0] 2 false false none)
 have s1 := psh_size h (.cells [.int .i64 0] 2 false false none)
 refine Sp_fn F.f10 F.p10 (by simp [fn10]) ?_
 simp only [GR,evK,binV,intOp,strOp,shOp,unV,Nat.reduceLT,Nat.reduceEqDiff,Nat.reduceAdd,↓reduceIte,Nat.reduceLeDiff,reduceCtorEq,fn10,c10]
 generalize h.psh (.cells [.int .i64 0] 2 false false none) = h1 at *
 simp only [GR,evK,binV,intOp,strOp,shOp,unV,Nat.reduceLT,Nat.reduceEqDiff,Nat.reduceAdd,↓reduceIte,Nat.reduceLeDiff,reduceCtorEq,r10_0]
 refine XC_of (records14 F (k1.of gl) (hv.kp k1) (by omega)) ?_
 rintro _ h2 ⟨tb,sv',rfl,htb,gt2,cl2,k2⟩
 have g2 := k2.of g1
 simp only [GR,evK,binV,intOp,strOp,shOp,unV,Nat.reduceLT,Nat.reduceEqDiff,Nat.reduceAdd,↓reduceIte,Nat.reduceLeDiff,reduceCtorEq]
 refine X_range (by rw [ev_t (by decide)]; rfl) rfl ?_
 generalize hρ : (up (up (up (argF [V.ptr (some (lb,0))]) 2 (V.ptr (some (h.size,0)))) 4 (V.ptr (some (lb,0)))) 5 (V.func 41 [] [V.ptr (some (tb,0))])) = ρ at *
 have w0 : ρ 0 = .ptr (some (lb,0)) := by rw [← hρ]; rfl
 have w2 : ρ 2 = .ptr (some (h.size,0)) := by rw [← hρ]; rfl
 have kL : Kp h2 (h2.psh (.loop .ready none (toL 11 ρ) [6,7] a10_1 b10_3)) := Keeps.psh (Nat.le_refl _) _
 have glL := psh_same h2 (.loop .ready none (toL 11 ρ) [6,7] a10_1 b10_3)
 have k12 := Kp.trans k1 k2
 have hl2 : h.size < h2.size := H.get_lt g2
 have noc : ∀ (st : LoopState) (pe : Option C) (vs : List V) (op ro : Bool) (fz : Option Nat),Obj.loop st pe (toL 11 ρ) [6,7] a10_1 b10_3 ≠ .cells vs 74 op ro fz := by intro _ _ _ _ _ _ e; cases e
 have i0 : I10 h (h2.psh (.loop .ready none (toL 11 ρ) [6,7] a10_1 b10_3)) h.size h2.size tb sv' sgs (.loop .ready none (toL 11 ρ) [6,7] a10_1 b10_3) 0 :=
  ⟨Kp.trans k12 kL,glL,kL.of g2,kL.of gt2,cl2.fr (F74.kp kL)⟩
 refine Sp.mono (iter41 F (l := h2.size) (tb := tb) (sv := sv') hc hm
  (fun k h' => k = a ∧ I10 h h' h.size h2.size tb sv' sgs (.loop .ready none (toL 11 ρ) [6,7] a10_1 b10_3) 0)
  (fun h' => I10 h h' h.size h2.size tb sv' sgs (.loop .done (some .ret) (toL 11 ρ) [6,7] a10_1 b10_3) a) ?_ ?_ ?_ ?_) ?_
 ·rintro k h4 h5 ⟨hk,i4⟩ k45
  exact ⟨hk,i4.keep k45⟩
 ·rintro k h4 ⟨hk,i4⟩
  exact ⟨i4.gt,hv.cl i4.kp i4.cl⟩
 ·rintro k h4 r hk1 hk2 ⟨rfl,i4⟩
  refine Sp_yield (pend' := none) i4.gl rfl (zip2 _ _ _ _ _ _) ?_
  have gB : h4.get h2.size = some (.loop .ready none (toL 11 ρ) [6,7] a10_1 b10_3) := i4.gl
  have hlt := H.get_lt gB
  have glB := hset_same hlt (.loop .busy none (toL 11 ρ) [6,7] a10_1 b10_3)
  have fB := F74.set gB (noc _ _) (.loop .busy none (toL 11 ρ) [6,7] a10_1 b10_3)
  have kB : Kp h (h4.set h2.size (.loop .busy none (toL 11 ρ) [6,7] a10_1 b10_3)) := Keeps.trans (n := h.size) i4.kp (Keeps.set hlt (by omega) _)
  have gbB : (h4.set h2.size (.loop .busy none (toL 11 ρ) [6,7] a10_1 b10_3)).get h.size = some (.cells [.int .i64 0] 2 false false none) := by
   rw [hset_other hlt (by omega)]; exact i4.gb
  have gtB : (h4.set h2.size (.loop .busy none (toL 11 ρ) [6,7] a10_1 b10_3)).get tb = some (.cells [sv'] 66 false false none) := by
   rw [hset_other hlt (by rintro rfl; have := i4.gt; rw [gB] at this; cases this)]; exact i4.gt
  have clB := i4.cl.fr fB
  have nocB := noc .busy none
  have htl : tb ≠ h2.size := by rintro rfl; have := i4.gt; rw [gB] at this; cases this
  have i4k := i4.kp
  clear i0 i4 glL kL noc
  generalize hbz : Obj.loop .busy none (toL 11 ρ) [6,7] a10_1 b10_3 = bz at *
  generalize hrz : Obj.loop .ready none (toL 11 ρ) [6,7] a10_1 b10_3 = rz at *
  generalize hdz : Obj.loop .done (some .ret) (toL 11 ρ) [6,7] a10_1 b10_3 = dz at *
  simp only [GR,evK,binV,intOp,strOp,shOp,unV,Nat.reduceLT,Nat.reduceEqDiff,Nat.reduceAdd,↓reduceIte,Nat.reduceLeDiff,reduceCtorEq,a10_1]
  refine ⟨gB,_,rfl,?_⟩
  generalize h4.set h2.size bz = hB at *
  have e4 := put_at (ws := [.int .i64 (k : Int)]) (o := 0) gbB (by simp) rfl rfl
  have hset : setR [V.int .i64 0] 0 [.int .i64 (k : Int)] = [.int .i64 (k : Int)] := rfl
  rw [hset] at e4
  have hltb := H.get_lt gbB
  have fN := F74.set gbB (by intro _ _ _ _ e; cases e) (.cells [.int .i64 (k : Int)] 2 false false none)
  have gbN := hset_same hltb (.cells [.int .i64 (k : Int)] 2 false false none)
  have glN : (hB.set h.size (.cells [.int .i64 (k : Int)] 2 false false none)).get h2.size = some bz := by
   rw [hset_other hltb (by omega)]; exact glB
  have gtN : (hB.set h.size (.cells [.int .i64 (k : Int)] 2 false false none)).get tb = some (.cells [sv'] 66 false false none) := by
   rw [hset_other hltb (by rintro rfl; rw [gbB] at gtB; cases gtB)]; exact gtB
  have kN : Kp h (hB.set h.size (.cells [.int .i64 (k : Int)] 2 false false none)) := Keeps.trans (n := h.size) kB (Keeps.set hltb (Nat.le_refl _) _)
  have clN := clB.fr fN
  simp only [GR,evK,binV,intOp,strOp,shOp,unV,Nat.reduceLT,Nat.reduceEqDiff,Nat.reduceAdd,↓reduceIte,Nat.reduceLeDiff,reduceCtorEq,b10_3,r10_2,w2,e4]
  refine ⟨glN,?_⟩
  generalize hB.set h.size (.cells [.int .i64 (k : Int)] 2 false false none) = hN at *
  have hltl := H.get_lt glN
  have fD := F74.set glN nocB dz
  refine ⟨(fB.trans fN).trans fD,.inr ⟨Keeps.trans (n := h.size) kN (Keeps.set hltl (by omega) _),hset_same hltl _,?_,?_,clN.fr fD⟩⟩
  ·rw [hset_other hltl (by omega)]; exact gbN
  ·rw [hset_other hltl (Ne.symm htl)]; exact gtN
 ·exact ⟨rfl,i0⟩
 ·rintro _ h4 (⟨rfl,i4⟩ | i4)
  ·refine ⟨_,_,_,_,_,_,i4.gl,by decide,fun oe hoe => ?_⟩
   have hlt := H.get_lt i4.gl
   have kE : Kp h (h4.set h2.size oe) := Keeps.trans (n := h.size) i4.kp (Keeps.set hlt (by omega) _)
   have gbE : (h4.set h2.size oe).get h.size = some (.cells [.int .i64 0] 2 false false none) := by
    rw [hset_other hlt (by omega)]; exact i4.gb
   generalize h4.set h2.size oe = hE at *
   have e4 := put_at (ws := [.int .i64 (nx : Int)]) (o := 0) gbE (by simp) rfl rfl
   have hset : setR [V.int .i64 0] 0 [.int .i64 (nx : Int)] = [.int .i64 (nx : Int)] := rfl
   rw [hset] at e4
   have hltb := H.get_lt gbE
   have g6 := hset_same hltb (.cells [.int .i64 (nx : Int)] 2 false false none)
   simp only
   simp only [GR,evK,binV,intOp,strOp,shOp,unV,Nat.reduceLT,Nat.reduceEqDiff,Nat.reduceAdd,↓reduceIte,Nat.reduceLeDiff,reduceCtorEq,r10_4,w0]
   refine XC_of (next11 F (kE.of gl)) ?_
   rintro _ hx ⟨rfl,e2⟩
   rw [e2]
   clear e2 hx
   simp only [GR,evK,binV,intOp,strOp,shOp,unV,Nat.reduceLT,Nat.reduceEqDiff,Nat.reduceAdd,↓reduceIte,Nat.reduceLeDiff,reduceCtorEq,w2,e4]
   rw [resVs_c (L := 11) (a := 2) (i := h.size) (o := 0) (by decide) _ ?hp,g6,resVs_nil]
   case hp => exact w2
   exact ⟨rfl,Keeps.trans (n := h.size) kE (Keeps.set hltb (Nat.le_refl _) _)⟩
  ·refine ⟨_,_,_,_,_,_,i4.gl,by decide,fun oe hoe => ?_⟩
   have hlt := H.get_lt i4.gl
   have kE : Kp h (h4.set h2.size oe) := Keeps.trans (n := h.size) i4.kp (Keeps.set hlt (by omega) _)
   have gbE : (h4.set h2.size oe).get h.size = some (.cells [.int .i64 (a : Int)] 2 false false none) := by
    rw [hset_other hlt (by omega)]; exact i4.gb
   generalize h4.set h2.size oe = hE at *
   simp only
   rw [XQ_ret_all,Fin_ret,resVs_c (L := 11) (a := 2) (i := h.size) (o := 0) (by decide) _ ?hp,gbE,resVs_nil]
   case hp => exact w2
   exact ⟨rfl,kE⟩
end Go.AM.Wc
namespace Go.AM.Wc
open Go.AM
variable {P : Program} {E : Env} {T : H → Prop}
end Go.AM.Wc
namespace Go.AM.Wc
open Go.AM
variable {P : Program} {E : Env} {T : H → Prop}
end Go.AM.Wc
namespace Go.AM.Wc
open Go.AM
variable {P : Program} {E : Env} {T : H → Prop}
structure OpC where
 kind : Int
 rv : V
 xs : List (V × Nat)
 x2 : V
 x3 : V
 x4 : V
def OpC.cells (o : OpC) : List V := [.int .i64 o.kind,o.rv,o.x2,o.x3,o.x4]
def Os (h : H) (v : V) (ops : List OpC) : Prop := ∃ p c o,v = .slice p ops.length c o ∧ elemsV h 5 ops.length v = some (ops.flatMap OpC.cells) ∧ ∀ x ∈ ops,Rl h x.rv x.xs ∧ x.xs.length ≤ 1099511627776 ∧ [x.x2,x.x3,x.x4].all V.one = true
theorem op_len (pre : List OpC) : (pre.flatMap OpC.cells).length = pre.length * 5 := by
 induction pre with
 | nil => rfl
 | cons s r ih => simp only [List.flatMap_cons,List.length_append,ih,OpC.cells,List.length_cons,List.length_nil]; omega
theorem Os.at {h : H} {v : V} {ops : List OpC} {k : Nat} (a : Os h v ops) (hk : k < ops.length) : ∃ b o c q cs ty op ro fz,v = .slice (some (b,o)) ops.length c q ∧ h.get b = some (.cells cs ty op ro fz) ∧ o + k * 5 + 5 ≤ cs.length ∧ List.take 5 (List.drop (o + k * 5) cs) = ops[k].cells := by
 obtain ⟨p,c,q,rfl,h2,h3⟩ := a
 cases p with
 | none => simp only [elemsV] at h2; rw [if_neg (by omega)] at h2; cases h2
 | some p =>
  obtain ⟨i,o⟩ := p
  simp only [elemsV] at h2
  rw [if_neg (by omega)] at h2
  split at h2
  ·rename_i vs ty op ro fz hg
   split at h2
   ·rename_i hle
    simp only [Option.some.injEq] at h2
    refine ⟨i,o,c,q,vs,ty,op,ro,fz,rfl,hg,by omega,?_⟩
    have hsp : ops = ops.take k ++ ops[k] :: ops.drop (k + 1) := by simp
    have e : List.take 5 (List.drop (k * 5) (getR vs o (ops.length * 5))) = List.take 5 (List.drop (k * 5) (ops.flatMap OpC.cells)) := by rw [h2]
    unfold getR at e
    rw [List.drop_take,List.drop_drop,List.take_take,Nat.min_eq_left (by omega)] at e
    rw [e]
    have hl : ((ops.take k).flatMap OpC.cells).length = k * 5 := by rw [op_len,List.length_take,Nat.min_eq_left (by omega)]
    have : ops.flatMap OpC.cells = (ops.take k).flatMap OpC.cells ++ (ops[k].cells ++ (ops.drop (k + 1)).flatMap OpC.cells) := by
     have := congrArg (List.flatMap OpC.cells) hsp
     rw [List.flatMap_append,List.flatMap_cons] at this
     exact this
    rw [this,← hl,List.drop_left]
    have h4 : ops[k].cells.length = 5 := rfl
    rw [← h4,List.take_left]
   ·cases h2
  ·cases h2
theorem Os.kp {h h' : H} {v : V} {ops : List OpC} (a : Os h v ops) (k : Kp h h') : Os h' v ops := by
 obtain ⟨p,c,o,h1,h2,h3⟩ := a
 exact ⟨p,c,o,h1,elems_kp k h2,fun x hx => ⟨(h3 x hx).1.kp k,(h3 x hx).2⟩⟩
end Go.AM.Wc
namespace Go.AM.Wc
open Go.AM
variable {P : Program} {E : Env} {T : H → Prop}
end Go.AM.Wc
namespace Go.AM.Wc
open Go.AM
variable {P : Program} {E : Env} {T : H → Prop}
end Go.AM.Wc
namespace Go.AM
variable {P : Program} {E : Env}
open Go.RowKit
variable {P : Program}
def repP : List V → H → Option (V × H) := fun args h => match args with
 | [.str [48],.int .i64 c] => if decide (0 ≤ c) && decide (c ≤ 12) then some (.str (List.replicate c.toNat 48),h) else none
 | _ => none
theorem rep_ok {f : FuncId}
  (hc : ∀ (c : Nat) (w : World),c ≤ 12 → Calls P f #[.string ⟨#[48]⟩,.int .i64 c] w fun e w' => e = .returned (.string ⟨(List.replicate c (48 : UInt8)).toArray⟩) ∧ Below w.heap.size w w')
  {args : List V} {h : H} {v : V} {h' : H} {m : Mp} {w : World} {xs : List Value} (he : repP args h = some (v,h')) (hr : HR P m h w) (hx : VRL m args xs) (n : Nat) : CallsIn (FF none) n P f xs.toArray w (Post P m h w v h') := by
 unfold repP at he
 split at he
 ·rename_i c
  split at he
  ·rename_i hc2
   simp only [Bool.and_eq_true,decide_eq_true_eq] at hc2
   cases he
   obtain ⟨y1,ys1,e1,⟨y2,ys2,e2,e3,rfl⟩,rfl⟩ := hx
   cases e1; cases e2; cases e3
   have := hc c.toNat w (by omega)
   rw [Int.toNat_of_nonneg hc2.1] at this
   refine callsIn_wide.2 (this.mono fun e w' ⟨q1,q2⟩ => ?_)
   obtain ⟨a,b⟩ := hr.below q2
   exact ⟨m,_,q1,rfl,a,b⟩
  ·cases he
 ·cases he
end Go.AM
namespace Go.AM
open Go.RowKit
variable {P : Program}
def mapB (G : Nat) (x y : Option (Nat × Nat × Nat)) : Mp := fun i => if i < G then some (i,0,0) else if i = G then x else if i = G + 1 then y else none
def ownC (r : Nat) (room : Int) : List V := [.map (some r),.int .i64 0,.int .i64 0,.int .i64 room,.bool false]
def hPr (G ty : Nat) (room : Int) : H := H.lay (G + 2) [(G,.map [] 0),(G + 1,.cells (ownC G room) ty false true none)]
theorem hPr_get {G ty : Nat} {room : Int} {i : Nat} {o : Obj} (h : (hPr G ty room).get i = some o) : (i = G ∧ o = .map [] 0) ∨ (i = G + 1 ∧ o = .cells (ownC G room) ty false true none) := by
 have hlt : i < G + 2 := H.get_lt h
 unfold hPr H.lay at h
 simp only [List.foldl_cons,List.foldl_nil] at h
 have s1 : ({ size := G + 2,t := .nil } : H).size = G + 2 := rfl
 by_cases h2 : i = G + 1
 ·subst h2
  rw [hset_same (by rw [H.set_size]; omega)] at h
  cases h; exact .inr ⟨rfl,rfl⟩
 ·rw [hset_other (by rw [H.set_size]; omega) (by omega)] at h
  by_cases h1 : i = G
  ·subst h1
   rw [hset_same (by omega)] at h
   cases h; exact .inl ⟨rfl,rfl⟩
  ·rw [hset_other (by omega) (by omega)] at h
   exfalso
   unfold H.get at h
   split at h
   ·simp [Tr.get] at h
   ·cases h
theorem HR.pair {m : Mp} {h : H} {w : World} (hr : HR P m h w) {G bm bd ty : Nat} {room : Int} (hG : P.globals.size = G) (gm : h.get bm = some (.map [] 0)) (gd : h.get bd = some (.cells (ownC bm room) ty false false none)) : HR P (mapB G (m bm) (m bd)) (hPr G ty room) w where
 ok := trivial
 dom := fun i x hx => by
  show i < G + 2
  unfold mapB at hx
  split at hx
  ·omega
  ·split at hx
   ·omega
   ·split at hx
    ·omega
    ·cases hx
 glob := fun g hg => by simp [mapB,hG ▸ hg]
 blk := fun i r sh e hm => by
  unfold mapB at hm
  split at hm
  ·rename_i hi
   cases hm
   exact hr.blk _ _ _ _ (hr.glob i (by omega))
  ·split at hm
   ·exact hr.blk _ _ _ _ hm
   ·split at hm
    ·exact hr.blk _ _ _ _ hm
    ·cases hm
 obj := fun i o hg hl => by
  rcases hPr_get hg with ⟨rfl,rfl⟩ | ⟨rfl,rfl⟩
  ·obtain ⟨r,sh,e,ob,q1,q2,es',rfl,q3⟩ := hr.obj bm _ gm rfl
   exact ⟨r,sh,e,_,by simp [mapB,q1],q2,es',rfl,q3⟩
  ·obtain ⟨r,sh,e,ob,q1,q2,c,fzr,rfl,q4,q5,_⟩ := hr.obj bd _ gd rfl
   refine ⟨r,sh,e,_,by unfold mapB; rw [if_neg (by omega),if_neg (by omega),if_pos rfl]; exact q1,q2,c,fzr,rfl,?_,q5,fun h => (by cases h)⟩
   simp only [ownC] at q4 ⊢
   obtain ⟨y,ys,⟨r1,s1,e1,h1,h2⟩,h3,h4⟩ := q4
   exact ⟨y,ys,⟨r1,s1,e1,by simp [mapB,h1],h2⟩,h3,h4⟩
 inj := fun i j o o' r sh e sh' e' h1 h2 hm hl m1 m2 => by
  rcases hPr_get h1 with ⟨rfl,rfl⟩ | ⟨rfl,rfl⟩
  ·rcases hPr_get h2 with ⟨rfl,rfl⟩ | ⟨rfl,rfl⟩
   ·rfl
   ·exfalso
    unfold mapB at m1 m2
    rw [if_neg (by omega),if_pos rfl] at m1
    rw [if_neg (by omega),if_neg (by omega),if_pos rfl] at m2
    have := hr.inj bm bd _ _ _ _ _ _ _ gm gd rfl rfl m1 m2
    subst this
    rw [gm] at gd; cases gd
  ·cases hm
theorem pair_run (hmix : P.follows .mixedOrders = true) {prim : Nat → Option (List V → H → Option (V × H))} (hp : PrimOK P prim) {n g G bm bd ty : Nat} {room : Int} {args0 : List V} {xs : List Value} {h1 : H} {v : V} (hG : P.globals.size = G)
  (run : ap P (envOf P prim) n (.func g [] []) args0 (hPr G ty room) = some (v,h1)) (hsame : h1.get G = some (.map [] 0)) {m : Mp} {h : H} {w : World} (hr : HR P m h w) (gm : h.get bm = some (.map [] 0)) (gd : h.get bd = some (.cells (ownC bm room) ty false false none)) (hx : VRL (mapB G (m bm) (m bd)) args0 xs) (j : Nat) :
  CallsIn (FF none) j P g xs.toArray w fun e w' => ∃ m' x,e = .returned x ∧ VR m' v x ∧ Below w.heap.size w w' := by
 have hr0 := hr.pair hG gm gd
 have hA := (ap_sound hmix hp n).fn run hr0 (xs := xs) (by simpa using hx)
 refine CallsIn.mono (hA.2 j) fun e w' ⟨m',x,q1,q2,q3,q4⟩ => ⟨m',x,q1,q2,q4.os,q4.tape,q4.output,q4.wsize,fun k hk => ?_⟩
 by_cases how : Own (mapB G (m bm) (m bd)) (hPr G ty room) k
 ·obtain ⟨i,o,sh,e',hg,hm,hmi⟩ := how
  rcases hPr_get hg with ⟨rfl,rfl⟩ | ⟨rfl,rfl⟩
  ·obtain ⟨es1,a1,a2⟩ := hr0.map hg hmi
   obtain ⟨es2,b1,b2⟩ := q3.map hsame (q4.sub _ _ hmi)
   have e1 : es1 = #[] := Array.toList_eq_nil_iff.1 a2
   have e2 : es2 = #[] := Array.toList_eq_nil_iff.1 b2
   rw [a1,b1,e1,e2]
  ·cases hm
 ·exact q4.frame k hk how
end Go.AM
namespace Go.AM.Wc
open Go.AM
variable {P : Program} {E : Env} {T : H → Prop}
def Rx (h : H) (v : V) (cs : List V) : Prop := ∃ a c o,v = .slice a cs.length c o ∧ elemsV h 1 cs.length v = some cs ∧ Bs cs
theorem Rx.rb {h : H} {v : V} {cs : List V} (a : Rx h v cs) : Rb h v cs.length := by
 obtain ⟨p,c,o,h1,h2,h3⟩ := a
 exact ⟨p,c,o,cs,h1,h2,rfl,h3⟩
theorem Rx.kp {h h' : H} {v : V} {cs : List V} (a : Rx h v cs) (k : Kp h h') : Rx h' v cs := by
 obtain ⟨p,c,o,h1,h2,h3⟩ := a
 exact ⟨p,c,o,h1,elems_kp k h2,h3⟩
theorem Rx.at {h : H} {v : V} {cs : List V} {k : Nat} (a : Rx h v cs) (hk : k < cs.length) : ∃ b o c q vs ty op ro fz m,v = .slice (some (b,o)) cs.length c q ∧ h.get b = some (.cells vs ty op ro fz) ∧ vs[o + k]? = some (.int .u8 m) ∧ cs[k] = .int .u8 m := by
 obtain ⟨p,c,q,rfl,h2,h4⟩ := a
 cases p with
 | none => simp only [elemsV] at h2; rw [if_neg (by omega)] at h2; cases h2
 | some p =>
  obtain ⟨i,o⟩ := p
  simp only [elemsV] at h2
  rw [if_neg (by omega)] at h2
  split at h2
  ·rename_i vs ty op ro fz hg
   split at h2
   ·simp only [Option.some.injEq] at h2
    obtain ⟨m,hm⟩ := h4 cs[k] (List.getElem_mem hk)
    refine ⟨i,o,c,q,vs,ty,op,ro,fz,m,rfl,hg,?_,hm⟩
    have e : (getR vs o (cs.length * 1))[k]? = some cs[k] := by rw [h2,List.getElem?_eq_getElem hk]
    unfold getR at e
    rw [List.getElem?_take,if_pos (by omega),List.getElem?_drop] at e
    rw [e,hm]
   ·cases h2
  ·cases h2
def bAnd (x y : Int) : Int := IntKind.u32.wrap (BitVec.ofInt 32 x &&& BitVec.ofInt 32 y).toNat
def bXor (x y : Int) : Int := IntKind.u32.wrap (BitVec.ofInt 32 x ^^^ BitVec.ofInt 32 y).toNat
def bit1 (s : Int) : Int := if (bAnd s 1 == 1) = true then bXor (s.fdiv (2 ^ (min (1 : Int).toNat 32))) 3988292384 else s.fdiv (2 ^ (min (1 : Int).toNat 32))
def bitN : Nat → Int → Int
 | 0,s => s
 | k + 1,s => bitN k (bit1 s)
def byteS (s : Int) : V → Int
 | .int .u8 m => bitN 8 (bXor s (IntKind.u32.wrap m))
 | _ => s
def sumF (cs : List V) : Int := cs.foldl byteS 4294967295
set_option maxHeartbeats 1000000 in
theorem bits8x {h : H} {K : List Fr} {Q : Po} {ρ0 : Nat → V} {s0 : Int} (cont : ∀ (ρ' : Nat → V),(∀ j,j ≠ 3 → j ≠ 8 → j < 25 → ρ' j = ρ0 j) → ρ' 3 = .int .u32 (bitN 8 s0) → X P E none 40 K ρ' h Q) :
  ∀ (d k : Nat) (ρ : Nat → V) (s : Int),8 - k = d → k ≤ 8 → bitN d s = bitN 8 s0 → (∀ j,j ≠ 3 → j ≠ 8 → j < 25 → ρ j = ρ0 j) → ρ 3 = .int .u32 s → ρ 25 = .int .i64 k → XL P E none 40 b104_10 (.b 4 :: K) ρ h Q := by
 have lt1 : ¬ (1 : Int) < 0 := by decide
 intro d
 induction d with
 | zero =>
  intro k ρ s hd hk hs hr q3 q25
  have hke : ¬ (k : Int) < 8 := by omega
  rw [u104_10]
  simp only [GR,evK,binV,intOp,strOp,shOp,unV,Nat.reduceLT,Nat.reduceEqDiff,Nat.reduceAdd,↓reduceIte,Nat.reduceLeDiff,reduceCtorEq,q25,hke]
  refine cont _ (fun j h1 h2 h3 => ?_) ?_
  ·simp only [up_app]
   repeat rw [if_neg (by omega)]
   exact hr j h1 h2 h3
  ·rw [← hs]; exact q3
 | succ d ih =>
  intro k ρ s hd hk hs hr q3 q25
  have hke : (k : Int) < 8 := by omega
  have hw : IntKind.i64.wrap ((k : Int) + 1) = ((k + 1 : Nat) : Int) := wrap_nat (n := k + 1) (by omega)
  rw [u104_10]
  simp only [GR,evK,binV,intOp,strOp,shOp,unV,Nat.reduceLT,Nat.reduceEqDiff,Nat.reduceAdd,↓reduceIte,Nat.reduceLeDiff,reduceCtorEq,q25,hke,r104_5,q3,r104_6,lt1,r104_7]
  have hb : bitN d (bit1 s) = bitN 8 s0 := hs
  split
  ·rename_i hc
   have hbit : bit1 s = bXor (s.fdiv (2 ^ (min (1 : Int).toNat 32))) 3988292384 := if_pos hc
   simp only [GR,evK,binV,intOp,strOp,shOp,unV,Nat.reduceLT,Nat.reduceEqDiff,Nat.reduceAdd,↓reduceIte,Nat.reduceLeDiff,reduceCtorEq,r104_8,r104_9,q25,hw]
   refine ih (k + 1) _ (bit1 s) (by omega) (by omega) hb (fun j h1 h2 h3 => ?_) ?_ ?_
   ·simp only [up_app]
    repeat rw [if_neg (by omega)]
    exact hr j h1 h2 h3
   ·rw [hbit]; rfl
   ·rfl
  ·rename_i hc
   have hbit : bit1 s = s.fdiv (2 ^ (min (1 : Int).toNat 32)) := if_neg hc
   simp only [GR,evK,binV,intOp,strOp,shOp,unV,Nat.reduceLT,Nat.reduceEqDiff,Nat.reduceAdd,↓reduceIte,Nat.reduceLeDiff,reduceCtorEq,r104_9,q25,hw]
   refine ih (k + 1) _ (bit1 s) (by omega) (by omega) hb (fun j h1 h2 h3 => ?_) ?_ ?_
   ·simp only [up_app]
    repeat rw [if_neg (by omega)]
    exact hr j h1 h2 h3
   ·rw [hbit]; rfl
   ·rfl
def notX (s : Int) : Int := IntKind.u32.wrap (~~~BitVec.ofInt 32 s).toNat
def crcF (cs : List V) : Int := notX (sumF cs)
theorem foldl_take {f : Int → V → Int} {cs : List V} {k : Nat} (hk : k < cs.length) (s : Int) : (cs.take (k + 1)).foldl f s = f ((cs.take k).foldl f s) cs[k] := by
 rw [List.take_succ_eq_append_getElem hk,List.foldl_append]; rfl
set_option maxHeartbeats 1000000 in
theorem sum104x (F : Fw P E T) {h : H} {b : Nat} {v : V} {cs : List V} (hv : Rx h v cs) (hn : cs.length ≤ 1048576) (hg : h.get b = some (.cells [v] 45 false false none)) : Sp P E (.func 104 [] []) [.slice (some (b,0)) 1 1 false] h fun r h' => r = .int .u32 (crcF cs) ∧ h' = h := by
 have hv0 := hv
 obtain ⟨p,c,q,hvv,_⟩ := hv0
 have fin : ∀ (ρ : Nat → V),ρ 3 = .int .u32 (sumF cs) → ρ 10 = .int .i64 (1 : Nat) → ρ 11 = .int .i64 (0 : Nat) → XO P E none 40 r104_13 [.l b104_14,.b 0,.c (.seq (.region r104_15) (.ret))] ρ h (Fin [.t 2] fun r h' => r = .int .u32 (crcF cs) ∧ h' = h) := by
  intro ρ q3 q10 q11
  have hw : IntKind.i64.wrap (((0 : Nat) : Int) + 1) = ((1 : Nat) : Int) := wrap_nat (n := 1) (by omega)
  have h1 : ¬ ((1 : Nat) : Int) < ((1 : Nat) : Int) := by decide
  simp only [GR,evK,binV,intOp,strOp,shOp,unV,Nat.reduceLT,Nat.reduceEqDiff,Nat.reduceAdd,↓reduceIte,Nat.reduceLeDiff,reduceCtorEq,r104_13,q11,hw]
  rw [u104_14]
  simp only [GR,evK,binV,intOp,strOp,shOp,unV,Nat.reduceLT,Nat.reduceEqDiff,Nat.reduceAdd,↓reduceIte,Nat.reduceLeDiff,reduceCtorEq,q10,h1,r104_15,q3]
  rfl
 have loop : ∀ (d k : Nat) (ρ : Nat → V),cs.length - k = d → k ≤ cs.length → ρ 3 = .int .u32 ((cs.take k).foldl byteS 4294967295) → ρ 10 = .int .i64 (1 : Nat) → ρ 11 = .int .i64 (0 : Nat) → ρ 15 = v → ρ 16 = .int .i64 cs.length → ρ 17 = .int .i64 k →
   XL P E none 40 b104_12 [.b 2,.b 1,.c (.region r104_13),.l b104_14,.b 0,.c (.seq (.region r104_15) (.ret))] ρ h (Fin [.t 2] fun r h' => r = .int .u32 (crcF cs) ∧ h' = h) := by
  intro d
  induction d with
  | zero =>
   intro k ρ hd hk q3 q10 q11 q15 q16 q17
   have hke : ¬ k < cs.length := by omega
   rw [List.take_of_length_le (by omega)] at q3
   rw [u104_12]
   simp only [GR,evK,binV,intOp,strOp,shOp,unV,Nat.reduceLT,Nat.reduceEqDiff,Nat.reduceAdd,↓reduceIte,Nat.reduceLeDiff,reduceCtorEq,q16,q17,Int.ofNat_lt,hke]
   exact fin _ (by exact q3) (by exact q10) (by exact q11)
  | succ d ih =>
   intro k ρ hd hk q3 q10 q11 q15 q16 q17
   have hke : k < cs.length := by omega
   obtain ⟨b1,o1,c1,p1,vs,ty,op,ro,fz,x,hv1,hg1,hx,hck⟩ := hv.at hke
   have q15' := q15.trans hv1
   have hw : IntKind.i64.wrap ((k : Int) + 1) = ((k + 1 : Nat) : Int) := wrap_nat (n := k + 1) (by omega)
   rw [u104_12]
   simp only [GR,evK,binV,intOp,strOp,shOp,unV,Nat.reduceLT,Nat.reduceEqDiff,Nat.reduceAdd,↓reduceIte,Nat.reduceLeDiff,reduceCtorEq,q16,q17,Int.ofNat_lt,hke,r104_3,q15',Int.natCast_nonneg,Int.toNat_natCast,Nat.mul_one,hg1,hx,r104_4,q3]
   refine bits8x (ρ0 := _) (s0 := bXor ((cs.take k).foldl byteS 4294967295) (IntKind.u32.wrap x)) ?_ 8 0 _ _ rfl (Nat.zero_le _) rfl (fun j _ _ _ => rfl) ?_ ?_
   ·intro ρ2 hr2 y3
    have y17 : ρ2 17 = .int .i64 k := (hr2 17 (by decide) (by decide) (by decide)).trans q17
    simp only [GR,evK,binV,intOp,strOp,shOp,unV,Nat.reduceLT,Nat.reduceEqDiff,Nat.reduceAdd,↓reduceIte,Nat.reduceLeDiff,reduceCtorEq,r104_11,y17,hw]
    refine ih (k + 1) _ (by omega) (by omega) ?_ ?_ ?_ ?_ ?_ ?_
    ·rw [foldl_take hke,hck]; exact y3
    ·exact (hr2 10 (by decide) (by decide) (by decide)).trans q10
    ·exact (hr2 11 (by decide) (by decide) (by decide)).trans q11
    ·exact (hr2 15 (by decide) (by decide) (by decide)).trans q15
    ·exact (hr2 16 (by decide) (by decide) (by decide)).trans q16
    ·rfl
   ·rfl
   ·rfl
 refine Sp_fn F.f104 F.p104 (by simp [fn104]) ?_
 have h0 : ((0 : Int) : Int) < ((1 : Nat) : Int) := by decide
 have h00 : (0 : Int) ≤ 0 := Int.le_refl _
 have ht0 : Int.toNat 0 = 0 := rfl
 simp only [GR,evK,binV,intOp,strOp,shOp,unV,Nat.reduceLT,Nat.reduceEqDiff,Nat.reduceAdd,↓reduceIte,Nat.reduceLeDiff,reduceCtorEq,fn104,c104,r104_0]
 rw [u104_14]
 rw [hvv] at hg hv loop
 simp only [GR,evK,binV,intOp,strOp,shOp,unV,Nat.reduceLT,Nat.reduceEqDiff,Nat.reduceAdd,↓reduceIte,Nat.reduceLeDiff,reduceCtorEq,h0,r104_1,h00,ht0,Nat.zero_mul,Nat.add_zero,hg,r104_2]
 refine loop cs.length 0 _ rfl (Nat.zero_le _) ?_ ?_ ?_ ?_ ?_ ?_
 ·rfl
 ·rfl
 ·rfl
 ·rfl
 ·rfl
 ·rfl
end Go.AM.Wc
namespace Go.AM.Wc
open Go.AM
variable {P : Program} {E : Env} {T : H → Prop}
def Nx (h h' : H) (r : V) (cs : List V) : Prop := ∃ b,r = vl (some b) cs.length ∧ Bs cs ∧ h.size ≤ b ∧ h'.get b = some (.cells cs 5 true false none) ∧ Kp h h'
theorem nx_of {h h' : H} {b : Nat} {cs : List V} (a : Ow h.size h' (fpt (some b) 5 cs ++ [])) (hb : Bs cs) (k : Kp h h') : Nx h h' (vl (some b) cs.length) cs :=
 ⟨b,rfl,hb,a.low (b,.cells cs 5 true false none) (by simp [fpt]),a.at (by simp [fpt]),k⟩
def orB (u : Int) : V := .int .u8 (IntKind.u8.wrap ((BitVec.ofInt IntKind.u8.bits (IntKind.u8.wrap u) ||| BitVec.ofInt IntKind.u8.bits 128).toNat : Int))
def varF : Nat → Int → List V
 | 0,u => [.int .u8 (IntKind.u8.wrap u)]
 | d + 1,u => if u ≥ 128 then orB u :: varF d (u / 128) else [.int .u8 (IntKind.u8.wrap u)]
def numF (n : Int) : List V := varF 3 (2 * n)
set_option maxHeartbeats 1000000 in
theorem number108x (F : Fw P E T) {h0 : H} {n : Int} (hn0 : 0 ≤ n) (hn1 : n ≤ 1048576) : Sp P E (.func 108 [] []) [.int .i64 n] h0 fun r h' => Nx h0 h' r (numF n) := by
 have lt1 : ¬ (1 : Int) < 0 := by decide
 have lt7 : ¬ (7 : Int) < 0 := by decide
 have n1 : ¬ n < 0 := by omega
 have wu : ∀ u : Int,0 ≤ u → u ≤ 4194304 → IntKind.u64.wrap u = u := by
  intro u h1 h2
  simp [IntKind.wrap,IntKind.signed,IntKind.bits,IntKind.max]
  omega
 have hsh : IntKind.u64.wrap (n * 2 ^ (min (Int.toNat 1) IntKind.u64.bits)) = 2 * n := by
  have : min (Int.toNat 1) IntKind.u64.bits = 1 := by decide
  rw [this,wu _ (by omega) (by omega)]; omega
 have hw0 := wu n hn0 (by omega)
 have one1 : ∀ x : Int,[V.int .u8 x].all V.one = true := fun _ => rfl
 have fin : ∀ (ρ : Nat → V) (h : H) (b : Option Nat) (cs : List V) (u : Int),cs ++ [V.int .u8 (IntKind.u8.wrap u)] = numF n → 0 ≤ u → ρ 3 = .int .u64 u → ρ 4 = vl b cs.length → (b = none → cs = []) → cs.length ≤ 4 → Bs cs → Ow h0.size h (fpt b 5 cs ++ []) → Kp h0 h → XO P E none 27 r108_7 [.c .ret] ρ h (Fin [.t 2] fun r h' => Nx h0 h' r (numF n)) := by
  intro ρ h b cs u htot hu q3 q4 hb hc hbs ow kk
  have k1 : Kp h (h.psh (.cells [.int .u8 (IntKind.u8.wrap u)] 5 false false none)) := Keeps.psh (Nat.le_refl _) _
  obtain ⟨b',h',e1,e2,e3,e4,_⟩ := Ow.appc (m1 := []) (bytes := 1) (ds := [V.int .u8 (IntKind.u8.wrap u)]) (x := .slice (some (h.size,0)) 1 1 false) (ow.kp k1) hb (Nat.le_trans kk.size k1.size) rfl (one_elems h _) rfl (by simp; omega)
  cases b' with
  | none => exact absurd (e3 rfl) (by simp)
  | some b' =>
  have hd0 : List.drop 1 [V.int .u8 0] = [] := rfl
  simp only [GR,evK,binV,intOp,strOp,shOp,unV,Nat.reduceLT,Nat.reduceEqDiff,Nat.reduceAdd,↓reduceIte,Nat.reduceLeDiff,reduceCtorEq,r108_7,q4,q3,hd0,e1]
  rw [htot] at e2
  rw [← htot]
  exact nx_of (by rw [htot]; exact e2) (Bs.app hbs (by intro x hx; rw [List.mem_singleton.1 hx]; exact ⟨_,rfl⟩)) (Keeps.trans (n := h0.size) (Kp.trans kk k1) e4)
 have loop : ∀ (d : Nat) (u : Int) (ρ : Nat → V) (h : H) (b : Option Nat) (cs : List V),cs ++ varF d u = numF n → 0 ≤ u → u < 128 ^ (d + 1) → d ≤ 3 → ρ 3 = .int .u64 u → ρ 4 = vl b cs.length → (b = none → cs = []) → cs.length + d ≤ 4 → Bs cs → Ow h0.size h (fpt b 5 cs ++ []) → Kp h0 h →
   XL P E none 27 b108_6 [.b 0,.c (.seq (.region r108_7) (.ret))] ρ h (Fin [.t 2] fun r h' => Nx h0 h' r (numF n)) := by
  intro d
  induction d with
  | zero =>
   intro u ρ h b cs htot hu0 hu1 hd q3 q4 hb hc hbs ow kk
   have hge : ¬ u ≥ 128 := by simp at hu1; omega
   rw [u108_6]
   simp only [GR,evK,binV,intOp,strOp,shOp,unV,Nat.reduceLT,Nat.reduceEqDiff,Nat.reduceAdd,↓reduceIte,Nat.reduceLeDiff,reduceCtorEq,r108_3,q3,hge]
   exact fin _ h b cs u htot hu0 (by exact q3) (by exact q4) hb (by omega) hbs ow kk
  | succ d ih =>
   intro u ρ h b cs htot hu0 hu1 hd q3 q4 hb hc hbs ow kk
   rw [u108_6]
   by_cases hge : u ≥ 128
   ·have k1 : Kp h (h.psh (.cells [.int .u8 (IntKind.u8.wrap ((BitVec.ofInt IntKind.u8.bits (IntKind.u8.wrap u) ||| BitVec.ofInt IntKind.u8.bits 128).toNat : Int))] 5 false false none)) := Keeps.psh (Nat.le_refl _) _
    obtain ⟨b',h',e1,e2,e3,e4,_⟩ := Ow.appc (m1 := []) (bytes := 1) (ds := [V.int .u8 (IntKind.u8.wrap ((BitVec.ofInt IntKind.u8.bits (IntKind.u8.wrap u) ||| BitVec.ofInt IntKind.u8.bits 128).toNat : Int))]) (x := .slice (some (h.size,0)) 1 1 false) (ow.kp k1) hb (Nat.le_trans kk.size k1.size) rfl (one_elems h _) rfl (by simp; omega)
    have hd0 : List.drop 1 [V.int .u8 0] = [] := rfl
    have hdv : u.fdiv (2 ^ (min (Int.toNat 7) IntKind.u64.bits)) = u / 128 := by
     have : min (Int.toNat 7) IntKind.u64.bits = 7 := by decide
     rw [this]
     exact Int.fdiv_eq_ediv_of_nonneg _ (by decide)
    simp only [GR,evK,binV,intOp,strOp,shOp,unV,Nat.reduceLT,Nat.reduceEqDiff,Nat.reduceAdd,↓reduceIte,Nat.reduceLeDiff,reduceCtorEq,r108_3,q3,hge,r108_4,q4,hd0,e1,r108_5,lt7,hdv]
    refine ih (u / 128) _ h' b' _ (by rw [← htot]; simp only [varF]; rw [if_pos hge]; simp [orB]) (by omega) ?_ (by omega) ?_ ?_ e3 (by simp; omega) (Bs.app hbs (by intro x hx; rw [List.mem_singleton.1 hx]; exact ⟨_,rfl⟩)) e2 (Keeps.trans (n := h0.size) (Kp.trans kk k1) e4)
    ·rw [Int.pow_succ] at hu1
     exact Int.ediv_lt_of_lt_mul (by decide) hu1
    ·rfl
    ·rfl
   ·simp only [GR,evK,binV,intOp,strOp,shOp,unV,Nat.reduceLT,Nat.reduceEqDiff,Nat.reduceAdd,↓reduceIte,Nat.reduceLeDiff,reduceCtorEq,r108_3,q3,hge]
    exact fin _ h b cs u (by rw [← htot]; simp only [varF]; rw [if_neg hge]) hu0 (by exact q3) (by exact q4) hb (by omega) hbs ow kk
 refine Sp_fn F.f108 F.p108 (by simp [fn108]) ?_
 simp only [GR,evK,binV,intOp,strOp,shOp,unV,Nat.reduceLT,Nat.reduceEqDiff,Nat.reduceAdd,↓reduceIte,Nat.reduceLeDiff,reduceCtorEq,fn108,c108,r108_0,hw0,lt1,hsh,r108_1,n1]
 refine loop 3 (2 * n) _ h0 none [] rfl (by omega) (by omega) (Nat.le_refl _) ?_ ?_ (fun _ => rfl) (by simp) (by intro x hx; cases hx) (by simpa [fpt] using Ow.nil _ _) (Keeps.refl _ _)
 ·rfl
 ·rfl
def fourF (s : Int) : List V := [.int .u8 (IntKind.u8.wrap s),.int .u8 (IntKind.u8.wrap (s.fdiv (2 ^ (min (8 : Int).toNat IntKind.u32.bits)))),.int .u8 (IntKind.u8.wrap (s.fdiv (2 ^ (min (16 : Int).toNat IntKind.u32.bits)))),.int .u8 (IntKind.u8.wrap (s.fdiv (2 ^ (min (24 : Int).toNat IntKind.u32.bits))))]
theorem four103x (F : Fw P E T) {h0 : H} {s : Int} : Sp P E (.func 103 [] []) [.int .u32 s] h0 fun r h' => ∃ b,r = .slice (some (b,0)) 4 4 false ∧ Bs (fourF s) ∧ h'.get b = some (.cells (fourF s) 5 false false none) ∧ Kp h0 h' := by
 have l8 : ¬ (8 : Int) < 0 := by decide
 have l16 : ¬ (16 : Int) < 0 := by decide
 have l24 : ¬ (24 : Int) < 0 := by decide
 refine Sp_fn F.f103 F.p103 (by simp [fn103]) ?_
 simp only [GR,evK,binV,intOp,strOp,shOp,unV,Nat.reduceLT,Nat.reduceEqDiff,Nat.reduceAdd,↓reduceIte,Nat.reduceLeDiff,reduceCtorEq,fn103,c103,r103_0,l8,l16,l24]
 refine ⟨_,rfl,?_,psh_same _ _,Keeps.psh (Nat.le_refl _) _⟩
 intro x hx
 simp [fourF] at hx
 rcases hx with rfl | rfl | rfl | rfl <;> exact ⟨_,rfl⟩
end Go.AM.Wc
namespace Go.AM.Wc
open Go.AM
variable {P : Program} {E : Env} {T : H → Prop}
theorem setR_take {cs w x y : List V} {t u : Nat} (h : t + w.length ≤ cs.length) (hx : cs.take t = x) (hy : y = x ++ w) (hu : u = t + w.length) : (setR cs t w).take u = y := by
 subst hx hy hu
 unfold setR
 rw [List.take_append_of_le_length (by simp; omega),List.take_of_length_le (by simp; omega)]
set_option maxHeartbeats 1000000 in
theorem concat107x (F : Fw P E T) {h : H} {b : Nat} {ws : List (V × List V)} {vs : List (V × Nat)} (hvs : vs = ws.map fun p => (p.1,p.2.length)) (hx : ∀ p ∈ ws,Rx h p.1 p.2) (hl : vs.length ≤ 1048576) (ht : 1 ≤ tot vs) (hm : tot vs ≤ 4194304) (hg : h.get b = some (.cells (vs.map (·.1)) 45 false false none)) :
  Sp P E (.func 107 [] []) [.slice (some (b,0)) vs.length vs.length false] h fun r h' => Nx h h' r (ws.flatMap (·.2)) := by
 have hv : ∀ p ∈ vs,Rb h p.1 p.2 := by
  intro p hp
  rw [hvs] at hp
  obtain ⟨q,hq,rfl⟩ := List.mem_map.1 hp
  exact (hx q hq).rb
 have hwl : ws.length = vs.length := by rw [hvs,List.length_map]
 have hfl : (ws.flatMap (·.2)).length = tot vs := by
  rw [hvs,List.length_flatMap]
  unfold tot
  rw [List.map_map]; rfl
 have gk : ∀ {k : Nat} (hk : k < vs.length),(vs.map (·.1))[k]? = some vs[k].1 := fun hk => by simp [hk]
 have loop2 : ∀ (d k : Nat) (ρ : Nat → V) (h1 : H),vs.length - k = d → k ≤ vs.length → ρ 6 = .slice (some (h.size,0)) (tot (vs.take k)) (tot vs) true → ρ 25 = .slice (some (b,0)) vs.length vs.length false → ρ 26 = .int .i64 vs.length → ρ 27 = .int .i64 k → (∃ cs,h1.get h.size = some (.cells cs 5 true false none) ∧ cs.length = tot vs ∧ Bs cs ∧ cs.take (tot (vs.take k)) = (ws.take k).flatMap (·.2)) → Kp h h1 →
   XL P E none 36 b107_12 [.b 2,.c (.seq (.region r107_13) (.ret))] ρ h1 (Fin [.t 2] fun r h' => Nx h h' r (ws.flatMap (·.2))) := by
  intro d
  induction d with
  | zero =>
   intro k ρ h1 hd hk q6 q25 q26 q27 hb kk
   have hke : ¬ k < vs.length := by omega
   rw [List.take_of_length_le (by omega)] at q6
   obtain ⟨cs,g1,g2,g3,g4⟩ := hb
   rw [List.take_of_length_le (l := vs) (by omega),List.take_of_length_le (l := ws) (by omega),← g2,List.take_length] at g4
   rw [u107_12]
   simp only [GR,evK,binV,intOp,strOp,shOp,unV,Nat.reduceLT,Nat.reduceEqDiff,Nat.reduceAdd,↓reduceIte,Nat.reduceLeDiff,reduceCtorEq,q26,q27,Int.ofNat_lt,hke,r107_13,q6]
   rw [← g4]
   exact ⟨h.size,by rw [g2]; rfl,g3,Nat.le_refl _,g1,kk⟩
  | succ d ih =>
   intro k ρ h1 hd hk q6 q25 q26 q27 hb kk
   have hke : k < vs.length := by omega
   obtain ⟨cs,g1,g2,g3,g4⟩ := hb
   have hkw : k < ws.length := by omega
   have hvk : vs[k] = (ws[k].1,ws[k].2.length) := by simp [hvs]
   have hxk := (hx _ (List.getElem_mem hkw)).kp kk
   obtain ⟨p,c,o,e1',e2',e4⟩ := hxk
   obtain ⟨w,hw'⟩ : ∃ w,w = ws[k].2 := ⟨_,rfl⟩
   have e3 : w.length = vs[k].2 := by rw [hvk,hw']
   have e1 : vs[k].1 = .slice p vs[k].2 c o := by rw [hvk]; exact e1'
   have e2 : elemsV h1 1 vs[k].2 vs[k].1 = some w := by rw [hvk,hw']; exact e2'
   rw [← hw'] at e4
   have hfk : (ws.take (k + 1)).flatMap (·.2) = (ws.take k).flatMap (·.2) ++ w := by
    rw [List.take_succ_eq_append_getElem hkw,List.flatMap_append,hw']; simp
   have htk := tot_take hke
   have htl := tot_le vs (k + 1)
   have hgb := kk.of hg
   have hgk := gk hke
   have njv : (vs[k].1).nj = true := by rw [e1]; rfl
   have hw : IntKind.i64.wrap ((k : Int) + 1) = ((k + 1 : Nat) : Int) := wrap_nat (n := k + 1) (by omega)
   have hap : ∃ h2,appV h1 5 1 1 (.slice (some (h.size,0)) (tot (vs.take k)) (tot vs) true) vs[k].1 = some (.eff (.slice (some (h.size,0)) (tot (vs.take (k + 1))) (tot vs) true) h2) ∧ (∃ cs,h2.get h.size = some (.cells cs 5 true false none) ∧ cs.length = tot vs ∧ Bs cs ∧ cs.take (tot (vs.take (k + 1))) = (ws.take (k + 1)).flatMap (·.2)) ∧ Kp h h2 := by
    have hlv : lenV vs[k].1 = some vs[k].2 := by rw [e1]; rfl
    have c1 : tot (vs.take k) + vs[k].2 ≤ tot vs := by omega
    by_cases hz : w = []
    ·refine ⟨h1,?_,⟨cs,g1,g2,g3,by rw [hfk,htk,← e3,hz,← g4]; simp⟩,kk⟩
     have h0 : vs[k].2 = 0 := by rw [← e3,hz]; rfl
     unfold appV
     simp only [hlv,e2,c1,if_true]
     rw [hz]
     simp [putCells,htk,h0]
    ·have hp := put_at (ws := w) (o := tot (vs.take k)) g1 (by omega) e4.one (by cases w with | nil => exact (hz rfl).elim | cons _ _ => rfl)
     refine ⟨_,?_,⟨_,hset_same (H.get_lt g1) _,(setR_len (vs := cs) (ws := w) (o := tot (vs.take k)) (by omega)).trans g2,g3.set e4 _,setR_take (by omega) g4 hfk (by omega)⟩,Keeps.trans (n := h.size) kk (Keeps.set (H.get_lt g1) (Nat.le_refl _) _)⟩
     unfold appV
     simp only [hlv,e2,c1,if_true,Nat.zero_add,Nat.mul_one,hp,htk]
   obtain ⟨h2,a1,a2,a3⟩ := hap
   rw [u107_12]
   simp only [GR,evK,binV,intOp,strOp,shOp,unV,Nat.reduceLT,Nat.reduceEqDiff,Nat.reduceAdd,↓reduceIte,Nat.reduceLeDiff,reduceCtorEq,q26,q27,Int.ofNat_lt,hke,r107_9,q25,Int.natCast_nonneg,Int.toNat_natCast,Nat.mul_one,Nat.zero_add,hgb,hgk,njv,r107_10,q6,a1,r107_11,hw]
   refine ih (k + 1) _ h2 (by omega) (by omega) ?_ ?_ ?_ ?_ a2 a3
   ·rfl
   ·exact q25
   ·exact q26
   ·rfl
 have loop1 : ∀ (d k : Nat) (ρ : Nat → V),vs.length - k = d → k ≤ vs.length → ρ 0 = .slice (some (b,0)) vs.length vs.length false → ρ 3 = .int .i64 (tot (vs.take k) : Nat) → ρ 9 = .slice (some (b,0)) vs.length vs.length false → ρ 10 = .int .i64 vs.length → ρ 11 = .int .i64 k →
   XL P E none 36 b107_6 [.b 0,.c (.seq (.region r107_7) (.seq (.seq (.region r107_8) (.block 2 (.loop b107_12))) (.seq (.region r107_13) (.ret))))] ρ h (Fin [.t 2] fun r h' => Nx h h' r (ws.flatMap (·.2))) := by
  intro d
  induction d with
  | zero =>
   intro k ρ hd hk q0 q3 q9 q10 q11
   have hke : ¬ k < vs.length := by omega
   rw [List.take_of_length_le (by omega)] at q3
   rw [u107_6]
   simp only [GR,evK,binV,intOp,strOp,shOp,unV,Nat.reduceLT,Nat.reduceEqDiff,Nat.reduceAdd,↓reduceIte,Nat.reduceLeDiff,reduceCtorEq,q10,q11,Int.ofNat_lt,hke,r107_7,q3]
   refine XC_of (grow141 F ht hm) ?_
   rintro _ h1 ⟨rfl,e1⟩
   rw [e1]
   clear e1 h1
   simp only [GR,evK,binV,intOp,strOp,shOp,unV,Nat.reduceLT,Nat.reduceEqDiff,Nat.reduceAdd,↓reduceIte,Nat.reduceLeDiff,reduceCtorEq,r107_8,q0]
   refine loop2 vs.length 0 _ _ rfl (Nat.zero_le _) ?_ ?_ ?_ ?_ ⟨_,psh_same _ _,by simp,?_,by simp [tot]⟩ (Keeps.psh (Nat.le_refl _) _)
   ·show _ = _
    have : tot (vs.take 0) = 0 := by simp [tot]
    rw [this]; rfl
   ·rfl
   ·rfl
   ·rfl
   ·intro x hx; rw [List.eq_of_mem_replicate hx]; exact ⟨_,rfl⟩
  | succ d ih =>
   intro k ρ hd hk q0 q3 q9 q10 q11
   have hke : k < vs.length := by omega
   have htk := tot_take hke
   have htl := tot_le vs (k + 1)
   have hgk := gk hke
   obtain ⟨p,c,o,e1⟩ := (hv _ (List.getElem_mem hke)).len
   rw [e1] at hgk
   have hw : IntKind.i64.wrap ((k : Int) + 1) = ((k + 1 : Nat) : Int) := wrap_nat (n := k + 1) (by omega)
   have hw2 : IntKind.i64.wrap ((tot (vs.take k) : Int) + (vs[k].2 : Int)) = ((tot (vs.take (k + 1)) : Nat) : Int) := by rw [htk]; exact wrap_nat (by omega)
   have hneg : ¬ ((tot (vs.take (k + 1)) : Nat) : Int) < 0 := by omega
   rw [u107_6]
   simp only [GR,evK,binV,intOp,strOp,shOp,unV,Nat.reduceLT,Nat.reduceEqDiff,Nat.reduceAdd,↓reduceIte,Nat.reduceLeDiff,reduceCtorEq,q10,q11,Int.ofNat_lt,hke,r107_1,q9,Int.natCast_nonneg,Int.toNat_natCast,Nat.mul_one,Nat.zero_add,hg,hgk,r107_2,q3,hw2,r107_3,hneg,r107_5,hw]
   refine ih (k + 1) _ (by omega) (by omega) ?_ ?_ ?_ ?_ ?_
   ·exact q0
   ·rfl
   ·exact q9
   ·exact q10
   ·rfl
 refine Sp_fn F.f107 F.p107 (by simp [fn107]) ?_
 simp only [GR,evK,binV,intOp,strOp,shOp,unV,Nat.reduceLT,Nat.reduceEqDiff,Nat.reduceAdd,↓reduceIte,Nat.reduceLeDiff,reduceCtorEq,fn107,c107,r107_0]
 refine loop1 vs.length 0 _ rfl (Nat.zero_le _) ?_ ?_ ?_ ?_ ?_
 ·rfl
 ·have : tot (vs.take 0) = 0 := by simp [tot]
  rw [this]; rfl
 ·rfl
 ·rfl
 ·rfl
end Go.AM.Wc
namespace Go.AM.Wc
open Go.AM
variable {P : Program} {E : Env} {T : H → Prop}
def frameF (cs : List V) : List V := numF cs.length ++ cs ++ fourF (crcF cs)
theorem varF_len : ∀ (d : Nat) (u : Int),1 ≤ (varF d u).length ∧ (varF d u).length ≤ d + 1
 | 0,_ => by simp [varF]
 | d + 1,u => by
  have := varF_len d (u / 128)
  simp only [varF]
  split
  ·simp; omega
  ·simp
theorem numF_len (n : Int) : 1 ≤ (numF n).length ∧ (numF n).length ≤ 4 := varF_len 3 (2 * n)
theorem Nx.rx {h h' : H} {r : V} {cs : List V} (a : Nx h h' r cs) : Rx h' r cs := by
 obtain ⟨b,rfl,h2,h3,h4,h5⟩ := a
 exact ⟨_,_,_,rfl,vl_elems h4,h2⟩
theorem Nx.kp {h h' : H} {r : V} {cs : List V} (a : Nx h h' r cs) : Kp h h' := by obtain ⟨b,_,_,_,_,h5⟩ := a; exact h5
set_option maxHeartbeats 1000000 in
theorem frame69x (F : Fw P E T) {h : H} {v : V} {cs : List V} (hv : Rx h v cs) (hn : cs.length ≤ 1048576) : Sp P E (.func 69 [] []) [v] h fun r h' => ∃ f,r = .tup [f,.int .i64 0] ∧ Nx h h' f (frameF cs) := by
 have hv0 := hv
 obtain ⟨p,c,o,hvv,_⟩ := hv0
 have c1 : ¬ (cs.length : Int) > 1048576 := by omega
 refine Sp_fn F.f69 F.p69 (by simp [fn69]) ?_
 rw [hvv] at hv ⊢
 simp only [GR,evK,binV,intOp,strOp,shOp,unV,Nat.reduceLT,Nat.reduceEqDiff,Nat.reduceAdd,↓reduceIte,Nat.reduceLeDiff,reduceCtorEq,fn69,c69,r69_0,r69_1,c1,r69_3]
 refine XC_of (number108x F (n := cs.length) (by omega) (by omega)) ?_
 rintro w1 h1 nb1
 have hr1 := nb1.rx
 obtain ⟨p1,c1',o1,hw1',_⟩ := hr1
 have kk1 := nb1.kp
 have ka : Kp h1 (h1.psh (.cells [.slice p cs.length c o] 45 false false none)) := Keeps.psh (Nat.le_refl _) _
 have ga := psh_same h1 (.cells [.slice p cs.length c o] 45 false false none)
 have hd0 : List.drop 1 [V.slice none 0 0 false] = [] := rfl
 simp only [GR,evK,binV,intOp,strOp,shOp,unV,Nat.reduceLT,Nat.reduceEqDiff,Nat.reduceAdd,↓reduceIte,Nat.reduceLeDiff,reduceCtorEq,hd0]
 refine XC_of (sum104x F ((hv.kp kk1).kp ka) hn ga) ?_
 rintro _ hx ⟨rfl,e2⟩
 rw [e2]
 clear e2 hx
 simp only [GR,evK,binV,intOp,strOp,shOp,unV,Nat.reduceLT,Nat.reduceEqDiff,Nat.reduceAdd,↓reduceIte,Nat.reduceLeDiff,reduceCtorEq]
 refine XC_of (four103x F) ?_
 rintro _ h3 ⟨b4,rfl,hb4,hg4,k4⟩
 have k14 : Kp h1 h3 := Kp.trans ka k4
 have rb4 : Rx h3 (.slice (some (b4,0)) 4 4 false) (fourF (crcF cs)) := ⟨_,_,_,rfl,vl_elems (b := b4) hg4,hb4⟩
 have rb1 := nb1.rx.kp k14
 have rb0 := hv.kp (Kp.trans kk1 k14)
 rw [hw1'] at rb1 ⊢
 have kb : Kp h3 (h3.psh (.cells [.slice p1 (numF cs.length).length c1' o1,.slice p cs.length c o,.slice (some (b4,0)) 4 4 false] 45 false false none)) := Keeps.psh (Nat.le_refl _) _
 have gb := psh_same h3 (.cells [.slice p1 (numF cs.length).length c1' o1,.slice p cs.length c o,.slice (some (b4,0)) 4 4 false] 45 false false none)
 have hd1 : List.drop 1 [V.slice none 0 0 false,.slice none 0 0 false,.slice none 0 0 false] = [.slice none 0 0 false,.slice none 0 0 false] := rfl
 have hnl := numF_len cs.length
 have sp := concat107x (P := P) F (ws := [(.slice p1 (numF cs.length).length c1' o1,numF cs.length),(.slice p cs.length c o,cs),(.slice (some (b4,0)) 4 4 false,fourF (crcF cs))]) (vs := [(.slice p1 (numF cs.length).length c1' o1,(numF cs.length).length),(.slice p cs.length c o,cs.length),(.slice (some (b4,0)) 4 4 false,4)]) rfl (fun q hq => by
  simp only [List.mem_cons,List.not_mem_nil,or_false] at hq
  rcases hq with rfl | rfl | rfl
  ·exact rb1.kp kb
  ·exact rb0.kp kb
  ·exact rb4.kp kb) (by simp) (by simp [tot]; omega) (by simp [tot]; omega) gb
 simp only [GR,evK,binV,intOp,strOp,shOp,unV,Nat.reduceLT,Nat.reduceEqDiff,Nat.reduceAdd,↓reduceIte,Nat.reduceLeDiff,reduceCtorEq]
 refine XC_of sp ?_
 rintro f h5 nb
 have ht : ([(V.slice p1 (numF cs.length).length c1' o1,numF cs.length),(V.slice p cs.length c o,cs),(V.slice (some (b4,0)) 4 4 false,fourF (crcF cs))] : List (V × List V)).flatMap (·.2) = frameF cs := by simp [frameF]
 rw [ht] at nb
 simp only [GR,evK,binV,intOp,strOp,shOp,unV,Nat.reduceLT,Nat.reduceEqDiff,Nat.reduceAdd,↓reduceIte,Nat.reduceLeDiff,reduceCtorEq]
 refine ⟨f,rfl,?_⟩
 obtain ⟨bb,q1,q3,q4,q5,q6⟩ := nb
 have := (Kp.trans (Kp.trans kk1 k14) kb).size
 exact ⟨bb,q1,q3,by omega,q5,Kp.trans (Kp.trans (Kp.trans kk1 k14) kb) q6⟩
end Go.AM.Wc
namespace Go.AM
variable {P : Program} {E : Env} {ro : Option Nat}
def mok (k : Nat) (l : List (V × V)) : Obj := .map (mos l k) (k + l.length)
theorem mos_erase (x : V × V) (l : List (V × V)) (k : Nat) : (mos (x :: l) k).eraseIdx 0 = mos l (k + 1) := rfl
structure Itk (k : Nat) (h : H) (mp it : Nat) (l : List (V × V)) (seen : List Nat) : Prop where
 map : h.get mp = some (mok k l)
 itr : h.get it = some (.mapIter (some mp) (k + l.length) (seen.map (k + ·)) (k + l.length))
theorem shift_contains {k i : Nat} {seen : List Nat} : (seen.map (k + ·)).contains (k + i) = seen.contains i := by
 simp [List.contains_iff_mem,Bool.eq_iff_iff]
theorem Itk.parts {k : Nat} {h : H} {mp it : Nat} {l : List (V × V)} {seen : List Nat} (_ : Itk k h mp it l seen) :
  (!(seen.map (k + ·)).isEmpty && !(mos l k).isEmpty && (mos l k).all (fun e => decide (e.2.2 ≥ k + l.length))) = false ∧
  ((mos l k).filter fun e => !(seen.map (k + ·)).contains e.2.2).filter (fun e => decide (e.2.2 < k + l.length)) = (mos l k).filter (fun e => !(seen.map (k + ·)).contains e.2.2) ∧
  ((mos l k).filter fun e => !(seen.map (k + ·)).contains e.2.2).filter (fun e => decide (e.2.2 ≥ k + l.length)) = [] := by
 have hlt : ∀ e ∈ mos l k,e.2.2 < k + l.length := fun e he => by
  obtain ⟨i,h1,h2⟩ := mos_mem he
  have := (List.getElem?_eq_some_iff.1 h1).1
  omega
 refine ⟨?_,?_,?_⟩
 ·cases l with
  | nil => simp [mos]
  | cons x r =>
   simp only [Bool.and_eq_false_iff]
   refine .inr ?_
   simp only [mos,List.all_cons,Bool.and_eq_false_iff]
   refine .inl ?_
   simp only [decide_eq_false_iff_not]
   simp
 ·refine List.filter_eq_self.2 fun e he => ?_
  simpa using hlt e (List.mem_filter.1 he).1
 ·refine List.filter_eq_nil_iff.2 fun e he => ?_
  have := hlt e (List.mem_filter.1 he).1
  simpa using this
variable {L : Nat} {ρ : Nat → V} {h : H} {R : Ex → St → Prop} {k : Nat}
theorem NC.nextK {d e x mp it : Nat} {l : List (V × V)} {seen : List Nat} {pre pre' : Nat} {ns ns' : List Nat} (hd : d < L) (hx : x < L) (hv : ρ x = .ptr (some (it,0))) (hi : Itk k h mp it l seen)
  (hend : (∀ i,i < l.length → i ∈ seen) → R .nrm (toL L (up (up ρ d (.tup [.bool false])) e (.bool false)),h))
  (hstep : ∀ i kk v,l[i]? = some (kk,v) → i ∉ seen → R .nrm (toL L (up (up ρ d (.tup [.bool true,kk,v])) e (.bool true)),h.set it (.mapIter (some mp) (k + l.length) ((seen ++ [i]).map (k + ·)) (k + l.length)))) :
  NC P E ro (.region [⟨some d,.next false (.t x),none,pre,ns⟩,⟨some e,.extract (.t d) 0,none,pre',ns'⟩]) (toL L ρ,h) R := by
 obtain ⟨p1,p2,p3⟩ := hi.parts
 cases hl : (mos l k).filter fun e => !(seen.map (k + ·)).contains e.2.2 with
 | nil =>
  have hall : ∀ i,i < l.length → i ∈ seen := by
   intro i hlt
   have := List.filter_eq_nil_iff.1 hl _ (mem_mos (k := k) (List.getElem?_eq_getElem hlt))
   simp only [shift_contains] at this
   simpa using this
  refine .det (by intro b e; cases e) (s' := (toL L (up (up ρ d (.tup [.bool false])) e (.bool false)),h)) ?_ (hend hall)
  rw [EC_region]
  have e1 : evK P (toL L ρ) h (.next false (.t x)) = some (.eff (.tup [.bool false]) h) := by
   simp only [evK,ev_t hx,hv,hi.itr,hi.map,mok,p1]
   simp only [Bool.false_eq_true,if_false,hl,List.filter_nil]
  have e2 : evK P (toL L (up ρ d (.tup [.bool false]))) h (.extract (.t d) 0) = some (.pur (.bool false)) := by
   simp only [evK,ev_t hd,up_app,if_true]; rfl
  simp only [evOs_cons,evO_step,wantV_none,if_true,e1,stepR,putV_some,Option.bind_some,e2,evOs_nil,Option.map_some]
 | cons e0 r0 =>
  refine .next (x := .t x) (l := (e0 :: r0).map fun e => (.tup [.bool true,e.1,e.2.1],h.set it (.mapIter (some mp) (k + l.length) (seen.map (k + ·) ++ [e.2.2]) (k + l.length)))) rfl rfl ?_ ?_
  ·unfold nexts
   simp only [ev_t hx,hv,hi.itr,hi.map,mok,p1]
   simp only [Bool.false_eq_true,if_false]
   rw [p2,p3,hl]
   simp
  ·intro p hp
   obtain ⟨e',he',rfl⟩ := List.mem_map.1 hp
   rw [← hl] at he'
   obtain ⟨hm,hns⟩ := List.mem_filter.1 he'
   obtain ⟨i,h1,h2⟩ := mos_mem hm
   refine ⟨(toL L (up (up ρ d (.tup [.bool true,e'.1,e'.2.1])) e (.bool true)),h.set it (.mapIter (some mp) (k + l.length) (seen.map (k + ·) ++ [e'.2.2]) (k + l.length))),?_,?_⟩
   ·have e2 : ∀ h',evK P (toL L (up ρ d (.tup [.bool true,e'.1,e'.2.1]))) h' (.extract (.t d) 0) = some (.pur (.bool true)) := by
     intro h'
     simp only [evK,ev_t hd,up_app,if_true]; rfl
    simp only [evOs_cons,evO_step,wantV_none,if_true,putV_some,e2,stepR,evOs_nil,Option.bind_some]
   ·rw [h2]
    have := hstep i _ _ h1 (by rw [h2,shift_contains] at hns; simpa using hns)
    simpa using this
theorem NC.mapsK {d e x q mp it : Nat} {l : List (V × V)} {pre pre' : Nat} {ns ns' : List Nat} {B : C} (hd : d < L) (he : e < L) (hx : x < L)
  (Inv : List Nat → (Nat → V) → H → Prop)
  (hI : ∀ {seen ρ h},Inv seen ρ h → ρ x = .ptr (some (it,0)) ∧ Itk k h mp it l seen)
  (hend : ∀ {seen ρ h},Inv seen ρ h → (∀ i,i < l.length → i ∈ seen) → R (.exit q) (toL L (up (up ρ d (.tup [.bool false])) e (.bool false)),h))
  (hstep : ∀ {seen ρ h},Inv seen ρ h → seen.Nodup → (∀ i ∈ seen,i < l.length) → ∀ i kk v,l[i]? = some (kk,v) → i ∉ seen →
   NC P E ro B (toL L (up (up ρ d (.tup [.bool true,kk,v])) e (.bool true)),h.set it (.mapIter (some mp) (k + l.length) ((seen ++ [i]).map (k + ·)) (k + l.length)))
    fun ex s => match ex with
     | .nrm => ∃ ρ' h',s = (toL L ρ',h') ∧ Inv (seen ++ [i]) ρ' h'
     | ex => R ex s) :
  ∀ (n : Nat) {seen ρ h},Inv seen ρ h → seen.Nodup → (∀ i ∈ seen,i < l.length) → seen.length + n = l.length →
   NC P E ro (.loop (.seq (.region [⟨some d,.next false (.t x),none,pre,ns⟩,⟨some e,.extract (.t d) 0,none,pre',ns'⟩]) (.seq (.cond (.t e) .skip (.exit q)) B))) (toL L ρ,h) R := by
 intro n
 induction n with
 | zero =>
  intro seen ρ h inv nd lt hn
  obtain ⟨h1,h2⟩ := hI inv
  have hfull : ∀ i k v,l[i]? = some (k,v) → i ∉ seen → False := by
   intro i k v hi hns
   have hi' := (List.getElem?_eq_some_iff.1 hi).1
   have hsub : (i :: seen) ⊆ List.range l.length := by
    intro j hj
    rcases List.mem_cons.1 hj with rfl | hj
    ·simpa using hi'
    ·simpa using lt j hj
   have := (List.nodup_cons.2 ⟨hns,nd⟩).length_le_of_subset hsub
   simp at this; omega
  refine .loop (M := fun ex s => ex = .exit q ∧ R ex s) (.seq (M := fun ex s => ex = .nrm ∧ s = (toL L (up (up ρ d (.tup [.bool false])) e (.bool false)),h) ∧ ∀ i,i < l.length → i ∈ seen) (NC.nextK hd hx h1 h2 (fun ha => ⟨rfl,rfl,ha⟩) fun i k v hi hns => (hfull i k v hi hns).elim) ?_ ?_) ?_ ?_
  ·rintro s' ⟨_,rfl,ha⟩
   refine .seq (M := fun ex s => ex = .exit q ∧ R ex s) (.condF (by simp only [ev_t he,up_app,if_true]) (.det (by intro b e; cases e) (EC_exit q _) ⟨rfl,hend inv ha⟩)) ?_ ?_
   ·rintro s' ⟨h,_⟩; cases h
   ·rintro ex s' _ h; exact h
  ·rintro ex s' hne ⟨h,_⟩; exact (hne h).elim
  ·rintro s' ⟨h,_⟩; cases h
  ·rintro ex s' _ ⟨_,h⟩; exact h
 | succ n ih =>
  intro seen ρ h inv nd lt hn
  obtain ⟨h1,h2⟩ := hI inv
  refine .loop (M := fun ex s => match ex with
    | .nrm => ∃ i ρ' h',i ∉ seen ∧ i < l.length ∧ s = (toL L ρ',h') ∧ Inv (seen ++ [i]) ρ' h'
    | ex => R ex s)
   (.seq (M := fun ex s => ex = .nrm ∧ ((s = (toL L (up (up ρ d (.tup [.bool false])) e (.bool false)),h) ∧ ∀ i,i < l.length → i ∈ seen) ∨
    ∃ i kk v,l[i]? = some (kk,v) ∧ i ∉ seen ∧ s = (toL L (up (up ρ d (.tup [.bool true,kk,v])) e (.bool true)),h.set it (.mapIter (some mp) (k + l.length) ((seen ++ [i]).map (k + ·)) (k + l.length)))))
    (NC.nextK hd hx h1 h2 (fun ha => ⟨rfl,.inl ⟨rfl,ha⟩⟩) fun i k v hi hns => ⟨rfl,.inr ⟨i,k,v,hi,hns,rfl⟩⟩) ?_ ?_) ?_ ?_
  ·rintro s' ⟨_,⟨rfl,ha⟩ | ⟨i,kk,v,hi,hns,rfl⟩⟩
   ·refine .seq (M := fun ex s => ex = .exit q ∧ R ex s) (.condF (by simp only [ev_t he,up_app,if_true]) (.det (by intro b e; cases e) (EC_exit q _) ⟨rfl,hend inv ha⟩)) ?_ ?_
    ·rintro s' ⟨h,_⟩; cases h
    ·rintro ex s' _ ⟨rfl,h⟩; exact h
   ·refine .seq (M := fun ex s => ex = .nrm ∧ s = (toL L (up (up ρ d (.tup [.bool true,kk,v])) e (.bool true)),h.set it (.mapIter (some mp) (k + l.length) ((seen ++ [i]).map (k + ·)) (k + l.length)))) (.condT (by simp only [ev_t he,up_app,if_true]) (.det (by intro b e; cases e) (EC_skip _) ⟨rfl,rfl⟩)) ?_ ?_
    ·rintro s' ⟨_,rfl⟩
     have hs := hstep inv nd lt i kk v hi hns
     refine NC.weak hs fun ex s => ?_
     cases ex with
     | nrm => rintro ⟨ρ',h',hh,hi'⟩; exact ⟨i,ρ',h',hns,(List.getElem?_eq_some_iff.1 hi).1,hh,hi'⟩
     | ret => exact id
     | exit _ => exact id
    ·rintro ex s' hne ⟨h,_⟩; exact (hne h).elim
  ·rintro ex s' hne ⟨h,_⟩; exact (hne h).elim
  ·rintro s' ⟨i,ρ',h',hns,hlt,rfl,inv'⟩
   refine ih inv' ?_ ?_ ?_
   ·exact List.nodup_append.2 ⟨nd,by simp,by intro a ha b hb; simp at hb; subst hb; intro e; subst e; exact hns ha⟩
   ·intro j hj
    rcases List.mem_append.1 hj with hj | hj
    ·exact lt j hj
    ·simp at hj; subst hj; exact hlt
   ·simp; omega
  ·intro ex s' hne hm
   cases ex with
   | nrm => exact (hne rfl).elim
   | ret => exact hm
   | exit _ => exact hm
end Go.AM
namespace Go.AM.Wc
open Go.AM
variable {P : Program} {E : Env} {T : H → Prop}
structure USk (h : H) (bm k : Nat) (us : List FU) : Prop where
 map : h.get bm = some (mok k (us.map entU))
 at_ : ∀ u ∈ us, ∃ p c o s ty op ro fz,h.get u.2.1 = some (.cells [.slice p u.2.2 c o,s] ty op ro fz)
 small : totU us ≤ 1099511627776
theorem used105k {h0 : H} {bm k : Nat} {us : List FU} (a : USk h0 bm k us) : NSp P E fn105 [.map (some bm)] h0 fun v h' => v = .int .i64 (totU us) ∧ Kp h0 h' := by
 refine ⟨(by decide : (1 : Nat) ≤ 20),?_⟩
 show NC P E none c105 (toL 20 (argF [.map (some bm)]),h0) fun ex s' => Fin [.t 2] (fun v h' => v = .int .i64 (totU us) ∧ Kp h0 h') ex s'.1 s'.2
 have gm : h0.get bm = some (.map (mos (us.map entU) k) (k + (us.map entU).length)) := a.map
 have kit : Kp h0 (h0.psh (.mapIter (some bm) (k + (us.map entU).length) [] (k + (us.map entU).length))) := Keeps.psh (Nat.le_refl _) _
 refine NC.pre (as := [.region [⟨some 2,.mv (.k (.int .i64 0)),none,0,[2]⟩],.region [⟨some 3,.mv (.k (.int .i64 0)),none,0,[3]⟩]]) (c := .seq (.seq (.region r105_0) (.block 0 (.loop b105_4))) (.seq (.region r105_5) (.ret))) (by intro a ha b e; simp at ha; rcases ha with rfl | rfl <;> cases e) ?_
 simp only [GR,evK,binV,intOp,strOp,shOp,unV,Nat.reduceLT,Nat.reduceEqDiff,Nat.reduceAdd,↓reduceIte,Nat.reduceLeDiff,reduceCtorEq,List.map_cons,List.map_nil]
 refine NC.sq (NC.pre (as := [.region r105_0]) (c := .block 0 (.loop b105_4)) (by intro a ha b e; simp at ha; subst ha; cases e) ?_)
 simp only [GR,evK,binV,intOp,strOp,shOp,unV,Nat.reduceLT,Nat.reduceEqDiff,Nat.reduceAdd,↓reduceIte,Nat.reduceLeDiff,reduceCtorEq,List.map_cons,List.map_nil,r105_0,gm]
 refine NC.blk (NC.mapsK (k := k) (d := 8) (e := 9) (x := 7) (q := 0) (mp := bm) (it := h0.size) (l := us.map entU) (by decide) (by decide) (by decide)
  (fun seen ρ h => seen.Nodup ∧ (∀ i ∈ seen,i < us.length) ∧ ρ 7 = .ptr (some (h0.size,0)) ∧ Itk k h bm h0.size (us.map entU) seen ∧ ρ 3 = .int .i64 (sumS us seen) ∧ (∀ j o,h0.get j = some o → h.get j = some o) ∧ Kp h0 h)
  (fun {seen ρ h2} inv => ⟨inv.2.2.1,inv.2.2.2.1⟩) ?_ ?_ us.length ⟨List.nodup_nil,by simp,rfl,⟨kit.of gm,psh_same _ _⟩,rfl,fun j o hg => kit.of hg,kit⟩ List.nodup_nil (by simp) (by simp))
 ·rintro seen ρ h2 ⟨nd,lt,w7,hi2,w3,old,k2⟩ hall
  simp only [if_true]
  have hs := sumS_all us nd lt (by simpa using hall)
  refine NC.run (Q := fun ex T h' => Fin [.t 2] (fun v h' => v = .int .i64 (totU us) ∧ Kp h0 h') ex T h') (by intro b e; cases e) ?_ (fun _ _ _ h => h)
  simp only [GR,evK,binV,intOp,strOp,shOp,unV,Nat.reduceLT,Nat.reduceEqDiff,Nat.reduceAdd,↓reduceIte,Nat.reduceLeDiff,reduceCtorEq,r105_5,w3]
  exact ⟨by rw [hs],k2⟩
 ·rintro seen ρ h2 ⟨nd,lt,w7,hi2,w3,old,k2⟩ _ _ i kk u hik hns
  rw [List.getElem?_map] at hik
  cases hr1 : us[i]? with
  | none => rw [hr1] at hik; cases hik
  | some r1 =>
  rw [hr1] at hik
  simp only [Option.map_some,entU,Option.some.injEq,Prod.mk.injEq] at hik
  obtain ⟨rfl,rfl⟩ := hik
  have hm1 := List.mem_of_getElem? hr1
  have hits := H.get_lt hi2.itr
  have hlast : ((seen ++ [i]).map (k + ·)).getLast? = some (k + i) := by simp
  have hfind := mos_find (l := us.map entU) (k := k) (i := i) (x := entU r1) (by simp [hr1])
  simp only [entU] at hfind
  have gi := hset_same hits (.mapIter (some bm) (k + (us.map entU).length) ((seen ++ [i]).map (k + ·)) (k + (us.map entU).length))
  have hold : ∀ j o,h0.get j = some o → (h2.set h0.size (.mapIter (some bm) (k + (us.map entU).length) ((seen ++ [i]).map (k + ·)) (k + (us.map entU).length))).get j = some o := by
   intro j o hg
   have := H.get_lt hg
   rw [hset_other hits (by omega)]; exact old j o hg
  have k3 : Kp h0 (h2.set h0.size (.mapIter (some bm) (k + (us.map entU).length) ((seen ++ [i]).map (k + ·)) (k + (us.map entU).length))) := Keeps.trans (n := h0.size) k2 (Keeps.set hits (Nat.le_refl _) _)
  have hnd : (seen ++ [i]).Nodup := List.nodup_append.2 ⟨nd,by simp,by intro a ha b hb; simp at hb; subst hb; intro e; subst e; exact hns ha⟩
  have hlt : ∀ j ∈ seen ++ [i],j < us.length := by
   intro j hj
   rcases List.mem_append.1 hj with hj | hj
   ·exact lt j hj
   ·rw [List.mem_singleton.1 hj]; exact (List.getElem?_eq_some_iff.1 hr1).1
  have hsa := sumS_app us seen hr1
  have hsl := sumS_le us hnd hlt
  have hsm := a.small
  generalize h2.set h0.size (.mapIter (some bm) (k + (us.map entU).length) ((seen ++ [i]).map (k + ·)) (k + (us.map entU).length)) = h3 at *
  have gm3 := hold _ _ gm
  obtain ⟨p,c,o,s,ty,op,ro,fz,hg1⟩ := a.at_ r1 hm1
  have hg3 := hold _ _ hg1
  have hw : IntKind.i64.wrap ((sumS us seen : Int) + (r1.2.2 : Int)) = ((sumS us (seen ++ [i]) : Nat) : Int) := by rw [hsa]; exact wrap_nat (by omega)
  refine NC.run (Q := fun ex T h' => ∃ ρ',ex = .nrm ∧ T = toL 20 ρ' ∧ h3 = h' ∧ ρ' 7 = .ptr (some (h0.size,0)) ∧ ρ' 3 = .int .i64 (sumS us (seen ++ [i]))) (by intro b e; cases e) ?_ ?_
  ·simp only [GR,evK,binV,intOp,strOp,shOp,unV,Nat.reduceLT,Nat.reduceEqDiff,Nat.reduceAdd,↓reduceIte,Nat.reduceLeDiff,reduceCtorEq,r105_2,w7,gi,gm3,hlast,hfind,r105_3,w3,hg3,hw]
   refine ⟨_,rfl,?_,?_⟩
   ·exact w7
   ·rfl
  ·rintro ex T h' ⟨ρ',rfl,rfl,rfl,y7,y3⟩
   exact ⟨ρ',h3,rfl,hnd,hlt,y7,⟨gm3,gi⟩,y3,hold,k3⟩
theorem USk.uniq {h : H} {bm k k' : Nat} {us us' : List FU} (a : USk h bm k us) (b : USk h bm k' us') : totU us = totU us' := by
 have e : some (mok k (us.map entU)) = some (mok k' (us'.map entU)) := a.map.symm.trans b.map
 unfold mok at e
 simp only [Option.some.injEq,Obj.map.injEq] at e
 have hl : us.length = us'.length := by
  have := congrArg List.length e.1
  simpa [mos_length] using this
 have hk : k = k' := by
  have := e.2
  simp only [List.length_map] at this
  omega
 subst hk
 refine us_eq (mos_inj e.1) fun u hu u' hu' hb => ?_
 obtain ⟨p,c,o,s,ty,op,ro,fz,h1⟩ := a.at_ u hu
 obtain ⟨p',c',o',s',ty',op',ro',fz',h2⟩ := b.at_ u' hu'
 rw [hb,h2] at h1
 simp only [Option.some.injEq,Obj.cells.injEq,List.cons.injEq,V.slice.injEq] at h1
 exact h1.1.1.2.1.symm
open Classical in
noncomputable def usedK : List V → H → Option (V × H) := fun args h => match args with
 | [.map (some bm)] => if he : ∃ p : Nat × List FU,USk h bm p.1 p.2 then some (.int .i64 (totU he.choose.2),h) else none
 | _ => none
theorem usedK_eq {h : H} {bm k : Nat} {us : List FU} (a : USk h bm k us) : usedK [.map (some bm)] h = some (.int .i64 (totU us),h) := by
 unfold usedK
 have he : ∃ p : Nat × List FU,USk h bm p.1 p.2 := ⟨(k,us),a⟩
 simp only [dif_pos he]
 rw [USk.uniq he.choose_spec a]
theorem usedK_of {E : Env} (hp : E.prim 105 = some usedK) {h : H} {bm k : Nat} {us : List FU} (a : USk h bm k us) : Sp P E (.func 105 [] []) [.map (some bm)] h fun v h' => v = .int .i64 (totU us) ∧ h' = h :=
 ⟨_,_,by rw [AP_prim hp]; exact usedK_eq a,rfl,rfl⟩
theorem usedK_ok (hmix : P.follows .mixedOrders = true) {fn : Func} (hg : P.funcs[105]? = some fn) (hc : cFn P fn = some fn105) {args : List V} {h h' : H} {v : V} {m : Mp} {w : World} {xs : List Value} (he : usedK args h = some (v,h')) (hr : HR P m h w) (hx : VRL m args xs) (n : Nat) :
  CallsIn (FF none) n P 105 xs.toArray w (Post P m h w v h') := by
 unfold usedK at he
 split at he
 ·rename_i bm
  split at he
  ·rename_i hex
   cases he
   refine nsp_prim hmix noPrim hg hc (NSp.mono (used105k (E := envOf P fun _ => none) hex.choose_spec) ?_) hr hx n
   rintro v h' ⟨rfl,k⟩
   exact ⟨k,fun m m' x hx => hx⟩
  ·cases he
 ·cases he
end Go.AM.Wc
