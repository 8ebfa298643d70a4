/- My own texts, laid for this claim. -/
import Derived.Test.YtpfoofcallfjjaaGreatDoorND2ToXLast
set_option linter.unusedSimpArgs false
set_option linter.unusedVariables false
/-! Regions cut ahead of their last call. -/
namespace Go.AM.Wc
open Go.AM
def r38_6a : List O := [⟨some 51, .mv (.t 0), none, 0, [51, 0]⟩, ⟨some 52, .nilck (.t 51), none, 1, [52, 51]⟩, ⟨some 53, .fadr 0 (.t 52), none, 3, [53, 52]⟩, ⟨some 54, .load1 (.t 53), none, 7, [54, 53]⟩, ⟨some 55, .mv (.t 0), none, 0, [55, 0]⟩, ⟨some 56, .nilck (.t 55), none, 16, [56, 55]⟩, ⟨some 57, .fadr 1 (.t 56), none, 48, [57, 56]⟩, ⟨some 58, .load1 (.t 57), none, 112, [58, 57]⟩, ⟨some 59, .mv (.t 0), none, 0, [59, 0]⟩, ⟨some 60, .nilck (.t 59), none, 256, [60, 59]⟩, ⟨some 61, .fadr 2 (.t 60), none, 768, [61, 60]⟩, ⟨some 62, .load1 (.t 61), none, 1792, [62, 61]⟩, ⟨some 63, .mv (.t 7), none, 0, [63, 7]⟩, ⟨some 64, .iadrL 4 (.t 62) (.t 63), none, 7936, [64, 62, 63]⟩, ⟨some 65, .fadr 0 (.t 64), none, 16128, [65, 64]⟩, ⟨some 66, .load1 (.t 65), none, 32512, [66, 65]⟩, ⟨some 67, .call (.k (.func 23 [] [])) [(.t 58), (.t 66)], none, 65520, [67, 58, 66]⟩]
def r38_6b : List O := [⟨some 68, .call (.k (.func 33 [] [])) [(.t 54), (.t 67)], none, 131071, [68, 54, 67]⟩, ⟨some 8, .mv (.t 68), none, 262143, [8, 68]⟩]
theorem l38_6 {P : Program} {E : Env} {ro : Option Nat} {L : Nat} {K : List Fr} {ρ : Nat → V} {h : H} {Q : Po} (hx : XDQ P E ro L (.c (.region r38_6b) :: K) Q h [true, true, true, true, true, true, true, true, true, true, true, true, true, true, true, true, true] r38_6a ρ h) : XD P E ro L r38_6 K ρ h Q := XD_last (A := r38_6a) (B := r38_6b) rfl rfl hx
def r38_10a : List O := [⟨some 79, .mv (.t 0), none, 0, [79, 0]⟩, ⟨some 80, .nilck (.t 79), none, 1, [80, 79]⟩, ⟨some 81, .fadr 0 (.t 80), none, 3, [81, 80]⟩, ⟨some 82, .load1 (.t 81), none, 7, [82, 81]⟩, ⟨some 83, .mv (.t 0), none, 0, [83, 0]⟩, ⟨some 84, .nilck (.t 83), none, 16, [84, 83]⟩, ⟨some 85, .fadr 1 (.t 84), none, 48, [85, 84]⟩, ⟨some 86, .load1 (.t 85), none, 112, [86, 85]⟩, ⟨some 87, .mv (.t 0), none, 0, [87, 0]⟩, ⟨some 88, .nilck (.t 87), none, 256, [88, 87]⟩, ⟨some 89, .fadr 3 (.t 88), none, 768, [89, 88]⟩, ⟨some 90, .load1 (.t 89), none, 1792, [90, 89]⟩, ⟨some 91, .call (.k (.func 23 [] [])) [(.t 86), (.t 90)], none, 4080, [91, 86, 90]⟩, ⟨some 92, .mv (.t 5), none, 0, [92, 5]⟩]
def r38_10b : List O := [⟨some 93, .call (.k (.func 65 [] [])) [(.t 82), (.t 91), (.t 92)], none, 16383, [93, 82, 91, 92]⟩, ⟨some 9, .mv (.t 93), none, 32767, [9, 93]⟩]
theorem l38_10 {P : Program} {E : Env} {ro : Option Nat} {L : Nat} {K : List Fr} {ρ : Nat → V} {h : H} {Q : Po} (hx : XDQ P E ro L (.c (.region r38_10b) :: K) Q h [true, true, true, true, true, true, true, true, true, true, true, true, true, false] r38_10a ρ h) : XD P E ro L r38_10 K ρ h Q := XD_last (A := r38_10a) (B := r38_10b) rfl rfl hx
def r38_13a : List O := [⟨some 97, .mv (.t 0), none, 0, [97, 0]⟩, ⟨some 98, .mv (.t 0), none, 0, [98, 0]⟩, ⟨some 99, .nilck (.t 98), none, 2, [99, 98]⟩, ⟨some 100, .fadr 2 (.t 99), none, 6, [100, 99]⟩, ⟨some 101, .load1 (.t 100), none, 14, [101, 100]⟩, ⟨some 102, .mv (.t 0), none, 0, [102, 0]⟩, ⟨some 103, .nilck (.t 102), none, 32, [103, 102]⟩, ⟨some 104, .fadr 3 (.t 103), none, 96, [104, 103]⟩, ⟨some 105, .load1 (.t 104), none, 224, [105, 104]⟩, ⟨some 106, .build [(.int .i64 0), (.slice none 0 0 false), (.int .i64 0), (.bool false)] [(0, 1, (.t 105))], none, 480, [106, 105]⟩, ⟨some 107, .bslice 74 1 [(.int .i64 0), (.slice none 0 0 false), (.int .i64 0), (.bool false)] [(0, 4, (.t 106))], none, 992, [107, 106]⟩]
def r38_13b : List O := [⟨some 108, .app 74 4 48 (.t 101) (.t 107), none, 2046, [108, 101, 107]⟩, ⟨some 109, .nilck (.t 97), none, 4095, [109, 97]⟩, ⟨some 110, .fadr 2 (.t 109), none, 8191, [110, 109]⟩, ⟨none, .store 1 (.t 110) (.t 108), none, 16383, [110, 108]⟩]
theorem l38_13 {P : Program} {E : Env} {ro : Option Nat} {L : Nat} {K : List Fr} {ρ : Nat → V} {h : H} {Q : Po} (hx : XDQ P E ro L (.c (.region r38_13b) :: K) Q h [true, true, true, true, true, true, true, true, true, true, true] r38_13a ρ h) : XD P E ro L r38_13 K ρ h Q := XD_last (A := r38_13a) (B := r38_13b) rfl rfl hx
def r38_15a : List O := [⟨some 113, .mv (.t 0), none, 0, [113, 0]⟩, ⟨some 114, .nilck (.t 113), none, 1, [114, 113]⟩, ⟨some 115, .fadr 0 (.t 114), none, 3, [115, 114]⟩, ⟨some 116, .load1 (.t 115), none, 7, [116, 115]⟩, ⟨some 117, .mv (.t 0), none, 0, [117, 0]⟩, ⟨some 118, .nilck (.t 117), none, 16, [118, 117]⟩, ⟨some 119, .fadr 1 (.t 118), none, 48, [119, 118]⟩, ⟨some 120, .load1 (.t 119), none, 112, [120, 119]⟩, ⟨some 121, .mv (.t 0), none, 0, [121, 0]⟩, ⟨some 122, .nilck (.t 121), none, 256, [122, 121]⟩, ⟨some 123, .fadr 2 (.t 122), none, 768, [123, 122]⟩, ⟨some 124, .load1 (.t 123), none, 1792, [124, 123]⟩, ⟨some 125, .mv (.t 7), none, 0, [125, 7]⟩, ⟨some 126, .iadrL 4 (.t 124) (.t 125), none, 7936, [126, 124, 125]⟩, ⟨some 127, .fadr 0 (.t 126), none, 16128, [127, 126]⟩, ⟨some 128, .load1 (.t 127), none, 32512, [128, 127]⟩, ⟨some 129, .call (.k (.func 23 [] [])) [(.t 120), (.t 128)], none, 65520, [129, 120, 128]⟩, ⟨some 130, .mv (.t 5), none, 0, [130, 5]⟩]
def r38_15b : List O := [⟨some 131, .call (.k (.func 65 [] [])) [(.t 116), (.t 129), (.t 130)], none, 262143, [131, 116, 129, 130]⟩, ⟨some 10, .mv (.t 131), none, 524287, [10, 131]⟩]
theorem l38_15 {P : Program} {E : Env} {ro : Option Nat} {L : Nat} {K : List Fr} {ρ : Nat → V} {h : H} {Q : Po} (hx : XDQ P E ro L (.c (.region r38_15b) :: K) Q h [true, true, true, true, true, true, true, true, true, true, true, true, true, true, true, true, true, false] r38_15a ρ h) : XD P E ro L r38_15 K ρ h Q := XD_last (A := r38_15a) (B := r38_15b) rfl rfl hx
def r38_19a : List O := [⟨some 141, .mv (.t 11), none, 0, [141, 11]⟩, ⟨some 142, .mv (.t 11), none, 0, [142, 11]⟩, ⟨some 143, .nilck (.t 142), none, 2, [143, 142]⟩, ⟨some 144, .fadr 1 (.t 143), none, 6, [144, 143]⟩, ⟨some 145, .load1 (.t 144), none, 14, [145, 144]⟩, ⟨some 146, .mv (.t 1), none, 0, [146, 1]⟩, ⟨some 147, .call (.k (.func 42 [] [])) [(.t 146)], none, 32, [147, 146]⟩, ⟨some 148, .bslice 45 1 [(.slice none 0 0 false)] [(0, 1, (.t 147))], none, 96, [148, 147]⟩]
def r38_19b : List O := [⟨some 149, .app 45 1 24 (.t 145) (.t 148), none, 254, [149, 145, 148]⟩, ⟨some 150, .nilck (.t 141), none, 511, [150, 141]⟩, ⟨some 151, .fadr 1 (.t 150), none, 1023, [151, 150]⟩, ⟨none, .store 1 (.t 151) (.t 149), none, 2047, [151, 149]⟩]
theorem l38_19 {P : Program} {E : Env} {ro : Option Nat} {L : Nat} {K : List Fr} {ρ : Nat → V} {h : H} {Q : Po} (hx : XDQ P E ro L (.c (.region r38_19b) :: K) Q h [true, true, true, true, true, true, true, true] r38_19a ρ h) : XD P E ro L r38_19 K ρ h Q := XD_last (A := r38_19a) (B := r38_19b) rfl rfl hx
def r13_2a : List O := [⟨some 25, .mv (.t 0), none, 0, [25, 0]⟩, ⟨some 26, .nilck (.t 25), none, 1, [26, 25]⟩, ⟨some 27, .fadr 0 (.t 26), none, 3, [27, 26]⟩, ⟨some 28, .load1 (.t 27), none, 7, [28, 27]⟩, ⟨some 29, .mv (.t 0), none, 0, [29, 0]⟩, ⟨some 30, .nilck (.t 29), none, 16, [30, 29]⟩, ⟨some 31, .fadr 1 (.t 30), none, 48, [31, 30]⟩, ⟨some 32, .load1 (.t 31), none, 112, [32, 31]⟩, ⟨some 33, .mv (.t 0), none, 0, [33, 0]⟩, ⟨some 34, .nilck (.t 33), none, 256, [34, 33]⟩, ⟨some 35, .fadr 2 (.t 34), none, 768, [35, 34]⟩, ⟨some 36, .load1 (.t 35), none, 1792, [36, 35]⟩, ⟨some 37, .iadrL 4 (.t 36) (.k (.int .i64 0)), none, 3840, [37, 36]⟩, ⟨some 38, .fadr 0 (.t 37), none, 7936, [38, 37]⟩, ⟨some 39, .load1 (.t 38), none, 16128, [39, 38]⟩, ⟨some 40, .call (.k (.func 23 [] [])) [(.t 32), (.t 39)], none, 32752, [40, 32, 39]⟩]
def r13_2b : List O := [⟨some 41, .call (.k (.func 39 [] [])) [(.t 28), (.t 40)], none, 65535, [41, 28, 40]⟩, ⟨some 5, .mv (.t 41), none, 131071, [5, 41]⟩]
theorem l13_2 {P : Program} {E : Env} {ro : Option Nat} {L : Nat} {K : List Fr} {ρ : Nat → V} {h : H} {Q : Po} (hx : XDQ P E ro L (.c (.region r13_2b) :: K) Q h [true, true, true, true, true, true, true, true, true, true, true, true, true, true, true, true] r13_2a ρ h) : XD P E ro L r13_2 K ρ h Q := XD_last (A := r13_2a) (B := r13_2b) rfl rfl hx
def r41_4a : List O := [⟨some 21, .mv (.t 0), none, 0, [21, 0]⟩, ⟨some 22, .fadr 0 (.t 4), none, 0, [22, 4]⟩, ⟨some 23, .load1 (.t 22), none, 2, [23, 22]⟩, ⟨some 24, .mv (.t 5), none, 0, [24, 5]⟩, ⟨some 25, .bin .add (some .int) false (.t 23) (.t 24), none, 14, [25, 23, 24]⟩, ⟨some 26, .mv (.t 6), none, 0, [26, 6]⟩, ⟨some 27, .call (.k (.func 42 [] [])) [(.t 26)], none, 32, [27, 26]⟩]
def r41_4b : List O := [⟨some 28, .call (.t 21) [(.t 25), (.t 27)], none, 127, [28, 21, 25, 27]⟩, ⟨some 29, .un .not (.t 28), none, 255, [29, 28]⟩]
theorem l41_4 {P : Program} {E : Env} {ro : Option Nat} {L : Nat} {K : List Fr} {ρ : Nat → V} {h : H} {Q : Po} (hx : XDQ P E ro L (.c (.region r41_4b) :: K) Q h [true, true, true, true, true, true, true] r41_4a ρ h) : XD P E ro L r41_4 K ρ h Q := XD_last (A := r41_4a) (B := r41_4b) rfl rfl hx
end Go.AM.Wc
/-! One record appended: the log's state; the last part. -/
namespace Go.AM.Wc
open Go.AM
variable {P : Program} {E : Env} {T : H → Prop}
def lgF (lb bd : Nat) (sb : Option Nat) (sgs : List Sg) (nx : Nat) (br : Bool) : List Cell :=
  (lb, lgO bd (vl sb sgs.length) nx 0 br) :: (fpt sb 74 (sgs.flatMap Sg.cells) ++ sgs.flatMap Sg.foot)
/-- What holds of a log and its disk between appends. -/
structure LOK (fs : List Fl) (sb : Option Nat) (sgs : List Sg) (nx : Nat) : Prop where
  ch : chain sgs 0 nx
  lim : nx ≤ 1000000000000
  sbn : sb = none → sgs = []
  dk : DkOK fs
  fl : ∀ s ∈ sgs, segN s.fst ∈ fs.map Fl.name
def OneR (lo lb bd bm nx : Nat) (br : Bool) (h0 : H) (r : V) (h' : H) : Prop :=
  ∃ e fs' sb' sgs' nx', r = .int .i64 e ∧ Ow lo h' (dkF bd bm fs' ++ lgF lb bd sb' sgs' nx' br) ∧ LOK fs' sb' sgs' nx' ∧ nx' ≤ nx + 1 ∧ Keeps lo h0 h'
theorem seg_len (pre : List Sg) : (pre.flatMap Sg.cells).length = pre.length * 4 := by
  induction pre with
  | nil => rfl
  | cons s r ih => simp only [List.flatMap_cons, List.length_append, ih, Sg.cells, List.length_cons, List.length_nil]; omega
theorem seg_get (pre : List Sg) (c : List V) (j : Nat) : (pre.flatMap Sg.cells ++ c)[pre.length * 4 + j]? = c[j]? := by
  rw [List.getElem?_append_right (by rw [seg_len]; omega), seg_len]
  congr 1; omega
theorem seg_set (pre : List Sg) (c : List V) (j : Nat) (ws : List V) : setR (pre.flatMap Sg.cells ++ c) (pre.length * 4 + j) ws = pre.flatMap Sg.cells ++ setR c j ws := by
  have hl := seg_len pre
  unfold setR
  rw [List.take_append, List.drop_append, hl]
  rw [List.take_of_length_le (by omega), List.drop_of_length_le (by rw [hl]; omega)]
  simp only [List.nil_append, List.append_assoc]
  rw [show pre.length * 4 + j - pre.length * 4 = j by omega, show pre.length * 4 + j + ws.length - pre.length * 4 = j + ws.length by omega]
set_option maxHeartbeats 2000000 in
theorem tail38 (F : Fw P E T) {lo : Nat} {h0 h : H} {lb bd bm sbb nx n : Nat} {br : Bool} {fs : List Fl} {pre : List Sg} {s : Sg} {v : V} {fp : Option (Nat × Nat)} {fk fc : Nat} {fo : Bool} {ρ : Nat → V}
    (ow : Ow lo h (dkF bd bm fs ++ lgF lb bd (some sbb) (pre ++ [s]) nx br)) (hlo : lo ≤ h.size) (kk : Keeps lo h0 h)
    (hc : chain pre 0 s.fst) (hnx : s.fst + s.rs.length = nx) (hl : nx + 1 ≤ 1000000000000) (hnn : s.rb = none → s.rs = []) (hrc : ∀ c ∈ s.rs, Bs c.cs ∧ 1 ≤ c.cs.length ∧ c.cs.length ≤ 65536) (dk : DkOK fs) (fl : ∀ x ∈ pre ++ [s], segN x.fst ∈ fs.map Fl.name)
    (hv : Rb h v n) (hn1 : 1 ≤ n) (hn2 : n ≤ 65536) (q0 : ρ 0 = .ptr (some (lb, 0))) (q1 : ρ 1 = v) (q5 : ρ 5 = .slice fp fk fc fo) (q7 : ρ 7 = .int .i64 (pre.length : Nat)) :
    XO P E none 171 r38_18 [.c (.seq (.draw r38_19) (.seq (.region r38_20) (.seq (.region r38_21) (.seq (.region r38_22) (.seq (.region [⟨some 4, .mv (.k (.int .i64 0)), none, 0, [4]⟩]) (.ret))))))] ρ h (Fin [.t 4] (OneR lo lb bd bm nx br h0)) := by
  have hcl := chain_len hc
  have hfm : (pre ++ [s]).flatMap Sg.cells = pre.flatMap Sg.cells ++ s.cells := by simp
  have hlen : (pre ++ [s]).length = pre.length + 1 := by simp
  have gl := ow.at (i := lb) (o := lgO bd (vl (some sbb) (pre ++ [s]).length) nx 0 br) (by simp [lgF])
  have gs := ow.at (i := sbb) (o := .cells ((pre ++ [s]).flatMap Sg.cells) 74 true false none) (by simp [lgF, fpt])
  rw [hfm] at gs
  rw [hlen] at gl
  obtain ⟨p, c, o, hsv⟩ := vl_shape s.rb s.rs.length (fun h => by rw [hnn h]; rfl)
  obtain ⟨vp, vc, vo, hvv⟩ := hv.len
  unfold lgO lgC at gl
  have hx1 : (pre.flatMap Sg.cells ++ s.cells)[pre.length * 4 + 1]? = some (.slice p s.rs.length c o) := by
    rw [seg_get]; unfold Sg.cells; rw [hsv]; rfl
  have hi : ((pre.length : Nat) : Int) < ((pre.length + 1 : Nat) : Int) := by omega
  have hvl : vl (some sbb) (pre.length + 1) = .slice (some (sbb, 0)) (pre.length + 1) (pre.length + 1) true := rfl
  rw [hvl] at gl
  simp (maxSteps := 2000000) only [GO, GO2, evK, fillV, setR, binV, intOp, strOp, shOp, unV, getR, lenV, partV, V.nj, V.njL, V.cells, Nat.reduceLT, Nat.reduceEqDiff, Nat.reduceAdd, ↓reduceIte, Nat.reduceLeDiff, reduceCtorEq, r38_18, q0, gl, q7, hi, Int.natCast_nonneg, Int.toNat_natCast, Nat.zero_add]
  rw [X_draw]
  refine l38_19 ?_
  simp (maxSteps := 2000000) only [GO, GO2, evK, fillV, setR, binV, intOp, strOp, shOp, unV, getR, lenV, partV, V.nj, V.njL, V.cells, Nat.reduceLT, Nat.reduceEqDiff, Nat.reduceAdd, ↓reduceIte, Nat.reduceLeDiff, reduceCtorEq, r38_19a, gs, hx1, q1]
  rw [hvv] at hv ⊢
  refine XCQ_of (clone42 F hv hn1 (by omega)) ?_
  rintro r h1 ⟨b, cs, rfl, hcs, hbs, hbsz, hgb, k1⟩
  refine ⟨k1, ?_⟩
  have ow1k := k1
  have hvn : vl (some b) n = .slice (some (b, 0)) n n true := rfl
  have hd0 : List.drop 1 [V.slice none 0 0 false] = [] := rfl
  have ow1 := Ow.newM (m1 := dkF bd bm fs ++ lgF lb bd (some sbb) (pre ++ [s]) nx br) (m2 := []) (by simpa using ow) k1 hbsz hlo hgb
  have k2 : Kp h1 (h1.psh (.cells [vl (some b) n] 45 false false none)) := Keeps.psh (Nat.le_refl _) _
  have ow2 := ow1.kp k2
  have he1 : elemsV (h1.psh (.cells [vl (some b) n] 45 false false none)) 1 1 (.slice (some (h1.size, 0)) 1 1 false) = some [vl (some b) n] := by
    simp only [elemsV, psh_same]; rfl
  have hl2 : lo ≤ (h1.psh (.cells [vl (some b) n] 45 false false none)).size := Nat.le_trans hlo (Kp.trans k1 k2).size
  have gl2 := (Kp.trans k1 k2).of gl
  have gs2 := (Kp.trans k1 k2).of gs
  have hcd : [V.slice (some (b, 0)) n n true] = [vl (some b) n] := rfl
  simp (maxSteps := 2000000) only [GO, GO2, evK, fillV, setR, binV, intOp, strOp, shOp, unV, getR, lenV, partV, V.nj, V.njL, V.cells, Nat.reduceLT, Nat.reduceEqDiff, Nat.reduceAdd, ↓reduceIte, Nat.reduceLeDiff, reduceCtorEq, hvn, hd0]
  rw [hcd]
  refine ⟨k2, ?_⟩
  clear k1 hgb gl gs
  have kt : Keeps lo h0 (h1.psh (.cells [vl (some b) n] 45 false false none)) := Keeps.trans kk ((Kp.trans ow1k k2).mono hlo)
  generalize h1.psh (.cells [vl (some b) n] 45 false false none) = h2 at *
  have ow3a : Ow lo h2 ((dkF bd bm fs ++ (lb, lgO bd (vl (some sbb) (pre.length + 1)) nx 0 br) :: (sbb, .cells (pre.flatMap Sg.cells ++ s.cells) 74 true false none) :: pre.flatMap Sg.foot) ++ (fpt s.rb 45 (s.rs.map Rc.v) ++ (s.rs.map Rc.cell ++ [(b, .cells cs 5 true false none)]))) := by
    have := ow2
    unfold lgF at this
    rw [hfm, hlen] at this
    simpa [fpt, Sg.foot] using this
  have hsl : (s.rs.map Rc.v).length = s.rs.length := List.length_map ..
  obtain ⟨b', h3, e1, ow3, hb3, k3, fr3⟩ := Ow.appc (bytes := 24) (x := .slice (some (h1.size, 0)) 1 1 false) (ds := [vl (some b) n]) ow3a (fun h => by rw [hnn h]; rfl) hl2 rfl he1 rfl (by rw [hsl]; simp only [List.length_cons, List.length_nil]; omega)
  have hl3 : (s.rs.map Rc.v ++ [vl (some b) n]).length = s.rs.length + 1 := by simp
  rw [hsl, hl3] at e1
  obtain ⟨p', c', o', hsv'⟩ := vl_shape b' (s.rs.length + 1) (fun h => by have := hb3 h; simp at this)
  rw [hsv, hsv'] at e1
  obtain ⟨rest, hrest⟩ : ∃ rest, rest = pre.flatMap Sg.foot ++ (fpt b' 45 (s.rs.map Rc.v ++ [vl (some b) n]) ++ (s.rs.map Rc.cell ++ [(b, .cells cs 5 true false none)])) := ⟨_, rfl⟩
  have ow3b : Ow lo h3 ((dkF bd bm fs ++ [(lb, lgO bd (vl (some sbb) (pre.length + 1)) nx 0 br)]) ++ (sbb, .cells (pre.flatMap Sg.cells ++ s.cells) 74 true false none) :: rest) := by
    rw [hrest]; simpa using ow3
  clear ow3 ow3a ow2 ow1
  have gs3 := ow3b.at (i := sbb) (o := .cells (pre.flatMap Sg.cells ++ s.cells) 74 true false none) (by simp)
  have hss : (pre.flatMap Sg.cells ++ s.cells).length = pre.length * 4 + 4 := by rw [List.length_append, seg_len]; rfl
  obtain ⟨z, hz⟩ : ∃ z, z = IntKind.i64.wrap (s.size + (fk : Int)) := ⟨_, rfl⟩
  obtain ⟨s1, hs1⟩ : ∃ s1 : Sg, s1 = { s with rb := b', rs := s.rs ++ [⟨b, cs⟩] } := ⟨_, rfl⟩
  obtain ⟨s2, hs2⟩ : ∃ s2 : Sg, s2 = { s with rb := b', rs := s.rs ++ [⟨b, cs⟩], size := z } := ⟨_, rfl⟩
  obtain ⟨s3, hs3⟩ : ∃ s3 : Sg, s3 = { s with rb := b', rs := s.rs ++ [⟨b, cs⟩], size := z, loose := true } := ⟨_, rfl⟩
  have hrl : (s.rs ++ [(⟨b, cs⟩ : Rc)]).length = s.rs.length + 1 := by simp
  have t1 : setR s.cells 1 [.slice p' (s.rs.length + 1) c' o'] = s1.cells := by rw [hs1]; unfold Sg.cells; rw [hrl, hsv']; rfl
  have t2 : setR s1.cells 2 [.int .i64 z] = s2.cells := by rw [hs1, hs2]; rfl
  have t3 : setR s2.cells 3 [.bool true] = s3.cells := by rw [hs2, hs3]; rfl
  have y2 : s1.cells[2]? = some (.int .i64 s.size) := by rw [hs1]; rfl
  -- the record
  have e4 := put_at (ws := [.slice p' (s.rs.length + 1) c' o']) (o := pre.length * 4 + 1) gs3 (by rw [hss]; simp) rfl rfl
  rw [seg_set, t1] at e4
  obtain ⟨ow4, k4⟩ := ow3b.setM (.cells (pre.flatMap Sg.cells ++ s1.cells) 74 true false none)
  have gs4 := ow4.at (i := sbb) (o := .cells (pre.flatMap Sg.cells ++ s1.cells) 74 true false none) (by simp)
  have gl4 := ow4.at (i := lb) (o := lgO bd (vl (some sbb) (pre.length + 1)) nx 0 br) (by simp)
  generalize h3.set sbb (.cells (pre.flatMap Sg.cells ++ s1.cells) 74 true false none) = h4 at *
  have hx2 : (pre.flatMap Sg.cells ++ s1.cells)[pre.length * 4 + 2]? = some (.int .i64 s.size) := by
    rw [seg_get]; exact y2
  have hl4 : (pre.flatMap Sg.cells ++ s1.cells).length = pre.length * 4 + 4 := by rw [List.length_append, seg_len]; rfl
  have e5 := put_at (ws := [.int .i64 z]) (o := pre.length * 4 + 2) gs4 (by rw [hl4]; simp) rfl rfl
  rw [seg_set, t2] at e5
  obtain ⟨ow5, k5⟩ := ow4.setM (.cells (pre.flatMap Sg.cells ++ s2.cells) 74 true false none)
  have gs5 := ow5.at (i := sbb) (o := .cells (pre.flatMap Sg.cells ++ s2.cells) 74 true false none) (by simp)
  generalize h4.set sbb (.cells (pre.flatMap Sg.cells ++ s2.cells) 74 true false none) = h5 at *
  have hl5 : (pre.flatMap Sg.cells ++ s2.cells).length = pre.length * 4 + 4 := by rw [List.length_append, seg_len]; rfl
  have e6 := put_at (ws := [.bool true]) (o := pre.length * 4 + 3) gs5 (by rw [hl5]; simp) rfl rfl
  rw [seg_set, t3] at e6
  obtain ⟨ow6, k6⟩ := ow5.setM (.cells (pre.flatMap Sg.cells ++ s3.cells) 74 true false none)
  have ow6' : Ow lo (h5.set sbb (.cells (pre.flatMap Sg.cells ++ s3.cells) 74 true false none)) (dkF bd bm fs ++ (lb, lgO bd (vl (some sbb) (pre.length + 1)) nx 0 br) :: ((sbb, .cells (pre.flatMap Sg.cells ++ s3.cells) 74 true false none) :: rest)) := by simpa using ow6
  have gl6 := ow6'.at (i := lb) (o := lgO bd (vl (some sbb) (pre.length + 1)) nx 0 br) (by simp)
  obtain ⟨ow7, k7⟩ := ow6'.setM (lgO bd (vl (some sbb) (pre.length + 1)) (nx + 1 : Nat) 0 br)
  unfold lgO lgC at gl6
  rw [hvl] at gl6
  have e7 := put_at (ws := [.int .i64 ((nx + 1 : Nat) : Int)]) (o := 3) gl6 (by simp) rfl rfl
  have e7' : setR [V.ptr (some (bd, 0)), V.str logN, V.slice (some (sbb, 0)) (pre.length + 1) (pre.length + 1) true, V.int .i64 nx, V.int .i64 0, V.bool br] 3 [.int .i64 ((nx + 1 : Nat) : Int)] = lgC bd (vl (some sbb) (pre.length + 1)) (nx + 1 : Nat) 0 br := rfl
  rw [e7'] at e7
  unfold lgO at ow7 k7
  generalize h5.set sbb (.cells (pre.flatMap Sg.cells ++ s3.cells) 74 true false none) = h6 at *
  generalize h6.set lb (.cells (lgC bd (vl (some sbb) (pre.length + 1)) (nx + 1 : Nat) 0 br) 68 false false none) = h7 at *
  have hw : IntKind.i64.wrap ((nx : Int) + 1) = ((nx + 1 : Nat) : Int) := wrap_nat (n := nx + 1) (by omega)
  simp (maxSteps := 2000000) only [GO, GO2, evK, fillV, setR, binV, intOp, strOp, shOp, unV, getR, lenV, partV, V.nj, V.njL, V.cells, Nat.reduceLT, Nat.reduceEqDiff, Nat.reduceAdd, ↓reduceIte, Nat.reduceLeDiff, reduceCtorEq, r38_19b, e1, e4, r38_20, gs4, hx2, q5, ← hz, e5, r38_21, e6, r38_22, q0, gl6, hw, e7]
  refine ⟨0, fs, some sbb, pre ++ [s3], nx + 1, rfl, ?_, ?_, Nat.le_refl _, Keeps.trans kt (Keeps.trans k3 (Keeps.trans k4 (Keeps.trans k5 (Keeps.trans k6 k7))))⟩
  · rw [hrest] at ow7
    unfold lgF lgO
    rw [show (pre ++ [s3]).length = pre.length + 1 by simp]
    simpa [fpt, Sg.foot, hs3, Rc.v, Rc.cell, hcs] using ow7
  · refine ⟨chain_snoc.2 ⟨?_, ?_, ?_⟩, hl, by simp, dk, ?_⟩
    · rw [hs3]; exact hc
    · refine ⟨by rw [hs3]; simp, fun h => ?_, fun x hx => ?_⟩
      · rw [hs3] at h; have := hb3 h; simp at this
      · rw [hs3] at hx
        rcases List.mem_append.1 hx with h | h
        · exact hrc x h
        · rw [List.mem_singleton.1 h]; exact ⟨hbs, by simp only [hcs]; exact hn1, by simp only [hcs]; exact hn2⟩
    · rw [hs3]; simp only [hrl]; omega
    · intro x hx
      rcases List.mem_append.1 hx with h | h
      · exact fl x (List.mem_append_left _ h)
      · rw [List.mem_singleton.1 h, hs3]
        exact fl s (by simp)
end Go.AM.Wc
/-! One record appended: a new segment. -/
namespace Go.AM.Wc
open Go.AM
variable {P : Program} {E : Env} {T : H → Prop}
theorem seg_nx (F : Fw P E T) {n : Nat} {h : H} (ht : T h) (hn : n ≤ 999999999999) : Sp P E (.func 23 [] []) [.str logN, .int .i64 (n : Int)] h fun v h' => v = .str (segN n) ∧ Kp h h' :=
  seg23 F (s := logN) (n := (n : Int)) ht (by decide) fun h0 h1 => itoa_le h0 h1
set_option maxHeartbeats 2000000 in
theorem new38 (F : Fw P E T) (hu : E.prim 105 = some usedG) {lo : Nat} {h0 h : H} {lb bd bm nx n k : Nat} {br : Bool} {fs : List Fl} {sb : Option Nat} {sgs : List Sg} {v f : V} {ρ : Nat → V}
    (ow : Ow lo h (dkF bd bm fs ++ lgF lb bd sb sgs nx br)) (hlo : lo ≤ h.size) (h1lo : 1 ≤ lo) (ht : T h) (kk : Keeps lo h0 h) (lok : LOK fs sb sgs nx) (hl : nx + 1 ≤ 1000000000000)
    (hv : Rb h v n) (hvs : ∀ h', Keeps lo h h' → Rb h' v n) (hn1 : 1 ≤ n) (hn2 : n ≤ 65536) (hf : Rb h f k) (hk : k ≤ 4194304) (q0 : ρ 0 = .ptr (some (lb, 0))) (q1 : ρ 1 = v) (q5 : ρ 5 = f) (q7 : ρ 7 = .int .i64 ((sgs.length : Int) - 1)) :
    X P E none 171 [.c (.draw r38_10), .c (.seq (.region r38_11) (.cond (.t 95) (.seq (.region r38_12) (.ret)) (.skip))), .c (.seq (.draw r38_13) (.region r38_14)), .c (.seq (.region r38_18) (.seq (.draw r38_19) (.seq (.region r38_20) (.seq (.region r38_21) (.seq (.region r38_22) (.seq (.region [⟨some 4, .mv (.k (.int .i64 0)), none, 0, [4]⟩]) (.ret)))))))] ρ h (Fin [.t 4] (OneR lo lb bd bm nx br h0)) := by
  have hcl := chain_len lok.ch
  have gl := ow.at (i := lb) (o := lgO bd (vl sb sgs.length) nx 0 br) (by simp [lgF])
  obtain ⟨p, c, o, hsv⟩ := vl_shape sb sgs.length (fun h => by rw [lok.sbn h]; rfl)
  obtain ⟨fp, fc, fo, hff⟩ := hf.len
  rw [hsv] at gl
  unfold lgO lgC at gl
  rw [hff] at q5 hf
  rw [X_draw]
  refine l38_10 ?_
  simp (maxSteps := 2000000) only [GO, GO2, evK, fillV, setR, binV, intOp, strOp, shOp, unV, getR, lenV, partV, V.nj, V.njL, V.cells, Nat.reduceLT, Nat.reduceEqDiff, Nat.reduceAdd, ↓reduceIte, Nat.reduceLeDiff, reduceCtorEq, r38_10a, q0, gl]
  refine XCQ_of (seg_nx F ht (by omega)) ?_
  rintro _ h1 ⟨rfl, k1⟩
  refine ⟨k1, ?_⟩
  have ow1 := ow.kp k1
  have hf1 := hf.kp k1
  have hl1 : lo ≤ h1.size := Nat.le_trans hlo k1.size
  simp (maxSteps := 2000000) only [GO, GO2, evK, fillV, setR, binV, intOp, strOp, shOp, unV, getR, lenV, partV, V.nj, V.njL, V.cells, Nat.reduceLT, Nat.reduceEqDiff, Nat.reduceAdd, ↓reduceIte, Nat.reduceLeDiff, reduceCtorEq, q5, r38_10b]
  have hlen := segN_len (n := nx) (by omega)
  refine XC_of (append65 F hu (m1 := []) ow1 hl1 lok.dk hf1 hk (by omega) (by omega)) ?_
  rintro _ h2 ⟨e, fs', rfl, ow2, dk2, hnm, hnew, k2⟩
  have ow2 : Ow lo h2 (dkF bd bm fs' ++ lgF lb bd sb sgs nx br) := ow2
  have k2t : Keeps lo h h2 := Keeps.trans (k1.mono hlo) k2
  have fl2 : ∀ s ∈ sgs, segN s.fst ∈ fs'.map Fl.name := fun s hs => hnm _ (lok.fl s hs)
  by_cases he : e = 0
  rotate_left
  · have c1 : (e != 0) = true := by simpa using he
    simp (maxSteps := 2000000) only [GO, GO2, evK, fillV, setR, binV, intOp, strOp, shOp, unV, getR, lenV, partV, V.nj, V.njL, V.cells, Nat.reduceLT, Nat.reduceEqDiff, Nat.reduceAdd, ↓reduceIte, Nat.reduceLeDiff, reduceCtorEq, r38_11, c1, r38_12]
    exact ⟨e, fs', sb, sgs, nx, rfl, ow2, ⟨lok.ch, lok.lim, lok.sbn, dk2, fl2⟩, by omega, Keeps.trans kk k2t⟩
  have c1 : (e != 0) = false := by rw [he]; rfl
  have gl2 := ow2.at (i := lb) (o := lgO bd (vl sb sgs.length) nx 0 br) (by simp [lgF])
  rw [hsv] at gl2
  unfold lgO lgC at gl2
  simp (maxSteps := 2000000) only [GO, GO2, evK, fillV, setR, binV, intOp, strOp, shOp, unV, getR, lenV, partV, V.nj, V.njL, V.cells, Nat.reduceLT, Nat.reduceEqDiff, Nat.reduceAdd, ↓reduceIte, Nat.reduceLeDiff, reduceCtorEq, r38_11, c1]
  rw [X_draw]
  refine l38_13 ?_
  simp (maxSteps := 2000000) only [GO, GO2, evK, fillV, setR, binV, intOp, strOp, shOp, unV, getR, lenV, partV, V.nj, V.njL, V.cells, Nat.reduceLT, Nat.reduceEqDiff, Nat.reduceAdd, ↓reduceIte, Nat.reduceLeDiff, reduceCtorEq, r38_13a, q0, gl2]
  obtain ⟨s0, hs0⟩ : ∃ s0 : Sg, s0 = ⟨nx, none, [], 0, false⟩ := ⟨_, rfl⟩
  have hc0 : s0.cells = [V.int .i64 nx, V.slice none 0 0 false, V.int .i64 0, V.bool false] := by rw [hs0]; rfl
  rw [← hc0]
  have k3 : Kp h2 (h2.psh (.cells s0.cells 74 false false none)) := Keeps.psh (Nat.le_refl _) _
  have he3 : elemsV (h2.psh (.cells s0.cells 74 false false none)) 4 1 (.slice (some (h2.size, 0)) 1 1 false) = some s0.cells := by
    simp only [elemsV, psh_same]; rw [hc0]; rfl
  refine ⟨k3, ?_⟩
  have ow3 := ow2.kp k3
  have hl3 : lo ≤ (h2.psh (.cells s0.cells 74 false false none)).size := Nat.le_trans (Nat.le_trans hl1 k2.size) k3.size
  have gl3 := k3.of gl2
  have kt3 : Keeps lo h (h2.psh (.cells s0.cells 74 false false none)) := Keeps.trans k2t (k3.mono (Nat.le_trans hl1 k2.size))
  clear gl gl2 ow2 k3
  generalize h2.psh (.cells s0.cells 74 false false none) = h3 at *
  have ow3a : Ow lo h3 ((dkF bd bm fs' ++ [(lb, lgO bd (vl sb sgs.length) nx 0 br)]) ++ (fpt sb 74 (sgs.map Sg.cells).flatten ++ sgs.flatMap Sg.foot)) := by
    have := ow3
    unfold lgF at this
    rw [List.flatMap_def] at this
    simpa using this
  have hml : (sgs.map Sg.cells).length = sgs.length := List.length_map ..
  obtain ⟨b', h4, e1, ow4, hb4, k4, fr4⟩ := Ow.appM (sz := 4) (bytes := 48) (x := .slice (some (h2.size, 0)) 1 1 false) (ys := [s0.cells]) ow3a (fun h => by rw [lok.sbn h]; rfl) hl3 (fun z hz => by obtain ⟨y, _, rfl⟩ := List.mem_map.1 hz; rfl) rfl (by rw [show [s0.cells].length = 1 from rfl, he3]; simp) (by rw [hc0]; rfl) (by rw [hml]; simp only [List.length_cons, List.length_nil]; omega)
  obtain ⟨sbb, rfl⟩ : ∃ sbb, b' = some sbb := by
    cases b' with
    | none => have := hb4 rfl; simp at this
    | some x => exact ⟨x, rfl⟩
  have hl4 : (sgs.map Sg.cells ++ [s0.cells]).length = sgs.length + 1 := by simp
  rw [hml, hl4, hsv] at e1
  have gl4 := ow4.at (i := lb) (o := lgO bd (vl sb sgs.length) nx 0 br) (by simp)
  rw [hsv] at gl4
  have e2 := put_at (ws := [vl (some sbb) (sgs.length + 1)]) (o := 2) gl4 (by simp [lgC]) rfl rfl
  have t2 : setR (lgC bd (.slice p sgs.length c o) nx 0 br) 2 [vl (some sbb) (sgs.length + 1)] = lgC bd (vl (some sbb) (sgs.length + 1)) nx 0 br := rfl
  rw [t2] at e2
  have ow4a : Ow lo h4 (dkF bd bm fs' ++ (lb, lgO bd (vl sb sgs.length) nx 0 br) :: (fpt (some sbb) 74 (sgs.map Sg.cells ++ [s0.cells]).flatten ++ sgs.flatMap Sg.foot)) := by simpa using ow4
  obtain ⟨ow5, k5⟩ := ow4a.setM (lgO bd (vl (some sbb) (sgs.length + 1)) nx 0 br)
  unfold lgO at ow5 k5
  generalize h4.set lb (.cells (lgC bd (vl (some sbb) (sgs.length + 1)) nx 0 br) 68 false false none) = h5 at *
  have hvl : vl (some sbb) (sgs.length + 1) = .slice (some (sbb, 0)) (sgs.length + 1) (sgs.length + 1) true := rfl
  rw [hvl] at e1 e2
  have hw : IntKind.i64.wrap ((sgs.length : Int) - 1 + 1) = ((sgs.length : Nat) : Int) := by
    rw [show (sgs.length : Int) - 1 + 1 = ((sgs.length : Nat) : Int) by omega]
    exact wrap_nat (by omega)
  simp (maxSteps := 2000000) only [GO, GO2, evK, fillV, setR, binV, intOp, strOp, shOp, unV, getR, lenV, partV, V.nj, V.njL, V.cells, Nat.reduceLT, Nat.reduceEqDiff, Nat.reduceAdd, ↓reduceIte, Nat.reduceLeDiff, reduceCtorEq, r38_13b, e1, e2, r38_14, q7, hw]
  have kt5 : Keeps lo h h5 := Keeps.trans kt3 (Keeps.trans k4 k5)
  refine tail38 F (pre := sgs) (s := s0) (sbb := sbb) (fs := fs') (fp := fp) (fk := k) (fc := fc) (fo := fo) ?_ (Nat.le_trans hlo kt5.size) (Keeps.trans kk kt5) ?_ ?_ hl ?_ ?_ dk2 ?_ (hvs _ kt5) hn1 hn2 ?_ ?_ ?_ ?_
  · unfold lgF lgO
    rw [show (sgs ++ [s0]).length = sgs.length + 1 by simp]
    rw [show (sgs ++ [s0]).flatMap Sg.cells = (sgs.map Sg.cells ++ [s0.cells]).flatten by rw [List.flatMap_def]; simp]
    rw [show (sgs ++ [s0]).flatMap Sg.foot = sgs.flatMap Sg.foot by rw [hs0]; simp [Sg.foot, fpt]]
    exact ow5
  · rw [hs0]; exact lok.ch
  · rw [hs0]; rfl
  · rw [hs0]; exact fun _ => rfl
  · rw [hs0]; simp
  · intro x hx
    rcases List.mem_append.1 hx with h | h
    · exact fl2 x h
    · rw [List.mem_singleton.1 h, hs0]; exact hnew he
  · exact q0
  · exact q1
  · exact q5
  · rfl
end Go.AM.Wc
/-! One record appended. -/
namespace Go.AM.Wc
open Go.AM
variable {P : Program} {E : Env} {T : H → Prop}
theorem seg_at (pre : List Sg) (c : List V) : (pre.flatMap Sg.cells ++ c)[pre.length * 4]? = c[0]? := by
  have := seg_get pre c 0
  simpa using this
theorem dkok_syn {fs1 : List Fl} {f : Fl} {fs2 : List Fl} {z : Int} (ok : DkOK (fs1 ++ f :: fs2)) : DkOK (fs1 ++ { f with syn := z } :: fs2) where
  emp := by
    intro g hg
    rcases List.mem_append.1 hg with h | h
    · exact ok.emp g (List.mem_append_left _ h)
    · rcases List.mem_cons.1 h with rfl | h
      · exact ok.emp f (by simp)
      · exact ok.emp g (List.mem_append_right _ (List.mem_cons_of_mem _ h))
  room := by
    have := ok.room
    rw [totU_mid] at this ⊢
    exact this
  byt := by
    intro g hg
    rcases List.mem_append.1 hg with h | h
    · exact ok.byt g (List.mem_append_left _ h)
    · rcases List.mem_cons.1 h with rfl | h
      · exact ok.byt f (by simp)
      · exact ok.byt g (List.mem_append_right _ (List.mem_cons_of_mem _ h))
set_option maxHeartbeats 1000000 in
theorem one38 (F : Fw P E T) (hu : E.prim 105 = some usedG) {lo : Nat} {h : H} {lb bd bm nx n : Nat} {br : Bool} {fs : List Fl} {sb : Option Nat} {sgs : List Sg} {v : V}
    (ow : Ow lo h (dkF bd bm fs ++ lgF lb bd sb sgs nx br)) (hlo : lo ≤ h.size) (h1lo : 1 ≤ lo) (ht : T h) (lok : LOK fs sb sgs nx) (hl : nx + 1 ≤ 1000000000000)
    (hvs : ∀ h', Keeps lo h h' → Rb h' v n) (hn1 : 1 ≤ n) (hn2 : n ≤ 65536) : Sp P E (.func 38 [] []) [.ptr (some (lb, 0)), v] h (OneR lo lb bd bm nx br h) := by
  have hv := hvs h (Keeps.refl _ _)
  have hcl := chain_len lok.ch
  have c4 : ((0 : Int) != 0) = false := rfl
  refine Sp_fn F.f38 F.p38 (by simp [fn38]) ?_
  simp (maxSteps := 2000000) only [GO, GO2, evK, fillV, setR, binV, intOp, strOp, shOp, unV, getR, lenV, partV, V.nj, V.njL, V.cells, Nat.reduceLT, Nat.reduceEqDiff, Nat.reduceAdd, ↓reduceIte, Nat.reduceLeDiff, reduceCtorEq, fn38, c38, r38_0]
  refine XC_of (frame69 F hv (by omega)) ?_
  rintro _ h1 ⟨f, k, rfl, hk1, hk2, hnb⟩
  have hfb := hnb.rb
  have k1 := hnb.kp
  obtain ⟨fp, fc, fo, hff⟩ := hfb.len
  have ow1 := ow.kp k1
  have hl1 : lo ≤ h1.size := Nat.le_trans hlo k1.size
  have kk1 : Keeps lo h h1 := k1.mono hlo
  have gl := ow1.at (i := lb) (o := lgO bd (vl sb sgs.length) nx 0 br) (by simp [lgF])
  have ht1 : T h1 := F.tkeep ht k1
  have hvs1 : ∀ h', Keeps lo h1 h' → Rb h' v n := fun h' k => hvs h' (Keeps.trans kk1 k)
  rcases List.eq_nil_or_concat sgs with rfl | ⟨pre, s, rfl⟩
  · have hsb : vl sb ([] : List Sg).length = .slice none 0 0 false ∨ ∃ x, sb = some x := by
      cases sb with
      | none => exact .inl rfl
      | some x => exact .inr ⟨x, rfl⟩
    obtain ⟨p, c, o, hsv⟩ := vl_shape sb ([] : List Sg).length (fun _ => rfl)
    rw [hsv] at gl
    unfold lgO lgC at gl
    have hw : IntKind.i64.wrap (((0 : Nat) : Int) - 1) = -1 := by decide
    have c1 : (-1 : Int) < 0 := by decide
    have c2 : ¬ (-1 : Int) ≥ 0 := by decide
    have hl0 : ([] : List Sg).length = 0 := rfl
    rw [hl0] at gl
    simp (maxSteps := 2000000) only [GO, GO2, evK, fillV, setR, binV, intOp, strOp, shOp, unV, getR, lenV, partV, V.nj, V.njL, V.cells, Nat.reduceLT, Nat.reduceEqDiff, Nat.reduceAdd, ↓reduceIte, Nat.reduceLeDiff, reduceCtorEq, r38_1, c4, r38_3, gl, hw, r38_4, c1, r38_5, c2]
    refine new38 F hu (f := f) (k := k) ow1 hl1 h1lo ht1 kk1 lok hl (hvs1 _ (Keeps.refl _ _)) hvs1 hn1 hn2 hfb (by omega) ?_ ?_ ?_ ?_
    · rfl
    · rfl
    · rfl
    · rfl
  · obtain ⟨sbb, rfl⟩ : ∃ sbb, sb = some sbb := by
      cases sb with
      | none => have := lok.sbn rfl; simp at this
      | some x => exact ⟨x, rfl⟩
    have hlen : (pre.concat s).length = pre.length + 1 := by simp
    rw [List.concat_eq_append] at *
    rw [hlen] at hcl gl
    have hfm : (pre ++ [s]).flatMap Sg.cells = pre.flatMap Sg.cells ++ s.cells := by simp
    have gs := ow1.at (i := sbb) (o := .cells ((pre ++ [s]).flatMap Sg.cells) 74 true false none) (by simp [lgF, fpt])
    rw [hfm] at gs
    unfold lgO lgC at gl
    have hvl : vl (some sbb) (pre.length + 1) = .slice (some (sbb, 0)) (pre.length + 1) (pre.length + 1) true := rfl
    rw [hvl] at gl
    have hw : IntKind.i64.wrap (((pre.length + 1 : Nat) : Int) - 1) = ((pre.length : Nat) : Int) := by
      rw [show ((pre.length + 1 : Nat) : Int) - 1 = ((pre.length : Nat) : Int) by omega]
      exact wrap_nat (by omega)
    have c1 : ¬ ((pre.length : Nat) : Int) < 0 := by omega
    have c2 : ((pre.length : Nat) : Int) ≥ 0 := by omega
    have hi : ((pre.length : Nat) : Int) < ((pre.length + 1 : Nat) : Int) := by omega
    have hx0 : (pre.flatMap Sg.cells ++ s.cells)[pre.length * 4]? = some (.int .i64 s.fst) := by rw [seg_at]; rfl
    have hx2 : (pre.flatMap Sg.cells ++ s.cells)[pre.length * 4 + 2]? = some (.int .i64 s.size) := by rw [seg_get]; rfl
    have hx3 : (pre.flatMap Sg.cells ++ s.cells)[pre.length * 4 + 3]? = some (.bool s.loose) := by rw [seg_get]; rfl
    obtain ⟨hc1, hc2, hc3⟩ := chain_snoc.1 lok.ch
    by_cases hsz : s.size ≥ 1024
    · simp (maxSteps := 2000000) only [GO, GO2, evK, fillV, setR, binV, intOp, strOp, shOp, unV, getR, lenV, partV, V.nj, V.njL, V.cells, Nat.reduceLT, Nat.reduceEqDiff, Nat.reduceAdd, ↓reduceIte, Nat.reduceLeDiff, reduceCtorEq, r38_1, c4, r38_3, gl, hw, r38_4, c1, c2, hi, Int.natCast_nonneg, Int.toNat_natCast, Nat.zero_add, gs, hx2, hsz, r38_5, hx3]
      cases hlo' : s.loose with
      | false =>
        simp (maxSteps := 2000000) only [GO, GO2, evK, fillV, setR, binV, intOp, strOp, shOp, unV, getR, lenV, partV, V.nj, V.njL, V.cells, Nat.reduceLT, Nat.reduceEqDiff, Nat.reduceAdd, ↓reduceIte, Nat.reduceLeDiff, reduceCtorEq]
        refine new38 F hu (f := f) (k := k) ow1 hl1 h1lo ht1 kk1 lok hl (hvs1 _ (Keeps.refl _ _)) hvs1 hn1 hn2 hfb (by omega) rfl rfl rfl ?_
        show V.int .i64 ((pre.length : Nat) : Int) = V.int .i64 (((pre ++ [s]).length : Int) - 1)
        rw [hlen]; congr 1; omega
      | true =>
        simp (maxSteps := 2000000) only [GO, GO2, evK, fillV, setR, binV, intOp, strOp, shOp, unV, getR, lenV, partV, V.nj, V.njL, V.cells, Nat.reduceLT, Nat.reduceEqDiff, Nat.reduceAdd, ↓reduceIte, Nat.reduceLeDiff, reduceCtorEq]
        rw [X_draw]
        refine l38_6 ?_
        simp (maxSteps := 2000000) only [GO, GO2, evK, fillV, setR, binV, intOp, strOp, shOp, unV, getR, lenV, partV, V.nj, V.njL, V.cells, Nat.reduceLT, Nat.reduceEqDiff, Nat.reduceAdd, ↓reduceIte, Nat.reduceLeDiff, reduceCtorEq, r38_6a, gl, gs, hi, Int.natCast_nonneg, Int.toNat_natCast, Nat.zero_add, Nat.add_zero, hx0]
        refine XCQ_of (seg_nx F ht1 (by omega)) ?_
        rintro _ h2 ⟨rfl, k2⟩
        refine ⟨k2, ?_⟩
        simp (maxSteps := 2000000) only [GO, GO2, evK, fillV, setR, binV, intOp, strOp, shOp, unV, getR, lenV, partV, V.nj, V.njL, V.cells, Nat.reduceLT, Nat.reduceEqDiff, Nat.reduceAdd, ↓reduceIte, Nat.reduceLeDiff, reduceCtorEq, r38_6b]
        have hmem : segN s.fst ∈ fs.map Fl.name := lok.fl s (by simp)
        have hsl := segN_len (n := s.fst) (by omega)
        rcases split_name (segN s.fst) fs with hno | ⟨fs1, g, fs2, rfl, hgn, hg1⟩
        · exfalso
          obtain ⟨y, hy, e⟩ := List.mem_map.1 hmem
          exact hno y hy e
        have hl2 : lo ≤ h2.size := Nat.le_trans hl1 k2.size
        obtain ⟨fb, fcs, ef, hfl, hfbs, hfsz, hfg, _⟩ := hnb
        have ow1x : Ow lo h1 ([] ++ (dkF bd bm (fs1 ++ g :: fs2) ++ (lgF lb bd (some sbb) (pre ++ [s]) nx br ++ [(fb, .cells fcs 5 true false none)]))) := by
          have := Ow.newM (m1 := dkF bd bm (fs1 ++ g :: fs2) ++ lgF lb bd (some sbb) (pre ++ [s]) nx br) (m2 := []) (by simpa using ow) k1 hfsz hlo hfg
          simpa using this
        refine XC_of (sync33 F (m1 := []) (ow1x.kp k2) hl2 (lok.dk.emp g (by simp)) hgn hg1 (by omega) (by omega)) ?_
        rintro _ h3 ⟨rfl, ow3, k3⟩
        have ow3 : Ow lo h3 (dkF bd bm (fs1 ++ { g with syn := g.cs.length } :: fs2) ++ (lgF lb bd (some sbb) (pre ++ [s]) nx br ++ [(fb, .cells fcs 5 true false none)])) := ow3
        obtain ⟨s', hs'⟩ : ∃ s' : Sg, s' = { s with loose := false } := ⟨_, rfl⟩
        have t3 : setR s.cells 3 [.bool false] = s'.cells := by rw [hs']; rfl
        have hf' : s'.foot = s.foot := by rw [hs']; rfl
        have ow3a : Ow lo h3 ((dkF bd bm (fs1 ++ { g with syn := g.cs.length } :: fs2) ++ [(lb, lgO bd (vl (some sbb) (pre.length + 1)) nx 0 br)]) ++ (sbb, .cells (pre.flatMap Sg.cells ++ s.cells) 74 true false none) :: ((pre ++ [s]).flatMap Sg.foot ++ [(fb, .cells fcs 5 true false none)])) := by
          have := ow3
          unfold lgF at this
          rw [hfm, hlen] at this
          simpa [fpt] using this
        have gs3 := ow3a.at (i := sbb) (o := .cells (pre.flatMap Sg.cells ++ s.cells) 74 true false none) (by simp)
        have gl3 := ow3a.at (i := lb) (o := lgO bd (vl (some sbb) (pre.length + 1)) nx 0 br) (by simp)
        have hss : (pre.flatMap Sg.cells ++ s.cells).length = pre.length * 4 + 4 := by rw [List.length_append, seg_len]; rfl
        have e4 := put_at (ws := [.bool false]) (o := pre.length * 4 + 3) gs3 (by rw [hss]; simp) rfl rfl
        rw [seg_set, t3] at e4
        obtain ⟨ow4, k4⟩ := ow3a.setM (.cells (pre.flatMap Sg.cells ++ s'.cells) 74 true false none)
        generalize h3.set sbb (.cells (pre.flatMap Sg.cells ++ s'.cells) 74 true false none) = h4 at *
        unfold lgO lgC at gl3
        rw [hvl] at gl3
        simp (maxSteps := 2000000) only [GO, GO2, evK, fillV, setR, binV, intOp, strOp, shOp, unV, getR, lenV, partV, V.nj, V.njL, V.cells, Nat.reduceLT, Nat.reduceEqDiff, Nat.reduceAdd, ↓reduceIte, Nat.reduceLeDiff, reduceCtorEq, r38_7, c4, r38_9, gl3, gs3, hi, Int.natCast_nonneg, Int.toNat_natCast, Nat.zero_add, e4]
        have kk4 : Keeps lo h1 h4 := Keeps.trans (k2.mono hl1) (Keeps.trans k3 k4)
        have hl4 : lo ≤ h4.size := Nat.le_trans hl1 kk4.size
        have gf4 := ow4.at (i := fb) (o := .cells fcs 5 true false none) (by simp)
        have ow4 : Ow lo h4 ((dkF bd bm (fs1 ++ { g with syn := g.cs.length } :: fs2) ++ [(lb, lgO bd (vl (some sbb) (pre.length + 1)) nx 0 br)]) ++ (sbb, .cells (pre.flatMap Sg.cells ++ s'.cells) 74 true false none) :: (pre ++ [s]).flatMap Sg.foot) := by
          refine Ow.left (m1 := [(fb, .cells fcs 5 true false none)]) ?_
          simpa using ow4
        have ow4a : Ow lo h4 (dkF bd bm (fs1 ++ { g with syn := g.cs.length } :: fs2) ++ lgF lb bd (some sbb) (pre ++ [s']) nx br) := by
          unfold lgF
          rw [show (pre ++ [s']).length = pre.length + 1 by simp, show (pre ++ [s']).flatMap Sg.cells = pre.flatMap Sg.cells ++ s'.cells by simp, show (pre ++ [s']).flatMap Sg.foot = (pre ++ [s]).flatMap Sg.foot by simp [hf']]
          simpa [fpt] using ow4
        have hok4 : LOK (fs1 ++ { g with syn := g.cs.length } :: fs2) (some sbb) (pre ++ [s']) nx := by
          refine ⟨chain_snoc.2 ⟨?_, ⟨?_, ?_, ?_⟩, ?_⟩, lok.lim, by simp, dkok_syn lok.dk, ?_⟩
          · rw [hs']; exact hc1
          · rw [hs']; exact hc2.ne
          · rw [hs']; exact hc2.nn
          · rw [hs']; exact hc2.rc
          · rw [hs']; exact hc3
          · intro x hx
            have : segN x.fst ∈ (fs1 ++ g :: fs2).map Fl.name := by
              rcases List.mem_append.1 hx with h | h
              · exact lok.fl x (List.mem_append_left _ h)
              · rw [List.mem_singleton.1 h, hs']; exact hmem
            simpa using this
        have hfb4 : Rb h4 f k := by
          rw [ef, ← hfl]
          exact Rb.of gf4 hfbs
        refine new38 F hu (f := f) (k := k) ow4a hl4 h1lo (F.tlow _ _ _ h1lo ht1 kk4) (Keeps.trans kk1 kk4) hok4 hl (hvs1 _ kk4) (fun h' k => hvs1 h' (Keeps.trans kk4 k)) hn1 hn2 hfb4 (by omega) ?_ ?_ ?_ ?_
        · rfl
        · rfl
        · rfl
        · show V.int .i64 ((pre.length : Nat) : Int) = V.int .i64 (((pre ++ [s']).length : Int) - 1)
          rw [show (pre ++ [s']).length = pre.length + 1 by simp]; congr 1; omega
    · simp (maxSteps := 2000000) only [GO, GO2, evK, fillV, setR, binV, intOp, strOp, shOp, unV, getR, lenV, partV, V.nj, V.njL, V.cells, Nat.reduceLT, Nat.reduceEqDiff, Nat.reduceAdd, ↓reduceIte, Nat.reduceLeDiff, reduceCtorEq, r38_1, c4, r38_3, gl, hw, r38_4, c1, c2, hi, Int.natCast_nonneg, Int.toNat_natCast, Nat.zero_add, gs, hx2, hsz]
      rw [X_draw]
      refine l38_15 ?_
      simp (maxSteps := 2000000) only [GO, GO2, evK, fillV, setR, binV, intOp, strOp, shOp, unV, getR, lenV, partV, V.nj, V.njL, V.cells, Nat.reduceLT, Nat.reduceEqDiff, Nat.reduceAdd, ↓reduceIte, Nat.reduceLeDiff, reduceCtorEq, r38_15a, gl, gs, hi, Int.natCast_nonneg, Int.toNat_natCast, Nat.zero_add, Nat.add_zero, hx0]
      refine XCQ_of (seg_nx F ht1 (by omega)) ?_
      rintro _ h2 ⟨rfl, k2⟩
      refine ⟨k2, ?_⟩
      have hl2 : lo ≤ h2.size := Nat.le_trans hl1 k2.size
      have hsl := segN_len (n := s.fst) (by omega)
      simp (maxSteps := 2000000) only [GO, GO2, evK, fillV, setR, binV, intOp, strOp, shOp, unV, getR, lenV, partV, V.nj, V.njL, V.cells, Nat.reduceLT, Nat.reduceEqDiff, Nat.reduceAdd, ↓reduceIte, Nat.reduceLeDiff, reduceCtorEq, r38_15b]
      refine XC_of (append65 F hu (m1 := []) (ow1.kp k2) hl2 lok.dk (hfb.kp k2) (by omega) (by omega) (by omega)) ?_
      rintro _ h3 ⟨e, fs', rfl, ow3, dk3, hnm, hnew, k3⟩
      have ow3 : Ow lo h3 (dkF bd bm fs' ++ lgF lb bd (some sbb) (pre ++ [s]) nx br) := ow3
      have kk3 : Keeps lo h1 h3 := Keeps.trans (k2.mono hl1) k3
      have fl3 : ∀ x ∈ pre ++ [s], segN x.fst ∈ fs'.map Fl.name := fun x hx => hnm _ (lok.fl x hx)
      by_cases he : e = 0
      rotate_left
      · have c5 : (e != 0) = true := by simpa using he
        simp (maxSteps := 2000000) only [GO, GO2, evK, fillV, setR, binV, intOp, strOp, shOp, unV, getR, lenV, partV, V.nj, V.njL, V.cells, Nat.reduceLT, Nat.reduceEqDiff, Nat.reduceAdd, ↓reduceIte, Nat.reduceLeDiff, reduceCtorEq, r38_16, c5, r38_17]
        exact ⟨e, fs', some sbb, pre ++ [s], nx, rfl, ow3, ⟨lok.ch, lok.lim, lok.sbn, dk3, fl3⟩, by omega, Keeps.trans kk1 kk3⟩
      have c5 : (e != 0) = false := by rw [he]; rfl
      simp (maxSteps := 2000000) only [GO, GO2, evK, fillV, setR, binV, intOp, strOp, shOp, unV, getR, lenV, partV, V.nj, V.njL, V.cells, Nat.reduceLT, Nat.reduceEqDiff, Nat.reduceAdd, ↓reduceIte, Nat.reduceLeDiff, reduceCtorEq, r38_16, c5]
      refine tail38 F (pre := pre) (s := s) (sbb := sbb) (fs := fs') (fp := fp) (fk := k) (fc := fc) (fo := fo) ow3 (Nat.le_trans hl1 kk3.size) (Keeps.trans kk1 kk3) hc1 hc3 hl hc2.nn hc2.rc dk3 fl3 (hvs1 _ kk3) hn1 hn2 ?_ ?_ ?_ ?_
      · rfl
      · rfl
      · exact hff
      · rfl
end Go.AM.Wc
/-! Records appended. -/
namespace Go.AM.Wc
open Go.AM
variable {P : Program} {E : Env} {T : H → Prop}
def AppR (lo lb bd bm : Nat) (h0 : H) (_ : V) (h' : H) : Prop :=
  ∃ fs' sb' sgs' nx' br', Ow lo h' (dkF bd bm fs' ++ lgF lb bd sb' sgs' nx' br') ∧ LOK fs' sb' sgs' nx' ∧ Keeps lo h0 h'
set_option maxHeartbeats 1000000 in
theorem append9 (F : Fw P E T) (hu : E.prim 105 = some usedG) {lo : Nat} {h : H} {lb bd bm nx : Nat} {br : Bool} {fs : List Fl} {sb : Option Nat} {sgs : List Sg} {v : V} {xs : List (V × Nat)}
    (ow : Ow lo h (dkF bd bm fs ++ lgF lb bd sb sgs nx br)) (hlo : lo ≤ h.size) (h1lo : 1 ≤ lo) (ht : T h) (lok : LOK fs sb sgs nx)
    (hvs : ∀ h', Keeps lo h h' → Rl h' v xs) (hxl : xs.length ≤ 1099511627776) : Sp P E (.func 9 [] []) [.ptr (some (lb, 0)), v] h (AppR lo lb bd bm h) := by
  have hv := hvs h (Keeps.refl _ _)
  obtain ⟨vp, vc, vo, hvv, _⟩ := hv
  have same : AppR lo lb bd bm h (.int .i64 0) h := ⟨fs, sb, sgs, nx, br, ow, lok, Keeps.refl _ _⟩
  obtain ⟨p, c, o, hsv⟩ := vl_shape sb sgs.length (fun h => by rw [lok.sbn h]; rfl)
  have gl := ow.at (i := lb) (o := lgO bd (vl sb sgs.length) nx 0 br) (by simp [lgF])
  have loop : ∀ (d k : Nat) (ρ : Nat → V) (h1 : H) (fs1 : List Fl) (sb1 : Option Nat) (sgs1 : List Sg) (nx1 : Nat) (br1 : Bool), (∀ p ∈ xs, 1 ≤ p.2 ∧ p.2 ≤ 65536) → xs.length - k = d → k ≤ xs.length → nx1 + (xs.length - k) ≤ 1000000000000 → Ow lo h1 (dkF bd bm fs1 ++ lgF lb bd sb1 sgs1 nx1 br1) → LOK fs1 sb1 sgs1 nx1 → Keeps lo h h1 →
      ρ 0 = .ptr (some (lb, 0)) → ρ 28 = v → ρ 29 = .int .i64 xs.length → ρ 30 = .int .i64 k →
      XL P E none 43 b9_10 [.b 1, .c (.seq (.region [⟨some 4, .mv (.k (.int .i64 0)), none, 0, [4]⟩]) (.ret))] ρ h1 (Fin [.t 4] (AppR lo lb bd bm h)) := by
    intro d
    induction d with
    | zero =>
      intro k ρ h1 fs1 sb1 sgs1 nx1 br1 hall hd hk hn ow1 lok1 kk q0 q28 q29 q30
      have hke : ¬ k < xs.length := by omega
      rw [u9_10]
      simp (maxSteps := 2000000) only [GO, GO2, evK, fillV, setR, binV, intOp, strOp, shOp, unV, getR, lenV, partV, V.nj, V.njL, V.cells, Nat.reduceLT, Nat.reduceEqDiff, Nat.reduceAdd, ↓reduceIte, Nat.reduceLeDiff, reduceCtorEq, q29, q30, Int.ofNat_lt, hke]
      exact ⟨fs1, sb1, sgs1, nx1, br1, ow1, lok1, kk⟩
    | succ d ih =>
      intro k ρ h1 fs1 sb1 sgs1 nx1 br1 hall hd hk hn ow1 lok1 kk q0 q28 q29 q30
      have hke : k < xs.length := by omega
      have hw : IntKind.i64.wrap ((k : Int) + 1) = ((k + 1 : Nat) : Int) := wrap_nat (n := k + 1) (by omega)
      have hv1 := hvs h1 kk
      obtain ⟨b1, o1, c1, p1, cs, ty, op, ro, fz, hvb, hg1, hx⟩ := hv1.at hke
      have hrb : ∀ h', Keeps lo h1 h' → Rb h' xs[k].1 xs[k].2 := fun h' k' => by
        obtain ⟨_, _, _, _, _, h3⟩ := hvs h' (Keeps.trans kk k')
        exact h3 _ (List.getElem_mem hke)
      have hb := hall _ (List.getElem_mem hke)
      have q28' := q28.trans hvb
      obtain ⟨rp, rc, ro', hrv⟩ := (hrb h1 (Keeps.refl _ _)).len
      rw [u9_10]
      simp (maxSteps := 2000000) only [GO, GO2, evK, fillV, setR, binV, intOp, strOp, shOp, unV, getR, lenV, partV, V.nj, V.njL, V.cells, Nat.reduceLT, Nat.reduceEqDiff, Nat.reduceAdd, ↓reduceIte, Nat.reduceLeDiff, reduceCtorEq, q29, q30, Int.ofNat_lt, hke, r9_5, q28', Int.natCast_nonneg, Int.toNat_natCast, Nat.mul_one, hg1, hx, r9_6, q0]
      refine XC_of (one38 F hu ow1 (Nat.le_trans hlo kk.size) h1lo (F.tlow _ _ _ h1lo ht kk) lok1 (by omega) hrb hb.1 hb.2) ?_
      rintro _ h2 ⟨e, fs2, sb2, sgs2, nx2, rfl, ow2, lok2, hnx2, k2⟩
      simp (maxSteps := 2000000) only [GO, GO2, evK, fillV, setR, binV, intOp, strOp, shOp, unV, getR, lenV, partV, V.nj, V.njL, V.cells, Nat.reduceLT, Nat.reduceEqDiff, Nat.reduceAdd, ↓reduceIte, Nat.reduceLeDiff, reduceCtorEq]
      refine XC_of (fail37 F (e := e) ow2) ?_
      rintro _ h3 ⟨rfl, ow3, k3⟩
      have ow3 : Ow lo h3 (dkF bd bm fs2 ++ lgF lb bd sb2 sgs2 nx2 (br1 || e != 0)) := ow3
      have kk3 := Keeps.trans kk (Keeps.trans k2 k3)
      by_cases he : (e != 0) = true
      · simp (maxSteps := 2000000) only [GO, GO2, evK, fillV, setR, binV, intOp, strOp, shOp, unV, getR, lenV, partV, V.nj, V.njL, V.cells, Nat.reduceLT, Nat.reduceEqDiff, Nat.reduceAdd, ↓reduceIte, Nat.reduceLeDiff, reduceCtorEq, r9_7, he, r9_8]
        exact ⟨fs2, sb2, sgs2, nx2, _, ow3, lok2, kk3⟩
      · have he' : (e != 0) = false := by simpa using he
        simp (maxSteps := 2000000) only [GO, GO2, evK, fillV, setR, binV, intOp, strOp, shOp, unV, getR, lenV, partV, V.nj, V.njL, V.cells, Nat.reduceLT, Nat.reduceEqDiff, Nat.reduceAdd, ↓reduceIte, Nat.reduceLeDiff, reduceCtorEq, r9_7, he', r9_9, q30, hw]
        refine ih (k + 1) _ h3 fs2 sb2 sgs2 nx2 _ hall (by omega) (by omega) (by omega) ow3 lok2 kk3 ?_ ?_ ?_ ?_
        · exact q0
        · exact q28
        · exact q29
        · rfl
  refine Sp_fn F.f9 F.p9 (by simp [fn9]) ?_
  simp (maxSteps := 2000000) only [GO, GO2, evK, fillV, setR, binV, intOp, strOp, shOp, unV, getR, lenV, partV, V.nj, V.njL, V.cells, Nat.reduceLT, Nat.reduceEqDiff, Nat.reduceAdd, ↓reduceIte, Nat.reduceLeDiff, reduceCtorEq, fn9, c9, r9_0]
  refine XC_of (none34 F gl) ?_
  rintro _ hx ⟨rfl, e2⟩
  rw [e2]
  clear e2 hx
  have gl0 := gl
  rw [hsv] at gl
  unfold lgO lgC at gl
  cases br with
  | true =>
    simp (maxSteps := 2000000) only [GO, GO2, evK, fillV, setR, binV, intOp, strOp, shOp, unV, getR, lenV, partV, V.nj, V.njL, V.cells, Nat.reduceLT, Nat.reduceEqDiff, Nat.reduceAdd, ↓reduceIte, Nat.reduceLeDiff, reduceCtorEq, r9_1, gl]
    exact same
  | false =>
    simp (maxSteps := 2000000) only [GO, GO2, evK, fillV, setR, binV, intOp, strOp, shOp, unV, getR, lenV, partV, V.nj, V.njL, V.cells, Nat.reduceLT, Nat.reduceEqDiff, Nat.reduceAdd, ↓reduceIte, Nat.reduceLeDiff, reduceCtorEq, r9_1, gl, r9_2]
    refine XC_of (contains35 F (hvs h (Keeps.refl _ _)) hxl) ?_
    rintro _ hx ⟨⟨b, rfl, hb⟩, e2⟩
    rw [e2]
    clear e2 hx
    cases b with
    | true =>
      simp (maxSteps := 2000000) only [GO, GO2, evK, fillV, setR, binV, intOp, strOp, shOp, unV, getR, lenV, partV, V.nj, V.njL, V.cells, Nat.reduceLT, Nat.reduceEqDiff, Nat.reduceAdd, ↓reduceIte, Nat.reduceLeDiff, reduceCtorEq]
      exact same
    | false =>
      rw [hvv] at loop ⊢
      have hlim := lok.lim
      have hw : IntKind.i64.wrap ((1000000000000 : Int) - (nx : Int)) = 1000000000000 - (nx : Int) := wrap_le (by omega) (by omega)
      by_cases hg : (xs.length : Int) > 1000000000000 - (nx : Int)
      · simp (maxSteps := 2000000) only [GO, GO2, evK, fillV, setR, binV, intOp, strOp, shOp, unV, getR, lenV, partV, V.nj, V.njL, V.cells, Nat.reduceLT, Nat.reduceEqDiff, Nat.reduceAdd, ↓reduceIte, Nat.reduceLeDiff, reduceCtorEq, r9_3, gl, hw, hg]
        exact same
      · simp (maxSteps := 2000000) only [GO, GO2, evK, fillV, setR, binV, intOp, strOp, shOp, unV, getR, lenV, partV, V.nj, V.njL, V.cells, Nat.reduceLT, Nat.reduceEqDiff, Nat.reduceAdd, ↓reduceIte, Nat.reduceLeDiff, reduceCtorEq, r9_3, gl, hw, hg, r9_4]
        refine loop xs.length 0 _ h fs sb sgs nx false (hb rfl) rfl (Nat.zero_le _) (by omega) ow lok (Keeps.refl _ _) ?_ ?_ ?_ ?_
        · rfl
        · rfl
        · rfl
        · rfl
end Go.AM.Wc
/-! Ranges over functions, symbolically. -/
namespace Go.AM
variable {P : Program} {E : Env} {ro : Option Nat} {L : Nat} {K : List Fr} {ρ : Nat → V} {h : H} {Q : Po}

theorem XX_split {c : C} {K : List Fr} {T : List V} {Q : Po} (hx : ∃ ex s', EC P E ro c (T, h) = some (ex, s') ∧ XX P E ro K ex s'.1 s'.2 Q) : XX P E ro (.c c :: K) .nrm T h Q := by
  obtain ⟨ex, s', h1, ex', T', h', h2, q⟩ := hx
  exact ⟨ex', T', h', by simp only [EK, h1, Option.bind_some]; exact h2, q⟩

/-- A range over a function. -/
theorem X_range {f : A} {ps : List Nat} {as b : C} {g : Nat} {fs cs : List V} (hf : f.ev (toL L ρ) = some (.func g fs cs)) (hro : roOk h ro = true)
    (sp : Sp P E (.func g fs cs) [.yield h.size] (h.psh (.loop .ready none (toL L ρ) ps as b)) fun _ h2 => ∃ st pend ps' as' b' T', h2.get h.size = some (.loop st pend T' ps' as' b') ∧ st ≠ .busy ∧
      ∀ oe : Obj, (∀ vs ty op ro fz, oe ≠ .cells vs ty op ro fz) →
      (match pend with
        | none => X P E ro L K ρ (h2.set h.size oe) Q
        | some .ret => XX P E ro K .ret (toL L ρ) (h2.set h.size oe) Q
        | some (.exit id) => XQ P E ro L (.exit id) K ρ (h2.set h.size oe) Q
        | some _ => False)) : X P E ro L (.c (.range f ps as b) :: K) ρ h Q := by
  obtain ⟨v, h2, e, st, pend, ps', as', b', T', hg, hst, hm⟩ := sp
  have hm := hm (.loop .exhausted pend T' ps' as' b') (by intro _ _ _ _ _ e; cases e)
  refine XX_split ?_
  rw [EC_range f ps as b (toL L ρ) h hro hf, e]
  simp only [rangeEnd, hg, hst, if_false]
  cases pend with
  | none => exact ⟨_, _, rfl, hm⟩
  | some c =>
    cases c with
    | ret => exact ⟨_, _, rfl, hm⟩
    | exit id => exact ⟨_, _, rfl, hm⟩
    | _ => exact hm.elim

/-- A round of a range. -/
theorem Sp_yield {l : Nat} {st : LoopState} {pend pend' : Option C} {ps : List Nat} {as b : C} {args : List V} {ρ' : Nat → V} {Q : V → H → Prop} (hg : h.get l = some (.loop st pend (toL L ρ) ps as b)) (hl : args.length = ps.length) (hz : zipSet (toL L ρ) ps args = toL L ρ')
    (hx : X P E (some l) L [.c as] ρ' h fun ex T1 h1 => ex = .nrm ∧ h1.get l = some (.loop .ready pend' (toL L ρ) ps as b) ∧ ∃ ρ1, T1 = toL L ρ1 ∧
      X P E (some l) L [.c b] ρ1 (h1.set l (.loop .busy pend' (toL L ρ) ps as b)) fun ex T2 h2 => h2.get l = some (.loop .busy pend' (toL L ρ) ps as b) ∧
        match ex with
        | .nrm => Q (.bool true) (h2.set l (.loop .ready none (toL L ρ) ps as b))
        | .ret => Q (.bool false) (h2.set l (.loop .done (some .ret) (toL L ρ) ps as b))
        | .exit id => Q (.bool false) (h2.set l (.loop .done (some (.exit id)) (toL L ρ) ps as b))) : Sp P E (.yield l) args h Q := by
  obtain ⟨ex, T1, h1, e1, rfl, hg1, ρ1, rfl, ex2, T2, h2, e2, hg2, hm⟩ := hx
  have c1 : EC P E (some l) as (toL L ρ', h) = some (.nrm, (toL L ρ1, h1)) := by
    simp only [EK] at e1
    cases hc : EC P E (some l) as (toL L ρ', h) with
    | none => rw [hc] at e1; simp at e1
    | some r => obtain ⟨a, s⟩ := r; rw [hc] at e1; simpa using e1
  have c2 : EC P E (some l) b (toL L ρ1, h1.set l (.loop .busy pend' (toL L ρ) ps as b)) = some (ex2, (T2, h2)) := by
    simp only [EK] at e2
    cases hc : EC P E (some l) b (toL L ρ1, h1.set l (.loop .busy pend' (toL L ρ) ps as b)) with
    | none => rw [hc] at e2; simp at e2
    | some r => obtain ⟨a, s⟩ := r; rw [hc] at e2; simpa using e2
  unfold Sp
  rw [AP_yield]
  unfold RND
  simp only [hg, hl, if_true, hz, c1, hg1, c2, hg2]
  cases ex2 with
  | nrm => exact ⟨_, _, rfl, hm⟩
  | ret => exact ⟨_, _, rfl, hm⟩
  | exit id => exact ⟨_, _, rfl, hm⟩
theorem zip2 (L : Nat) (ρ : Nat → V) (p q : Nat) (v w : V) : zipSet (toL L ρ) [p, q] [v, w] = toL L (up (up ρ p v) q w) := by simp only [zipSet, toL_set]
/-- What is neither the box nor the list stays. -/
structure KB (b : Nat) (h h' : H) : Prop where
  size : h.size ≤ h'.size
  get : ∀ i o, h.get i = some o → i ≠ b → (∀ vs, o ≠ .cells vs 30 true false none) → h'.get i = some o
theorem KB.refl (b : Nat) (h : H) : KB b h h := ⟨Nat.le_refl _, fun _ _ hg _ _ => hg⟩
theorem KB.kp {b : Nat} {h h' : H} (k : Kp h h') : KB b h h' := ⟨k.size, fun _ _ hg _ _ => k.of hg⟩
theorem KB.trans {b : Nat} {h1 h2 h3 : H} (x : KB b h1 h2) (y : KB b h2 h3) : KB b h1 h3 := ⟨Nat.le_trans x.size y.size, fun i o hg hb hn => y.get i o (x.get i o hg hb hn) hb hn⟩
end Go.AM
/-! The records of a log, one by one. -/
namespace Go.AM.Wc
open Go.AM
variable {P : Program} {E : Env} {T : H → Prop}
theorem put_fresh (h : H) {vs ws : List V} {ty : Nat} (hl : ws.length = vs.length) (h1 : ws.all V.one = true) (hne : ws.isEmpty = false) :
    ∃ h', putCells (h.psh (.cells vs ty false false none)) h.size 0 ws = some h' ∧ h'.get h.size = some (.cells ws ty false false none) ∧ Kp h h' ∧ h'.size = h.size + 1 := by
  have hg := psh_same h (.cells vs ty false false none)
  have hset : setR vs 0 ws = ws := by simp [setR, hl]
  refine ⟨(h.psh (.cells vs ty false false none)).set h.size (.cells ws ty false false none), ?_, hset_same (H.get_lt hg) _, Keeps.trans (n := h.size) (Keeps.psh (Nat.le_refl _) _) (Keeps.set (H.get_lt hg) (Nat.le_refl _) _), rfl⟩
  unfold putCells
  simp only [hne, Bool.false_eq_true, if_false, hg, Nat.zero_add, hl, Nat.le_refl, h1, fzFree, and_self, if_true, hset]
def Sg.xs (s : Sg) : List (V × Nat) := s.rs.map fun c => (c.v, c.cs.length)
/-- Segments that can be read. -/
def Rs (h : H) (sv : V) (sgs : List Sg) : Prop := ∃ p c o, sv = .slice p sgs.length c o ∧ elemsV h 4 sgs.length sv = some (sgs.flatMap Sg.cells) ∧ ∀ s ∈ sgs, Rl h (vl s.rb s.rs.length) s.xs
theorem Rs.kp {h h' : H} {sv : V} {sgs : List Sg} (a : Rs h sv sgs) (k : Kp h h') : Rs h' sv sgs := by
  obtain ⟨p, c, o, h1, h2, h3⟩ := a
  exact ⟨p, c, o, h1, elems_kp k h2, fun s hs => (h3 s hs).kp k⟩
/-- A clone of segments. -/
def Cl (h : H) (sv : V) (sgs : List Sg) : Prop := ∃ p c o, sv = .slice p sgs.length c o ∧ (sgs = [] ∨ ∃ b, p = some (b, 0) ∧ h.get b = some (.cells (sgs.flatMap Sg.cells) 74 true false none))
/-- Blocks of segments stay. -/
def F74 (h h' : H) : Prop := ∀ i vs op ro fz, h.get i = some (.cells vs 74 op ro fz) → h'.get i = some (.cells vs 74 op ro fz)
theorem Cl.fr {h h' : H} {sv : V} {sgs : List Sg} (a : Cl h sv sgs) (k : F74 h h') : Cl h' sv sgs := by
  obtain ⟨p, c, o, h1, h2⟩ := a
  refine ⟨p, c, o, h1, h2.imp id ?_⟩
  rintro ⟨b, q1, q2⟩
  exact ⟨b, q1, k _ _ _ _ _ q2⟩
theorem F74.kp {h h' : H} (k : Kp h h') : F74 h h' := fun _ _ _ _ _ hg => k.of hg
theorem Rs.cl {h h1 : H} {sv sv' : V} {sgs : List Sg} (a : Rs h sv sgs) (k : Kp h h1) (c : Cl h1 sv' sgs) : Rs h1 sv' sgs := by
  obtain ⟨_, _, _, _, _, h3⟩ := a
  obtain ⟨p, c, o, rfl, hc⟩ := c
  refine ⟨p, c, o, rfl, ?_, fun s hs => (h3 s hs).kp k⟩
  rcases hc with rfl | ⟨b, rfl, hg⟩
  · cases p <;> simp [elemsV]
  · have hl := seg_len sgs
    simp only [elemsV, hg, Nat.zero_add, ← hl, Nat.le_refl, if_true]
    by_cases h0 : (sgs.flatMap Sg.cells).length = 0
    · rw [if_pos h0, List.eq_nil_of_length_eq_zero h0]
    · rw [if_neg h0, getR_whole' rfl]
theorem Rs.at {h : H} {sv : V} {sgs : List Sg} {k : Nat} (a : Rs h sv sgs) (hk : k < sgs.length) : ∃ b o c q cs ty op ro fz, sv = .slice (some (b, o)) sgs.length c q ∧ h.get b = some (.cells cs ty op ro fz) ∧ o + k * 4 + 4 ≤ cs.length ∧ List.take 4 (List.drop (o + k * 4) cs) = sgs[k].cells := by
  obtain ⟨p, c, q, rfl, h2, h3⟩ := a
  cases p with
  | none => simp only [elemsV] at h2; rw [if_neg (by omega)] at h2; cases h2
  | some p =>
    obtain ⟨i, o⟩ := p
    simp only [elemsV] at h2
    rw [if_neg (by omega)] at h2
    split at h2
    · rename_i vs ty op ro fz hg
      split at h2
      · rename_i hle
        simp only [Option.some.injEq] at h2
        refine ⟨i, o, c, q, vs, ty, op, ro, fz, rfl, hg, by omega, ?_⟩
        have hsp : sgs = sgs.take k ++ sgs[k] :: sgs.drop (k + 1) := by simp
        have e : List.take 4 (List.drop (k * 4) (getR vs o (sgs.length * 4))) = List.take 4 (List.drop (k * 4) (sgs.flatMap Sg.cells)) := by rw [h2]
        unfold getR at e
        rw [List.drop_take, List.drop_drop, List.take_take, Nat.min_eq_left (by omega)] at e
        rw [e]
        have hl : ((sgs.take k).flatMap Sg.cells).length = k * 4 := by rw [seg_len, List.length_take, Nat.min_eq_left (by omega)]
        have : sgs.flatMap Sg.cells = (sgs.take k).flatMap Sg.cells ++ (sgs[k].cells ++ (sgs.drop (k + 1)).flatMap Sg.cells) := by
          have := congrArg (List.flatMap Sg.cells) hsp
          rw [List.flatMap_append, List.flatMap_cons] at this
          exact this
        rw [this, ← hl, List.drop_left]
        have h4 : sgs[k].cells.length = 4 := rfl
        rw [← h4, List.take_left]
      · cases h2
    · cases h2
theorem clone40 (F : Fw P E T) {h : H} {sv : V} {sgs : List Sg} (hv : Rs h sv sgs) (hm : sgs.length ≤ 1000000000000) : Sp P E (.func 40 [] []) [sv] h fun r h' => Cl h' r sgs ∧ Kp h h' := by
  obtain ⟨p, c, q, rfl, he, _⟩ := hv
  refine Sp_fn F.f40 F.p40 (by simp [fn40]) ?_
  cases p with
  | none =>
    have h0 : sgs = [] := by
      simp only [elemsV] at he
      split at he
      · simp only [Option.some.injEq] at he
        have := congrArg List.length he
        rw [seg_len] at this
        exact List.eq_nil_of_length_eq_zero (by simp at this; omega)
      · cases he
    have c4 : eqV h .sl (.slice none sgs.length c q) (.slice none 0 0 false) = some true := by simp [eqV]
    simp (maxSteps := 2000000) only [GO, GO2, evK, fillV, setR, binV, intOp, strOp, shOp, unV, getR, lenV, partV, V.nj, V.njL, V.cells, Nat.reduceLT, Nat.reduceEqDiff, Nat.reduceAdd, ↓reduceIte, Nat.reduceLeDiff, reduceCtorEq, fn40, c40, r40_0, c4]
    exact ⟨⟨none, 0, false, by rw [h0]; rfl, .inl h0⟩, Keeps.refl _ _⟩
  | some a =>
    have k1 : Kp h (h.psh (.cells [] 74 false false none)) := Keeps.psh (Nat.le_refl _) _
    have he1 := elems_kp k1 he
    have s1 := psh_size h (.cells [] 74 false false none)
    have g1 := psh_same h (.cells [] 74 false false none)
    have c4 : eqV h .sl (.slice (some a) sgs.length c q) (.slice none 0 0 false) = some false := by simp [eqV]
    have c3 : elemsV (h.psh (.cells [] 74 false false none)) 4 0 (.slice (some (h.size, 0)) 0 0 false) = some [] := by simp [elemsV]
    by_cases h0 : sgs.length = 0
    · have hs : sgs = [] := List.eq_nil_of_length_eq_zero h0
      subst hs
      have hn0 : ([] : List Sg).length = 0 := rfl
      rw [hn0] at c4 ⊢
      have hap : appV (h.psh (.cells [] 74 false false none)) 74 4 48 (.slice (some (h.size, 0)) 0 0 false) (.slice (some a) 0 c q) = some (.eff (.slice (some (h.size, 0)) 0 0 false) (h.psh (.cells [] 74 false false none))) := by
        unfold appV
        simp [lenV, elemsV, putCells]
      simp (maxSteps := 2000000) only [GO, GO2, evK, fillV, setR, binV, intOp, strOp, shOp, unV, getR, lenV, partV, V.nj, V.njL, V.cells, Nat.reduceLT, Nat.reduceEqDiff, Nat.reduceAdd, ↓reduceIte, Nat.reduceLeDiff, reduceCtorEq, fn40, c40, r40_0, c4, r40_1, hap]
      exact ⟨⟨_, _, _, rfl, .inl rfl⟩, k1⟩
    · have hap : appV (h.psh (.cells [] 74 false false none)) 74 4 48 (.slice (some (h.size, 0)) 0 0 false) (.slice (some a) sgs.length c q) = some (.eff (.slice (some (h.size + 1, 0)) sgs.length sgs.length true) ((h.psh (.cells [] 74 false false none)).psh (.cells (sgs.flatMap Sg.cells) 74 true false none))) := by
        unfold appV
        have c1 : ¬ sgs.length ≤ 0 := by omega
        have c2 : sgs.length ≤ 1099511627776 ∧ (2 * sgs.length + 1024) * 48 ≤ 281474976710656 := by omega
        simp only [lenV, he1, Nat.zero_add, c1, if_false, c2, and_self, if_true, c3, push_eq, s1, List.nil_append]
      have g2 := psh_same (h.psh (.cells [] 74 false false none)) (.cells (sgs.flatMap Sg.cells) 74 true false none)
      rw [s1] at g2
      have k2 : Kp (h.psh (.cells [] 74 false false none)) ((h.psh (.cells [] 74 false false none)).psh (.cells (sgs.flatMap Sg.cells) 74 true false none)) := Keeps.psh (Nat.le_refl _) _
      simp (maxSteps := 2000000) only [GO, GO2, evK, fillV, setR, binV, intOp, strOp, shOp, unV, getR, lenV, partV, V.nj, V.njL, V.cells, Nat.reduceLT, Nat.reduceEqDiff, Nat.reduceAdd, ↓reduceIte, Nat.reduceLeDiff, reduceCtorEq, fn40, c40, r40_0, c4, r40_1, hap]
      exact ⟨⟨_, _, _, rfl, .inr ⟨_, rfl, g2⟩⟩, Kp.trans k1 k2⟩
end Go.AM.Wc
/-! The records of a log, one by one: the walk. -/
namespace Go.AM.Wc
open Go.AM
variable {P : Program} {E : Env} {T : H → Prop}
theorem records14 (F : Fw P E T) {h : H} {lb bd : Nat} {sv : V} {nx sy : Int} {br : Bool} {sgs : List Sg} (gl : h.get lb = some (lgO bd sv nx sy br)) (hv : Rs h sv sgs) (hm : sgs.length ≤ 1000000000000) :
    Sp P E (.func 14 [] []) [.ptr (some (lb, 0))] h fun r h' => ∃ tb sv', r = .func 41 [] [.ptr (some (tb, 0))] ∧ h.size ≤ tb ∧ h'.get tb = some (.cells [sv'] 66 false false none) ∧ Cl h' sv' sgs ∧ Kp h h' := by
  have k1 : Kp h (h.psh (.cells [.slice none 0 0 false] 66 false false none)) := Keeps.psh (Nat.le_refl _) _
  have g1 := psh_same h (.cells [.slice none 0 0 false] 66 false false none)
  have gl1 := k1.of gl
  have hv1 := hv.kp k1
  refine Sp_fn F.f14 F.p14 (by simp [fn14]) ?_
  simp (maxSteps := 2000000) only [GO, GO2, evK, fillV, setR, binV, intOp, strOp, shOp, unV, getR, lenV, partV, V.nj, V.njL, V.cells, Nat.reduceLT, Nat.reduceEqDiff, Nat.reduceAdd, ↓reduceIte, Nat.reduceLeDiff, reduceCtorEq, fn14, c14]
  generalize h.psh (.cells [.slice none 0 0 false] 66 false false none) = h1 at *
  simp (maxSteps := 2000000) only [GO, GO2, evK, fillV, setR, binV, intOp, strOp, shOp, unV, getR, lenV, partV, V.nj, V.njL, V.cells, Nat.reduceLT, Nat.reduceEqDiff, Nat.reduceAdd, ↓reduceIte, Nat.reduceLeDiff, reduceCtorEq, r14_0]
  refine XC_of (none34 F gl1) ?_
  rintro _ hx ⟨rfl, e2⟩
  rw [e2]
  clear e2 hx
  obtain ⟨p, c, o, rfl, _⟩ := hv
  have gl1' := gl1
  unfold lgO lgC at gl1'
  simp (maxSteps := 2000000) only [GO, GO2, evK, fillV, setR, binV, intOp, strOp, shOp, unV, getR, lenV, partV, V.nj, V.njL, V.cells, Nat.reduceLT, Nat.reduceEqDiff, Nat.reduceAdd, ↓reduceIte, Nat.reduceLeDiff, reduceCtorEq, Bool.not_false, r14_1, gl1']
  refine XC_of (clone40 F hv1 hm) ?_
  rintro sv' h2 ⟨hcl, k2⟩
  have g2 := k2.of g1
  have hcl0 := hcl
  obtain ⟨p', c', o', rfl, _⟩ := hcl0
  have e4 := put_at (ws := [.slice p' sgs.length c' o']) (o := 0) g2 (by simp) rfl rfl
  have hset : setR [V.slice none 0 0 false] 0 [.slice p' sgs.length c' o'] = [.slice p' sgs.length c' o'] := rfl
  rw [hset] at e4
  have hlt := H.get_lt g2
  have k3 : Kp h (h2.set h.size (.cells [.slice p' sgs.length c' o'] 66 false false none)) := Keeps.trans (n := h.size) (k1.trans k2) (Keeps.set hlt (Nat.le_refl _) _)
  have f3 : F74 h2 (h2.set h.size (.cells [.slice p' sgs.length c' o'] 66 false false none)) := by
    intro i vs op ro fz hg
    rw [hset_other hlt (by rintro rfl; rw [g2] at hg; cases hg)]; exact hg
  simp (maxSteps := 2000000) only [GO, GO2, evK, fillV, setR, binV, intOp, strOp, shOp, unV, getR, lenV, partV, V.nj, V.njL, V.cells, Nat.reduceLT, Nat.reduceEqDiff, Nat.reduceAdd, ↓reduceIte, Nat.reduceLeDiff, reduceCtorEq, e4, r14_2]
  exact ⟨h.size, _, rfl, Nat.le_refl _, hset_same hlt _, hcl.fr f3, k3⟩
set_option maxHeartbeats 1000000 in
theorem iter41 (F : Fw P E T) {h : H} {tb l : Nat} {sv : V} {sgs : List Sg} {a nx : Nat} (hc : chain sgs a nx) (hm : nx ≤ 1000000000000) (Inv : Nat → H → Prop) (Stp : H → Prop)
    (hKp : ∀ k h1 h2, Inv k h1 → Kp h1 h2 → Inv k h2)
    (hRd : ∀ k h1, Inv k h1 → h1.get tb = some (.cells [sv] 66 false false none) ∧ Rs h1 sv sgs)
    (hY : ∀ k h1 r, a ≤ k → k < nx → Inv k h1 → Sp P E (.yield l) [.int .i64 (k : Nat), r] h1 fun v h2 => F74 h1 h2 ∧ ((v = .bool true ∧ Inv (k + 1) h2) ∨ (v = .bool false ∧ Stp h2)))
    (h0 : Inv a h) : Sp P E (.func 41 [] [.ptr (some (tb, 0))]) [.yield l] h fun _ h' => Inv nx h' ∨ Stp h' := by
  have hnl := chain_len hc
  have hmem := chain_mem hc
  have inner : ∀ (s : Sg) (K : List Fr) (Q : Po) (ρ0 : Nat → V) (b4 : Nat), s ∈ sgs → ρ0 0 = .yield l → ρ0 4 = .ptr (some (b4, 0)) → ρ0 14 = vl s.rb s.rs.length → ρ0 15 = .int .i64 s.rs.length →
      (∀ (ρ' : Nat → V) (h' : H), (∀ j, j < 16 → j ≠ 5 → j ≠ 6 → ρ' j = ρ0 j) → Inv (s.fst + s.rs.length) h' → X P E none 32 K ρ' h' Q) →
      (∀ (T' : List V) (h' : H), Stp h' → Q .ret T' h') →
      ∀ (d k : Nat) (ρ : Nat → V) (h1 : H), s.rs.length - k = d → k ≤ s.rs.length → (∀ j, j < 16 → j ≠ 5 → j ≠ 6 → ρ j = ρ0 j) → ρ 16 = .int .i64 k → Inv (s.fst + k) h1 → h1.get b4 = some (.cells s.cells 74 false false none) →
      XL P E none 32 b41_6 (.b 2 :: K) ρ h1 Q := by
    intro s K Q ρ0 b4 hs w0 w4 w14 w15 cont stop d
    obtain ⟨oks, hsa, hsz⟩ := hmem s hs
    obtain ⟨p, c, o, hsv⟩ := vl_shape s.rb s.rs.length (fun h => by rw [oks.nn h]; rfl)
    induction d with
    | zero =>
      intro k ρ h1 hd hk hr q16 inv g4
      have hke : ¬ k < s.rs.length := by omega
      have q15 := (hr 15 (by decide) (by decide) (by decide)).trans w15
      have hkk : k = s.rs.length := by omega
      subst hkk
      rw [u41_6]
      simp (maxSteps := 2000000) only [GO, GO2, evK, fillV, setR, binV, intOp, strOp, shOp, unV, getR, lenV, partV, V.nj, V.njL, V.cells, Nat.reduceLT, Nat.reduceEqDiff, Nat.reduceAdd, ↓reduceIte, Nat.reduceLeDiff, reduceCtorEq, q15, q16, Int.ofNat_lt, hke]
      refine cont _ h1 (fun j hj h5 h6 => ?_) inv
      simp only [up_app]
      repeat rw [if_neg (by omega)]
      exact hr j hj h5 h6
    | succ d ih =>
      intro k ρ h1 hd hk hr q16 inv g4
      have hke : k < s.rs.length := by omega
      have q0 := (hr 0 (by decide) (by decide) (by decide)).trans w0
      have q4 := (hr 4 (by decide) (by decide) (by decide)).trans w4
      have q14 := (hr 14 (by decide) (by decide) (by decide)).trans w14
      have q15 := (hr 15 (by decide) (by decide) (by decide)).trans w15
      have hw : IntKind.i64.wrap ((k : Int) + 1) = ((k + 1 : Nat) : Int) := wrap_nat (n := k + 1) (by omega)
      have hw2 : IntKind.i64.wrap ((s.fst : Int) + (k : Int)) = ((s.fst + k : Nat) : Int) := by
        rw [wrap_le (by omega) (by omega)]; omega
      obtain ⟨gt, hrs⟩ := hRd _ _ inv
      obtain ⟨_, _, _, _, _, h3⟩ := hrs
      have hxl : s.xs.length = s.rs.length := List.length_map ..
      have hrl := h3 s hs
      obtain ⟨b1, o1, c1, p1, cs, ty, op, ro, fz, hvb, hg1, hx⟩ := hrl.at (k := k) (by omega)
      have hrb : Rb h1 s.xs[k].1 s.xs[k].2 := by obtain ⟨_, _, _, _, _, q⟩ := hrl; exact q _ (List.getElem_mem _)
      have hbd : 1 ≤ s.xs[k].2 ∧ s.xs[k].2 ≤ 65536 := by
        have := oks.rc s.rs[k] (List.getElem_mem hke)
        simp only [Sg.xs, List.getElem_map]
        exact this.2
      obtain ⟨rp, rc, ro', hrv⟩ := hrb.len
      rw [hxl] at hvb
      have q14' := q14.trans hvb
      have hfst : s.cells[0]? = some (.int .i64 s.fst) := rfl
      rw [hrv] at hx hrb
      rw [u41_6]
      simp (maxSteps := 2000000) only [GO, GO2, evK, fillV, setR, binV, intOp, strOp, shOp, unV, getR, lenV, partV, V.nj, V.njL, V.cells, Nat.reduceLT, Nat.reduceEqDiff, Nat.reduceAdd, ↓reduceIte, Nat.reduceLeDiff, reduceCtorEq, q15, q16, Int.ofNat_lt, hke, r41_3, q14', Int.natCast_nonneg, Int.toNat_natCast, Nat.mul_one, hg1, hx]
      rw [X_draw]
      refine l41_4 ?_
      simp (maxSteps := 2000000) only [GO, GO2, evK, fillV, setR, binV, intOp, strOp, shOp, unV, getR, lenV, partV, V.nj, V.njL, V.cells, Nat.reduceLT, Nat.reduceEqDiff, Nat.reduceAdd, ↓reduceIte, Nat.reduceLeDiff, reduceCtorEq, r41_4a, q0, q4, Nat.zero_add, Nat.add_zero, g4, hfst, hw2]
      refine XCQ_of (clone42 F hrb hbd.1 (by omega)) ?_
      rintro r h2 hnb
      have k2 := hnb.kp
      refine ⟨k2, ?_⟩
      simp (maxSteps := 2000000) only [GO, GO2, evK, fillV, setR, binV, intOp, strOp, shOp, unV, getR, lenV, partV, V.nj, V.njL, V.cells, Nat.reduceLT, Nat.reduceEqDiff, Nat.reduceAdd, ↓reduceIte, Nat.reduceLeDiff, reduceCtorEq, r41_4b]
      refine XC_of (hY (s.fst + k) h2 r (by omega) (by omega) (hKp _ _ _ inv k2)) ?_
      rintro _ h4 ⟨f4, hor⟩
      rcases hor with ⟨rfl, inv4⟩ | ⟨rfl, hst⟩
      · simp (maxSteps := 2000000) only [GO, GO2, evK, fillV, setR, binV, intOp, strOp, shOp, unV, getR, lenV, partV, V.nj, V.njL, V.cells, Nat.reduceLT, Nat.reduceEqDiff, Nat.reduceAdd, ↓reduceIte, Nat.reduceLeDiff, reduceCtorEq, Bool.not_true, r41_5, q16, hw]
        refine ih (k + 1) _ h4 (by omega) (by omega) (fun j hj h5 h6 => ?_) ?_ inv4 (f4 _ _ _ _ _ (k2.of g4))
        · simp only [up_app]
          repeat rw [if_neg (by omega)]
          exact hr j hj h5 h6
        · rfl
      · simp (maxSteps := 2000000) only [GO, GO2, evK, fillV, setR, binV, intOp, strOp, shOp, unV, getR, lenV, partV, V.nj, V.njL, V.cells, Nat.reduceLT, Nat.reduceEqDiff, Nat.reduceAdd, ↓reduceIte, Nat.reduceLeDiff, reduceCtorEq, Bool.not_false]
        exact stop _ h4 hst
  have outer : ∀ (r pre : List Sg) (k : Nat) (ρ : Nat → V) (h1 : H), sgs = pre ++ r → chain r k nx → Inv k h1 → ρ 0 = .yield l → ρ 7 = sv → ρ 8 = .int .i64 sgs.length → ρ 9 = .int .i64 pre.length →
      XL P E none 32 b41_8 [.b 0] ρ h1 (Fin [] fun _ h' => Inv nx h' ∨ Stp h') := by
    intro r
    induction r with
    | nil =>
      intro pre k ρ h1 hsp hch inv q0 q7 q8 q9
      have hke : ¬ pre.length < sgs.length := by rw [hsp]; simp
      simp only [chain] at hch
      rw [u41_8]
      simp (maxSteps := 2000000) only [GO, GO2, evK, fillV, setR, binV, intOp, strOp, shOp, unV, getR, lenV, partV, V.nj, V.njL, V.cells, Nat.reduceLT, Nat.reduceEqDiff, Nat.reduceAdd, ↓reduceIte, Nat.reduceLeDiff, reduceCtorEq, q8, q9, Int.ofNat_lt, hke]
      exact .inl (hch ▸ inv)
    | cons s r ih =>
      intro pre k ρ h1 hsp hch inv q0 q7 q8 q9
      have hke : pre.length < sgs.length := by rw [hsp]; simp
      obtain ⟨hf, oks, hch2⟩ := hch
      have hat : sgs[pre.length] = s := by simp [hsp]
      obtain ⟨gt, hrs⟩ := hRd _ _ inv
      obtain ⟨b1, o1, c1, p1, cs, ty, op, ro, fz, hvb, hg1, hle, hcs⟩ := hrs.at hke
      rw [hat] at hcs
      have q7' := q7.trans hvb
      have hw : IntKind.i64.wrap ((pre.length : Int) + 1) = ((pre.length + 1 : Nat) : Int) := wrap_nat (n := pre.length + 1) (by omega)
      obtain ⟨p, c, o, hsv⟩ := vl_shape s.rb s.rs.length (fun h => by rw [oks.nn h]; rfl)
      obtain ⟨h2, e2, g2, k2, z2⟩ := put_fresh h1 (vs := [.int .i64 0, .slice none 0 0 false, .int .i64 0, .bool false]) (ws := s.cells) (ty := 74) rfl (by unfold Sg.cells; rw [hsv]; rfl) rfl
      have hx1 : s.cells[0 + 1]? = some (.slice p s.rs.length c o) := by unfold Sg.cells; rw [hsv]; rfl
      have hx1' : s.cells[1]? = some (.slice p s.rs.length c o) := hx1
      have hc4 : s.cells.length = 4 := rfl
      rw [u41_8]
      simp (maxSteps := 2000000) only [GO, GO2, evK, fillV, setR, binV, intOp, strOp, shOp, unV, getR, lenV, partV, V.nj, V.njL, V.cells, Nat.reduceLT, Nat.reduceEqDiff, Nat.reduceAdd, ↓reduceIte, Nat.reduceLeDiff, reduceCtorEq, q8, q9, Int.ofNat_lt, hke, r41_1, q7', Int.natCast_nonneg, Int.toNat_natCast, hg1, hle, hcs, hc4, e2, r41_2, g2, Nat.zero_add, hx1']
      refine inner s _ _ _ h1.size (by rw [hsp]; simp) ?_ ?_ ?_ ?_ ?_ ?_ s.rs.length 0 _ h2 rfl (Nat.zero_le _) (fun j _ _ _ => rfl) ?_ ?_ g2
      · exact q0
      · rfl
      · exact hsv.symm
      · rfl
      · intro ρ' h' hr inv'
        have y0 := (hr 0 (by decide) (by decide) (by decide)).trans q0
        have y7 := (hr 7 (by decide) (by decide) (by decide)).trans q7
        have y8 := (hr 8 (by decide) (by decide) (by decide)).trans q8
        have y9 := (hr 9 (by decide) (by decide) (by decide)).trans q9
        simp (maxSteps := 2000000) only [GO, GO2, evK, fillV, setR, binV, intOp, strOp, shOp, unV, getR, lenV, partV, V.nj, V.njL, V.cells, Nat.reduceLT, Nat.reduceEqDiff, Nat.reduceAdd, ↓reduceIte, Nat.reduceLeDiff, reduceCtorEq, y9, r41_7, hw]
        refine ih (pre ++ [s]) (k + s.rs.length) _ h' (by rw [hsp]; simp) hch2 (hf ▸ inv') ?_ ?_ ?_ ?_
        · exact y0
        · exact y7
        · exact y8
        · rw [show (pre ++ [s]).length = pre.length + 1 by simp]; rfl
      · intro T' h' hst
        rw [Fin_ret]; simp (maxSteps := 2000000) only [GO, GO2, evK, fillV, setR, binV, intOp, strOp, shOp, unV, getR, lenV, partV, V.nj, V.njL, V.cells, Nat.reduceLT, Nat.reduceEqDiff, Nat.reduceAdd, ↓reduceIte, Nat.reduceLeDiff, reduceCtorEq]; exact .inr hst
      · rfl
      · exact hKp _ _ _ (by rw [hf, Nat.add_zero]; exact inv) k2
  obtain ⟨gt, hrs⟩ := hRd _ _ h0
  obtain ⟨p, c, o, hsv, _⟩ := hrs
  refine Sp_fn F.f41 F.p41 (by simp [fn41]) ?_
  rw [hsv] at gt outer
  simp (maxSteps := 2000000) only [GO, GO2, evK, fillV, setR, binV, intOp, strOp, shOp, unV, getR, lenV, partV, V.nj, V.njL, V.cells, Nat.reduceLT, Nat.reduceEqDiff, Nat.reduceAdd, ↓reduceIte, Nat.reduceLeDiff, reduceCtorEq, fn41, c41, r41_0, gt]
  refine outer sgs [] a _ h rfl hc h0 ?_ ?_ ?_ ?_
  · rfl
  · rfl
  · rfl
  · rfl
end Go.AM.Wc
/-! First. -/
namespace Go.AM.Wc
open Go.AM
variable {P : Program} {E : Env} {T : H → Prop}
theorem F74.set {h : H} {i : Nat} {o : Obj} (hg : h.get i = some o) (hn : ∀ vs op ro fz, o ≠ .cells vs 74 op ro fz) (o' : Obj) : F74 h (h.set i o') := by
  intro j vs op ro fz hj
  rw [hset_other (H.get_lt hg) (by rintro rfl; rw [hg] at hj; exact hn _ _ _ _ (Option.some.inj hj))]
  exact hj
theorem F74.trans {h1 h2 h3 : H} (a : F74 h1 h2) (b : F74 h2 h3) : F74 h1 h3 := fun i vs op ro fz hg => b _ _ _ _ _ (a _ _ _ _ _ hg)
structure I10 (h h1 : H) (b2 l tb : Nat) (sv' : V) (sgs : List Sg) (o : Obj) (x : Int) : Prop where
  kp : Kp h h1
  gl : h1.get l = some o
  gb : h1.get b2 = some (.cells [.int .i64 x] 2 false false none)
  gt : h1.get tb = some (.cells [sv'] 66 false false none)
  cl : Cl h1 sv' sgs
theorem I10.keep {h h1 h2 : H} {b2 l tb : Nat} {sv' : V} {sgs : List Sg} {o : Obj} {x : Int} (a : I10 h h1 b2 l tb sv' sgs o x) (k : Kp h1 h2) : I10 h h2 b2 l tb sv' sgs o x :=
  ⟨Kp.trans a.kp k, k.of a.gl, k.of a.gb, k.of a.gt, a.cl.fr (F74.kp k)⟩
set_option maxHeartbeats 1000000 in
theorem first10 (F : Fw P E T) {h : H} {lb bd : Nat} {sv : V} {a nx : Nat} {sy : Int} {br : Bool} {sgs : List Sg} (gl : h.get lb = some (lgO bd sv nx sy br)) (hv : Rs h sv sgs) (hc : chain sgs a nx) (hm : nx ≤ 1000000000000) :
    Sp P E (.func 10 [] []) [.ptr (some (lb, 0))] h fun r h' => r = .int .i64 (a : Nat) ∧ Kp h h' := by
  have hnl := chain_len hc
  have k1 : Kp h (h.psh (.cells [.int .i64 0] 2 false false none)) := Keeps.psh (Nat.le_refl _) _
  have g1 := psh_same h (.cells [.int .i64 0] 2 false false none)
  have s1 := psh_size h (.cells [.int .i64 0] 2 false false none)
  refine Sp_fn F.f10 F.p10 (by simp [fn10]) ?_
  simp (maxSteps := 2000000) only [GO, GO2, evK, fillV, setR, binV, intOp, strOp, shOp, unV, getR, lenV, partV, V.nj, V.njL, V.cells, Nat.reduceLT, Nat.reduceEqDiff, Nat.reduceAdd, ↓reduceIte, Nat.reduceLeDiff, reduceCtorEq, fn10, c10]
  generalize h.psh (.cells [.int .i64 0] 2 false false none) = h1 at *
  simp (maxSteps := 2000000) only [GO, GO2, evK, fillV, setR, binV, intOp, strOp, shOp, unV, getR, lenV, partV, V.nj, V.njL, V.cells, Nat.reduceLT, Nat.reduceEqDiff, Nat.reduceAdd, ↓reduceIte, Nat.reduceLeDiff, reduceCtorEq, r10_0]
  refine XC_of (records14 F (k1.of gl) (hv.kp k1) (by omega)) ?_
  rintro _ h2 ⟨tb, sv', rfl, htb, gt2, cl2, k2⟩
  have g2 := k2.of g1
  simp (maxSteps := 2000000) only [GO, GO2, evK, fillV, setR, binV, intOp, strOp, shOp, unV, getR, lenV, partV, V.nj, V.njL, V.cells, Nat.reduceLT, Nat.reduceEqDiff, Nat.reduceAdd, ↓reduceIte, Nat.reduceLeDiff, reduceCtorEq]
  refine X_range (by rw [ev_t (by decide)]; rfl) rfl ?_
  generalize hρ : (up (up (up (argF [V.ptr (some (lb, 0))]) 2 (V.ptr (some (h.size, 0)))) 4 (V.ptr (some (lb, 0)))) 5 (V.func 41 [] [V.ptr (some (tb, 0))])) = ρ at *
  have w0 : ρ 0 = .ptr (some (lb, 0)) := by rw [← hρ]; rfl
  have w2 : ρ 2 = .ptr (some (h.size, 0)) := by rw [← hρ]; rfl
  have kL : Kp h2 (h2.psh (.loop .ready none (toL 11 ρ) [6, 7] a10_1 b10_3)) := Keeps.psh (Nat.le_refl _) _
  have glL := psh_same h2 (.loop .ready none (toL 11 ρ) [6, 7] a10_1 b10_3)
  have k12 := Kp.trans k1 k2
  have hl2 : h.size < h2.size := H.get_lt g2
  have noc : ∀ (st : LoopState) (pe : Option C) (vs : List V) (op ro : Bool) (fz : Option Nat), Obj.loop st pe (toL 11 ρ) [6, 7] a10_1 b10_3 ≠ .cells vs 74 op ro fz := by intro _ _ _ _ _ _ e; cases e
  have i0 : I10 h (h2.psh (.loop .ready none (toL 11 ρ) [6, 7] a10_1 b10_3)) h.size h2.size tb sv' sgs (.loop .ready none (toL 11 ρ) [6, 7] a10_1 b10_3) 0 :=
    ⟨Kp.trans k12 kL, glL, kL.of g2, kL.of gt2, cl2.fr (F74.kp kL)⟩
  refine Sp.mono (iter41 F (l := h2.size) (tb := tb) (sv := sv') hc hm
    (fun k h' => k = a ∧ I10 h h' h.size h2.size tb sv' sgs (.loop .ready none (toL 11 ρ) [6, 7] a10_1 b10_3) 0)
    (fun h' => I10 h h' h.size h2.size tb sv' sgs (.loop .done (some .ret) (toL 11 ρ) [6, 7] a10_1 b10_3) a) ?_ ?_ ?_ ?_) ?_
  · rintro k h4 h5 ⟨hk, i4⟩ k45
    exact ⟨hk, i4.keep k45⟩
  · rintro k h4 ⟨hk, i4⟩
    exact ⟨i4.gt, hv.cl i4.kp i4.cl⟩
  · rintro k h4 r hk1 hk2 ⟨rfl, i4⟩
    refine Sp_yield (pend' := none) i4.gl rfl (zip2 _ _ _ _ _ _) ?_
    have gB : h4.get h2.size = some (.loop .ready none (toL 11 ρ) [6, 7] a10_1 b10_3) := i4.gl
    have hlt := H.get_lt gB
    have glB := hset_same hlt (.loop .busy none (toL 11 ρ) [6, 7] a10_1 b10_3)
    have fB := F74.set gB (noc _ _) (.loop .busy none (toL 11 ρ) [6, 7] a10_1 b10_3)
    have kB : Kp h (h4.set h2.size (.loop .busy none (toL 11 ρ) [6, 7] a10_1 b10_3)) := Keeps.trans (n := h.size) i4.kp (Keeps.set hlt (by omega) _)
    have gbB : (h4.set h2.size (.loop .busy none (toL 11 ρ) [6, 7] a10_1 b10_3)).get h.size = some (.cells [.int .i64 0] 2 false false none) := by
      rw [hset_other hlt (by omega)]; exact i4.gb
    have gtB : (h4.set h2.size (.loop .busy none (toL 11 ρ) [6, 7] a10_1 b10_3)).get tb = some (.cells [sv'] 66 false false none) := by
      rw [hset_other hlt (by rintro rfl; have := i4.gt; rw [gB] at this; cases this)]; exact i4.gt
    have clB := i4.cl.fr fB
    have nocB := noc .busy none
    have htl : tb ≠ h2.size := by rintro rfl; have := i4.gt; rw [gB] at this; cases this
    have i4k := i4.kp
    clear i0 i4 glL kL noc
    generalize hbz : Obj.loop .busy none (toL 11 ρ) [6, 7] a10_1 b10_3 = bz at *
    generalize hrz : Obj.loop .ready none (toL 11 ρ) [6, 7] a10_1 b10_3 = rz at *
    generalize hdz : Obj.loop .done (some .ret) (toL 11 ρ) [6, 7] a10_1 b10_3 = dz at *
    simp (maxSteps := 2000000) only [GO, GO2, evK, fillV, setR, binV, intOp, strOp, shOp, unV, getR, lenV, partV, V.nj, V.njL, V.cells, Nat.reduceLT, Nat.reduceEqDiff, Nat.reduceAdd, ↓reduceIte, Nat.reduceLeDiff, reduceCtorEq, a10_1]
    refine ⟨gB, _, rfl, ?_⟩
    generalize h4.set h2.size bz = hB at *
    have e4 := put_at (ws := [.int .i64 (k : Int)]) (o := 0) gbB (by simp) rfl rfl
    have hset : setR [V.int .i64 0] 0 [.int .i64 (k : Int)] = [.int .i64 (k : Int)] := rfl
    rw [hset] at e4
    have hltb := H.get_lt gbB
    have fN := F74.set gbB (by intro _ _ _ _ e; cases e) (.cells [.int .i64 (k : Int)] 2 false false none)
    have gbN := hset_same hltb (.cells [.int .i64 (k : Int)] 2 false false none)
    have glN : (hB.set h.size (.cells [.int .i64 (k : Int)] 2 false false none)).get h2.size = some bz := by
      rw [hset_other hltb (by omega)]; exact glB
    have gtN : (hB.set h.size (.cells [.int .i64 (k : Int)] 2 false false none)).get tb = some (.cells [sv'] 66 false false none) := by
      rw [hset_other hltb (by rintro rfl; rw [gbB] at gtB; cases gtB)]; exact gtB
    have kN : Kp h (hB.set h.size (.cells [.int .i64 (k : Int)] 2 false false none)) := Keeps.trans (n := h.size) kB (Keeps.set hltb (Nat.le_refl _) _)
    have clN := clB.fr fN
    simp (maxSteps := 2000000) only [GO, GO2, evK, fillV, setR, binV, intOp, strOp, shOp, unV, getR, lenV, partV, V.nj, V.njL, V.cells, Nat.reduceLT, Nat.reduceEqDiff, Nat.reduceAdd, ↓reduceIte, Nat.reduceLeDiff, reduceCtorEq, b10_3, r10_2, w2, e4]
    refine ⟨glN, ?_⟩
    generalize hB.set h.size (.cells [.int .i64 (k : Int)] 2 false false none) = hN at *
    have hltl := H.get_lt glN
    have fD := F74.set glN nocB dz
    refine ⟨(fB.trans fN).trans fD, .inr ⟨Keeps.trans (n := h.size) kN (Keeps.set hltl (by omega) _), hset_same hltl _, ?_, ?_, clN.fr fD⟩⟩
    · rw [hset_other hltl (by omega)]; exact gbN
    · rw [hset_other hltl (Ne.symm htl)]; exact gtN
  · exact ⟨rfl, i0⟩
  · rintro _ h4 (⟨rfl, i4⟩ | i4)
    · refine ⟨_, _, _, _, _, _, i4.gl, by decide, fun oe hoe => ?_⟩
      have hlt := H.get_lt i4.gl
      have kE : Kp h (h4.set h2.size oe) := Keeps.trans (n := h.size) i4.kp (Keeps.set hlt (by omega) _)
      have gbE : (h4.set h2.size oe).get h.size = some (.cells [.int .i64 0] 2 false false none) := by
        rw [hset_other hlt (by omega)]; exact i4.gb
      generalize h4.set h2.size oe = hE at *
      have e4 := put_at (ws := [.int .i64 (nx : Int)]) (o := 0) gbE (by simp) rfl rfl
      have hset : setR [V.int .i64 0] 0 [.int .i64 (nx : Int)] = [.int .i64 (nx : Int)] := rfl
      rw [hset] at e4
      have hltb := H.get_lt gbE
      have g6 := hset_same hltb (.cells [.int .i64 (nx : Int)] 2 false false none)
      simp only
      simp (maxSteps := 2000000) only [GO, GO2, evK, fillV, setR, binV, intOp, strOp, shOp, unV, getR, lenV, partV, V.nj, V.njL, V.cells, Nat.reduceLT, Nat.reduceEqDiff, Nat.reduceAdd, ↓reduceIte, Nat.reduceLeDiff, reduceCtorEq, r10_4, w0]
      refine XC_of (next11 F (kE.of gl)) ?_
      rintro _ hx ⟨rfl, e2⟩
      rw [e2]
      clear e2 hx
      simp (maxSteps := 2000000) only [GO, GO2, evK, fillV, setR, binV, intOp, strOp, shOp, unV, getR, lenV, partV, V.nj, V.njL, V.cells, Nat.reduceLT, Nat.reduceEqDiff, Nat.reduceAdd, ↓reduceIte, Nat.reduceLeDiff, reduceCtorEq, w2, e4]
      rw [resVs_c (L := 11) (a := 2) (i := h.size) (o := 0) (by decide) _ ?hp, g6, resVs_nil]
      case hp => exact w2
      exact ⟨rfl, Keeps.trans (n := h.size) kE (Keeps.set hltb (Nat.le_refl _) _)⟩
    · refine ⟨_, _, _, _, _, _, i4.gl, by decide, fun oe hoe => ?_⟩
      have hlt := H.get_lt i4.gl
      have kE : Kp h (h4.set h2.size oe) := Keeps.trans (n := h.size) i4.kp (Keeps.set hlt (by omega) _)
      have gbE : (h4.set h2.size oe).get h.size = some (.cells [.int .i64 (a : Int)] 2 false false none) := by
        rw [hset_other hlt (by omega)]; exact i4.gb
      generalize h4.set h2.size oe = hE at *
      simp only
      rw [XQ_ret_all, Fin_ret, resVs_c (L := 11) (a := 2) (i := h.size) (o := 0) (by decide) _ ?hp, gbE, resVs_nil]
      case hp => exact w2
      exact ⟨rfl, kE⟩
end Go.AM.Wc
