/- Part 26 of the proof: the tools and contracts. Conditions: none. -/
import Derived.Test.YthnfcdkiaihfcaaGreatP25
import Derived.Test.YthnfcdkiaihfcaaGreatProg
set_option maxRecDepth 100000
set_option linter.unusedVariables false
namespace Go.Lift
open Go Go.Proofs
def cert5 : Nat → Option Cert := fun
  | 9 => some ⟨[0, 1], (.alt (.one 2 (.one 3 (.one 4 (.one 5 .done)))) (.one 3 (.one 2 (.one 4 (.one 5 .done))))), [[], [], [], [], [0, 2, 3], [0, 1, 2, 3, 4]]⟩
  | 13 => some ⟨[0, 1, 2, 3, 4, 5, 6, 7, 8, 9], .done, [[], [0], [], [0, 1, 2], [0, 1, 2, 3], [0, 1, 2, 3, 4], [0, 1, 2, 3, 4, 5], [0, 1, 2, 3, 4, 5], [0, 1, 2, 3, 4, 5, 6], [0, 1, 2, 3, 4, 5, 6, 7, 8]]⟩
  | 14 => some ⟨[0, 1, 2, 3, 4, 5, 6, 8, 9], (.one 7 (.one 10 (.one 11 (.one 12 (.one 13 (.alt (.one 14 (.alt (.one 15 (.one 16 (.one 17 .done))) (.one 16 (.one 15 (.one 17 .done))))) (.one 15 (.one 14 (.one 16 (.one 17 .done)))))))))), [[], [0], [], [2], [0, 1, 2, 3], [], [5], [0, 1, 2, 3, 4, 5, 6], [], [8], [0, 1, 2, 3, 4, 5, 6, 7, 8, 9], [0, 1, 2, 3, 4, 5, 6, 7, 8, 9, 10], [0, 1, 2, 3, 4, 5, 6, 7, 8, 9, 10, 11], [0, 1, 2, 3, 4, 5, 6, 7, 8, 9, 10, 11, 12], [0, 1, 2, 3, 4, 5, 6, 7, 8, 9, 10, 11, 12, 13], [0, 1, 2, 3, 4, 5, 6, 7, 8, 9, 10, 11, 12, 13], [0, 1, 2, 3, 4, 5, 6, 7, 8, 9, 10, 11, 12, 13, 14], [0, 1, 2, 3, 4, 5, 6, 7, 8, 9, 10, 11, 12, 13, 14, 15, 16]]⟩
  | 15 => some ⟨[0, 1, 2, 3, 4, 5, 6, 7, 8, 9], .done, [[], [0], [], [0, 1, 2], [0, 1, 2, 3], [0, 1, 2, 3, 4], [0, 1, 2, 3, 4, 5], [0, 1, 2, 3, 4, 5], [0, 1, 2, 3, 4, 5, 6], [0, 1, 2, 3, 4, 5, 6, 7, 8]]⟩
  | _ => none
def ac5 : ACode :=(.seq (.ops [uO 5 .box 0, oA 10 .mov [kF]]) (.seq (.ops [uO 26 lT9 5, uO 27 (.call 25) 26, uM 11 27]) (.seq (.seq (.ops [uO 28 lT9 5, uO 29 (.call 35) 28, uO 30 .not 29, uM 31 30, gM 32 11 31 false, oG 33 bL [.t 32, (kI 2)] 31 false, oA 34 .pick [.t 31, kT, .t 33], uM 35 34, gO 36 fA6 5 35 false, gO 37 lF 36 35 false, gO 38 .len 37 35 false, oG 39 (.bin .gtr) [.t 38, (kI 5)] 35 false, oA 40 .pick [.t 35, kT, .t 39], uM 41 40, gO 42 fA7 5 41 false, gO 43 lF 42 41 false, gO 44 .len 43 41 false, oG 45 (.bin .gtr) [.t 44, (kI 3)] 41 false, oA 46 .pick [.t 41, kT, .t 45]]) (.cond (.t 46) (.seq (.ops [oA 47 (.call 20) [], uM 10 47]) .ret) .skip)) (.seq (.ops [uM 48 4, uO 49 (.conv .i64) 48, uO 50 fA5 5, uO 51 lF 50, oA 52 bA [.t 51, (kI 1)], uB 53 (.bin .rem) 49 52, uM 12 53]) (.seq (.ops [uM 54 2, uO 55 (.conv .i64) 54, uM 56 11, uB 57 (.bin .rem) 55 56, uM 13 57]) (.seq (.ops [uM 58 13, oA 59 bA [.t 58, (kI 1)], uM 60 3, uO 61 (.conv .i64) 60, uM 62 11, oA 63 (.bin .sub) [.t 62, (kI 1)], uB 64 (.bin .rem) 61 63, uB 65 bA 59 64, uM 66 11, uB 67 (.bin .rem) 65 66, uM 14 67]) (.seq (.ops [uO 68 lT9 5, uO 69 (.call 36) 68, uM 15 69]) (.seq (.ops [uM 70 15, uM 71 1, uO 72 (.conv .i64) 71, uM 73 15, uO 74 .len 73, uB 75 (.bin .rem) 72 74, uB 76 (.idxaddr 2) 70 75, uO 77 lT2 76, oA 16 (.alloc [.emp, .emp]) [], oZ (.store 2) [.t 16, .t 77]]) (.seq (.draw [(true, uO 78 lT9 5), (true, uO 79 lT9 5)] (.alt (.one (oA 17 (.alloc z9) []) [uO 78 lT9 5, uO 79 lT9 5] (.one (oA 18 (.alloc z9) []) [uO 78 lT9 5, uO 79 lT9 5] (.one (oZ (.store 9) [.t 17, .t 78]) [uO 79 lT9 5] (.one (oZ (.store 9) [.t 18, .t 79]) [] .done)))) (.one (oA 18 (.alloc z9) []) [uO 78 lT9 5, uO 79 lT9 5] (.one (oA 17 (.alloc z9) []) [uO 78 lT9 5, uO 79 lT9 5] (.one (oZ (.store 9) [.t 17, .t 78]) [uO 79 lT9 5] (.one (oZ (.store 9) [.t 18, .t 79]) [] .done)))))) (.seq (.ops [uO 80 fA8 17, oZ (.store 1) [.t 80, kE], uO 81 fA8 18, oZ (.store 1) [.t 81, kE]]) (.seq (.ops [oA 82 (.bslice 4) [], uO 83 fA6 5, uO 84 lF 83, uB 85 (.append 4 32) 82 84, uM 86 13, uM 87 14, uM 88 12, uM 89 12, uB 90 (.build [(.int .i64 0), (.int .i64 0)] [(0, 1), (1, 1)]) 88 89, oA 91 (.build [(.int .i64 0), (.int .i64 0), (.int .i64 0), (.int .i64 0)] [(0, 1), (1, 1), (2, 2)]) [.t 86, .t 87, .t 90], uO 92 (.bslice 4) 91, uB 93 (.append 4 32) 85 92, uO 94 fA6 17, oZ (.store 1) [.t 94, .t 93]]) (.seq (.ops [oA 95 (.bslice 2) [], uO 96 fA7 5, uO 97 lF 96, uB 98 (.append 2 16) 95 97, uM 99 13, uM 100 12, uB 101 (.build [(.int .i64 0), (.int .i64 0)] [(0, 1), (1, 1)]) 99 100, uO 102 (.bslice 2) 101, uB 103 (.append 2 16) 98 102, uO 104 fA7 18, oZ (.store 1) [.t 104, .t 103]]) (.seq (.draw [(false, uO 106 lT9 5), (false, uO 107 (.call 22) 106), (false, uO 108 lT2 16), (false, uO 109 (.call 38) 108), (false, uB 110 (.call 37) 107 109), (false, uM 105 110), (false, uO 111 x0 105), (false, uO 112 x1 105), (false, uM 19 111), (false, uM 20 112)] .done) (.seq (.draw [(false, uO 114 lT9 17), (false, uO 115 (.call 22) 114), (false, uO 116 fA0 16), (false, uO 117 lF 116), (false, uO 118 (.call 39) 117), (false, uO 119 fA1 16), (false, uO 120 lF 119), (true, uM 122 12), (true, uO 123 (.bslice 1) 122)] (.one (uO 121 (.call 39) 120) [] (.one (uB 124 (.append 1 8) 121 123) [] (.one (uB 125 (.build [.emp, .emp] [(0, 1), (1, 1)]) 118 124) [] (.one (uB 126 (.call 37) 115 125) [] (.one (uM 113 126) [] (.alt (.one (uO 127 x0 113) [] (.alt (.one (uO 128 x1 113) [] (.one (uM 21 127) [] (.one (uM 22 128) [] .done))) (.one (uM 21 127) [] (.one (uO 128 x1 113) [] (.one (uM 22 128) [] .done))))) (.one (uO 128 x1 113) [] (.one (uO 127 x0 113) [] (.one (uM 21 127) [] (.one (uM 22 128) [] .done))))))))))) (.seq (.draw [(false, uO 130 lT9 18), (false, uO 131 (.call 22) 130), (false, uO 132 lT2 16), (false, uO 133 (.call 38) 132), (false, uB 134 (.call 37) 131 133), (false, uM 129 134), (false, uO 135 x0 129), (false, uO 136 x1 129), (false, uM 23 135), (false, uM 24 136)] .done) (.seq (.seq (.ops [uM 137 20, oA 138 bN [.t 137, (kI 0)], uM 139 138, gM 140 22 139 false, oG 141 bN [.t 140, (kI 0)] 139 false, oA 142 .pick [.t 139, kT, .t 141], uM 143 142, gM 144 24 143 false, oG 145 bN [.t 144, (kI 0)] 143 false, oA 146 .pick [.t 143, kT, .t 145], uM 147 146, gM 148 23 147 false, gO 149 .len 148 147 false, gM 150 11 147 false, gB 151 (.bin .gtr) 149 150 147 false, oA 152 .pick [.t 147, kT, .t 151]]) (.cond (.t 152) (.seq (.ops [oA 10 .mov [kF]]) .ret) .skip)) (.seq (.seq (.ops [oA 25 .mov [(kI 0)]]) (.block 0 (.loop (.seq (.seq (.ops [uM 153 25, uM 154 11, uB 155 bL 153 154]) (.cond (.t 155) .skip (.exit 0))) (.seq (.block 1 (.seq (.ops [uM 158 19, uM 159 25, uB 160 (.call 40) 158 159, uM 161 160, gM 162 21 161 true, gM 163 25 161 true, gB 164 (.call 40) 162 163 161 true, gO 165 .not 164 161 true, oA 166 .pick [.t 161, .t 165, kF], uM 167 166, gM 168 23 167 false, gM 169 25 167 false, gB 170 (.call 40) 168 169 167 false, gM 171 170 167 false, gM 172 19 171 true, gM 173 25 171 true, gB 174 (.call 40) 172 173 171 true, gO 175 .not 174 171 true, oG 176 .pick [.t 171, .t 175, kF] 167 false, oA 177 .pick [.t 167, kT, .t 176]]) (.cond (.t 177) (.seq (.ops [oA 10 .mov [kF]]) .ret) .skip))) (.ops [uM 156 25, oA 157 bA [.t 156, (kI 1)], uM 25 157])))))) (.seq (.ops [oA 178 (.call 20) [], uM 10 178]) .ret))))))))))))))))))
theorem fc5 : fnC Tryz.prog 5 cert5 = some (179, [.tmp 10], ac5) := by kernel_rfl
end Go.Lift
set_option maxRecDepth 100000
set_option linter.unusedVariables false
namespace Go.Lift
open Go Go.Proofs
def cert36 : Nat → Option Cert := fun
  | 9 => some ⟨[0, 1, 2, 3, 4, 5, 6, 7, 8, 9], (.one 10 (.one 11 .done)), [[], [], [], [1, 2], [1, 2, 3], [], [], [5, 6], [1, 2, 3, 4, 5, 6, 7], [1, 2, 3, 4, 5, 6, 7, 8], [0, 1, 2, 3, 4, 5, 6, 7, 8, 9], [0, 1, 2, 3, 4, 5, 6, 7, 8, 9, 10]]⟩
  | _ => none
def ac36 : ACode :=(.seq (.ops [uO 1 .box 0, oA 2 .mov [kE]]) (.seq (.ops [oA 3 .mov [kE]]) (.seq (.ops [uO 7 fA0 1, uO 8 lT3 7, uO 9 (.call 88) 8, uM 4 9]) (.seq (.seq (.ops [oA 5 .mov [(kI 0)]]) (.block 0 (.loop (.seq (.seq (.ops [uM 10 5, uM 11 4, uO 12 .len 11, uB 13 bL 10 12]) (.cond (.t 13) .skip (.exit 0))) (.seq (.block 1 (.seq (.ops [oA 6 .mov [(kI 0)]]) (.block 2 (.loop (.seq (.seq (.ops [uM 16 6, uO 17 lT9 1, uO 18 (.call 89) 17, uB 19 bL 16 18]) (.cond (.t 19) .skip (.exit 2))) (.seq (.block 3 (.draw [(false, uM 22 3), (false, uM 23 4), (false, uM 24 5), (false, uB 25 (.idxaddr 1) 23 24), (false, uO 26 lF 25), (false, uO 27 lT9 1), (false, uM 28 6), (false, uB 29 (.call 90) 27 28), (false, uB 30 (.build [.emp, .emp] [(0, 1), (1, 1)]) 26 29), (false, uO 31 (.bslice 2) 30)] (.one (uB 32 (.append 2 48) 22 31) [] (.one (uM 3 32) [] .done)))) (.ops [uM 20 6, oA 21 bA [.t 20, (kI 1)], uM 6 21]))))))) (.ops [uM 14 5, oA 15 bA [.t 14, (kI 1)], uM 5 15])))))) (.seq (.ops [uM 33 3, uM 2 33]) .ret)))))
theorem fc36 : fnC Tryz.prog 36 cert36 = some (34, [.tmp 2], ac36) := by kernel_rfl
end Go.Lift
set_option maxRecDepth 100000
set_option linter.unusedVariables false
namespace Go.Lift
open Go Go.Proofs
def cert90 : Nat → Option Cert := fun
  | 7 => some ⟨[0, 1, 2, 3, 4, 5, 6, 7], (.one 8 (.one 9 .done)), [[], [], [1], [], [], [3, 4], [1, 2, 3, 4, 5], [1, 2, 3, 4, 5, 6], [0, 1, 2, 3, 4, 5, 6, 7], [0, 1, 2, 3, 4, 5, 6, 7, 8]]⟩
  | _ => none
def ac90 : ACode :=(.seq (.ops [uO 2 .box 0, oA 4 .mov [kE]]) (.seq (.ops [oA 5 .mov [kE]]) (.seq (.seq (.ops [oA 6 .mov [(kI 0)]]) (.block 0 (.loop (.seq (.seq (.ops [uM 9 6, uO 10 fA6 2, uO 11 lF 10, uO 12 .len 11, uB 13 bL 9 12]) (.cond (.t 13) .skip (.exit 0))) (.seq (.block 1 (.seq (.ops [uO 16 fA6 2, uO 17 lF 16, uM 18 6, uB 19 (.idxaddr 4) 17 18, uO 20 fA2 19, uO 21 lT2 20, oA 7 (.alloc [(.int .i64 0), (.int .i64 0)]) [], oZ (.store 2) [.t 7, .t 21]]) (.seq (.ops [uO 22 fA1 7, uO 23 lF 22, uO 24 fA0 7, uO 25 lF 24, uB 26 (.bin .sub) 23 25, oA 27 bA [.t 26, (kI 1)], uM 8 27]) (.seq (.draw [(false, uM 28 5), (false, uO 29 fA0 7), (false, uO 30 lF 29), (false, uM 31 1), (false, uM 32 8), (false, uB 33 (.bin .rem) 31 32), (false, uB 34 bA 30 33), (false, uO 35 (.bslice 1) 34)] (.one (uB 36 (.append 1 8) 28 35) [] (.one (uM 5 36) [] .done))) (.ops [uM 37 1, uM 38 8, uB 39 (.bin .quo) 37 38, uM 1 39]))))) (.ops [uM 14 6, oA 15 bA [.t 14, (kI 1)], uM 6 15])))))) (.seq (.ops [uM 40 5, uM 4 40]) .ret))))
theorem fc90 : fnC Tryz.prog 90 cert90 = some (41, [.tmp 4], ac90) := by kernel_rfl
end Go.Lift
set_option linter.unusedSimpArgs false
set_option linter.unusedVariables false
namespace Go.Lift
open Go Go.Proofs
def beforeL : List Int → List Int → Bool
  | a :: xs, b :: bs => if a = b then beforeL xs bs else decide (a < b)
  | [], bs => decide (0 < bs.length)
  | _ :: _, [] => false
def shorterL (a b : List Int) : Bool := decide (a.length < b.length) || (decide (a.length = b.length) && beforeL a b)
end Go.Lift

set_option linter.unusedSimpArgs false
set_option linter.unusedVariables false
namespace Go.Lift
open Go Go.Proofs
theorem pad6_get (l : List Int) (i : Nat) (h : i < l.length) : (pad6 l).getD i 0 = l[i] := by
  rw [pad6, List.getD_eq_getElem?_getD, List.getElem?_append_left h]; simp [h]
end Go.Lift

set_option linter.unusedSimpArgs false
set_option linter.unusedVariables false
namespace Go.Lift
open Go Go.Proofs
def eCr (c : Course) : List AV := [.slice (eI c.owners), .slice (eI c.hours)]
def eCL (l : List Course) : AV := .slice (l.map eCr)
end Go.Lift

set_option linter.unusedSimpArgs false
set_option linter.unusedVariables false
namespace Go.Lift
open Go Go.Proofs
def hrsGo (h : House) : Nat → Nat → Nat → List Int
  | 0, _, _ => []
  | k + 1, j, n => ((h.touches.getD j default).lo + ((n % hourN h j : Nat) : Int)) :: hrsGo h k (j + 1) (n / hourN h j)
def hrsOf (h : House) (n : Nat) : List Int := hrsGo h h.touches.length 0 n
theorem hours_c (h : House) (hv : HV h) (n : Nat) (hn : n < 2 ^ 62) : Pure Tryz.prog 90 [eH h, i6 n] (.slice (eI (hrsOf h n))) := by
  intro H
  have hm6 := hv.ok.touches
  refine fn_of hmix fc90 (by simp) ?_
  rw [ienv2]
  simp only [go_sem, reduceIte, reduceCtorEq, Nat.reduceEqDiff, Nat.reduceBEq, Nat.reduceAdd, Nat.reduceMul, Nat.reduceLeDiff, ac90, eH]
  refine v_box _ rfl fun b2 hb2 => ?_
  simp only [go_sem, reduceIte, reduceCtorEq, Nat.reduceEqDiff, Nat.reduceBEq, Nat.reduceAdd, Nat.reduceMul, Nat.reduceLeDiff]
  refine x_for h.touches.length (fun j env H1 => Ext H H1 ∧ H1 b2 = some (.box [.slice (h.table.women.map eW), .slice (h.table.pieces.map eP), i6 h.table.wrong, .slice (eI h.sick), i6 h.others, i6 h.last, .slice (h.touches.map eTo), .slice (h.boiled.map eB), .slice (h.signs.map eS)]) ∧ (∃ (out : List Int) (nk : Nat), nk < 2 ^ 62 ∧ out.length = j ∧ hrsOf h n = out ++ hrsGo h (h.touches.length - j) j nk ∧ Grown 1 H H1 (env 5) (eI out) ∧ env 1 = i6 nk) ∧ env 2 = .ptr b2 0 ∧ env 6 = i6 j ∧ env 41 = .any)
    ⟨(Ext.refl H).new hb2 _, updH_same _ _ _, ⟨[], n, hn, rfl, by simp [hrsOf], .inl ⟨by simp [upd_at], rfl⟩, by simp [upd_at]⟩, by simp [upd_at], by simp [upd_at], by simp [upd_at]⟩ ?_
  rintro j env H1 hj ⟨hE, hB, ⟨out, nk, hnk, hol, heq, hG, g1⟩, g2, g6, hN⟩
  by_cases hlt : (j : Int) < (h.touches.length : Int)
  · have hlt' : j < h.touches.length := by omega
    have hget : h.touches.getD j default = h.touches[j] := by simp [hlt']
    obtain ⟨t1, t2, t3⟩ := hv.tim _ (List.getElem_mem hlt')
    have hsz : h.touches[j].hi - h.touches[j].lo + 1 = ((hourN h j : Nat) : Int) := by rw [hourN, hget]; omega
    have hp : 1 ≤ hourN h j := by omega
    have hw1 := w64 (x := h.touches[j].hi - h.touches[j].lo) (by omega) (by omega)
    have hw2 : IntKind.i64.wrap (h.touches[j].hi - h.touches[j].lo + 1) = ((hourN h j : Nat) : Int) := by rw [w64 (by omega) (by omega), hsz]
    have hne : ¬ ((hourN h j : Nat) : Int) = 0 := by omega
    have hrem : (nk : Int).tmod ((hourN h j : Nat) : Int) = ((nk % hourN h j : Nat) : Int) := (Int.ofNat_tmod nk (hourN h j)).symm
    have hquo : (nk : Int).tdiv ((hourN h j : Nat) : Int) = ((nk / hourN h j : Nat) : Int) := (Int.ofNat_tdiv nk (hourN h j)).symm
    have hml : nk % hourN h j < hourN h j := Nat.mod_lt _ hp
    have hdl : nk / hourN h j < 2 ^ 62 := Nat.lt_of_le_of_lt (Nat.div_le_self _ _) hnk
    have hwd : IntKind.i64.wrap ((nk / hourN h j : Nat) : Int) = ((nk / hourN h j : Nat) : Int) := by
      generalize nk / hourN h j = q at hdl
      exact w64 (by omega) (by omega)
    have hwa : IntKind.i64.wrap (h.touches[j].lo + ((nk % hourN h j : Nat) : Int)) = h.touches[j].lo + ((nk % hourN h j : Nat) : Int) := by
      generalize nk % hourN h j = q at hml
      exact w64 (by omega) (by omega)
    simp only [go_sem, reduceIte, reduceCtorEq, Nat.reduceEqDiff, Nat.reduceBEq, Nat.reduceAdd, Nat.reduceMul, Nat.reduceLeDiff, g1, g2, g6, hN, hB, hlt, take_f', List.getElem?_cons_zero, map_get (f := eTo) hlt', eTo]
    refine v_alloc fun b7 hb7 => ?_
    have n27 : b2 ≠ b7 := fun h => by subst h; rw [hB] at hb7; cases hb7
    simp only [go_sem, reduceIte, reduceCtorEq, Nat.reduceEqDiff, Nat.reduceBEq, Nat.reduceAdd, Nat.reduceMul, Nat.reduceLeDiff, g1, g2, g6, hN]
    rw [v_store]
    refine ⟨rfl, rfl, by simp [AV.cells, AV.isCell], _, updH_same _ _ _, by simp, ?_⟩
    have hE7 : ∀ o1 o2, Ext H (updH (updH H1 b7 o1) b7 o2) := fun o1 o2 => (hE.new hb7 _).upd (hE.isNone hb7) _
    have hG7 : ∀ cs o2, Grown 1 H (updH (updH H1 b7 (.box cs)) b7 o2) (env 5) (eI out) := fun cs o2 => (hG.new hb7 (.box cs)).store (updH_same _ _ _) o2
    simp only [go_sem, reduceIte, reduceCtorEq, Nat.reduceEqDiff, Nat.reduceBEq, Nat.reduceAdd, Nat.reduceMul, Nat.reduceLeDiff, g1, g2, g6, hN, placeAt, List.append_nil, List.nil_append, List.drop_nil, take_f', List.getElem?_cons_zero, List.getElem?_cons_succ, hw1, hw2, hne, hrem, hwa]
    refine v_append (hG7 _ _) (hE7 _ _) rfl (eI_good _) (one_good _) (one_cell _) (by simp; omega) (by simp; omega) ?_
    intro v' H2 hg' he' hk'
    have C2 : H2 b2 = some (.box [.slice (h.table.women.map eW), .slice (h.table.pieces.map eP), i6 h.table.wrong, .slice (eI h.sick), i6 h.others, i6 h.last, .slice (h.touches.map eTo), .slice (h.boiled.map eB), .slice (h.signs.map eS)]) := hk'.box (hG7 _ _) (by rw [updH_ne _ _ n27, updH_ne _ _ n27]; exact hB)
    simp only [go_sem, reduceIte, reduceCtorEq, Nat.reduceEqDiff, Nat.reduceBEq, Nat.reduceAdd, Nat.reduceMul, Nat.reduceLeDiff, g1, g2, g6, hN, hne, hquo, hwd, wsucc (show j < 4611686018427387904 by omega), hlt', C2]
    refine ⟨he', out ++ [h.touches[j].lo + ((nk % hourN h j : Nat) : Int)], nk / hourN h j, hdl, by simp [hol], ?_, by rw [eI_app]; exact hg', rfl⟩
    rw [heq, show h.touches.length - j = (h.touches.length - (j + 1)) + 1 by omega, hrsGo, hget, List.append_assoc]; rfl
  · simp only [go_sem, reduceIte, reduceCtorEq, Nat.reduceEqDiff, Nat.reduceBEq, Nat.reduceAdd, Nat.reduceMul, Nat.reduceLeDiff, g1, g2, g6, hN, hB, hlt, take_f', List.getElem?_cons_zero]
    have : j = h.touches.length := by omega
    subst this
    refine fin_ret 4 (by simp [upd_at, hN]) ⟨_, H, ?_, rfl, rfl⟩
    simp only [upd_at, if_true]
    rw [heq, Nat.sub_self, hrsGo, List.append_nil]
    exact hG.weaken hE
theorem eCr_good (l : List Course) : goodEls 2 (l.map eCr) := by
  intro e he; rw [List.mem_map] at he; obtain ⟨x, _, rfl⟩ := he; rfl
theorem eCr_cell (l : List Course) : cellEls (l.map eCr) := by
  intro e he x hx; rw [List.mem_map] at he; obtain ⟨y, _, rfl⟩ := he
  simp only [eCr, List.mem_cons, List.not_mem_nil, or_false] at hx
  rcases hx with rfl | rfl <;> rfl
def rowR (h : House) (j : Nat) (o : List Int) : List Course := (List.range j).map fun n => ⟨o, hrsOf h n⟩
def coursesR (h : House) : List Course := (truthsR h.table).flatMap (rowR h (timesR h h.touches.length))
theorem truthsR_size (t : Table) : (truthsR t).length ≤ 3000 := Nat.le_trans (ownersUpto_len t _) (Nat.min_le_left _ _)
theorem flat_len (h : House) (T : Nat) : ∀ l : List (List Int), (l.flatMap (rowR h T)).length = l.length * T
  | [] => by simp
  | o :: l => by rw [List.flatMap_cons, List.length_append, flat_len h T l, List.length_cons, Nat.add_mul]; simp [rowR]; omega
theorem coursesR_c (h : House) (hv : HV h) : Pure Tryz.prog 36 [eH h] (eCL (coursesR h)) := by
  intro H
  have hm6 := hv.ok.touches
  have hts := truthsR_size h.table
  have hT : timesR h h.touches.length ≤ 3000 := Nat.min_le_left _ _
  obtain ⟨tr, htr⟩ : ∃ tr, tr = truthsR h.table := ⟨_, rfl⟩
  obtain ⟨T, hTe⟩ : ∃ T, T = timesR h h.touches.length := ⟨_, rfl⟩
  refine fn_of hmix fc36 (by simp) ?_
  rw [ienv1]
  simp only [go_sem, reduceIte, reduceCtorEq, Nat.reduceEqDiff, Nat.reduceBEq, Nat.reduceAdd, Nat.reduceMul, Nat.reduceLeDiff, ac36, eH]
  refine v_box _ rfl fun b1 hb1 => ?_
  simp only [go_sem, reduceIte, reduceCtorEq, Nat.reduceEqDiff, Nat.reduceBEq, Nat.reduceAdd, Nat.reduceMul, Nat.reduceLeDiff]
  refine (truthsR_c h.table hv.ok.sm hv.tab).go ?_
  rw [coursesR, ← htr, ← hTe]
  rw [← htr] at hts
  simp only [go_sem, reduceIte, reduceCtorEq, Nat.reduceEqDiff, Nat.reduceBEq, Nat.reduceAdd, Nat.reduceMul, Nat.reduceLeDiff, eII]
  refine x_for tr.length (fun j env H1 => Ext H H1 ∧ H1 b1 = some (.box [.slice (h.table.women.map eW), .slice (h.table.pieces.map eP), i6 h.table.wrong, .slice (eI h.sick), i6 h.others, i6 h.last, .slice (h.touches.map eTo), .slice (h.boiled.map eB), .slice (h.signs.map eS)]) ∧ Grown 2 H H1 (env 3) (((tr.take j).flatMap (rowR h T)).map eCr) ∧ env 1 = .ptr b1 0 ∧ env 4 = .slice (tr.map fun x => [AV.slice (eI x)]) ∧ env 5 = i6 j ∧ env 34 = .any)
    ⟨(Ext.refl H).new hb1 _, updH_same _ _ _, .inl ⟨by simp [upd_at], rfl⟩, by simp [upd_at], by simp [upd_at], by simp [upd_at], by simp [upd_at]⟩ ?_
  rintro j env H1 hj ⟨hE, hB, hG, g1, g4, g5, hN⟩
  by_cases hlt : (j : Int) < (tr.length : Int)
  rotate_left
  · simp only [go_sem, reduceIte, reduceCtorEq, Nat.reduceEqDiff, Nat.reduceBEq, Nat.reduceAdd, Nat.reduceMul, Nat.reduceLeDiff, g1, g4, g5, hN, hlt]
    have : j = tr.length := by omega
    subst this
    refine fin_ret 2 (by simp [upd_at, hN]) ⟨_, H, ?_, rfl, rfl⟩
    simp only [upd_at, if_true]
    rw [List.take_length] at hG
    exact hG.weaken hE
  have hlt' : j < tr.length := by omega
  simp only [go_sem, reduceIte, reduceCtorEq, Nat.reduceEqDiff, Nat.reduceBEq, Nat.reduceAdd, Nat.reduceMul, Nat.reduceLeDiff, g1, g4, g5, hN, hlt]
  refine x_for T (fun n env H1 => Ext H H1 ∧ H1 b1 = some (.box [.slice (h.table.women.map eW), .slice (h.table.pieces.map eP), i6 h.table.wrong, .slice (eI h.sick), i6 h.others, i6 h.last, .slice (h.touches.map eTo), .slice (h.boiled.map eB), .slice (h.signs.map eS)]) ∧ Grown 2 H H1 (env 3) (((tr.take j).flatMap (rowR h T) ++ rowR h n tr[j]).map eCr) ∧ env 1 = .ptr b1 0 ∧ env 4 = .slice (tr.map fun x => [AV.slice (eI x)]) ∧ env 5 = i6 j ∧ env 6 = i6 n ∧ env 34 = .any)
    ⟨hE, hB, by simpa [upd_at, rowR] using hG, by simp [upd_at, g1], by simp [upd_at, g4], by simp [upd_at, g5], by simp [upd_at], by simp [upd_at, hN]⟩ ?_
  clear hE hB hG g1 g4 g5 hN hlt env H1
  rintro n env H1 hn ⟨hE, hB, hG, g1, g4, g5, g6, hN⟩
  simp only [go_sem, reduceIte, reduceCtorEq, Nat.reduceEqDiff, Nat.reduceBEq, Nat.reduceAdd, Nat.reduceMul, Nat.reduceLeDiff, g1, g4, g5, g6, hN, hB]
  refine (timesR_c h hm6 hv.tim).go ?_
  rw [← hTe]
  by_cases hlt : (n : Int) < (T : Int)
  · have hltn : n < T := by omega
    simp only [go_sem, reduceIte, reduceCtorEq, Nat.reduceEqDiff, Nat.reduceBEq, Nat.reduceAdd, Nat.reduceMul, Nat.reduceLeDiff, g1, g4, g5, g6, hN, hlt, hB, map_get (f := fun x : List Int => [AV.slice (eI x)]) hlt', take_f', List.getElem?_cons_zero]
    refine pgo_call (hours_c h hv n (by omega)) ?_
    have hsz : ((tr.take j).flatMap (rowR h T)).length ≤ 3000 * 3000 := by
      rw [flat_len]
      exact Nat.mul_le_mul (by simp; omega) (by omega)
    have hsr : (rowR h n tr[j]).length = n := by simp [rowR]
    simp only [go_sem, reduceIte, reduceCtorEq, Nat.reduceEqDiff, Nat.reduceBEq, Nat.reduceAdd, Nat.reduceMul, Nat.reduceLeDiff, bc36, Option.map_some, d_bsa]
    refine v_append hG hE rfl (eCr_good _) (eCr_good [⟨tr[j], hrsOf h n⟩]) (eCr_cell [⟨tr[j], hrsOf h n⟩]) (by simp only [List.length_map, List.length_append, hsr, List.length_cons, List.length_nil]; omega) (by simp only [List.length_map, List.length_append, hsr, List.length_cons, List.length_nil]; omega) ?_
    intro v' H2 hg' he' hk'
    simp only [go_sem, reduceIte, reduceCtorEq, Nat.reduceEqDiff, Nat.reduceBEq, Nat.reduceAdd, Nat.reduceMul, Nat.reduceLeDiff, g1, g4, g5, g6, hN, wsucc (show n < 4611686018427387904 by omega), hltn, hk'.box hG hB]
    refine ⟨he', ?_⟩
    have : rowR h (n + 1) tr[j] = rowR h n tr[j] ++ [⟨tr[j], hrsOf h n⟩] := by simp only [rowR, List.range_succ, List.map_append]; rfl
    rw [this, ← List.append_assoc, List.map_append]; exact hg'
  · have : n = T := by omega
    subst this
    simp only [go_sem, reduceIte, reduceCtorEq, Nat.reduceEqDiff, Nat.reduceBEq, Nat.reduceAdd, Nat.reduceMul, Nat.reduceLeDiff, g1, g4, g5, g6, hN, hlt, wsucc (show j < 4611686018427387904 by omega), hlt']
    refine ⟨hE, hB, ?_⟩
    rw [take_snoc hlt', List.flatMap_append]; simpa using hG
end Go.Lift

set_option linter.unusedSimpArgs false
set_option linter.unusedVariables false
namespace Go.Lift
open Go Go.Proofs
theorem Grown.wk {sz : Nat} {H0 H : AHeap} {v : AV} {es : List (List AV)} (g : Grown sz H0 H v es) : Wk v (.slice es) := fun _ _ _ hr => by
  rcases g with ⟨rfl, rfl⟩ | ⟨b, cap, rfl, _⟩
  · exact Rep.weaken_emp hr
  · exact Rep.weaken_slice hr
end Go.Lift

set_option linter.unusedSimpArgs false
set_option linter.unusedVariables false
namespace Go.Lift
open Go Go.Proofs
theorem enumG_nodup {f : Nat → List Int} (hf : ∀ i, (f i).Nodup) : ∀ (k : Nat) (pre : List Int), (enumG f k pre).Nodup
  | 0, pre => by simp [enumG]
  | k + 1, pre => by
    rw [enumG, List.Nodup, List.pairwise_flatMap]
    refine ⟨fun w _ => enumG_nodup hf k _, ?_⟩
    refine List.Pairwise.imp ?_ (hf pre.length)
    intro a b hab x hx y hy hxy
    subst hxy
    obtain ⟨s1, h1, _⟩ := (mem_enumG f k _ _).1 hx
    obtain ⟨s2, h2, _⟩ := (mem_enumG f k _ _).1 hy
    rw [h1] at h2
    simp at h2
    exact hab h2.1
theorem nodup_filter {α : Type} {l : List α} (p : α → Bool) (h : l.Nodup) : (l.filter p).Nodup := List.Pairwise.filter p h
theorem nodup_ofNat {l : List Nat} (h : l.Nodup) : (l.map Int.ofNat).Nodup := by
  refine List.Pairwise.map Int.ofNat (fun a b hab => ?_) h
  intro hh
  exact hab (Int.ofNat.inj hh)
theorem womenUpto_nodup (ws : List Woman) (marks : List Int) (n : Nat) : (womenUpto ws marks n).Nodup := nodup_ofNat (nodup_filter _ List.nodup_range)
theorem whoIs_nodup (t : Table) (i m : Nat) : (whoIs t i m).Nodup := nodup_ofNat (nodup_filter _ List.nodup_range)
def ownersA (t : Table) : List (List Int) := (enumW (whoseT t) t.pieces.length []).filter (isTruthT t)
theorem ownersA_mem {t : Table} (hc : checkTable t = 0) (o : List Int) : o ∈ ownersA t ↔ isTruthT t o = true := by
  rw [ownersA, List.mem_filter]
  exact ⟨fun h => h.2, fun h => ⟨truth_whose hc h, h⟩⟩
theorem truthsR_mem {t : Table} (hc : checkTable t = 0) (o : List Int) : o ∈ truthsR t ↔ isTruthT t o = true := by
  rw [truthsR_eq hc, List.mem_filter, isTruthT_iff hc, isTruthR, Bool.and_eq_true, decide_eq_true_eq, mem_allO]
  constructor
  · rintro ⟨h1, h2, h3⟩; exact ⟨h1, h3⟩
  · rintro ⟨h1, h2⟩; exact ⟨h1, h1, h2⟩
theorem getD_nodup {L : List (List Int)} (h : ∀ l ∈ L, l.Nodup) (i : Nat) : (L.getD i []).Nodup := by
  rw [List.getD_eq_getElem?_getD]
  cases hi : L[i]? with
  | none => simp
  | some l => exact h l (List.mem_of_getElem? hi)
theorem owners_perm {t : Table} (hc : checkTable t = 0) : (truthsR t).Perm (ownersA t) := by
  refine (List.perm_ext_iff_of_nodup ?_ ?_).2 fun o => ?_
  · rw [truthsR_eq hc, allO, enumO_eq]
    exact nodup_filter _ (enumG_nodup (fun i => womenUpto_nodup _ _ _) _ _)
  · rw [ownersA, enumW_eq]
    refine nodup_filter _ (enumG_nodup (fun i => getD_nodup (fun l hl => ?_) i) _ _)
    simp only [whoseT, List.mem_map] at hl
    obtain ⟨j, _, rfl⟩ := hl
    exact whoIs_nodup _ _ _
  · rw [truthsR_mem hc, ownersA_mem hc]
theorem flat_cons {α β : Type} (f : β → α) (g : β → List α) : ∀ l : List β, (l.flatMap fun y => f y :: g y).Perm (l.map f ++ l.flatMap g)
  | [] => List.Perm.refl _
  | y :: l => by
    simp only [List.flatMap_cons, List.map_cons, List.cons_append]
    refine List.Perm.cons _ ?_
    have h1 := (flat_cons f g l).append_left (g y)
    refine h1.trans ?_
    rw [← List.append_assoc, ← List.append_assoc]
    exact List.perm_append_comm.append_right _
theorem flat_swap {α β γ : Type} (f : α → β → γ) (l2 : List β) : ∀ l1 : List α, (l1.flatMap fun x => l2.map fun y => f x y).Perm (l2.flatMap fun y => l1.map fun x => f x y)
  | [] => by simp
  | x :: l1 => by
    rw [List.flatMap_cons]
    have h := flat_swap f l2 l1
    refine (h.append_left _).trans ?_
    exact (flat_cons (fun y => f x y) (fun y => l1.map fun x => f x y) l2).symm
theorem flat_congr {α β : Type} {f g : α → List β} : ∀ {l : List α}, (∀ a ∈ l, (f a).Perm (g a)) → (l.flatMap f).Perm (l.flatMap g)
  | [], _ => List.Perm.refl _
  | a :: l, h => by
    rw [List.flatMap_cons, List.flatMap_cons]
    exact (h a List.mem_cons_self).append (flat_congr fun b hb => h b (List.mem_cons_of_mem _ hb))
def enS (f : Nat → List Int) : Nat → Nat → List (List Int)
  | 0, _ => [[]]
  | k + 1, j => (f j).flatMap fun w => (enS f k (j + 1)).map fun s => w :: s
theorem enumG_enS (f : Nat → List Int) : ∀ (k : Nat) (pre : List Int), enumG f k pre = (enS f k pre.length).map fun s => pre ++ s
  | 0, pre => by simp [enumG, enS]
  | k + 1, pre => by
    rw [enumG, enS, List.map_flatMap]
    congr 1
    funext w
    rw [enumG_enS f k, List.map_map, List.length_append, List.length_singleton]
    congr 1
    funext s
    simp
theorem hrs_perm (h : House) : ∀ (k j : Nat), (∀ i, j ≤ i → i < j + k → 1 ≤ hourN h i) → ((List.range (prodL (hourN h) j k)).map (hrsGo h k j)).Perm (enS (hoursAt h) k j)
  | 0, j, _ => by simp [prodL, enS, hrsGo]
  | k + 1, j, hp => by
    have ih := hrs_perm h k (j + 1) (fun i h1 h2 => hp i (by omega) (by omega))
    have hk := hp j (by omega) (by omega)
    rw [prodL, Nat.mul_comm, range_mul, List.map_flatMap, enS]
    have e1 : (fun q => ((List.range (hourN h j)).map fun r => q * hourN h j + r).map (hrsGo h (k + 1) j)) = fun q => (List.range (hourN h j)).map fun r : Nat => ((h.touches.getD j default).lo + (r : Int)) :: hrsGo h k (j + 1) q := by
      funext q
      rw [List.map_map]
      apply List.ext_getElem
      · simp
      · intro i h1 h2
        simp only [List.length_map, List.length_range] at h1 h2
        simp only [List.getElem_map, List.getElem_range, Function.comp, hrsGo]
        have e1 : (q * hourN h j + i) / hourN h j = q := by
          rw [Nat.mul_comm, Nat.mul_add_div hk, Nat.div_eq_of_lt h2, Nat.add_zero]
        have e2 : (q * hourN h j + i) % hourN h j = i := by
          rw [Nat.mul_comm, Nat.mul_add_mod, Nat.mod_eq_of_lt h2]
        rw [e1, e2]
    rw [e1]
    refine (flat_swap (fun (q r : Nat) => ((h.touches.getD j default).lo + (r : Int)) :: hrsGo h k (j + 1) q) (List.range (hourN h j)) (List.range (prodL (hourN h) (j + 1) k))).trans ?_
    rw [hoursAt, List.flatMap_map]
    refine flat_congr fun r _ => ?_
    have := ih.map fun s => ((h.touches.getD j default).lo + (r : Int)) :: s
    rw [List.map_map] at this
    exact this
theorem hours_perm (h : House) (hp : ∀ i, i < h.touches.length → 1 ≤ hourN h i) : ((List.range (prodL (hourN h) 0 h.touches.length)).map (hrsOf h)).Perm (enumH h h.touches.length []) := by
  have := hrs_perm h h.touches.length 0 (fun i _ h2 => hp i (by omega))
  rw [enumH_eq, enumG_enS]
  simp only [List.nil_append, List.length_nil, List.map_id']
  exact this
end Go.Lift

set_option linter.unusedSimpArgs false
set_option linter.unusedVariables false
namespace Go.Lift
open Go Go.Proofs
theorem prodL_pos {f : Nat → Nat} : ∀ (k a : Nat), (∀ i, a ≤ i → i < a + k → 1 ≤ f i) → 1 ≤ prodL f a k
  | 0, _, _ => Nat.le_refl _
  | k + 1, a, h => by
    rw [prodL]
    exact Nat.mul_pos (h a (by omega) (by omega)) (prodL_pos k (a + 1) fun i h1 h2 => h i (by omega) (by omega))
theorem timesR_eq {h : House} (hv : HV h) : timesR h h.touches.length = prodL (hourN h) 0 h.touches.length := by
  have h1 := manyH_eq hv
  have h2 := hv.many
  have h3 := prodL_pos (f := womN h.table) h.table.pieces.length 0 fun i _ hi => womN_pos hv.tab i (by omega)
  have h4 : prodL (womN h.table) 0 h.table.pieces.length * prodL (hourN h) 0 h.touches.length ≤ 2000 := by omega
  have h5 : prodL (hourN h) 0 h.touches.length ≤ prodL (womN h.table) 0 h.table.pieces.length * prodL (hourN h) 0 h.touches.length := Nat.le_mul_of_pos_left _ h3
  rw [timesR]; omega
theorem flat_filter {α β : Type} (p : α → Bool) (f : α → List β) : ∀ l : List α, l.flatMap (fun a => if p a = true then f a else []) = (l.filter p).flatMap f
  | [] => rfl
  | a :: l => by
    rw [List.flatMap_cons, List.filter_cons, flat_filter p f l]
    cases p a <;> simp
theorem courses_perm {h : House} (hv : HV h) : (coursesR h).Perm (allC h) := by
  have e1 : allC h = (ownersA h.table).flatMap fun o => (enumH h h.touches.length []).map fun hs => (⟨o, hs⟩ : Course) := by
    rw [allC, ownersA, ← flat_filter]; rfl
  rw [e1, coursesR]
  refine ((owners_perm hv.tab).flatMap_right _).trans (flat_congr fun o _ => ?_)
  rw [rowR, timesR_eq hv]
  have := (hours_perm h (hourN_pos hv)).map fun hs => (⟨o, hs⟩ : Course)
  rw [List.map_map] at this
  exact this
theorem mem_coursesR {h : House} (hv : HV h) (c : Course) : c ∈ coursesR h ↔ courseOK h c = true := by rw [(courses_perm hv).mem_iff, mem_allC hv.tab]
end Go.Lift

set_option linter.unusedSimpArgs false
set_option linter.unusedVariables false
namespace Go.Lift
open Go Go.Proofs
theorem thin_sm {h : House} (c1 : thinH h = true) : HSm h := by
  rw [thinH, Bool.and_eq_true] at c1; exact short_sm c1.1
theorem ACalls.argB {P : Program} {f : FuncId} {a x y : AV} {H : AHeap} {R : AV → AHeap → Prop} (h : ∀ w v, Rep H w v x → Rep H w v y) (hc : ACalls P f [a, y] H R) : ACalls P f [a, x] H R :=
  ACalls.weaken (xs := [a, x]) (ys := [a, y]) rfl (hc := hc) fun i p q hp hq w v hr => by
    match i, hp, hq with
    | 0, hp, hq => cases hp; cases hq; exact hr
    | 1, hp, hq => cases hp; cases hq; exact h w v hr
end Go.Lift

set_option linter.unusedSimpArgs false
set_option linter.unusedVariables false
namespace Go.Lift
open Go Go.Proofs
/-- The least one that will do, of some lists. -/
structure IsMin (ok : List Int → Bool) (D : List Int → Prop) (x : List Int) : Prop where
  dom : D x
  good : ok x = true
  least : ∀ y, D y → ok y = true → shorterL y x = false
theorem IsMin.congr {ok ok' : List Int → Bool} {D D' : List Int → Prop} {x : List Int} (h : IsMin ok D x) (hd : ∀ y, D y ↔ D' y) (hok : ∀ y, D y → ok y = ok' y) : IsMin ok' D' x :=
  ⟨(hd x).1 h.dom, by rw [← hok x h.dom]; exact h.good, fun y hy ho => h.least y ((hd y).2 hy) (by rw [hok y ((hd y).2 hy)]; exact ho)⟩
def Inc (n : Nat) (x : List Int) : Prop := x.Pairwise (· < ·) ∧ ∀ a ∈ x, ∃ i : Nat, a = (i : Int) ∧ i < n
def IncF (n : Nat) : Nat → List Int → Prop
  | _, [] => True
  | f, a :: l => ∃ i : Nat, a = (i : Int) ∧ f ≤ i ∧ i < n ∧ IncF n (i + 1) l
theorem IncF.room {n : Nat} : ∀ {l : List Int} {f : Nat}, IncF n f l → l ≠ [] → f + l.length ≤ n
  | [], _, _, h => absurd rfl h
  | a :: l, f, h, _ => by
    obtain ⟨i, rfl, h1, h2, h3⟩ := h
    cases l with
    | nil => simp; omega
    | cons b l => have := h3.room (by simp); simp only [List.length_cons] at this ⊢; omega
theorem incF_iff {n : Nat} : ∀ {l : List Int} {f : Nat}, IncF n f l ↔ l.Pairwise (· < ·) ∧ ∀ a ∈ l, ∃ i : Nat, a = (i : Int) ∧ f ≤ i ∧ i < n
  | [], f => by simp [IncF]
  | a :: l, f => by
    rw [List.pairwise_cons]
    constructor
    · rintro ⟨i, rfl, h1, h2, h3⟩
      obtain ⟨k1, k2⟩ := (incF_iff (l := l) (f := i + 1)).1 h3
      refine ⟨⟨fun b hb => ?_, k1⟩, fun b hb => ?_⟩
      · obtain ⟨j, rfl, h4, h5⟩ := k2 b hb; omega
      · rcases List.mem_cons.1 hb with rfl | hb
        · exact ⟨i, rfl, h1, h2⟩
        · obtain ⟨j, rfl, h4, h5⟩ := k2 b hb; exact ⟨j, rfl, by omega, h5⟩
    · rintro ⟨⟨h1, h2⟩, h3⟩
      obtain ⟨i, rfl, h4, h5⟩ := h3 a List.mem_cons_self
      refine ⟨i, rfl, h4, h5, incF_iff.2 ⟨h2, fun b hb => ?_⟩⟩
      obtain ⟨j, rfl, h6, h7⟩ := h3 b (List.mem_cons_of_mem _ hb)
      have := h1 _ hb
      exact ⟨j, rfl, by omega, h7⟩
theorem inc_incF {n : Nat} {l : List Int} : Inc n l ↔ IncF n 0 l := by
  rw [incF_iff, Inc]; simp
end Go.Lift

set_option linter.unusedSimpArgs false
set_option linter.unusedVariables false
namespace Go.Lift
open Go Go.Proofs
/-- The house with other signs. -/
def reS (h : House) (ss : List Sign) : House := { h with signs := ss }
theorem check_zero (h : House) : checkHouse h = 0 ↔ ¬ bigH h ∧ askErr h.table = 0 ∧ ¬ badH h ∧ allH h ∧ ¬ 2000 < manyH h := by
  unfold checkHouse
  by_cases h1 : bigH h
  · simp [h1]
  by_cases h2 : askErr h.table = 0
  rotate_left
  · simp [h1, h2]
  by_cases h3 : badH h
  · simp [h1, h2, h3]
  by_cases h4 : allH h
  rotate_left
  · simp [h1, h2, h3, h4]
  by_cases h5 : 2000 < manyH h
  · simp [h1, h2, h3, h4, h5]
  · simp [h1, h2, h3, h4, h5]
theorem allC_ne {h : House} (hv : HV h) : ∃ c, c ∈ allC h := by
  have h1 : truthsT h.table ≠ [] := by
    intro h0
    have := hv.ask
    rw [askErr, if_pos hv.tab, if_pos h0] at this; cases this
  have h2 : truthsR h.table ≠ [] := fun h0 => h1 ((truths_nil hv.tab).1 h0)
  obtain ⟨o, l, ho⟩ := List.exists_cons_of_ne_nil h2
  have h3 : isTruthT h.table o = true := (truthsR_mem hv.tab o).1 (by rw [ho]; simp)
  refine ⟨⟨o, h.touches.map (·.lo)⟩, (mem_allC hv.tab _).2 ?_⟩
  rw [courseOK, h3, hoursOK]
  simp only [Bool.true_and, List.length_map, decide_true, List.all_eq_true, List.mem_range, decide_eq_true_eq]
  intro i hi
  have := hv.tim _ (List.getElem_mem hi)
  simp [List.getD_eq_getElem?_getD, hi]; omega
end Go.Lift

set_option linter.unusedSimpArgs false
set_option linter.unusedVariables false
namespace Go.Lift
open Go Go.Proofs
def Le (c d : List Bool) : Prop := ∀ i, c.getD i false = true → d.getD i false = true
theorem getD_set (c : List Bool) (k i : Nat) (b : Bool) (hk : k < c.length) : (c.set k b).getD i false = if i = k then b else c.getD i false := by
  simp only [List.getD_eq_getElem?_getD, List.getElem?_set, hk, if_true]
  by_cases h : k = i
  · subst h; simp
  · rw [if_neg h, if_neg (fun e => h e.symm)]
theorem fold_rel {α β : Type} {R : α → β → Prop} {f : α → Nat → α} {g : β → Nat → β} : ∀ (n : Nat) {a : α} {b : β}, R a b → (∀ i x y, i < n → R x y → R (f x i) (g y i)) → R ((List.range n).foldl f a) ((List.range n).foldl g b)
  | 0, _, _, h, _ => h
  | n + 1, a, b, h, hs => by
    rw [List.range_succ, List.foldl_append, List.foldl_append]
    exact hs n _ _ (by omega) (fold_rel n h fun i x y hi => hs i x y (by omega))
theorem startOf_get (h : House) (o : List Int) : ∀ j, j ≤ 10 → ∀ i, (startOf h o j).getD i false = (decide (i < j) && decide (o.getD i 0 ∈ h.sick))
  | 0, _, i => by
    simp only [startOf, List.range_zero, List.foldl_nil, List.getD_eq_getElem?_getD, List.getElem?_replicate]
    split <;> simp
  | j + 1, hj, i => by
    have e : startOf h o (j + 1) = sickAt h o (startOf h o j) j := range_fold _ _ _
    rw [e, sickAt, getD_set _ _ _ _ (by rw [startOf_len]; omega), startOf_get h o j (by omega)]
    by_cases hi : i = j
    · subst hi; simp
    · rw [if_neg hi]
      by_cases h1 : i < j
      · simp [h1, show i < j + 1 by omega]
      · simp [h1, show ¬ i < j + 1 by omega]
theorem boilOf_get (keys : List (Int × Int)) (k : Int) (c : List Bool) (hc : c.length = 10) : ∀ j, j ≤ 10 → ∀ i, (boilOf keys k c j).getD i false = (c.getD i false && !(decide (i < j) && decide (((i : Int), k) ∈ keys)))
  | 0, _, i => by simp [boilOf]
  | j + 1, hj, i => by
    have e : boilOf keys k c (j + 1) = boilAt keys k (boilOf keys k c j) j := range_fold _ _ _
    have ih := boilOf_get keys k c hc j (by omega)
    rw [e, boilAt]
    by_cases hk : ((j : Int), k) ∈ keys
    · rw [if_pos hk, getD_set _ _ _ _ (by rw [boilOf_len keys k c j hc]; omega), ih]
      by_cases hi : i = j
      · subst hi; simp [hk]
      · rw [if_neg hi]
        by_cases h1 : i < j
        · simp [h1, show i < j + 1 by omega]
        · simp [h1, show ¬ i < j + 1 by omega]
    · rw [if_neg hk, ih]
      by_cases hi : i = j
      · subst hi; simp [hk]
      · by_cases h1 : i < j
        · simp [h1, show i < j + 1 by omega]
        · simp [h1, show ¬ i < j + 1 by omega]
def tA (h : House) (i : Nat) : Nat := (h.touches.getD i default).a.toNat
def tB (h : House) (i : Nat) : Nat := (h.touches.getD i default).b.toNat
theorem touchAt_get (h : House) (hrs : List Int) (k : Int) (c : List Bool) (i n : Nat) (ha : tA h i < c.length) (hb : tB h i < c.length) :
    (touchAt h hrs k c i).getD n false = (c.getD n false || (decide (hrs.getD i 0 = k) && (c.getD (tA h i) false || c.getD (tB h i) false) && (decide (n = tA h i) || decide (n = tB h i)))) := by
  have e : touchAt h hrs k c i = if hrs.getD i 0 = k ∧ (c.getD (tA h i) false || c.getD (tB h i) false) = true then (c.set (tA h i) true).set (tB h i) true else c := rfl
  rw [e]
  by_cases hc : hrs.getD i 0 = k ∧ (c.getD (tA h i) false || c.getD (tB h i) false) = true
  · rw [if_pos hc, getD_set _ _ _ _ (by rw [List.length_set]; exact hb), getD_set _ _ _ _ ha, hc.2, decide_eq_true hc.1]
    by_cases h1 : n = tB h i
    · simp [h1]
    · by_cases h2 : n = tA h i
      · simp [h1, h2]
      · simp [h1, h2]
  · rw [if_neg hc]
    by_cases h1 : hrs.getD i 0 = k
    · have h2 : (c.getD (tA h i) false || c.getD (tB h i) false) = false := by
        rw [Bool.eq_false_iff]; exact fun h2 => hc ⟨h1, h2⟩
      rw [h2]; simp
    · rw [decide_eq_false h1]; simp
theorem tAB {h : House} (hk : HOK h) {i : Nat} (hi : i < h.touches.length) : tA h i < 10 ∧ tB h i < 10 := by
  obtain ⟨a, b, h1, h2, h3, h4⟩ := hk.touch _ (List.getElem_mem hi)
  have e : h.touches.getD i default = h.touches[i] := by simp [List.getD_eq_getElem?_getD, hi]
  rw [tA, tB, e, h1, h2]
  exact ⟨by omega, by omega⟩
def Le10 (c d : List Bool) : Prop := c.length = 10 ∧ d.length = 10 ∧ Le c d
theorem touchAt_le {h x : House} {hrs hrs' : List Int} {k : Int} {c d : List Bool} {i : Nat} (ha : tA h i < 10) (hb : tB h i < 10) (ea : tA x i = tA h i) (eb : tB x i = tB h i) (eh : hrs'.getD i 0 = hrs.getD i 0) (hl : Le10 c d) :
    Le10 (touchAt h hrs k c i) (touchAt x hrs' k d i) := by
  obtain ⟨h1, h2, h3⟩ := hl
  refine ⟨touchAt_len _ _ _ _ _ h1, touchAt_len _ _ _ _ _ h2, fun n hn => ?_⟩
  rw [touchAt_get _ _ _ _ _ _ (by omega) (by omega)] at hn ⊢
  rw [ea, eb, eh]
  simp only [Bool.or_eq_true, Bool.and_eq_true] at hn ⊢
  rcases hn with hn | ⟨⟨q1, q2⟩, q3⟩
  · exact .inl (h3 _ hn)
  · refine .inr ⟨⟨q1, ?_⟩, q3⟩
    rcases q2 with q2 | q2
    · exact .inl (h3 _ q2)
    · exact .inr (h3 _ q2)
theorem touchAt_more {x : House} {hrs : List Int} {k : Int} {c d : List Bool} {i : Nat} (ha : tA x i < 10) (hb : tB x i < 10) (hl : Le10 c d) : Le10 c (touchAt x hrs k d i) := by
  obtain ⟨h1, h2, h3⟩ := hl
  refine ⟨h1, touchAt_len _ _ _ _ _ h2, fun n hn => ?_⟩
  rw [touchAt_get _ _ _ _ _ _ (by omega) (by omega), h3 n hn]; rfl
theorem touchOf_more {x : House} {hrs : List Int} {k : Int} {c d : List Bool} (n : Nat) (hx : ∀ i, i < x.touches.length → tA x i < 10 ∧ tB x i < 10) : ∀ m, n + m ≤ x.touches.length → Le10 c (touchOf x hrs k d n) → Le10 c (touchOf x hrs k d (n + m))
  | 0, _, h => h
  | m + 1, hm, h => by
    have e : touchOf x hrs k d (n + m + 1) = touchAt x hrs k (touchOf x hrs k d (n + m)) (n + m) := range_fold _ _ _
    have hb := hx (n + m) (by omega)
    rw [← Nat.add_assoc, e]
    exact touchAt_more hb.1 hb.2 (touchOf_more n hx m (by omega) h)
/-- What one house has more than another. -/
structure More (h x : House) (o o' hrs hrs' : List Int) (keys keys' : List (Int × Int)) : Prop where
  pcs : x.table.pieces.length = h.table.pieces.length
  things : nT x = nT h
  last : x.last = h.last
  own : ∀ i, i < h.table.pieces.length → o.getD i 0 ∈ h.sick → o'.getD i 0 ∈ x.sick
  keys : ∀ q, q ∈ keys' → q ∈ keys
  len : h.touches.length ≤ x.touches.length
  same : ∀ i, i < h.touches.length → tA x i = tA h i ∧ tB x i = tB h i ∧ hrs'.getD i 0 = hrs.getD i 0
theorem play_le {h x : House} (hk : HOK h) (xk : HOK x) {o o' hrs hrs' : List Int} {keys keys' : List (Int × Int)} (m : More h x o o' hrs hrs' keys keys') : Le (playOf h o hrs keys) (playOf x o' hrs' keys') := by
  have hp := hk.pcs
  have hn := nT_le hk
  have key : Le10 (playOf h o hrs keys) (playOf x o' hrs' keys') := by
    unfold playOf hoursOf
    rw [m.last]
    refine fold_rel (R := Le10) _ ⟨startOf_len _ _ _, startOf_len _ _ _, fun i hi => ?_⟩ ?_
    · rw [startOf_get _ _ _ (by omega), Bool.and_eq_true, decide_eq_true_eq, decide_eq_true_eq] at hi
      rw [startOf_get _ _ _ (by rw [m.pcs]; omega), m.pcs, decide_eq_true hi.1, decide_eq_true (m.own i hi.1 hi.2)]; rfl
    · intro k c d _ hl
      unfold hourAt
      obtain ⟨l1, l2, l3⟩ := hl
      have hb : Le10 (boilOf keys k c (nT h)) (boilOf keys' k d (nT x)) := by
        refine ⟨boilOf_len _ _ _ _ l1, boilOf_len _ _ _ _ l2, fun i hi => ?_⟩
        rw [boilOf_get _ _ _ l1 _ hn, Bool.and_eq_true] at hi
        rw [boilOf_get _ _ _ l2 _ (by rw [m.things]; exact hn), l3 i hi.1, m.things]
        cases hq : decide (((i : Int), (k : Int)) ∈ keys')
        · simp
        · have := m.keys _ (of_decide_eq_true hq)
          have h2 := hi.2
          rw [decide_eq_true this] at h2
          rw [h2]; rfl
      have hh : Le10 (touchOf h hrs k (boilOf keys k c (nT h)) h.touches.length) (touchOf x hrs' k (boilOf keys' k d (nT x)) h.touches.length) := by
        unfold touchOf
        refine fold_rel (R := Le10) _ hb fun i c d hi hl => ?_
        obtain ⟨s1, s2, s3⟩ := m.same i hi
        have hab := tAB hk hi
        exact touchAt_le hab.1 hab.2 s1 s2 s3 hl
      obtain ⟨q, hq⟩ := Nat.exists_eq_add_of_le m.len
      rw [hq]
      exact touchOf_more _ (fun i hi => tAB xk hi) q (by omega) hh
  exact key.2.2
theorem hoursOf_succ (h : House) (o hrs : List Int) (keys : List (Int × Int)) (j : Nat) : hoursOf h o hrs keys (j + 1) = hourAt h hrs keys (hoursOf h o hrs keys j) j := range_fold _ _ _
theorem touch_lt {h : House} (hc : checkHouse h = 0) (hk : HOK h) {i : Nat} (hi : i < h.touches.length) : tA h i < nT h ∧ tB h i < nT h := by
  have h4 := (List.all_eq_true.1 ((check_zero h).1 hc).2.2.2.1.1) _ (List.getElem_mem hi)
  simp only [touchOK, Bool.and_eq_true] at h4
  have ha := h4.1.1.1.1.1
  have hb := h4.1.1.1.1.2
  have hn := nT_le hk
  have e : h.touches.getD i default = h.touches[i] := by simp [List.getD_eq_getElem?_getD, hi]
  simp only [thingOK, thingsW_ok hk, decide_eq_true_eq, w64 (x := (nT h : Int) - 1) (by omega) (by omega)] at ha hb
  rw [tA, tB, e]; omega
theorem things_sub {h : House} (hc : checkHouse h = 0) (hk : HOK h) (o hrs : List Int) (keys : List (Int × Int)) : ∀ j i, (hoursOf h o hrs keys j).getD i false = true → i < nT h
  | 0, i, hi => by
    have hp := hk.pcs
    have : hoursOf h o hrs keys 0 = startOf h o h.table.pieces.length := rfl
    rw [this, startOf_get _ _ _ (by omega), Bool.and_eq_true, decide_eq_true_eq] at hi
    have := hi.1
    unfold nT; omega
  | j + 1, i, hi => by
    have hl := hoursOf_len h o hrs keys j
    have ih := things_sub hc hk o hrs keys j
    rw [hoursOf_succ, hourAt] at hi
    have : ∀ m, m ≤ h.touches.length → ∀ i, (touchOf h hrs j (boilOf keys j (hoursOf h o hrs keys j) (nT h)) m).getD i false = true → i < nT h := by
      intro m
      induction m with
      | zero =>
        intro _ i hi
        have e : touchOf h hrs j (boilOf keys j (hoursOf h o hrs keys j) (nT h)) 0 = boilOf keys j (hoursOf h o hrs keys j) (nT h) := rfl
        rw [e, boilOf_get _ _ _ hl _ (nT_le hk), Bool.and_eq_true] at hi
        exact ih i hi.1
      | succ m imh =>
        intro hm i hi
        have e : touchOf h hrs j (boilOf keys j (hoursOf h o hrs keys j) (nT h)) (m + 1) = touchAt h hrs j (touchOf h hrs j (boilOf keys j (hoursOf h o hrs keys j) (nT h)) m) m := range_fold _ _ _
        have hab := tAB hk (show m < h.touches.length by omega)
        have hlt := touch_lt hc hk (show m < h.touches.length by omega)
        have hl2 := touchOf_len h hrs j _ m (boilOf_len keys j _ (nT h) hl)
        rw [e, touchAt_get _ _ _ _ _ _ (by omega) (by omega)] at hi
        simp only [Bool.or_eq_true, Bool.and_eq_true, decide_eq_true_eq] at hi
        rcases hi with hi | ⟨_, rfl | rfl⟩
        · exact imh (by omega) i hi
        · exact hlt.1
        · exact hlt.2
    exact this _ (Nat.le_refl _) i hi
theorem last_sub {h : House} (hc : checkHouse h = 0) (hk : HOK h) (c : Course) (more : List Boiling) (i : Nat) (hi : (lastOf h c more).getD i false = true) : i < nT h :=
  things_sub hc hk _ _ _ _ i hi
end Go.Lift

set_option linter.unusedSimpArgs false
set_option linter.unusedVariables false
namespace Go.Lift
open Go Go.Proofs
theorem inc_len {n : Nat} {x : List Int} (h : Inc n x) : x.length ≤ n := by
  rcases Nat.eq_zero_or_pos x.length with h0 | h0
  · omega
  · have := (inc_incF.1 h).room (List.length_pos_iff.1 h0); omega
end Go.Lift

set_option linter.unusedSimpArgs false
set_option linter.unusedVariables false
namespace Go.Lift
open Go Go.Proofs
theorem isWhose_iff {h : House} (ht : truH h [] ≠ []) (w : Nat) : isWhose h w = true ↔ ∃ c ∈ truH h [], harmedP h w c = true := by
  rw [isWhose, verdictOf, decide_eq_true_eq]
  have hpos : 0 < (truH h []).length := List.length_pos_iff.2 ht
  have key : (∃ c ∈ truH h [], harmedP h w c = true) ↔ (truH h []).countP (harmedP h w) ≠ 0 := by
    rw [Ne, List.countP_eq_zero]
    constructor
    · rintro ⟨x, hx, hp⟩ hall; exact hall x hx hp
    · intro hne; exact Classical.byContradiction fun hno => hne fun x hx hp => hno ⟨x, hx, hp⟩
  rw [key]
  by_cases h1 : (truH h []).countP (harmedP h w) = (truH h []).length
  · rw [if_pos h1]
    exact ⟨fun _ => by omega, fun _ => by decide⟩
  · rw [if_neg h1]
    by_cases h2 : (truH h []).countP (harmedP h w) = 0
    · rw [if_pos h2]; simp [h2]
    · rw [if_neg h2]; exact ⟨fun _ => h2, fun _ => by decide⟩
theorem harmedP_iff (h : House) (w : Int) (c : Course) : harmedP h w c = true ↔ ∃ i, i < h.table.pieces.length ∧ (lastOf h c []).getD i false = true ∧ (pad7 c.owners).getD i 0 = w ∧ ¬ (pad7 c.owners).getD i 0 ∈ h.sick := by
  rw [harmedP, List.any_eq_true]
  constructor
  · rintro ⟨i, hi, hh⟩
    simp only [harmedAt, Bool.and_eq_true, decide_eq_true_eq, Bool.not_eq_true', decide_eq_false_iff_not] at hh
    exact ⟨i, List.mem_range.1 hi, hh.1.1, hh.1.2, hh.2⟩
  · rintro ⟨i, hi, h1, h2, h3⟩
    refine ⟨i, List.mem_range.2 hi, ?_⟩
    simp only [harmedAt, Bool.and_eq_true, decide_eq_true_eq, Bool.not_eq_true', decide_eq_false_iff_not]
    exact ⟨⟨h1, h2⟩, h3⟩
end Go.Lift

set_option linter.unusedSimpArgs false
set_option linter.unusedVariables false
namespace Go.Lift
open Go Go.Proofs
/-- One house has the same things, and no other truths. -/
structure SubH (x h : House) : Prop where
  pcs : x.table.pieces.length = h.table.pieces.length
  wom : x.table.women.length = h.table.women.length
  sick : x.sick = h.sick
  nT : nT x = nT h
  last : ∀ c more, lastOf x c more = lastOf h c more
  tru : ∀ c ∈ truH x [], c ∈ truH h []
theorem SubH.ne {x h : House} (s : SubH x h) (hx : truH x [] ≠ []) : truH h [] ≠ [] := by
  obtain ⟨c, l, e⟩ := List.exists_cons_of_ne_nil hx
  intro h0
  have := s.tru c (by rw [e]; simp)
  rw [h0] at this; cases this
theorem SubH.whose {x h : House} (s : SubH x h) (hx : truH x [] ≠ []) (w : Nat) (hw : isWhose x w = true) : isWhose h w = true := by
  rw [isWhose_iff hx] at hw
  rw [isWhose_iff (s.ne hx)]
  obtain ⟨c, hc, hp⟩ := hw
  refine ⟨c, s.tru c hc, ?_⟩
  rw [harmedP_iff] at hp ⊢
  rw [s.pcs, s.last, s.sick] at hp
  exact hp
theorem SubH.len {x h : House} (s : SubH x h) (hx : truH x [] ≠ []) : (whoseS x).length ≤ (whoseS h).length := by
  rw [whoseS, whoseS, whoseUpto, whoseUpto, List.length_map, List.length_map, ← List.countP_eq_length_filter, ← List.countP_eq_length_filter, s.wom]
  exact List.countP_mono_left fun w _ hw => s.whose hx w hw
end Go.Lift

set_option linter.unusedSimpArgs false
set_option linter.unusedVariables false
namespace Go.Lift
open Go Go.Proofs
theorem filter_inc (p : Nat → Bool) (n : Nat) : Inc n (((List.range n).filter p).map Int.ofNat) := by
  refine ⟨List.Pairwise.map Int.ofNat (fun a b hab => Int.ofNat_lt.2 hab) (List.Pairwise.filter _ List.pairwise_lt_range), fun a ha => ?_⟩
  simp only [List.mem_map, List.mem_filter, List.mem_range] at ha
  obtain ⟨i, ⟨hi, _⟩, rfl⟩ := ha
  exact ⟨i, rfl, hi⟩
theorem Inc.mono {n m : Nat} {l : List Int} (h : Inc n l) (hn : n ≤ m) : Inc m l :=
  ⟨h.1, fun a ha => let ⟨i, e, hi⟩ := h.2 a ha; ⟨i, e, by omega⟩⟩
end Go.Lift

set_option linter.unusedSimpArgs false
set_option linter.unusedVariables false
namespace Go.Lift
open Go Go.Proofs
def addT (h : House) (t : Touch) : House := { h with touches := h.touches ++ [t] }
def addB (h : House) (b : Boiling) : House := { h with boiled := h.boiled ++ [b] }
theorem getD_app {α : Type} {l : List α} {d x : α} {i : Nat} (hi : i < l.length) : (l ++ [x]).getD i d = l.getD i d := by
  simp [List.getD_eq_getElem?_getD, List.getElem?_append_left hi]
theorem getD_last {α : Type} {l : List α} {d x : α} : (l ++ [x]).getD l.length d = x := by
  simp [List.getD_eq_getElem?_getD]
theorem timesUpto_addT (h : House) (t : Touch) (m : Int) : ∀ j, j ≤ h.touches.length → timesUpto (reS (addT h t) []) m j = timesUpto h m j
  | 0, _ => rfl
  | j + 1, hj => by
    have e : (reS (addT h t) []).touches.getD j default = h.touches.getD j default := getD_app (by omega)
    simp only [timesUpto, timesUpto_addT h t m j (by omega), e]
theorem check_addT {h : House} (hc : checkHouse h = 0) {t : Touch} (h5 : h.touches.length ≤ 5) (ht : touchOK h t = true) (hlo : t.lo = t.hi) : checkHouse (reS (addT h t) []) = 0 := by
  rw [check_zero] at hc ⊢
  obtain ⟨h1, h2, h3, h4, h6⟩ := hc
  have hl : (reS (addT h t) []).touches.length = h.touches.length + 1 := by show (h.touches ++ [t]).length = _; simp
  refine ⟨?_, h2, h3, ⟨?_, h4.2.1, by show (([] : List Sign).all _) = true; rfl⟩, ?_⟩
  · rintro (k | k | k | k | k)
    · exact h1 (.inl k)
    · exact h1 (.inr (.inl k))
    · rw [hl] at k; omega
    · exact h1 (.inr (.inr (.inr (.inl k))))
    · have : (reS (addT h t) []).signs.length = 0 := rfl
      omega
  · show (h.touches ++ [t]).all (touchOK h) = true
    rw [List.all_append, h4.1]; simp [ht]
  · have e1 : manyH (reS (addT h t) []) = timesUpto (reS (addT h t) []) (manyUpto h.table h.table.pieces.length) (h.touches.length + 1) := by rw [manyH, hl]; rfl
    have e2 : (reS (addT h t) []).touches.getD h.touches.length default = t := getD_last
    rw [e1, timesUpto, timesUpto_addT h t _ _ (Nat.le_refl _), e2, hlo]
    have : timesUpto h (manyUpto h.table h.table.pieces.length) h.touches.length = manyH h := rfl
    rw [this, show t.hi - t.hi + 1 = 1 by omega, Int.mul_one]
    split <;> omega
theorem check_addB {h : House} (hc : checkHouse h = 0) {b : Boiling} (h3' : h.boiled.length ≤ 3) (hb : boilOK h b = true) : checkHouse (reS (addB h b) []) = 0 := by
  rw [check_zero] at hc ⊢
  obtain ⟨h1, h2, h3, h4, h6⟩ := hc
  have hl : (reS (addB h b) []).boiled.length = h.boiled.length + 1 := by show (h.boiled ++ [b]).length = _; simp
  refine ⟨?_, h2, h3, ⟨h4.1, ?_, by show (([] : List Sign).all _) = true; rfl⟩, ?_⟩
  · rintro (k | k | k | k | k)
    · exact h1 (.inl k)
    · exact h1 (.inr (.inl k))
    · exact h1 (.inr (.inr (.inl k)))
    · rw [hl] at k; omega
    · have : (reS (addB h b) []).signs.length = 0 := rfl
      omega
  · show (h.boiled ++ [b]).all (boilOK h) = true
    rw [List.all_append, h4.2.1]; simp [hb]
  · have : ∀ j, timesUpto (reS (addB h b) []) (manyUpto h.table h.table.pieces.length) j = timesUpto h (manyUpto h.table h.table.pieces.length) j := by
      intro j
      induction j with
      | zero => rfl
      | succ j ih => simp only [timesUpto, ih]; rfl
    have e : manyH (reS (addB h b) []) = manyH h := this _
    rw [e]; exact h6
theorem course_addT {h : House} {c : Course} (hc : courseOK h c = true) {t : Touch} {k : Int} (h1 : t.lo = k) (h2 : t.hi = k) : courseOK (reS (addT h t) []) ⟨c.owners, c.hours ++ [k]⟩ = true := by
  rw [courseOK, Bool.and_eq_true] at hc ⊢
  obtain ⟨h3, h4⟩ := hc
  refine ⟨h3, ?_⟩
  rw [hoursOK, Bool.and_eq_true, decide_eq_true_eq, List.all_eq_true] at h4 ⊢
  obtain ⟨h5, h6⟩ := h4
  have hl : (reS (addT h t) []).touches.length = h.touches.length + 1 := by show (h.touches ++ [t]).length = _; simp
  refine ⟨by rw [hl]; simp [h5], fun i hi => ?_⟩
  have hi := List.mem_range.1 hi
  rw [List.length_append, List.length_singleton] at hi
  rcases Nat.lt_or_ge i h.touches.length with hlt | hge
  · have := h6 i (List.mem_range.2 (by omega))
    have e : (reS (addT h t) []).touches.getD i default = h.touches.getD i default := getD_app hlt
    rw [e, getD_app (by omega)]; exact this
  · have : i = h.touches.length := by omega
    subst this
    have e : (reS (addT h t) []).touches.getD h.touches.length default = t := getD_last
    rw [e, ← h5, getD_last, h1, h2]; simp
theorem pad6_app {l : List Int} {k : Int} {i : Nat} (hi : i < l.length) : (pad6 (l ++ [k])).getD i 0 = (pad6 l).getD i 0 := by
  rw [pad6_get _ _ (by simp; omega), pad6_get _ _ hi, List.getElem_append_left hi]
theorem touched_more {h : House} (hk : HOK h) {t : Touch} (xk : HOK (reS (addT h t) [])) {c : Course} (hl : c.hours.length = h.touches.length) (k : Int) : Le (lastOf h c []) (lastOf (reS (addT h t) []) ⟨c.owners, c.hours ++ [k]⟩ []) := by
  refine play_le hk xk ⟨rfl, rfl, rfl, fun i _ ho => ho, fun q hq => hq, by show _ ≤ (h.touches ++ [t]).length; simp, fun i hi => ?_⟩
  have e : (reS (addT h t) []).touches.getD i default = h.touches.getD i default := getD_app hi
  exact ⟨by rw [tA, tA, e], by rw [tB, tB, e], pad6_app (by omega)⟩
theorem boiled_less {h : House} (hk : HOK h) {b : Boiling} (xk : HOK (reS (addB h b) [])) (c : Course) : Le (lastOf (reS (addB h b) []) c []) (lastOf h c []) := by
  refine play_le xk hk ⟨rfl, rfl, rfl, fun i _ ho => ho, fun q hq => ?_, Nat.le_refl _, fun i hi => ⟨rfl, rfl, rfl⟩⟩
  show q ∈ ((h.boiled ++ [b]) ++ []).map bKey
  simp only [List.append_nil, List.map_append, List.mem_append] at hq ⊢
  exact .inl hq
end Go.Lift

set_option linter.unusedSimpArgs false
set_option linter.unusedVariables false
namespace Go.Lift
open Go Go.Proofs
/-- The hour with a number. -/
def hourK (h : House) (n : Nat) : Int := ((n % (h.last.toNat + 1) : Nat) : Int)
theorem hourK_ok {h : House} (hk : HOK h) (n : Nat) : hourOK h (hourK h n) = true := by
  obtain ⟨m, h1, h2⟩ := hk.last
  rw [hourOK, hourK, decide_eq_true_eq]
  have := Nat.mod_lt n (show 0 < h.last.toNat + 1 by omega)
  omega
theorem hourK_facts {h : House} (hk : HOK h) {n : Nat} (hn : n < 256) : IntKind.i64.wrap (n : Int) = (n : Int) ∧ ¬ IntKind.i64.wrap (h.last + 1) = 0 ∧ (n : Int).tmod (IntKind.i64.wrap (h.last + 1)) = hourK h n := by
  obtain ⟨m, h1, h2⟩ := hk.last
  have e : IntKind.i64.wrap (h.last + 1) = ((h.last.toNat + 1 : Nat) : Int) := by rw [w64 (by omega) (by omega)]; omega
  refine ⟨w64 (by omega) (by omega), by rw [e]; omega, ?_⟩
  rw [e, hourK, Int.ofNat_tmod]
theorem ready_ok {h : House} (hr : readyH h = true) : HSm h ∧ checkHouse h = 0 := by
  rw [readyH, Bool.and_eq_true, decide_eq_true_eq] at hr
  exact ⟨thin_sm hr.1, hr.2⟩
end Go.Lift

set_option linter.unusedSimpArgs false
set_option linter.unusedVariables false
namespace Go.Lift
open Go Go.Proofs
theorem HSm.signs' {h : House} (hs : HSm h) {ss : List Sign} (hl : ss.length ≤ 1073741824) : HSm (reS h ss) :=
  ⟨hs.women, hs.pieces, hs.marks, hs.sick, hs.touches, hs.boiled, hl⟩
end Go.Lift

set_option linter.unusedSimpArgs false
set_option linter.unusedVariables false
namespace Go.Lift
open Go Go.Proofs
theorem Pure.wk {P : Program} {f : FuncId} {x y r : AV} {xs : List AV} (hp : Pure P f (y :: xs) r) (h : Wk x y) : Pure P f (x :: xs) r :=
  fun H => ACalls.arg0 (fun w v hr => h H w v hr) (hp H)
theorem wk9 {a b c d e f g i j a' b' c' d' e' f' g' i' j' : AV} (h1 : Wk a a') (h2 : Wk b b') (h3 : Wk c c') (h4 : Wk d d') (h5 : Wk e e') (h6 : Wk f f') (h7 : Wk g g') (h8 : Wk i i') (h9 : Wk j j') : Wk (.agg [a, b, c, d, e, f, g, i, j]) (.agg [a', b', c', d', e', f', g', i', j']) :=
  Wk.agg rfl fun n x y hx hy => by
    match n, hx, hy with
    | 0, hx, hy => cases hx; cases hy; exact h1
    | 1, hx, hy => cases hx; cases hy; exact h2
    | 2, hx, hy => cases hx; cases hy; exact h3
    | 3, hx, hy => cases hx; cases hy; exact h4
    | 4, hx, hy => cases hx; cases hy; exact h5
    | 5, hx, hy => cases hx; cases hy; exact h6
    | 6, hx, hy => cases hx; cases hy; exact h7
    | 7, hx, hy => cases hx; cases hy; exact h8
    | 8, hx, hy => cases hx; cases hy; exact h9
end Go.Lift

set_option linter.unusedSimpArgs false
set_option linter.unusedVariables false
namespace Go.Lift
open Go Go.Proofs
theorem atl_mono {P : Program} : ∀ (t : ATr) {K K' : Env → AHeap → Prop}, (∀ env H, K env H → K' env H) → ∀ {env H}, atl P t K env H → atl P t K' env H := by
  intro t
  induction t with
  | done => intro K K' hK env H h; exact hK _ _ h
  | one o us t ih =>
    intro K K' hK env H h
    simp only [atl, aop1] at h ⊢
    split at h
    · exact aopV_mono (fun r H' h => ⟨h.1, ih hK h.2⟩) h
    · split at h
      · split at h
        · rename_i hb; rw [if_pos hb]; exact aopV_mono (fun r H' h => ⟨h.1, ih hK h.2⟩) h
        · rename_i hb; rw [if_neg hb]; exact ⟨h.1, ih hK h.2⟩
      · exact ⟨h.1, ih hK h.2⟩
      · exact h
  | alt a b iha ihb => intro K K' hK env H h; exact ⟨iha hK h.1, ihb hK h.2⟩
theorem atl_cut {P : Program} {t : ATr} {K : Env → AHeap → Prop} {env : Env} {H : AHeap} (I : Env → AHeap → Prop) (h : atl P t I env H) (hI : ∀ env H, I env H → K env H) : atl P t K env H := atl_mono t hI h
/-- What a step on the heap leaves as it was. -/
structure Step (H H' : AHeap) (b : Nat) : Prop where
  keep : ∀ c o, c ≠ b → H c = some o → H' c = some o
  ext : ∀ H0, Ext H0 H → H0 b = none → Ext H0 H'
  grown : ∀ sz H0 v es, Grown sz H0 H v es → Grown sz H0 H' v es
theorem v_alloc' {P : Program} {R : AV → AHeap → Prop} {H : AHeap} {zs : List AV} (h : ∀ b H', H b = none → H' b = some (.box zs) → Step H H' b → R (.ptr b 0) H') : aopV P (.alloc zs) [] H R :=
  v_alloc fun b hb => h b _ hb (updH_same _ _ _) ⟨fun c o hc ho => by rw [updH_ne _ _ hc]; exact ho, fun H0 e hn => e.upd hn _, fun sz H0 v es g => g.new hb _⟩
theorem v_store' {P : Program} {R : AV → AHeap → Prop} {H : AHeap} {n b off : Nat} {x : AV} {cs : List AV} (hb : H b = some (.box cs)) (hx : x.ok = true) (hl : x.cells.length = n) (hc : ∀ y ∈ x.cells, AV.isCell y = true) (ho : off + n ≤ cs.length)
    (h : ∀ H', H' b = some (.box (placeAt cs off x.cells)) → Step H H' b → R .any H') : aopV P (.store n) [.ptr b off, x] H R := by
  rw [v_store]
  exact ⟨hx, hl, hc, cs, hb, ho, h _ (updH_same _ _ _) ⟨fun c o hc ho => by rw [updH_ne _ _ hc]; exact ho, fun H0 e hn => e.upd hn _, fun sz H0 v es g => g.store hb _⟩⟩
theorem ne_of {H : AHeap} {a b : Nat} {o : AObj} (ha : H a = some o) (hb : H b = none) : a ≠ b := fun e => by subst e; rw [ha] at hb; cases hb
theorem Grown.one {sz : Nat} {H0 H : AHeap} {v : AV} {es : List (List AV)} (g : Grown sz H0 H v es) : v.ok = true ∧ v.cells.length = 1 ∧ ∀ y ∈ v.cells, AV.isCell y = true := by
  refine ⟨g.cellv.1, by rw [g.cellv.2.1]; rfl, ?_⟩
  rw [g.cellv.2.1]; intro y hy; simp at hy; subst hy; exact g.cellv.2.2
/-- The cells of a house, with the lists of the sick, of the touches, of the boilings and of the signs given. -/
def hc4 (h : House) (a b c d : AV) : List AV := [.slice (h.table.women.map eW), .slice (h.table.pieces.map eP), i6 h.table.wrong, a, i6 h.others, i6 h.last, b, c, d]
theorem wkH {x h : House} {a b c d : AV} (ht : x.table = h.table) (ho : x.others = h.others) (hl : x.last = h.last) (ha : Wk a (.slice (eI x.sick))) (hb : Wk b (.slice (x.touches.map eTo))) (hc : Wk c (.slice (x.boiled.map eB))) (hd : Wk d (.slice (x.signs.map eS))) : Wk (.agg (hc4 h a b c d)) (eH x) := by
  unfold eH hc4
  rw [ht, ho, hl]
  exact wk9 (Wk.refl _) (Wk.refl _) (Wk.refl _) ha (Wk.refl _) (Wk.refl _) hb hc hd
end Go.Lift

set_option linter.unusedSimpArgs false
set_option linter.unusedVariables false
namespace Go.Lift
open Go Go.Proofs
theorem copyG_c (l : List Int) (hl : l.length ≤ 2147483648) (H : AHeap) : ACalls Tryz.prog 39 [.slice (eI l)] H fun r H' => Ext H H' ∧ Grown 1 H H' r (eI l) := by
  refine fn_of hmix fc39 (by simp) ?_
  rw [ienv1]
  simp only [go_sem, reduceIte, reduceCtorEq, Nat.reduceEqDiff, Nat.reduceBEq, Nat.reduceAdd, Nat.reduceMul, Nat.reduceLeDiff, List.getElem?_cons_zero, List.getElem?_cons_succ, bne_self_eq_false, Int.reduceEq, ac39]
  refine v_append (H0 := H) (sz := 1) (.inl ⟨rfl, rfl⟩) (Ext.refl H) rfl (by intro e he; cases he) (eI_good l) (eI_cell l) (by simp; omega) (by simp; omega) ?_
  intro v' H' hg he hk
  simp only [go_sem, reduceIte, reduceCtorEq, Nat.reduceEqDiff, Nat.reduceBEq, Nat.reduceAdd, Nat.reduceMul, Nat.reduceLeDiff, List.getElem?_cons_zero, List.getElem?_cons_succ, bne_self_eq_false, Int.reduceEq]
  refine fin_ret' 2 (by simp [upd_at]) ?_
  simp only [upd_at, if_true]
  exact ⟨he, by simpa using hg⟩
theorem mem_trues (bs : List Bool) (j i : Nat) : (i : Int) ∈ truesUpto bs j ↔ i < j ∧ bs.getD i false = true := by
  simp only [truesUpto, List.mem_map, List.mem_filter, List.mem_range]
  constructor
  · rintro ⟨a, ha, e⟩
    have : a = i := by
      have : ((a : Nat) : Int) = (i : Int) := e
      omega
    subst this; exact ha
  · intro h; exact ⟨i, h, rfl⟩
theorem trues_inc {bs : List Bool} {n : Nat} (h : ∀ i, bs.getD i false = true → i < n) : Inc n (truesUpto bs 10) := by
  have hi := filter_inc (fun i => bs.getD i false) 10
  refine ⟨hi.1, fun a ha => ?_⟩
  obtain ⟨i, rfl, _⟩ := hi.2 a ha
  exact ⟨i, rfl, h i ((mem_trues bs 10 i).1 ha).2⟩
theorem bcC (a : List (List AV)) {v : AV} (ho : v.ok = true) (hv : v.cells = [v]) : buildCells [.emp, .emp] [(0, 1), (1, 1)] [.slice a, v] = some [.slice a, v] := by
  simp [buildCells, hv, ho, placeAt, c_slice, show (AV.slice a).ok = true from rfl]
theorem wkC {c : Course} {v : AV} (hv : Wk v (.slice (eI c.hours))) : Wk (.agg [.slice (eI c.owners), v]) (eC c) :=
  Wk.agg rfl fun n x y hx hy => by
    match n, hx, hy with
    | 0, hx, hy => cases hx; cases hy; exact Wk.refl _
    | 1, hx, hy => cases hx; cases hy; exact hv
theorem other_thing {n a b : Nat} (hn : 2 ≤ n) (ha : a < n) : (a + 1 + b % (n - 1)) % n ≠ a ∧ (a + 1 + b % (n - 1)) % n < n := by
  have hb : b % (n - 1) < n - 1 := Nat.mod_lt _ (by omega)
  refine ⟨?_, Nat.mod_lt _ (by omega)⟩
  generalize b % (n - 1) = d at hb
  rcases Nat.lt_or_ge (a + 1 + d) n with h | h
  · rw [Nat.mod_eq_of_lt h]; omega
  · rw [Nat.mod_eq_sub_mod h, Nat.mod_eq_of_lt (by omega)]; omega
theorem thing_nat {h : House} (hk : HOK h) {i : Nat} (hi : i < nT h) : thingOK h (i : Int) = true := by
  have hn := nT_le hk
  rw [thingOK, thingsW_ok hk, w64 (by omega) (by omega), decide_eq_true_eq]; omega
theorem HSm.touches' {h : House} (hs : HSm h) {t : Touch} (hl : h.touches.length ≤ 30) : HSm (addT h t) :=
  ⟨hs.women, hs.pieces, hs.marks, hs.sick, by show (h.touches ++ [t]).length ≤ _; simp; omega, hs.boiled, hs.signs⟩
theorem HSm.boiled' {h : House} (hs : HSm h) {b : Boiling} (hl : h.boiled.length ≤ 30) : HSm (addB h b) :=
  ⟨hs.women, hs.pieces, hs.marks, hs.sick, hs.touches, by show (h.boiled ++ [b]).length ≤ _; simp; omega, hs.signs⟩
set_option maxHeartbeats 4000000 in
theorem touched_law (h : House) (n1 : Nat) (hn1 : n1 < 65536) (na : Nat) (hna : na < 256) (nb : Nat) (hnb : nb < 256) (n : Nat) (hn : n < 256) : Pure Tryz.prog 5 [eH h, .int .u16 (n1 : Int), .int .u8 (na : Int), .int .u8 (nb : Int), .int .u8 (n : Int)] (.bool true) := by
  intro H
  refine fn_of hmix fc5 (by simp) ?_
  rw [ienv5]
  simp only [go_sem, reduceIte, reduceCtorEq, Nat.reduceEqDiff, Nat.reduceBEq, Nat.reduceAdd, Nat.reduceMul, Nat.reduceLeDiff, List.getElem?_cons_zero, List.getElem?_cons_succ, bne_self_eq_false, Int.reduceEq, ac5, eH]
  refine v_box _ rfl fun b1 hb1 => ?_
  have e1 := (Ext.refl H).new hb1 (.box [.slice (h.table.women.map eW), .slice (h.table.pieces.map eP), i6 h.table.wrong, .slice (eI h.sick), i6 h.others, i6 h.last, .slice (h.touches.map eTo), .slice (h.boiled.map eB), .slice (h.signs.map eS)])
  simp only [go_sem, reduceIte, reduceCtorEq, Nat.reduceEqDiff, Nat.reduceBEq, Nat.reduceAdd, Nat.reduceMul, Nat.reduceLeDiff, List.getElem?_cons_zero, List.getElem?_cons_succ, bne_self_eq_false, Int.reduceEq]
  refine (thingsR_c h).go ?_
  simp only [go_sem, reduceIte, reduceCtorEq, Nat.reduceEqDiff, Nat.reduceBEq, Nat.reduceAdd, Nat.reduceMul, Nat.reduceLeDiff, List.getElem?_cons_zero, List.getElem?_cons_succ, bne_self_eq_false, Int.reduceEq]
  refine (ready_c h).go ?_
  cases c1 : readyH h
  · simp only [go_sem, reduceIte, reduceCtorEq, Nat.reduceEqDiff, Nat.reduceBEq, Nat.reduceAdd, Nat.reduceMul, Nat.reduceLeDiff, List.getElem?_cons_zero, List.getElem?_cons_succ, bne_self_eq_false, Int.reduceEq]
    refine awake_c.go ?_
    simp only [go_sem, reduceIte, reduceCtorEq, Nat.reduceEqDiff, Nat.reduceBEq, Nat.reduceAdd, Nat.reduceMul, Nat.reduceLeDiff, List.getElem?_cons_zero, List.getElem?_cons_succ, bne_self_eq_false, Int.reduceEq]
    exact fin_ret 10 (by simp [upd_at]) ⟨_, H, Settle.refl e1, by simp [upd_at], rfl⟩
  obtain ⟨hm, hc⟩ := ready_ok c1
  have hv := hv_of hm.tsm hm.sk hc
  have hnt := nT_le hv.ok
  have hw5 := checkTable_len hv.tab
  rw [thingsW_ok hv.ok]
  by_cases d1 : (nT h : Int) < 2
  · simp only [go_sem, reduceIte, reduceCtorEq, Nat.reduceEqDiff, Nat.reduceBEq, Nat.reduceAdd, Nat.reduceMul, Nat.reduceLeDiff, List.getElem?_cons_zero, List.getElem?_cons_succ, bne_self_eq_false, Int.reduceEq, d1]
    refine awake_c.go ?_
    simp only [go_sem, reduceIte, reduceCtorEq, Nat.reduceEqDiff, Nat.reduceBEq, Nat.reduceAdd, Nat.reduceMul, Nat.reduceLeDiff, List.getElem?_cons_zero, List.getElem?_cons_succ, bne_self_eq_false, Int.reduceEq]
    exact fin_ret 10 (by simp [upd_at]) ⟨_, H, Settle.refl e1, by simp [upd_at], rfl⟩
  by_cases d2 : 5 < (h.touches.length : Int)
  · simp only [go_sem, reduceIte, reduceCtorEq, Nat.reduceEqDiff, Nat.reduceBEq, Nat.reduceAdd, Nat.reduceMul, Nat.reduceLeDiff, List.getElem?_cons_zero, List.getElem?_cons_succ, bne_self_eq_false, Int.reduceEq, d1, d2, take_f']
    refine awake_c.go ?_
    simp only [go_sem, reduceIte, reduceCtorEq, Nat.reduceEqDiff, Nat.reduceBEq, Nat.reduceAdd, Nat.reduceMul, Nat.reduceLeDiff, List.getElem?_cons_zero, List.getElem?_cons_succ, bne_self_eq_false, Int.reduceEq]
    exact fin_ret 10 (by simp [upd_at]) ⟨_, H, Settle.refl e1, by simp [upd_at], rfl⟩
  by_cases d3 : 3 < (h.boiled.length : Int)
  · simp only [go_sem, reduceIte, reduceCtorEq, Nat.reduceEqDiff, Nat.reduceBEq, Nat.reduceAdd, Nat.reduceMul, Nat.reduceLeDiff, List.getElem?_cons_zero, List.getElem?_cons_succ, bne_self_eq_false, Int.reduceEq, d1, d2, d3, take_f']
    refine awake_c.go ?_
    simp only [go_sem, reduceIte, reduceCtorEq, Nat.reduceEqDiff, Nat.reduceBEq, Nat.reduceAdd, Nat.reduceMul, Nat.reduceLeDiff, List.getElem?_cons_zero, List.getElem?_cons_succ, bne_self_eq_false, Int.reduceEq]
    exact fin_ret 10 (by simp [upd_at]) ⟨_, H, Settle.refl e1, by simp [upd_at], rfl⟩
  obtain ⟨f1, f2, f3⟩ := hourK_facts hv.ok hn
  have hh := hourK_ok hv.ok n
  have a1 : IntKind.i64.wrap (na : Int) = (na : Int) := w64 (by omega) (by omega)
  have a2 : IntKind.i64.wrap (nb : Int) = (nb : Int) := w64 (by omega) (by omega)
  have a3 : IntKind.i64.wrap (n1 : Int) = (n1 : Int) := w64 (by omega) (by omega)
  have hA : na % nT h < nT h := Nat.mod_lt _ (by omega)
  have ea : (na : Int).tmod (nT h : Int) = ((na % nT h : Nat) : Int) := (Int.ofNat_tmod na (nT h)).symm
  generalize hAe : na % nT h = A at hA ea
  have w2 : IntKind.i64.wrap ((nT h : Int) - 1) = ((nT h - 1 : Nat) : Int) := by rw [w64 (by omega) (by omega)]; omega
  have eb : (nb : Int).tmod ((nT h - 1 : Nat) : Int) = ((nb % (nT h - 1) : Nat) : Int) := (Int.ofNat_tmod nb (nT h - 1)).symm
  have hb1 : nb % (nT h - 1) < nT h - 1 := Nat.mod_lt _ (by omega)
  have w3 : IntKind.i64.wrap (((A + 1 : Nat) : Int) + ((nb % (nT h - 1) : Nat) : Int)) = ((A + 1 + nb % (nT h - 1) : Nat) : Int) := by rw [w64 (by omega) (by omega)]; omega
  have ec : ((A + 1 + nb % (nT h - 1) : Nat) : Int).tmod (nT h : Int) = (((A + 1 + nb % (nT h - 1)) % nT h : Nat) : Int) := (Int.ofNat_tmod _ _).symm
  obtain ⟨hAB, hB⟩ := other_thing (b := nb) (show 2 ≤ nT h by omega) hA
  generalize hBe : (A + 1 + nb % (nT h - 1)) % nT h = B at hAB hB ec
  simp only [go_sem, reduceIte, reduceCtorEq, Nat.reduceEqDiff, Nat.reduceBEq, Nat.reduceAdd, Nat.reduceMul, Nat.reduceLeDiff, List.getElem?_cons_zero, List.getElem?_cons_succ, bne_self_eq_false, Int.reduceEq, d1, d2, d3, take_f', f1, f2, f3, a1, a2, ea, w2, eb, w3, ec, wsucc (show A < 4611686018427387904 by omega), show ¬ (nT h : Int) = 0 by omega, show ¬ ((nT h - 1 : Nat) : Int) = 0 by omega]
  refine (coursesR_c h hv).go ?_
  have hM : 0 < (coursesR h).length := by
    obtain ⟨c, hcc⟩ := allC_ne hv
    exact List.length_pos_of_mem ((courses_perm hv).mem_iff.2 hcc)
  have hj : n1 % (coursesR h).length < (coursesR h).length := Nat.mod_lt _ hM
  have ej : (n1 : Int).tmod ((coursesR h).length : Int) = ((n1 % (coursesR h).length : Nat) : Int) := (Int.ofNat_tmod _ _).symm
  generalize n1 % (coursesR h).length = j at hj ej
  have hcm := List.getElem_mem hj
  have hok := (mem_coursesR hv _).1 hcm
  generalize hce : (coursesR h)[j] = c at hcm hok
  have hcl := courseOK_len hok
  simp only [go_sem, reduceIte, reduceCtorEq, Nat.reduceEqDiff, Nat.reduceBEq, Nat.reduceAdd, Nat.reduceMul, Nat.reduceLeDiff, List.getElem?_cons_zero, List.getElem?_cons_succ, bne_self_eq_false, Int.reduceEq, eCL, a3, ej, show ¬ ((coursesR h).length : Int) = 0 by omega, map_get (f := eCr) hj, hce, eCr]
  have B1 : updH H b1 (.box [.slice (h.table.women.map eW), .slice (h.table.pieces.map eP), i6 h.table.wrong, .slice (eI h.sick), i6 h.others, i6 h.last, .slice (h.touches.map eTo), .slice (h.boiled.map eB), .slice (h.signs.map eS)]) b1 = some (.box [.slice (h.table.women.map eW), .slice (h.table.pieces.map eP), i6 h.table.wrong, .slice (eI h.sick), i6 h.others, i6 h.last, .slice (h.touches.map eTo), .slice (h.boiled.map eB), .slice (h.signs.map eS)]) := updH_same _ _ _
  generalize updH H b1 (.box [.slice (h.table.women.map eW), .slice (h.table.pieces.map eP), i6 h.table.wrong, .slice (eI h.sick), i6 h.others, i6 h.last, .slice (h.touches.map eTo), .slice (h.boiled.map eB), .slice (h.signs.map eS)]) = H1 at e1 B1 ⊢
  refine v_alloc' fun b16 H2 hn16 B16 st => ?_
  have z16 := e1.isNone hn16
  have m16 := ne_of B1 hn16
  have B1 := st.keep b1 _ m16 B1
  have e2 := st.ext H e1 z16
  simp only [go_sem, reduceIte, reduceCtorEq, Nat.reduceEqDiff, Nat.reduceBEq, Nat.reduceAdd, Nat.reduceMul, Nat.reduceLeDiff, List.getElem?_cons_zero, List.getElem?_cons_succ, bne_self_eq_false, Int.reduceEq, B1]
  refine v_store' B16 rfl rfl (by simp [AV.cells, AV.isCell]) (by simp) fun H3 B16 st => ?_
  have B1 := st.keep b1 _ m16 B1
  have e3 := st.ext H e2 z16
  replace B16 : H3 b16 = some (.box [.slice (eI c.owners), .slice (eI c.hours)]) := B16
  simp only [go_sem, reduceIte, reduceCtorEq, Nat.reduceEqDiff, Nat.reduceBEq, Nat.reduceAdd, Nat.reduceMul, Nat.reduceLeDiff, List.getElem?_cons_zero, List.getElem?_cons_succ, bne_self_eq_false, Int.reduceEq, B1]
  refine atl_cut (I := fun env H6 => Ext H H6 ∧ H6 b1 = some (.box [.slice (h.table.women.map eW), .slice (h.table.pieces.map eP), i6 h.table.wrong, .slice (eI h.sick), i6 h.others, i6 h.last, .slice (h.touches.map eTo), .slice (h.boiled.map eB), .slice (h.signs.map eS)]) ∧ H6 b16 = some (.box [.slice (eI c.owners), .slice (eI c.hours)]) ∧ env 5 = .ptr b1 0 ∧ env 11 = i6 (nT h) ∧ env 12 = i6 (hourK h n) ∧ env 13 = i6 A ∧ env 14 = i6 B ∧ env 16 = .ptr b16 0 ∧ env 179 = .any ∧ ∃ b6 b7, b6 ≠ b7 ∧ b1 ≠ b6 ∧ b1 ≠ b7 ∧ b16 ≠ b6 ∧ b16 ≠ b7 ∧ H b6 = none ∧ H b7 = none ∧ env 17 = .ptr b6 0 ∧ env 18 = .ptr b7 0 ∧ H6 b6 = some (.box [.slice (h.table.women.map eW), .slice (h.table.pieces.map eP), i6 h.table.wrong, .slice (eI h.sick), i6 h.others, i6 h.last, .slice (h.touches.map eTo), .slice (h.boiled.map eB), .slice (h.signs.map eS)]) ∧ H6 b7 = some (.box [.slice (h.table.women.map eW), .slice (h.table.pieces.map eP), i6 h.table.wrong, .slice (eI h.sick), i6 h.others, i6 h.last, .slice (h.touches.map eTo), .slice (h.boiled.map eB), .slice (h.signs.map eS)])) ?_ ?_
  · rw [l_alt]
    constructor
    · simp only [go_sem, reduceIte, reduceCtorEq, Nat.reduceEqDiff, Nat.reduceBEq, Nat.reduceAdd, Nat.reduceMul, Nat.reduceLeDiff, List.getElem?_cons_zero, List.getElem?_cons_succ, bne_self_eq_false, Int.reduceEq]
      refine v_alloc' fun b6 H4 hn6 hb6 st6 => ?_
      have n16 := ne_of B1 hn6
      have n166 := ne_of B16 hn6
      have B1 := st6.keep b1 _ n16 B1
      have B16 := st6.keep b16 _ n166 B16
      have z6 := e3.isNone hn6
      have e4 := st6.ext H e3 z6
      simp only [go_sem, reduceIte, reduceCtorEq, Nat.reduceEqDiff, Nat.reduceBEq, Nat.reduceAdd, Nat.reduceMul, Nat.reduceLeDiff, List.getElem?_cons_zero, List.getElem?_cons_succ, bne_self_eq_false, Int.reduceEq, B1]
      refine v_alloc' fun b7 H5 hn7 hb7 st7 => ?_
      have n17 := ne_of B1 hn7
      have n167 := ne_of B16 hn7
      have n67 := ne_of hb6 hn7
      have B1 := st7.keep b1 _ n17 B1
      have B16 := st7.keep b16 _ n167 B16
      have hb6 := st7.keep b6 _ n67 hb6
      have z7 := e4.isNone hn7
      have e5 := st7.ext H e4 z7
      simp only [go_sem, reduceIte, reduceCtorEq, Nat.reduceEqDiff, Nat.reduceBEq, Nat.reduceAdd, Nat.reduceMul, Nat.reduceLeDiff, List.getElem?_cons_zero, List.getElem?_cons_succ, bne_self_eq_false, Int.reduceEq, B1]
      refine v_store' hb6 rfl rfl (by simp [AV.cells, AV.isCell]) (by simp) fun H6 hc6 st => ?_
      have B1 := st.keep b1 _ n16 B1
      have B16 := st.keep b16 _ n166 B16
      have hb7 := st.keep b7 _ n67.symm hb7
      have e6 := st.ext H e5 z6
      simp only [go_sem, reduceIte, reduceCtorEq, Nat.reduceEqDiff, Nat.reduceBEq, Nat.reduceAdd, Nat.reduceMul, Nat.reduceLeDiff, List.getElem?_cons_zero, List.getElem?_cons_succ, bne_self_eq_false, Int.reduceEq, B1]
      refine v_store' hb7 rfl rfl (by simp [AV.cells, AV.isCell]) (by simp) fun H7 hc7 st => ?_
      have B1 := st.keep b1 _ n17 B1
      have B16 := st.keep b16 _ n167 B16
      have hc6 := st.keep b6 _ n67 hc6
      have e7 := st.ext H e6 z7
      simp only [go_sem, reduceIte, reduceCtorEq, Nat.reduceEqDiff, Nat.reduceBEq, Nat.reduceAdd, Nat.reduceMul, Nat.reduceLeDiff, List.getElem?_cons_zero, List.getElem?_cons_succ, bne_self_eq_false, Int.reduceEq, B1, B16]
      exact ⟨e7, b6, b7, n67, n16, n17, n166, n167, z6, z7, rfl, rfl, hc6, hc7⟩
    · simp only [go_sem, reduceIte, reduceCtorEq, Nat.reduceEqDiff, Nat.reduceBEq, Nat.reduceAdd, Nat.reduceMul, Nat.reduceLeDiff, List.getElem?_cons_zero, List.getElem?_cons_succ, bne_self_eq_false, Int.reduceEq]
      refine v_alloc' fun b7 H4 hn7 hb7 st7 => ?_
      have n17 := ne_of B1 hn7
      have n167 := ne_of B16 hn7
      have B1 := st7.keep b1 _ n17 B1
      have B16 := st7.keep b16 _ n167 B16
      have z7 := e3.isNone hn7
      have e4 := st7.ext H e3 z7
      simp only [go_sem, reduceIte, reduceCtorEq, Nat.reduceEqDiff, Nat.reduceBEq, Nat.reduceAdd, Nat.reduceMul, Nat.reduceLeDiff, List.getElem?_cons_zero, List.getElem?_cons_succ, bne_self_eq_false, Int.reduceEq, B1]
      refine v_alloc' fun b6 H5 hn6 hb6 st6 => ?_
      have n16 := ne_of B1 hn6
      have n166 := ne_of B16 hn6
      have n76 := ne_of hb7 hn6
      have B1 := st6.keep b1 _ n16 B1
      have B16 := st6.keep b16 _ n166 B16
      have hb7 := st6.keep b7 _ n76 hb7
      have z6 := e4.isNone hn6
      have e5 := st6.ext H e4 z6
      simp only [go_sem, reduceIte, reduceCtorEq, Nat.reduceEqDiff, Nat.reduceBEq, Nat.reduceAdd, Nat.reduceMul, Nat.reduceLeDiff, List.getElem?_cons_zero, List.getElem?_cons_succ, bne_self_eq_false, Int.reduceEq, B1]
      refine v_store' hb6 rfl rfl (by simp [AV.cells, AV.isCell]) (by simp) fun H6 hc6 st => ?_
      have B1 := st.keep b1 _ n16 B1
      have B16 := st.keep b16 _ n166 B16
      have hb7 := st.keep b7 _ n76 hb7
      have e6 := st.ext H e5 z6
      simp only [go_sem, reduceIte, reduceCtorEq, Nat.reduceEqDiff, Nat.reduceBEq, Nat.reduceAdd, Nat.reduceMul, Nat.reduceLeDiff, List.getElem?_cons_zero, List.getElem?_cons_succ, bne_self_eq_false, Int.reduceEq, B1]
      refine v_store' hb7 rfl rfl (by simp [AV.cells, AV.isCell]) (by simp) fun H7 hc7 st => ?_
      have B1 := st.keep b1 _ n17 B1
      have B16 := st.keep b16 _ n167 B16
      have hc6 := st.keep b6 _ n76.symm hc6
      have e7 := st.ext H e6 z7
      simp only [go_sem, reduceIte, reduceCtorEq, Nat.reduceEqDiff, Nat.reduceBEq, Nat.reduceAdd, Nat.reduceMul, Nat.reduceLeDiff, List.getElem?_cons_zero, List.getElem?_cons_succ, bne_self_eq_false, Int.reduceEq, B1, B16]
      exact ⟨e7, b6, b7, n76.symm, n16, n17, n166, n167, z6, z7, rfl, rfl, hc6, hc7⟩
  clear e1 e2 e3 B1 B16 st
  rintro env H6 ⟨e6, B1, B16, g5, g11, g12, g13, g14, g16, hN, b6, b7, n67, n16, n17, n166, n167, z6, z7, g17, g18, B6, B7⟩
  simp only [go_sem, reduceIte, reduceCtorEq, Nat.reduceEqDiff, Nat.reduceBEq, Nat.reduceAdd, Nat.reduceMul, Nat.reduceLeDiff, List.getElem?_cons_zero, List.getElem?_cons_succ, bne_self_eq_false, Int.reduceEq, g5, g11, g12, g13, g14, g16, g17, g18, hN, B1, B6, B7]
  refine v_store' B6 rfl rfl (by simp [AV.cells, AV.isCell]) (by simp) fun H7 B6 st => ?_
  have B1 := st.keep b1 _ n16 B1
  have B16 := st.keep b16 _ n166 B16
  have B7 := st.keep b7 _ n67.symm B7
  have e7 := st.ext H e6 z6
  replace B6 : H7 b6 = some (.box (hc4 h (.slice (eI h.sick)) (.slice (h.touches.map eTo)) (.slice (h.boiled.map eB)) .emp)) := B6
  simp only [go_sem, reduceIte, reduceCtorEq, Nat.reduceEqDiff, Nat.reduceBEq, Nat.reduceAdd, Nat.reduceMul, Nat.reduceLeDiff, List.getElem?_cons_zero, List.getElem?_cons_succ, bne_self_eq_false, Int.reduceEq, g5, g11, g12, g13, g14, g16, g17, g18, hN, B1, B6, B7]
  refine v_store' B7 rfl rfl (by simp [AV.cells, AV.isCell]) (by simp) fun H8 B7 st => ?_
  have B1 := st.keep b1 _ n17 B1
  have B16 := st.keep b16 _ n167 B16
  have B6 := st.keep b6 _ n67 B6
  have e8 := st.ext H e7 z7
  replace B7 : H8 b7 = some (.box (hc4 h (.slice (eI h.sick)) (.slice (h.touches.map eTo)) (.slice (h.boiled.map eB)) .emp)) := B7
  clear e6 e7
  simp only [go_sem, reduceIte, reduceCtorEq, Nat.reduceEqDiff, Nat.reduceBEq, Nat.reduceAdd, Nat.reduceMul, Nat.reduceLeDiff, List.getElem?_cons_zero, List.getElem?_cons_succ, bne_self_eq_false, Int.reduceEq, g5, g11, g12, g13, g14, g16, g17, g18, hN, B1, take_f']
  refine v_append (v := .emp) (es := []) (H0 := H) (.inl ⟨rfl, rfl⟩) e8 rfl (fun e he => by cases he) (eTo_good h.touches) (eTo_cell h.touches) (by simp; omega) (by simp; omega) ?_
  intro v1 H9 hg1 e9 hk
  rw [List.nil_append] at hg1
  have B1 := hk.box (sz := 4) (H0 := H) (es := []) (.inl ⟨rfl, rfl⟩) B1
  have B16 := hk.box (sz := 4) (H0 := H) (es := []) (.inl ⟨rfl, rfl⟩) B16
  have B6 := hk.box (sz := 4) (H0 := H) (es := []) (.inl ⟨rfl, rfl⟩) B6
  have B7 := hk.box (sz := 4) (H0 := H) (es := []) (.inl ⟨rfl, rfl⟩) B7
  simp only [go_sem, reduceIte, reduceCtorEq, Nat.reduceEqDiff, Nat.reduceBEq, Nat.reduceAdd, Nat.reduceMul, Nat.reduceLeDiff, List.getElem?_cons_zero, List.getElem?_cons_succ, bne_self_eq_false, Int.reduceEq, g5, g11, g12, g13, g14, g16, g17, g18, hN, B1, bc2, bcTo, Option.map_some, d_bsa]
  refine v_append hg1 e9 rfl (eTo_good _) (eTo_good [⟨(A : Int), (B : Int), hourK h n, hourK h n⟩]) (eTo_cell [⟨(A : Int), (B : Int), hourK h n, hourK h n⟩]) (by simp; omega) (by simp; omega) ?_
  intro v2 H10 hg2 e10 hk
  have B1 := hk.box hg1 B1
  have B16 := hk.box hg1 B16
  have B6 := hk.box hg1 B6
  have B7 := hk.box hg1 B7
  simp only [go_sem, reduceIte, reduceCtorEq, Nat.reduceEqDiff, Nat.reduceBEq, Nat.reduceAdd, Nat.reduceMul, Nat.reduceLeDiff, List.getElem?_cons_zero, List.getElem?_cons_succ, bne_self_eq_false, Int.reduceEq, g5, g11, g12, g13, g14, g16, g17, g18, hN]
  refine v_store' B6 hg2.one.1 hg2.one.2.1 hg2.one.2.2 (by simp [hc4]) fun H11 B6 st => ?_
  have B1 := st.keep b1 _ n16 B1
  have B16 := st.keep b16 _ n166 B16
  have B7 := st.keep b7 _ n67.symm B7
  have e11 := st.ext H e10 z6
  have wt : Wk v2 (.slice ((h.touches ++ ([⟨(A : Int), (B : Int), hourK h n, hourK h n⟩] : List Touch)).map eTo)) := by rw [List.map_append]; exact hg2.wk
  replace B6 : H11 b6 = some (.box (hc4 h (.slice (eI h.sick)) v2 (.slice (h.boiled.map eB)) .emp)) := by rw [B6, hg2.cellv.2.1]; rfl
  clear e8 e9 e10 hk
  simp only [go_sem, reduceIte, reduceCtorEq, Nat.reduceEqDiff, Nat.reduceBEq, Nat.reduceAdd, Nat.reduceMul, Nat.reduceLeDiff, List.getElem?_cons_zero, List.getElem?_cons_succ, bne_self_eq_false, Int.reduceEq, g5, g11, g12, g13, g14, g16, g17, g18, hN, B1, take_f']
  refine v_append (v := .emp) (es := []) (H0 := H) (.inl ⟨rfl, rfl⟩) e11 rfl (fun e he => by cases he) (eB_good h.boiled) (eB_cell h.boiled) (by simp; omega) (by simp; omega) ?_
  intro v3 H12 hg3 e12 hk
  rw [List.nil_append] at hg3
  have B1 := hk.box (sz := 2) (H0 := H) (es := []) (.inl ⟨rfl, rfl⟩) B1
  have B16 := hk.box (sz := 2) (H0 := H) (es := []) (.inl ⟨rfl, rfl⟩) B16
  have B6 := hk.box (sz := 2) (H0 := H) (es := []) (.inl ⟨rfl, rfl⟩) B6
  have B7 := hk.box (sz := 2) (H0 := H) (es := []) (.inl ⟨rfl, rfl⟩) B7
  simp only [go_sem, reduceIte, reduceCtorEq, Nat.reduceEqDiff, Nat.reduceBEq, Nat.reduceAdd, Nat.reduceMul, Nat.reduceLeDiff, List.getElem?_cons_zero, List.getElem?_cons_succ, bne_self_eq_false, Int.reduceEq, g5, g11, g12, g13, g14, g16, g17, g18, hN, B1, bc2, Option.map_some, d_bsa]
  refine v_append hg3 e12 rfl (eB_good _) (eB_good [⟨(A : Int), hourK h n⟩]) (eB_cell [⟨(A : Int), hourK h n⟩]) (by simp; omega) (by simp; omega) ?_
  intro v4 H13 hg4 e13 hk
  have B1 := hk.box hg3 B1
  have B16 := hk.box hg3 B16
  have B6 := hk.box hg3 B6
  have B7 := hk.box hg3 B7
  simp only [go_sem, reduceIte, reduceCtorEq, Nat.reduceEqDiff, Nat.reduceBEq, Nat.reduceAdd, Nat.reduceMul, Nat.reduceLeDiff, List.getElem?_cons_zero, List.getElem?_cons_succ, bne_self_eq_false, Int.reduceEq, g5, g11, g12, g13, g14, g16, g17, g18, hN]
  refine v_store' B7 hg4.one.1 hg4.one.2.1 hg4.one.2.2 (by simp [hc4]) fun H14 B7 st => ?_
  have B1 := st.keep b1 _ n17 B1
  have B16 := st.keep b16 _ n167 B16
  have B6 := st.keep b6 _ n67 B6
  have e14 := st.ext H e13 z7
  have wb : Wk v4 (.slice ((h.boiled ++ ([⟨(A : Int), hourK h n⟩] : List Boiling)).map eB)) := by rw [List.map_append]; exact hg4.wk
  replace B7 : H14 b7 = some (.box (hc4 h (.slice (eI h.sick)) (.slice (h.touches.map eTo)) v4 .emp)) := by rw [B7, hg4.cellv.2.1]; rfl
  clear e11 e12 e13 hk st hg1 hg2 hg3 hg4
  -- the three houses
  have tok : touchOK h ⟨(A : Int), (B : Int), hourK h n, hourK h n⟩ = true := by
    simp only [touchOK, thing_nat hv.ok hA, thing_nat hv.ok hB, hh, decide_eq_false (show ¬ (A : Int) = (B : Int) by omega)]; simp
  have bok : boilOK h ⟨(A : Int), hourK h n⟩ = true := by rw [boilOK, thing_nat hv.ok hA, hh]; rfl
  have xm : HSm (reS (addT h ⟨(A : Int), (B : Int), hourK h n, hourK h n⟩) []) := (hm.touches' (by omega)).signs' (by simp)
  have ym : HSm (reS (addB h ⟨(A : Int), hourK h n⟩) []) := (hm.boiled' (by omega)).signs' (by simp)
  have xc := check_addT hc (show h.touches.length ≤ 5 by omega) tok rfl
  have yc := check_addB hc (show h.boiled.length ≤ 3 by omega) bok
  have xv := hv_of xm.tsm xm.sk xc
  have yv := hv_of ym.tsm ym.sk yc
  have xok := course_addT hok (t := ⟨(A : Int), (B : Int), hourK h n, hourK h n⟩) (k := hourK h n) rfl rfl
  have yok : courseOK (reS (addB h ⟨(A : Int), hourK h n⟩) []) c = true := hok
  have p1 : playE h c = 0 := by rw [playE, if_pos hc, hok]; rfl
  have p2 : playE (reS (addT h ⟨(A : Int), (B : Int), hourK h n, hourK h n⟩) []) ⟨c.owners, c.hours ++ [hourK h n]⟩ = 0 := by rw [playE, if_pos xc, xok]; rfl
  have p3 : playE (reS (addB h ⟨(A : Int), hourK h n⟩) []) c = 0 := by rw [playE, if_pos yc, yok]; rfl
  have l1 := touched_more hv.ok xv.ok hcl.2 (hourK h n)
  have l2 := boiled_less hv.ok yv.ok c
  have lless : (truesUpto (lastOf (reS (addB h ⟨(A : Int), hourK h n⟩) []) c []) 10).length ≤ nT h := inc_len (trues_inc fun i hi => last_sub yc yv.ok c [] i hi)
  have wx : Wk (.agg (hc4 h (.slice (eI h.sick)) v2 (.slice (h.boiled.map eB)) .emp)) (eH (reS (addT h ⟨(A : Int), (B : Int), hourK h n, hourK h n⟩) [])) := wkH rfl rfl rfl (Wk.refl _) wt (Wk.refl _) Wk.emp
  have wy : Wk (.agg (hc4 h (.slice (eI h.sick)) (.slice (h.touches.map eTo)) v4 .emp)) (eH (reS (addB h ⟨(A : Int), hourK h n⟩) [])) := wkH rfl rfl rfl (Wk.refl _) (Wk.refl _) wb Wk.emp
  generalize hx : reS (addT h ⟨(A : Int), (B : Int), hourK h n, hourK h n⟩) [] = x at xm xc xv xok p2 l1 wx
  generalize hy : reS (addB h ⟨(A : Int), hourK h n⟩) [] = y at ym yc yv yok p3 l2 lless wy
  have htl := hv.ok.touches
  have hpl := hv.ok.pcs
  simp only [go_sem, reduceIte, reduceCtorEq, Nat.reduceEqDiff, Nat.reduceBEq, Nat.reduceAdd, Nat.reduceMul, Nat.reduceLeDiff, List.getElem?_cons_zero, List.getElem?_cons_succ, bne_self_eq_false, Int.reduceEq, g5, g11, g12, g13, g14, g16, g17, g18, hN, B1, B16]
  refine pgo_call (house_c h hm) ?_
  simp only [go_sem, reduceIte, reduceCtorEq, Nat.reduceEqDiff, Nat.reduceBEq, Nat.reduceAdd, Nat.reduceMul, Nat.reduceLeDiff, List.getElem?_cons_zero, List.getElem?_cons_succ, bne_self_eq_false, Int.reduceEq, g5, g11, g12, g13, g14, g16, g17, g18, hN, B1, B16]
  refine pgo_call (course_c c (by omega) (by omega)) ?_
  simp only [go_sem, reduceIte, reduceCtorEq, Nat.reduceEqDiff, Nat.reduceBEq, Nat.reduceAdd, Nat.reduceMul, Nat.reduceLeDiff, List.getElem?_cons_zero, List.getElem?_cons_succ, bne_self_eq_false, Int.reduceEq]
  refine pgo_call (playS_c h hm.tsm hm.sk c (by unfold Sm; omega) (by unfold Sm; omega)) ?_
  simp only [go_sem, reduceIte, reduceCtorEq, Nat.reduceEqDiff, Nat.reduceBEq, Nat.reduceAdd, Nat.reduceMul, Nat.reduceLeDiff, List.getElem?_cons_zero, List.getElem?_cons_succ, bne_self_eq_false, Int.reduceEq, listR, p1, g5, g11, g12, g13, g14, g16, g17, g18, hN, B1, B16, B6, hc4]
  refine pgo_call ((house_c x xm).wk wx) ?_
  simp only [go_sem, reduceIte, reduceCtorEq, Nat.reduceEqDiff, Nat.reduceBEq, Nat.reduceAdd, Nat.reduceMul, Nat.reduceLeDiff, List.getElem?_cons_zero, List.getElem?_cons_succ, bne_self_eq_false, Int.reduceEq, g5, g11, g12, g13, g14, g16, g17, g18, hN, B1, B16, take_f']
  refine pgo_call (copyL_c _ (by omega)) ?_
  simp only [go_sem, reduceIte, reduceCtorEq, Nat.reduceEqDiff, Nat.reduceBEq, Nat.reduceAdd, Nat.reduceMul, Nat.reduceLeDiff, List.getElem?_cons_zero, List.getElem?_cons_succ, bne_self_eq_false, Int.reduceEq, g5, g11, g12, g13, g14, g16, g17, g18, hN, B1, B16, take_f', d_bs1, List.drop_succ_cons, List.drop_zero, List.getElem?_cons_zero]
  refine (copyG_c c.hours (by omega) _).mono fun r H15 ⟨e15, hg5⟩ => ?_
  have B1 := e15 _ _ B1
  have B16 := e15 _ _ B16
  have B7 := e15 _ _ B7
  simp only [go_sem, reduceIte, reduceCtorEq, Nat.reduceEqDiff, Nat.reduceBEq, Nat.reduceAdd, Nat.reduceMul, Nat.reduceLeDiff, List.getElem?_cons_zero, List.getElem?_cons_succ, bne_self_eq_false, Int.reduceEq, g5, g11, g12, g13, g14, g16, g17, g18, hN]
  refine v_append hg5 e15 rfl (eI_good _) (one_good _) (one_cell _) (by simp; omega) (by simp; omega) ?_
  intro v5 H16 hg6 e16 hk
  have B1 := hk.box hg5 B1
  have B16 := hk.box hg5 B16
  have B7 := hk.box hg5 B7
  have wc : Wk (.agg [.slice (eI c.owners), v5]) (eC ⟨c.owners, c.hours ++ [hourK h n]⟩) := wkC (c := ⟨c.owners, c.hours ++ [hourK h n]⟩) (by
    show Wk v5 (.slice (eI (c.hours ++ [hourK h n])))
    rw [eI_app]; exact hg6.wk)
  simp only [go_sem, reduceIte, reduceCtorEq, Nat.reduceEqDiff, Nat.reduceBEq, Nat.reduceAdd, Nat.reduceMul, Nat.reduceLeDiff, List.getElem?_cons_zero, List.getElem?_cons_succ, bne_self_eq_false, Int.reduceEq, g5, g11, g12, g13, g14, g16, g17, g18, hN, bcC _ hg6.cellv.1 hg6.cellv.2.1, Option.map_some]
  refine ACalls.argB (fun w v hr => wc _ w v hr) ?_
  refine (playS_c x xm.tsm xm.sk ⟨c.owners, c.hours ++ [hourK h n]⟩ (by show Sm c.owners.length; unfold Sm; omega) (by show Sm (c.hours ++ [hourK h n]).length; unfold Sm; simp; omega)).go ?_
  simp only [go_sem, reduceIte, reduceCtorEq, Nat.reduceEqDiff, Nat.reduceBEq, Nat.reduceAdd, Nat.reduceMul, Nat.reduceLeDiff, List.getElem?_cons_zero, List.getElem?_cons_succ, bne_self_eq_false, Int.reduceEq, listR, p2]
  have e17 : Ext H H16 := e14.trans e16
  refine atl_cut (I := fun env H6 => H6 = H16 ∧ env 5 = .ptr b1 0 ∧ env 11 = i6 (nT h) ∧ env 16 = .ptr b16 0 ∧ env 18 = .ptr b7 0 ∧ env 19 = .slice (eI (truesUpto (lastOf h c []) 10)) ∧ env 20 = i6 0 ∧ env 21 = .slice (eI (truesUpto (lastOf x ⟨c.owners, c.hours ++ [hourK h n]⟩ []) 10)) ∧ env 22 = i6 0 ∧ env 179 = .any) ?_ ?_
  · rw [l_alt]
    constructor
    · simp only [go_sem, reduceIte, reduceCtorEq, Nat.reduceEqDiff, Nat.reduceBEq, Nat.reduceAdd, Nat.reduceMul, Nat.reduceLeDiff, List.getElem?_cons_zero, List.getElem?_cons_succ, bne_self_eq_false, Int.reduceEq]
      rw [l_alt]
      constructor
      · simp only [go_sem, reduceIte, reduceCtorEq, Nat.reduceEqDiff, Nat.reduceBEq, Nat.reduceAdd, Nat.reduceMul, Nat.reduceLeDiff, List.getElem?_cons_zero, List.getElem?_cons_succ, bne_self_eq_false, Int.reduceEq, g5, g11, g16, g18, hN]
      · simp only [go_sem, reduceIte, reduceCtorEq, Nat.reduceEqDiff, Nat.reduceBEq, Nat.reduceAdd, Nat.reduceMul, Nat.reduceLeDiff, List.getElem?_cons_zero, List.getElem?_cons_succ, bne_self_eq_false, Int.reduceEq, g5, g11, g16, g18, hN]
    · simp only [go_sem, reduceIte, reduceCtorEq, Nat.reduceEqDiff, Nat.reduceBEq, Nat.reduceAdd, Nat.reduceMul, Nat.reduceLeDiff, List.getElem?_cons_zero, List.getElem?_cons_succ, bne_self_eq_false, Int.reduceEq, g5, g11, g16, g18, hN]
  clear g5 g11 g12 g13 g14 g16 g17 g18 hN hg5 hg6 hk e15 e16 e14 B6 env
  rintro env H17 ⟨rfl, g5, g11, g16, g18, g19, g20, g21, g22, hN⟩
  simp only [go_sem, reduceIte, reduceCtorEq, Nat.reduceEqDiff, Nat.reduceBEq, Nat.reduceAdd, Nat.reduceMul, Nat.reduceLeDiff, List.getElem?_cons_zero, List.getElem?_cons_succ, bne_self_eq_false, Int.reduceEq, g5, g11, g16, g18, g19, g20, g21, g22, hN, B1, B16, B7, hc4]
  refine pgo_call ((house_c y ym).wk wy) ?_
  simp only [go_sem, reduceIte, reduceCtorEq, Nat.reduceEqDiff, Nat.reduceBEq, Nat.reduceAdd, Nat.reduceMul, Nat.reduceLeDiff, List.getElem?_cons_zero, List.getElem?_cons_succ, bne_self_eq_false, Int.reduceEq, g5, g11, g16, g18, g19, g20, g21, g22, hN, B1, B16]
  refine pgo_call (course_c c (by omega) (by omega)) ?_
  simp only [go_sem, reduceIte, reduceCtorEq, Nat.reduceEqDiff, Nat.reduceBEq, Nat.reduceAdd, Nat.reduceMul, Nat.reduceLeDiff, List.getElem?_cons_zero, List.getElem?_cons_succ, bne_self_eq_false, Int.reduceEq]
  refine pgo_call (playS_c y ym.tsm ym.sk c (by unfold Sm; omega) (by unfold Sm; omega)) ?_
  simp only [go_sem, reduceIte, reduceCtorEq, Nat.reduceEqDiff, Nat.reduceBEq, Nat.reduceAdd, Nat.reduceMul, Nat.reduceLeDiff, List.getElem?_cons_zero, List.getElem?_cons_succ, bne_self_eq_false, Int.reduceEq, listR, p3, g5, g11, g16, g18, g19, g20, g21, g22, hN, show ¬ (nT h : Int) < ((truesUpto (lastOf y c []) 10).length : Int) by omega, bne_self_eq_false]
  refine x_for (nT h) (fun j env H1 => Ext H H1 ∧ env 11 = i6 (nT h) ∧ env 19 = .slice (eI (truesUpto (lastOf h c []) 10)) ∧ env 21 = .slice (eI (truesUpto (lastOf x ⟨c.owners, c.hours ++ [hourK h n]⟩ []) 10)) ∧ env 23 = .slice (eI (truesUpto (lastOf y c []) 10)) ∧ env 25 = i6 j ∧ env 179 = .any)
    ⟨e17, by simp [upd_at, g11], by simp [upd_at, g19], by simp [upd_at, g21], by simp [upd_at], by simp [upd_at], by simp [upd_at, hN]⟩ ?_
  clear g5 g11 g16 g18 g19 g20 g21 g22 hN e17 B1 B16 B7
  rintro i env H1 hi ⟨hE, g11, g19, g21, g23, g25, hN⟩
  have s1 : Sm (truesUpto (lastOf h c []) 10).length := by have := truesUpto_len (lastOf h c []) 10; unfold Sm; omega
  have s2 : Sm (truesUpto (lastOf x ⟨c.owners, c.hours ++ [hourK h n]⟩ []) 10).length := by have := truesUpto_len (lastOf x ⟨c.owners, c.hours ++ [hourK h n]⟩ []) 10; unfold Sm; omega
  have s3 : Sm (truesUpto (lastOf y c []) 10).length := by have := truesUpto_len (lastOf y c []) 10; unfold Sm; omega
  have i1 : (i : Int) ∈ truesUpto (lastOf h c []) 10 → (i : Int) ∈ truesUpto (lastOf x ⟨c.owners, c.hours ++ [hourK h n]⟩ []) 10 := fun hm => by
    rw [mem_trues] at hm ⊢; exact ⟨hm.1, l1 i hm.2⟩
  have i2 : (i : Int) ∈ truesUpto (lastOf y c []) 10 → (i : Int) ∈ truesUpto (lastOf h c []) 10 := fun hm => by
    rw [mem_trues] at hm ⊢; exact ⟨hm.1, l2 i hm.2⟩
  by_cases hlt : (i : Int) < (nT h : Int)
  · have hlt' : i < nT h := by omega
    simp only [go_sem, reduceIte, reduceCtorEq, Nat.reduceEqDiff, Nat.reduceBEq, Nat.reduceAdd, Nat.reduceMul, Nat.reduceLeDiff, List.getElem?_cons_zero, List.getElem?_cons_succ, bne_self_eq_false, Int.reduceEq, g11, g19, g21, g23, g25, hN, hlt]
    refine (has_c _ _ s1).go ?_
    by_cases q1 : (i : Int) ∈ truesUpto (lastOf h c []) 10
    · have q2 := i1 q1
      simp only [go_sem, reduceIte, reduceCtorEq, Nat.reduceEqDiff, Nat.reduceBEq, Nat.reduceAdd, Nat.reduceMul, Nat.reduceLeDiff, List.getElem?_cons_zero, List.getElem?_cons_succ, bne_self_eq_false, Int.reduceEq, g11, g19, g21, g23, g25, hN, q1]
      refine (has_c _ _ s2).go ?_
      simp only [go_sem, reduceIte, reduceCtorEq, Nat.reduceEqDiff, Nat.reduceBEq, Nat.reduceAdd, Nat.reduceMul, Nat.reduceLeDiff, List.getElem?_cons_zero, List.getElem?_cons_succ, bne_self_eq_false, Int.reduceEq, g11, g19, g21, g23, g25, hN, q2]
      refine (has_c _ _ s3).go ?_
      by_cases q3 : (i : Int) ∈ truesUpto (lastOf y c []) 10
      · simp only [go_sem, reduceIte, reduceCtorEq, Nat.reduceEqDiff, Nat.reduceBEq, Nat.reduceAdd, Nat.reduceMul, Nat.reduceLeDiff, List.getElem?_cons_zero, List.getElem?_cons_succ, bne_self_eq_false, Int.reduceEq, g11, g19, g21, g23, g25, hN, q3]
        refine (has_c _ _ s1).go ?_
        simp only [go_sem, reduceIte, reduceCtorEq, Nat.reduceEqDiff, Nat.reduceBEq, Nat.reduceAdd, Nat.reduceMul, Nat.reduceLeDiff, List.getElem?_cons_zero, List.getElem?_cons_succ, bne_self_eq_false, Int.reduceEq, g11, g19, g21, g23, g25, hN, q1, wsucc (show i < 4611686018427387904 by omega), hlt']
        exact hE
      · simp only [go_sem, reduceIte, reduceCtorEq, Nat.reduceEqDiff, Nat.reduceBEq, Nat.reduceAdd, Nat.reduceMul, Nat.reduceLeDiff, List.getElem?_cons_zero, List.getElem?_cons_succ, bne_self_eq_false, Int.reduceEq, g11, g19, g21, g23, g25, hN, q3, wsucc (show i < 4611686018427387904 by omega), hlt']
        exact hE
    · have q3 : ¬ (i : Int) ∈ truesUpto (lastOf y c []) 10 := fun hm => q1 (i2 hm)
      simp only [go_sem, reduceIte, reduceCtorEq, Nat.reduceEqDiff, Nat.reduceBEq, Nat.reduceAdd, Nat.reduceMul, Nat.reduceLeDiff, List.getElem?_cons_zero, List.getElem?_cons_succ, bne_self_eq_false, Int.reduceEq, g11, g19, g21, g23, g25, hN, q1]
      refine (has_c _ _ s3).go ?_
      simp only [go_sem, reduceIte, reduceCtorEq, Nat.reduceEqDiff, Nat.reduceBEq, Nat.reduceAdd, Nat.reduceMul, Nat.reduceLeDiff, List.getElem?_cons_zero, List.getElem?_cons_succ, bne_self_eq_false, Int.reduceEq, g11, g19, g21, g23, g25, hN, q3, wsucc (show i < 4611686018427387904 by omega), hlt']
      exact hE
  · simp only [go_sem, reduceIte, reduceCtorEq, Nat.reduceEqDiff, Nat.reduceBEq, Nat.reduceAdd, Nat.reduceMul, Nat.reduceLeDiff, List.getElem?_cons_zero, List.getElem?_cons_succ, bne_self_eq_false, Int.reduceEq, g11, g19, g21, g23, g25, hN, hlt]
    refine awake_c.go ?_
    simp only [go_sem, reduceIte, reduceCtorEq, Nat.reduceEqDiff, Nat.reduceBEq, Nat.reduceAdd, Nat.reduceMul, Nat.reduceLeDiff, List.getElem?_cons_zero, List.getElem?_cons_succ, bne_self_eq_false, Int.reduceEq]
    exact fin_ret 10 (by simp [upd_at, hN]) ⟨_, H, Settle.refl hE, by simp [upd_at], rfl⟩
end Go.Lift

