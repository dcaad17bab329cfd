/- Part 26 of the proof: the tools and contracts. Conditions: none. -/
import Derived.Test.YthnfcdkiaihfcaaGreatP25
import Derived.Test.YthnfcdkiaihfcaaGreatProg
set_option maxRecDepth 100000
set_option linter.unusedVariables false
namespace Go.Lift
open Go Go.Proofs
def cert17 : Nat → Option Cert := fun
  | 6 => some ⟨[0, 1, 2, 3, 4, 5, 6, 7, 8, 9], .done, [[], [], [1], [0, 1, 2], [], [], [], [0, 1, 2, 3, 4, 5, 6], [0, 1, 2, 3, 4, 5, 6, 7], [0, 1, 2, 3, 4, 5, 6, 7, 8]]⟩
  | 7 => some ⟨[0, 1, 2, 3, 4, 5, 6, 7, 8, 9, 10, 11, 12, 13], .done, [[], [0], [], [], [0, 1, 3], [0, 1, 2, 3, 4], [], [0, 1, 2, 3, 4, 5, 6], [], [], [0, 1, 2, 3, 4, 5, 6, 7, 9], [0, 1, 2, 3, 4, 5, 6, 7, 8, 9, 10], [0, 1, 2, 3, 4, 5, 6, 7, 8, 9, 10, 11], [0, 1, 2, 3, 4, 5, 6, 7, 8, 9, 10, 11, 12]]⟩
  | _ => none
def ac17 : ACode :=(.seq (.ops [uO 4 .box 0, oA 8 .mov [kF]]) (.seq (.seq (.ops [uO 18 lT9 4, uO 19 (.call 35) 18, uO 20 .not 19]) (.cond (.t 20) (.seq (.ops [oA 21 (.call 20) [], uM 8 21]) .ret) .skip)) (.seq (.ops [uM 22 1, uO 23 (.conv .i64) 22, uO 24 fA5 4, uO 25 lF 24, oA 26 bA [.t 25, (kI 1)], uB 27 (.bin .rem) 23 26, uM 9 27]) (.seq (.ops [uO 29 lT9 4, uO 30 (.call 22) 29, uM 31 9, uB 32 (.call 44) 30 31, uM 28 32, uO 33 x0 28, uO 34 x1 28, uM 10 33, uM 11 34]) (.seq (.ops [uO 36 lT9 4, uO 37 (.call 22) 36, uM 38 9, uB 39 (.call 58) 37 38, uM 35 39, uO 40 x0 35, uO 41 x1 35, uM 12 40, uM 13 41]) (.seq (.draw [(false, uO 42 lT9 4), (false, uM 43 2), (false, uO 44 (.conv .i64) 43), (false, uB 45 (.call 72) 42 44), (false, uO 46 lT9 4), (false, uM 47 9), (false, uM 48 3), (false, oA 49 (.call 73) [.t 46, .t 47, .t 48]), (false, uM 14 45), (false, uM 15 49)] .done) (.seq (.draw [(false, uO 50 lT9 4), (false, uO 51 (.call 22) 50), (false, uM 52 9), (false, uM 53 14), (false, uO 54 (.call 39) 53), (false, oA 55 (.call 52) [.t 51, .t 52, .t 54, (kI 99)]), (false, uO 56 lT9 4), (false, uO 57 (.call 22) 56), (false, uM 58 9), (false, uM 59 15), (false, uO 60 (.call 39) 59), (false, oA 61 (.call 59) [.t 57, .t 58, .t 60, (kI 99)]), (false, uM 16 55), (false, uM 17 61)] .done) (.seq (.seq (.ops [uM 62 11, oA 63 bN [.t 62, (kI 0)]]) (.cond (.t 63) (.seq (.ops [uM 64 11, oA 65 bE [.t 64, (kI 11)], uM 66 65, gM 67 13 66 true, gM 68 11 66 true, gB 69 bE 67 68 66 true, oA 70 .pick [.t 66, .t 69, kF], uM 71 70, gM 72 16 71 true, gO 73 .not 72 71 true, oA 74 .pick [.t 71, .t 73, kF], uM 75 74, gM 76 17 75 true, gO 77 .not 76 75 true, oA 78 .pick [.t 75, .t 77, kF], uM 79 78, oG 80 (.call 20) [] 79 true, oA 81 .pick [.t 79, .t 80, kF], uM 8 81]) .ret) .skip)) (.seq (.seq (.ops [uO 82 lT9 4, uO 83 (.call 22) 82, uM 84 9, uM 85 10, uO 86 (.call 39) 85, uM 87 10, uO 88 .len 87, oA 89 (.call 52) [.t 83, .t 84, .t 86, .t 88], uO 90 .not 89, uM 91 90, gM 92 16 91 false, gM 93 92 91 false, gM 94 14 93 true, gM 95 10 93 true, gB 96 (.call 50) 94 95 93 true, oG 97 .pick [.t 93, .t 96, kF] 91 false, oA 98 .pick [.t 91, kT, .t 97]]) (.cond (.t 98) (.seq (.ops [oA 8 .mov [kF]]) .ret) .skip)) (.seq (.seq (.ops [uM 99 13, oA 100 bN [.t 99, (kI 0)]]) (.cond (.t 100) (.seq (.ops [uM 101 13, oA 102 bE [.t 101, (kI 10)], uM 103 102, gM 104 17 103 true, gO 105 .not 104 103 true, oA 106 .pick [.t 103, .t 105, kF], uM 107 106, oG 108 (.call 20) [] 107 true, oA 109 .pick [.t 107, .t 108, kF], uM 8 109]) .ret) .skip)) (.seq (.ops [uO 110 lT9 4, uO 111 (.call 22) 110, uM 112 9, uM 113 12, uO 114 (.call 39) 113, uM 115 12, uO 116 .len 115, oA 117 (.call 59) [.t 111, .t 112, .t 114, .t 116], uM 118 117, gM 119 17 118 true, gO 120 .not 119 118 true, gM 121 120 118 true, gM 122 15 121 false, gM 123 12 121 false, gB 124 (.call 50) 122 123 121 false, gO 125 .not 124 121 false, oG 126 .pick [.t 121, kT, .t 125] 118 true, oA 127 .pick [.t 118, .t 126, kF], uM 128 127, oG 129 (.call 20) [] 128 true, oA 130 .pick [.t 128, .t 129, kF], uM 8 130]) .ret)))))))))))
theorem fc17 : fnC Tryz.prog 17 cert17 = some (131, [.tmp 8], ac17) := by kernel_rfl
end Go.Lift
set_option maxRecDepth 100000
set_option linter.unusedVariables false
namespace Go.Lift
open Go Go.Proofs
def cert50 : Nat → Option Cert := fun _ => none
def ac50 : ACode :=(.seq (.ops [oA 4 .mov [kF]]) (.seq (.ops [uM 5 0, uO 6 .len 5, uM 7 1, uO 8 .len 7, uB 9 bL 6 8, uM 10 9, gM 11 0 10 false, gO 12 .len 11 10 false, gM 13 1 10 false, gO 14 .len 13 10 false, gB 15 bE 12 14 10 false, gM 16 15 10 false, gM 17 0 16 true, gM 18 1 16 true, gB 19 (.call 105) 17 18 16 true, oG 20 .pick [.t 16, .t 19, kF] 10 false, oA 21 .pick [.t 10, kT, .t 20], uM 4 21]) .ret))
theorem fc50 : fnC Tryz.prog 50 cert50 = some (22, [.tmp 4], ac50) := by kernel_rfl
def cert72 : Nat → Option Cert := fun _ => none
def ac72 : ACode :=(.seq (.ops [uO 2 .box 0, oA 4 .mov [kE]]) (.seq (.ops [uM 5 1, uO 6 lT9 2, uO 7 (.call 25) 6, uO 8 (.conv .u64) 7, oA 9 (.bin .shl) [(kI 1), .t 8], oA 10 (.bin .sub) [.t 9, (kI 1)], uB 11 (.bin .and) 5 10, uO 12 (.call 51) 11, uM 4 12]) .ret))
theorem fc72 : fnC Tryz.prog 72 cert72 = some (13, [.tmp 4], ac72) := by kernel_rfl
def cert73 : Nat → Option Cert := fun
  | 5 => some ⟨[0, 1, 2, 3, 4, 5, 6, 7, 8], (.one 9 (.one 10 .done)), [[], [], [], [2], [1, 2, 3], [], [1, 2, 3, 4, 5], [1, 2, 3, 4, 5, 6], [1, 2, 3, 4, 5, 6, 7], [0, 1, 2, 3, 4, 5, 6, 7, 8], [0, 1, 2, 3, 4, 5, 6, 7, 8, 9]]⟩
  | _ => none
def ac73 : ACode :=(.seq (.ops [uO 3 .box 0, oA 6 .mov [kE]]) (.seq (.ops [oA 7 .mov [kE]]) (.seq (.seq (.ops [oA 8 .mov [(kI 0)]]) (.block 0 (.loop (.seq (.seq (.ops [uM 9 8, uM 10 2, oA 11 (.call 124) [.t 10, (kI 0)], oA 12 (.bin .rem) [.t 11, (kI 4)], uB 13 bL 9 12, uM 14 13, gM 15 1 14 true, gM 16 8 14 true, gB 17 bA 15 16 14 true, gO 18 fA5 3 14 true, gO 19 lF 18 14 true, gB 20 (.bin .leq) 17 19 14 true, oA 21 .pick [.t 14, .t 20, kF], uM 22 21, gO 23 lT9 3 22 true, gO 24 (.call 25) 23 22 true, oG 25 (.bin .gtr) [.t 24, (kI 0)] 22 true, oA 26 .pick [.t 22, .t 25, kF]]) (.cond (.t 26) .skip (.exit 0))) (.seq (.block 1 (.draw [(false, uM 29 7), (false, uM 30 2), (false, uM 31 8), (false, oA 32 bA [.t 31, (kI 1)]), (false, uB 33 (.call 124) 30 32), (false, uO 34 lT9 3), (false, uO 35 (.call 25) 34), (false, uB 36 (.bin .rem) 33 35), (false, uO 37 (.bslice 1) 36)] (.one (uB 38 (.append 1 8) 29 37) [] (.one (uM 7 38) [] .done)))) (.ops [uM 27 8, oA 28 bA [.t 27, (kI 1)], uM 8 28])))))) (.seq (.ops [uM 39 7, uM 6 39]) .ret))))
theorem fc73 : fnC Tryz.prog 73 cert73 = some (40, [.tmp 6], ac73) := by kernel_rfl
end Go.Lift
set_option maxRecDepth 100000
set_option linter.unusedVariables false
namespace Go.Lift
open Go Go.Proofs
def cert105 : Nat → Option Cert := fun
  | 4 => some ⟨[0, 1, 2, 3, 4, 5, 6, 7, 8], .done, [[], [], [0, 1], [0, 1, 2], [], [], [4, 5], [4, 5, 6], [0, 1, 2, 3, 4, 5, 6, 7]]⟩
  | 5 => some ⟨[0, 1, 2, 3, 4, 5, 6, 7, 8, 9], .done, [[], [], [0, 1], [0, 1, 2], [], [], [4, 5], [4, 5, 6], [0, 1, 2, 3, 4, 5, 6, 7], [0, 1, 2, 3, 4, 5, 6, 7, 8]]⟩
  | _ => none
def ac105 : ACode :=(.seq (.ops [oA 4 .mov [kF]]) (.seq (.seq (.ops [oA 5 .mov [(kI 0)]]) (.block 0 (.loop (.seq (.seq (.ops [uM 6 5, uM 7 0, uO 8 .len 7, uB 9 bL 6 8, uM 10 9, gM 11 5 10 true, gM 12 1 10 true, gO 13 .len 12 10 true, gB 14 bL 11 13 10 true, oA 15 .pick [.t 10, .t 14, kF]]) (.cond (.t 15) .skip (.exit 0))) (.seq (.block 1 (.seq (.draw [(false, uM 18 0), (false, uM 19 5), (false, uB 20 (.idxaddr 1) 18 19), (false, uO 21 lF 20), (false, uM 22 1), (false, uM 23 5), (false, uB 24 (.idxaddr 1) 22 23), (false, uO 25 lF 24), (false, uB 26 bN 21 25)] .done) (.cond (.t 26) (.seq (.draw [(false, uM 27 0), (false, uM 28 5), (false, uB 29 (.idxaddr 1) 27 28), (false, uO 30 lF 29), (false, uM 31 1), (false, uM 32 5), (false, uB 33 (.idxaddr 1) 31 32), (false, uO 34 lF 33), (false, uB 35 bL 30 34), (false, uM 4 35)] .done) .ret) .skip))) (.ops [uM 16 5, oA 17 bA [.t 16, (kI 1)], uM 5 17])))))) (.seq (.ops [uM 36 0, uO 37 .len 36, uM 38 1, uO 39 .len 38, uB 40 bL 37 39, uM 4 40]) .ret)))
theorem fc105 : fnC Tryz.prog 105 cert105 = some (41, [.tmp 4], ac105) := by kernel_rfl
def cert124 : Nat → Option Cert := fun _ => none
def ac124 : ACode :=(.seq (.ops [oA 4 .mov [(kI 0)]]) (.seq (.seq (.ops [uM 5 0, uO 6 .len 5, oA 7 bE [.t 6, (kI 0)]]) (.cond (.t 7) (.seq (.ops [oA 4 .mov [(kI 0)]]) .ret) .skip)) (.seq (.ops [uM 8 0, uM 9 1, uM 10 0, uO 11 .len 10, uB 12 (.bin .rem) 9 11, uB 13 (.idxaddr 1) 8 12, uO 14 lF 13, uO 15 (.conv .i64) 14, uM 4 15]) .ret)))
theorem fc124 : fnC Tryz.prog 124 cert124 = some (16, [.tmp 4], ac124) := by kernel_rfl
end Go.Lift
set_option linter.unusedSimpArgs false
set_option linter.unusedVariables false
namespace Go.Lift
open Go Go.Proofs
theorem w_and {a b : Nat} (ha : a < 2 ^ 62) (hb : b < 2 ^ 62) : IntKind.i64.wrap (((BitVec.ofInt IntKind.i64.bits (a : Int) &&& BitVec.ofInt IntKind.i64.bits (b : Int)).toNat : Nat) : Int) = ((a &&& b : Nat) : Int) := by
  have h1 : (BitVec.ofInt IntKind.i64.bits (a : Int) &&& BitVec.ofInt IntKind.i64.bits (b : Int)).toNat = a &&& b := by
    rw [bv_nat, bv_nat]
    show (BitVec.ofNat 64 a &&& BitVec.ofNat 64 b).toNat = _
    rw [BitVec.toNat_and, BitVec.toNat_ofNat, BitVec.toNat_ofNat, Nat.mod_eq_of_lt (by omega), Nat.mod_eq_of_lt (by omega)]
  have h2 := Nat.and_lt_two_pow a hb
  rw [h1, w64 (by omega) (by omega)]
end Go.Lift

set_option linter.unusedSimpArgs false
set_option linter.unusedVariables false
namespace Go.Lift
open Go Go.Proofs
def beforeL : List Int → List Int → Bool
  | a :: xs, b :: bs => if a = b then beforeL xs bs else decide (a < b)
  | [], bs => decide (0 < bs.length)
  | _ :: _, [] => false
theorem beforeL_drop : ∀ (j : Nat) (a b : List Int), j ≤ a.length → j ≤ b.length → a.take j = b.take j → beforeL a b = beforeL (a.drop j) (b.drop j)
  | 0, _, _, _, _, _ => rfl
  | j + 1, a :: xs, b :: bs, h1, h2, h => by
    simp only [List.take_succ_cons, List.cons.injEq] at h
    rw [beforeL, if_pos h.1, List.drop_succ_cons, List.drop_succ_cons]
    exact beforeL_drop j xs bs (by simpa using h1) (by simpa using h2) h.2
  | j + 1, [], _, h1, _, _ => by simp at h1
  | j + 1, _ :: _, [], _, h2, _ => by simp at h2
theorem before_c (a b : List Int) (ha : Sm a.length) (hb : Sm b.length) : Pure Tryz.prog 105 [.slice (eI a), .slice (eI b)] (.bool (beforeL a b)) := by
  intro H
  unfold Sm at ha hb
  refine fn_of hmix fc105 (by simp) ?_
  rw [ienv2]
  simp only [go_sem, reduceIte, reduceCtorEq, Nat.reduceEqDiff, Nat.reduceBEq, Nat.reduceAdd, Nat.reduceMul, Nat.reduceLeDiff, ac105]
  refine x_for a.length (fun j env H1 => H1 = H ∧ j ≤ b.length ∧ a.take j = b.take j ∧ env 0 = .slice (eI a) ∧ env 1 = .slice (eI b) ∧ env 5 = i6 j ∧ env 41 = .any) (by simp [upd_at]) ?_
  rintro j env H1 hj ⟨rfl, hjb, hq, g0, g1, g5, hN⟩
  by_cases c1 : (j : Int) < (a.length : Int)
  · have c1' : j < a.length := by omega
    by_cases c2 : (j : Int) < (b.length : Int)
    · have c2' : j < b.length := by omega
      have hd := beforeL_drop j a b hj hjb hq
      rw [List.drop_eq_getElem_cons c1', List.drop_eq_getElem_cons c2', beforeL] at hd
      by_cases he : a[j] = b[j]
      · simp only [go_sem, reduceIte, reduceCtorEq, Nat.reduceEqDiff, Nat.reduceBEq, Nat.reduceAdd, Nat.reduceMul, Nat.reduceLeDiff, g0, g1, g5, hN, c1, c2, eI_get c1', eI_get c2', he, wsucc (show j < 4611686018427387904 by omega), c1']
        exact ⟨c2', by rw [take_snoc c1', take_snoc c2', hq, he]⟩
      · simp only [go_sem, reduceIte, reduceCtorEq, Nat.reduceEqDiff, Nat.reduceBEq, Nat.reduceAdd, Nat.reduceMul, Nat.reduceLeDiff, g0, g1, g5, hN, c1, c2, eI_get c1', eI_get c2', he]
        refine fin_ret' 4 (by simp [upd_at, hN]) ?_
        rw [if_neg he] at hd
        simp only [upd_at, if_true, hd, and_self]
    · have hd := beforeL_drop j a b hj hjb hq
      rw [List.drop_eq_getElem_cons c1', List.drop_of_length_le (show b.length ≤ j by omega), beforeL] at hd
      simp only [go_sem, reduceIte, reduceCtorEq, Nat.reduceEqDiff, Nat.reduceBEq, Nat.reduceAdd, Nat.reduceMul, Nat.reduceLeDiff, g0, g1, g5, hN, c1, c2]
      refine fin_ret' 4 (by simp [upd_at, hN]) ?_
      simp only [upd_at, if_true, hd, and_true, AV.bool.injEq, decide_eq_false_iff_not]
      omega
  · have : j = a.length := by omega
    subst this
    have hd := beforeL_drop a.length a b hj hjb hq
    rw [List.drop_of_length_le (Nat.le_refl a.length), beforeL, List.length_drop] at hd
    simp only [go_sem, reduceIte, reduceCtorEq, Nat.reduceEqDiff, Nat.reduceBEq, Nat.reduceAdd, Nat.reduceMul, Nat.reduceLeDiff, g0, g1, g5, hN, c1]
    refine fin_ret' 4 (by simp [upd_at, hN]) ?_
    simp only [upd_at, if_true, hd, and_true, AV.bool.injEq, decide_eq_decide]
    omega
def shorterL (a b : List Int) : Bool := decide (a.length < b.length) || (decide (a.length = b.length) && beforeL a b)
theorem shorter_c (a b : List Int) (ha : Sm a.length) (hb : Sm b.length) : Pure Tryz.prog 50 [.slice (eI a), .slice (eI b)] (.bool (shorterL a b)) := by
  intro H
  refine fn_of hmix fc50 (by simp) ?_
  rw [ienv2]
  by_cases c1 : (a.length : Int) < (b.length : Int)
  · have c1' : a.length < b.length := by omega
    simp only [go_sem, reduceIte, reduceCtorEq, Nat.reduceEqDiff, Nat.reduceBEq, Nat.reduceAdd, Nat.reduceMul, Nat.reduceLeDiff, ac50, c1]
    refine fin_ret' 4 (by simp [upd_at]) ?_
    simp [upd_at, shorterL, c1']
  have c1' : ¬ a.length < b.length := by omega
  by_cases c2 : (a.length : Int) = (b.length : Int)
  · have c2' : a.length = b.length := by omega
    have d1 : decide ((a.length : Int) < (b.length : Int)) = false := decide_eq_false c1
    have d2 : decide ((a.length : Int) = (b.length : Int)) = true := decide_eq_true c2
    simp only [go_sem, reduceIte, reduceCtorEq, Nat.reduceEqDiff, Nat.reduceBEq, Nat.reduceAdd, Nat.reduceMul, Nat.reduceLeDiff, ac50, d1, d2]
    refine (before_c a b ha hb).go ?_
    simp only [go_sem, reduceIte, reduceCtorEq, Nat.reduceEqDiff, Nat.reduceBEq, Nat.reduceAdd, Nat.reduceMul, Nat.reduceLeDiff]
    refine fin_ret' 4 (by simp [upd_at]) ?_
    simp [upd_at, shorterL, c2']
  · have c2' : ¬ a.length = b.length := by omega
    simp only [go_sem, reduceIte, reduceCtorEq, Nat.reduceEqDiff, Nat.reduceBEq, Nat.reduceAdd, Nat.reduceMul, Nat.reduceLeDiff, ac50, c1, c2]
    refine fin_ret' 4 (by simp [upd_at]) ?_
    simp [upd_at, shorterL, c1', c2']
end Go.Lift

set_option linter.unusedSimpArgs false
set_option linter.unusedVariables false
namespace Go.Lift
open Go Go.Proofs
theorem pred_pow {i : Nat} (hi : i < 62) : IntKind.i64.wrap (((2 ^ i : Nat) : Int) - 1) = ((2 ^ i - 1 : Nat) : Int) := by
  have h1 : 1 ≤ 2 ^ i := Nat.one_le_two_pow
  have h2 := two_lt hi
  generalize 2 ^ i = q at h1 h2
  rw [w64 (by omega) (by omega)]; omega
end Go.Lift

set_option linter.unusedSimpArgs false
set_option linter.unusedVariables false
namespace Go.Lift
open Go Go.Proofs
theorem thin_sm {h : House} (c1 : thinH h = true) : HSm h := by
  rw [thinH, Bool.and_eq_true] at c1; exact short_sm c1.1
end Go.Lift

set_option linter.unusedSimpArgs false
set_option linter.unusedVariables false
namespace Go.Lift
open Go Go.Proofs
theorem before_irr : ∀ a : List Int, beforeL a a = false
  | [] => rfl
  | a :: xs => by rw [beforeL, if_pos rfl, before_irr xs]
theorem before_trans : ∀ a b c : List Int, beforeL a b = true → beforeL b c = true → beforeL a c = true
  | [], b, [], _, h2 => by
    cases b with
    | nil => exact h2
    | cons b bs => simp [beforeL] at h2
  | [], _, c :: cs, _, _ => by simp [beforeL]
  | a :: xs, [], _, h1, _ => by simp [beforeL] at h1
  | a :: xs, b :: bs, [], _, h2 => by simp [beforeL] at h2
  | a :: xs, b :: bs, c :: cs, h1, h2 => by
    simp only [beforeL] at h1 h2 ⊢
    by_cases e1 : a = b
    · subst e1
      rw [if_pos rfl] at h1
      by_cases e2 : a = c
      · rw [if_pos e2] at h2 ⊢; exact before_trans xs bs cs h1 h2
      · rw [if_neg e2] at h2 ⊢; exact h2
    · rw [if_neg e1, decide_eq_true_eq] at h1
      by_cases e2 : b = c
      · subst e2; rw [if_neg e1]; exact decide_eq_true h1
      · rw [if_neg e2, decide_eq_true_eq] at h2
        rw [if_neg (by omega)]; exact decide_eq_true (by omega)
theorem before_pre : ∀ (p a b : List Int), beforeL (p ++ a) (p ++ b) = beforeL a b
  | [], _, _ => rfl
  | x :: p, a, b => by rw [List.cons_append, List.cons_append, beforeL, if_pos rfl, before_pre p]
theorem shorter_iff (a b : List Int) : shorterL a b = true ↔ a.length < b.length ∨ (a.length = b.length ∧ beforeL a b = true) := by
  simp [shorterL]
theorem shorter_irr (a : List Int) : shorterL a a = false := by
  rw [Bool.eq_false_iff, Ne, shorter_iff, before_irr]
  rintro (h | h)
  · omega
  · cases h.2
theorem shorter_trans {a b c : List Int} (h1 : shorterL a b = true) (h2 : shorterL b c = true) : shorterL a c = true := by
  rw [shorter_iff] at *
  rcases h1 with h1 | h1 <;> rcases h2 with h2 | h2
  · exact .inl (by omega)
  · exact .inl (by omega)
  · exact .inl (by omega)
  · exact .inr ⟨by omega, before_trans _ _ _ h1.2 h2.2⟩
theorem shorter_asym {a b : List Int} (h : shorterL a b = true) : shorterL b a = false := by
  rw [Bool.eq_false_iff]
  intro h2
  have := shorter_trans h h2
  rw [shorter_irr] at this; cases this
/-- The least one that will do, of some lists. -/
structure IsMin (ok : List Int → Bool) (D : List Int → Prop) (x : List Int) : Prop where
  dom : D x
  good : ok x = true
  least : ∀ y, D y → ok y = true → shorterL y x = false
theorem IsMin.congr {ok ok' : List Int → Bool} {D D' : List Int → Prop} {x : List Int} (h : IsMin ok D x) (hd : ∀ y, D y ↔ D' y) (hok : ∀ y, D y → ok y = ok' y) : IsMin ok' D' x :=
  ⟨(hd x).1 h.dom, by rw [← hok x h.dom]; exact h.good, fun y hy ho => h.least y ((hd y).2 hy) (by rw [hok y ((hd y).2 hy)]; exact ho)⟩
theorem find_min {ok : List Int → Bool} {l : List (List Int)} (hs : l.Pairwise fun a b => shorterL a b = true) {x : List Int} (h : l.find? ok = some x) : IsMin ok (· ∈ l) x := by
  obtain ⟨h1, l1, bs, rfl, h2⟩ := List.find?_eq_some_iff_append.1 h
  refine ⟨by simp, h1, fun y hy ho => ?_⟩
  rw [List.pairwise_append] at hs
  rcases List.mem_append.1 hy with hy | hy
  · have := h2 y hy; rw [ho] at this; cases this
  · rcases List.mem_cons.1 hy with rfl | hy
    · exact shorter_irr _
    · exact shorter_asym ((List.pairwise_cons.1 hs.2.1).1 y hy)
theorem tryAll_find {ok : List Int → Bool} : ∀ {l : List (List Int)} {x : List Int} (old : List Int), l.find? ok = some x → tryAll ok old l = x
  | [], x, _, h => by cases h
  | y :: l, x, old, h => by
    rw [tryAll]
    rw [List.find?_cons] at h
    cases hy : ok y
    · rw [hy] at h; simp only [Bool.false_eq_true, if_false]; exact tryAll_find y h
    · rw [hy] at h; cases h; rfl
theorem any_find {α : Type} {ok : α → Bool} {l : List α} (h : l.any ok = true) : ∃ x, l.find? ok = some x := by
  cases hf : l.find? ok with
  | some x => exact ⟨x, rfl⟩
  | none =>
    rw [List.any_eq_true] at h
    obtain ⟨x, hx, ho⟩ := h
    exact absurd ho (List.find?_eq_none.1 hf x hx)
def Inc (n : Nat) (x : List Int) : Prop := x.Pairwise (· < ·) ∧ ∀ a ∈ x, ∃ i : Nat, a = (i : Int) ∧ i < n
def IncF (n : Nat) : Nat → List Int → Prop
  | _, [] => True
  | f, a :: l => ∃ i : Nat, a = (i : Int) ∧ f ≤ i ∧ i < n ∧ IncF n (i + 1) l
theorem IncF.room {n : Nat} : ∀ {l : List Int} {f : Nat}, IncF n f l → l ≠ [] → f + l.length ≤ n
  | [], _, _, h => absurd rfl h
  | a :: l, f, h, _ => by
    obtain ⟨i, rfl, h1, h2, h3⟩ := h
    cases l with
    | nil => simp; omega
    | cons b l => have := h3.room (by simp); simp only [List.length_cons] at this ⊢; omega
theorem incF_iff {n : Nat} : ∀ {l : List Int} {f : Nat}, IncF n f l ↔ l.Pairwise (· < ·) ∧ ∀ a ∈ l, ∃ i : Nat, a = (i : Int) ∧ f ≤ i ∧ i < n
  | [], f => by simp [IncF]
  | a :: l, f => by
    rw [List.pairwise_cons]
    constructor
    · rintro ⟨i, rfl, h1, h2, h3⟩
      obtain ⟨k1, k2⟩ := (incF_iff (l := l) (f := i + 1)).1 h3
      refine ⟨⟨fun b hb => ?_, k1⟩, fun b hb => ?_⟩
      · obtain ⟨j, rfl, h4, h5⟩ := k2 b hb; omega
      · rcases List.mem_cons.1 hb with rfl | hb
        · exact ⟨i, rfl, h1, h2⟩
        · obtain ⟨j, rfl, h4, h5⟩ := k2 b hb; exact ⟨j, rfl, by omega, h5⟩
    · rintro ⟨⟨h1, h2⟩, h3⟩
      obtain ⟨i, rfl, h4, h5⟩ := h3 a List.mem_cons_self
      refine ⟨i, rfl, h4, h5, incF_iff.2 ⟨h2, fun b hb => ?_⟩⟩
      obtain ⟨j, rfl, h6, h7⟩ := h3 b (List.mem_cons_of_mem _ hb)
      have := h1 _ hb
      exact ⟨j, rfl, by omega, h7⟩
theorem inc_incF {n : Nat} {l : List Int} : Inc n l ↔ IncF n 0 l := by
  rw [incF_iff, Inc]; simp
theorem mem_combos (n : Nat) : ∀ (k f : Nat) (pre x : List Int), x ∈ combos n k pre f ↔ ∃ s, x = pre ++ s ∧ s.length = k ∧ IncF n f s
  | 0, f, pre, x => by
    simp only [combos, List.mem_singleton]
    constructor
    · rintro rfl; exact ⟨[], by simp, rfl, trivial⟩
    · rintro ⟨s, rfl, h, _⟩; rw [List.length_eq_zero_iff.1 h]; simp
  | k + 1, f, pre, x => by
    simp only [combos, List.mem_flatMap, List.mem_range]
    constructor
    · rintro ⟨j, hj, hx⟩
      obtain ⟨s, rfl, h1, h2⟩ := (mem_combos n k _ _ _).1 hx
      exact ⟨((f + j : Nat) : Int) :: s, by simp, by simp [h1], f + j, rfl, by omega, by omega, h2⟩
    · rintro ⟨s, rfl, h1, h2⟩
      cases s with
      | nil => simp at h1
      | cons a s =>
        obtain ⟨i, rfl, h3, h4, h5⟩ := h2
        simp only [List.length_cons] at h1
        have hroom : i + k < n := by
          rcases Nat.eq_zero_or_pos s.length with h | h
          · omega
          · have := h5.room (List.length_pos_iff.1 h); omega
        refine ⟨i - f, by omega, (mem_combos n k _ _ _).2 ⟨s, ?_, by omega, ?_⟩⟩
        · rw [show f + (i - f) = i by omega]; simp
        · rw [show f + (i - f) = i by omega]; exact h5
theorem combos_sorted (n : Nat) : ∀ (k f : Nat) (pre : List Int), (combos n k pre f).Pairwise fun a b => beforeL a b = true
  | 0, _, _ => by simp [combos]
  | k + 1, f, pre => by
    rw [combos, List.pairwise_flatMap]
    refine ⟨fun j _ => combos_sorted n k _ _, ?_⟩
    refine List.Pairwise.imp ?_ List.pairwise_lt_range
    intro a b hab x hx y hy
    obtain ⟨s1, rfl, _⟩ := (mem_combos n k _ _ _).1 hx
    obtain ⟨s2, rfl, _⟩ := (mem_combos n k _ _ _).1 hy
    rw [List.append_assoc, List.append_assoc, before_pre]
    simp only [List.singleton_append, beforeL]
    rw [if_neg (by omega)]; exact decide_eq_true (by omega)
def combosAll (n : Nat) : List (List Int) := (List.range (n + 1)).flatMap fun k => combos n k [] 0
theorem by_length {f : Nat → List (List Int)} {m : Nat} (h1 : ∀ k, (f k).Pairwise fun a b => beforeL a b = true) (h2 : ∀ k, ∀ x ∈ f k, x.length = k) : ((List.range m).flatMap f).Pairwise fun a b => shorterL a b = true := by
  rw [List.pairwise_flatMap]
  refine ⟨fun k _ => ?_, ?_⟩
  · refine List.Pairwise.imp_of_mem ?_ (h1 k)
    intro a b ha hb hab
    rw [shorter_iff]
    exact .inr ⟨by rw [h2 k a ha, h2 k b hb], hab⟩
  · refine List.Pairwise.imp ?_ List.pairwise_lt_range
    intro a b hab x hx y hy
    rw [shorter_iff]
    exact .inl (by rw [h2 a x hx, h2 b y hy]; exact hab)
theorem combosAll_sorted (n : Nat) : (combosAll n).Pairwise fun a b => shorterL a b = true :=
  by_length (fun k => combos_sorted n k 0 []) fun k x hx => by
    obtain ⟨s, rfl, h, _⟩ := (mem_combos n k 0 [] x).1 hx
    simpa using h
theorem mem_combosAll {n : Nat} {x : List Int} : x ∈ combosAll n ↔ Inc n x := by
  simp only [combosAll, List.mem_flatMap, List.mem_range, mem_combos, inc_incF, List.nil_append]
  constructor
  · rintro ⟨k, _, s, rfl, _, h⟩; exact h
  · intro h
    refine ⟨x.length, ?_, x, rfl, rfl, h⟩
    rcases Nat.eq_zero_or_pos x.length with h0 | h0
    · omega
    · have := h.room (List.length_pos_iff.1 h0); omega
theorem tryAll_min {ok : List Int → Bool} {n : Nat} {x : List Int} (hx : Inc n x) (ho : ok x = true) : IsMin ok (Inc n) (tryAll ok [] (combosAll n)) := by
  obtain ⟨y, hy⟩ := any_find (ok := ok) (l := combosAll n) (List.any_eq_true.2 ⟨x, mem_combosAll.2 hx, ho⟩)
  rw [tryAll_find [] hy]
  exact (find_min (combosAll_sorted n) hy).congr (fun y => mem_combosAll) (fun _ _ => rfl)
theorem bitsUpto_sorted (m p : Nat) : (bitsUpto m p).Pairwise (· < ·) := by
  rw [bitsUpto]
  refine List.Pairwise.map Int.ofNat (fun a b hab => ?_) (List.Pairwise.filter _ List.pairwise_lt_range)
  exact Int.ofNat_lt.2 hab
theorem bits_inc {n m : Nat} (hn : n ≤ 62) (hm : m < 2 ^ n) : Inc n (bitsL m) := by
  rw [bitsL_of hn hm]
  refine ⟨bitsUpto_sorted m n, fun a ha => ?_⟩
  simp only [bitsUpto, List.mem_map, List.mem_filter, List.mem_range] at ha
  obtain ⟨i, h, rfl⟩ := ha
  exact ⟨i, rfl, h.1⟩
end Go.Lift

set_option linter.unusedSimpArgs false
set_option linter.unusedVariables false
namespace Go.Lift
open Go Go.Proofs
theorem check_zero (h : House) : checkHouse h = 0 ↔ ¬ bigH h ∧ askErr h.table = 0 ∧ ¬ badH h ∧ allH h ∧ ¬ 2000 < manyH h := by
  unfold checkHouse
  by_cases h1 : bigH h
  · simp [h1]
  by_cases h2 : askErr h.table = 0
  rotate_left
  · simp [h1, h2]
  by_cases h3 : badH h
  · simp [h1, h2, h3]
  by_cases h4 : allH h
  rotate_left
  · simp [h1, h2, h3, h4]
  by_cases h5 : 2000 < manyH h
  · simp [h1, h2, h3, h4, h5]
  · simp [h1, h2, h3, h4, h5]
theorem mem_bitsL (m i : Nat) : (i : Int) ∈ bitsL m ↔ i < 62 ∧ m.testBit i = true := by
  simp only [bitsL, bitsUpto, List.mem_map, List.mem_filter, List.mem_range]
  constructor
  · rintro ⟨j, hj, e⟩
    have : j = i := by
      have : ((j : Nat) : Int) = (i : Int) := e
      omega
    subst this; exact hj
  · intro hi; exact ⟨i, hi, rfl⟩
end Go.Lift

set_option linter.unusedSimpArgs false
set_option linter.unusedVariables false
namespace Go.Lift
open Go Go.Proofs
def Zer (c : List Bool) : Prop := ∀ i, c.getD i false = false
theorem getD_set (c : List Bool) (k i : Nat) (b : Bool) (hk : k < c.length) : (c.set k b).getD i false = if i = k then b else c.getD i false := by
  simp only [List.getD_eq_getElem?_getD, List.getElem?_set, hk, if_true]
  by_cases h : k = i
  · subst h; simp
  · rw [if_neg h, if_neg (fun e => h e.symm)]
theorem startOf_get (h : House) (o : List Int) : ∀ j, j ≤ 10 → ∀ i, (startOf h o j).getD i false = (decide (i < j) && decide (o.getD i 0 ∈ h.sick))
  | 0, _, i => by
    simp only [startOf, List.range_zero, List.foldl_nil, List.getD_eq_getElem?_getD, List.getElem?_replicate]
    split <;> simp
  | j + 1, hj, i => by
    have e : startOf h o (j + 1) = sickAt h o (startOf h o j) j := range_fold _ _ _
    rw [e, sickAt, getD_set _ _ _ _ (by rw [startOf_len]; omega), startOf_get h o j (by omega)]
    by_cases hi : i = j
    · subst hi; simp
    · rw [if_neg hi]
      by_cases h1 : i < j
      · simp [h1, show i < j + 1 by omega]
      · simp [h1, show ¬ i < j + 1 by omega]
theorem boilOf_get (keys : List (Int × Int)) (k : Int) (c : List Bool) (hc : c.length = 10) : ∀ j, j ≤ 10 → ∀ i, (boilOf keys k c j).getD i false = (c.getD i false && !(decide (i < j) && decide (((i : Int), k) ∈ keys)))
  | 0, _, i => by simp [boilOf]
  | j + 1, hj, i => by
    have e : boilOf keys k c (j + 1) = boilAt keys k (boilOf keys k c j) j := range_fold _ _ _
    have ih := boilOf_get keys k c hc j (by omega)
    rw [e, boilAt]
    by_cases hk : ((j : Int), k) ∈ keys
    · rw [if_pos hk, getD_set _ _ _ _ (by rw [boilOf_len keys k c j hc]; omega), ih]
      by_cases hi : i = j
      · subst hi; simp [hk]
      · rw [if_neg hi]
        by_cases h1 : i < j
        · simp [h1, show i < j + 1 by omega]
        · simp [h1, show ¬ i < j + 1 by omega]
    · rw [if_neg hk, ih]
      by_cases hi : i = j
      · subst hi; simp [hk]
      · by_cases h1 : i < j
        · simp [h1, show i < j + 1 by omega]
        · simp [h1, show ¬ i < j + 1 by omega]
def tA (h : House) (i : Nat) : Nat := (h.touches.getD i default).a.toNat
def tB (h : House) (i : Nat) : Nat := (h.touches.getD i default).b.toNat
theorem touchAt_get (h : House) (hrs : List Int) (k : Int) (c : List Bool) (i n : Nat) (ha : tA h i < c.length) (hb : tB h i < c.length) :
    (touchAt h hrs k c i).getD n false = (c.getD n false || (decide (hrs.getD i 0 = k) && (c.getD (tA h i) false || c.getD (tB h i) false) && (decide (n = tA h i) || decide (n = tB h i)))) := by
  have e : touchAt h hrs k c i = if hrs.getD i 0 = k ∧ (c.getD (tA h i) false || c.getD (tB h i) false) = true then (c.set (tA h i) true).set (tB h i) true else c := rfl
  rw [e]
  by_cases hc : hrs.getD i 0 = k ∧ (c.getD (tA h i) false || c.getD (tB h i) false) = true
  · rw [if_pos hc, getD_set _ _ _ _ (by rw [List.length_set]; exact hb), getD_set _ _ _ _ ha, hc.2, decide_eq_true hc.1]
    by_cases h1 : n = tB h i
    · simp [h1]
    · by_cases h2 : n = tA h i
      · simp [h1, h2]
      · simp [h1, h2]
  · rw [if_neg hc]
    by_cases h1 : hrs.getD i 0 = k
    · have h2 : (c.getD (tA h i) false || c.getD (tB h i) false) = false := by
        rw [Bool.eq_false_iff]; exact fun h2 => hc ⟨h1, h2⟩
      rw [h2]; simp
    · rw [decide_eq_false h1]; simp
theorem tAB {h : House} (hk : HOK h) {i : Nat} (hi : i < h.touches.length) : tA h i < 10 ∧ tB h i < 10 := by
  obtain ⟨a, b, h1, h2, h3, h4⟩ := hk.touch _ (List.getElem_mem hi)
  have e : h.touches.getD i default = h.touches[i] := by simp [List.getD_eq_getElem?_getD, hi]
  rw [tA, tB, e, h1, h2]
  exact ⟨by omega, by omega⟩
theorem zer_touch {h : House} (hk : HOK h) {hrs : List Int} {k : Int} {c : List Bool} (hc : c.length = 10) (hz : Zer c) : ∀ j, j ≤ h.touches.length → Zer (touchOf h hrs k c j)
  | 0, _ => hz
  | j + 1, hj => fun n => by
    have e : touchOf h hrs k c (j + 1) = touchAt h hrs k (touchOf h hrs k c j) j := range_fold _ _ _
    have hab := tAB hk (show j < h.touches.length by omega)
    have hl := touchOf_len h hrs k c j hc
    have ih := zer_touch hk hc hz (hrs := hrs) (k := k) j (by omega)
    rw [e, touchAt_get _ _ _ _ _ _ (by omega) (by omega), ih, ih, ih]; simp
theorem hoursOf_succ (h : House) (o hrs : List Int) (keys : List (Int × Int)) (j : Nat) : hoursOf h o hrs keys (j + 1) = hourAt h hrs keys (hoursOf h o hrs keys j) j := range_fold _ _ _
theorem zer_boil {h : House} (hk : HOK h) {o hrs : List Int} {keys : List (Int × Int)} {k : Nat} (hb : ∀ i, (hoursOf h o hrs keys k).getD i false = true → i < nT h ∧ ((i : Int), (k : Int)) ∈ keys) : Zer (hoursOf h o hrs keys (k + 1)) := by
  have hl := hoursOf_len h o hrs keys k
  rw [hoursOf_succ, hourAt]
  refine zer_touch hk (boilOf_len _ _ _ _ hl) (fun i => ?_) _ (Nat.le_refl _)
  rw [boilOf_get _ _ _ hl _ (nT_le hk)]
  cases hi : (hoursOf h o hrs keys k).getD i false
  · rfl
  · obtain ⟨h1, h2⟩ := hb i hi
    rw [decide_eq_true h1, decide_eq_true h2]; rfl
theorem zer_more {h : House} (hk : HOK h) {o hrs : List Int} {keys : List (Int × Int)} {k : Nat} (hz : Zer (hoursOf h o hrs keys k)) : ∀ m, Zer (hoursOf h o hrs keys (k + m))
  | 0 => hz
  | m + 1 => zer_boil hk fun i hi => by
    have := zer_more hk hz m i
    rw [show (hoursOf h o hrs keys (k.add m)).getD i false = (hoursOf h o hrs keys (k + m)).getD i false from rfl, this] at hi; cases hi
theorem zer_play {h : House} (hk : HOK h) {o hrs : List Int} {keys : List (Int × Int)} {k : Nat} (hkl : k ≤ h.last.toNat + 1) (hz : Zer (hoursOf h o hrs keys k)) : Zer (playOf h o hrs keys) := by
  obtain ⟨m, hm⟩ := Nat.exists_eq_add_of_le hkl
  rw [playOf, hm]; exact zer_more hk hz m
theorem touch_lt {h : House} (hc : checkHouse h = 0) (hk : HOK h) {i : Nat} (hi : i < h.touches.length) : tA h i < nT h ∧ tB h i < nT h := by
  have h4 := (List.all_eq_true.1 ((check_zero h).1 hc).2.2.2.1.1) _ (List.getElem_mem hi)
  simp only [touchOK, Bool.and_eq_true] at h4
  have ha := h4.1.1.1.1.1
  have hb := h4.1.1.1.1.2
  have hn := nT_le hk
  have e : h.touches.getD i default = h.touches[i] := by simp [List.getD_eq_getElem?_getD, hi]
  simp only [thingOK, thingsW_ok hk, decide_eq_true_eq, w64 (x := (nT h : Int) - 1) (by omega) (by omega)] at ha hb
  rw [tA, tB, e]; omega
theorem things_sub {h : House} (hc : checkHouse h = 0) (hk : HOK h) (o hrs : List Int) (keys : List (Int × Int)) : ∀ j i, (hoursOf h o hrs keys j).getD i false = true → i < nT h
  | 0, i, hi => by
    have hp := hk.pcs
    have : hoursOf h o hrs keys 0 = startOf h o h.table.pieces.length := rfl
    rw [this, startOf_get _ _ _ (by omega), Bool.and_eq_true, decide_eq_true_eq] at hi
    have := hi.1
    unfold nT; omega
  | j + 1, i, hi => by
    have hl := hoursOf_len h o hrs keys j
    have ih := things_sub hc hk o hrs keys j
    rw [hoursOf_succ, hourAt] at hi
    have : ∀ m, m ≤ h.touches.length → ∀ i, (touchOf h hrs j (boilOf keys j (hoursOf h o hrs keys j) (nT h)) m).getD i false = true → i < nT h := by
      intro m
      induction m with
      | zero =>
        intro _ i hi
        have e : touchOf h hrs j (boilOf keys j (hoursOf h o hrs keys j) (nT h)) 0 = boilOf keys j (hoursOf h o hrs keys j) (nT h) := rfl
        rw [e, boilOf_get _ _ _ hl _ (nT_le hk), Bool.and_eq_true] at hi
        exact ih i hi.1
      | succ m imh =>
        intro hm i hi
        have e : touchOf h hrs j (boilOf keys j (hoursOf h o hrs keys j) (nT h)) (m + 1) = touchAt h hrs j (touchOf h hrs j (boilOf keys j (hoursOf h o hrs keys j) (nT h)) m) m := range_fold _ _ _
        have hab := tAB hk (show m < h.touches.length by omega)
        have hlt := touch_lt hc hk (show m < h.touches.length by omega)
        have hl2 := touchOf_len h hrs j _ m (boilOf_len keys j _ (nT h) hl)
        rw [e, touchAt_get _ _ _ _ _ _ (by omega) (by omega)] at hi
        simp only [Bool.or_eq_true, Bool.and_eq_true, decide_eq_true_eq] at hi
        rcases hi with hi | ⟨_, rfl | rfl⟩
        · exact imh (by omega) i hi
        · exact hlt.1
        · exact hlt.2
    exact this _ (Nat.le_refl _) i hi
theorem safe_zer {h : House} {c : Course} {more : List Boiling} (hz : Zer (lastOf h c more)) : safeC h more c = true := by
  rw [safeC, List.all_eq_true]
  intro i _
  rw [safeAt, hz i]; rfl
theorem safeP_iff (h : House) (more : List Boiling) : safeP h more = true ↔ ∀ c ∈ truH h [], safeC h more c = true := by
  rw [safeP, List.all_eq_true]
/-- All that is boiled in an hour keeps all safe. -/
theorem boil_all {h : House} (hc : checkHouse h = 0) (hk : HOK h) {k : Nat} (hkl : (k : Int) ≤ h.last) {l : List Int} (hl : ∀ i, i < nT h → (i : Int) ∈ l) (c : Course) : safeC h (atOf l k) c = true := by
  refine safe_zer (zer_play hk (k := k + 1) (by omega) (zer_boil hk fun i hi => ?_))
  have hi := things_sub hc hk _ _ _ _ i hi
  refine ⟨hi, ?_⟩
  simp only [List.map_append, List.mem_append, atOf, List.map_map, List.mem_map]
  exact .inr ⟨(i : Int), hl i hi, rfl⟩
end Go.Lift

set_option linter.unusedSimpArgs false
set_option linter.unusedVariables false
namespace Go.Lift
open Go Go.Proofs
theorem hour_nat {h : House} {k : Int} (hh : hourOK h k = true) : ∃ n : Nat, k = (n : Int) ∧ (n : Int) ≤ h.last := by
  rw [hourOK, decide_eq_true_eq] at hh
  exact ⟨k.toNat, by omega, by omega⟩
theorem boil_full {h : House} (hc : checkHouse h = 0) (hk : HOK h) {k : Int} (hh : hourOK h k = true) : safeP h (atOf (bitsL (2 ^ nT h - 1)) k) = true := by
  obtain ⟨n, rfl, hn⟩ := hour_nat hh
  have := nT_le hk
  rw [safeP_iff]
  refine fun c _ => boil_all hc hk hn (fun i hi => (mem_bitsL _ _).2 ⟨by omega, ?_⟩) c
  rw [Nat.testBit_two_pow_sub_one]; exact decide_eq_true hi
theorem boil_min {h : House} (hc : checkHouse h = 0) (hk : HOK h) {k : Int} (hh : hourOK h k = true) : IsMin (fun x => safeP h (atOf x k)) (Inc (nT h)) (boilOf' h k) := by
  have hn := nT_le hk
  exact tryAll_min (ok := fun x => safeP h (atOf x k)) (n := nT h) (bits_inc (m := 2 ^ nT h - 1) (by omega) (by have : 1 ≤ 2 ^ nT h := Nat.one_le_two_pow; omega)) (boil_full hc hk hh)
theorem inc_len {n : Nat} {x : List Int} (h : Inc n x) : x.length ≤ n := by
  rcases Nat.eq_zero_or_pos x.length with h0 | h0
  · omega
  · have := (inc_incF.1 h).room (List.length_pos_iff.1 h0); omega
def Ord (n : Nat) (x : List Int) : Prop := ∀ a ∈ x, ∃ i : Nat, a = (i : Int) ∧ i < n
theorem mem_orders (n : Nat) : ∀ (k : Nat) (pre x : List Int), x ∈ orders n k pre ↔ ∃ s, x = pre ++ s ∧ s.length = k ∧ Ord n s
  | 0, pre, x => by
    simp only [orders, List.mem_singleton]
    constructor
    · rintro rfl; exact ⟨[], by simp, rfl, fun a ha => by cases ha⟩
    · rintro ⟨s, rfl, h, _⟩; rw [List.length_eq_zero_iff.1 h]; simp
  | k + 1, pre, x => by
    simp only [orders, List.mem_flatMap, List.mem_range]
    constructor
    · rintro ⟨j, hj, hx⟩
      obtain ⟨s, rfl, h1, h2⟩ := (mem_orders n k _ _).1 hx
      refine ⟨(j : Int) :: s, by simp, by simp [h1], fun a ha => ?_⟩
      rcases List.mem_cons.1 ha with rfl | ha
      · exact ⟨j, rfl, hj⟩
      · exact h2 a ha
    · rintro ⟨s, rfl, h1, h2⟩
      cases s with
      | nil => simp at h1
      | cons a s =>
        obtain ⟨i, rfl, hi⟩ := h2 a List.mem_cons_self
        exact ⟨i, hi, (mem_orders n k _ _).2 ⟨s, by simp, by simpa using h1, fun b hb => h2 b (List.mem_cons_of_mem _ hb)⟩⟩
theorem orders_sorted (n : Nat) : ∀ (k : Nat) (pre : List Int), (orders n k pre).Pairwise fun a b => beforeL a b = true
  | 0, _ => by simp [orders]
  | k + 1, pre => by
    rw [orders, List.pairwise_flatMap]
    refine ⟨fun j _ => orders_sorted n k _, ?_⟩
    refine List.Pairwise.imp ?_ List.pairwise_lt_range
    intro a b hab x hx y hy
    obtain ⟨s1, rfl, _⟩ := (mem_orders n k _ _).1 hx
    obtain ⟨s2, rfl, _⟩ := (mem_orders n k _ _).1 hy
    rw [List.append_assoc, List.append_assoc, before_pre]
    simp only [List.singleton_append, beforeL]
    rw [if_neg (by omega)]; exact decide_eq_true (by omega)
def OrdD (h : House) (k : Int) (x : List Int) : Prop := x.length ≤ orderN h k ∧ Ord (nT h) x
theorem orders_len {n k : Nat} {x : List Int} (hx : x ∈ orders n k []) : x.length = k := by
  obtain ⟨s, rfl, h1, _⟩ := (mem_orders n k [] x).1 hx
  simpa using h1
theorem mem_orderL {h : House} {k : Int} {x : List Int} : x ∈ orderL h k ↔ OrdD h k x := by
  simp only [orderL, orderAll, List.mem_flatMap, List.mem_range, mem_orders, List.nil_append, OrdD]
  constructor
  · rintro ⟨m, hm, s, rfl, h1, h2⟩; exact ⟨by omega, h2⟩
  · rintro ⟨h1, h2⟩; exact ⟨x.length, by omega, x, rfl, rfl, h2⟩
theorem orderL_sorted (h : House) (k : Int) : (orderL h k).Pairwise fun a b => shorterL a b = true :=
  by_length (fun k => orders_sorted _ k []) fun k x hx => orders_len hx
theorem order_min {h : House} {k : Int} (ha : ((orderL h k).any fun x => safeP h (rowOf x k)) = true) : IsMin (fun x => safeP h (rowOf x k)) (OrdD h k) (orderOf h k) := by
  obtain ⟨y, hy⟩ := any_find ha
  rw [orderOf, tryAll_find [] hy]
  exact (find_min (orderL_sorted h k) hy).congr (fun y => mem_orderL) (fun _ _ => rfl)
theorem thing_of {h : House} (hk : HOK h) {x : List Int} : x.all (thingOK h) = true ↔ Ord (nT h) x := by
  have hn := nT_le hk
  rw [List.all_eq_true]
  simp only [thingOK, thingsW_ok hk, w64 (x := (nT h : Int) - 1) (by omega) (by omega), decide_eq_true_eq]
  constructor
  · intro hall a ha
    have := hall a ha
    exact ⟨a.toNat, by omega, by omega⟩
  · intro hall a ha
    obtain ⟨i, rfl, hi⟩ := hall a ha
    omega
theorem longest_val {h : House} (hk : HOK h) {k : Int} (hh : hourOK h k = true) : longestOf h k = if h.last - k + 1 < 3 then h.last - k + 1 else 3 := by
  obtain ⟨n, rfl, hn⟩ := hour_nat hh
  obtain ⟨m, h1, h2⟩ := hk.last
  rw [longestOf, w64 (x := h.last - (n : Int)) (by omega) (by omega), w64 (x := h.last - (n : Int) + 1) (by omega) (by omega)]
theorem orderN_val {h : House} (hk : HOK h) {k : Int} (hh : hourOK h k = true) : (orderN h k : Int) = longestOf h k ∧ orderN h k ≤ 3 ∧ 1 ≤ orderN h k := by
  obtain ⟨n, rfl, hn⟩ := hour_nat hh
  obtain ⟨m, h1, h2⟩ := hk.last
  rw [orderN, longest_val hk hh]
  split <;> omega
end Go.Lift

set_option linter.unusedSimpArgs false
set_option linter.unusedVariables false
namespace Go.Lift
open Go Go.Proofs
theorem ask_and {h : House} {f : Bool} (g : Bool) (hne : askErrH h f ≠ 0) : askErrH h (f && g) ≠ 0 := by
  unfold askErrH at *
  by_cases h1 : checkHouse h = 0
  · rw [if_pos h1] at *
    cases f
    · simp
    · cases g
      · simp
      · exact hne
  · rw [if_neg h1]; exact h1
theorem ask_ok {h : House} {f : Bool} (he : askErrH h f = 0) : checkHouse h = 0 ∧ f = true ∧ truH h [] ≠ [] := by
  unfold askErrH at he
  by_cases h1 : checkHouse h = 0
  · rw [if_pos h1] at he
    cases f
    · simp at he
    · refine ⟨h1, rfl, fun h2 => ?_⟩
      rw [if_pos rfl, if_pos h2] at he; cases he
  · rw [if_neg h1] at he; exact absurd he h1
theorem ask_zero {h : House} (h1 : checkHouse h = 0) (h2 : truH h [] ≠ []) : askErrH h true = 0 := by
  rw [askErrH, if_pos h1, if_pos rfl, if_neg h2]
theorem ask_cond {h : House} {f : Bool} (he : askErrH h f = 0) (g : Bool) : decide (askErrH h (f && g) = 0) = g := by
  obtain ⟨h1, rfl, h2⟩ := ask_ok he
  cases g
  · simp [askErrH, h1]
  · simp [ask_zero h1 h2]
theorem boilOf_len' {h : House} (hc : checkHouse h = 0) (hk : HOK h) {k : Int} (hh : hourOK h k = true) : (boilOf' h k).length ≤ 10 := by
  have h1 := inc_len (boil_min hc hk hh).dom
  have h2 := nT_le hk
  omega
end Go.Lift

set_option linter.unusedSimpArgs false
set_option linter.unusedVariables false
namespace Go.Lift
open Go Go.Proofs
theorem orderE_ask {h : House} {k : Int} (ha : askErrH h (hourOK h k) = 0) : (orderE h k = 0 ∧ ((orderL h k).any fun x => safeP h (rowOf x k)) = true) ∨ (orderE h k = 10 ∧ ((orderL h k).any fun x => safeP h (rowOf x k)) = false) := by
  rw [orderE, if_pos ha]
  cases hq : ((orderL h k).any fun x => safeP h (rowOf x k))
  · exact .inr ⟨rfl, rfl⟩
  · exact .inl ⟨rfl, rfl⟩
theorem any_of_dom {h : House} {k : Int} {x : List Int} (hd : OrdD h k x) (hs : safeP h (rowOf x k) = true) : ((orderL h k).any fun x => safeP h (rowOf x k)) = true :=
  List.any_eq_true.2 ⟨x, mem_orderL.2 hd, hs⟩
end Go.Lift

set_option linter.unusedSimpArgs false
set_option linter.unusedVariables false
namespace Go.Lift
open Go Go.Proofs
/-- The hour with a number. -/
def hourK (h : House) (n : Nat) : Int := ((n % (h.last.toNat + 1) : Nat) : Int)
theorem hourK_ok {h : House} (hk : HOK h) (n : Nat) : hourOK h (hourK h n) = true := by
  obtain ⟨m, h1, h2⟩ := hk.last
  rw [hourOK, hourK, decide_eq_true_eq]
  have := Nat.mod_lt n (show 0 < h.last.toNat + 1 by omega)
  omega
theorem hourK_facts {h : House} (hk : HOK h) {n : Nat} (hn : n < 256) : IntKind.i64.wrap (n : Int) = (n : Int) ∧ ¬ IntKind.i64.wrap (h.last + 1) = 0 ∧ (n : Int).tmod (IntKind.i64.wrap (h.last + 1)) = hourK h n := by
  obtain ⟨m, h1, h2⟩ := hk.last
  have e : IntKind.i64.wrap (h.last + 1) = ((h.last.toNat + 1 : Nat) : Int) := by rw [w64 (by omega) (by omega)]; omega
  refine ⟨w64 (by omega) (by omega), by rw [e]; omega, ?_⟩
  rw [e, hourK, Int.ofNat_tmod]
theorem ready_ok {h : House} (hr : readyH h = true) : HSm h ∧ checkHouse h = 0 := by
  rw [readyH, Bool.and_eq_true, decide_eq_true_eq] at hr
  exact ⟨thin_sm hr.1, hr.2⟩
theorem ask_eleven {h : House} (hc : checkHouse h = 0) {f : Bool} (hf : f = true) (hne : askErrH h f ≠ 0) : askErrH h f = 11 := by
  subst hf
  rw [askErrH, if_pos hc, if_pos rfl] at *
  split
  · rfl
  · rename_i h1; rw [if_neg h1] at hne; exact absurd rfl hne
end Go.Lift

set_option linter.unusedSimpArgs false
set_option linter.unusedVariables false
namespace Go.Lift
open Go Go.Proofs Go.Proofs.YthnfcdkiaihfcaaGreat
theorem orderOf_le {h : House} (hk : HOK h) {k : Int} (hh : hourOK h k = true) (ha : ((orderL h k).any fun x => safeP h (rowOf x k)) = true) : (orderOf h k).length ≤ 3 := by
  have h1 := (order_min ha).dom.1
  have h2 := (orderN_val hk hh).2.1
  omega
def wordN (ws : List Nat) (k : Nat) : Nat := if ws.length = 0 then 0 else ws.getD (k % ws.length) 0
theorem wordN_lt {ws : List Nat} (hw : ∀ n ∈ ws, n < 65536) (k : Nat) : wordN ws k < 65536 := by
  unfold wordN
  split
  · omega
  · rename_i h0
    have : k % ws.length < ws.length := Nat.mod_lt _ (by omega)
    rw [List.getD_eq_getElem?_getD, List.getElem?_eq_getElem this]
    exact hw _ (List.getElem_mem _)
theorem word_c (ws : List Nat) (hw : ∀ n ∈ ws, n < 65536) (k : Nat) : Pure Tryz.prog 124 [.slice (eU ws), i6 k] (i6 (wordN ws k : Nat)) := by
  intro H
  refine fn_of hmix fc124 (by simp) ?_
  rw [ienv2]
  have hl : (eU ws).length = ws.length := by simp [eU]
  by_cases h0 : (ws.length : Int) = 0
  · simp only [go_sem, reduceIte, reduceCtorEq, Nat.reduceEqDiff, Nat.reduceBEq, Nat.reduceAdd, Nat.reduceMul, Nat.reduceLeDiff, List.getElem?_cons_zero, List.getElem?_cons_succ, bne_self_eq_false, Int.reduceEq, ac124, hl, h0]
    refine fin_ret' 4 (by simp [upd_at]) ?_
    simp [upd_at, wordN, show ws.length = 0 by omega]
  · have hlt : k % ws.length < ws.length := Nat.mod_lt _ (by omega)
    have hget : (eU ws)[k % ws.length]? = some [AV.int .u16 ((ws[k % ws.length] : Nat) : Int)] := by simp [eU, hlt]
    have hb := hw _ (List.getElem_mem hlt)
    have hval : wordN ws k = ws[k % ws.length] := by
      rw [wordN, if_neg (by omega), List.getD_eq_getElem?_getD, List.getElem?_eq_getElem hlt]; rfl
    simp only [go_sem, reduceIte, reduceCtorEq, Nat.reduceEqDiff, Nat.reduceBEq, Nat.reduceAdd, Nat.reduceMul, Nat.reduceLeDiff, List.getElem?_cons_zero, List.getElem?_cons_succ, bne_self_eq_false, Int.reduceEq, ac124, hl, h0, ← Int.ofNat_tmod, hget]
    refine fin_ret' 4 (by simp [upd_at]) ?_
    rw [hval]
    simp only [upd_at, if_true, w64 (show -9223372036854775808 ≤ ((ws[k % ws.length] : Nat) : Int) by omega) (show ((ws[k % ws.length] : Nat) : Int) < 9223372036854775808 by omega)]
    simp
def listedL (h : House) (m : Nat) : List Int := bitsL (m &&& (2 ^ nT h - 1))
theorem listed_and (h : House) (m : Nat) : m &&& (2 ^ nT h - 1) < 2 ^ nT h :=
  Nat.and_lt_two_pow m (y := 2 ^ nT h - 1) (n := nT h) (by have := Nat.two_pow_pos (nT h); omega)
theorem listedL_inc {h : House} (hk : HOK h) (m : Nat) : Inc (nT h) (listedL h m) := by
  have := nT_le hk
  exact bits_inc (by omega) (listed_and h m)
theorem listedH_c (h : House) (hk : HOK h) (m : Nat) (hm : m < 2 ^ 62) : Pure Tryz.prog 72 [eH h, i6 m] (.slice (eI (listedL h m))) := by
  intro H
  have hn := nT_le hk
  have hp := two_lt (show nT h < 62 by omega)
  have hlt := listed_and h m
  refine fn_of hmix fc72 (by simp) ?_
  rw [ienv2]
  simp only [go_sem, reduceIte, reduceCtorEq, Nat.reduceEqDiff, Nat.reduceBEq, Nat.reduceAdd, Nat.reduceMul, Nat.reduceLeDiff, List.getElem?_cons_zero, List.getElem?_cons_succ, bne_self_eq_false, Int.reduceEq, ac72, eH]
  refine v_box _ rfl fun b1 hb1 => ?_
  have e1 := (Ext.refl H).new hb1 (.box [.slice (h.table.women.map eW), .slice (h.table.pieces.map eP), i6 h.table.wrong, .slice (eI h.sick), i6 h.others, i6 h.last, .slice (h.touches.map eTo), .slice (h.boiled.map eB), .slice (h.signs.map eS)])
  simp only [go_sem, reduceIte, reduceCtorEq, Nat.reduceEqDiff, Nat.reduceBEq, Nat.reduceAdd, Nat.reduceMul, Nat.reduceLeDiff, List.getElem?_cons_zero, List.getElem?_cons_succ, bne_self_eq_false, Int.reduceEq]
  refine (thingsR_c h).go ?_
  rw [thingsW_ok hk]
  simp only [↓aops_nil, ↓aops_go, ↓aops_go0, ↓aops_if, ↓k_cont, ↓k_cont0, g_tt, g_ff, g_tf, g_ft, g_u, ↓apre_nil, ↓apre_if, ↓apre_go, pgo_det, Tag.isCall, popt_some, gp_tt, gp_ff, gp_tf, gp_ft, gp_u, ↓k_draw, opt_some, List.map_cons, List.map_nil, ev, upd_at, ↓x_skip, ↓x_label, ↓x_ret, ↓x_exit, ↓x_seq, ↓x_block, ↓x_ops, ↓x_cond, x_sel_t, x_sel_f, ↓x_draw, ↓q_kseq_n, ↓q_kseq_r, ↓q_kseq_e, ↓q_block_n, ↓q_block_r, ↓q_block_e, ↓q_loop_n, ↓q_loop_r, ↓q_loop_e, ↓l_done, d_mov, d_pick, d_not, d_nilchk, d_nilchk', d_conv, d_add, d_sub, d_mul, d_quo, d_rem, d_shl, d_shr, d_and, d_or, d_andnot, d_eql, d_neq, d_lss, d_leq, d_gtr, d_geq, d_eqb, d_neqb, d_mkfunc, d_load, d_fieldaddr, d_fieldaddr', d_field_t, d_field_f, d_idxaddr, d_idxaddr_g, elemO_some, d_idxaddr_m, d_arraddr, d_arraddr', d_idx_f, d_sub_s, d_sub_g, d_arrsub, d_arrall, d_extract, d_len, d_len_g, d_len_e, d_len_m, d_min, d_build, d_bslice0, d_bs1, d_bs2, d_bsa, d_eqagg, v_mov, v_pick, v_not, v_nilchk, v_conv, v_bin, v_binb, v_eqagg, v_mkfunc, v_load, v_fieldaddr, v_field, v_idxaddr, v_arraddr, v_idx, v_sub, v_arrsub, v_arrall, v_extract, v_len, v_min, v_build, v_bslice, v_lookup, v_call, v_callv, Nat.reduceEqDiff, Nat.reduceBEq, reduceIte, ite_true, ite_false, Bool.false_eq_true, Bool.true_eq_false, if_true, if_false, decide_eq_true_eq, decide_eq_false_iff_not, decide_true, decide_false, Nat.zero_add, Nat.add_zero, Nat.reduceAdd, reduceCtorEq, eq_self, not_true_eq_false, not_false_eq_true, Bool.not_true, Bool.not_false, Nat.reduceMul, List.length_cons, List.length_nil, at_elem, take_f, take_tt, Int.toNat_natCast, Option.some.injEq, Option.bind_some, Int.natCast_nonneg, true_and, and_true, and_self, ↓q_for_n, ↓q_for_r, ↓q_for_e, eI_len, List.length_map, at_obj, obj_box, updH_same, Nat.reduceLeDiff, Nat.zero_le, Nat.le_refl, List.drop_zero, List.drop_succ_cons, List.take_succ_cons, List.take_zero, c_agg, c_int, c_bool, c_slice, c_emp, c_grow, ↓l_one0, ↓l_one1, ↓k_l0, ↓k_l1, stab_nil, stab_cons, stab_if, st_tt, st_ff, st_tf, st_ft, st_u, List.getElem?_cons_zero, List.getElem?_cons_succ, bne_self_eq_false, Int.reduceEq, u64w (show nT h < 2 ^ 62 by omega), w_shl1 (show nT h < 62 by omega), show ¬ ((nT h : Int) < 0) by omega, pred_pow (show nT h < 62 by omega), w_and hm (show 2 ^ nT h - 1 < 2 ^ 62 by omega)]
  refine (bits_c _ (by omega)).go ?_
  simp only [go_sem, reduceIte, reduceCtorEq, Nat.reduceEqDiff, Nat.reduceBEq, Nat.reduceAdd, Nat.reduceMul, Nat.reduceLeDiff, List.getElem?_cons_zero, List.getElem?_cons_succ, bne_self_eq_false, Int.reduceEq]
  exact fin_ret 4 (by simp [upd_at]) ⟨_, H, Settle.refl e1, by simp [upd_at, listedL], rfl⟩
def ordN (h : House) (k : Int) (ws : List Nat) : Nat := if nT h = 0 then 0 else min (wordN ws 0 % 4) (h.last - k + 1).toNat
def ordUpto (h : House) (ws : List Nat) (j : Nat) : List Int := (List.range j).map fun i => ((wordN ws (i + 1) % nT h : Nat) : Int)
def ordW (h : House) (k : Int) (ws : List Nat) : List Int := ordUpto h ws (ordN h k ws)
theorem ordW_dom {h : House} (hk : HOK h) {k : Int} (hh : hourOK h k = true) (ws : List Nat) : OrdD h k (ordW h k ws) := by
  obtain ⟨h1, h2, h3⟩ := orderN_val hk hh
  rw [longest_val hk hh] at h1
  refine ⟨?_, ?_⟩
  · rw [ordW, ordUpto, List.length_map, List.length_range, ordN]
    split
    · omega
    · split at h1 <;> omega
  · intro a ha
    simp only [ordW, ordUpto, List.mem_map, List.mem_range] at ha
    obtain ⟨i, hi, rfl⟩ := ha
    refine ⟨_, rfl, Nat.mod_lt _ ?_⟩
    rw [ordN] at hi
    split at hi <;> omega
theorem ordW_c (h : House) (hk : HOK h) (k : Int) (hh : hourOK h k = true) (ws : List Nat) (hw : ∀ n ∈ ws, n < 65536) : Pure Tryz.prog 73 [eH h, i6 k, .slice (eU ws)] (.slice (eI (ordW h k ws))) := by
  intro H
  obtain ⟨q, rfl, hq⟩ := hour_nat hh
  obtain ⟨L, hL, hL5⟩ := hk.last
  have hn := nT_le hk
  have hw0 := wordN_lt hw 0
  have hwc : Pure Tryz.prog 124 [.slice (eU ws), i6 0] (i6 (wordN ws 0 : Nat)) := word_c ws hw 0
  refine fn_of hmix fc73 (by simp) ?_
  rw [ienv3]
  simp only [go_sem, reduceIte, reduceCtorEq, Nat.reduceEqDiff, Nat.reduceBEq, Nat.reduceAdd, Nat.reduceMul, Nat.reduceLeDiff, List.getElem?_cons_zero, List.getElem?_cons_succ, bne_self_eq_false, Int.reduceEq, ac73, eH]
  refine v_box _ rfl fun b1 hb1 => ?_
  have e1 := (Ext.refl H).new hb1 (.box [.slice (h.table.women.map eW), .slice (h.table.pieces.map eP), i6 h.table.wrong, .slice (eI h.sick), i6 h.others, i6 h.last, .slice (h.touches.map eTo), .slice (h.boiled.map eB), .slice (h.signs.map eS)])
  simp only [go_sem, reduceIte, reduceCtorEq, Nat.reduceEqDiff, Nat.reduceBEq, Nat.reduceAdd, Nat.reduceMul, Nat.reduceLeDiff, List.getElem?_cons_zero, List.getElem?_cons_succ, bne_self_eq_false, Int.reduceEq]
  refine x_for (ordN h q ws) (fun j env H1 => Ext H H1 ∧ H1 b1 = some (.box [.slice (h.table.women.map eW), .slice (h.table.pieces.map eP), i6 h.table.wrong, .slice (eI h.sick), i6 h.others, i6 h.last, .slice (h.touches.map eTo), .slice (h.boiled.map eB), .slice (h.signs.map eS)]) ∧ Grown 1 H H1 (env 7) (eI (ordUpto h ws j)) ∧ env 1 = i6 q ∧ env 2 = .slice (eU ws) ∧ env 3 = .ptr b1 0 ∧ env 8 = i6 j ∧ env 40 = .any)
    ⟨e1, updH_same _ _ _, .inl ⟨by simp [upd_at], rfl⟩, by simp [upd_at], by simp [upd_at], by simp [upd_at], by simp [upd_at], by simp [upd_at]⟩ ?_
  rintro j env H1 hj ⟨hE, hB, hG, g1, g2, g3, g8, hN⟩
  have hj4 : j ≤ 4 := by unfold ordN at hj; split at hj <;> omega
  have hmod : ((wordN ws 0 : Nat) : Int).tmod 4 = ((wordN ws 0 % 4 : Nat) : Int) := (Int.ofNat_tmod _ 4).symm
  have hadd : IntKind.i64.wrap ((q : Int) + (j : Int)) = (q : Int) + (j : Int) := w64 (by omega) (by omega)
  by_cases hlt : j < ordN h q ws
  · have k0 : nT h ≠ 0 := by intro h0; rw [ordN, if_pos h0] at hlt; omega
    have k1 : (j : Int) < ((wordN ws 0 % 4 : Nat) : Int) := by rw [ordN, if_neg k0] at hlt; omega
    have k2 : (q : Int) + (j : Int) ≤ h.last := by rw [ordN, if_neg k0] at hlt; omega
    have hw1 := wordN_lt hw (j + 1)
    simp only [go_sem, reduceIte, reduceCtorEq, Nat.reduceEqDiff, Nat.reduceBEq, Nat.reduceAdd, Nat.reduceMul, Nat.reduceLeDiff, List.getElem?_cons_zero, List.getElem?_cons_succ, bne_self_eq_false, Int.reduceEq, g1, g2, g3, g8, hN, hB]
    refine hwc.go ?_
    simp only [go_sem, reduceIte, reduceCtorEq, Nat.reduceEqDiff, Nat.reduceBEq, Nat.reduceAdd, Nat.reduceMul, Nat.reduceLeDiff, List.getElem?_cons_zero, List.getElem?_cons_succ, bne_self_eq_false, Int.reduceEq, g1, g2, g3, g8, hN, hB, hmod, k1, hadd, k2, take_f', show ¬ (4 : Int) = 0 by omega]
    refine (thingsR_c h).go ?_
    rw [thingsW_ok hk]
    simp only [go_sem, reduceIte, reduceCtorEq, Nat.reduceEqDiff, Nat.reduceBEq, Nat.reduceAdd, Nat.reduceMul, Nat.reduceLeDiff, List.getElem?_cons_zero, List.getElem?_cons_succ, bne_self_eq_false, Int.reduceEq, g1, g2, g3, g8, hN, hB, show (0 : Int) < (nT h : Int) by omega, wsucc (show j < 4611686018427387904 by omega)]
    refine pgo_call (word_c ws hw (j + 1)) ?_
    simp only [go_sem, reduceIte, reduceCtorEq, Nat.reduceEqDiff, Nat.reduceBEq, Nat.reduceAdd, Nat.reduceMul, Nat.reduceLeDiff, List.getElem?_cons_zero, List.getElem?_cons_succ, bne_self_eq_false, Int.reduceEq, g1, g2, g3, g8, hN, hB]
    refine pgo_call (thingsR_c h) ?_
    rw [thingsW_ok hk]
    simp only [go_sem, reduceIte, reduceCtorEq, Nat.reduceEqDiff, Nat.reduceBEq, Nat.reduceAdd, Nat.reduceMul, Nat.reduceLeDiff, List.getElem?_cons_zero, List.getElem?_cons_succ, bne_self_eq_false, Int.reduceEq, g1, g2, g3, g8, hN, hB, show ¬ (nT h : Int) = 0 by omega, ← Int.ofNat_tmod, d_bs1]
    refine v_append hG hE rfl (eI_good _) (one_good _) (one_cell _) (by simp [ordUpto]; omega) (by simp [ordUpto]; omega) ?_
    intro v' H2 hg' he' hk'
    have K1 := hk'.box hG hB
    simp only [go_sem, reduceIte, reduceCtorEq, Nat.reduceEqDiff, Nat.reduceBEq, Nat.reduceAdd, Nat.reduceMul, Nat.reduceLeDiff, List.getElem?_cons_zero, List.getElem?_cons_succ, bne_self_eq_false, Int.reduceEq, g1, g2, g3, g8, hN, K1, wsucc (show j < 4611686018427387904 by omega), hlt]
    refine ⟨he', ?_⟩
    rw [ordUpto, List.range_succ, List.map_append, ← ordUpto, eI_app]; exact hg'
  · have : j = ordN h q ws := by omega
    have hfin : ∀ env' : Env, env' 40 = .any → env' 6 = env 7 → fin Tryz.prog [ResultVar.tmp 6] 40 (fun r' H' => r' = .slice (eI (ordW h q ws)) ∧ H' = H) .ret env' H1 := by
      intro env' p1 p2
      refine fin_ret 6 p1 ⟨_, H, ?_, rfl, rfl⟩
      rw [p2, ordW, ← this]
      exact hG.weaken hE
    by_cases k1 : (j : Int) < ((wordN ws 0 % 4 : Nat) : Int)
    rotate_left
    · simp only [go_sem, reduceIte, reduceCtorEq, Nat.reduceEqDiff, Nat.reduceBEq, Nat.reduceAdd, Nat.reduceMul, Nat.reduceLeDiff, List.getElem?_cons_zero, List.getElem?_cons_succ, bne_self_eq_false, Int.reduceEq, g1, g2, g3, g8, hN, hB]
      refine hwc.go ?_
      simp only [go_sem, reduceIte, reduceCtorEq, Nat.reduceEqDiff, Nat.reduceBEq, Nat.reduceAdd, Nat.reduceMul, Nat.reduceLeDiff, List.getElem?_cons_zero, List.getElem?_cons_succ, bne_self_eq_false, Int.reduceEq, g1, g2, g3, g8, hN, hB, hmod, k1, show ¬ (4 : Int) = 0 by omega]
      exact hfin _ (by simp [upd_at, hN]) (by simp [upd_at])
    by_cases k2 : (q : Int) + (j : Int) ≤ h.last
    rotate_left
    · simp only [go_sem, reduceIte, reduceCtorEq, Nat.reduceEqDiff, Nat.reduceBEq, Nat.reduceAdd, Nat.reduceMul, Nat.reduceLeDiff, List.getElem?_cons_zero, List.getElem?_cons_succ, bne_self_eq_false, Int.reduceEq, g1, g2, g3, g8, hN, hB]
      refine hwc.go ?_
      simp only [go_sem, reduceIte, reduceCtorEq, Nat.reduceEqDiff, Nat.reduceBEq, Nat.reduceAdd, Nat.reduceMul, Nat.reduceLeDiff, List.getElem?_cons_zero, List.getElem?_cons_succ, bne_self_eq_false, Int.reduceEq, g1, g2, g3, g8, hN, hB, hmod, k1, hadd, k2, take_f', show ¬ (4 : Int) = 0 by omega]
      exact hfin _ (by simp [upd_at, hN]) (by simp [upd_at])
    have k0 : nT h = 0 := by
      apply Classical.byContradiction
      intro hne
      rw [ordN, if_neg hne] at hlt; omega
    simp only [go_sem, reduceIte, reduceCtorEq, Nat.reduceEqDiff, Nat.reduceBEq, Nat.reduceAdd, Nat.reduceMul, Nat.reduceLeDiff, List.getElem?_cons_zero, List.getElem?_cons_succ, bne_self_eq_false, Int.reduceEq, g1, g2, g3, g8, hN, hB]
    refine hwc.go ?_
    simp only [go_sem, reduceIte, reduceCtorEq, Nat.reduceEqDiff, Nat.reduceBEq, Nat.reduceAdd, Nat.reduceMul, Nat.reduceLeDiff, List.getElem?_cons_zero, List.getElem?_cons_succ, bne_self_eq_false, Int.reduceEq, g1, g2, g3, g8, hN, hB, hmod, k1, hadd, k2, take_f', show ¬ (4 : Int) = 0 by omega]
    refine (thingsR_c h).go ?_
    rw [thingsW_ok hk]
    simp only [go_sem, reduceIte, reduceCtorEq, Nat.reduceEqDiff, Nat.reduceBEq, Nat.reduceAdd, Nat.reduceMul, Nat.reduceLeDiff, List.getElem?_cons_zero, List.getElem?_cons_succ, bne_self_eq_false, Int.reduceEq, g1, g2, g3, g8, hN, hB, show ¬ (0 : Int) < (nT h : Int) by omega]
    exact hfin _ (by simp [upd_at, hN]) (by simp [upd_at])
theorem rising_inc {n : Nat} (hn : n ≤ 10) {l : List Int} (h : Inc n l) : risingR l n = true := by
  rw [risingR, List.all_eq_true]
  intro i hi
  have hi := List.mem_range.1 hi
  obtain ⟨a, ha, han⟩ := h.2 _ (List.getElem_mem hi)
  have e : l.getD i 0 = (a : Int) := by rw [List.getD_eq_getElem?_getD, List.getElem?_eq_getElem hi, ← ha]; rfl
  rw [risingRAt, e, w64 (by omega) (by omega), Bool.and_eq_true, decide_eq_true_eq]
  refine ⟨by omega, ?_⟩
  by_cases h0 : i = 0
  · simp [h0]
  · have hi1 : i - 1 < l.length := by omega
    have e1 : l.getD (i - 1) 0 = l[i - 1] := by rw [List.getD_eq_getElem?_getD, List.getElem?_eq_getElem hi1]; rfl
    have := (List.pairwise_iff_getElem.1 h.1) (i - 1) i hi1 hi (by omega)
    rw [ha] at this
    rw [e1, decide_eq_false (show ¬ (a : Int) ≤ l[i - 1] by omega)]; simp
theorem risingOK_inc {h : House} (hk : HOK h) {l : List Int} (hi : Inc (nT h) l) : risingOK l (thingsW h) = true := by
  have := nT_le hk
  rw [thingsW_ok hk, rising_eq _ _ (by omega) (by omega)]; exact rising_inc this hi
theorem proveBoil_self {h : House} (hk : HOK h) {k : Int} (ha : askErrH h (hourOK h k) = 0) {x : List Int} (hi : Inc (nT h) x) (hs : safeP h (atOf x k) = true) : proveBoilP h k x x.length = true := by
  rw [proveBoilP, ask_cond ha, risingOK_inc hk hi, hs]; simp
theorem proveOrder_self {h : House} (hk : HOK h) {k : Int} (ha : askErrH h (hourOK h k) = 0) {x : List Int} (hi : OrdD h k x) (hs : safeP h (rowOf x k) = true) : proveOrderP h k x x.length = true := by
  obtain ⟨h1, h2, h3⟩ := orderN_val hk (ask_ok ha).2.1
  have := hi.1
  rw [proveOrderP, ask_cond ha, (thing_of hk).2 hi.2, hs, decide_eq_true (show (x.length : Int) ≤ longestOf h k by omega)]; simp
theorem proveBoil_safe {h : House} {k : Int} {x : List Int} {many : Int} (hp : proveBoilP h k x many = true) : safeP h (atOf x k) = true := by
  simp only [proveBoilP, Bool.and_eq_true] at hp; exact hp.2.2
theorem proveOrder_safe {h : House} {k : Int} {x : List Int} {many : Int} (hp : proveOrderP h k x many = true) : safeP h (rowOf x k) = true := by
  simp only [proveOrderP, Bool.and_eq_true] at hp; exact hp.2.2.2
set_option maxHeartbeats 1000000 in
theorem nofewer_err (h : House) (n : Nat) (hn : n < 256) (m : Nat) (hm16 : m < 65536) (ws : List Nat) (hw : ∀ n ∈ ws, n < 65536) (c1 : readyH h = true) (c2 : askErrH h (hourOK h (hourK h n)) ≠ 0) : Pure Tryz.prog 17 [eH h, .int .u8 (n : Int), .int .u16 (m : Int), .slice (eU ws)] (.bool true) := by
  intro H
  refine fn_of hmix fc17 (by simp) ?_
  rw [ienv4]
  simp only [go_sem, reduceIte, reduceCtorEq, Nat.reduceEqDiff, Nat.reduceBEq, Nat.reduceAdd, Nat.reduceMul, Nat.reduceLeDiff, List.getElem?_cons_zero, List.getElem?_cons_succ, bne_self_eq_false, Int.reduceEq, ac17, eH]
  refine v_box _ rfl fun b1 hb1 => ?_
  have e1 := (Ext.refl H).new hb1 (.box [.slice (h.table.women.map eW), .slice (h.table.pieces.map eP), i6 h.table.wrong, .slice (eI h.sick), i6 h.others, i6 h.last, .slice (h.touches.map eTo), .slice (h.boiled.map eB), .slice (h.signs.map eS)])
  simp only [go_sem, reduceIte, reduceCtorEq, Nat.reduceEqDiff, Nat.reduceBEq, Nat.reduceAdd, Nat.reduceMul, Nat.reduceLeDiff, List.getElem?_cons_zero, List.getElem?_cons_succ, bne_self_eq_false, Int.reduceEq]
  refine (ready_c h).go ?_
  obtain ⟨hm, hc⟩ := ready_ok c1
  have hv := hv_of hm.tsm hm.sk hc
  have hnt := nT_le hv.ok
  obtain ⟨f1, f2, f3⟩ := hourK_facts hv.ok hn
  have hh := hourK_ok hv.ok n
  have hc10 : ¬ (10 : Int) = 0 := by omega
  have hc11 : ¬ (11 : Int) = 0 := by omega
  have hli := listedL_inc hv.ok m
  have hll := inc_len hli
  have hod := ordW_dom hv.ok hh ws
  have hol : (ordW h (hourK h n) ws).length ≤ 3 := by have := hod.1; have := (orderN_val hv.ok hh).2.1; omega
  have f4 : IntKind.i64.wrap (m : Int) = (m : Int) := w64 (by omega) (by omega)
  have hE0 : orderE h (hourK h n) = 11 := by rw [orderE, if_neg c2, ask_eleven hc hh c2]
  have c3 : askErrH h true = 11 := by rw [← hh]; exact ask_eleven hc hh c2
  have p1 : ∀ l b, proveBoilP h (hourK h n) l b = false := fun l b => by rw [proveBoilP, decide_eq_false (ask_and _ c2)]; rfl
  have p2 : ∀ l b, proveOrderP h (hourK h n) l b = false := fun l b => by rw [proveOrderP, decide_eq_false (ask_and _ c2)]; rfl
  simp only [go_sem, reduceIte, reduceCtorEq, Nat.reduceEqDiff, Nat.reduceBEq, Nat.reduceAdd, Nat.reduceMul, Nat.reduceLeDiff, List.getElem?_cons_zero, List.getElem?_cons_succ, bne_self_eq_false, Int.reduceEq, c1, f1, f2, f3]
  refine (house_c h hm).go ?_
  simp only [go_sem, reduceIte, reduceCtorEq, Nat.reduceEqDiff, Nat.reduceBEq, Nat.reduceAdd, Nat.reduceMul, Nat.reduceLeDiff, List.getElem?_cons_zero, List.getElem?_cons_succ, bne_self_eq_false, Int.reduceEq]
  refine (boil_c h hm.tsm hm.sk (hourK h n)).go ?_
  simp only [go_sem, reduceIte, reduceCtorEq, Nat.reduceEqDiff, Nat.reduceBEq, Nat.reduceAdd, Nat.reduceMul, Nat.reduceLeDiff, List.getElem?_cons_zero, List.getElem?_cons_succ, bne_self_eq_false, Int.reduceEq, listR, hh, c3, hE0, hc11]
  refine (house_c h hm).go ?_
  simp only [go_sem, reduceIte, reduceCtorEq, Nat.reduceEqDiff, Nat.reduceBEq, Nat.reduceAdd, Nat.reduceMul, Nat.reduceLeDiff, List.getElem?_cons_zero, List.getElem?_cons_succ, bne_self_eq_false, Int.reduceEq]
  refine (order_c h hm.tsm hm.sk (hourK h n)).go ?_
  simp only [go_sem, reduceIte, reduceCtorEq, Nat.reduceEqDiff, Nat.reduceBEq, Nat.reduceAdd, Nat.reduceMul, Nat.reduceLeDiff, List.getElem?_cons_zero, List.getElem?_cons_succ, bne_self_eq_false, Int.reduceEq, listR, f4, hh, c3, hE0, hc11]
  refine pgo_call (listedH_c h hv.ok m (by omega)) ?_
  simp only [go_sem, reduceIte, reduceCtorEq, Nat.reduceEqDiff, Nat.reduceBEq, Nat.reduceAdd, Nat.reduceMul, Nat.reduceLeDiff, List.getElem?_cons_zero, List.getElem?_cons_succ, bne_self_eq_false, Int.reduceEq]
  refine pgo_call (ordW_c h hv.ok _ hh ws hw) ?_
  simp only [go_sem, reduceIte, reduceCtorEq, Nat.reduceEqDiff, Nat.reduceBEq, Nat.reduceAdd, Nat.reduceMul, Nat.reduceLeDiff, List.getElem?_cons_zero, List.getElem?_cons_succ, bne_self_eq_false, Int.reduceEq]
  refine pgo_call (house_c h hm) ?_
  simp only [go_sem, reduceIte, reduceCtorEq, Nat.reduceEqDiff, Nat.reduceBEq, Nat.reduceAdd, Nat.reduceMul, Nat.reduceLeDiff, List.getElem?_cons_zero, List.getElem?_cons_succ, bne_self_eq_false, Int.reduceEq]
  refine pgo_call (copyL_c _ (by omega)) ?_
  simp only [go_sem, reduceIte, reduceCtorEq, Nat.reduceEqDiff, Nat.reduceBEq, Nat.reduceAdd, Nat.reduceMul, Nat.reduceLeDiff, List.getElem?_cons_zero, List.getElem?_cons_succ, bne_self_eq_false, Int.reduceEq]
  refine pgo_call (proveBoil_c h hm.tsm hm.sk _ _ (by unfold Sm; omega) _) ?_
  simp only [go_sem, reduceIte, reduceCtorEq, Nat.reduceEqDiff, Nat.reduceBEq, Nat.reduceAdd, Nat.reduceMul, Nat.reduceLeDiff, List.getElem?_cons_zero, List.getElem?_cons_succ, bne_self_eq_false, Int.reduceEq]
  refine pgo_call (house_c h hm) ?_
  simp only [go_sem, reduceIte, reduceCtorEq, Nat.reduceEqDiff, Nat.reduceBEq, Nat.reduceAdd, Nat.reduceMul, Nat.reduceLeDiff, List.getElem?_cons_zero, List.getElem?_cons_succ, bne_self_eq_false, Int.reduceEq]
  refine pgo_call (copyL_c _ (by omega)) ?_
  simp only [go_sem, reduceIte, reduceCtorEq, Nat.reduceEqDiff, Nat.reduceBEq, Nat.reduceAdd, Nat.reduceMul, Nat.reduceLeDiff, List.getElem?_cons_zero, List.getElem?_cons_succ, bne_self_eq_false, Int.reduceEq]
  refine pgo_call (proveOrder_c h hm.tsm hm.sk _ _ (by unfold Sm; omega) _) ?_
  simp only [go_sem, reduceIte, reduceCtorEq, Nat.reduceEqDiff, Nat.reduceBEq, Nat.reduceAdd, Nat.reduceMul, Nat.reduceLeDiff, List.getElem?_cons_zero, List.getElem?_cons_succ, bne_self_eq_false, Int.reduceEq, hh, c3, hE0, hc11, p1, p2]
  refine awake_c.go ?_
  simp only [go_sem, reduceIte, reduceCtorEq, Nat.reduceEqDiff, Nat.reduceBEq, Nat.reduceAdd, Nat.reduceMul, Nat.reduceLeDiff, List.getElem?_cons_zero, List.getElem?_cons_succ, bne_self_eq_false, Int.reduceEq]
  exact fin_ret 8 (by simp [upd_at]) ⟨_, H, Settle.refl e1, by simp [upd_at], rfl⟩
set_option maxHeartbeats 1000000 in
theorem nofewer_none (h : House) (n : Nat) (hn : n < 256) (m : Nat) (hm16 : m < 65536) (ws : List Nat) (hw : ∀ n ∈ ws, n < 65536) (c1 : readyH h = true) (c2 : askErrH h (hourOK h (hourK h n)) = 0) (hE0 : orderE h (hourK h n) = 10) (ha : ((orderL h (hourK h n)).any fun x => safeP h (rowOf x (hourK h n))) = false) : Pure Tryz.prog 17 [eH h, .int .u8 (n : Int), .int .u16 (m : Int), .slice (eU ws)] (.bool true) := by
  intro H
  refine fn_of hmix fc17 (by simp) ?_
  rw [ienv4]
  simp only [go_sem, reduceIte, reduceCtorEq, Nat.reduceEqDiff, Nat.reduceBEq, Nat.reduceAdd, Nat.reduceMul, Nat.reduceLeDiff, List.getElem?_cons_zero, List.getElem?_cons_succ, bne_self_eq_false, Int.reduceEq, ac17, eH]
  refine v_box _ rfl fun b1 hb1 => ?_
  have e1 := (Ext.refl H).new hb1 (.box [.slice (h.table.women.map eW), .slice (h.table.pieces.map eP), i6 h.table.wrong, .slice (eI h.sick), i6 h.others, i6 h.last, .slice (h.touches.map eTo), .slice (h.boiled.map eB), .slice (h.signs.map eS)])
  simp only [go_sem, reduceIte, reduceCtorEq, Nat.reduceEqDiff, Nat.reduceBEq, Nat.reduceAdd, Nat.reduceMul, Nat.reduceLeDiff, List.getElem?_cons_zero, List.getElem?_cons_succ, bne_self_eq_false, Int.reduceEq]
  refine (ready_c h).go ?_
  obtain ⟨hm, hc⟩ := ready_ok c1
  have hv := hv_of hm.tsm hm.sk hc
  have hnt := nT_le hv.ok
  obtain ⟨f1, f2, f3⟩ := hourK_facts hv.ok hn
  have hh := hourK_ok hv.ok n
  have hc10 : ¬ (10 : Int) = 0 := by omega
  have hc11 : ¬ (11 : Int) = 0 := by omega
  have hli := listedL_inc hv.ok m
  have hll := inc_len hli
  have hod := ordW_dom hv.ok hh ws
  have hol : (ordW h (hourK h n) ws).length ≤ 3 := by have := hod.1; have := (orderN_val hv.ok hh).2.1; omega
  have f4 : IntKind.i64.wrap (m : Int) = (m : Int) := w64 (by omega) (by omega)
  have hbl := boilOf_len' hc hv.ok hh
  have hmin := boil_min hc hv.ok hh
  have c3 : askErrH h true = 0 := by rw [← hh]; exact c2
  have p1 : proveBoilP h (hourK h n) (boilOf' h (hourK h n)) (boilOf' h (hourK h n)).length = true := proveBoil_self hv.ok c2 hmin.dom hmin.good
  have p3 : proveOrderP h (hourK h n) (ordW h (hourK h n) ws) 99 = false := by
    rw [Bool.eq_false_iff]; intro hp
    rw [any_of_dom hod (proveOrder_safe hp)] at ha; cases ha
  simp only [go_sem, reduceIte, reduceCtorEq, Nat.reduceEqDiff, Nat.reduceBEq, Nat.reduceAdd, Nat.reduceMul, Nat.reduceLeDiff, List.getElem?_cons_zero, List.getElem?_cons_succ, bne_self_eq_false, Int.reduceEq, c1, f1, f2, f3]
  refine (house_c h hm).go ?_
  simp only [go_sem, reduceIte, reduceCtorEq, Nat.reduceEqDiff, Nat.reduceBEq, Nat.reduceAdd, Nat.reduceMul, Nat.reduceLeDiff, List.getElem?_cons_zero, List.getElem?_cons_succ, bne_self_eq_false, Int.reduceEq]
  refine (boil_c h hm.tsm hm.sk (hourK h n)).go ?_
  simp only [go_sem, reduceIte, reduceCtorEq, Nat.reduceEqDiff, Nat.reduceBEq, Nat.reduceAdd, Nat.reduceMul, Nat.reduceLeDiff, List.getElem?_cons_zero, List.getElem?_cons_succ, bne_self_eq_false, Int.reduceEq, listR, hh, c3, hE0, hc10]
  refine (house_c h hm).go ?_
  simp only [go_sem, reduceIte, reduceCtorEq, Nat.reduceEqDiff, Nat.reduceBEq, Nat.reduceAdd, Nat.reduceMul, Nat.reduceLeDiff, List.getElem?_cons_zero, List.getElem?_cons_succ, bne_self_eq_false, Int.reduceEq]
  refine (order_c h hm.tsm hm.sk (hourK h n)).go ?_
  simp only [go_sem, reduceIte, reduceCtorEq, Nat.reduceEqDiff, Nat.reduceBEq, Nat.reduceAdd, Nat.reduceMul, Nat.reduceLeDiff, List.getElem?_cons_zero, List.getElem?_cons_succ, bne_self_eq_false, Int.reduceEq, listR, f4, hh, c3, hE0, hc10]
  refine pgo_call (listedH_c h hv.ok m (by omega)) ?_
  simp only [go_sem, reduceIte, reduceCtorEq, Nat.reduceEqDiff, Nat.reduceBEq, Nat.reduceAdd, Nat.reduceMul, Nat.reduceLeDiff, List.getElem?_cons_zero, List.getElem?_cons_succ, bne_self_eq_false, Int.reduceEq]
  refine pgo_call (ordW_c h hv.ok _ hh ws hw) ?_
  simp only [go_sem, reduceIte, reduceCtorEq, Nat.reduceEqDiff, Nat.reduceBEq, Nat.reduceAdd, Nat.reduceMul, Nat.reduceLeDiff, List.getElem?_cons_zero, List.getElem?_cons_succ, bne_self_eq_false, Int.reduceEq]
  refine pgo_call (house_c h hm) ?_
  simp only [go_sem, reduceIte, reduceCtorEq, Nat.reduceEqDiff, Nat.reduceBEq, Nat.reduceAdd, Nat.reduceMul, Nat.reduceLeDiff, List.getElem?_cons_zero, List.getElem?_cons_succ, bne_self_eq_false, Int.reduceEq]
  refine pgo_call (copyL_c _ (by omega)) ?_
  simp only [go_sem, reduceIte, reduceCtorEq, Nat.reduceEqDiff, Nat.reduceBEq, Nat.reduceAdd, Nat.reduceMul, Nat.reduceLeDiff, List.getElem?_cons_zero, List.getElem?_cons_succ, bne_self_eq_false, Int.reduceEq]
  refine pgo_call (proveBoil_c h hm.tsm hm.sk _ _ (by unfold Sm; omega) _) ?_
  simp only [go_sem, reduceIte, reduceCtorEq, Nat.reduceEqDiff, Nat.reduceBEq, Nat.reduceAdd, Nat.reduceMul, Nat.reduceLeDiff, List.getElem?_cons_zero, List.getElem?_cons_succ, bne_self_eq_false, Int.reduceEq]
  refine pgo_call (house_c h hm) ?_
  simp only [go_sem, reduceIte, reduceCtorEq, Nat.reduceEqDiff, Nat.reduceBEq, Nat.reduceAdd, Nat.reduceMul, Nat.reduceLeDiff, List.getElem?_cons_zero, List.getElem?_cons_succ, bne_self_eq_false, Int.reduceEq]
  refine pgo_call (copyL_c _ (by omega)) ?_
  simp only [go_sem, reduceIte, reduceCtorEq, Nat.reduceEqDiff, Nat.reduceBEq, Nat.reduceAdd, Nat.reduceMul, Nat.reduceLeDiff, List.getElem?_cons_zero, List.getElem?_cons_succ, bne_self_eq_false, Int.reduceEq]
  refine pgo_call (proveOrder_c h hm.tsm hm.sk _ _ (by unfold Sm; omega) _) ?_
  simp only [go_sem, reduceIte, reduceCtorEq, Nat.reduceEqDiff, Nat.reduceBEq, Nat.reduceAdd, Nat.reduceMul, Nat.reduceLeDiff, List.getElem?_cons_zero, List.getElem?_cons_succ, bne_self_eq_false, Int.reduceEq, hh, c3, hE0, hc10, p3]
  refine (house_c h hm).go ?_
  simp only [go_sem, reduceIte, reduceCtorEq, Nat.reduceEqDiff, Nat.reduceBEq, Nat.reduceAdd, Nat.reduceMul, Nat.reduceLeDiff, List.getElem?_cons_zero, List.getElem?_cons_succ, bne_self_eq_false, Int.reduceEq]
  refine (copyL_c _ (by omega)).go ?_
  simp only [go_sem, reduceIte, reduceCtorEq, Nat.reduceEqDiff, Nat.reduceBEq, Nat.reduceAdd, Nat.reduceMul, Nat.reduceLeDiff, List.getElem?_cons_zero, List.getElem?_cons_succ, bne_self_eq_false, Int.reduceEq]
  refine (proveBoil_c h hm.tsm hm.sk _ _ (by unfold Sm; omega) _).go ?_
  rw [p1]
  cases p2 : proveBoilP h (hourK h n) (listedL h m) 99
  · simp only [go_sem, reduceIte, reduceCtorEq, Nat.reduceEqDiff, Nat.reduceBEq, Nat.reduceAdd, Nat.reduceMul, Nat.reduceLeDiff, List.getElem?_cons_zero, List.getElem?_cons_succ, bne_self_eq_false, Int.reduceEq]
    refine awake_c.go ?_
    simp only [go_sem, reduceIte, reduceCtorEq, Nat.reduceEqDiff, Nat.reduceBEq, Nat.reduceAdd, Nat.reduceMul, Nat.reduceLeDiff, List.getElem?_cons_zero, List.getElem?_cons_succ, bne_self_eq_false, Int.reduceEq]
    exact fin_ret 8 (by simp [upd_at]) ⟨_, H, Settle.refl e1, by simp [upd_at], rfl⟩
  · have p4 := hmin.least _ hli (proveBoil_safe p2)
    simp only [go_sem, reduceIte, reduceCtorEq, Nat.reduceEqDiff, Nat.reduceBEq, Nat.reduceAdd, Nat.reduceMul, Nat.reduceLeDiff, List.getElem?_cons_zero, List.getElem?_cons_succ, bne_self_eq_false, Int.reduceEq]
    refine (shorter_c _ _ (by unfold Sm; omega) (by unfold Sm; omega)).go ?_
    rw [p4]
    simp only [go_sem, reduceIte, reduceCtorEq, Nat.reduceEqDiff, Nat.reduceBEq, Nat.reduceAdd, Nat.reduceMul, Nat.reduceLeDiff, List.getElem?_cons_zero, List.getElem?_cons_succ, bne_self_eq_false, Int.reduceEq]
    refine awake_c.go ?_
    simp only [go_sem, reduceIte, reduceCtorEq, Nat.reduceEqDiff, Nat.reduceBEq, Nat.reduceAdd, Nat.reduceMul, Nat.reduceLeDiff, List.getElem?_cons_zero, List.getElem?_cons_succ, bne_self_eq_false, Int.reduceEq]
    exact fin_ret 8 (by simp [upd_at]) ⟨_, H, Settle.refl e1, by simp [upd_at], rfl⟩
set_option maxHeartbeats 1000000 in
theorem nofewer_some (h : House) (n : Nat) (hn : n < 256) (m : Nat) (hm16 : m < 65536) (ws : List Nat) (hw : ∀ n ∈ ws, n < 65536) (c1 : readyH h = true) (c2 : askErrH h (hourOK h (hourK h n)) = 0) (hE0 : orderE h (hourK h n) = 0) (ha : ((orderL h (hourK h n)).any fun x => safeP h (rowOf x (hourK h n))) = true) : Pure Tryz.prog 17 [eH h, .int .u8 (n : Int), .int .u16 (m : Int), .slice (eU ws)] (.bool true) := by
  intro H
  refine fn_of hmix fc17 (by simp) ?_
  rw [ienv4]
  simp only [go_sem, reduceIte, reduceCtorEq, Nat.reduceEqDiff, Nat.reduceBEq, Nat.reduceAdd, Nat.reduceMul, Nat.reduceLeDiff, List.getElem?_cons_zero, List.getElem?_cons_succ, bne_self_eq_false, Int.reduceEq, ac17, eH]
  refine v_box _ rfl fun b1 hb1 => ?_
  have e1 := (Ext.refl H).new hb1 (.box [.slice (h.table.women.map eW), .slice (h.table.pieces.map eP), i6 h.table.wrong, .slice (eI h.sick), i6 h.others, i6 h.last, .slice (h.touches.map eTo), .slice (h.boiled.map eB), .slice (h.signs.map eS)])
  simp only [go_sem, reduceIte, reduceCtorEq, Nat.reduceEqDiff, Nat.reduceBEq, Nat.reduceAdd, Nat.reduceMul, Nat.reduceLeDiff, List.getElem?_cons_zero, List.getElem?_cons_succ, bne_self_eq_false, Int.reduceEq]
  refine (ready_c h).go ?_
  obtain ⟨hm, hc⟩ := ready_ok c1
  have hv := hv_of hm.tsm hm.sk hc
  have hnt := nT_le hv.ok
  obtain ⟨f1, f2, f3⟩ := hourK_facts hv.ok hn
  have hh := hourK_ok hv.ok n
  have hc10 : ¬ (10 : Int) = 0 := by omega
  have hc11 : ¬ (11 : Int) = 0 := by omega
  have hli := listedL_inc hv.ok m
  have hll := inc_len hli
  have hod := ordW_dom hv.ok hh ws
  have hol : (ordW h (hourK h n) ws).length ≤ 3 := by have := hod.1; have := (orderN_val hv.ok hh).2.1; omega
  have f4 : IntKind.i64.wrap (m : Int) = (m : Int) := w64 (by omega) (by omega)
  have hbl := boilOf_len' hc hv.ok hh
  have hmin := boil_min hc hv.ok hh
  have c3 : askErrH h true = 0 := by rw [← hh]; exact c2
  have p1 : proveBoilP h (hourK h n) (boilOf' h (hourK h n)) (boilOf' h (hourK h n)).length = true := proveBoil_self hv.ok c2 hmin.dom hmin.good
  have om := order_min ha
  have hyl := orderOf_le hv.ok hh ha
  have q1 := proveOrder_self hv.ok c2 om.dom om.good
  have q2 : proveOrderP h (hourK h n) (ordW h (hourK h n) ws) 99 = true → shorterL (ordW h (hourK h n) ws) (orderOf h (hourK h n)) = false := fun hp => om.least _ hod (proveOrder_safe hp)
  simp only [go_sem, reduceIte, reduceCtorEq, Nat.reduceEqDiff, Nat.reduceBEq, Nat.reduceAdd, Nat.reduceMul, Nat.reduceLeDiff, List.getElem?_cons_zero, List.getElem?_cons_succ, bne_self_eq_false, Int.reduceEq, c1, f1, f2, f3]
  refine (house_c h hm).go ?_
  simp only [go_sem, reduceIte, reduceCtorEq, Nat.reduceEqDiff, Nat.reduceBEq, Nat.reduceAdd, Nat.reduceMul, Nat.reduceLeDiff, List.getElem?_cons_zero, List.getElem?_cons_succ, bne_self_eq_false, Int.reduceEq]
  refine (boil_c h hm.tsm hm.sk (hourK h n)).go ?_
  simp only [go_sem, reduceIte, reduceCtorEq, Nat.reduceEqDiff, Nat.reduceBEq, Nat.reduceAdd, Nat.reduceMul, Nat.reduceLeDiff, List.getElem?_cons_zero, List.getElem?_cons_succ, bne_self_eq_false, Int.reduceEq, listR, hh, c3, hE0]
  refine (house_c h hm).go ?_
  simp only [go_sem, reduceIte, reduceCtorEq, Nat.reduceEqDiff, Nat.reduceBEq, Nat.reduceAdd, Nat.reduceMul, Nat.reduceLeDiff, List.getElem?_cons_zero, List.getElem?_cons_succ, bne_self_eq_false, Int.reduceEq]
  refine (order_c h hm.tsm hm.sk (hourK h n)).go ?_
  simp only [go_sem, reduceIte, reduceCtorEq, Nat.reduceEqDiff, Nat.reduceBEq, Nat.reduceAdd, Nat.reduceMul, Nat.reduceLeDiff, List.getElem?_cons_zero, List.getElem?_cons_succ, bne_self_eq_false, Int.reduceEq, listR, f4, hh, c3, hE0]
  refine pgo_call (listedH_c h hv.ok m (by omega)) ?_
  simp only [go_sem, reduceIte, reduceCtorEq, Nat.reduceEqDiff, Nat.reduceBEq, Nat.reduceAdd, Nat.reduceMul, Nat.reduceLeDiff, List.getElem?_cons_zero, List.getElem?_cons_succ, bne_self_eq_false, Int.reduceEq]
  refine pgo_call (ordW_c h hv.ok _ hh ws hw) ?_
  simp only [go_sem, reduceIte, reduceCtorEq, Nat.reduceEqDiff, Nat.reduceBEq, Nat.reduceAdd, Nat.reduceMul, Nat.reduceLeDiff, List.getElem?_cons_zero, List.getElem?_cons_succ, bne_self_eq_false, Int.reduceEq]
  refine pgo_call (house_c h hm) ?_
  simp only [go_sem, reduceIte, reduceCtorEq, Nat.reduceEqDiff, Nat.reduceBEq, Nat.reduceAdd, Nat.reduceMul, Nat.reduceLeDiff, List.getElem?_cons_zero, List.getElem?_cons_succ, bne_self_eq_false, Int.reduceEq]
  refine pgo_call (copyL_c _ (by omega)) ?_
  simp only [go_sem, reduceIte, reduceCtorEq, Nat.reduceEqDiff, Nat.reduceBEq, Nat.reduceAdd, Nat.reduceMul, Nat.reduceLeDiff, List.getElem?_cons_zero, List.getElem?_cons_succ, bne_self_eq_false, Int.reduceEq]
  refine pgo_call (proveBoil_c h hm.tsm hm.sk _ _ (by unfold Sm; omega) _) ?_
  simp only [go_sem, reduceIte, reduceCtorEq, Nat.reduceEqDiff, Nat.reduceBEq, Nat.reduceAdd, Nat.reduceMul, Nat.reduceLeDiff, List.getElem?_cons_zero, List.getElem?_cons_succ, bne_self_eq_false, Int.reduceEq]
  refine pgo_call (house_c h hm) ?_
  simp only [go_sem, reduceIte, reduceCtorEq, Nat.reduceEqDiff, Nat.reduceBEq, Nat.reduceAdd, Nat.reduceMul, Nat.reduceLeDiff, List.getElem?_cons_zero, List.getElem?_cons_succ, bne_self_eq_false, Int.reduceEq]
  refine pgo_call (copyL_c _ (by omega)) ?_
  simp only [go_sem, reduceIte, reduceCtorEq, Nat.reduceEqDiff, Nat.reduceBEq, Nat.reduceAdd, Nat.reduceMul, Nat.reduceLeDiff, List.getElem?_cons_zero, List.getElem?_cons_succ, bne_self_eq_false, Int.reduceEq]
  refine pgo_call (proveOrder_c h hm.tsm hm.sk _ _ (by unfold Sm; omega) _) ?_
  simp only [go_sem, reduceIte, reduceCtorEq, Nat.reduceEqDiff, Nat.reduceBEq, Nat.reduceAdd, Nat.reduceMul, Nat.reduceLeDiff, List.getElem?_cons_zero, List.getElem?_cons_succ, bne_self_eq_false, Int.reduceEq, hh, c3, hE0]
  refine (house_c h hm).go ?_
  simp only [go_sem, reduceIte, reduceCtorEq, Nat.reduceEqDiff, Nat.reduceBEq, Nat.reduceAdd, Nat.reduceMul, Nat.reduceLeDiff, List.getElem?_cons_zero, List.getElem?_cons_succ, bne_self_eq_false, Int.reduceEq]
  refine (copyL_c _ (by omega)).go ?_
  simp only [go_sem, reduceIte, reduceCtorEq, Nat.reduceEqDiff, Nat.reduceBEq, Nat.reduceAdd, Nat.reduceMul, Nat.reduceLeDiff, List.getElem?_cons_zero, List.getElem?_cons_succ, bne_self_eq_false, Int.reduceEq]
  refine (proveBoil_c h hm.tsm hm.sk _ _ (by unfold Sm; omega) _).go ?_
  rw [p1]
  cases p2 : proveBoilP h (hourK h n) (listedL h m) 99
  · simp only [go_sem, reduceIte, reduceCtorEq, Nat.reduceEqDiff, Nat.reduceBEq, Nat.reduceAdd, Nat.reduceMul, Nat.reduceLeDiff, List.getElem?_cons_zero, List.getElem?_cons_succ, bne_self_eq_false, Int.reduceEq]
    refine (house_c h hm).go ?_
    simp only [go_sem, reduceIte, reduceCtorEq, Nat.reduceEqDiff, Nat.reduceBEq, Nat.reduceAdd, Nat.reduceMul, Nat.reduceLeDiff, List.getElem?_cons_zero, List.getElem?_cons_succ, bne_self_eq_false, Int.reduceEq]
    refine (copyL_c _ (by omega)).go ?_
    simp only [go_sem, reduceIte, reduceCtorEq, Nat.reduceEqDiff, Nat.reduceBEq, Nat.reduceAdd, Nat.reduceMul, Nat.reduceLeDiff, List.getElem?_cons_zero, List.getElem?_cons_succ, bne_self_eq_false, Int.reduceEq]
    refine (proveOrder_c h hm.tsm hm.sk _ _ (by unfold Sm; omega) _).go ?_
    rw [q1]
    cases q3 : proveOrderP h (hourK h n) (ordW h (hourK h n) ws) 99
    · simp only [go_sem, reduceIte, reduceCtorEq, Nat.reduceEqDiff, Nat.reduceBEq, Nat.reduceAdd, Nat.reduceMul, Nat.reduceLeDiff, List.getElem?_cons_zero, List.getElem?_cons_succ, bne_self_eq_false, Int.reduceEq]
      refine awake_c.go ?_
      simp only [go_sem, reduceIte, reduceCtorEq, Nat.reduceEqDiff, Nat.reduceBEq, Nat.reduceAdd, Nat.reduceMul, Nat.reduceLeDiff, List.getElem?_cons_zero, List.getElem?_cons_succ, bne_self_eq_false, Int.reduceEq]
      exact fin_ret 8 (by simp [upd_at]) ⟨_, H, Settle.refl e1, by simp [upd_at], rfl⟩
    · simp only [go_sem, reduceIte, reduceCtorEq, Nat.reduceEqDiff, Nat.reduceBEq, Nat.reduceAdd, Nat.reduceMul, Nat.reduceLeDiff, List.getElem?_cons_zero, List.getElem?_cons_succ, bne_self_eq_false, Int.reduceEq]
      refine (shorter_c _ _ (by unfold Sm; omega) (by unfold Sm; omega)).go ?_
      rw [q2 q3]
      simp only [go_sem, reduceIte, reduceCtorEq, Nat.reduceEqDiff, Nat.reduceBEq, Nat.reduceAdd, Nat.reduceMul, Nat.reduceLeDiff, List.getElem?_cons_zero, List.getElem?_cons_succ, bne_self_eq_false, Int.reduceEq]
      refine awake_c.go ?_
      simp only [go_sem, reduceIte, reduceCtorEq, Nat.reduceEqDiff, Nat.reduceBEq, Nat.reduceAdd, Nat.reduceMul, Nat.reduceLeDiff, List.getElem?_cons_zero, List.getElem?_cons_succ, bne_self_eq_false, Int.reduceEq]
      exact fin_ret 8 (by simp [upd_at]) ⟨_, H, Settle.refl e1, by simp [upd_at], rfl⟩
  · have p4 := hmin.least _ hli (proveBoil_safe p2)
    simp only [go_sem, reduceIte, reduceCtorEq, Nat.reduceEqDiff, Nat.reduceBEq, Nat.reduceAdd, Nat.reduceMul, Nat.reduceLeDiff, List.getElem?_cons_zero, List.getElem?_cons_succ, bne_self_eq_false, Int.reduceEq]
    refine (shorter_c _ _ (by unfold Sm; omega) (by unfold Sm; omega)).go ?_
    rw [p4]
    simp only [go_sem, reduceIte, reduceCtorEq, Nat.reduceEqDiff, Nat.reduceBEq, Nat.reduceAdd, Nat.reduceMul, Nat.reduceLeDiff, List.getElem?_cons_zero, List.getElem?_cons_succ, bne_self_eq_false, Int.reduceEq]
    refine (house_c h hm).go ?_
    simp only [go_sem, reduceIte, reduceCtorEq, Nat.reduceEqDiff, Nat.reduceBEq, Nat.reduceAdd, Nat.reduceMul, Nat.reduceLeDiff, List.getElem?_cons_zero, List.getElem?_cons_succ, bne_self_eq_false, Int.reduceEq]
    refine (copyL_c _ (by omega)).go ?_
    simp only [go_sem, reduceIte, reduceCtorEq, Nat.reduceEqDiff, Nat.reduceBEq, Nat.reduceAdd, Nat.reduceMul, Nat.reduceLeDiff, List.getElem?_cons_zero, List.getElem?_cons_succ, bne_self_eq_false, Int.reduceEq]
    refine (proveOrder_c h hm.tsm hm.sk _ _ (by unfold Sm; omega) _).go ?_
    rw [q1]
    cases q3 : proveOrderP h (hourK h n) (ordW h (hourK h n) ws) 99
    · simp only [go_sem, reduceIte, reduceCtorEq, Nat.reduceEqDiff, Nat.reduceBEq, Nat.reduceAdd, Nat.reduceMul, Nat.reduceLeDiff, List.getElem?_cons_zero, List.getElem?_cons_succ, bne_self_eq_false, Int.reduceEq]
      refine awake_c.go ?_
      simp only [go_sem, reduceIte, reduceCtorEq, Nat.reduceEqDiff, Nat.reduceBEq, Nat.reduceAdd, Nat.reduceMul, Nat.reduceLeDiff, List.getElem?_cons_zero, List.getElem?_cons_succ, bne_self_eq_false, Int.reduceEq]
      exact fin_ret 8 (by simp [upd_at]) ⟨_, H, Settle.refl e1, by simp [upd_at], rfl⟩
    · simp only [go_sem, reduceIte, reduceCtorEq, Nat.reduceEqDiff, Nat.reduceBEq, Nat.reduceAdd, Nat.reduceMul, Nat.reduceLeDiff, List.getElem?_cons_zero, List.getElem?_cons_succ, bne_self_eq_false, Int.reduceEq]
      refine (shorter_c _ _ (by unfold Sm; omega) (by unfold Sm; omega)).go ?_
      rw [q2 q3]
      simp only [go_sem, reduceIte, reduceCtorEq, Nat.reduceEqDiff, Nat.reduceBEq, Nat.reduceAdd, Nat.reduceMul, Nat.reduceLeDiff, List.getElem?_cons_zero, List.getElem?_cons_succ, bne_self_eq_false, Int.reduceEq]
      refine awake_c.go ?_
      simp only [go_sem, reduceIte, reduceCtorEq, Nat.reduceEqDiff, Nat.reduceBEq, Nat.reduceAdd, Nat.reduceMul, Nat.reduceLeDiff, List.getElem?_cons_zero, List.getElem?_cons_succ, bne_self_eq_false, Int.reduceEq]
      exact fin_ret 8 (by simp [upd_at]) ⟨_, H, Settle.refl e1, by simp [upd_at], rfl⟩
theorem nofewer_law (h : House) (n : Nat) (hn : n < 256) (m : Nat) (hm16 : m < 65536) (ws : List Nat) (hw : ∀ n ∈ ws, n < 65536) : Pure Tryz.prog 17 [eH h, .int .u8 (n : Int), .int .u16 (m : Int), .slice (eU ws)] (.bool true) := by
  cases c1 : readyH h
  · intro H
    refine fn_of hmix fc17 (by simp) ?_
    rw [ienv4]
    simp only [go_sem, reduceIte, reduceCtorEq, Nat.reduceEqDiff, Nat.reduceBEq, Nat.reduceAdd, Nat.reduceMul, Nat.reduceLeDiff, List.getElem?_cons_zero, List.getElem?_cons_succ, bne_self_eq_false, Int.reduceEq, ac17, eH]
    refine v_box _ rfl fun b1 hb1 => ?_
    have e1 := (Ext.refl H).new hb1 (.box [.slice (h.table.women.map eW), .slice (h.table.pieces.map eP), i6 h.table.wrong, .slice (eI h.sick), i6 h.others, i6 h.last, .slice (h.touches.map eTo), .slice (h.boiled.map eB), .slice (h.signs.map eS)])
    simp only [go_sem, reduceIte, reduceCtorEq, Nat.reduceEqDiff, Nat.reduceBEq, Nat.reduceAdd, Nat.reduceMul, Nat.reduceLeDiff, List.getElem?_cons_zero, List.getElem?_cons_succ, bne_self_eq_false, Int.reduceEq]
    refine (ready_c h).go ?_
    simp only [go_sem, reduceIte, reduceCtorEq, Nat.reduceEqDiff, Nat.reduceBEq, Nat.reduceAdd, Nat.reduceMul, Nat.reduceLeDiff, List.getElem?_cons_zero, List.getElem?_cons_succ, bne_self_eq_false, Int.reduceEq, c1]
    refine awake_c.go ?_
    simp only [go_sem, reduceIte, reduceCtorEq, Nat.reduceEqDiff, Nat.reduceBEq, Nat.reduceAdd, Nat.reduceMul, Nat.reduceLeDiff, List.getElem?_cons_zero, List.getElem?_cons_succ, bne_self_eq_false, Int.reduceEq]
    exact fin_ret 8 (by simp [upd_at]) ⟨_, H, Settle.refl e1, by simp [upd_at], rfl⟩
  by_cases c2 : askErrH h (hourOK h (hourK h n)) = 0
  · rcases orderE_ask c2 with ⟨hE, ha⟩ | ⟨hE, ha⟩
    · exact nofewer_some h n hn m hm16 ws hw c1 c2 hE ha
    · exact nofewer_none h n hn m hm16 ws hw c1 c2 hE ha
  · exact nofewer_err h n hn m hm16 ws hw c1 c2
end Go.Lift

