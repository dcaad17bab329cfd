/- Part 26 of the proof: the tools and contracts. Conditions: none. -/
import Derived.Test.YthnfcdkiaihfcaaGreatP25
import Derived.Test.YthnfcdkiaihfcaaGreatProg
set_option maxRecDepth 100000
set_option linter.unusedVariables false
namespace Go.Lift
open Go Go.Proofs
def cert11 : Nat → Option Cert := fun
  | 10 => some ⟨[0, 1, 2, 3, 4, 5, 6, 7, 8, 9, 10, 11, 12, 13, 14, 15, 16, 17, 18, 19, 20, 21, 22, 23, 24, 25], .done, [[], [], [0, 1], [0, 1, 2], [], [4], [4, 5], [4, 5, 6], [0, 1, 2, 3, 4, 5, 6, 7], [0, 1, 2, 3, 4, 5, 6, 7, 8], [0, 1, 2, 3, 4, 5, 6, 7, 8, 9], [0, 1, 2, 3, 4, 5, 6, 7, 8, 9, 10], [0, 1, 2, 3, 4, 5, 6, 7, 8, 9, 10, 11], [0, 1, 2, 3, 4, 5, 6, 7, 8, 9, 10, 11, 12], [0, 1, 2, 3, 4, 5, 6, 7, 8, 9, 10, 11, 12, 13], [0, 1, 2, 3, 4, 5, 6, 7, 8, 9, 10, 11, 12, 13], [0, 1, 2, 3, 4, 5, 6, 7, 8, 9, 10, 11, 12, 13, 14, 15], [0, 1, 2, 3, 4, 5, 6, 7, 8, 9, 10, 11, 12, 13, 14, 15, 16], [0, 1, 2, 3, 4, 5, 6, 7, 8, 9, 10, 11, 12, 13], [0, 1, 2, 3, 4, 5, 6, 7, 8, 9, 10, 11, 12, 13], [0, 1, 2, 3, 4, 5, 6, 7, 8, 9, 10, 11, 12, 13, 19], [0, 1, 2, 3, 4, 5, 6, 7, 8, 9, 10, 11, 12, 13, 18, 19, 20], [0, 1, 2, 3, 4, 5, 6, 7, 8, 9, 10, 11, 12, 13, 18, 19, 20, 21], [0, 1, 2, 3, 4, 5, 6, 7, 8, 9, 10, 11, 12, 13, 14, 15, 16, 17, 18, 19, 20, 21, 22], [0, 1, 2, 3, 4, 5, 6, 7, 8, 9, 10, 11, 12, 13, 14, 15, 16, 17, 18, 19, 20, 21, 22, 23], [0, 1, 2, 3, 4, 5, 6, 7, 8, 9, 10, 11, 12, 13, 14, 15, 16, 17, 18, 19, 20, 21, 22, 23, 24]]⟩
  | 14 => some ⟨[0, 1, 2, 3, 4, 5, 6, 7, 8, 9, 10, 11, 12], .done, [[], [], [1], [], [1, 2, 3], [0, 1, 2, 3, 4], [0, 1, 2, 3, 4, 5], [0, 1, 2, 3, 4, 5, 6], [0, 1, 2, 3, 4, 5, 6, 7], [0, 1, 2, 3, 4, 5, 6, 7, 8], [0, 1, 2, 3, 4, 5, 6, 7, 8], [0, 1, 2, 3, 4, 5, 6, 7, 8, 9], [0, 1, 2, 3, 4, 5, 6, 7, 8, 9, 10, 11]]⟩
  | 15 => some ⟨[0, 1, 2, 3, 4, 5, 6, 7, 8, 9, 10, 11, 12], .done, [[], [], [1], [], [1, 2, 3], [0, 1, 2, 3, 4], [0, 1, 2, 3, 4, 5], [0, 1, 2, 3, 4, 5, 6], [0, 1, 2, 3, 4, 5, 6, 7], [0, 1, 2, 3, 4, 5, 6, 7, 8], [0, 1, 2, 3, 4, 5, 6, 7, 8], [0, 1, 2, 3, 4, 5, 6, 7, 8, 9], [0, 1, 2, 3, 4, 5, 6, 7, 8, 9, 10, 11]]⟩
  | _ => none
def ac11 : ACode :=(.seq (.ops [uO 2 .box 0, oA 4 .mov [kF]]) (.seq (.seq (.ops [uO 14 lT9 2, uO 15 (.call 35) 14, uO 16 .not 15]) (.cond (.t 16) (.seq (.ops [oA 17 (.call 20) [], uM 4 17]) .ret) .skip)) (.seq (.ops [uO 19 lT9 2, uO 20 (.call 22) 19, uO 21 (.call 30) 20, uM 18 21, uO 22 x0 18, uO 23 x1 18, uM 5 22, uM 6 23]) (.seq (.seq (.ops [uM 24 6, oA 25 bN [.t 24, (kI 0)]]) (.cond (.t 25) (.seq (.ops [oA 4 .mov [kF]]) .ret) .skip)) (.seq (.ops [oA 7 .mov [(kI 0)]]) (.seq (.seq (.ops [oA 8 .mov [(kI 0)]]) (.block 0 (.loop (.seq (.seq (.ops [uM 26 8, uM 27 5, uO 28 .len 27, uB 29 bL 26 28]) (.cond (.t 29) .skip (.exit 0))) (.seq (.block 1 (.seq (.seq (.draw [(false, uM 32 5), (false, uM 33 8), (false, uB 34 (.idxaddr 1) 32 33), (false, uO 35 lF 34), (false, uO 36 fA8 2), (false, uO 37 lF 36), (false, uO 38 .len 37), (false, oA 39 (.bin .sub) [.t 38, (kI 1)]), (false, oA 40 (.call 47) [.t 35, (kI 0), .t 39]), (false, uO 41 .not 40), (false, uM 42 41), (false, gM 43 8 42 false), (false, oG 44 (.bin .gtr) [.t 43, (kI 0)] 42 false), (false, gM 45 44 42 false), (false, gM 46 5 45 true), (false, gM 47 8 45 true), (false, gB 48 (.idxaddr 1) 46 47 45 true), (false, gO 49 lF 48 45 true), (false, gM 50 5 45 true), (false, gM 51 8 45 true), (false, oG 52 (.bin .sub) [.t 51, (kI 1)] 45 true), (false, gB 53 (.idxaddr 1) 50 52 45 true), (false, gO 54 lF 53 45 true), (false, gB 55 (.bin .leq) 49 54 45 true), (false, oG 56 .pick [.t 45, .t 55, kF] 42 false), (false, oA 57 .pick [.t 42, kT, .t 56])] .done) (.cond (.t 57) (.seq (.ops [oA 4 .mov [kF]]) .ret) .skip)) (.ops [uM 58 7, uM 59 5, uM 60 8, uB 61 (.idxaddr 1) 59 60, uO 62 lF 61, uO 63 (.conv .u64) 62, oA 64 (.bin .shl) [(kI 1), .t 63], uB 65 (.bin .or) 58 64, uM 7 65]))) (.ops [uM 30 8, oA 31 bA [.t 30, (kI 1)], uM 8 31])))))) (.seq (.ops [uM 66 1, uO 67 (.conv .i64) 66, uO 68 lT9 2, uO 69 (.call 49) 68, uB 70 (.bin .and) 67 69, uM 9 70]) (.seq (.draw [(false, uO 72 lT9 2), (false, uO 73 lT9 2), (false, uO 74 (.call 49) 73), (false, uM 75 7), (false, uB 76 (.bin .andNot) 74 75), (false, uB 77 (.call 48) 72 76), (false, uO 78 (.call 22) 77), (false, uO 79 (.call 21) 78), (false, uM 71 79), (false, uO 80 x0 71), (false, uO 81 x1 71), (false, uM 10 80), (false, uM 11 81)] .done) (.seq (.draw [(false, uO 83 lT9 2), (false, uO 84 lT9 2), (false, uO 85 (.call 49) 84), (false, uM 86 9), (false, uB 87 (.bin .andNot) 85 86), (false, uB 88 (.call 48) 83 87), (false, uO 89 (.call 22) 88), (false, uO 90 (.call 21) 89), (false, uM 82 90), (false, uO 91 x0 82), (false, uO 92 x1 82), (false, uM 12 91), (false, uM 13 92)] .done) (.seq (.ops [uM 93 11, oA 94 bE [.t 93, (kI 0)], uM 95 94, gM 96 13 95 true, oG 97 bE [.t 96, (kI 11)] 95 true, gM 98 97 95 true, gM 99 13 98 false, oG 100 bE [.t 99, (kI 0)] 98 false, gM 101 100 98 false, gM 102 9 101 true, gO 103 (.call 51) 102 101 true, gM 104 5 101 true, gB 105 (.call 50) 103 104 101 true, gO 106 .not 105 101 true, oG 107 .pick [.t 101, .t 106, kF] 98 false, oG 108 .pick [.t 98, kT, .t 107] 95 true, oA 109 .pick [.t 95, .t 108, kF], uM 110 109, oG 111 (.call 20) [] 110 true, oA 112 .pick [.t 110, .t 111, kF], uM 4 112]) .ret))))))))))
theorem fc11 : fnC Tryz.prog 11 cert11 = some (113, [.tmp 4], ac11) := by kernel_rfl
end Go.Lift
set_option maxRecDepth 100000
set_option linter.unusedVariables false
namespace Go.Lift
open Go Go.Proofs
def cert48 : Nat → Option Cert := fun
  | 7 => some ⟨[0, 1, 2, 3, 4, 5, 6, 7], (.one 8 (.one 9 (.one 10 .done))), [[], [0], [], [2], [], [2, 3, 4], [2, 3, 4, 5], [2, 3, 4, 5, 6], [0, 1, 2, 3, 4, 5, 6, 7], [0, 1, 2, 3, 4, 5, 6, 7, 8], [0, 1, 2, 3, 4, 5, 6, 7, 8, 9]]⟩
  | _ => none
def ac48 : ACode :=(.seq (.ops [uO 2 .box 0, oA 4 (.alloc z9) []]) (.seq (.ops [uO 7 lT9 2, oA 5 (.alloc z9) [], oZ (.store 9) [.t 5, .t 7]]) (.seq (.ops [uO 8 fA8 5, oZ (.store 1) [.t 8, kE]]) (.seq (.seq (.ops [oA 6 .mov [(kI 0)]]) (.block 0 (.loop (.seq (.seq (.ops [uM 9 6, uO 10 fA8 2, uO 11 lF 10, uO 12 .len 11, uB 13 bL 9 12]) (.cond (.t 13) .skip (.exit 0))) (.seq (.block 1 (.seq (.ops [uM 16 1, uM 17 6, uO 18 (.conv .u64) 17, uB 19 (.bin .shr) 16 18, oA 20 (.bin .rem) [.t 19, (kI 2)], oA 21 bE [.t 20, (kI 1)]]) (.cond (.t 21) (.draw [(false, uO 22 fA8 5), (false, uO 23 lF 22), (false, uO 24 fA8 2), (false, uO 25 lF 24), (false, uM 26 6), (false, uB 27 (.idxaddr 2) 25 26), (false, uO 28 lT2 27), (false, uO 29 (.bslice 2) 28)] (.one (uB 30 (.append 2 16) 23 29) [] (.one (uO 31 fA8 5) [] (.one (oZ (.store 1) [.t 31, .t 30]) [] .done)))) .skip))) (.ops [uM 14 6, oA 15 bA [.t 14, (kI 1)], uM 6 15])))))) (.seq (.ops [uO 32 lT9 5, oZ (.store 9) [.t 4, .t 32]]) .ret)))))
theorem fc48 : fnC Tryz.prog 48 cert48 = some (33, [.cell 4 31], ac48) := by kernel_rfl
def cert49 : Nat → Option Cert := fun _ => none
def ac49 : ACode :=(.seq (.ops [uO 1 .box 0, oA 2 .mov [(kI 0)]]) (.seq (.ops [uO 3 fA8 1, uO 4 lF 3, uO 5 .len 4, uO 6 (.conv .u64) 5, oA 7 (.bin .shl) [(kI 1), .t 6], oA 8 (.bin .sub) [.t 7, (kI 1)], uM 2 8]) .ret))
theorem fc49 : fnC Tryz.prog 49 cert49 = some (9, [.tmp 2], ac49) := by kernel_rfl
def cert50 : Nat → Option Cert := fun _ => none
def ac50 : ACode :=(.seq (.ops [oA 4 .mov [kF]]) (.seq (.ops [uM 5 0, uO 6 .len 5, uM 7 1, uO 8 .len 7, uB 9 bL 6 8, uM 10 9, gM 11 0 10 false, gO 12 .len 11 10 false, gM 13 1 10 false, gO 14 .len 13 10 false, gB 15 bE 12 14 10 false, gM 16 15 10 false, gM 17 0 16 true, gM 18 1 16 true, gB 19 (.call 105) 17 18 16 true, oG 20 .pick [.t 16, .t 19, kF] 10 false, oA 21 .pick [.t 10, kT, .t 20], uM 4 21]) .ret))
theorem fc50 : fnC Tryz.prog 50 cert50 = some (22, [.tmp 4], ac50) := by kernel_rfl
end Go.Lift
set_option maxRecDepth 100000
set_option linter.unusedVariables false
namespace Go.Lift
open Go Go.Proofs
def cert105 : Nat → Option Cert := fun
  | 4 => some ⟨[0, 1, 2, 3, 4, 5, 6, 7, 8], .done, [[], [], [0, 1], [0, 1, 2], [], [], [4, 5], [4, 5, 6], [0, 1, 2, 3, 4, 5, 6, 7]]⟩
  | 5 => some ⟨[0, 1, 2, 3, 4, 5, 6, 7, 8, 9], .done, [[], [], [0, 1], [0, 1, 2], [], [], [4, 5], [4, 5, 6], [0, 1, 2, 3, 4, 5, 6, 7], [0, 1, 2, 3, 4, 5, 6, 7, 8]]⟩
  | _ => none
def ac105 : ACode :=(.seq (.ops [oA 4 .mov [kF]]) (.seq (.seq (.ops [oA 5 .mov [(kI 0)]]) (.block 0 (.loop (.seq (.seq (.ops [uM 6 5, uM 7 0, uO 8 .len 7, uB 9 bL 6 8, uM 10 9, gM 11 5 10 true, gM 12 1 10 true, gO 13 .len 12 10 true, gB 14 bL 11 13 10 true, oA 15 .pick [.t 10, .t 14, kF]]) (.cond (.t 15) .skip (.exit 0))) (.seq (.block 1 (.seq (.draw [(false, uM 18 0), (false, uM 19 5), (false, uB 20 (.idxaddr 1) 18 19), (false, uO 21 lF 20), (false, uM 22 1), (false, uM 23 5), (false, uB 24 (.idxaddr 1) 22 23), (false, uO 25 lF 24), (false, uB 26 bN 21 25)] .done) (.cond (.t 26) (.seq (.draw [(false, uM 27 0), (false, uM 28 5), (false, uB 29 (.idxaddr 1) 27 28), (false, uO 30 lF 29), (false, uM 31 1), (false, uM 32 5), (false, uB 33 (.idxaddr 1) 31 32), (false, uO 34 lF 33), (false, uB 35 bL 30 34), (false, uM 4 35)] .done) .ret) .skip))) (.ops [uM 16 5, oA 17 bA [.t 16, (kI 1)], uM 5 17])))))) (.seq (.ops [uM 36 0, uO 37 .len 36, uM 38 1, uO 39 .len 38, uB 40 bL 37 39, uM 4 40]) .ret)))
theorem fc105 : fnC Tryz.prog 105 cert105 = some (41, [.tmp 4], ac105) := by kernel_rfl
end Go.Lift
set_option linter.unusedSimpArgs false
set_option linter.unusedVariables false
namespace Go.Lift
open Go Go.Proofs
theorem w_and {a b : Nat} (ha : a < 2 ^ 62) (hb : b < 2 ^ 62) : IntKind.i64.wrap (((BitVec.ofInt IntKind.i64.bits (a : Int) &&& BitVec.ofInt IntKind.i64.bits (b : Int)).toNat : Nat) : Int) = ((a &&& b : Nat) : Int) := by
  have h1 : (BitVec.ofInt IntKind.i64.bits (a : Int) &&& BitVec.ofInt IntKind.i64.bits (b : Int)).toNat = a &&& b := by
    rw [bv_nat, bv_nat]
    show (BitVec.ofNat 64 a &&& BitVec.ofNat 64 b).toNat = _
    rw [BitVec.toNat_and, BitVec.toNat_ofNat, BitVec.toNat_ofNat, Nat.mod_eq_of_lt (by omega), Nat.mod_eq_of_lt (by omega)]
  have h2 := Nat.and_lt_two_pow a hb
  rw [h1, w64 (by omega) (by omega)]
end Go.Lift

set_option linter.unusedSimpArgs false
set_option linter.unusedVariables false
namespace Go.Lift
open Go Go.Proofs
def beforeL : List Int → List Int → Bool
  | a :: xs, b :: bs => if a = b then beforeL xs bs else decide (a < b)
  | [], bs => decide (0 < bs.length)
  | _ :: _, [] => false
theorem beforeL_drop : ∀ (j : Nat) (a b : List Int), j ≤ a.length → j ≤ b.length → a.take j = b.take j → beforeL a b = beforeL (a.drop j) (b.drop j)
  | 0, _, _, _, _, _ => rfl
  | j + 1, a :: xs, b :: bs, h1, h2, h => by
    simp only [List.take_succ_cons, List.cons.injEq] at h
    rw [beforeL, if_pos h.1, List.drop_succ_cons, List.drop_succ_cons]
    exact beforeL_drop j xs bs (by simpa using h1) (by simpa using h2) h.2
  | j + 1, [], _, h1, _, _ => by simp at h1
  | j + 1, _ :: _, [], _, h2, _ => by simp at h2
theorem before_c (a b : List Int) (ha : Sm a.length) (hb : Sm b.length) : Pure Tryz.prog 105 [.slice (eI a), .slice (eI b)] (.bool (beforeL a b)) := by
  intro H
  unfold Sm at ha hb
  refine fn_of hmix fc105 (by simp) ?_
  rw [ienv2]
  simp only [go_sem, reduceIte, reduceCtorEq, Nat.reduceEqDiff, Nat.reduceBEq, Nat.reduceAdd, Nat.reduceMul, Nat.reduceLeDiff, ac105]
  refine x_for a.length (fun j env H1 => H1 = H ∧ j ≤ b.length ∧ a.take j = b.take j ∧ env 0 = .slice (eI a) ∧ env 1 = .slice (eI b) ∧ env 5 = i6 j ∧ env 41 = .any) (by simp [upd_at]) ?_
  rintro j env H1 hj ⟨rfl, hjb, hq, g0, g1, g5, hN⟩
  by_cases c1 : (j : Int) < (a.length : Int)
  · have c1' : j < a.length := by omega
    by_cases c2 : (j : Int) < (b.length : Int)
    · have c2' : j < b.length := by omega
      have hd := beforeL_drop j a b hj hjb hq
      rw [List.drop_eq_getElem_cons c1', List.drop_eq_getElem_cons c2', beforeL] at hd
      by_cases he : a[j] = b[j]
      · simp only [go_sem, reduceIte, reduceCtorEq, Nat.reduceEqDiff, Nat.reduceBEq, Nat.reduceAdd, Nat.reduceMul, Nat.reduceLeDiff, g0, g1, g5, hN, c1, c2, eI_get c1', eI_get c2', he, wsucc (show j < 4611686018427387904 by omega), c1']
        exact ⟨c2', by rw [take_snoc c1', take_snoc c2', hq, he]⟩
      · simp only [go_sem, reduceIte, reduceCtorEq, Nat.reduceEqDiff, Nat.reduceBEq, Nat.reduceAdd, Nat.reduceMul, Nat.reduceLeDiff, g0, g1, g5, hN, c1, c2, eI_get c1', eI_get c2', he]
        refine fin_ret' 4 (by simp [upd_at, hN]) ?_
        rw [if_neg he] at hd
        simp only [upd_at, if_true, hd, and_self]
    · have hd := beforeL_drop j a b hj hjb hq
      rw [List.drop_eq_getElem_cons c1', List.drop_of_length_le (show b.length ≤ j by omega), beforeL] at hd
      simp only [go_sem, reduceIte, reduceCtorEq, Nat.reduceEqDiff, Nat.reduceBEq, Nat.reduceAdd, Nat.reduceMul, Nat.reduceLeDiff, g0, g1, g5, hN, c1, c2]
      refine fin_ret' 4 (by simp [upd_at, hN]) ?_
      simp only [upd_at, if_true, hd, and_true, AV.bool.injEq, decide_eq_false_iff_not]
      omega
  · have : j = a.length := by omega
    subst this
    have hd := beforeL_drop a.length a b hj hjb hq
    rw [List.drop_of_length_le (Nat.le_refl a.length), beforeL, List.length_drop] at hd
    simp only [go_sem, reduceIte, reduceCtorEq, Nat.reduceEqDiff, Nat.reduceBEq, Nat.reduceAdd, Nat.reduceMul, Nat.reduceLeDiff, g0, g1, g5, hN, c1]
    refine fin_ret' 4 (by simp [upd_at, hN]) ?_
    simp only [upd_at, if_true, hd, and_true, AV.bool.injEq, decide_eq_decide]
    omega
def shorterL (a b : List Int) : Bool := decide (a.length < b.length) || (decide (a.length = b.length) && beforeL a b)
theorem shorter_c (a b : List Int) (ha : Sm a.length) (hb : Sm b.length) : Pure Tryz.prog 50 [.slice (eI a), .slice (eI b)] (.bool (shorterL a b)) := by
  intro H
  refine fn_of hmix fc50 (by simp) ?_
  rw [ienv2]
  by_cases c1 : (a.length : Int) < (b.length : Int)
  · have c1' : a.length < b.length := by omega
    simp only [go_sem, reduceIte, reduceCtorEq, Nat.reduceEqDiff, Nat.reduceBEq, Nat.reduceAdd, Nat.reduceMul, Nat.reduceLeDiff, ac50, c1]
    refine fin_ret' 4 (by simp [upd_at]) ?_
    simp [upd_at, shorterL, c1']
  have c1' : ¬ a.length < b.length := by omega
  by_cases c2 : (a.length : Int) = (b.length : Int)
  · have c2' : a.length = b.length := by omega
    have d1 : decide ((a.length : Int) < (b.length : Int)) = false := decide_eq_false c1
    have d2 : decide ((a.length : Int) = (b.length : Int)) = true := decide_eq_true c2
    simp only [go_sem, reduceIte, reduceCtorEq, Nat.reduceEqDiff, Nat.reduceBEq, Nat.reduceAdd, Nat.reduceMul, Nat.reduceLeDiff, ac50, d1, d2]
    refine (before_c a b ha hb).go ?_
    simp only [go_sem, reduceIte, reduceCtorEq, Nat.reduceEqDiff, Nat.reduceBEq, Nat.reduceAdd, Nat.reduceMul, Nat.reduceLeDiff]
    refine fin_ret' 4 (by simp [upd_at]) ?_
    simp [upd_at, shorterL, c2']
  · have c2' : ¬ a.length = b.length := by omega
    simp only [go_sem, reduceIte, reduceCtorEq, Nat.reduceEqDiff, Nat.reduceBEq, Nat.reduceAdd, Nat.reduceMul, Nat.reduceLeDiff, ac50, c1, c2]
    refine fin_ret' 4 (by simp [upd_at]) ?_
    simp [upd_at, shorterL, c1', c2']
end Go.Lift

set_option linter.unusedSimpArgs false
set_option linter.unusedVariables false
namespace Go.Lift
open Go Go.Proofs
def fullN (h : House) : Nat := 2 ^ h.signs.length - 1
theorem fullH_c (h : House) (hsg : h.signs.length ≤ 60) : Pure Tryz.prog 49 [eH h] (i6 (fullN h : Nat)) := by
  intro H
  refine fn_of hmix fc49 (by simp) ?_
  rw [ienv1]
  simp only [go_sem, reduceIte, reduceCtorEq, Nat.reduceEqDiff, Nat.reduceBEq, Nat.reduceAdd, Nat.reduceMul, Nat.reduceLeDiff, ac49, eH]
  refine v_box _ rfl fun b1 hb1 => ?_
  have hp : 1 ≤ 2 ^ h.signs.length := Nat.one_le_two_pow
  have hp2 := two_lt (show h.signs.length < 62 by omega)
  have hs : IntKind.i64.wrap (((2 ^ h.signs.length : Nat) : Int) - 1) = ((fullN h : Nat) : Int) := by
    rw [fullN]
    generalize 2 ^ h.signs.length = q at hp hp2
    rw [w64 (by omega) (by omega)]; omega
  simp only [↓aops_nil, ↓aops_go, ↓aops_go0, ↓aops_if, ↓k_cont, ↓k_cont0, g_tt, g_ff, g_tf, g_ft, g_u, ↓apre_nil, ↓apre_if, ↓apre_go, pgo_det, Tag.isCall, popt_some, gp_tt, gp_ff, gp_tf, gp_ft, gp_u, ↓k_draw, opt_some, List.map_cons, List.map_nil, ev, upd_at, ↓x_skip, ↓x_label, ↓x_ret, ↓x_exit, ↓x_seq, ↓x_block, ↓x_ops, ↓x_cond, x_sel_t, x_sel_f, ↓x_draw, ↓q_kseq_n, ↓q_kseq_r, ↓q_kseq_e, ↓q_block_n, ↓q_block_r, ↓q_block_e, ↓q_loop_n, ↓q_loop_r, ↓q_loop_e, ↓l_done, d_mov, d_pick, d_not, d_nilchk, d_nilchk', d_conv, d_add, d_sub, d_mul, d_quo, d_rem, d_shl, d_shr, d_and, d_or, d_andnot, d_eql, d_neq, d_lss, d_leq, d_gtr, d_geq, d_eqb, d_neqb, d_mkfunc, d_load, d_fieldaddr, d_fieldaddr', d_field_t, d_field_f, d_idxaddr, d_idxaddr_g, elemO_some, d_idxaddr_m, d_arraddr, d_arraddr', d_idx_f, d_sub_s, d_sub_g, d_arrsub, d_arrall, d_extract, d_len, d_len_g, d_len_e, d_len_m, d_min, d_build, d_bslice0, d_bs1, d_bs2, d_bsa, d_eqagg, v_mov, v_pick, v_not, v_nilchk, v_conv, v_bin, v_binb, v_eqagg, v_mkfunc, v_load, v_fieldaddr, v_field, v_idxaddr, v_arraddr, v_idx, v_sub, v_arrsub, v_arrall, v_extract, v_len, v_min, v_build, v_bslice, v_lookup, v_call, v_callv, Nat.reduceEqDiff, Nat.reduceBEq, reduceIte, ite_true, ite_false, Bool.false_eq_true, Bool.true_eq_false, if_true, if_false, decide_eq_true_eq, decide_eq_false_iff_not, decide_true, decide_false, Nat.zero_add, Nat.add_zero, Nat.reduceAdd, reduceCtorEq, eq_self, not_true_eq_false, not_false_eq_true, Bool.not_true, Bool.not_false, Nat.reduceMul, List.length_cons, List.length_nil, at_elem, take_f, take_tt, Int.toNat_natCast, Option.some.injEq, Option.bind_some, Int.natCast_nonneg, true_and, and_true, and_self, ↓q_for_n, ↓q_for_r, ↓q_for_e, eI_len, List.length_map, at_obj, obj_box, updH_same, Nat.reduceLeDiff, Nat.zero_le, Nat.le_refl, List.drop_zero, List.drop_succ_cons, List.take_succ_cons, List.take_zero, c_agg, c_int, c_bool, c_slice, c_emp, c_grow, take_f', List.getElem?_cons_zero, u64w (show h.signs.length < 2 ^ 62 by omega), w_shl1 (show h.signs.length < 62 by omega), show ¬ ((h.signs.length : Int) < 0) by omega, hs]
  refine fin_ret 2 (by simp [upd_at]) ⟨_, H, Settle.refl ((Ext.refl H).new hb1 _), ?_, rfl⟩
  simp [upd_at]
end Go.Lift

set_option linter.unusedSimpArgs false
set_option linter.unusedVariables false
namespace Go.Lift
open Go Go.Proofs
theorem bitsL_len (n : Nat) : (bitsL n).length ≤ 62 := by
  simp only [bitsL, bitsUpto, List.length_map]
  exact Nat.le_trans (List.length_filter_le _ _) (by simp)
end Go.Lift

set_option linter.unusedSimpArgs false
set_option linter.unusedVariables false
namespace Go.Lift
open Go Go.Proofs
theorem truthsR_mem {t : Table} (hc : checkTable t = 0) (o : List Int) : o ∈ truthsR t ↔ isTruthT t o = true := by
  rw [truthsR_eq hc, List.mem_filter, isTruthT_iff hc, isTruthR, Bool.and_eq_true, decide_eq_true_eq, mem_allO]
  constructor
  · rintro ⟨h1, h2, h3⟩; exact ⟨h1, h3⟩
  · rintro ⟨h1, h2⟩; exact ⟨h1, h1, h2⟩
end Go.Lift

set_option linter.unusedSimpArgs false
set_option linter.unusedVariables false
namespace Go.Lift
open Go Go.Proofs
theorem thin_sm {h : House} (c1 : thinH h = true) : HSm h := by
  rw [thinH, Bool.and_eq_true] at c1; exact short_sm c1.1
end Go.Lift

set_option linter.unusedSimpArgs false
set_option linter.unusedVariables false
namespace Go.Lift
open Go Go.Proofs
theorem before_irr : ∀ a : List Int, beforeL a a = false
  | [] => rfl
  | a :: xs => by rw [beforeL, if_pos rfl, before_irr xs]
theorem before_trans : ∀ a b c : List Int, beforeL a b = true → beforeL b c = true → beforeL a c = true
  | [], b, [], _, h2 => by
    cases b with
    | nil => exact h2
    | cons b bs => simp [beforeL] at h2
  | [], _, c :: cs, _, _ => by simp [beforeL]
  | a :: xs, [], _, h1, _ => by simp [beforeL] at h1
  | a :: xs, b :: bs, [], _, h2 => by simp [beforeL] at h2
  | a :: xs, b :: bs, c :: cs, h1, h2 => by
    simp only [beforeL] at h1 h2 ⊢
    by_cases e1 : a = b
    · subst e1
      rw [if_pos rfl] at h1
      by_cases e2 : a = c
      · rw [if_pos e2] at h2 ⊢; exact before_trans xs bs cs h1 h2
      · rw [if_neg e2] at h2 ⊢; exact h2
    · rw [if_neg e1, decide_eq_true_eq] at h1
      by_cases e2 : b = c
      · subst e2; rw [if_neg e1]; exact decide_eq_true h1
      · rw [if_neg e2, decide_eq_true_eq] at h2
        rw [if_neg (by omega)]; exact decide_eq_true (by omega)
theorem before_pre : ∀ (p a b : List Int), beforeL (p ++ a) (p ++ b) = beforeL a b
  | [], _, _ => rfl
  | x :: p, a, b => by rw [List.cons_append, List.cons_append, beforeL, if_pos rfl, before_pre p]
theorem shorter_iff (a b : List Int) : shorterL a b = true ↔ a.length < b.length ∨ (a.length = b.length ∧ beforeL a b = true) := by
  simp [shorterL]
theorem shorter_irr (a : List Int) : shorterL a a = false := by
  rw [Bool.eq_false_iff, Ne, shorter_iff, before_irr]
  rintro (h | h)
  · omega
  · cases h.2
theorem shorter_trans {a b c : List Int} (h1 : shorterL a b = true) (h2 : shorterL b c = true) : shorterL a c = true := by
  rw [shorter_iff] at *
  rcases h1 with h1 | h1 <;> rcases h2 with h2 | h2
  · exact .inl (by omega)
  · exact .inl (by omega)
  · exact .inl (by omega)
  · exact .inr ⟨by omega, before_trans _ _ _ h1.2 h2.2⟩
theorem shorter_asym {a b : List Int} (h : shorterL a b = true) : shorterL b a = false := by
  rw [Bool.eq_false_iff]
  intro h2
  have := shorter_trans h h2
  rw [shorter_irr] at this; cases this
/-- The least one that will do, of some lists. -/
structure IsMin (ok : List Int → Bool) (D : List Int → Prop) (x : List Int) : Prop where
  dom : D x
  good : ok x = true
  least : ∀ y, D y → ok y = true → shorterL y x = false
theorem IsMin.congr {ok ok' : List Int → Bool} {D D' : List Int → Prop} {x : List Int} (h : IsMin ok D x) (hd : ∀ y, D y ↔ D' y) (hok : ∀ y, D y → ok y = ok' y) : IsMin ok' D' x :=
  ⟨(hd x).1 h.dom, by rw [← hok x h.dom]; exact h.good, fun y hy ho => h.least y ((hd y).2 hy) (by rw [hok y ((hd y).2 hy)]; exact ho)⟩
theorem find_min {ok : List Int → Bool} {l : List (List Int)} (hs : l.Pairwise fun a b => shorterL a b = true) {x : List Int} (h : l.find? ok = some x) : IsMin ok (· ∈ l) x := by
  obtain ⟨h1, l1, bs, rfl, h2⟩ := List.find?_eq_some_iff_append.1 h
  refine ⟨by simp, h1, fun y hy ho => ?_⟩
  rw [List.pairwise_append] at hs
  rcases List.mem_append.1 hy with hy | hy
  · have := h2 y hy; rw [ho] at this; cases this
  · rcases List.mem_cons.1 hy with rfl | hy
    · exact shorter_irr _
    · exact shorter_asym ((List.pairwise_cons.1 hs.2.1).1 y hy)
theorem tryAll_find {ok : List Int → Bool} : ∀ {l : List (List Int)} {x : List Int} (old : List Int), l.find? ok = some x → tryAll ok old l = x
  | [], x, _, h => by cases h
  | y :: l, x, old, h => by
    rw [tryAll]
    rw [List.find?_cons] at h
    cases hy : ok y
    · rw [hy] at h; simp only [Bool.false_eq_true, if_false]; exact tryAll_find y h
    · rw [hy] at h; cases h; rfl
theorem any_find {α : Type} {ok : α → Bool} {l : List α} (h : l.any ok = true) : ∃ x, l.find? ok = some x := by
  cases hf : l.find? ok with
  | some x => exact ⟨x, rfl⟩
  | none =>
    rw [List.any_eq_true] at h
    obtain ⟨x, hx, ho⟩ := h
    exact absurd ho (List.find?_eq_none.1 hf x hx)
def Inc (n : Nat) (x : List Int) : Prop := x.Pairwise (· < ·) ∧ ∀ a ∈ x, ∃ i : Nat, a = (i : Int) ∧ i < n
def IncF (n : Nat) : Nat → List Int → Prop
  | _, [] => True
  | f, a :: l => ∃ i : Nat, a = (i : Int) ∧ f ≤ i ∧ i < n ∧ IncF n (i + 1) l
theorem IncF.room {n : Nat} : ∀ {l : List Int} {f : Nat}, IncF n f l → l ≠ [] → f + l.length ≤ n
  | [], _, _, h => absurd rfl h
  | a :: l, f, h, _ => by
    obtain ⟨i, rfl, h1, h2, h3⟩ := h
    cases l with
    | nil => simp; omega
    | cons b l => have := h3.room (by simp); simp only [List.length_cons] at this ⊢; omega
theorem incF_iff {n : Nat} : ∀ {l : List Int} {f : Nat}, IncF n f l ↔ l.Pairwise (· < ·) ∧ ∀ a ∈ l, ∃ i : Nat, a = (i : Int) ∧ f ≤ i ∧ i < n
  | [], f => by simp [IncF]
  | a :: l, f => by
    rw [List.pairwise_cons]
    constructor
    · rintro ⟨i, rfl, h1, h2, h3⟩
      obtain ⟨k1, k2⟩ := (incF_iff (l := l) (f := i + 1)).1 h3
      refine ⟨⟨fun b hb => ?_, k1⟩, fun b hb => ?_⟩
      · obtain ⟨j, rfl, h4, h5⟩ := k2 b hb; omega
      · rcases List.mem_cons.1 hb with rfl | hb
        · exact ⟨i, rfl, h1, h2⟩
        · obtain ⟨j, rfl, h4, h5⟩ := k2 b hb; exact ⟨j, rfl, by omega, h5⟩
    · rintro ⟨⟨h1, h2⟩, h3⟩
      obtain ⟨i, rfl, h4, h5⟩ := h3 a List.mem_cons_self
      refine ⟨i, rfl, h4, h5, incF_iff.2 ⟨h2, fun b hb => ?_⟩⟩
      obtain ⟨j, rfl, h6, h7⟩ := h3 b (List.mem_cons_of_mem _ hb)
      have := h1 _ hb
      exact ⟨j, rfl, by omega, h7⟩
theorem inc_incF {n : Nat} {l : List Int} : Inc n l ↔ IncF n 0 l := by
  rw [incF_iff, Inc]; simp
theorem mem_combos (n : Nat) : ∀ (k f : Nat) (pre x : List Int), x ∈ combos n k pre f ↔ ∃ s, x = pre ++ s ∧ s.length = k ∧ IncF n f s
  | 0, f, pre, x => by
    simp only [combos, List.mem_singleton]
    constructor
    · rintro rfl; exact ⟨[], by simp, rfl, trivial⟩
    · rintro ⟨s, rfl, h, _⟩; rw [List.length_eq_zero_iff.1 h]; simp
  | k + 1, f, pre, x => by
    simp only [combos, List.mem_flatMap, List.mem_range]
    constructor
    · rintro ⟨j, hj, hx⟩
      obtain ⟨s, rfl, h1, h2⟩ := (mem_combos n k _ _ _).1 hx
      exact ⟨((f + j : Nat) : Int) :: s, by simp, by simp [h1], f + j, rfl, by omega, by omega, h2⟩
    · rintro ⟨s, rfl, h1, h2⟩
      cases s with
      | nil => simp at h1
      | cons a s =>
        obtain ⟨i, rfl, h3, h4, h5⟩ := h2
        simp only [List.length_cons] at h1
        have hroom : i + k < n := by
          rcases Nat.eq_zero_or_pos s.length with h | h
          · omega
          · have := h5.room (List.length_pos_iff.1 h); omega
        refine ⟨i - f, by omega, (mem_combos n k _ _ _).2 ⟨s, ?_, by omega, ?_⟩⟩
        · rw [show f + (i - f) = i by omega]; simp
        · rw [show f + (i - f) = i by omega]; exact h5
theorem combos_sorted (n : Nat) : ∀ (k f : Nat) (pre : List Int), (combos n k pre f).Pairwise fun a b => beforeL a b = true
  | 0, _, _ => by simp [combos]
  | k + 1, f, pre => by
    rw [combos, List.pairwise_flatMap]
    refine ⟨fun j _ => combos_sorted n k _ _, ?_⟩
    refine List.Pairwise.imp ?_ List.pairwise_lt_range
    intro a b hab x hx y hy
    obtain ⟨s1, rfl, _⟩ := (mem_combos n k _ _ _).1 hx
    obtain ⟨s2, rfl, _⟩ := (mem_combos n k _ _ _).1 hy
    rw [List.append_assoc, List.append_assoc, before_pre]
    simp only [List.singleton_append, beforeL]
    rw [if_neg (by omega)]; exact decide_eq_true (by omega)
def combosAll (n : Nat) : List (List Int) := (List.range (n + 1)).flatMap fun k => combos n k [] 0
theorem by_length {f : Nat → List (List Int)} {m : Nat} (h1 : ∀ k, (f k).Pairwise fun a b => beforeL a b = true) (h2 : ∀ k, ∀ x ∈ f k, x.length = k) : ((List.range m).flatMap f).Pairwise fun a b => shorterL a b = true := by
  rw [List.pairwise_flatMap]
  refine ⟨fun k _ => ?_, ?_⟩
  · refine List.Pairwise.imp_of_mem ?_ (h1 k)
    intro a b ha hb hab
    rw [shorter_iff]
    exact .inr ⟨by rw [h2 k a ha, h2 k b hb], hab⟩
  · refine List.Pairwise.imp ?_ List.pairwise_lt_range
    intro a b hab x hx y hy
    rw [shorter_iff]
    exact .inl (by rw [h2 a x hx, h2 b y hy]; exact hab)
theorem combosAll_sorted (n : Nat) : (combosAll n).Pairwise fun a b => shorterL a b = true :=
  by_length (fun k => combos_sorted n k 0 []) fun k x hx => by
    obtain ⟨s, rfl, h, _⟩ := (mem_combos n k 0 [] x).1 hx
    simpa using h
theorem mem_combosAll {n : Nat} {x : List Int} : x ∈ combosAll n ↔ Inc n x := by
  simp only [combosAll, List.mem_flatMap, List.mem_range, mem_combos, inc_incF, List.nil_append]
  constructor
  · rintro ⟨k, _, s, rfl, _, h⟩; exact h
  · intro h
    refine ⟨x.length, ?_, x, rfl, rfl, h⟩
    rcases Nat.eq_zero_or_pos x.length with h0 | h0
    · omega
    · have := h.room (List.length_pos_iff.1 h0); omega
theorem tryAll_min {ok : List Int → Bool} {n : Nat} {x : List Int} (hx : Inc n x) (ho : ok x = true) : IsMin ok (Inc n) (tryAll ok [] (combosAll n)) := by
  obtain ⟨y, hy⟩ := any_find (ok := ok) (l := combosAll n) (List.any_eq_true.2 ⟨x, mem_combosAll.2 hx, ho⟩)
  rw [tryAll_find [] hy]
  exact (find_min (combosAll_sorted n) hy).congr (fun y => mem_combosAll) (fun _ _ => rfl)
theorem bitsUpto_sorted (m p : Nat) : (bitsUpto m p).Pairwise (· < ·) := by
  rw [bitsUpto]
  refine List.Pairwise.map Int.ofNat (fun a b hab => ?_) (List.Pairwise.filter _ List.pairwise_lt_range)
  exact Int.ofNat_lt.2 hab
theorem bits_inc {n m : Nat} (hn : n ≤ 62) (hm : m < 2 ^ n) : Inc n (bitsL m) := by
  rw [bitsL_of hn hm]
  refine ⟨bitsUpto_sorted m n, fun a ha => ?_⟩
  simp only [bitsUpto, List.mem_map, List.mem_filter, List.mem_range] at ha
  obtain ⟨i, h, rfl⟩ := ha
  exact ⟨i, rfl, h.1⟩
theorem nodup_lt {l : List Int} (h : l.Pairwise (· < ·)) : l.Nodup := List.Pairwise.imp (fun {a b} hab => by omega) h
theorem inc_eq {l k : List Int} (h1 : l.Pairwise (· < ·)) (h2 : k.Pairwise (· < ·)) (h : ∀ a, a ∈ l ↔ a ∈ k) : l = k :=
  List.Perm.eq_of_pairwise (le := (· < ·)) (fun a b _ _ hab hba => by omega) h1 h2 ((List.perm_ext_iff_of_nodup (nodup_lt h1) (nodup_lt h2)).2 h)
end Go.Lift

set_option linter.unusedSimpArgs false
set_option linter.unusedVariables false
namespace Go.Lift
open Go Go.Proofs
/-- The house with other signs. -/
def reS (h : House) (ss : List Sign) : House := { h with signs := ss }
def sgn (bs : List Bool) (s : Sign) : Bool := bs.getD s.thing.toNat false == s.carries
theorem enumH_reS (h : House) (ss : List Sign) : ∀ (k : Nat) (pre : List Int), enumH (reS h ss) k pre = enumH h k pre
  | 0, _ => rfl
  | k + 1, pre => by
    simp only [enumH]
    congr 1
    funext n
    exact enumH_reS h ss k _
theorem allC_reS (h : House) (ss : List Sign) : allC (reS h ss) = allC h := by
  unfold allC
  congr 1
  funext o
  unfold coursesOf
  rw [enumH_reS]; rfl
theorem timesUpto_reS (h : House) (ss : List Sign) (m : Int) : ∀ j, timesUpto (reS h ss) m j = timesUpto h m j
  | 0 => rfl
  | j + 1 => by simp only [timesUpto, timesUpto_reS h ss m j]; rfl
theorem check_zero (h : House) : checkHouse h = 0 ↔ ¬ bigH h ∧ askErr h.table = 0 ∧ ¬ badH h ∧ allH h ∧ ¬ 2000 < manyH h := by
  unfold checkHouse
  by_cases h1 : bigH h
  · simp [h1]
  by_cases h2 : askErr h.table = 0
  rotate_left
  · simp [h1, h2]
  by_cases h3 : badH h
  · simp [h1, h2, h3]
  by_cases h4 : allH h
  rotate_left
  · simp [h1, h2, h3, h4]
  by_cases h5 : 2000 < manyH h
  · simp [h1, h2, h3, h4, h5]
  · simp [h1, h2, h3, h4, h5]
theorem check_reS {h : House} (hc : checkHouse h = 0) {ss : List Sign} (h5 : ss.length ≤ 5) (ht : ∀ s ∈ ss, thingOK h s.thing = true) : checkHouse (reS h ss) = 0 := by
  rw [check_zero] at hc ⊢
  obtain ⟨h1, h2, h3, h4, h6⟩ := hc
  refine ⟨?_, h2, h3, ⟨h4.1, h4.2.1, List.all_eq_true.2 ht⟩, ?_⟩
  · rintro (k | k | k | k | k)
    · exact h1 (.inl k)
    · exact h1 (.inr (.inl k))
    · exact h1 (.inr (.inr (.inl k)))
    · exact h1 (.inr (.inr (.inr (.inl k))))
    · have : (reS h ss).signs.length = ss.length := rfl
      omega
  · have : manyH (reS h ss) = manyH h := timesUpto_reS h ss _ _
    rw [this]; exact h6
theorem signs_ok {h : House} (hc : checkHouse h = 0) : h.signs.length ≤ 5 ∧ ∀ s ∈ h.signs, thingOK h s.thing = true := by
  rw [check_zero] at hc
  obtain ⟨h1, h2, h3, h4, h6⟩ := hc
  refine ⟨?_, List.all_eq_true.1 h4.2.2⟩
  apply Classical.byContradiction
  intro hn
  exact h1 (.inr (.inr (.inr (.inr (by omega)))))
theorem range_all {α : Type} (d : α) (l : List α) (p : α → Bool) : ((List.range l.length).all fun i => p (l.getD i d)) = l.all p := by
  rw [Bool.eq_iff_iff, List.all_eq_true, List.all_eq_true]
  constructor
  · intro h x hx
    obtain ⟨i, hi, rfl⟩ := List.getElem_of_mem hx
    have := h i (List.mem_range.2 hi)
    simpa [List.getD_eq_getElem?_getD, hi] using this
  · intro h i hi
    have hi' := List.mem_range.1 hi
    have : l.getD i d = l[i] := by simp [List.getD_eq_getElem?_getD, hi']
    rw [this]; exact h _ (List.getElem_mem _)
theorem isTrue_nil (h : House) (c : Course) : isTrue h [] c = h.signs.all (sgn (lastOf h c [])) := by
  rw [← range_all default, isTrue, rightOK]
  congr 1
  funext i
  unfold signRight sgn
  generalize (lastOf h c []).getD _ false = a
  generalize Sign.carries _ = b
  cases a <;> cases b <;> simp
theorem isTrue_out (h : House) (out : List Int) (c : Course) : isTrue h out c = true ↔ ∀ i, i < h.signs.length → (i : Int) ∉ out → sgn (lastOf h c []) (h.signs.getD i default) = true := by
  rw [isTrue, rightOK, List.all_eq_true]
  constructor
  · intro hall i hi hn
    have := hall i (List.mem_range.2 hi)
    simpa [signRight, hn, sgn] using this
  · intro hall i hi
    by_cases hm : (i : Int) ∈ out
    · simp [signRight, hm]
    · have := hall i (List.mem_range.1 hi) hm
      simpa [signRight, hm, sgn] using this
theorem possible_iff (h : House) (out : List Int) : possibleP h out = true ↔ ∃ c ∈ allC h, isTrue h out c = true := by
  rw [possibleP, List.any_eq_true]
theorem possible_tru (h : House) : possibleP h [] = true ↔ truH h [] ≠ [] := by
  rw [possible_iff, truH, Ne, List.filter_eq_nil_iff]
  constructor
  · rintro ⟨c, hc, ht⟩ hall; exact hall c hc ht
  · intro hn; exact Classical.byContradiction fun hno => hn fun c hc ht => hno ⟨c, hc, ht⟩
theorem allC_ne {h : House} (hv : HV h) : ∃ c, c ∈ allC h := by
  have h1 : truthsT h.table ≠ [] := by
    intro h0
    have := hv.ask
    rw [askErr, if_pos hv.tab, if_pos h0] at this; cases this
  have h2 : truthsR h.table ≠ [] := fun h0 => h1 ((truths_nil hv.tab).1 h0)
  obtain ⟨o, l, ho⟩ := List.exists_cons_of_ne_nil h2
  have h3 : isTruthT h.table o = true := (truthsR_mem hv.tab o).1 (by rw [ho]; simp)
  refine ⟨⟨o, h.touches.map (·.lo)⟩, (mem_allC hv.tab _).2 ?_⟩
  rw [courseOK, h3, hoursOK]
  simp only [Bool.true_and, List.length_map, decide_true, List.all_eq_true, List.mem_range, decide_eq_true_eq]
  intro i hi
  have := hv.tim _ (List.getElem_mem hi)
  simp [List.getD_eq_getElem?_getD, hi]; omega
theorem mem_bitsL (m i : Nat) : (i : Int) ∈ bitsL m ↔ i < 62 ∧ m.testBit i = true := by
  simp only [bitsL, bitsUpto, List.mem_map, List.mem_filter, List.mem_range]
  constructor
  · rintro ⟨j, hj, e⟩
    have : j = i := by
      have : ((j : Nat) : Int) = (i : Int) := e
      omega
    subst this; exact hj
  · intro hi; exact ⟨i, hi, rfl⟩
theorem full_bit (h : House) (m i : Nat) : (andN (fullN h) m).testBit i = (decide (i < h.signs.length) && !m.testBit i) := by
  rw [andN_bit, fullN, Nat.testBit_two_pow_sub_one]
theorem possible_full {h : House} (hv : HV h) : possibleP h (bitsL (2 ^ h.signs.length - 1)) = true := by
  obtain ⟨c, hc⟩ := allC_ne hv
  rw [possible_iff]
  refine ⟨c, hc, (isTrue_out _ _ _).2 fun i hi hn => absurd ((mem_bitsL _ _).2 ⟨?_, ?_⟩) hn⟩
  · have := hv.ok.signs; omega
  · rw [Nat.testBit_two_pow_sub_one]; exact decide_eq_true hi
theorem leave_min {h : House} (hv : HV h) : IsMin (possibleP h) (Inc h.signs.length) (leaveOf h) := by
  have h5 := hv.ok.signs
  have := tryAll_min (ok := possibleP h) (n := h.signs.length) (bits_inc (m := 2 ^ h.signs.length - 1) (by omega) (by have : 1 ≤ 2 ^ h.signs.length := Nat.one_le_two_pow; omega)) (possible_full hv)
  exact this
theorem possible_reS (h : House) (ss : List Sign) : possibleP (reS h ss) [] = (allC h).any fun c => ss.all (sgn (lastOf h c [])) := by
  rw [possibleP, allC_reS]
  congr 1
  funext c
  rw [isTrue_nil]; rfl
end Go.Lift

set_option linter.unusedSimpArgs false
set_option linter.unusedVariables false
namespace Go.Lift
open Go Go.Proofs
theorem inc_len {n : Nat} {x : List Int} (h : Inc n x) : x.length ≤ n := by
  rcases Nat.eq_zero_or_pos x.length with h0 | h0
  · omega
  · have := (inc_incF.1 h).room (List.length_pos_iff.1 h0); omega
end Go.Lift

set_option linter.unusedSimpArgs false
set_option linter.unusedVariables false
namespace Go.Lift
open Go Go.Proofs
def keepU (ss : List Sign) (m j : Nat) : List Sign := ((List.range j).filter m.testBit).map fun i => ss.getD i default
def keepB (ss : List Sign) (m : Nat) : List Sign := keepU ss m ss.length
theorem keepU_succ (ss : List Sign) (m j : Nat) : keepU ss m (j + 1) = keepU ss m j ++ (if m.testBit j = true then [ss.getD j default] else []) := by
  rw [keepU, List.range_succ, List.filter_append, List.map_append, keepU]
  congr 1
  cases hq : m.testBit j <;> simp [hq]
theorem keepU_len (ss : List Sign) (m j : Nat) : (keepU ss m j).length ≤ j := by
  rw [keepU, List.length_map]
  exact Nat.le_trans (List.length_filter_le _ _) (by simp)
theorem keepB_mem {ss : List Sign} {m : Nat} {s : Sign} (h : s ∈ keepB ss m) : s ∈ ss := by
  simp only [keepB, keepU, List.mem_map, List.mem_filter, List.mem_range] at h
  obtain ⟨i, ⟨hi, _⟩, rfl⟩ := h
  have : ss.getD i default = ss[i] := by simp [List.getD_eq_getElem?_getD, hi]
  rw [this]; exact List.getElem_mem _
theorem keep_all (ss : List Sign) (m : Nat) (p : Sign → Bool) : (keepB ss m).all p = true ↔ ∀ i, i < ss.length → m.testBit i = true → p (ss.getD i default) = true := by
  rw [List.all_eq_true]
  simp only [keepB, keepU, List.mem_map, List.mem_filter, List.mem_range]
  constructor
  · intro hall i hi hm; exact hall _ ⟨i, ⟨hi, hm⟩, rfl⟩
  · rintro hall s ⟨i, ⟨hi, hm⟩, rfl⟩; exact hall i hi hm
theorem possible_keep (h : House) (m : Nat) : possibleP (reS h (keepB h.signs m)) [] = true ↔ ∃ c ∈ allC h, ∀ i, i < h.signs.length → m.testBit i = true → sgn (lastOf h c []) (h.signs.getD i default) = true := by
  rw [possible_reS, List.any_eq_true]
  constructor
  · rintro ⟨c, hc, ha⟩; exact ⟨c, hc, (keep_all _ _ _).1 ha⟩
  · rintro ⟨c, hc, ha⟩; exact ⟨c, hc, (keep_all _ _ _).2 ha⟩
theorem keep_out (h : House) (h5 : h.signs.length ≤ 5) (b : Nat) : possibleP (reS h (keepB h.signs (andN (fullN h) b))) [] = possibleP h (bitsL b) := by
  rw [Bool.eq_iff_iff, possible_keep, possible_iff]
  simp only [isTrue_out, full_bit, Bool.and_eq_true, decide_eq_true_eq, Bool.not_eq_true']
  constructor
  · rintro ⟨c, hc, ha⟩
    refine ⟨c, hc, fun i hi hn => ha i hi ⟨hi, ?_⟩⟩
    rw [Bool.eq_false_iff]
    exact fun hb => hn ((mem_bitsL b i).2 ⟨by omega, hb⟩)
  · rintro ⟨c, hc, ha⟩
    refine ⟨c, hc, fun i hi hb => ha i hi fun hm => ?_⟩
    have := ((mem_bitsL b i).1 hm).2
    rw [hb.2] at this; cases this
theorem check_keep {h : House} (hc : checkHouse h = 0) (m : Nat) : checkHouse (reS h (keepB h.signs m)) = 0 := by
  obtain ⟨h1, h2⟩ := signs_ok hc
  exact check_reS hc (Nat.le_trans (keepU_len _ _ _) h1) fun s hs => h2 s (keepB_mem hs)
theorem ask_keep {h : House} (hc : checkHouse h = 0) (m : Nat) : askErrH (reS h (keepB h.signs m)) true = if possibleP (reS h (keepB h.signs m)) [] = true then 0 else 11 := by
  rw [askErrH, if_pos (check_keep hc m), if_pos rfl]
  by_cases hp : possibleP (reS h (keepB h.signs m)) [] = true
  · rw [if_pos hp, if_neg ((possible_tru _).1 hp)]
  · rw [if_neg hp, if_pos]
    exact Classical.byContradiction fun hn => hp ((possible_tru _).2 hn)
def bitsOf (l : List Int) : Nat := l.foldl (fun b a => b ||| 2 ^ a.toNat) 0
theorem bitsOf_snoc (l : List Int) (a : Int) : bitsOf (l ++ [a]) = bitsOf l ||| 2 ^ a.toNat := by simp [bitsOf]
theorem bitsOf_go (l : List Int) (b i : Nat) : (l.foldl (fun b a => b ||| 2 ^ a.toNat) b).testBit i = (b.testBit i || l.any fun a => decide (a.toNat = i)) := by
  induction l generalizing b with
  | nil => simp
  | cons a l ih =>
    rw [List.foldl_cons, ih, List.any_cons, Nat.testBit_or, Nat.testBit_two_pow, Bool.or_assoc]
theorem bitsOf_bit (l : List Int) (i : Nat) : (bitsOf l).testBit i = l.any fun a => decide (a.toNat = i) := by
  rw [bitsOf, bitsOf_go]; simp
theorem bitsOf_lt {n : Nat} {l : List Int} (h : ∀ a ∈ l, ∃ i : Nat, a = (i : Int) ∧ i < n) : bitsOf l < 2 ^ n := by
  refine Nat.lt_pow_two_of_testBit _ fun i hi => ?_
  rw [bitsOf_bit, List.any_eq_false]
  intro a ha
  obtain ⟨k, rfl, hk⟩ := h a ha
  simp; omega
theorem bitsL_bitsOf {n : Nat} (hn : n ≤ 62) {l : List Int} (h : Inc n l) : bitsL (bitsOf l) = l := by
  have hlt := bitsOf_lt h.2
  refine inc_eq (bits_inc hn hlt).1 h.1 fun a => ?_
  constructor
  · intro ha
    obtain ⟨i, rfl, hi⟩ := (bits_inc hn hlt).2 a ha
    have := ((mem_bitsL _ _).1 ha).2
    rw [bitsOf_bit, List.any_eq_true] at this
    obtain ⟨b, hb, he⟩ := this
    obtain ⟨k, rfl, _⟩ := h.2 b hb
    have : k = i := by simpa using he
    subst this; exact hb
  · intro ha
    obtain ⟨i, rfl, hi⟩ := h.2 a ha
    refine (mem_bitsL _ _).2 ⟨by omega, ?_⟩
    rw [bitsOf_bit, List.any_eq_true]
    exact ⟨_, ha, by simp⟩
end Go.Lift

set_option linter.unusedSimpArgs false
set_option linter.unusedVariables false
namespace Go.Lift
open Go Go.Proofs
theorem ready_ok {h : House} (hr : readyH h = true) : HSm h ∧ checkHouse h = 0 := by
  rw [readyH, Bool.and_eq_true, decide_eq_true_eq] at hr
  exact ⟨thin_sm hr.1, hr.2⟩
end Go.Lift

set_option linter.unusedSimpArgs false
set_option linter.unusedVariables false
namespace Go.Lift
open Go Go.Proofs
theorem agg31 : isAggB Tryz.prog 31 = some true := by kernel_rfl
theorem sz31 : szB Tryz.prog 31 = some 9 := by kernel_rfl
theorem some_c (h : House) (m : Nat) (hm : m < 2 ^ 62) (h5 : h.signs.length ≤ 60) : Pure Tryz.prog 48 [eH h, i6 m] (eH (reS h (keepB h.signs m))) := by
  intro H
  refine fn_of hmix fc48 (by simp) ?_
  rw [ienv2]
  simp only [go_sem, reduceIte, reduceCtorEq, Nat.reduceEqDiff, Nat.reduceBEq, Nat.reduceAdd, Nat.reduceMul, Nat.reduceLeDiff, List.getElem?_cons_zero, List.getElem?_cons_succ, bne_self_eq_false, Int.reduceEq, ac48, eH]
  refine v_box _ rfl fun b1 hb1 => ?_
  have e1 := (Ext.refl H).new hb1 (.box [.slice (h.table.women.map eW), .slice (h.table.pieces.map eP), i6 h.table.wrong, .slice (eI h.sick), i6 h.others, i6 h.last, .slice (h.touches.map eTo), .slice (h.boiled.map eB), .slice (h.signs.map eS)])
  simp only [go_sem, reduceIte, reduceCtorEq, Nat.reduceEqDiff, Nat.reduceBEq, Nat.reduceAdd, Nat.reduceMul, Nat.reduceLeDiff, List.getElem?_cons_zero, List.getElem?_cons_succ, bne_self_eq_false, Int.reduceEq]
  refine v_alloc fun b2 hb2 => ?_
  have n12 : b1 ≠ b2 := fun h => by subst h; simp at hb2
  have z2 : H b2 = none := e1.isNone hb2
  have e2 := e1.new hb2 (.box [.emp, .emp, .int .i64 0, .emp, .int .i64 0, .int .i64 0, .emp, .emp, .emp])
  simp only [go_sem, reduceIte, reduceCtorEq, Nat.reduceEqDiff, Nat.reduceBEq, Nat.reduceAdd, Nat.reduceMul, Nat.reduceLeDiff, List.getElem?_cons_zero, List.getElem?_cons_succ, bne_self_eq_false, Int.reduceEq, updH_ne _ _ n12]
  refine v_alloc fun b3 hb3 => ?_
  have n13 : b1 ≠ b3 := fun h => by subst h; simp [updH, n12] at hb3
  have n23 : b2 ≠ b3 := fun h => by subst h; simp at hb3
  have z3 : H b3 = none := e2.isNone hb3
  simp only [go_sem, reduceIte, reduceCtorEq, Nat.reduceEqDiff, Nat.reduceBEq, Nat.reduceAdd, Nat.reduceMul, Nat.reduceLeDiff, List.getElem?_cons_zero, List.getElem?_cons_succ, bne_self_eq_false, Int.reduceEq, updH_ne _ _ n12, updH_ne _ _ n13]
  rw [v_store]
  refine ⟨rfl, rfl, by simp [AV.cells, AV.isCell], _, updH_same _ _ _, by simp, ?_⟩
  rw [c_agg, show placeAt [.emp, .emp, .int .i64 0, .emp, .int .i64 0, .int .i64 0, .emp, .emp, .emp] 0 [.slice (h.table.women.map eW), .slice (h.table.pieces.map eP), i6 h.table.wrong, .slice (eI h.sick), i6 h.others, i6 h.last, .slice (h.touches.map eTo), .slice (h.boiled.map eB), .slice (h.signs.map eS)] = [.slice (h.table.women.map eW), .slice (h.table.pieces.map eP), i6 h.table.wrong, .slice (eI h.sick), i6 h.others, i6 h.last, .slice (h.touches.map eTo), .slice (h.boiled.map eB), .slice (h.signs.map eS)] from rfl]
  simp only [go_sem, reduceIte, reduceCtorEq, Nat.reduceEqDiff, Nat.reduceBEq, Nat.reduceAdd, Nat.reduceMul, Nat.reduceLeDiff, List.getElem?_cons_zero, List.getElem?_cons_succ, bne_self_eq_false, Int.reduceEq]
  rw [v_store]
  refine ⟨rfl, rfl, by simp [AV.cells, AV.isCell], _, updH_same _ _ _, by simp, ?_⟩
  rw [show placeAt [.slice (h.table.women.map eW), .slice (h.table.pieces.map eP), i6 h.table.wrong, .slice (eI h.sick), i6 h.others, i6 h.last, .slice (h.touches.map eTo), .slice (h.boiled.map eB), .slice (h.signs.map eS)] (0 + 8) AV.emp.cells = [.slice (h.table.women.map eW), .slice (h.table.pieces.map eP), i6 h.table.wrong, .slice (eI h.sick), i6 h.others, i6 h.last, .slice (h.touches.map eTo), .slice (h.boiled.map eB), .emp] from rfl]
  simp only [go_sem, reduceIte, reduceCtorEq, Nat.reduceEqDiff, Nat.reduceBEq, Nat.reduceAdd, Nat.reduceMul, Nat.reduceLeDiff, List.getElem?_cons_zero, List.getElem?_cons_succ, bne_self_eq_false, Int.reduceEq]
  refine x_for h.signs.length (fun j env H1 => Ext H H1 ∧ H1 b1 = some (.box [.slice (h.table.women.map eW), .slice (h.table.pieces.map eP), i6 h.table.wrong, .slice (eI h.sick), i6 h.others, i6 h.last, .slice (h.touches.map eTo), .slice (h.boiled.map eB), .slice (h.signs.map eS)]) ∧ H1 b2 = some (.box [.emp, .emp, .int .i64 0, .emp, .int .i64 0, .int .i64 0, .emp, .emp, .emp]) ∧ (∃ v, H1 b3 = some (.box [.slice (h.table.women.map eW), .slice (h.table.pieces.map eP), i6 h.table.wrong, .slice (eI h.sick), i6 h.others, i6 h.last, .slice (h.touches.map eTo), .slice (h.boiled.map eB), v]) ∧ Grown 2 H H1 v ((keepU h.signs m j).map eS)) ∧ env 1 = i6 m ∧ env 2 = .ptr b1 0 ∧ env 4 = .ptr b2 0 ∧ env 5 = .ptr b3 0 ∧ env 6 = i6 j ∧ env 33 = .any)
    ⟨((e2.new hb3 _).upd z3 _).upd z3 _, by rw [updH_ne _ _ n13, updH_ne _ _ n13, updH_ne _ _ n13, updH_ne _ _ n12]; exact updH_same _ _ _, by rw [updH_ne _ _ n23, updH_ne _ _ n23, updH_ne _ _ n23]; exact updH_same _ _ _, ⟨.emp, updH_same _ _ _, .inl ⟨rfl, rfl⟩⟩, by simp [upd_at], by simp [upd_at], by simp [upd_at], by simp [upd_at], by simp [upd_at], by simp [upd_at]⟩ ?_
  rintro j env H1 hj ⟨hE, hB1, hB2, ⟨v1, hB3, hG⟩, g1, g2, g4, g5, g6, hN⟩
  have hu := u64w (show j < 2 ^ 62 by omega)
  have hs := shr_nat (a := m) (show j ≤ 64 by omega)
  have hkl := keepU_len h.signs m j
  by_cases hlt : (j : Int) < (h.signs.length : Int)
  · have hlt' : j < h.signs.length := by omega
    have hmod : (((m / 2 ^ j : Nat) : Int)).tmod 2 = ((m / 2 ^ j % 2 : Nat) : Int) := (Int.ofNat_tmod (m / 2 ^ j) 2).symm
    have hbit : m.testBit j = decide (m / 2 ^ j % 2 = 1) := Nat.testBit_eq_decide_div_mod_eq
    have hgl : h.signs.getD j default = h.signs[j] := by simp [List.getD_eq_getElem?_getD, hlt']
    by_cases hb : m / 2 ^ j % 2 = 1
    · have hb' : ((m / 2 ^ j % 2 : Nat) : Int) = 1 := by omega
      simp only [↓aops_nil, ↓aops_go, ↓aops_go0, ↓aops_if, ↓k_cont, ↓k_cont0, g_tt, g_ff, g_tf, g_ft, g_u, ↓apre_nil, ↓apre_if, ↓apre_go, pgo_det, Tag.isCall, popt_some, gp_tt, gp_ff, gp_tf, gp_ft, gp_u, ↓k_draw, opt_some, List.map_cons, List.map_nil, ev, upd_at, ↓x_skip, ↓x_label, ↓x_ret, ↓x_exit, ↓x_seq, ↓x_block, ↓x_ops, ↓x_cond, x_sel_t, x_sel_f, ↓x_draw, ↓q_kseq_n, ↓q_kseq_r, ↓q_kseq_e, ↓q_block_n, ↓q_block_r, ↓q_block_e, ↓q_loop_n, ↓q_loop_r, ↓q_loop_e, ↓l_done, d_mov, d_pick, d_not, d_nilchk, d_nilchk', d_conv, d_add, d_sub, d_mul, d_quo, d_rem, d_shl, d_shr, d_and, d_or, d_andnot, d_eql, d_neq, d_lss, d_leq, d_gtr, d_geq, d_eqb, d_neqb, d_mkfunc, d_load, d_fieldaddr, d_fieldaddr', d_field_t, d_field_f, d_idxaddr, d_idxaddr_g, elemO_some, d_idxaddr_m, d_arraddr, d_arraddr', d_idx_f, d_sub_s, d_sub_g, d_arrsub, d_arrall, d_extract, d_len, d_len_g, d_len_e, d_len_m, d_min, d_build, d_bslice0, d_bs1, d_bs2, d_bsa, d_eqagg, v_mov, v_pick, v_not, v_nilchk, v_conv, v_bin, v_binb, v_eqagg, v_mkfunc, v_load, v_fieldaddr, v_field, v_idxaddr, v_arraddr, v_idx, v_sub, v_arrsub, v_arrall, v_extract, v_len, v_min, v_build, v_bslice, v_lookup, v_call, v_callv, Nat.reduceEqDiff, Nat.reduceBEq, reduceIte, ite_true, ite_false, Bool.false_eq_true, Bool.true_eq_false, if_true, if_false, decide_eq_true_eq, decide_eq_false_iff_not, decide_true, decide_false, Nat.zero_add, Nat.add_zero, Nat.reduceAdd, reduceCtorEq, eq_self, not_true_eq_false, not_false_eq_true, Bool.not_true, Bool.not_false, Nat.reduceMul, List.length_cons, List.length_nil, at_elem, take_f, take_tt, Int.toNat_natCast, Option.some.injEq, Option.bind_some, Int.natCast_nonneg, true_and, and_true, and_self, ↓q_for_n, ↓q_for_r, ↓q_for_e, eI_len, List.length_map, at_obj, obj_box, updH_same, Nat.reduceLeDiff, Nat.zero_le, Nat.le_refl, List.drop_zero, List.drop_succ_cons, List.take_succ_cons, List.take_zero, c_agg, c_int, c_bool, c_slice, c_emp, c_grow, ↓l_one0, ↓l_one1, ↓k_l0, ↓k_l1, stab_nil, stab_cons, stab_if, st_tt, st_ff, st_tf, st_ft, st_u, List.getElem?_cons_zero, List.getElem?_cons_succ, bne_self_eq_false, Int.reduceEq, g1, g2, g4, g5, g6, hN, hB1, hB3, hu, hs, hlt, hmod, hb', take_f', map_get (f := eS) hlt', eS, show ¬ ((j : Int) < 0) by omega, show ¬ ((2 : Int) = 0) by omega, d_bsa]
      refine v_append hG hE rfl (eS_good _) (eS_good [h.signs[j]]) (eS_cell [h.signs[j]]) (by simp; omega) (by simp; omega) ?_
      intro v' H2 hg' he' hk'
      have K1 := hk'.box hG hB1
      have K2 := hk'.box hG hB2
      have K3 := hk'.box hG hB3
      simp only [go_sem, reduceIte, reduceCtorEq, Nat.reduceEqDiff, Nat.reduceBEq, Nat.reduceAdd, Nat.reduceMul, Nat.reduceLeDiff, List.getElem?_cons_zero, List.getElem?_cons_succ, bne_self_eq_false, Int.reduceEq, g1, g2, g4, g5, g6, hN]
      rw [v_store]
      refine ⟨hg'.cellv.1, by rw [hg'.cellv.2.1]; rfl, by rw [hg'.cellv.2.1]; intro y hy; simp at hy; subst hy; exact hg'.cellv.2.2, _, K3, by simp, ?_⟩
      rw [hg'.cellv.2.1, show placeAt [.slice (h.table.women.map eW), .slice (h.table.pieces.map eP), i6 h.table.wrong, .slice (eI h.sick), i6 h.others, i6 h.last, .slice (h.touches.map eTo), .slice (h.boiled.map eB), v1] (0 + 8) [v'] = [.slice (h.table.women.map eW), .slice (h.table.pieces.map eP), i6 h.table.wrong, .slice (eI h.sick), i6 h.others, i6 h.last, .slice (h.touches.map eTo), .slice (h.boiled.map eB), v'] from rfl]
      simp only [go_sem, reduceIte, reduceCtorEq, Nat.reduceEqDiff, Nat.reduceBEq, Nat.reduceAdd, Nat.reduceMul, Nat.reduceLeDiff, List.getElem?_cons_zero, List.getElem?_cons_succ, bne_self_eq_false, Int.reduceEq, g1, g2, g4, g5, g6, hN, wsucc (show j < 4611686018427387904 by omega), hlt', updH_ne _ _ n13, updH_ne _ _ n23, K1, K2]
      refine ⟨he'.upd z3 _, v', rfl, ?_⟩
      rw [keepU_succ, hbit, if_pos (by simp [hb]), List.map_append, hgl]; exact hg'.store K3 _
    · have hb' : ¬ ((m / 2 ^ j % 2 : Nat) : Int) = 1 := by omega
      simp only [↓aops_nil, ↓aops_go, ↓aops_go0, ↓aops_if, ↓k_cont, ↓k_cont0, g_tt, g_ff, g_tf, g_ft, g_u, ↓apre_nil, ↓apre_if, ↓apre_go, pgo_det, Tag.isCall, popt_some, gp_tt, gp_ff, gp_tf, gp_ft, gp_u, ↓k_draw, opt_some, List.map_cons, List.map_nil, ev, upd_at, ↓x_skip, ↓x_label, ↓x_ret, ↓x_exit, ↓x_seq, ↓x_block, ↓x_ops, ↓x_cond, x_sel_t, x_sel_f, ↓x_draw, ↓q_kseq_n, ↓q_kseq_r, ↓q_kseq_e, ↓q_block_n, ↓q_block_r, ↓q_block_e, ↓q_loop_n, ↓q_loop_r, ↓q_loop_e, ↓l_done, d_mov, d_pick, d_not, d_nilchk, d_nilchk', d_conv, d_add, d_sub, d_mul, d_quo, d_rem, d_shl, d_shr, d_and, d_or, d_andnot, d_eql, d_neq, d_lss, d_leq, d_gtr, d_geq, d_eqb, d_neqb, d_mkfunc, d_load, d_fieldaddr, d_fieldaddr', d_field_t, d_field_f, d_idxaddr, d_idxaddr_g, elemO_some, d_idxaddr_m, d_arraddr, d_arraddr', d_idx_f, d_sub_s, d_sub_g, d_arrsub, d_arrall, d_extract, d_len, d_len_g, d_len_e, d_len_m, d_min, d_build, d_bslice0, d_bs1, d_bs2, d_bsa, d_eqagg, v_mov, v_pick, v_not, v_nilchk, v_conv, v_bin, v_binb, v_eqagg, v_mkfunc, v_load, v_fieldaddr, v_field, v_idxaddr, v_arraddr, v_idx, v_sub, v_arrsub, v_arrall, v_extract, v_len, v_min, v_build, v_bslice, v_lookup, v_call, v_callv, Nat.reduceEqDiff, Nat.reduceBEq, reduceIte, ite_true, ite_false, Bool.false_eq_true, Bool.true_eq_false, if_true, if_false, decide_eq_true_eq, decide_eq_false_iff_not, decide_true, decide_false, Nat.zero_add, Nat.add_zero, Nat.reduceAdd, reduceCtorEq, eq_self, not_true_eq_false, not_false_eq_true, Bool.not_true, Bool.not_false, Nat.reduceMul, List.length_cons, List.length_nil, at_elem, take_f, take_tt, Int.toNat_natCast, Option.some.injEq, Option.bind_some, Int.natCast_nonneg, true_and, and_true, and_self, ↓q_for_n, ↓q_for_r, ↓q_for_e, eI_len, List.length_map, at_obj, obj_box, updH_same, Nat.reduceLeDiff, Nat.zero_le, Nat.le_refl, List.drop_zero, List.drop_succ_cons, List.take_succ_cons, List.take_zero, c_agg, c_int, c_bool, c_slice, c_emp, c_grow, ↓l_one0, ↓l_one1, ↓k_l0, ↓k_l1, stab_nil, stab_cons, stab_if, st_tt, st_ff, st_tf, st_ft, st_u, List.getElem?_cons_zero, List.getElem?_cons_succ, bne_self_eq_false, Int.reduceEq, g1, g2, g4, g5, g6, hN, hB1, hB2, hB3, hu, hs, hlt, hmod, hb', show ¬ ((j : Int) < 0) by omega, show ¬ ((2 : Int) = 0) by omega, wsucc (show j < 4611686018427387904 by omega), hlt']
      refine ⟨hE, v1, rfl, ?_⟩
      rw [keepU_succ, hbit, if_neg (by simp [hb]), List.append_nil]; exact hG
  · have : j = h.signs.length := by omega
    subst this
    simp only [go_sem, reduceIte, reduceCtorEq, Nat.reduceEqDiff, Nat.reduceBEq, Nat.reduceAdd, Nat.reduceMul, Nat.reduceLeDiff, List.getElem?_cons_zero, List.getElem?_cons_succ, bne_self_eq_false, Int.reduceEq, g1, g2, g4, g5, g6, hN, hlt, hB1, hB3, take_f']
    rw [v_store]
    refine ⟨rfl, rfl, by
      intro y hy
      simp only [AV.cells, List.mem_cons, List.not_mem_nil, or_false] at hy
      rcases hy with rfl | rfl | rfl | rfl | rfl | rfl | rfl | rfl | rfl
      · rfl
      · rfl
      · rfl
      · rfl
      · rfl
      · rfl
      · rfl
      · rfl
      · exact hG.cellv.2.2, _, hB2, by simp, ?_⟩
    rw [c_agg, show placeAt [.emp, .emp, .int .i64 0, .emp, .int .i64 0, .int .i64 0, .emp, .emp, .emp] 0 [.slice (h.table.women.map eW), .slice (h.table.pieces.map eP), i6 h.table.wrong, .slice (eI h.sick), i6 h.others, i6 h.last, .slice (h.touches.map eTo), .slice (h.boiled.map eB), v1] = [.slice (h.table.women.map eW), .slice (h.table.pieces.map eP), i6 h.table.wrong, .slice (eI h.sick), i6 h.others, i6 h.last, .slice (h.touches.map eTo), .slice (h.boiled.map eB), v1] from rfl]
    simp only [go_sem, reduceIte, reduceCtorEq, Nat.reduceEqDiff, Nat.reduceBEq, Nat.reduceAdd, Nat.reduceMul, Nat.reduceLeDiff, List.getElem?_cons_zero, List.getElem?_cons_succ, bne_self_eq_false, Int.reduceEq, g1, g2, g4, g5, g6, hN]
    have eF := hE.upd z2 (.box [.slice (h.table.women.map eW), .slice (h.table.pieces.map eP), i6 h.table.wrong, .slice (eI h.sick), i6 h.others, i6 h.last, .slice (h.touches.map eTo), .slice (h.boiled.map eB), v1])
    have gF := hG.store hB2 (.box [.slice (h.table.women.map eW), .slice (h.table.pieces.map eP), i6 h.table.wrong, .slice (eI h.sick), i6 h.others, i6 h.last, .slice (h.touches.map eTo), .slice (h.boiled.map eB), v1])
    refine fin_cell1 4 9 b2 31 _ (by simp [upd_at, hN]) agg31 sz31 (by simp [upd_at, g4]) (updH_same _ _ _) rfl ⟨eH (reS h (keepB h.signs m)), H, settle_agg eF rfl fun i x y hx hy w v hH hr => ?_, rfl, rfl⟩
    match i, hx, hy with
    | 0, hx, hy => cases hx; cases hy; exact hr.mono (Evolve.drop eF)
    | 1, hx, hy => cases hx; cases hy; exact hr.mono (Evolve.drop eF)
    | 2, hx, hy => cases hx; cases hy; exact hr.mono (Evolve.drop eF)
    | 3, hx, hy => cases hx; cases hy; exact hr.mono (Evolve.drop eF)
    | 4, hx, hy => cases hx; cases hy; exact hr.mono (Evolve.drop eF)
    | 5, hx, hy => cases hx; cases hy; exact hr.mono (Evolve.drop eF)
    | 6, hx, hy => cases hx; cases hy; exact hr.mono (Evolve.drop eF)
    | 7, hx, hy => cases hx; cases hy; exact hr.mono (Evolve.drop eF)
    | 8, hx, hy => cases hx; cases hy; exact (gF.weaken eF).2 w v hH hr
theorem HSm.signs' {h : House} (hs : HSm h) {ss : List Sign} (hl : ss.length ≤ 1073741824) : HSm (reS h ss) :=
  ⟨hs.women, hs.pieces, hs.marks, hs.sick, hs.touches, hs.boiled, hl⟩
end Go.Lift

set_option linter.unusedSimpArgs false
set_option linter.unusedVariables false
namespace Go.Lift
open Go Go.Proofs
theorem pow_le {n : Nat} (h5 : n ≤ 5) : 2 ^ n ≤ 32 := Nat.pow_le_pow_right (n := 2) (by omega) h5
theorem andN_lt {a b n : Nat} (h : a < 2 ^ n) : andN a b < 2 ^ n := by
  refine Nat.lt_pow_two_of_testBit _ fun i hi => ?_
  rw [andN_bit, Nat.testBit_lt_two_pow (Nat.lt_of_lt_of_le h (Nat.pow_le_pow_right (by omega) hi))]; rfl
theorem fullN_lt {h : House} (h5 : h.signs.length ≤ 5) : fullN h < 2 ^ 5 := by
  have := pow_le h5
  have := Nat.two_pow_pos h.signs.length
  rw [fullN]; omega
set_option maxHeartbeats 1000000 in
theorem left_law (h : House) (n : Nat) (hn : n < 256) : Pure Tryz.prog 11 [eH h, .int .u8 (n : Int)] (.bool true) := by
  intro H
  refine fn_of hmix fc11 (by simp) ?_
  rw [ienv2]
  simp only [go_sem, reduceIte, reduceCtorEq, Nat.reduceEqDiff, Nat.reduceBEq, Nat.reduceAdd, Nat.reduceMul, Nat.reduceLeDiff, List.getElem?_cons_zero, List.getElem?_cons_succ, bne_self_eq_false, Int.reduceEq, ac11, eH]
  refine v_box _ rfl fun b1 hb1 => ?_
  have e1 := (Ext.refl H).new hb1 (.box [.slice (h.table.women.map eW), .slice (h.table.pieces.map eP), i6 h.table.wrong, .slice (eI h.sick), i6 h.others, i6 h.last, .slice (h.touches.map eTo), .slice (h.boiled.map eB), .slice (h.signs.map eS)])
  simp only [go_sem, reduceIte, reduceCtorEq, Nat.reduceEqDiff, Nat.reduceBEq, Nat.reduceAdd, Nat.reduceMul, Nat.reduceLeDiff, List.getElem?_cons_zero, List.getElem?_cons_succ, bne_self_eq_false, Int.reduceEq]
  refine (ready_c h).go ?_
  cases c1 : readyH h
  · simp only [go_sem, reduceIte, reduceCtorEq, Nat.reduceEqDiff, Nat.reduceBEq, Nat.reduceAdd, Nat.reduceMul, Nat.reduceLeDiff, List.getElem?_cons_zero, List.getElem?_cons_succ, bne_self_eq_false, Int.reduceEq]
    refine awake_c.go ?_
    simp only [go_sem, reduceIte, reduceCtorEq, Nat.reduceEqDiff, Nat.reduceBEq, Nat.reduceAdd, Nat.reduceMul, Nat.reduceLeDiff, List.getElem?_cons_zero, List.getElem?_cons_succ, bne_self_eq_false, Int.reduceEq]
    exact fin_ret 4 (by simp [upd_at]) ⟨_, H, Settle.refl e1, by simp [upd_at], rfl⟩
  obtain ⟨hm, hc⟩ := ready_ok c1
  have hv := hv_of hm.tsm hm.sk hc
  have h5 := hv.ok.signs
  have hmin := leave_min hv
  have hll := inc_len hmin.dom
  have hkm : ∀ m, HSm (reS h (keepB h.signs m)) := fun m => hm.signs' (by have := keepU_len h.signs m h.signs.length; unfold keepB; omega)
  simp only [go_sem, reduceIte, reduceCtorEq, Nat.reduceEqDiff, Nat.reduceBEq, Nat.reduceAdd, Nat.reduceMul, Nat.reduceLeDiff, List.getElem?_cons_zero, List.getElem?_cons_succ, bne_self_eq_false, Int.reduceEq]
  refine (house_c h hm).go ?_
  simp only [go_sem, reduceIte, reduceCtorEq, Nat.reduceEqDiff, Nat.reduceBEq, Nat.reduceAdd, Nat.reduceMul, Nat.reduceLeDiff, List.getElem?_cons_zero, List.getElem?_cons_succ, bne_self_eq_false, Int.reduceEq]
  refine (leave_c h hm.tsm hm.sk).go ?_
  simp only [go_sem, reduceIte, reduceCtorEq, Nat.reduceEqDiff, Nat.reduceBEq, Nat.reduceAdd, Nat.reduceMul, Nat.reduceLeDiff, List.getElem?_cons_zero, List.getElem?_cons_succ, bne_self_eq_false, Int.reduceEq, listR, hc]
  refine x_for (leaveOf h).length (fun j env H1 => Ext H H1 ∧ H1 b1 = some (.box [.slice (h.table.women.map eW), .slice (h.table.pieces.map eP), i6 h.table.wrong, .slice (eI h.sick), i6 h.others, i6 h.last, .slice (h.touches.map eTo), .slice (h.boiled.map eB), .slice (h.signs.map eS)]) ∧ env 1 = .int .u8 (n : Int) ∧ env 2 = .ptr b1 0 ∧ env 5 = .slice (eI (leaveOf h)) ∧ env 7 = i6 (bitsOf ((leaveOf h).take j) : Nat) ∧ env 8 = i6 j ∧ env 113 = .any)
    ⟨e1, updH_same _ _ _, by simp [upd_at], by simp [upd_at], by simp [upd_at], by simp [upd_at, bitsOf], by simp [upd_at], by simp [upd_at]⟩ ?_
  rintro j env H1 hj ⟨hE, hB, g1, g2, g5, g7, g8, hN⟩
  by_cases hlt : (j : Int) < ((leaveOf h).length : Int)
  · have hlt' : j < (leaveOf h).length := by omega
    obtain ⟨a, ha, han⟩ := hmin.dom.2 _ (List.getElem_mem hlt')
    have hin : (0 : Int) ≤ (a : Int) ∧ (a : Int) ≤ IntKind.i64.wrap ((h.signs.length : Int) - 1) := by rw [w64 (by omega) (by omega)]; omega
    have hsub : ∀ x ∈ (leaveOf h).take j, ∃ i : Nat, x = (i : Int) ∧ i < h.signs.length := fun x hx => hmin.dom.2 x (List.mem_of_mem_take hx)
    have hbl := Nat.lt_trans (bitsOf_lt hsub) (two_lt (show h.signs.length < 62 by omega))
    have hpa := two_lt (show a < 62 by omega)
    have hnew : bitsOf ((leaveOf h).take (j + 1)) = bitsOf ((leaveOf h).take j) ||| 2 ^ a := by
      rw [take_snoc hlt', bitsOf_snoc, ha]; rfl
    by_cases hj0 : (0 : Int) < (j : Int)
    · have hj1 : j - 1 < (leaveOf h).length := by omega
      obtain ⟨b, hb, hbn⟩ := hmin.dom.2 _ (List.getElem_mem hj1)
      have hab : ¬ (a : Int) ≤ (b : Int) := by
        have := (List.pairwise_iff_getElem.1 hmin.dom.1) (j - 1) j hj1 hlt' (by omega)
        rw [ha, hb] at this; omega
      simp only [go_sem, reduceIte, reduceCtorEq, Nat.reduceEqDiff, Nat.reduceBEq, Nat.reduceAdd, Nat.reduceMul, Nat.reduceLeDiff, List.getElem?_cons_zero, List.getElem?_cons_succ, bne_self_eq_false, Int.reduceEq, g1, g2, g5, g7, g8, hN, hB, hlt, take_f', eI_get hlt', ha]
      refine pgo_call (in_c _ _ _) ?_
      simp only [↓aops_nil, ↓aops_go, ↓aops_go0, ↓aops_if, ↓k_cont, ↓k_cont0, g_tt, g_ff, g_tf, g_ft, g_u, ↓apre_nil, ↓apre_if, ↓apre_go, pgo_det, Tag.isCall, popt_some, gp_tt, gp_ff, gp_tf, gp_ft, gp_u, ↓k_draw, opt_some, List.map_cons, List.map_nil, ev, upd_at, ↓x_skip, ↓x_label, ↓x_ret, ↓x_exit, ↓x_seq, ↓x_block, ↓x_ops, ↓x_cond, x_sel_t, x_sel_f, ↓x_draw, ↓q_kseq_n, ↓q_kseq_r, ↓q_kseq_e, ↓q_block_n, ↓q_block_r, ↓q_block_e, ↓q_loop_n, ↓q_loop_r, ↓q_loop_e, ↓l_done, d_mov, d_pick, d_not, d_nilchk, d_nilchk', d_conv, d_add, d_sub, d_mul, d_quo, d_rem, d_shl, d_shr, d_and, d_or, d_andnot, d_eql, d_neq, d_lss, d_leq, d_gtr, d_geq, d_eqb, d_neqb, d_mkfunc, d_load, d_fieldaddr, d_fieldaddr', d_field_t, d_field_f, d_idxaddr, d_idxaddr_g, elemO_some, d_idxaddr_m, d_arraddr, d_arraddr', d_idx_f, d_sub_s, d_sub_g, d_arrsub, d_arrall, d_extract, d_len, d_len_g, d_len_e, d_len_m, d_min, d_build, d_bslice0, d_bs1, d_bs2, d_bsa, d_eqagg, v_mov, v_pick, v_not, v_nilchk, v_conv, v_bin, v_binb, v_eqagg, v_mkfunc, v_load, v_fieldaddr, v_field, v_idxaddr, v_arraddr, v_idx, v_sub, v_arrsub, v_arrall, v_extract, v_len, v_min, v_build, v_bslice, v_lookup, v_call, v_callv, Nat.reduceEqDiff, Nat.reduceBEq, reduceIte, ite_true, ite_false, Bool.false_eq_true, Bool.true_eq_false, if_true, if_false, decide_eq_true_eq, decide_eq_false_iff_not, decide_true, decide_false, Nat.zero_add, Nat.add_zero, Nat.reduceAdd, reduceCtorEq, eq_self, not_true_eq_false, not_false_eq_true, Bool.not_true, Bool.not_false, Nat.reduceMul, List.length_cons, List.length_nil, at_elem, take_f, take_tt, Int.toNat_natCast, Option.some.injEq, Option.bind_some, Int.natCast_nonneg, true_and, and_true, and_self, ↓q_for_n, ↓q_for_r, ↓q_for_e, eI_len, List.length_map, at_obj, obj_box, updH_same, Nat.reduceLeDiff, Nat.zero_le, Nat.le_refl, List.drop_zero, List.drop_succ_cons, List.take_succ_cons, List.take_zero, c_agg, c_int, c_bool, c_slice, c_emp, c_grow, ↓l_one0, ↓l_one1, ↓k_l0, ↓k_l1, stab_nil, stab_cons, stab_if, st_tt, st_ff, st_tf, st_ft, st_u, List.getElem?_cons_zero, List.getElem?_cons_succ, bne_self_eq_false, Int.reduceEq, g1, g2, g5, g7, g8, hN, hB, hin, hj0, eI_get hlt', ha, wpred (show j < 4611686018427387904 by omega) (by omega), eI_get hj1, hb, hab, u64w (show a < 2 ^ 62 by omega), w_shl1 (show a < 62 by omega), show ¬ ((a : Int) < 0) by omega, w_or hbl hpa, wsucc (show j < 4611686018427387904 by omega), hlt']
      exact ⟨hE, by rw [hnew]⟩
    · simp only [go_sem, reduceIte, reduceCtorEq, Nat.reduceEqDiff, Nat.reduceBEq, Nat.reduceAdd, Nat.reduceMul, Nat.reduceLeDiff, List.getElem?_cons_zero, List.getElem?_cons_succ, bne_self_eq_false, Int.reduceEq, g1, g2, g5, g7, g8, hN, hB, hlt, take_f', eI_get hlt', ha]
      refine pgo_call (in_c _ _ _) ?_
      simp only [↓aops_nil, ↓aops_go, ↓aops_go0, ↓aops_if, ↓k_cont, ↓k_cont0, g_tt, g_ff, g_tf, g_ft, g_u, ↓apre_nil, ↓apre_if, ↓apre_go, pgo_det, Tag.isCall, popt_some, gp_tt, gp_ff, gp_tf, gp_ft, gp_u, ↓k_draw, opt_some, List.map_cons, List.map_nil, ev, upd_at, ↓x_skip, ↓x_label, ↓x_ret, ↓x_exit, ↓x_seq, ↓x_block, ↓x_ops, ↓x_cond, x_sel_t, x_sel_f, ↓x_draw, ↓q_kseq_n, ↓q_kseq_r, ↓q_kseq_e, ↓q_block_n, ↓q_block_r, ↓q_block_e, ↓q_loop_n, ↓q_loop_r, ↓q_loop_e, ↓l_done, d_mov, d_pick, d_not, d_nilchk, d_nilchk', d_conv, d_add, d_sub, d_mul, d_quo, d_rem, d_shl, d_shr, d_and, d_or, d_andnot, d_eql, d_neq, d_lss, d_leq, d_gtr, d_geq, d_eqb, d_neqb, d_mkfunc, d_load, d_fieldaddr, d_fieldaddr', d_field_t, d_field_f, d_idxaddr, d_idxaddr_g, elemO_some, d_idxaddr_m, d_arraddr, d_arraddr', d_idx_f, d_sub_s, d_sub_g, d_arrsub, d_arrall, d_extract, d_len, d_len_g, d_len_e, d_len_m, d_min, d_build, d_bslice0, d_bs1, d_bs2, d_bsa, d_eqagg, v_mov, v_pick, v_not, v_nilchk, v_conv, v_bin, v_binb, v_eqagg, v_mkfunc, v_load, v_fieldaddr, v_field, v_idxaddr, v_arraddr, v_idx, v_sub, v_arrsub, v_arrall, v_extract, v_len, v_min, v_build, v_bslice, v_lookup, v_call, v_callv, Nat.reduceEqDiff, Nat.reduceBEq, reduceIte, ite_true, ite_false, Bool.false_eq_true, Bool.true_eq_false, if_true, if_false, decide_eq_true_eq, decide_eq_false_iff_not, decide_true, decide_false, Nat.zero_add, Nat.add_zero, Nat.reduceAdd, reduceCtorEq, eq_self, not_true_eq_false, not_false_eq_true, Bool.not_true, Bool.not_false, Nat.reduceMul, List.length_cons, List.length_nil, at_elem, take_f, take_tt, Int.toNat_natCast, Option.some.injEq, Option.bind_some, Int.natCast_nonneg, true_and, and_true, and_self, ↓q_for_n, ↓q_for_r, ↓q_for_e, eI_len, List.length_map, at_obj, obj_box, updH_same, Nat.reduceLeDiff, Nat.zero_le, Nat.le_refl, List.drop_zero, List.drop_succ_cons, List.take_succ_cons, List.take_zero, c_agg, c_int, c_bool, c_slice, c_emp, c_grow, ↓l_one0, ↓l_one1, ↓k_l0, ↓k_l1, stab_nil, stab_cons, stab_if, st_tt, st_ff, st_tf, st_ft, st_u, List.getElem?_cons_zero, List.getElem?_cons_succ, bne_self_eq_false, Int.reduceEq, g1, g2, g5, g7, g8, hN, hB, hin, hj0, eI_get hlt', ha, u64w (show a < 2 ^ 62 by omega), w_shl1 (show a < 62 by omega), show ¬ ((a : Int) < 0) by omega, w_or hbl hpa, wsucc (show j < 4611686018427387904 by omega), hlt']
      exact ⟨hE, by rw [hnew]⟩
  · have : j = (leaveOf h).length := by omega
    subst this
    rw [List.take_length] at g7
    have hfl := fullN_lt h5
    have hbl := Nat.lt_trans (bitsOf_lt hmin.dom.2) (two_lt (show h.signs.length < 62 by omega))
    have htl : n &&& fullN h < 2 ^ 5 := Nat.and_lt_two_pow _ hfl
    have hb1 := andN_lt (b := bitsOf (leaveOf h)) hfl
    have hb2 := andN_lt (b := n &&& fullN h) hfl
    have a1 : askErrH (reS h (keepB h.signs (andN (fullN h) (bitsOf (leaveOf h))))) true = 0 := by
      rw [ask_keep hc, keep_out h h5, bitsL_bitsOf (by omega) hmin.dom, if_pos hmin.good]
    have a2 : askErrH (reS h (keepB h.signs (andN (fullN h) (n &&& fullN h)))) true = if possibleP h (bitsL (n &&& fullN h)) = true then 0 else 11 := by
      rw [ask_keep hc, keep_out h h5]
    simp only [go_sem, reduceIte, reduceCtorEq, Nat.reduceEqDiff, Nat.reduceBEq, Nat.reduceAdd, Nat.reduceMul, Nat.reduceLeDiff, List.getElem?_cons_zero, List.getElem?_cons_succ, bne_self_eq_false, Int.reduceEq, g1, g2, g5, g7, g8, hN, hB, hlt, w64 (show -9223372036854775808 ≤ (n : Int) by omega) (show (n : Int) < 9223372036854775808 by omega)]
    refine (fullH_c h (by omega)).go ?_
    simp only [↓aops_nil, ↓aops_go, ↓aops_go0, ↓aops_if, ↓k_cont, ↓k_cont0, g_tt, g_ff, g_tf, g_ft, g_u, ↓apre_nil, ↓apre_if, ↓apre_go, pgo_det, Tag.isCall, popt_some, gp_tt, gp_ff, gp_tf, gp_ft, gp_u, ↓k_draw, opt_some, List.map_cons, List.map_nil, ev, upd_at, ↓x_skip, ↓x_label, ↓x_ret, ↓x_exit, ↓x_seq, ↓x_block, ↓x_ops, ↓x_cond, x_sel_t, x_sel_f, ↓x_draw, ↓q_kseq_n, ↓q_kseq_r, ↓q_kseq_e, ↓q_block_n, ↓q_block_r, ↓q_block_e, ↓q_loop_n, ↓q_loop_r, ↓q_loop_e, ↓l_done, d_mov, d_pick, d_not, d_nilchk, d_nilchk', d_conv, d_add, d_sub, d_mul, d_quo, d_rem, d_shl, d_shr, d_and, d_or, d_andnot, d_eql, d_neq, d_lss, d_leq, d_gtr, d_geq, d_eqb, d_neqb, d_mkfunc, d_load, d_fieldaddr, d_fieldaddr', d_field_t, d_field_f, d_idxaddr, d_idxaddr_g, elemO_some, d_idxaddr_m, d_arraddr, d_arraddr', d_idx_f, d_sub_s, d_sub_g, d_arrsub, d_arrall, d_extract, d_len, d_len_g, d_len_e, d_len_m, d_min, d_build, d_bslice0, d_bs1, d_bs2, d_bsa, d_eqagg, v_mov, v_pick, v_not, v_nilchk, v_conv, v_bin, v_binb, v_eqagg, v_mkfunc, v_load, v_fieldaddr, v_field, v_idxaddr, v_arraddr, v_idx, v_sub, v_arrsub, v_arrall, v_extract, v_len, v_min, v_build, v_bslice, v_lookup, v_call, v_callv, Nat.reduceEqDiff, Nat.reduceBEq, reduceIte, ite_true, ite_false, Bool.false_eq_true, Bool.true_eq_false, if_true, if_false, decide_eq_true_eq, decide_eq_false_iff_not, decide_true, decide_false, Nat.zero_add, Nat.add_zero, Nat.reduceAdd, reduceCtorEq, eq_self, not_true_eq_false, not_false_eq_true, Bool.not_true, Bool.not_false, Nat.reduceMul, List.length_cons, List.length_nil, at_elem, take_f, take_tt, Int.toNat_natCast, Option.some.injEq, Option.bind_some, Int.natCast_nonneg, true_and, and_true, and_self, ↓q_for_n, ↓q_for_r, ↓q_for_e, eI_len, List.length_map, at_obj, obj_box, updH_same, Nat.reduceLeDiff, Nat.zero_le, Nat.le_refl, List.drop_zero, List.drop_succ_cons, List.take_succ_cons, List.take_zero, c_agg, c_int, c_bool, c_slice, c_emp, c_grow, ↓l_one0, ↓l_one1, ↓k_l0, ↓k_l1, stab_nil, stab_cons, stab_if, st_tt, st_ff, st_tf, st_ft, st_u, List.getElem?_cons_zero, List.getElem?_cons_succ, bne_self_eq_false, Int.reduceEq, g1, g2, g5, g7, g8, hN, hB, w_and (show n < 2 ^ 62 by omega) (show fullN h < 2 ^ 62 by omega)]
    refine pgo_call (fullH_c h (by omega)) ?_
    simp only [↓aops_nil, ↓aops_go, ↓aops_go0, ↓aops_if, ↓k_cont, ↓k_cont0, g_tt, g_ff, g_tf, g_ft, g_u, ↓apre_nil, ↓apre_if, ↓apre_go, pgo_det, Tag.isCall, popt_some, gp_tt, gp_ff, gp_tf, gp_ft, gp_u, ↓k_draw, opt_some, List.map_cons, List.map_nil, ev, upd_at, ↓x_skip, ↓x_label, ↓x_ret, ↓x_exit, ↓x_seq, ↓x_block, ↓x_ops, ↓x_cond, x_sel_t, x_sel_f, ↓x_draw, ↓q_kseq_n, ↓q_kseq_r, ↓q_kseq_e, ↓q_block_n, ↓q_block_r, ↓q_block_e, ↓q_loop_n, ↓q_loop_r, ↓q_loop_e, ↓l_done, d_mov, d_pick, d_not, d_nilchk, d_nilchk', d_conv, d_add, d_sub, d_mul, d_quo, d_rem, d_shl, d_shr, d_and, d_or, d_andnot, d_eql, d_neq, d_lss, d_leq, d_gtr, d_geq, d_eqb, d_neqb, d_mkfunc, d_load, d_fieldaddr, d_fieldaddr', d_field_t, d_field_f, d_idxaddr, d_idxaddr_g, elemO_some, d_idxaddr_m, d_arraddr, d_arraddr', d_idx_f, d_sub_s, d_sub_g, d_arrsub, d_arrall, d_extract, d_len, d_len_g, d_len_e, d_len_m, d_min, d_build, d_bslice0, d_bs1, d_bs2, d_bsa, d_eqagg, v_mov, v_pick, v_not, v_nilchk, v_conv, v_bin, v_binb, v_eqagg, v_mkfunc, v_load, v_fieldaddr, v_field, v_idxaddr, v_arraddr, v_idx, v_sub, v_arrsub, v_arrall, v_extract, v_len, v_min, v_build, v_bslice, v_lookup, v_call, v_callv, Nat.reduceEqDiff, Nat.reduceBEq, reduceIte, ite_true, ite_false, Bool.false_eq_true, Bool.true_eq_false, if_true, if_false, decide_eq_true_eq, decide_eq_false_iff_not, decide_true, decide_false, Nat.zero_add, Nat.add_zero, Nat.reduceAdd, reduceCtorEq, eq_self, not_true_eq_false, not_false_eq_true, Bool.not_true, Bool.not_false, Nat.reduceMul, List.length_cons, List.length_nil, at_elem, take_f, take_tt, Int.toNat_natCast, Option.some.injEq, Option.bind_some, Int.natCast_nonneg, true_and, and_true, and_self, ↓q_for_n, ↓q_for_r, ↓q_for_e, eI_len, List.length_map, at_obj, obj_box, updH_same, Nat.reduceLeDiff, Nat.zero_le, Nat.le_refl, List.drop_zero, List.drop_succ_cons, List.take_succ_cons, List.take_zero, c_agg, c_int, c_bool, c_slice, c_emp, c_grow, ↓l_one0, ↓l_one1, ↓k_l0, ↓k_l1, stab_nil, stab_cons, stab_if, st_tt, st_ff, st_tf, st_ft, st_u, List.getElem?_cons_zero, List.getElem?_cons_succ, bne_self_eq_false, Int.reduceEq, g1, g2, g5, g7, g8, hN, hB, w_andN (show fullN h < 2 ^ 62 by omega) hbl]
    refine pgo_call (some_c h _ (by omega) (by omega)) ?_
    simp only [go_sem, reduceIte, reduceCtorEq, Nat.reduceEqDiff, Nat.reduceBEq, Nat.reduceAdd, Nat.reduceMul, Nat.reduceLeDiff, List.getElem?_cons_zero, List.getElem?_cons_succ, bne_self_eq_false, Int.reduceEq]
    refine pgo_call (house_c _ (hkm _)) ?_
    simp only [go_sem, reduceIte, reduceCtorEq, Nat.reduceEqDiff, Nat.reduceBEq, Nat.reduceAdd, Nat.reduceMul, Nat.reduceLeDiff, List.getElem?_cons_zero, List.getElem?_cons_succ, bne_self_eq_false, Int.reduceEq]
    refine pgo_call (carry_c _ (hkm _).tsm (hkm _).sk) ?_
    simp only [go_sem, reduceIte, reduceCtorEq, Nat.reduceEqDiff, Nat.reduceBEq, Nat.reduceAdd, Nat.reduceMul, Nat.reduceLeDiff, List.getElem?_cons_zero, List.getElem?_cons_succ, bne_self_eq_false, Int.reduceEq, listR, a1, g1, g2, g5, g7, g8, hN, hB]
    refine pgo_call (fullH_c h (by omega)) ?_
    simp only [↓aops_nil, ↓aops_go, ↓aops_go0, ↓aops_if, ↓k_cont, ↓k_cont0, g_tt, g_ff, g_tf, g_ft, g_u, ↓apre_nil, ↓apre_if, ↓apre_go, pgo_det, Tag.isCall, popt_some, gp_tt, gp_ff, gp_tf, gp_ft, gp_u, ↓k_draw, opt_some, List.map_cons, List.map_nil, ev, upd_at, ↓x_skip, ↓x_label, ↓x_ret, ↓x_exit, ↓x_seq, ↓x_block, ↓x_ops, ↓x_cond, x_sel_t, x_sel_f, ↓x_draw, ↓q_kseq_n, ↓q_kseq_r, ↓q_kseq_e, ↓q_block_n, ↓q_block_r, ↓q_block_e, ↓q_loop_n, ↓q_loop_r, ↓q_loop_e, ↓l_done, d_mov, d_pick, d_not, d_nilchk, d_nilchk', d_conv, d_add, d_sub, d_mul, d_quo, d_rem, d_shl, d_shr, d_and, d_or, d_andnot, d_eql, d_neq, d_lss, d_leq, d_gtr, d_geq, d_eqb, d_neqb, d_mkfunc, d_load, d_fieldaddr, d_fieldaddr', d_field_t, d_field_f, d_idxaddr, d_idxaddr_g, elemO_some, d_idxaddr_m, d_arraddr, d_arraddr', d_idx_f, d_sub_s, d_sub_g, d_arrsub, d_arrall, d_extract, d_len, d_len_g, d_len_e, d_len_m, d_min, d_build, d_bslice0, d_bs1, d_bs2, d_bsa, d_eqagg, v_mov, v_pick, v_not, v_nilchk, v_conv, v_bin, v_binb, v_eqagg, v_mkfunc, v_load, v_fieldaddr, v_field, v_idxaddr, v_arraddr, v_idx, v_sub, v_arrsub, v_arrall, v_extract, v_len, v_min, v_build, v_bslice, v_lookup, v_call, v_callv, Nat.reduceEqDiff, Nat.reduceBEq, reduceIte, ite_true, ite_false, Bool.false_eq_true, Bool.true_eq_false, if_true, if_false, decide_eq_true_eq, decide_eq_false_iff_not, decide_true, decide_false, Nat.zero_add, Nat.add_zero, Nat.reduceAdd, reduceCtorEq, eq_self, not_true_eq_false, not_false_eq_true, Bool.not_true, Bool.not_false, Nat.reduceMul, List.length_cons, List.length_nil, at_elem, take_f, take_tt, Int.toNat_natCast, Option.some.injEq, Option.bind_some, Int.natCast_nonneg, true_and, and_true, and_self, ↓q_for_n, ↓q_for_r, ↓q_for_e, eI_len, List.length_map, at_obj, obj_box, updH_same, Nat.reduceLeDiff, Nat.zero_le, Nat.le_refl, List.drop_zero, List.drop_succ_cons, List.take_succ_cons, List.take_zero, c_agg, c_int, c_bool, c_slice, c_emp, c_grow, ↓l_one0, ↓l_one1, ↓k_l0, ↓k_l1, stab_nil, stab_cons, stab_if, st_tt, st_ff, st_tf, st_ft, st_u, List.getElem?_cons_zero, List.getElem?_cons_succ, bne_self_eq_false, Int.reduceEq, g1, g2, g5, g7, g8, hN, hB, w_andN (show fullN h < 2 ^ 62 by omega) (show n &&& fullN h < 2 ^ 62 by omega)]
    refine pgo_call (some_c h _ (by omega) (by omega)) ?_
    simp only [go_sem, reduceIte, reduceCtorEq, Nat.reduceEqDiff, Nat.reduceBEq, Nat.reduceAdd, Nat.reduceMul, Nat.reduceLeDiff, List.getElem?_cons_zero, List.getElem?_cons_succ, bne_self_eq_false, Int.reduceEq]
    refine pgo_call (house_c _ (hkm _)) ?_
    simp only [go_sem, reduceIte, reduceCtorEq, Nat.reduceEqDiff, Nat.reduceBEq, Nat.reduceAdd, Nat.reduceMul, Nat.reduceLeDiff, List.getElem?_cons_zero, List.getElem?_cons_succ, bne_self_eq_false, Int.reduceEq]
    refine pgo_call (carry_c _ (hkm _).tsm (hkm _).sk) ?_
    by_cases hp : possibleP h (bitsL (n &&& fullN h)) = true
    · rw [if_pos hp] at a2
      have hs : shorterL (bitsL (n &&& fullN h)) (leaveOf h) = false := by
        refine hmin.least _ (bits_inc (by omega) ?_) hp
        have := Nat.and_lt_two_pow n (y := fullN h) (n := h.signs.length) (by have := Nat.two_pow_pos h.signs.length; rw [fullN]; omega)
        exact this
      simp only [go_sem, reduceIte, reduceCtorEq, Nat.reduceEqDiff, Nat.reduceBEq, Nat.reduceAdd, Nat.reduceMul, Nat.reduceLeDiff, List.getElem?_cons_zero, List.getElem?_cons_succ, bne_self_eq_false, Int.reduceEq, listR, a2, g1, g2, g5, g7, g8, hN, hB, show ¬ (0 : Int) = 11 by omega]
      refine (bits_c _ (by omega)).go ?_
      simp only [go_sem, reduceIte, reduceCtorEq, Nat.reduceEqDiff, Nat.reduceBEq, Nat.reduceAdd, Nat.reduceMul, Nat.reduceLeDiff, List.getElem?_cons_zero, List.getElem?_cons_succ, bne_self_eq_false, Int.reduceEq, g1, g2, g5, g7, g8, hN, hB]
      refine (shorter_c _ _ (by have := bitsL_len (n &&& fullN h); unfold Sm; omega) (by unfold Sm; omega)).go ?_
      rw [hs]
      simp only [go_sem, reduceIte, reduceCtorEq, Nat.reduceEqDiff, Nat.reduceBEq, Nat.reduceAdd, Nat.reduceMul, Nat.reduceLeDiff, List.getElem?_cons_zero, List.getElem?_cons_succ, bne_self_eq_false, Int.reduceEq, g1, g2, g5, g7, g8, hN, hB]
      refine awake_c.go ?_
      simp only [go_sem, reduceIte, reduceCtorEq, Nat.reduceEqDiff, Nat.reduceBEq, Nat.reduceAdd, Nat.reduceMul, Nat.reduceLeDiff, List.getElem?_cons_zero, List.getElem?_cons_succ, bne_self_eq_false, Int.reduceEq]
      exact fin_ret 4 (by simp [upd_at, hN]) ⟨_, H, Settle.refl hE, by simp [upd_at], rfl⟩
    · rw [if_neg hp] at a2
      simp only [go_sem, reduceIte, reduceCtorEq, Nat.reduceEqDiff, Nat.reduceBEq, Nat.reduceAdd, Nat.reduceMul, Nat.reduceLeDiff, List.getElem?_cons_zero, List.getElem?_cons_succ, bne_self_eq_false, Int.reduceEq, listR, a2, g1, g2, g5, g7, g8, hN, hB, show ¬ (11 : Int) = 0 by omega]
      refine awake_c.go ?_
      simp only [go_sem, reduceIte, reduceCtorEq, Nat.reduceEqDiff, Nat.reduceBEq, Nat.reduceAdd, Nat.reduceMul, Nat.reduceLeDiff, List.getElem?_cons_zero, List.getElem?_cons_succ, bne_self_eq_false, Int.reduceEq]
      exact fin_ret 4 (by simp [upd_at, hN]) ⟨_, H, Settle.refl hE, by simp [upd_at], rfl⟩
end Go.Lift

