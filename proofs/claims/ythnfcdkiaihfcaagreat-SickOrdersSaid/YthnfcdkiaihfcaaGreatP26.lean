/- Part 26 of the proof: the tools and contracts. Conditions: none. -/
import Derived.Test.YthnfcdkiaihfcaaGreatP25
import Derived.Test.YthnfcdkiaihfcaaGreatProg
set_option maxRecDepth 100000
set_option linter.unusedVariables false
namespace Go.Lift
open Go Go.Proofs
def cert13 : Nat → Option Cert := fun
  | 8 => some ⟨[0, 1, 2, 3, 4, 5, 6, 7, 8, 9, 10, 11, 12, 13, 14, 15, 16, 17, 18, 19], .done, [[], [], [], [], [1, 2, 3], [1, 2, 3, 4], [1, 2, 3, 4, 5], [1, 2, 3, 4, 5, 6], [1, 2, 3, 4, 5], [1, 2, 3, 4, 5, 6, 7, 8], [1, 2, 3, 4, 5, 6, 7, 8, 9], [1, 2, 3, 4, 5, 6, 7, 8, 9, 10], [1, 2, 3, 4, 5, 6, 7, 8, 9, 10, 11], [1, 2, 3, 4, 5, 6, 7, 8, 9, 10, 11], [1, 2, 3, 4, 5, 6, 7, 8, 9, 10, 11], [1, 2, 3, 4, 5, 6, 7, 8, 9, 10, 11], [1, 2, 3, 4, 5, 6, 7, 8, 9, 10, 11, 14, 15], [1, 2, 3, 4, 5, 6, 7, 8, 9, 10, 11, 12, 13, 14, 15, 16], [1, 2, 3, 4, 5, 6, 7, 8, 9, 10, 11, 12, 13, 14, 15, 16, 17], [0, 1, 2, 3, 4, 5, 6, 7, 8, 9, 10, 11, 12, 13, 14, 15, 16, 17, 18]]⟩
  | _ => none
def ac13 : ACode :=(.seq (.ops [uO 4 .box 0, oA 8 .mov [kF]]) (.seq (.seq (.ops [uO 16 lT9 4, uO 17 (.call 19) 16, uO 18 .not 17, uM 19 18, gM 20 2 19 false, gO 21 .len 20 19 false, oG 22 (.bin .gtr) [.t 21, (kI 30)] 19 false, oA 23 .pick [.t 19, kT, .t 22]]) (.cond (.t 23) (.seq (.ops [oA 24 (.call 20) [], uM 8 24]) .ret) .skip)) (.seq (.ops [uO 26 lT9 4, uO 27 (.call 22) 26, uM 28 1, uB 29 (.call 58) 27 28, uM 25 29, uO 30 x0 25, uO 31 x1 25, uM 9 30, uM 10 31]) (.seq (.ops [uO 32 lT9 4, uO 33 (.call 22) 32, uM 34 1, uM 35 2, uO 36 (.call 39) 35, uM 37 3, oA 38 (.call 59) [.t 33, .t 34, .t 36, .t 37], uM 11 38]) (.seq (.ops [uO 40 lT9 4, uM 41 1, uB 42 (.call 53) 40 41, uM 39 42, uO 43 x0 39, uO 44 x1 39, uM 12 43, uM 13 44]) (.seq (.seq (.ops [uM 45 13, oA 46 bN [.t 45, (kI 0)]]) (.cond (.t 46) (.seq (.ops [uM 47 10, uM 48 13, uB 49 bE 47 48, uM 50 49, gM 51 9 50 true, gO 52 .len 51 50 true, oG 53 bE [.t 52, (kI 0)] 50 true, oA 54 .pick [.t 50, .t 53, kF], uM 55 54, gM 56 11 55 true, gO 57 .not 56 55 true, oA 58 .pick [.t 55, .t 57, kF], uM 59 58, oG 60 (.call 20) [] 59 true, oA 61 .pick [.t 59, .t 60, kF], uM 8 61]) .ret) .skip)) (.seq (.seq (.draw [(false, uM 62 11), (false, uO 63 lT9 4), (false, uM 64 2), (false, uM 65 1), (false, oA 66 (.call 60) [.t 63, .t 64, .t 65]), (false, uM 67 66), (false, gM 68 2 67 true), (false, gO 69 .len 68 67 true), (false, gM 70 3 67 true), (false, gB 71 (.bin .leq) 69 70 67 true), (false, oA 72 .pick [.t 67, .t 71, kF]), (false, uM 73 72), (false, gO 74 lT9 4 73 true), (false, gM 75 12 73 true), (false, gM 76 2 73 true), (false, gM 77 1 73 true), (false, gB 78 (.call 61) 76 77 73 true), (false, oG 79 (.call 55) [.t 74, .t 75, .t 78] 73 true), (false, oA 80 .pick [.t 73, .t 79, kF]), (false, uB 81 (.binb .neq) 62 80)] .done) (.cond (.t 81) (.seq (.ops [oA 8 .mov [kF]]) .ret) .skip)) (.seq (.ops [uO 83 lT9 4, uM 84 12, uM 85 1, oA 86 (.call 62) [.t 83, .t 84, .t 85], uM 82 86, uO 87 x0 82, uO 88 x1 82, uM 14 87, uM 15 88]) (.seq (.seq (.ops [uM 89 15, uO 90 .not 89]) (.cond (.t 90) (.seq (.ops [uM 91 10, oA 92 bE [.t 91, (kI 10)], uM 93 92, gM 94 9 93 true, gO 95 .len 94 93 true, oG 96 bE [.t 95, (kI 0)] 93 true, oA 97 .pick [.t 93, .t 96, kF], uM 98 97, oG 99 (.call 20) [] 98 true, oA 100 .pick [.t 98, .t 99, kF], uM 8 100]) .ret) .skip)) (.seq (.ops [uM 101 10, oA 102 bE [.t 101, (kI 0)], uM 103 102, gM 104 9 103 true, gM 105 14 103 true, gB 106 (.call 28) 104 105 103 true, oA 107 .pick [.t 103, .t 106, kF], uM 108 107, oG 109 (.call 20) [] 108 true, oA 110 .pick [.t 108, .t 109, kF], uM 8 110]) .ret))))))))))
theorem fc13 : fnC Tryz.prog 13 cert13 = some (111, [.tmp 8], ac13) := by kernel_rfl
end Go.Lift
set_option maxRecDepth 100000
set_option linter.unusedVariables false
namespace Go.Lift
open Go Go.Proofs
def cert36 : Nat → Option Cert := fun
  | 9 => some ⟨[0, 1, 2, 3, 4, 5, 6, 7, 8, 9], (.one 10 (.one 11 .done)), [[], [], [], [1, 2], [1, 2, 3], [], [], [5, 6], [1, 2, 3, 4, 5, 6, 7], [1, 2, 3, 4, 5, 6, 7, 8], [0, 1, 2, 3, 4, 5, 6, 7, 8, 9], [0, 1, 2, 3, 4, 5, 6, 7, 8, 9, 10]]⟩
  | _ => none
def ac36 : ACode :=(.seq (.ops [uO 1 .box 0, oA 2 .mov [kE]]) (.seq (.ops [oA 3 .mov [kE]]) (.seq (.ops [uO 7 fA0 1, uO 8 lT3 7, uO 9 (.call 88) 8, uM 4 9]) (.seq (.seq (.ops [oA 5 .mov [(kI 0)]]) (.block 0 (.loop (.seq (.seq (.ops [uM 10 5, uM 11 4, uO 12 .len 11, uB 13 bL 10 12]) (.cond (.t 13) .skip (.exit 0))) (.seq (.block 1 (.seq (.ops [oA 6 .mov [(kI 0)]]) (.block 2 (.loop (.seq (.seq (.ops [uM 16 6, uO 17 lT9 1, uO 18 (.call 89) 17, uB 19 bL 16 18]) (.cond (.t 19) .skip (.exit 2))) (.seq (.block 3 (.draw [(false, uM 22 3), (false, uM 23 4), (false, uM 24 5), (false, uB 25 (.idxaddr 1) 23 24), (false, uO 26 lF 25), (false, uO 27 lT9 1), (false, uM 28 6), (false, uB 29 (.call 90) 27 28), (false, uB 30 (.build [.emp, .emp] [(0, 1), (1, 1)]) 26 29), (false, uO 31 (.bslice 2) 30)] (.one (uB 32 (.append 2 48) 22 31) [] (.one (uM 3 32) [] .done)))) (.ops [uM 20 6, oA 21 bA [.t 20, (kI 1)], uM 6 21]))))))) (.ops [uM 14 5, oA 15 bA [.t 14, (kI 1)], uM 5 15])))))) (.seq (.ops [uM 33 3, uM 2 33]) .ret)))))
theorem fc36 : fnC Tryz.prog 36 cert36 = some (34, [.tmp 2], ac36) := by kernel_rfl
def cert49 : Nat → Option Cert := fun _ => none
def ac49 : ACode :=(.seq (.ops [uO 1 .box 0, oA 2 .mov [(kI 0)]]) (.seq (.ops [uO 3 fA8 1, uO 4 lF 3, uO 5 .len 4, uO 6 (.conv .u64) 5, oA 7 (.bin .shl) [(kI 1), .t 6], oA 8 (.bin .sub) [.t 7, (kI 1)], uM 2 8]) .ret))
theorem fc49 : fnC Tryz.prog 49 cert49 = some (9, [.tmp 2], ac49) := by kernel_rfl
def cert53 : Nat → Option Cert := fun _ => none
def ac53 : ACode :=(.seq (.ops [uO 2 .box 0, oA 4 .mov [kE], oA 5 .mov [(kI 0)]]) (.seq (.seq (.ops [uO 8 lT9 2, uO 9 (.call 31) 8, uM 6 9]) (.seq (.ops [uM 10 6, oA 11 bN [.t 10, (kI 0)]]) (.cond (.t 11) (.seq (.ops [uM 12 6, oA 4 .mov [kE], uM 5 12]) .ret) .skip))) (.seq (.seq (.ops [uO 13 lT9 2, uM 14 1, uB 15 (.call 97) 13 14, uO 16 .not 15]) (.cond (.t 16) (.seq (.ops [oA 4 .mov [kE], oA 5 .mov [(kI 2)]]) .ret) .skip)) (.seq (.ops [uO 17 lT9 2, uO 18 (.call 63) 17, uM 7 18]) (.seq (.seq (.ops [uM 19 7, uO 20 .len 19, oA 21 bE [.t 20, (kI 0)]]) (.cond (.t 21) (.seq (.ops [oA 4 .mov [kE], oA 5 .mov [(kI 11)]]) .ret) .skip)) (.seq (.ops [uM 22 7, uM 4 22, oA 5 .mov [(kI 0)]]) .ret))))))
theorem fc53 : fnC Tryz.prog 53 cert53 = some (23, [.tmp 4, .tmp 5], ac53) := by kernel_rfl
def cert55 : Nat → Option Cert := fun
  | 4 => some ⟨[0, 1, 2, 3, 4, 5, 6, 7], .done, [[], [], [], [1, 2], [1, 2, 3], [], [0, 1, 2, 3, 4, 5], [0, 1, 2, 3, 4, 5, 6]]⟩
  | _ => none
def ac55 : ACode :=(.seq (.ops [uO 3 .box 0, oA 6 .mov [kF]]) (.seq (.seq (.ops [oA 7 .mov [(kI 0)]]) (.block 0 (.loop (.seq (.seq (.ops [uM 8 7, uM 9 1, uO 10 .len 9, uB 11 bL 8 10]) (.cond (.t 11) .skip (.exit 0))) (.seq (.block 1 (.seq (.draw [(false, uO 14 lT9 3), (false, uM 15 1), (false, uM 16 7), (false, uB 17 (.idxaddr 2) 15 16), (false, uO 18 lT2 17), (false, uM 19 2), (false, oA 20 (.call 71) [.t 14, .t 18, .t 19]), (false, uO 21 .not 20)] .done) (.cond (.t 21) (.seq (.ops [oA 6 .mov [kF]]) .ret) .skip))) (.ops [uM 12 7, oA 13 bA [.t 12, (kI 1)], uM 7 13])))))) (.seq (.ops [oA 6 .mov [kT]]) .ret)))
theorem fc55 : fnC Tryz.prog 55 cert55 = some (22, [.tmp 6], ac55) := by kernel_rfl
def cert60 : Nat → Option Cert := fun
  | 4 => some ⟨[0, 1, 2, 3, 4, 5, 6], .done, [[], [], [], [1, 2], [1, 2, 3], [0, 1, 2, 3, 4], [0, 1, 2, 3, 4, 5]]⟩
  | _ => none
def ac60 : ACode :=(.seq (.ops [uO 3 .box 0, oA 6 .mov [kF]]) (.seq (.seq (.ops [oA 7 .mov [(kI 0)]]) (.block 0 (.loop (.seq (.seq (.ops [uM 8 7, uM 9 1, uO 10 .len 9, uB 11 bL 8 10]) (.cond (.t 11) .skip (.exit 0))) (.seq (.block 1 (.seq (.draw [(false, uO 14 lT9 3), (false, uM 15 1), (false, uM 16 7), (false, uB 17 (.idxaddr 1) 15 16), (false, uO 18 lF 17), (false, uB 19 (.call 96) 14 18), (false, uO 20 .not 19)] .done) (.cond (.t 20) (.seq (.ops [oA 6 .mov [kF]]) .ret) .skip))) (.ops [uM 12 7, oA 13 bA [.t 12, (kI 1)], uM 7 13])))))) (.seq (.ops [uM 21 1, uO 22 .len 21, oA 23 (.bin .leq) [.t 22, (kI 3)], uM 24 23, gM 25 2 24 true, gM 26 1 24 true, gO 27 .len 26 24 true, gB 28 bA 25 27 24 true, oG 29 (.bin .sub) [.t 28, (kI 1)] 24 true, gO 30 fA5 3 24 true, gO 31 lF 30 24 true, gB 32 (.bin .leq) 29 31 24 true, oA 33 .pick [.t 24, .t 32, kF], uM 6 33]) .ret)))
theorem fc60 : fnC Tryz.prog 60 cert60 = some (34, [.tmp 6], ac60) := by kernel_rfl
def cert61 : Nat → Option Cert := fun _ => none
def ac61 : ACode :=(.seq (.ops [oA 4 .mov [kE]]) (.seq (.ops [oA 5 .mov [kE]]) (.seq (.seq (.ops [oA 6 .mov [(kI 0)]]) (.block 0 (.loop (.seq (.seq (.ops [uM 7 6, uM 8 0, uO 9 .len 8, uB 10 bL 7 9]) (.cond (.t 10) .skip (.exit 0))) (.seq (.block 1 (.ops [uM 13 5, uM 14 0, uM 15 6, uB 16 (.idxaddr 1) 14 15, uO 17 lF 16, uM 18 1, uM 19 6, uB 20 bA 18 19, uB 21 (.build [(.int .i64 0), (.int .i64 0)] [(0, 1), (1, 1)]) 17 20, uO 22 (.bslice 2) 21, uB 23 (.append 2 16) 13 22, uM 5 23])) (.ops [uM 11 6, oA 12 bA [.t 11, (kI 1)], uM 6 12])))))) (.seq (.ops [uM 24 5, uM 4 24]) .ret))))
theorem fc61 : fnC Tryz.prog 61 cert61 = some (25, [.tmp 4], ac61) := by kernel_rfl
def cert62 : Nat → Option Cert := fun _ => none
def ac62 : ACode :=(.seq (.ops [uO 3 .box 0, oA 6 .mov [kE], oA 7 .mov [kF]]) (.seq (.seq (.ops [oA 8 .mov [(kI 0)]]) (.block 0 (.loop (.seq (.seq (.ops [uM 11 8, oA 12 (.bin .leq) [.t 11, (kI 3)]]) (.cond (.t 12) .skip (.exit 0))) (.seq (.block 1 (.seq (.ops [uO 16 lT9 3, uM 17 1, uM 18 2, uM 19 8, oA 20 (.call 112) [.t 16, .t 17, .t 18, kE, .t 19], uM 15 20, uO 21 x0 15, uO 22 x1 15, uM 9 21, uM 10 22]) (.seq (.ops [uM 23 10]) (.cond (.t 23) (.seq (.ops [uM 24 9, uM 6 24, oA 7 .mov [kT]]) .ret) .skip)))) (.ops [uM 13 8, oA 14 bA [.t 13, (kI 1)], uM 8 14])))))) (.seq (.ops [oA 6 .mov [kE], oA 7 .mov [kF]]) .ret)))
theorem fc62 : fnC Tryz.prog 62 cert62 = some (25, [.tmp 6, .tmp 7], ac62) := by kernel_rfl
def cert63 : Nat → Option Cert := fun
  | 6 => some ⟨[0, 1, 2, 3, 4, 5, 6, 7, 8], .done, [[], [], [], [1, 2], [1, 2, 3], [0, 1, 2, 3, 4], [], [0, 1, 2, 3, 4, 5, 6], [0, 1, 2, 3, 4, 5, 6, 7]]⟩
  | _ => none
def ac63 : ACode :=(.seq (.ops [uO 1 .box 0, oA 2 .mov [kE]]) (.seq (.ops [oA 3 .mov [kE]]) (.seq (.ops [uO 6 lT9 1, uO 7 (.call 36) 6, uM 4 7]) (.seq (.seq (.ops [oA 5 .mov [(kI 0)]]) (.block 0 (.loop (.seq (.seq (.ops [uM 8 5, uM 9 4, uO 10 .len 9, uB 11 bL 8 10]) (.cond (.t 11) .skip (.exit 0))) (.seq (.block 1 (.seq (.draw [(false, uO 14 lT9 1), (false, uM 15 4), (false, uM 16 5), (false, uB 17 (.idxaddr 2) 15 16), (false, uO 18 lT2 17), (false, uB 19 (.call 86) 14 18), (false, uO 20 lT9 1), (false, uO 21 (.call 49) 20), (false, uB 22 bE 19 21)] .done) (.cond (.t 22) (.ops [uM 23 3, uM 24 4, uM 25 5, uB 26 (.idxaddr 2) 24 25, uO 27 lT2 26, uO 28 (.bslice 2) 27, uB 29 (.append 2 48) 23 28, uM 3 29]) .skip))) (.ops [uM 12 5, oA 13 bA [.t 12, (kI 1)], uM 5 13])))))) (.seq (.ops [uM 30 3, uM 2 30]) .ret)))))
theorem fc63 : fnC Tryz.prog 63 cert63 = some (31, [.tmp 2], ac63) := by kernel_rfl
def cert69 : Nat → Option Cert := fun
  | 1 => some ⟨[0, 1, 2, 3, 4, 6, 8, 9], (.one 5 (.one 7 (.one 10 (.one 11 .done)))), [[], [], [], [], [3], [2, 3, 4], [], [2, 3, 4, 5, 6], [], [8], [0, 1, 2, 3, 4, 5, 6, 7, 8, 9], [0, 1, 2, 3, 4, 5, 6, 7, 8, 9, 10]]⟩
  | _ => none
def ac69 : ACode :=(.seq (.ops [uO 3 .box 0, uO 4 .box 1, oA 6 .mov [(kI 0)]]) (.seq (.draw [(true, uO 7 lT9 3), (true, uO 8 lT2 4), (false, oA 9 (.bslice 2) []), (false, uO 10 fA7 3), (false, uO 11 lF 10), (true, uM 13 2), (true, uO 15 fA5 3), (true, uO 16 lF 15)] (.one (uB 12 (.append 2 16) 9 11) [uO 7 lT9 3, uO 8 lT2 4, uO 16 lF 15] (.one (uB 14 (.append 2 16) 12 13) [uO 7 lT9 3, uO 8 lT2 4, uO 16 lF 15] (.one (oA 17 (.call 123) [.t 7, .t 8, .t 14, .t 16]) [] (.one (uM 6 17) [] .done))))) .ret))
theorem fc69 : fnC Tryz.prog 69 cert69 = some (18, [.tmp 6], ac69) := by kernel_rfl
def cert71 : Nat → Option Cert := fun _ => none
def ac71 : ACode :=(.seq (.ops [uO 3 .box 0, uO 4 .box 1, oA 6 .mov [kF]]) (.seq (.ops [uO 9 lT9 3, uO 10 lT2 4, uM 11 2, oA 12 (.call 69) [.t 9, .t 10, .t 11], uM 7 12]) (.seq (.seq (.ops [oA 8 .mov [(kI 0)]]) (.block 0 (.loop (.seq (.seq (.ops [uM 13 8, uO 14 fA0 3, uO 15 fA0 14, uO 16 lF 15, uO 17 .len 16, uB 18 bL 13 17]) (.cond (.t 18) .skip (.exit 0))) (.seq (.block 1 (.seq (.ops [uO 21 lT9 3, uO 22 lT2 4, uM 23 7, uM 24 8, oA 25 (.call 82) [.t 21, .t 22, .t 23, .t 24]]) (.cond (.t 25) (.seq (.ops [oA 6 .mov [kF]]) .ret) .skip))) (.ops [uM 19 8, oA 20 bA [.t 19, (kI 1)], uM 8 20])))))) (.seq (.ops [oA 6 .mov [kT]]) .ret))))
theorem fc71 : fnC Tryz.prog 71 cert71 = some (26, [.tmp 6], ac71) := by kernel_rfl
end Go.Lift
set_option maxRecDepth 100000
set_option linter.unusedVariables false
namespace Go.Lift
open Go Go.Proofs
def cert82 : Nat → Option Cert := fun _ => none
def ac82 : ACode :=(.seq (.ops [uO 4 .box 0, uO 5 .box 1, oA 8 .mov [kF]]) (.seq (.seq (.ops [uO 10 fA3 4, uO 11 lF 10, uM 12 3, uB 13 (.call 40) 11 12]) (.cond (.t 13) (.seq (.ops [oA 8 .mov [kF]]) .ret) .skip)) (.seq (.seq (.ops [oA 9 .mov [(kI 0)]]) (.block 0 (.loop (.seq (.seq (.ops [uM 14 9, uO 15 fA0 5, uO 16 lF 15, uO 17 .len 16, uB 18 bL 14 17]) (.cond (.t 18) .skip (.exit 0))) (.seq (.block 1 (.seq (.ops [uO 21 fA0 5, uO 22 lF 21, uM 23 9, uB 24 (.idxaddr 1) 22 23, uO 25 lF 24, uM 26 3, uB 27 bE 25 26, uM 28 27, gM 29 2 28 true, gM 30 9 28 true, gO 31 (.conv .u64) 30 28 true, oG 32 (.bin .shl) [(kI 1), .t 31] 28 true, gB 33 (.bin .and) 29 32 28 true, oG 34 bN [.t 33, (kI 0)] 28 true, oA 35 .pick [.t 28, .t 34, kF]]) (.cond (.t 35) (.seq (.ops [oA 8 .mov [kT]]) .ret) .skip))) (.ops [uM 19 9, oA 20 bA [.t 19, (kI 1)], uM 9 20])))))) (.seq (.ops [oA 8 .mov [kF]]) .ret))))
theorem fc82 : fnC Tryz.prog 82 cert82 = some (36, [.tmp 8], ac82) := by kernel_rfl
def cert86 : Nat → Option Cert := fun
  | 5 => some ⟨[0, 1, 2, 3, 4, 5, 6, 7, 8, 9, 10, 11, 12, 13, 14, 15, 16, 17], .done, [[], [], [1], [], [1, 2, 3], [1, 2, 3, 4], [1, 2, 3, 4, 5], [1, 2, 3, 4, 5, 6], [1, 2, 3, 4, 5, 6, 7], [0, 1, 2, 3, 4, 5, 6, 7, 8], [0, 1, 2, 3, 4, 5, 6, 7, 8, 9], [], [11], [], [11, 12, 13], [11, 12, 13, 14], [11, 12, 13, 14, 15], [0, 1, 2, 3, 4, 5, 6, 7, 8, 9, 10, 11, 12, 13, 14, 15, 16]]⟩
  | _ => none
def ac86 : ACode :=(.seq (.ops [uO 2 .box 0, uO 3 .box 1, oA 4 .mov [(kI 0)]]) (.seq (.ops [uO 8 lT9 2, uO 9 lT2 3, oA 10 (.call 69) [.t 8, .t 9, kE], oA 5 .mov [(kI 0)], uM 6 10]) (.seq (.seq (.ops [oA 7 .mov [(kI 0)]]) (.block 0 (.loop (.seq (.seq (.ops [uM 11 7, uO 12 fA8 2, uO 13 lF 12, uO 14 .len 13, uB 15 bL 11 14]) (.cond (.t 15) .skip (.exit 0))) (.seq (.block 1 (.seq (.draw [(false, uM 18 6), (false, uO 19 fA8 2), (false, uO 20 lF 19), (false, uM 21 7), (false, uB 22 (.idxaddr 2) 20 21), (false, uO 23 fA0 22), (false, uO 24 lF 23), (false, uO 25 (.conv .u64) 24), (false, oA 26 (.bin .shl) [(kI 1), .t 25]), (false, uB 27 (.bin .and) 18 26), (false, oA 28 bN [.t 27, (kI 0)]), (false, uO 29 fA8 2), (false, uO 30 lF 29), (false, uM 31 7), (false, uB 32 (.idxaddr 2) 30 31), (false, uO 33 fA1 32), (false, uO 34 lF 33), (false, uB 35 (.binb .eql) 28 34)] .done) (.cond (.t 35) (.ops [uM 36 5, uM 37 7, uO 38 (.conv .u64) 37, oA 39 (.bin .shl) [(kI 1), .t 38], uB 40 (.bin .or) 36 39, uM 5 40]) .skip))) (.ops [uM 16 7, oA 17 bA [.t 16, (kI 1)], uM 7 17])))))) (.seq (.ops [uM 41 5, uM 4 41]) .ret))))
theorem fc86 : fnC Tryz.prog 86 cert86 = some (42, [.tmp 4], ac86) := by kernel_rfl
def cert90 : Nat → Option Cert := fun
  | 7 => some ⟨[0, 1, 2, 3, 4, 5, 6, 7], (.one 8 (.one 9 .done)), [[], [], [1], [], [], [3, 4], [1, 2, 3, 4, 5], [1, 2, 3, 4, 5, 6], [0, 1, 2, 3, 4, 5, 6, 7], [0, 1, 2, 3, 4, 5, 6, 7, 8]]⟩
  | _ => none
def ac90 : ACode :=(.seq (.ops [uO 2 .box 0, oA 4 .mov [kE]]) (.seq (.ops [oA 5 .mov [kE]]) (.seq (.seq (.ops [oA 6 .mov [(kI 0)]]) (.block 0 (.loop (.seq (.seq (.ops [uM 9 6, uO 10 fA6 2, uO 11 lF 10, uO 12 .len 11, uB 13 bL 9 12]) (.cond (.t 13) .skip (.exit 0))) (.seq (.block 1 (.seq (.ops [uO 16 fA6 2, uO 17 lF 16, uM 18 6, uB 19 (.idxaddr 4) 17 18, uO 20 fA2 19, uO 21 lT2 20, oA 7 (.alloc [(.int .i64 0), (.int .i64 0)]) [], oZ (.store 2) [.t 7, .t 21]]) (.seq (.ops [uO 22 fA1 7, uO 23 lF 22, uO 24 fA0 7, uO 25 lF 24, uB 26 (.bin .sub) 23 25, oA 27 bA [.t 26, (kI 1)], uM 8 27]) (.seq (.draw [(false, uM 28 5), (false, uO 29 fA0 7), (false, uO 30 lF 29), (false, uM 31 1), (false, uM 32 8), (false, uB 33 (.bin .rem) 31 32), (false, uB 34 bA 30 33), (false, uO 35 (.bslice 1) 34)] (.one (uB 36 (.append 1 8) 28 35) [] (.one (uM 5 36) [] .done))) (.ops [uM 37 1, uM 38 8, uB 39 (.bin .quo) 37 38, uM 1 39]))))) (.ops [uM 14 6, oA 15 bA [.t 14, (kI 1)], uM 6 15])))))) (.seq (.ops [uM 40 5, uM 4 40]) .ret))))
theorem fc90 : fnC Tryz.prog 90 cert90 = some (41, [.tmp 4], ac90) := by kernel_rfl
def cert112 : Nat → Option Cert := fun
  | 2 => some ⟨[0, 1, 2, 3, 4, 5, 6, 7, 8, 9, 10, 11, 12, 13, 14], .done, [[], [], [], [], [1, 2, 3], [1, 2, 3, 4], [1, 2, 3, 4, 5], [1, 2, 3, 4, 5], [1, 2, 3, 4, 5], [1, 2, 3, 4, 5], [1, 2, 3, 4, 5, 8, 9], [1, 2, 3, 4, 5, 6, 7, 8, 9, 10], [1, 2, 3, 4, 5, 6, 7, 8, 9, 10, 11], [0, 1, 2, 3, 4, 5, 6, 7, 8, 9, 10, 11], [0, 1, 2, 3, 4, 5, 6, 7, 8, 9, 10, 11, 12, 13]]⟩
  | 6 => some ⟨[0, 1, 2, 3, 4, 6, 7, 9, 10], (.one 5 (.one 8 (.one 11 (.one 12 (.alt (.one 13 (.alt (.one 14 (.one 15 (.one 16 .done))) (.one 15 (.one 14 (.one 16 .done))))) (.one 14 (.one 13 (.one 15 (.one 16 .done))))))))), [[], [], [], [], [], [3, 4], [], [6], [3, 4, 5, 6, 7], [], [9], [0, 1, 2, 3, 4, 5, 6, 7, 8, 9, 10], [0, 1, 2, 3, 4, 5, 6, 7, 8, 9, 10, 11], [0, 1, 2, 3, 4, 5, 6, 7, 8, 9, 10, 11, 12], [0, 1, 2, 3, 4, 5, 6, 7, 8, 9, 10, 11, 12], [0, 1, 2, 3, 4, 5, 6, 7, 8, 9, 10, 11, 12, 13], [0, 1, 2, 3, 4, 5, 6, 7, 8, 9, 10, 11, 12, 13, 14, 15]]⟩
  | _ => none
def ac112 : ACode :=(.seq (.ops [uO 5 .box 0, oA 10 .mov [kE], oA 11 .mov [kF]]) (.seq (.seq (.ops [uM 15 4, oA 16 bE [.t 15, (kI 0)]]) (.cond (.t 16) (.seq (.draw [(false, uM 17 3), (false, uO 18 lT9 5), (false, uM 19 3), (false, uM 20 2), (false, oA 21 (.call 60) [.t 18, .t 19, .t 20]), (false, uM 22 21), (false, gO 23 lT9 5 22 true), (false, gM 24 1 22 true), (false, gM 25 3 22 true), (false, gM 26 2 22 true), (false, gB 27 (.call 61) 25 26 22 true), (false, oG 28 (.call 55) [.t 23, .t 24, .t 27] 22 true), (false, oA 29 .pick [.t 22, .t 28, kF]), (false, uM 10 17), (false, uM 11 29)] .done) .ret) .skip)) (.seq (.seq (.ops [oA 12 .mov [(kI 0)]]) (.block 0 (.loop (.seq (.seq (.ops [uM 30 12, uO 31 lT9 5, uO 32 (.call 25) 31, uB 33 bL 30 32]) (.cond (.t 33) .skip (.exit 0))) (.seq (.block 1 (.seq (.draw [(true, uO 37 lT9 5), (true, uM 38 1), (true, uM 39 2), (false, oA 40 (.bslice 1) []), (false, uM 41 3), (true, uM 43 12), (true, uO 44 (.bslice 1) 43), (true, uM 46 4), (true, oA 47 (.bin .sub) [.t 46, (kI 1)])] (.one (uB 42 (.append 1 8) 40 41) [uO 37 lT9 5] (.one (uB 45 (.append 1 8) 42 44) [uO 37 lT9 5] (.one (oA 48 (.call 112) [.t 37, .t 38, .t 39, .t 45, .t 47]) [] (.one (uM 36 48) [] (.alt (.one (uO 49 x0 36) [] (.alt (.one (uO 50 x1 36) [] (.one (uM 13 49) [] (.one (uM 14 50) [] .done))) (.one (uM 13 49) [] (.one (uO 50 x1 36) [] (.one (uM 14 50) [] .done))))) (.one (uO 50 x1 36) [] (.one (uO 49 x0 36) [] (.one (uM 13 49) [] (.one (uM 14 50) [] .done)))))))))) (.seq (.ops [uM 51 14]) (.cond (.t 51) (.seq (.ops [uM 52 13, uM 10 52, oA 11 .mov [kT]]) .ret) .skip)))) (.ops [uM 34 12, oA 35 bA [.t 34, (kI 1)], uM 12 35])))))) (.seq (.ops [oA 10 .mov [kE], oA 11 .mov [kF]]) .ret))))
theorem fc112 : fnC Tryz.prog 112 cert112 = some (53, [.tmp 10, .tmp 11], ac112) := by kernel_rfl
def cert123 : Nat → Option Cert := fun
  | 6 => some ⟨[0, 1, 2, 3, 4, 5, 6, 7], .done, [[], [0], [], [2], [], [2, 3, 4], [2, 3, 4, 5], [0, 1, 2, 3, 4, 5, 6]]⟩
  | 18 => some ⟨[0, 1, 2, 3, 4, 5, 6, 7, 8, 9, 10, 11, 12, 13, 14, 15, 16, 17], .done, [[], [0], [], [0, 1, 2], [0, 1, 2, 3], [0, 1, 2, 3, 4], [0, 1, 2, 3, 4, 5], [0, 1, 2, 3, 4, 5, 6], [], [8], [], [8, 9, 10], [8, 9, 10, 11], [8, 9, 10, 11, 12], [8, 9, 10, 11, 12, 13], [8, 9, 10, 11, 12, 13, 14], [0, 1, 2, 3, 4, 5, 6, 7, 8, 9, 10, 11, 12, 13, 14, 15], [0, 1, 2, 3, 4, 5, 6, 7, 8, 9, 10, 11, 12, 13, 14, 15, 16]]⟩
  | _ => none
def ac123 : ACode :=(.seq (.ops [uO 4 .box 0, uO 5 .box 1, oA 8 .mov [(kI 0)]]) (.seq (.ops [oA 9 .mov [(kI 0)]]) (.seq (.seq (.ops [uM 14 3, oA 15 bL [.t 14, (kI 0)]]) (.cond (.t 15) (.seq (.seq (.ops [oA 10 .mov [(kI 0)]]) (.block 0 (.loop (.seq (.seq (.ops [uM 16 10, uO 17 fA0 5, uO 18 lF 17, uO 19 .len 18, uB 20 bL 16 19]) (.cond (.t 20) .skip (.exit 0))) (.seq (.block 1 (.seq (.draw [(false, uO 23 fA3 4), (false, uO 24 lF 23), (false, uO 25 fA0 5), (false, uO 26 lF 25), (false, uM 27 10), (false, uB 28 (.idxaddr 1) 26 27), (false, uO 29 lF 28), (false, uB 30 (.call 40) 24 29)] .done) (.cond (.t 30) (.ops [uM 31 9, uM 32 10, uO 33 (.conv .u64) 32, oA 34 (.bin .shl) [(kI 1), .t 33], uB 35 (.bin .or) 31 34, uM 9 35]) .skip))) (.ops [uM 21 10, oA 22 bA [.t 21, (kI 1)], uM 10 22])))))) (.seq (.ops [uM 36 9, uM 8 36]) .ret)) .skip)) (.seq (.ops [uO 37 lT9 4, uO 38 lT2 5, uM 39 2, uM 40 3, oA 41 (.bin .sub) [.t 40, (kI 1)], oA 42 (.call 123) [.t 37, .t 38, .t 39, .t 41], uM 9 42]) (.seq (.seq (.ops [oA 11 .mov [(kI 0)]]) (.block 2 (.loop (.seq (.seq (.ops [uM 43 11, uO 44 lT9 4, uO 45 (.call 25) 44, uB 46 bL 43 45]) (.cond (.t 46) .skip (.exit 2))) (.seq (.block 3 (.seq (.ops [uM 49 2, uM 50 11, uM 51 3, oA 52 (.call 151) [.t 49, .t 50, .t 51]]) (.cond (.t 52) (.ops [uM 53 9, uM 54 11, uO 55 (.conv .u64) 54, oA 56 (.bin .shl) [(kI 1), .t 55], uB 57 (.bin .andNot) 53 56, uM 9 57]) .skip))) (.ops [uM 47 11, oA 48 bA [.t 47, (kI 1)], uM 11 48])))))) (.seq (.seq (.ops [oA 12 .mov [(kI 0)]]) (.block 4 (.loop (.seq (.seq (.ops [uM 58 12, uO 59 fA6 4, uO 60 lF 59, uO 61 .len 60, uB 62 bL 58 61]) (.cond (.t 62) .skip (.exit 4))) (.seq (.block 5 (.seq (.draw [(false, uO 65 fA6 4), (false, uO 66 lF 65), (false, uM 67 12), (false, uB 68 (.idxaddr 4) 66 67), (false, uO 69 fA0 68), (false, uO 70 lF 69), (false, uO 71 (.conv .u64) 70), (false, oA 72 (.bin .shl) [(kI 1), .t 71]), (false, uO 73 fA6 4), (false, uO 74 lF 73), (false, uM 75 12), (false, uB 76 (.idxaddr 4) 74 75), (false, uO 77 fA1 76), (false, uO 78 lF 77), (false, uO 79 (.conv .u64) 78), (false, oA 80 (.bin .shl) [(kI 1), .t 79]), (false, uB 81 (.bin .or) 72 80), (false, uM 13 81)] .done) (.seq (.ops [uO 82 fA1 5, uO 83 lF 82, uM 84 12, uB 85 (.idxaddr 1) 83 84, uO 86 lF 85, uM 87 3, uB 88 bE 86 87, uM 89 88, gM 90 9 89 true, gM 91 13 89 true, gB 92 (.bin .and) 90 91 89 true, oG 93 bN [.t 92, (kI 0)] 89 true, oA 94 .pick [.t 89, .t 93, kF]]) (.cond (.t 94) (.ops [uM 95 9, uM 96 13, uB 97 (.bin .or) 95 96, uM 9 97]) .skip)))) (.ops [uM 63 12, oA 64 bA [.t 63, (kI 1)], uM 12 64])))))) (.seq (.ops [uM 98 9, uM 8 98]) .ret)))))))
theorem fc123 : fnC Tryz.prog 123 cert123 = some (99, [.tmp 8], ac123) := by kernel_rfl
def cert151 : Nat → Option Cert := fun _ => none
def ac151 : ACode :=(.seq (.ops [oA 6 .mov [kF]]) (.seq (.seq (.ops [oA 7 .mov [(kI 0)]]) (.block 0 (.loop (.seq (.seq (.ops [uM 8 7, uM 9 0, uO 10 .len 9, uB 11 bL 8 10]) (.cond (.t 11) .skip (.exit 0))) (.seq (.block 1 (.seq (.ops [uM 14 0, uM 15 7, uB 16 (.idxaddr 2) 14 15, uO 17 fA0 16, uO 18 lF 17, uM 19 1, uB 20 bE 18 19, uM 21 20, gM 22 0 21 true, gM 23 7 21 true, gB 24 (.idxaddr 2) 22 23 21 true, gO 25 fA1 24 21 true, gO 26 lF 25 21 true, gM 27 2 21 true, gB 28 bE 26 27 21 true, oA 29 .pick [.t 21, .t 28, kF]]) (.cond (.t 29) (.seq (.ops [oA 6 .mov [kT]]) .ret) .skip))) (.ops [uM 12 7, oA 13 bA [.t 12, (kI 1)], uM 7 13])))))) (.seq (.ops [oA 6 .mov [kF]]) .ret)))
theorem fc151 : fnC Tryz.prog 151 cert151 = some (30, [.tmp 6], ac151) := by kernel_rfl
end Go.Lift
set_option linter.unusedSimpArgs false
set_option linter.unusedVariables false
namespace Go.Lift
open Go Go.Proofs
theorem w_and {a b : Nat} (ha : a < 2 ^ 62) (hb : b < 2 ^ 62) : IntKind.i64.wrap (((BitVec.ofInt IntKind.i64.bits (a : Int) &&& BitVec.ofInt IntKind.i64.bits (b : Int)).toNat : Nat) : Int) = ((a &&& b : Nat) : Int) := by
  have h1 : (BitVec.ofInt IntKind.i64.bits (a : Int) &&& BitVec.ofInt IntKind.i64.bits (b : Int)).toNat = a &&& b := by
    rw [bv_nat, bv_nat]
    show (BitVec.ofNat 64 a &&& BitVec.ofNat 64 b).toNat = _
    rw [BitVec.toNat_and, BitVec.toNat_ofNat, BitVec.toNat_ofNat, Nat.mod_eq_of_lt (by omega), Nat.mod_eq_of_lt (by omega)]
  have h2 := Nat.and_lt_two_pow a hb
  rw [h1, w64 (by omega) (by omega)]
end Go.Lift

set_option linter.unusedSimpArgs false
set_option linter.unusedVariables false
namespace Go.Lift
open Go Go.Proofs
def beforeL : List Int → List Int → Bool
  | a :: xs, b :: bs => if a = b then beforeL xs bs else decide (a < b)
  | [], bs => decide (0 < bs.length)
  | _ :: _, [] => false
def shorterL (a b : List Int) : Bool := decide (a.length < b.length) || (decide (a.length = b.length) && beforeL a b)
end Go.Lift

set_option linter.unusedSimpArgs false
set_option linter.unusedVariables false
namespace Go.Lift
open Go Go.Proofs
theorem natOf_set_t {c : List Bool} {i : Nat} (h : i < c.length) : natOf (c.set i true) = natOf c ||| 2 ^ i := by
  apply Nat.eq_of_testBit_eq
  intro j
  rw [Nat.testBit_or, natOf_bit, natOf_bit, Nat.testBit_two_pow, List.getD_eq_getElem?_getD, List.getElem?_set]
  by_cases hij : i = j
  · subst hij; simp [h]
  · simp [hij, List.getD_eq_getElem?_getD]
theorem natOf_set_f {c : List Bool} {i : Nat} (h : i < c.length) : natOf (c.set i false) = andN (natOf c) (2 ^ i) := by
  apply Nat.eq_of_testBit_eq
  intro j
  rw [andN_bit, natOf_bit, natOf_bit, Nat.testBit_two_pow, List.getD_eq_getElem?_getD, List.getElem?_set]
  by_cases hij : i = j
  · subst hij; simp [h]
  · simp [hij, List.getD_eq_getElem?_getD]
theorem natOf_and {c : List Bool} {i : Nat} : natOf c &&& 2 ^ i ≠ 0 ↔ c.getD i false = true := by
  rw [← natOf_bit]
  constructor
  · intro h
    cases hb : (natOf c).testBit i
    · exfalso; apply h
      apply Nat.eq_of_testBit_eq
      intro j
      rw [Nat.testBit_and, Nat.testBit_two_pow, Nat.zero_testBit]
      by_cases hij : i = j
      · subst hij; simp [hb]
      · simp [hij]
    · rfl
  · intro h h0
    have := congrArg (fun n => n.testBit i) h0
    simp [Nat.testBit_and, Nat.testBit_two_pow, h] at this
theorem natOf_and2 {c : List Bool} {a b : Nat} : natOf c &&& (2 ^ a ||| 2 ^ b) ≠ 0 ↔ (c.getD a false || c.getD b false) = true := by
  have h1 : natOf c &&& (2 ^ a ||| 2 ^ b) = (natOf c &&& 2 ^ a) ||| (natOf c &&& 2 ^ b) := Nat.and_or_distrib_left ..
  rw [h1, Bool.or_eq_true, ← natOf_and, ← natOf_and]
  generalize natOf c &&& 2 ^ a = x
  generalize natOf c &&& 2 ^ b = y
  constructor
  · intro h
    by_cases hx : x = 0
    · right; intro hy; apply h; rw [hx, hy]; rfl
    · exact .inl hx
  · intro h h0
    have := Nat.or_eq_zero_iff.1 h0
    rcases h with h | h
    · exact h this.1
    · exact h this.2
theorem isBoiled_c (l : List Boiling) (n k : Int) (hl : Sm l.length) : Pure Tryz.prog 151 [.slice (l.map eB), i6 n, i6 k] (.bool (decide ((n, k) ∈ l.map bKey))) := by
  intro H
  unfold Sm at hl
  refine fn_of hmix fc151 (by simp) ?_
  rw [ienv3]
  simp only [go_sem, reduceIte, reduceCtorEq, Nat.reduceEqDiff, Nat.reduceBEq, Nat.reduceAdd, Nat.reduceMul, Nat.reduceLeDiff, ac151]
  refine x_for l.length (fun j env H1 => H1 = H ∧ (n, k) ∉ (l.take j).map bKey ∧ env 0 = .slice (l.map eB) ∧ env 1 = i6 n ∧ env 2 = i6 k ∧ env 7 = i6 j ∧ env 30 = .any) (by simp [upd_at]) ?_
  rintro j env H1 hj ⟨rfl, hq, g0, g1, g2, g7, hN⟩
  by_cases hlt : (j : Int) < (l.length : Int)
  · have hlt' : j < l.length := by omega
    have hsn : (n, k) ∈ (l.take (j + 1)).map bKey ↔ (n, k) ∈ (l.take j).map bKey ∨ (l[j].thing = n ∧ l[j].hour = k) := by
      rw [take_snoc hlt', List.map_append, List.mem_append]
      simp only [List.map_cons, List.map_nil, List.mem_singleton, bKey, Prod.mk.injEq]
      constructor <;> rintro (h | ⟨h1, h2⟩)
      · exact .inl h
      · exact .inr ⟨h1.symm, h2.symm⟩
      · exact .inl h
      · exact .inr ⟨h1.symm, h2.symm⟩
    by_cases c1 : l[j].thing = n
    · by_cases c2 : l[j].hour = k
      · simp only [go_sem, reduceIte, reduceCtorEq, Nat.reduceEqDiff, Nat.reduceBEq, Nat.reduceAdd, Nat.reduceMul, Nat.reduceLeDiff, g0, g1, g2, g7, hN, hlt, map_get (f := eB) hlt', eB, take_f', List.getElem?_cons_zero, List.getElem?_cons_succ, c1, c2]
        refine fin_ret' 6 (by simp [upd_at, hN]) ?_
        simp only [upd_at, if_true, and_true, AV.bool.injEq]
        symm; rw [decide_eq_true_eq]
        have h1 := hsn.2 (.inr ⟨c1, c2⟩)
        rw [List.mem_map] at h1 ⊢
        obtain ⟨x, hx, hx2⟩ := h1
        exact ⟨x, List.mem_of_mem_take hx, hx2⟩
      · simp only [go_sem, reduceIte, reduceCtorEq, Nat.reduceEqDiff, Nat.reduceBEq, Nat.reduceAdd, Nat.reduceMul, Nat.reduceLeDiff, g0, g1, g2, g7, hN, hlt, map_get (f := eB) hlt', eB, take_f', List.getElem?_cons_zero, List.getElem?_cons_succ, c1, c2, wsucc (show j < 4611686018427387904 by omega), hlt']
        intro h; rcases hsn.1 h with h | h
        · exact hq h
        · exact c2 h.2
    · simp only [go_sem, reduceIte, reduceCtorEq, Nat.reduceEqDiff, Nat.reduceBEq, Nat.reduceAdd, Nat.reduceMul, Nat.reduceLeDiff, g0, g1, g2, g7, hN, hlt, map_get (f := eB) hlt', eB, take_f', List.getElem?_cons_zero, c1, wsucc (show j < 4611686018427387904 by omega), hlt']
      intro h; rcases hsn.1 h with h | h
      · exact hq h
      · exact c1 h.1
  · simp only [go_sem, reduceIte, reduceCtorEq, Nat.reduceEqDiff, Nat.reduceBEq, Nat.reduceAdd, Nat.reduceMul, Nat.reduceLeDiff, g0, g1, g2, g7, hN, hlt]
    have : j = l.length := by omega
    subst this
    rw [List.take_length] at hq
    refine fin_ret' 6 (by simp [upd_at, hN]) ?_
    simp only [upd_at, if_true, and_true, AV.bool.injEq]
    exact (decide_eq_false hq).symm
theorem startOf_out (h : House) (o : List Int) : ∀ (j i : Nat), j ≤ i → (startOf h o j).getD i false = false
  | 0, i, _ => by simp only [startOf, List.range_zero, List.foldl_nil]; rw [List.getD_eq_getElem?_getD, List.getElem?_replicate]; split <;> rfl
  | j + 1, i, hi => by
    have ih := startOf_out h o j i (by omega)
    simp only [startOf, range_fold]
    rw [sickAt, List.getD_eq_getElem?_getD, List.getElem?_set_ne (by omega), ← List.getD_eq_getElem?_getD]
    exact ih
theorem startOf_nat (h : House) (o : List Int) (j : Nat) (hj : j < 10) : natOf (startOf h o (j + 1)) = if o.getD j 0 ∈ h.sick then natOf (startOf h o j) ||| 2 ^ j else natOf (startOf h o j) := by
  have hl := startOf_len h o j
  have h1 : startOf h o (j + 1) = (startOf h o j).set j (decide (o.getD j 0 ∈ h.sick)) := by simp only [startOf, range_fold]; rfl
  rw [h1]
  by_cases hm : o.getD j 0 ∈ h.sick
  · rw [if_pos hm, decide_eq_true hm, natOf_set_t (by omega)]
  · rw [if_neg hm, decide_eq_false hm, natOf_set_f (by omega)]
    apply Nat.eq_of_testBit_eq
    intro i
    rw [andN_bit, Nat.testBit_two_pow, natOf_bit]
    by_cases hij : j = i
    · subst hij; rw [startOf_out h o j j (Nat.le_refl _)]; rfl
    · simp [hij]
theorem pad6_get (l : List Int) (i : Nat) (h : i < l.length) : (pad6 l).getD i 0 = l[i] := by
  rw [pad6, List.getD_eq_getElem?_getD, List.getElem?_append_left h]; simp [h]
theorem carriers_c (h : House) (hv : HV h) (c : Course) (hc : CLen h c) (l : List Boiling) (hl : Sm l.length) :
    ∀ k : Nat, k ≤ 6 → Pure Tryz.prog 123 [eH h, eC c, .slice (l.map eB), i6 ((k : Int) - 1)] (i6 (natOf (hoursOf h (pad7 c.owners) (pad6 c.hours) (l.map bKey) k) : Nat)) := by
  have hp7 := hv.ok.pcs
  have hm6 := hv.ok.touches
  have h7 : c.owners.length ≤ 7 := by have := hc.own; omega
  have hnT := nT_le hv.ok
  intro k
  induction k with
  | zero =>
    intro _ H
    refine fn_of hmix fc123 (by simp) ?_
    rw [ienv4]
    simp only [go_sem, reduceIte, reduceCtorEq, Nat.reduceEqDiff, Nat.reduceBEq, Nat.reduceAdd, Nat.reduceMul, Nat.reduceLeDiff, ac123, eH, eC, show (((0 : Nat) : Int) - 1 < 0) by omega]
    refine v_box _ rfl fun b4 hb4 => ?_
    simp only [go_sem, reduceIte, reduceCtorEq, Nat.reduceEqDiff, Nat.reduceBEq, Nat.reduceAdd, Nat.reduceMul, Nat.reduceLeDiff, show (((0 : Nat) : Int) - 1 < 0) by omega]
    refine v_box _ rfl fun b5 hb5 => ?_
    have n45 : b4 ≠ b5 := fun h => by subst h; simp at hb5
    simp only [go_sem, reduceIte, reduceCtorEq, Nat.reduceEqDiff, Nat.reduceBEq, Nat.reduceAdd, Nat.reduceMul, Nat.reduceLeDiff, show (((0 : Nat) : Int) - 1 < 0) by omega]
    have e2 := ((Ext.refl H).new hb4 (.box [.slice (h.table.women.map eW), .slice (h.table.pieces.map eP), i6 h.table.wrong, .slice (eI h.sick), i6 h.others, i6 h.last, .slice (h.touches.map eTo), .slice (h.boiled.map eB), .slice (h.signs.map eS)])).new hb5 (.box [.slice (eI c.owners), .slice (eI c.hours)])
    refine x_for c.owners.length (fun j env H1 => Ext H H1 ∧ H1 b4 = some (.box [.slice (h.table.women.map eW), .slice (h.table.pieces.map eP), i6 h.table.wrong, .slice (eI h.sick), i6 h.others, i6 h.last, .slice (h.touches.map eTo), .slice (h.boiled.map eB), .slice (h.signs.map eS)]) ∧ H1 b5 = some (.box [.slice (eI c.owners), .slice (eI c.hours)]) ∧ env 4 = .ptr b4 0 ∧ env 5 = .ptr b5 0 ∧ env 9 = i6 (natOf (startOf h (pad7 c.owners) j) : Nat) ∧ env 10 = i6 j ∧ env 99 = .any)
      ⟨e2, by rw [updH_ne _ _ n45]; exact updH_same _ _ _, updH_same _ _ _, by simp [upd_at], by simp [upd_at], by simp [upd_at, startOf, natOf], by simp [upd_at], by simp [upd_at]⟩ ?_
    rintro j env H1 hj ⟨hE, hB4, hB5, g4, g5, g9, g10, hN⟩
    by_cases hlt : (j : Int) < (c.owners.length : Int)
    · have hlt' : j < c.owners.length := by omega
      have hgo : (pad7 c.owners).getD j 0 = c.owners[j] := by rw [pad7_get _ _ hlt']; simp [hlt']
      have hst := startOf_nat h (pad7 c.owners) j (by omega)
      rw [hgo] at hst
      simp only [go_sem, reduceIte, reduceCtorEq, Nat.reduceEqDiff, Nat.reduceBEq, Nat.reduceAdd, Nat.reduceMul, Nat.reduceLeDiff, g4, g5, g9, g10, hN, hB4, hB5, hlt, take_f', List.getElem?_cons_zero, eI_get hlt']
      refine pgo_call (has_c h.sick c.owners[j] hv.ok.sk) ?_
      by_cases hm : c.owners[j] ∈ h.sick
      · have hor := w_or (natOf_lt62 (c := startOf h (pad7 c.owners) j) (by rw [startOf_len]; omega)) (two_lt (show j < 62 by omega))
        simp only [↓aops_nil, ↓aops_go, ↓aops_go0, ↓aops_if, ↓k_cont, ↓k_cont0, g_tt, g_ff, g_tf, g_ft, g_u, ↓apre_nil, ↓apre_if, ↓apre_go, pgo_det, Tag.isCall, popt_some, gp_tt, gp_ff, gp_tf, gp_ft, gp_u, ↓k_draw, opt_some, List.map_cons, List.map_nil, ev, upd_at, ↓x_skip, ↓x_label, ↓x_ret, ↓x_exit, ↓x_seq, ↓x_block, ↓x_ops, ↓x_cond, x_sel_t, x_sel_f, ↓x_draw, ↓q_kseq_n, ↓q_kseq_r, ↓q_kseq_e, ↓q_block_n, ↓q_block_r, ↓q_block_e, ↓q_loop_n, ↓q_loop_r, ↓q_loop_e, ↓l_done, d_mov, d_pick, d_not, d_nilchk, d_nilchk', d_conv, d_add, d_sub, d_mul, d_quo, d_rem, d_shl, d_shr, d_and, d_or, d_andnot, d_eql, d_neq, d_lss, d_leq, d_gtr, d_geq, d_eqb, d_neqb, d_mkfunc, d_load, d_fieldaddr, d_fieldaddr', d_field_t, d_field_f, d_idxaddr, d_idxaddr_g, elemO_some, d_idxaddr_m, d_arraddr, d_arraddr', d_idx_f, d_sub_s, d_sub_g, d_arrsub, d_arrall, d_extract, d_len, d_len_g, d_len_e, d_len_m, d_min, d_build, d_bslice0, d_bs1, d_bs2, d_bsa, d_eqagg, v_mov, v_pick, v_not, v_nilchk, v_conv, v_bin, v_binb, v_eqagg, v_mkfunc, v_load, v_fieldaddr, v_field, v_idxaddr, v_arraddr, v_idx, v_sub, v_arrsub, v_arrall, v_extract, v_len, v_min, v_build, v_bslice, v_lookup, v_call, v_callv, Nat.reduceEqDiff, Nat.reduceBEq, reduceIte, ite_true, ite_false, Bool.false_eq_true, Bool.true_eq_false, if_true, if_false, decide_eq_true_eq, decide_eq_false_iff_not, decide_true, decide_false, Nat.zero_add, Nat.add_zero, Nat.reduceAdd, reduceCtorEq, eq_self, not_true_eq_false, not_false_eq_true, Bool.not_true, Bool.not_false, Nat.reduceMul, List.length_cons, List.length_nil, at_elem, take_f, take_tt, Int.toNat_natCast, Option.some.injEq, Option.bind_some, Int.natCast_nonneg, true_and, and_true, and_self, ↓q_for_n, ↓q_for_r, ↓q_for_e, eI_len, List.length_map, at_obj, obj_box, updH_same, Nat.reduceLeDiff, Nat.zero_le, Nat.le_refl, List.drop_zero, List.drop_succ_cons, List.take_succ_cons, List.take_zero, c_agg, c_int, c_bool, c_slice, c_emp, c_grow, ↓l_one0, ↓l_one1, ↓k_l0, ↓k_l1, stab_nil, stab_cons, stab_if, st_tt, st_ff, st_tf, st_ft, st_u, hm, g4, g5, g9, g10, hN, u64w (show j < 2 ^ 62 by omega), w_shl1 (show j < 62 by omega), show ¬ ((j : Int) < 0) by omega, hor, wsucc (show j < 4611686018427387904 by omega), hlt', hB4, hB5]
        refine ⟨hE, ?_⟩
        rw [hst, if_pos hm]
      · simp only [go_sem, reduceIte, reduceCtorEq, Nat.reduceEqDiff, Nat.reduceBEq, Nat.reduceAdd, Nat.reduceMul, Nat.reduceLeDiff, hm, g4, g5, g9, g10, hN, wsucc (show j < 4611686018427387904 by omega), hlt', hB4, hB5]
        refine ⟨hE, ?_⟩
        rw [hst, if_neg hm]
    · simp only [go_sem, reduceIte, reduceCtorEq, Nat.reduceEqDiff, Nat.reduceBEq, Nat.reduceAdd, Nat.reduceMul, Nat.reduceLeDiff, g4, g5, g9, g10, hN, hB4, hB5, hlt, take_f', List.getElem?_cons_zero]
      have : j = c.owners.length := by omega
      subst this
      refine fin_ret 8 (by simp [upd_at, hN]) ⟨_, H, Settle.refl hE, ?_, rfl⟩
      simp [upd_at, hoursOf, hc.own]
  | succ k ih =>
    intro hk H
    have ih' := ih (by omega)
    have hcast : ((k + 1 : Nat) : Int) - 1 = (k : Int) := by omega
    have hdec : IntKind.i64.wrap ((k : Int) - 1) = (k : Int) - 1 := w64 (by omega) (by omega)
    rw [hcast]
    refine fn_of hmix fc123 (by simp) ?_
    rw [ienv4]
    simp only [go_sem, reduceIte, reduceCtorEq, Nat.reduceEqDiff, Nat.reduceBEq, Nat.reduceAdd, Nat.reduceMul, Nat.reduceLeDiff, ac123, eH, eC]
    refine v_box _ rfl fun b4 hb4 => ?_
    simp only [go_sem, reduceIte, reduceCtorEq, Nat.reduceEqDiff, Nat.reduceBEq, Nat.reduceAdd, Nat.reduceMul, Nat.reduceLeDiff]
    refine v_box _ rfl fun b5 hb5 => ?_
    have n45 : b4 ≠ b5 := fun h => by subst h; simp at hb5
    simp only [go_sem, reduceIte, reduceCtorEq, Nat.reduceEqDiff, Nat.reduceBEq, Nat.reduceAdd, Nat.reduceMul, Nat.reduceLeDiff, show ¬ ((k : Int) < 0) by omega, updH_ne _ _ n45, hdec]
    have e2 := ((Ext.refl H).new hb4 (.box [.slice (h.table.women.map eW), .slice (h.table.pieces.map eP), i6 h.table.wrong, .slice (eI h.sick), i6 h.others, i6 h.last, .slice (h.touches.map eTo), .slice (h.boiled.map eB), .slice (h.signs.map eS)])).new hb5 (.box [.slice (eI c.owners), .slice (eI c.hours)])
    refine ih'.go ?_
    obtain ⟨c0, hc0⟩ : ∃ c0, c0 = hoursOf h (pad7 c.owners) (pad6 c.hours) (l.map bKey) k := ⟨_, rfl⟩
    have hc0l : c0.length = 10 := by rw [hc0]; exact hoursOf_len _ _ _ _ _
    rw [← hc0]
    have hfin : hoursOf h (pad7 c.owners) (pad6 c.hours) (l.map bKey) (k + 1) = touchOf h (pad6 c.hours) k (boilOf (l.map bKey) k c0 (nT h)) h.touches.length := by
      simp only [hoursOf, range_fold]; rw [hc0]; rfl
    rw [hfin]
    simp only [go_sem, reduceIte, reduceCtorEq, Nat.reduceEqDiff, Nat.reduceBEq, Nat.reduceAdd, Nat.reduceMul, Nat.reduceLeDiff]
    refine x_for (nT h) (fun j env H1 => Ext H H1 ∧ H1 b4 = some (.box [.slice (h.table.women.map eW), .slice (h.table.pieces.map eP), i6 h.table.wrong, .slice (eI h.sick), i6 h.others, i6 h.last, .slice (h.touches.map eTo), .slice (h.boiled.map eB), .slice (h.signs.map eS)]) ∧ H1 b5 = some (.box [.slice (eI c.owners), .slice (eI c.hours)]) ∧ env 2 = .slice (l.map eB) ∧ env 3 = i6 k ∧ env 4 = .ptr b4 0 ∧ env 5 = .ptr b5 0 ∧ env 9 = i6 (natOf (boilOf (l.map bKey) k c0 j) : Nat) ∧ env 11 = i6 j ∧ env 99 = .any)
      ⟨e2, by rw [updH_ne _ _ n45]; exact updH_same _ _ _, updH_same _ _ _, by simp [upd_at], by simp [upd_at], by simp [upd_at], by simp [upd_at], by simp [upd_at, boilOf], by simp [upd_at], by simp [upd_at]⟩ ?_
    rintro j env H1 hj ⟨hE, hB4, hB5, g2, g3, g4, g5, g9, g11, hN⟩
    have hbl := boilOf_len (l.map bKey) k c0 j hc0l
    simp only [go_sem, reduceIte, reduceCtorEq, Nat.reduceEqDiff, Nat.reduceBEq, Nat.reduceAdd, Nat.reduceMul, Nat.reduceLeDiff, g2, g3, g4, g5, g9, g11, hN, hB4]
    refine (thingsR_c h).go ?_
    rw [thingsW_ok hv.ok]
    by_cases hlt : (j : Int) < (nT h : Int)
    · have hlt' : j < nT h := by omega
      simp only [go_sem, reduceIte, reduceCtorEq, Nat.reduceEqDiff, Nat.reduceBEq, Nat.reduceAdd, Nat.reduceMul, Nat.reduceLeDiff, g2, g3, g4, g5, g9, g11, hN, hlt]
      refine (isBoiled_c l j k hl).go ?_
      have hst : boilOf (l.map bKey) k c0 (j + 1) = if ((j : Int), (k : Int)) ∈ l.map bKey then (boilOf (l.map bKey) k c0 j).set j false else boilOf (l.map bKey) k c0 j := by
        simp only [boilOf, range_fold]; rfl
      by_cases hin : ((j : Int), (k : Int)) ∈ l.map bKey
      · have handn := w_andN (natOf_lt62 (c := boilOf (l.map bKey) k c0 j) (by omega)) (two_lt (show j < 62 by omega))
        simp only [↓aops_nil, ↓aops_go, ↓aops_go0, ↓aops_if, ↓k_cont, ↓k_cont0, g_tt, g_ff, g_tf, g_ft, g_u, ↓apre_nil, ↓apre_if, ↓apre_go, pgo_det, Tag.isCall, popt_some, gp_tt, gp_ff, gp_tf, gp_ft, gp_u, ↓k_draw, opt_some, List.map_cons, List.map_nil, ev, upd_at, ↓x_skip, ↓x_label, ↓x_ret, ↓x_exit, ↓x_seq, ↓x_block, ↓x_ops, ↓x_cond, x_sel_t, x_sel_f, ↓x_draw, ↓q_kseq_n, ↓q_kseq_r, ↓q_kseq_e, ↓q_block_n, ↓q_block_r, ↓q_block_e, ↓q_loop_n, ↓q_loop_r, ↓q_loop_e, ↓l_done, d_mov, d_pick, d_not, d_nilchk, d_nilchk', d_conv, d_add, d_sub, d_mul, d_quo, d_rem, d_shl, d_shr, d_and, d_or, d_andnot, d_eql, d_neq, d_lss, d_leq, d_gtr, d_geq, d_eqb, d_neqb, d_mkfunc, d_load, d_fieldaddr, d_fieldaddr', d_field_t, d_field_f, d_idxaddr, d_idxaddr_g, elemO_some, d_idxaddr_m, d_arraddr, d_arraddr', d_idx_f, d_sub_s, d_sub_g, d_arrsub, d_arrall, d_extract, d_len, d_len_g, d_len_e, d_len_m, d_min, d_build, d_bslice0, d_bs1, d_bs2, d_bsa, d_eqagg, v_mov, v_pick, v_not, v_nilchk, v_conv, v_bin, v_binb, v_eqagg, v_mkfunc, v_load, v_fieldaddr, v_field, v_idxaddr, v_arraddr, v_idx, v_sub, v_arrsub, v_arrall, v_extract, v_len, v_min, v_build, v_bslice, v_lookup, v_call, v_callv, Nat.reduceEqDiff, Nat.reduceBEq, reduceIte, ite_true, ite_false, Bool.false_eq_true, Bool.true_eq_false, if_true, if_false, decide_eq_true_eq, decide_eq_false_iff_not, decide_true, decide_false, Nat.zero_add, Nat.add_zero, Nat.reduceAdd, reduceCtorEq, eq_self, not_true_eq_false, not_false_eq_true, Bool.not_true, Bool.not_false, Nat.reduceMul, List.length_cons, List.length_nil, at_elem, take_f, take_tt, Int.toNat_natCast, Option.some.injEq, Option.bind_some, Int.natCast_nonneg, true_and, and_true, and_self, ↓q_for_n, ↓q_for_r, ↓q_for_e, eI_len, List.length_map, at_obj, obj_box, updH_same, Nat.reduceLeDiff, Nat.zero_le, Nat.le_refl, List.drop_zero, List.drop_succ_cons, List.take_succ_cons, List.take_zero, c_agg, c_int, c_bool, c_slice, c_emp, c_grow, hin, g2, g3, g4, g5, g9, g11, hN, u64w (show j < 2 ^ 62 by omega), w_shl1 (show j < 62 by omega), show ¬ ((j : Int) < 0) by omega, handn, wsucc (show j < 4611686018427387904 by omega), hlt', hB4, hB5]
        refine ⟨hE, ?_⟩
        rw [hst, if_pos hin, natOf_set_f (by omega)]
      · simp only [go_sem, reduceIte, reduceCtorEq, Nat.reduceEqDiff, Nat.reduceBEq, Nat.reduceAdd, Nat.reduceMul, Nat.reduceLeDiff, hin, g2, g3, g4, g5, g9, g11, hN, wsucc (show j < 4611686018427387904 by omega), hlt', hB4, hB5]
        refine ⟨hE, ?_⟩
        rw [hst, if_neg hin]
    have hj' : j = nT h := by omega
    subst hj'
    simp only [go_sem, reduceIte, reduceCtorEq, Nat.reduceEqDiff, Nat.reduceBEq, Nat.reduceAdd, Nat.reduceMul, Nat.reduceLeDiff, g2, g3, g4, g5, g9, g11, hN, hlt]
    obtain ⟨c1, hc1⟩ : ∃ c1, c1 = boilOf (l.map bKey) k c0 (nT h) := ⟨_, rfl⟩
    have hc1l : c1.length = 10 := by rw [hc1]; exact boilOf_len _ _ _ _ hc0l
    rw [← hc1] at g9 ⊢
    refine x_for h.touches.length (fun j env H1 => Ext H H1 ∧ H1 b4 = some (.box [.slice (h.table.women.map eW), .slice (h.table.pieces.map eP), i6 h.table.wrong, .slice (eI h.sick), i6 h.others, i6 h.last, .slice (h.touches.map eTo), .slice (h.boiled.map eB), .slice (h.signs.map eS)]) ∧ H1 b5 = some (.box [.slice (eI c.owners), .slice (eI c.hours)]) ∧ env 3 = i6 k ∧ env 4 = .ptr b4 0 ∧ env 5 = .ptr b5 0 ∧ env 9 = i6 (natOf (touchOf h (pad6 c.hours) k c1 j) : Nat) ∧ env 12 = i6 j ∧ env 99 = .any)
      ⟨hE, hB4, hB5, by simp [upd_at, g3], by simp [upd_at, g4], by simp [upd_at, g5], by simp [upd_at, g9, touchOf], by simp [upd_at], by simp [upd_at, hN]⟩ ?_
    clear hE hB4 hB5 g2 g3 g4 g5 g9 g11 hN hlt hj hbl env H1
    rintro j env H1 hj ⟨hE, hB4, hB5, g3, g4, g5, g9, g12, hN⟩
    by_cases hlt : (j : Int) < (h.touches.length : Int)
    rotate_left
    · have : j = h.touches.length := by omega
      subst this
      simp only [go_sem, reduceIte, reduceCtorEq, Nat.reduceEqDiff, Nat.reduceBEq, Nat.reduceAdd, Nat.reduceMul, Nat.reduceLeDiff, g3, g4, g5, g9, g12, hN, hlt, hB4, take_f', List.getElem?_cons_zero]
      refine fin_ret 8 (by simp [upd_at, hN]) ⟨_, H, Settle.refl hE, ?_, rfl⟩
      simp [upd_at]
    have hlt' : j < h.touches.length := by omega
    have hlth : j < c.hours.length := by have := hc.hrs; omega
    have hget : h.touches.getD j default = h.touches[j] := by simp [hlt']
    obtain ⟨a, b, ha, hb, ha10, hb10⟩ := hv.ok.touch _ (List.getElem_mem hlt')
    have htl := touchOf_len h (pad6 c.hours) k c1 j hc1l
    have hpg := pad6_get c.hours j hlth
    have hst : touchOf h (pad6 c.hours) k c1 (j + 1) = if c.hours[j] = (k : Int) ∧ ((touchOf h (pad6 c.hours) k c1 j).getD a false || (touchOf h (pad6 c.hours) k c1 j).getD b false) = true then ((touchOf h (pad6 c.hours) k c1 j).set a true).set b true else touchOf h (pad6 c.hours) k c1 j := by
      simp only [touchOf, range_fold]
      rw [touchAt, hget, ha, hb, hpg]; simp only [Int.toNat_natCast]; rfl
    obtain ⟨ct, hct⟩ : ∃ ct, ct = touchOf h (pad6 c.hours) k c1 j := ⟨_, rfl⟩
    rw [← hct] at g9 htl hst
    have hpair := w_or (two_lt (show a < 62 by omega)) (two_lt (show b < 62 by omega))
    have hpl : (2 ^ a ||| 2 ^ b) < 2 ^ 62 := Nat.or_lt_two_pow (two_lt (by omega)) (two_lt (by omega))
    have hcl := natOf_lt62 (c := ct) (by omega)
    have handp := w_and hcl hpl
    have horp := w_or hcl hpl
    by_cases c1 : c.hours[j] = (k : Int)
    rotate_left
    · simp only [go_sem, reduceIte, reduceCtorEq, Nat.reduceEqDiff, Nat.reduceBEq, Nat.reduceAdd, Nat.reduceMul, Nat.reduceLeDiff, g3, g4, g5, g9, g12, hN, hlt, hB4, hB5, take_f', List.getElem?_cons_zero, List.getElem?_cons_succ, map_get (f := eTo) hlt', eTo, ha, hb, u64w (show a < 2 ^ 62 by omega), u64w (show b < 2 ^ 62 by omega), w_shl1 (show a < 62 by omega), w_shl1 (show b < 62 by omega), show ¬ ((a : Int) < 0) by omega, show ¬ ((b : Int) < 0) by omega, hpair, eI_get hlth, c1, wsucc (show j < 4611686018427387904 by omega), hlt']
      refine ⟨hE, ?_⟩
      rw [hst, if_neg (fun h => c1 h.1)]
    by_cases c2 : natOf ct &&& (2 ^ a ||| 2 ^ b) = 0
    · have c2' : ((natOf ct &&& (2 ^ a ||| 2 ^ b) : Nat) : Int) = 0 := by rw [c2]; rfl
      simp only [↓aops_nil, ↓aops_go, ↓aops_go0, ↓aops_if, ↓k_cont, ↓k_cont0, g_tt, g_ff, g_tf, g_ft, g_u, ↓apre_nil, ↓apre_if, ↓apre_go, pgo_det, Tag.isCall, popt_some, gp_tt, gp_ff, gp_tf, gp_ft, gp_u, ↓k_draw, opt_some, List.map_cons, List.map_nil, ev, upd_at, ↓x_skip, ↓x_label, ↓x_ret, ↓x_exit, ↓x_seq, ↓x_block, ↓x_ops, ↓x_cond, x_sel_t, x_sel_f, ↓x_draw, ↓q_kseq_n, ↓q_kseq_r, ↓q_kseq_e, ↓q_block_n, ↓q_block_r, ↓q_block_e, ↓q_loop_n, ↓q_loop_r, ↓q_loop_e, ↓l_done, d_mov, d_pick, d_not, d_nilchk, d_nilchk', d_conv, d_add, d_sub, d_mul, d_quo, d_rem, d_shl, d_shr, d_and, d_or, d_andnot, d_eql, d_neq, d_lss, d_leq, d_gtr, d_geq, d_eqb, d_neqb, d_mkfunc, d_load, d_fieldaddr, d_fieldaddr', d_field_t, d_field_f, d_idxaddr, d_idxaddr_g, elemO_some, d_idxaddr_m, d_arraddr, d_arraddr', d_idx_f, d_sub_s, d_sub_g, d_arrsub, d_arrall, d_extract, d_len, d_len_g, d_len_e, d_len_m, d_min, d_build, d_bslice0, d_bs1, d_bs2, d_bsa, d_eqagg, v_mov, v_pick, v_not, v_nilchk, v_conv, v_bin, v_binb, v_eqagg, v_mkfunc, v_load, v_fieldaddr, v_field, v_idxaddr, v_arraddr, v_idx, v_sub, v_arrsub, v_arrall, v_extract, v_len, v_min, v_build, v_bslice, v_lookup, v_call, v_callv, Nat.reduceEqDiff, Nat.reduceBEq, reduceIte, ite_true, ite_false, Bool.false_eq_true, Bool.true_eq_false, if_true, if_false, decide_eq_true_eq, decide_eq_false_iff_not, decide_true, decide_false, Nat.zero_add, Nat.add_zero, Nat.reduceAdd, reduceCtorEq, eq_self, not_true_eq_false, not_false_eq_true, Bool.not_true, Bool.not_false, Nat.reduceMul, List.length_cons, List.length_nil, at_elem, take_f, take_tt, Int.toNat_natCast, Option.some.injEq, Option.bind_some, Int.natCast_nonneg, true_and, and_true, and_self, ↓q_for_n, ↓q_for_r, ↓q_for_e, eI_len, List.length_map, at_obj, obj_box, updH_same, Nat.reduceLeDiff, Nat.zero_le, Nat.le_refl, List.drop_zero, List.drop_succ_cons, List.take_succ_cons, List.take_zero, c_agg, c_int, c_bool, c_slice, c_emp, c_grow, ↓l_one0, ↓l_one1, ↓k_l0, ↓k_l1, stab_nil, stab_cons, stab_if, st_tt, st_ff, st_tf, st_ft, st_u, g3, g4, g5, g9, g12, hN, hlt, hB4, hB5, take_f', List.getElem?_cons_zero, List.getElem?_cons_succ, map_get (f := eTo) hlt', eTo, ha, hb, u64w (show a < 2 ^ 62 by omega), u64w (show b < 2 ^ 62 by omega), w_shl1 (show a < 62 by omega), w_shl1 (show b < 62 by omega), show ¬ ((a : Int) < 0) by omega, show ¬ ((b : Int) < 0) by omega, hpair, eI_get hlth, c1, handp, c2', wsucc (show j < 4611686018427387904 by omega), hlt']
      refine ⟨hE, ?_⟩
      rw [hst, if_neg (fun h => natOf_and2.2 h.2 c2)]
    · have c2' : ¬ ((natOf ct &&& (2 ^ a ||| 2 ^ b) : Nat) : Int) = 0 := by omega
      simp only [↓aops_nil, ↓aops_go, ↓aops_go0, ↓aops_if, ↓k_cont, ↓k_cont0, g_tt, g_ff, g_tf, g_ft, g_u, ↓apre_nil, ↓apre_if, ↓apre_go, pgo_det, Tag.isCall, popt_some, gp_tt, gp_ff, gp_tf, gp_ft, gp_u, ↓k_draw, opt_some, List.map_cons, List.map_nil, ev, upd_at, ↓x_skip, ↓x_label, ↓x_ret, ↓x_exit, ↓x_seq, ↓x_block, ↓x_ops, ↓x_cond, x_sel_t, x_sel_f, ↓x_draw, ↓q_kseq_n, ↓q_kseq_r, ↓q_kseq_e, ↓q_block_n, ↓q_block_r, ↓q_block_e, ↓q_loop_n, ↓q_loop_r, ↓q_loop_e, ↓l_done, d_mov, d_pick, d_not, d_nilchk, d_nilchk', d_conv, d_add, d_sub, d_mul, d_quo, d_rem, d_shl, d_shr, d_and, d_or, d_andnot, d_eql, d_neq, d_lss, d_leq, d_gtr, d_geq, d_eqb, d_neqb, d_mkfunc, d_load, d_fieldaddr, d_fieldaddr', d_field_t, d_field_f, d_idxaddr, d_idxaddr_g, elemO_some, d_idxaddr_m, d_arraddr, d_arraddr', d_idx_f, d_sub_s, d_sub_g, d_arrsub, d_arrall, d_extract, d_len, d_len_g, d_len_e, d_len_m, d_min, d_build, d_bslice0, d_bs1, d_bs2, d_bsa, d_eqagg, v_mov, v_pick, v_not, v_nilchk, v_conv, v_bin, v_binb, v_eqagg, v_mkfunc, v_load, v_fieldaddr, v_field, v_idxaddr, v_arraddr, v_idx, v_sub, v_arrsub, v_arrall, v_extract, v_len, v_min, v_build, v_bslice, v_lookup, v_call, v_callv, Nat.reduceEqDiff, Nat.reduceBEq, reduceIte, ite_true, ite_false, Bool.false_eq_true, Bool.true_eq_false, if_true, if_false, decide_eq_true_eq, decide_eq_false_iff_not, decide_true, decide_false, Nat.zero_add, Nat.add_zero, Nat.reduceAdd, reduceCtorEq, eq_self, not_true_eq_false, not_false_eq_true, Bool.not_true, Bool.not_false, Nat.reduceMul, List.length_cons, List.length_nil, at_elem, take_f, take_tt, Int.toNat_natCast, Option.some.injEq, Option.bind_some, Int.natCast_nonneg, true_and, and_true, and_self, ↓q_for_n, ↓q_for_r, ↓q_for_e, eI_len, List.length_map, at_obj, obj_box, updH_same, Nat.reduceLeDiff, Nat.zero_le, Nat.le_refl, List.drop_zero, List.drop_succ_cons, List.take_succ_cons, List.take_zero, c_agg, c_int, c_bool, c_slice, c_emp, c_grow, ↓l_one0, ↓l_one1, ↓k_l0, ↓k_l1, stab_nil, stab_cons, stab_if, st_tt, st_ff, st_tf, st_ft, st_u, g3, g4, g5, g9, g12, hN, hlt, hB4, hB5, take_f', List.getElem?_cons_zero, List.getElem?_cons_succ, map_get (f := eTo) hlt', eTo, ha, hb, u64w (show a < 2 ^ 62 by omega), u64w (show b < 2 ^ 62 by omega), w_shl1 (show a < 62 by omega), w_shl1 (show b < 62 by omega), show ¬ ((a : Int) < 0) by omega, show ¬ ((b : Int) < 0) by omega, hpair, eI_get hlth, c1, handp, c2', horp, wsucc (show j < 4611686018427387904 by omega), hlt']
      refine ⟨hE, ?_⟩
      rw [hst, if_pos ⟨c1, natOf_and2.1 c2⟩, natOf_set_t (by simp; omega), natOf_set_t (by omega), Nat.or_assoc]
end Go.Lift

set_option linter.unusedSimpArgs false
set_option linter.unusedVariables false
namespace Go.Lift
open Go Go.Proofs
theorem ACalls.arg2 {P : Program} {f : FuncId} {a b x y d : AV} {H : AHeap} {R : AV → AHeap → Prop} (h : ∀ w v, Rep H w v x → Rep H w v y) (hc : ACalls P f [a, b, y, d] H R) : ACalls P f [a, b, x, d] H R :=
  ACalls.weaken (xs := [a, b, x, d]) (ys := [a, b, y, d]) rfl (hc := hc) fun i p q hp hq w v hr => by
    match i, hp, hq with
    | 0, hp, hq => cases hp; cases hq; exact hr
    | 1, hp, hq => cases hp; cases hq; exact hr
    | 2, hp, hq => cases hp; cases hq; exact h w v hr
    | 3, hp, hq => cases hp; cases hq; exact hr
theorem last_c (h : House) (hv : HV h) (c : Course) (hc : CLen h c) (more : List Boiling) (hm : more.length ≤ 1000) : Pure Tryz.prog 69 [eH h, eC c, .slice (more.map eB)] (i6 (natOf (lastOf h c more) : Nat)) := by
  intro H
  obtain ⟨nl, hl1, hl2⟩ := hv.ok.last
  have hb4 := hv.ok.boiled
  refine fn_of hmix fc69 (by simp) ?_
  rw [ienv3]
  simp only [go_sem, reduceIte, reduceCtorEq, Nat.reduceEqDiff, Nat.reduceBEq, Nat.reduceAdd, Nat.reduceMul, Nat.reduceLeDiff, ac69, eH, eC]
  refine v_box _ rfl fun b3 hb3 => ?_
  simp only [go_sem, reduceIte, reduceCtorEq, Nat.reduceEqDiff, Nat.reduceBEq, Nat.reduceAdd, Nat.reduceMul, Nat.reduceLeDiff]
  refine v_box _ rfl fun b5 hb5 => ?_
  have n35 : b3 ≠ b5 := fun h => by subst h; simp at hb5
  have e2 := ((Ext.refl H).new hb3 (.box [.slice (h.table.women.map eW), .slice (h.table.pieces.map eP), i6 h.table.wrong, .slice (eI h.sick), i6 h.others, i6 h.last, .slice (h.touches.map eTo), .slice (h.boiled.map eB), .slice (h.signs.map eS)])).new hb5 (.box [.slice (eI c.owners), .slice (eI c.hours)])
  have B3 : updH (updH H b3 (.box [.slice (h.table.women.map eW), .slice (h.table.pieces.map eP), i6 h.table.wrong, .slice (eI h.sick), i6 h.others, i6 h.last, .slice (h.touches.map eTo), .slice (h.boiled.map eB), .slice (h.signs.map eS)])) b5 (.box [.slice (eI c.owners), .slice (eI c.hours)]) b3 = some (.box [.slice (h.table.women.map eW), .slice (h.table.pieces.map eP), i6 h.table.wrong, .slice (eI h.sick), i6 h.others, i6 h.last, .slice (h.touches.map eTo), .slice (h.boiled.map eB), .slice (h.signs.map eS)]) := by rw [updH_ne _ _ n35]; exact updH_same _ _ _
  have B5 : updH (updH H b3 (.box [.slice (h.table.women.map eW), .slice (h.table.pieces.map eP), i6 h.table.wrong, .slice (eI h.sick), i6 h.others, i6 h.last, .slice (h.touches.map eTo), .slice (h.boiled.map eB), .slice (h.signs.map eS)])) b5 (.box [.slice (eI c.owners), .slice (eI c.hours)]) b5 = some (.box [.slice (eI c.owners), .slice (eI c.hours)]) := updH_same _ _ _
  simp only [go_sem, reduceIte, reduceCtorEq, Nat.reduceEqDiff, Nat.reduceBEq, Nat.reduceAdd, Nat.reduceMul, Nat.reduceLeDiff, updH_ne _ _ n35, take_f', List.getElem?_cons_zero]
  refine v_append (H0 := updH (updH H b3 (.box [.slice (h.table.women.map eW), .slice (h.table.pieces.map eP), i6 h.table.wrong, .slice (eI h.sick), i6 h.others, i6 h.last, .slice (h.touches.map eTo), .slice (h.boiled.map eB), .slice (h.signs.map eS)])) b5 (.box [.slice (eI c.owners), .slice (eI c.hours)])) (sz := 2) (.inl ⟨rfl, rfl⟩) (Ext.refl _) rfl (by intro e he; cases he) (eB_good _) (eB_cell _) (by simp; omega) (by simp; omega) ?_
  intro v1 H1 hg1 he1 hk1
  have C3 := he1 _ _ B3
  have C5 := he1 _ _ B5
  simp only [go_sem, reduceIte, reduceCtorEq, Nat.reduceEqDiff, Nat.reduceBEq, Nat.reduceAdd, Nat.reduceMul, Nat.reduceLeDiff, C3, C5, take_f', List.getElem?_cons_zero]
  refine v_append hg1 he1 rfl (eB_good h.boiled) (eB_good more) (eB_cell more) (by simp; omega) (by simp; omega) ?_
  intro v2 H2 hg2 he2 hk2
  have D3 := he2 _ _ B3
  have D5 := he2 _ _ B5
  simp only [go_sem, reduceIte, reduceCtorEq, Nat.reduceEqDiff, Nat.reduceBEq, Nat.reduceAdd, Nat.reduceMul, Nat.reduceLeDiff, D3, D5, take_f', List.getElem?_cons_zero]
  refine ACalls.arg2 (y := .slice ((h.boiled ++ more).map eB)) (fun w v hr => by rw [List.map_append]; exact hg2.weakRep hr) ?_
  have hlast : h.last = ((nl + 1 : Nat) : Int) - 1 := by omega
  have hcall := carriers_c h hv c hc (h.boiled ++ more) (by unfold Sm; simp; omega) (nl + 1) (by omega)
  rw [← hlast] at hcall
  refine hcall.go ?_
  simp only [go_sem, reduceIte, reduceCtorEq, Nat.reduceEqDiff, Nat.reduceBEq, Nat.reduceAdd, Nat.reduceMul, Nat.reduceLeDiff]
  refine fin_ret 6 (by simp [upd_at]) ⟨_, H, Settle.refl (e2.trans he2), ?_, rfl⟩
  simp [upd_at, lastOf, playOf, hl1]
def harmAt (c : Course) (bs : List Bool) (w : Int) (i : Nat) : Bool := decide (c.owners.getD i 0 = w) && bs.getD i false
def harmB (h : House) (c : Course) (bs : List Bool) (w : Int) : Bool := !decide (w ∈ h.sick) && (List.range c.owners.length).any (harmAt c bs w)
theorem isHarmed_c (h : House) (c : Course) (hsk : Sm h.sick.length) (ho : c.owners.length ≤ 60) (bs : List Bool) (hb : bs.length ≤ 60) (w : Int) : Pure Tryz.prog 82 [eH h, eC c, i6 (natOf bs : Nat), i6 w] (.bool (harmB h c bs w)) := by
  intro H
  refine fn_of hmix fc82 (by simp) ?_
  rw [ienv4]
  simp only [go_sem, reduceIte, reduceCtorEq, Nat.reduceEqDiff, Nat.reduceBEq, Nat.reduceAdd, Nat.reduceMul, Nat.reduceLeDiff, ac82, eH, eC]
  refine v_box _ rfl fun b4 hb4 => ?_
  simp only [go_sem, reduceIte, reduceCtorEq, Nat.reduceEqDiff, Nat.reduceBEq, Nat.reduceAdd, Nat.reduceMul, Nat.reduceLeDiff]
  refine v_box _ rfl fun b5 hb5 => ?_
  have n45 : b4 ≠ b5 := fun h => by subst h; simp at hb5
  have e2 := ((Ext.refl H).new hb4 (.box [.slice (h.table.women.map eW), .slice (h.table.pieces.map eP), i6 h.table.wrong, .slice (eI h.sick), i6 h.others, i6 h.last, .slice (h.touches.map eTo), .slice (h.boiled.map eB), .slice (h.signs.map eS)])).new hb5 (.box [.slice (eI c.owners), .slice (eI c.hours)])
  simp only [go_sem, reduceIte, reduceCtorEq, Nat.reduceEqDiff, Nat.reduceBEq, Nat.reduceAdd, Nat.reduceMul, Nat.reduceLeDiff, updH_ne _ _ n45, take_f', List.getElem?_cons_zero]
  refine (has_c h.sick w hsk).go ?_
  by_cases c1 : w ∈ h.sick
  · simp only [go_sem, reduceIte, reduceCtorEq, Nat.reduceEqDiff, Nat.reduceBEq, Nat.reduceAdd, Nat.reduceMul, Nat.reduceLeDiff, c1]
    refine fin_ret 8 (by simp [upd_at]) ⟨_, H, Settle.refl e2, ?_, rfl⟩
    simp [upd_at, harmB, c1]
  simp only [go_sem, reduceIte, reduceCtorEq, Nat.reduceEqDiff, Nat.reduceBEq, Nat.reduceAdd, Nat.reduceMul, Nat.reduceLeDiff, c1]
  refine x_for c.owners.length (fun j env H1 => Ext H H1 ∧ H1 b5 = some (.box [.slice (eI c.owners), .slice (eI c.hours)]) ∧ env 2 = i6 (natOf bs : Nat) ∧ env 3 = i6 w ∧ env 5 = .ptr b5 0 ∧ env 9 = i6 j ∧ env 36 = .any ∧ ∀ i, i < j → harmAt c bs w i = false)
    ⟨e2, updH_same _ _ _, by simp [upd_at], by simp [upd_at], by simp [upd_at], by simp [upd_at], by simp [upd_at], by simp⟩ ?_
  rintro j env H1 hj ⟨hE, hB5, g2, g3, g5, g9, hN, hq⟩
  by_cases hlt : (j : Int) < (c.owners.length : Int)
  · have hlt' : j < c.owners.length := by omega
    have hgo : c.owners.getD j 0 = c.owners[j] := by simp [hlt']
    have hnext : harmAt c bs w j = false → ∀ i, i < j + 1 → harmAt c bs w i = false := fun hh i hi => by
      rcases Nat.lt_or_ge i j with h' | h'
      · exact hq i h'
      · have : i = j := by omega
        subst this; exact hh
    have handp := w_and (natOf_lt62 (c := bs) (by omega)) (two_lt (show j < 62 by omega))
    by_cases d1 : c.owners[j] = w
    rotate_left
    · simp only [go_sem, reduceIte, reduceCtorEq, Nat.reduceEqDiff, Nat.reduceBEq, Nat.reduceAdd, Nat.reduceMul, Nat.reduceLeDiff, g2, g3, g5, g9, hN, hlt, hB5, take_f', List.getElem?_cons_zero, eI_get hlt', d1, wsucc (show j < 4611686018427387904 by omega), hlt']
      exact ⟨hE, hnext (by rw [harmAt, hgo, decide_eq_false d1]; rfl)⟩
    by_cases d2 : natOf bs &&& 2 ^ j = 0
    · have d2' : ((natOf bs &&& 2 ^ j : Nat) : Int) = 0 := by rw [d2]; rfl
      simp only [↓aops_nil, ↓aops_go, ↓aops_go0, ↓aops_if, ↓k_cont, ↓k_cont0, g_tt, g_ff, g_tf, g_ft, g_u, ↓apre_nil, ↓apre_if, ↓apre_go, pgo_det, Tag.isCall, popt_some, gp_tt, gp_ff, gp_tf, gp_ft, gp_u, ↓k_draw, opt_some, List.map_cons, List.map_nil, ev, upd_at, ↓x_skip, ↓x_label, ↓x_ret, ↓x_exit, ↓x_seq, ↓x_block, ↓x_ops, ↓x_cond, x_sel_t, x_sel_f, ↓x_draw, ↓q_kseq_n, ↓q_kseq_r, ↓q_kseq_e, ↓q_block_n, ↓q_block_r, ↓q_block_e, ↓q_loop_n, ↓q_loop_r, ↓q_loop_e, ↓l_done, d_mov, d_pick, d_not, d_nilchk, d_nilchk', d_conv, d_add, d_sub, d_mul, d_quo, d_rem, d_shl, d_shr, d_and, d_or, d_andnot, d_eql, d_neq, d_lss, d_leq, d_gtr, d_geq, d_eqb, d_neqb, d_mkfunc, d_load, d_fieldaddr, d_fieldaddr', d_field_t, d_field_f, d_idxaddr, d_idxaddr_g, elemO_some, d_idxaddr_m, d_arraddr, d_arraddr', d_idx_f, d_sub_s, d_sub_g, d_arrsub, d_arrall, d_extract, d_len, d_len_g, d_len_e, d_len_m, d_min, d_build, d_bslice0, d_bs1, d_bs2, d_bsa, d_eqagg, v_mov, v_pick, v_not, v_nilchk, v_conv, v_bin, v_binb, v_eqagg, v_mkfunc, v_load, v_fieldaddr, v_field, v_idxaddr, v_arraddr, v_idx, v_sub, v_arrsub, v_arrall, v_extract, v_len, v_min, v_build, v_bslice, v_lookup, v_call, v_callv, Nat.reduceEqDiff, Nat.reduceBEq, reduceIte, ite_true, ite_false, Bool.false_eq_true, Bool.true_eq_false, if_true, if_false, decide_eq_true_eq, decide_eq_false_iff_not, decide_true, decide_false, Nat.zero_add, Nat.add_zero, Nat.reduceAdd, reduceCtorEq, eq_self, not_true_eq_false, not_false_eq_true, Bool.not_true, Bool.not_false, Nat.reduceMul, List.length_cons, List.length_nil, at_elem, take_f, take_tt, Int.toNat_natCast, Option.some.injEq, Option.bind_some, Int.natCast_nonneg, true_and, and_true, and_self, ↓q_for_n, ↓q_for_r, ↓q_for_e, eI_len, List.length_map, at_obj, obj_box, updH_same, Nat.reduceLeDiff, Nat.zero_le, Nat.le_refl, List.drop_zero, List.drop_succ_cons, List.take_succ_cons, List.take_zero, c_agg, c_int, c_bool, c_slice, c_emp, c_grow, g2, g3, g5, g9, hN, hlt, hB5, take_f', List.getElem?_cons_zero, eI_get hlt', d1, u64w (show j < 2 ^ 62 by omega), w_shl1 (show j < 62 by omega), show ¬ ((j : Int) < 0) by omega, handp, d2', wsucc (show j < 4611686018427387904 by omega), hlt']
      refine ⟨hE, hnext ?_⟩
      have : bs.getD j false = false := by
        cases hb : bs.getD j false
        · rfl
        · exact absurd d2 (natOf_and.2 hb)
      rw [harmAt, this, Bool.and_false]
    · have d2' : ¬ ((natOf bs &&& 2 ^ j : Nat) : Int) = 0 := by omega
      simp only [↓aops_nil, ↓aops_go, ↓aops_go0, ↓aops_if, ↓k_cont, ↓k_cont0, g_tt, g_ff, g_tf, g_ft, g_u, ↓apre_nil, ↓apre_if, ↓apre_go, pgo_det, Tag.isCall, popt_some, gp_tt, gp_ff, gp_tf, gp_ft, gp_u, ↓k_draw, opt_some, List.map_cons, List.map_nil, ev, upd_at, ↓x_skip, ↓x_label, ↓x_ret, ↓x_exit, ↓x_seq, ↓x_block, ↓x_ops, ↓x_cond, x_sel_t, x_sel_f, ↓x_draw, ↓q_kseq_n, ↓q_kseq_r, ↓q_kseq_e, ↓q_block_n, ↓q_block_r, ↓q_block_e, ↓q_loop_n, ↓q_loop_r, ↓q_loop_e, ↓l_done, d_mov, d_pick, d_not, d_nilchk, d_nilchk', d_conv, d_add, d_sub, d_mul, d_quo, d_rem, d_shl, d_shr, d_and, d_or, d_andnot, d_eql, d_neq, d_lss, d_leq, d_gtr, d_geq, d_eqb, d_neqb, d_mkfunc, d_load, d_fieldaddr, d_fieldaddr', d_field_t, d_field_f, d_idxaddr, d_idxaddr_g, elemO_some, d_idxaddr_m, d_arraddr, d_arraddr', d_idx_f, d_sub_s, d_sub_g, d_arrsub, d_arrall, d_extract, d_len, d_len_g, d_len_e, d_len_m, d_min, d_build, d_bslice0, d_bs1, d_bs2, d_bsa, d_eqagg, v_mov, v_pick, v_not, v_nilchk, v_conv, v_bin, v_binb, v_eqagg, v_mkfunc, v_load, v_fieldaddr, v_field, v_idxaddr, v_arraddr, v_idx, v_sub, v_arrsub, v_arrall, v_extract, v_len, v_min, v_build, v_bslice, v_lookup, v_call, v_callv, Nat.reduceEqDiff, Nat.reduceBEq, reduceIte, ite_true, ite_false, Bool.false_eq_true, Bool.true_eq_false, if_true, if_false, decide_eq_true_eq, decide_eq_false_iff_not, decide_true, decide_false, Nat.zero_add, Nat.add_zero, Nat.reduceAdd, reduceCtorEq, eq_self, not_true_eq_false, not_false_eq_true, Bool.not_true, Bool.not_false, Nat.reduceMul, List.length_cons, List.length_nil, at_elem, take_f, take_tt, Int.toNat_natCast, Option.some.injEq, Option.bind_some, Int.natCast_nonneg, true_and, and_true, and_self, ↓q_for_n, ↓q_for_r, ↓q_for_e, eI_len, List.length_map, at_obj, obj_box, updH_same, Nat.reduceLeDiff, Nat.zero_le, Nat.le_refl, List.drop_zero, List.drop_succ_cons, List.take_succ_cons, List.take_zero, c_agg, c_int, c_bool, c_slice, c_emp, c_grow, g2, g3, g5, g9, hN, hlt, hB5, take_f', List.getElem?_cons_zero, eI_get hlt', d1, u64w (show j < 2 ^ 62 by omega), w_shl1 (show j < 62 by omega), show ¬ ((j : Int) < 0) by omega, handp, d2']
      refine fin_ret 8 (by simp [upd_at, hN]) ⟨_, H, Settle.refl hE, ?_, rfl⟩
      simp only [upd_at, if_true, and_true, AV.bool.injEq]
      symm
      rw [harmB, decide_eq_false c1, Bool.not_false, Bool.true_and, List.any_eq_true]
      exact ⟨j, by simp [hlt'], by rw [harmAt, hgo, decide_eq_true d1, natOf_and.1 d2]; rfl⟩
  · simp only [go_sem, reduceIte, reduceCtorEq, Nat.reduceEqDiff, Nat.reduceBEq, Nat.reduceAdd, Nat.reduceMul, Nat.reduceLeDiff, g2, g3, g5, g9, hN, hlt, hB5, take_f', List.getElem?_cons_zero]
    have : j = c.owners.length := by omega
    subst this
    refine fin_ret 8 (by simp [upd_at, hN]) ⟨_, H, Settle.refl hE, ?_, rfl⟩
    simp only [upd_at, if_true, and_true, AV.bool.injEq]
    symm
    rw [harmB, decide_eq_false c1, Bool.not_false, Bool.true_and, List.any_eq_false]
    intro i hi; rw [hq i (by simpa using hi)]; simp
def safeR (h : House) (more : List Boiling) (c : Course) : Bool := (List.range h.table.women.length).all fun w => !harmB h c (lastOf h c more) (w : Int)
theorem isSafe_c (h : House) (hv : HV h) (c : Course) (hc : CLen h c) (more : List Boiling) (hm : more.length ≤ 1000) : Pure Tryz.prog 71 [eH h, eC c, .slice (more.map eB)] (.bool (safeR h more c)) := by
  intro H
  have hp7 := hv.ok.pcs
  have hll := lastOf_len h c more
  refine fn_of hmix fc71 (by simp) ?_
  rw [ienv3]
  simp only [go_sem, reduceIte, reduceCtorEq, Nat.reduceEqDiff, Nat.reduceBEq, Nat.reduceAdd, Nat.reduceMul, Nat.reduceLeDiff, ac71, eH, eC]
  refine v_box _ rfl fun b3 hb3 => ?_
  simp only [go_sem, reduceIte, reduceCtorEq, Nat.reduceEqDiff, Nat.reduceBEq, Nat.reduceAdd, Nat.reduceMul, Nat.reduceLeDiff]
  refine v_box _ rfl fun b4 hb4 => ?_
  have n34 : b3 ≠ b4 := fun h => by subst h; simp at hb4
  have e2 := ((Ext.refl H).new hb3 (.box [.slice (h.table.women.map eW), .slice (h.table.pieces.map eP), i6 h.table.wrong, .slice (eI h.sick), i6 h.others, i6 h.last, .slice (h.touches.map eTo), .slice (h.boiled.map eB), .slice (h.signs.map eS)])).new hb4 (.box [.slice (eI c.owners), .slice (eI c.hours)])
  simp only [go_sem, reduceIte, reduceCtorEq, Nat.reduceEqDiff, Nat.reduceBEq, Nat.reduceAdd, Nat.reduceMul, Nat.reduceLeDiff, updH_ne _ _ n34]
  refine (last_c h hv c hc more hm).go ?_
  simp only [go_sem, reduceIte, reduceCtorEq, Nat.reduceEqDiff, Nat.reduceBEq, Nat.reduceAdd, Nat.reduceMul, Nat.reduceLeDiff]
  refine x_for h.table.women.length (fun j env H1 => Ext H H1 ∧ H1 b3 = some (.box [.slice (h.table.women.map eW), .slice (h.table.pieces.map eP), i6 h.table.wrong, .slice (eI h.sick), i6 h.others, i6 h.last, .slice (h.touches.map eTo), .slice (h.boiled.map eB), .slice (h.signs.map eS)]) ∧ H1 b4 = some (.box [.slice (eI c.owners), .slice (eI c.hours)]) ∧ env 3 = .ptr b3 0 ∧ env 4 = .ptr b4 0 ∧ env 7 = i6 (natOf (lastOf h c more) : Nat) ∧ env 8 = i6 j ∧ env 26 = .any ∧ ∀ i : Nat, i < j → harmB h c (lastOf h c more) (i : Int) = false)
    ⟨e2, by rw [updH_ne _ _ n34]; exact updH_same _ _ _, updH_same _ _ _, by simp [upd_at], by simp [upd_at], by simp [upd_at], by simp [upd_at], by simp [upd_at], by simp⟩ ?_
  rintro j env H1 hj ⟨hE, hB3, hB4, g3, g4, g7, g8, hN, hq⟩
  have hw := hv.ok.sm.women
  unfold Sm at hw
  by_cases hlt : (j : Int) < (h.table.women.length : Int)
  · have hlt' : j < h.table.women.length := by omega
    simp only [go_sem, reduceIte, reduceCtorEq, Nat.reduceEqDiff, Nat.reduceBEq, Nat.reduceAdd, Nat.reduceMul, Nat.reduceLeDiff, g3, g4, g7, g8, hN, hlt, hB3, hB4, take_f', List.getElem?_cons_zero]
    refine (isHarmed_c h c hv.ok.sk (by have := hc.own; omega) (lastOf h c more) (by omega) j).go ?_
    cases d : harmB h c (lastOf h c more) (j : Int)
    · simp only [go_sem, reduceIte, reduceCtorEq, Nat.reduceEqDiff, Nat.reduceBEq, Nat.reduceAdd, Nat.reduceMul, Nat.reduceLeDiff, g3, g4, g7, g8, hN, hB3, hB4, wsucc (show j < 4611686018427387904 by omega), hlt']
      refine ⟨hE, fun i hi => ?_⟩
      rcases Nat.lt_or_ge i j with h' | h'
      · exact hq i h'
      · have : i = j := by omega
        subst this; exact d
    · simp only [go_sem, reduceIte, reduceCtorEq, Nat.reduceEqDiff, Nat.reduceBEq, Nat.reduceAdd, Nat.reduceMul, Nat.reduceLeDiff, hN]
      refine fin_ret 6 (by simp [upd_at, hN]) ⟨_, H, Settle.refl hE, ?_, rfl⟩
      have : safeR h more c = false := by rw [safeR, List.all_eq_false]; exact ⟨j, by simp [hlt'], by simp [d]⟩
      simp [upd_at, this]
  · simp only [go_sem, reduceIte, reduceCtorEq, Nat.reduceEqDiff, Nat.reduceBEq, Nat.reduceAdd, Nat.reduceMul, Nat.reduceLeDiff, g3, g4, g7, g8, hN, hlt, hB3, take_f', List.getElem?_cons_zero]
    have : j = h.table.women.length := by omega
    subst this
    refine fin_ret 6 (by simp [upd_at, hN]) ⟨_, H, Settle.refl hE, ?_, rfl⟩
    have : safeR h more c = true := by rw [safeR, List.all_eq_true]; intro i hi; simp only [hq i (by simpa using hi), Bool.not_false]
    simp [upd_at, this]
def eCr (c : Course) : List AV := [.slice (eI c.owners), .slice (eI c.hours)]
def eCL (l : List Course) : AV := .slice (l.map eCr)
theorem areSafe_c (h : House) (hv : HV h) (l : List Course) (hl : Sm l.length) (hc : ∀ c ∈ l, CLen h c) (more : List Boiling) (hm : more.length ≤ 1000) : Pure Tryz.prog 55 [eH h, eCL l, .slice (more.map eB)] (.bool (l.all (safeR h more))) := by
  intro H
  unfold Sm at hl
  refine fn_of hmix fc55 (by simp) ?_
  rw [ienv3]
  simp only [go_sem, reduceIte, reduceCtorEq, Nat.reduceEqDiff, Nat.reduceBEq, Nat.reduceAdd, Nat.reduceMul, Nat.reduceLeDiff, ac55, eH, eCL]
  refine v_box _ rfl fun b3 hb3 => ?_
  simp only [go_sem, reduceIte, reduceCtorEq, Nat.reduceEqDiff, Nat.reduceBEq, Nat.reduceAdd, Nat.reduceMul, Nat.reduceLeDiff]
  refine x_for l.length (fun j env H1 => Ext H H1 ∧ H1 b3 = some (.box [.slice (h.table.women.map eW), .slice (h.table.pieces.map eP), i6 h.table.wrong, .slice (eI h.sick), i6 h.others, i6 h.last, .slice (h.touches.map eTo), .slice (h.boiled.map eB), .slice (h.signs.map eS)]) ∧ env 1 = .slice (l.map eCr) ∧ env 2 = .slice (more.map eB) ∧ env 3 = .ptr b3 0 ∧ env 7 = i6 j ∧ env 22 = .any ∧ (l.take j).all (safeR h more) = true)
    ⟨(Ext.refl H).new hb3 _, updH_same _ _ _, by simp [upd_at], by simp [upd_at], by simp [upd_at], by simp [upd_at], by simp [upd_at], by simp⟩ ?_
  rintro j env H1 hj ⟨hE, hB3, g1, g2, g3, g7, hN, hq⟩
  by_cases hlt : (j : Int) < (l.length : Int)
  · have hlt' : j < l.length := by omega
    simp only [go_sem, reduceIte, reduceCtorEq, Nat.reduceEqDiff, Nat.reduceBEq, Nat.reduceAdd, Nat.reduceMul, Nat.reduceLeDiff, g1, g2, g3, g7, hN, hlt, hB3, map_get (f := eCr) hlt', eCr]
    refine pgo_call (isSafe_c h hv l[j] (hc _ (List.getElem_mem hlt')) more hm) ?_
    cases d : safeR h more l[j]
    · simp only [go_sem, reduceIte, reduceCtorEq, Nat.reduceEqDiff, Nat.reduceBEq, Nat.reduceAdd, Nat.reduceMul, Nat.reduceLeDiff, hN]
      refine fin_ret 6 (by simp [upd_at, hN]) ⟨_, H, Settle.refl hE, ?_, rfl⟩
      have : l.all (safeR h more) = false := by rw [List.all_eq_false]; exact ⟨l[j], List.getElem_mem _, by simp [d]⟩
      simp [upd_at, this]
    · simp only [go_sem, reduceIte, reduceCtorEq, Nat.reduceEqDiff, Nat.reduceBEq, Nat.reduceAdd, Nat.reduceMul, Nat.reduceLeDiff, g1, g2, g3, g7, hN, hB3, wsucc (show j < 4611686018427387904 by omega), hlt']
      refine ⟨hE, ?_⟩
      rw [take_snoc hlt', List.all_append, hq, List.all_cons, d]; rfl
  · simp only [go_sem, reduceIte, reduceCtorEq, Nat.reduceEqDiff, Nat.reduceBEq, Nat.reduceAdd, Nat.reduceMul, Nat.reduceLeDiff, g1, g2, g3, g7, hN, hlt]
    have : j = l.length := by omega
    subst this
    rw [List.take_length] at hq
    refine fin_ret 6 (by simp [upd_at, hN]) ⟨_, H, Settle.refl hE, ?_, rfl⟩
    simp [upd_at, hq]
end Go.Lift

set_option linter.unusedSimpArgs false
set_option linter.unusedVariables false
namespace Go.Lift
open Go Go.Proofs
def signAt (h : House) (bs : List Bool) (i : Nat) : Bool := bs.getD (h.signs.getD i default).thing.toNat false == (h.signs.getD i default).carries
def signsL (h : House) (c : Course) : List Bool := (List.range h.signs.length).map (signAt h (lastOf h c []))
theorem rightH_c (h : House) (hv : HV h) (c : Course) (hc : CLen h c) : Pure Tryz.prog 86 [eH h, eC c] (i6 (natOf (signsL h c) : Nat)) := by
  intro H
  have hsg := hv.ok.signs
  have hll := lastOf_len h c []
  refine fn_of hmix fc86 (by simp) ?_
  rw [ienv2]
  simp only [go_sem, reduceIte, reduceCtorEq, Nat.reduceEqDiff, Nat.reduceBEq, Nat.reduceAdd, Nat.reduceMul, Nat.reduceLeDiff, ac86, eH, eC]
  refine v_box _ rfl fun b2 hb2 => ?_
  simp only [go_sem, reduceIte, reduceCtorEq, Nat.reduceEqDiff, Nat.reduceBEq, Nat.reduceAdd, Nat.reduceMul, Nat.reduceLeDiff]
  refine v_box _ rfl fun b3 hb3 => ?_
  have n23 : b2 ≠ b3 := fun h => by subst h; simp at hb3
  have e2 := ((Ext.refl H).new hb2 (.box [.slice (h.table.women.map eW), .slice (h.table.pieces.map eP), i6 h.table.wrong, .slice (eI h.sick), i6 h.others, i6 h.last, .slice (h.touches.map eTo), .slice (h.boiled.map eB), .slice (h.signs.map eS)])).new hb3 (.box [.slice (eI c.owners), .slice (eI c.hours)])
  simp only [go_sem, reduceIte, reduceCtorEq, Nat.reduceEqDiff, Nat.reduceBEq, Nat.reduceAdd, Nat.reduceMul, Nat.reduceLeDiff, updH_ne _ _ n23]
  refine (Pure.emp2 (last_c h hv c hc [] (by simp))).go ?_
  simp only [go_sem, reduceIte, reduceCtorEq, Nat.reduceEqDiff, Nat.reduceBEq, Nat.reduceAdd, Nat.reduceMul, Nat.reduceLeDiff]
  refine x_for h.signs.length (fun j env H1 => Ext H H1 ∧ H1 b2 = some (.box [.slice (h.table.women.map eW), .slice (h.table.pieces.map eP), i6 h.table.wrong, .slice (eI h.sick), i6 h.others, i6 h.last, .slice (h.touches.map eTo), .slice (h.boiled.map eB), .slice (h.signs.map eS)]) ∧ env 2 = .ptr b2 0 ∧ env 5 = i6 (natOf ((List.range j).map (signAt h (lastOf h c []))) : Nat) ∧ env 6 = i6 (natOf (lastOf h c []) : Nat) ∧ env 7 = i6 j ∧ env 42 = .any)
    ⟨e2, by rw [updH_ne _ _ n23]; exact updH_same _ _ _, by simp [upd_at], by simp [upd_at, natOf], by simp [upd_at], by simp [upd_at], by simp [upd_at]⟩ ?_
  rintro j env H1 hj ⟨hE, hB, g2, g5, g6, g7, hN⟩
  by_cases hlt : (j : Int) < (h.signs.length : Int)
  · have hlt' : j < h.signs.length := by omega
    have hget : h.signs.getD j default = h.signs[j] := by simp [hlt']
    obtain ⟨a, ha, ha10⟩ := hv.ok.sign _ (List.getElem_mem hlt')
    have hsn : natOf ((List.range (j + 1)).map (signAt h (lastOf h c []))) = if signAt h (lastOf h c []) j = true then natOf ((List.range j).map (signAt h (lastOf h c []))) ||| 2 ^ j else natOf ((List.range j).map (signAt h (lastOf h c []))) := by
      rw [List.range_succ, List.map_append, List.map_cons, List.map_nil, natOf_snoc]; simp
    have handp := w_and (natOf_lt62 (c := lastOf h c []) (by omega)) (two_lt (show a < 62 by omega))
    have hor := w_or (natOf_lt62 (c := (List.range j).map (signAt h (lastOf h c []))) (by simp; omega)) (two_lt (show j < 62 by omega))
    have hne : (!decide (((natOf (lastOf h c []) &&& 2 ^ a : Nat) : Int) = 0)) = (lastOf h c []).getD a false := by
      rw [Bool.eq_iff_iff, ← natOf_and]
      simp only [Bool.not_eq_true', decide_eq_false_iff_not]
      omega
    have hsa : signAt h (lastOf h c []) j = ((lastOf h c []).getD a false == h.signs[j].carries) := by
      rw [signAt, hget, ha]; rfl
    simp only [↓aops_nil, ↓aops_go, ↓aops_go0, ↓aops_if, ↓k_cont, ↓k_cont0, g_tt, g_ff, g_tf, g_ft, g_u, ↓apre_nil, ↓apre_if, ↓apre_go, pgo_det, Tag.isCall, popt_some, gp_tt, gp_ff, gp_tf, gp_ft, gp_u, ↓k_draw, opt_some, List.map_cons, List.map_nil, ev, upd_at, ↓x_skip, ↓x_label, ↓x_ret, ↓x_exit, ↓x_seq, ↓x_block, ↓x_ops, ↓x_cond, x_sel_t, x_sel_f, ↓x_draw, ↓q_kseq_n, ↓q_kseq_r, ↓q_kseq_e, ↓q_block_n, ↓q_block_r, ↓q_block_e, ↓q_loop_n, ↓q_loop_r, ↓q_loop_e, ↓l_done, d_mov, d_pick, d_not, d_nilchk, d_nilchk', d_conv, d_add, d_sub, d_mul, d_quo, d_rem, d_shl, d_shr, d_and, d_or, d_andnot, d_eql, d_neq, d_lss, d_leq, d_gtr, d_geq, d_eqb, d_neqb, d_mkfunc, d_load, d_fieldaddr, d_fieldaddr', d_field_t, d_field_f, d_idxaddr, d_idxaddr_g, elemO_some, d_idxaddr_m, d_arraddr, d_arraddr', d_idx_f, d_sub_s, d_sub_g, d_arrsub, d_arrall, d_extract, d_len, d_len_g, d_len_e, d_len_m, d_min, d_build, d_bslice0, d_bs1, d_bs2, d_bsa, d_eqagg, v_mov, v_pick, v_not, v_nilchk, v_conv, v_bin, v_binb, v_eqagg, v_mkfunc, v_load, v_fieldaddr, v_field, v_idxaddr, v_arraddr, v_idx, v_sub, v_arrsub, v_arrall, v_extract, v_len, v_min, v_build, v_bslice, v_lookup, v_call, v_callv, Nat.reduceEqDiff, Nat.reduceBEq, reduceIte, ite_true, ite_false, Bool.false_eq_true, Bool.true_eq_false, if_true, if_false, decide_eq_true_eq, decide_eq_false_iff_not, decide_true, decide_false, Nat.zero_add, Nat.add_zero, Nat.reduceAdd, reduceCtorEq, eq_self, not_true_eq_false, not_false_eq_true, Bool.not_true, Bool.not_false, Nat.reduceMul, List.length_cons, List.length_nil, at_elem, take_f, take_tt, Int.toNat_natCast, Option.some.injEq, Option.bind_some, Int.natCast_nonneg, true_and, and_true, and_self, ↓q_for_n, ↓q_for_r, ↓q_for_e, eI_len, List.length_map, at_obj, obj_box, updH_same, Nat.reduceLeDiff, Nat.zero_le, Nat.le_refl, List.drop_zero, List.drop_succ_cons, List.take_succ_cons, List.take_zero, c_agg, c_int, c_bool, c_slice, c_emp, c_grow, ↓l_one0, ↓l_one1, ↓k_l0, ↓k_l1, stab_nil, stab_cons, stab_if, st_tt, st_ff, st_tf, st_ft, st_u, g2, g5, g6, g7, hN, hlt, hB, take_f', List.getElem?_cons_zero, List.getElem?_cons_succ, map_get (f := eS) hlt', eS, ha, u64w (show a < 2 ^ 62 by omega), w_shl1 (show a < 62 by omega), show ¬ ((a : Int) < 0) by omega, handp, hne, ← hsa]
    cases hs : signAt h (lastOf h c []) j
    · simp only [↓aops_nil, ↓aops_go, ↓aops_go0, ↓aops_if, ↓k_cont, ↓k_cont0, g_tt, g_ff, g_tf, g_ft, g_u, ↓apre_nil, ↓apre_if, ↓apre_go, pgo_det, Tag.isCall, popt_some, gp_tt, gp_ff, gp_tf, gp_ft, gp_u, ↓k_draw, opt_some, List.map_cons, List.map_nil, ev, upd_at, ↓x_skip, ↓x_label, ↓x_ret, ↓x_exit, ↓x_seq, ↓x_block, ↓x_ops, ↓x_cond, x_sel_t, x_sel_f, ↓x_draw, ↓q_kseq_n, ↓q_kseq_r, ↓q_kseq_e, ↓q_block_n, ↓q_block_r, ↓q_block_e, ↓q_loop_n, ↓q_loop_r, ↓q_loop_e, ↓l_done, d_mov, d_pick, d_not, d_nilchk, d_nilchk', d_conv, d_add, d_sub, d_mul, d_quo, d_rem, d_shl, d_shr, d_and, d_or, d_andnot, d_eql, d_neq, d_lss, d_leq, d_gtr, d_geq, d_eqb, d_neqb, d_mkfunc, d_load, d_fieldaddr, d_fieldaddr', d_field_t, d_field_f, d_idxaddr, d_idxaddr_g, elemO_some, d_idxaddr_m, d_arraddr, d_arraddr', d_idx_f, d_sub_s, d_sub_g, d_arrsub, d_arrall, d_extract, d_len, d_len_g, d_len_e, d_len_m, d_min, d_build, d_bslice0, d_bs1, d_bs2, d_bsa, d_eqagg, v_mov, v_pick, v_not, v_nilchk, v_conv, v_bin, v_binb, v_eqagg, v_mkfunc, v_load, v_fieldaddr, v_field, v_idxaddr, v_arraddr, v_idx, v_sub, v_arrsub, v_arrall, v_extract, v_len, v_min, v_build, v_bslice, v_lookup, v_call, v_callv, Nat.reduceEqDiff, Nat.reduceBEq, reduceIte, ite_true, ite_false, Bool.false_eq_true, Bool.true_eq_false, if_true, if_false, decide_eq_true_eq, decide_eq_false_iff_not, decide_true, decide_false, Nat.zero_add, Nat.add_zero, Nat.reduceAdd, reduceCtorEq, eq_self, not_true_eq_false, not_false_eq_true, Bool.not_true, Bool.not_false, Nat.reduceMul, List.length_cons, List.length_nil, at_elem, take_f, take_tt, Int.toNat_natCast, Option.some.injEq, Option.bind_some, Int.natCast_nonneg, true_and, and_true, and_self, ↓q_for_n, ↓q_for_r, ↓q_for_e, eI_len, List.length_map, at_obj, obj_box, updH_same, Nat.reduceLeDiff, Nat.zero_le, Nat.le_refl, List.drop_zero, List.drop_succ_cons, List.take_succ_cons, List.take_zero, c_agg, c_int, c_bool, c_slice, c_emp, c_grow, ↓l_one0, ↓l_one1, ↓k_l0, ↓k_l1, stab_nil, stab_cons, stab_if, st_tt, st_ff, st_tf, st_ft, st_u, g2, g5, g6, g7, hN, hB, wsucc (show j < 4611686018427387904 by omega), hlt']
      refine ⟨hE, ?_⟩
      rw [hsn, hs]; rfl
    · simp only [↓aops_nil, ↓aops_go, ↓aops_go0, ↓aops_if, ↓k_cont, ↓k_cont0, g_tt, g_ff, g_tf, g_ft, g_u, ↓apre_nil, ↓apre_if, ↓apre_go, pgo_det, Tag.isCall, popt_some, gp_tt, gp_ff, gp_tf, gp_ft, gp_u, ↓k_draw, opt_some, List.map_cons, List.map_nil, ev, upd_at, ↓x_skip, ↓x_label, ↓x_ret, ↓x_exit, ↓x_seq, ↓x_block, ↓x_ops, ↓x_cond, x_sel_t, x_sel_f, ↓x_draw, ↓q_kseq_n, ↓q_kseq_r, ↓q_kseq_e, ↓q_block_n, ↓q_block_r, ↓q_block_e, ↓q_loop_n, ↓q_loop_r, ↓q_loop_e, ↓l_done, d_mov, d_pick, d_not, d_nilchk, d_nilchk', d_conv, d_add, d_sub, d_mul, d_quo, d_rem, d_shl, d_shr, d_and, d_or, d_andnot, d_eql, d_neq, d_lss, d_leq, d_gtr, d_geq, d_eqb, d_neqb, d_mkfunc, d_load, d_fieldaddr, d_fieldaddr', d_field_t, d_field_f, d_idxaddr, d_idxaddr_g, elemO_some, d_idxaddr_m, d_arraddr, d_arraddr', d_idx_f, d_sub_s, d_sub_g, d_arrsub, d_arrall, d_extract, d_len, d_len_g, d_len_e, d_len_m, d_min, d_build, d_bslice0, d_bs1, d_bs2, d_bsa, d_eqagg, v_mov, v_pick, v_not, v_nilchk, v_conv, v_bin, v_binb, v_eqagg, v_mkfunc, v_load, v_fieldaddr, v_field, v_idxaddr, v_arraddr, v_idx, v_sub, v_arrsub, v_arrall, v_extract, v_len, v_min, v_build, v_bslice, v_lookup, v_call, v_callv, Nat.reduceEqDiff, Nat.reduceBEq, reduceIte, ite_true, ite_false, Bool.false_eq_true, Bool.true_eq_false, if_true, if_false, decide_eq_true_eq, decide_eq_false_iff_not, decide_true, decide_false, Nat.zero_add, Nat.add_zero, Nat.reduceAdd, reduceCtorEq, eq_self, not_true_eq_false, not_false_eq_true, Bool.not_true, Bool.not_false, Nat.reduceMul, List.length_cons, List.length_nil, at_elem, take_f, take_tt, Int.toNat_natCast, Option.some.injEq, Option.bind_some, Int.natCast_nonneg, true_and, and_true, and_self, ↓q_for_n, ↓q_for_r, ↓q_for_e, eI_len, List.length_map, at_obj, obj_box, updH_same, Nat.reduceLeDiff, Nat.zero_le, Nat.le_refl, List.drop_zero, List.drop_succ_cons, List.take_succ_cons, List.take_zero, c_agg, c_int, c_bool, c_slice, c_emp, c_grow, ↓l_one0, ↓l_one1, ↓k_l0, ↓k_l1, stab_nil, stab_cons, stab_if, st_tt, st_ff, st_tf, st_ft, st_u, g2, g5, g6, g7, hN, hB, u64w (show j < 2 ^ 62 by omega), w_shl1 (show j < 62 by omega), show ¬ ((j : Int) < 0) by omega, hor, wsucc (show j < 4611686018427387904 by omega), hlt']
      refine ⟨hE, ?_⟩
      rw [hsn, hs]; rfl
  · simp only [go_sem, reduceIte, reduceCtorEq, Nat.reduceEqDiff, Nat.reduceBEq, Nat.reduceAdd, Nat.reduceMul, Nat.reduceLeDiff, g2, g5, g6, g7, hN, hlt, hB, take_f', List.getElem?_cons_zero]
    have : j = h.signs.length := by omega
    subst this
    refine fin_ret 4 (by simp [upd_at, hN]) ⟨_, H, Settle.refl hE, ?_, rfl⟩
    simp [upd_at, signsL]
def fullN (h : House) : Nat := 2 ^ h.signs.length - 1
theorem fullH_c (h : House) (hsg : h.signs.length ≤ 60) : Pure Tryz.prog 49 [eH h] (i6 (fullN h : Nat)) := by
  intro H
  refine fn_of hmix fc49 (by simp) ?_
  rw [ienv1]
  simp only [go_sem, reduceIte, reduceCtorEq, Nat.reduceEqDiff, Nat.reduceBEq, Nat.reduceAdd, Nat.reduceMul, Nat.reduceLeDiff, ac49, eH]
  refine v_box _ rfl fun b1 hb1 => ?_
  have hp : 1 ≤ 2 ^ h.signs.length := Nat.one_le_two_pow
  have hp2 := two_lt (show h.signs.length < 62 by omega)
  have hs : IntKind.i64.wrap (((2 ^ h.signs.length : Nat) : Int) - 1) = ((fullN h : Nat) : Int) := by
    rw [fullN]
    generalize 2 ^ h.signs.length = q at hp hp2
    rw [w64 (by omega) (by omega)]; omega
  simp only [↓aops_nil, ↓aops_go, ↓aops_go0, ↓aops_if, ↓k_cont, ↓k_cont0, g_tt, g_ff, g_tf, g_ft, g_u, ↓apre_nil, ↓apre_if, ↓apre_go, pgo_det, Tag.isCall, popt_some, gp_tt, gp_ff, gp_tf, gp_ft, gp_u, ↓k_draw, opt_some, List.map_cons, List.map_nil, ev, upd_at, ↓x_skip, ↓x_label, ↓x_ret, ↓x_exit, ↓x_seq, ↓x_block, ↓x_ops, ↓x_cond, x_sel_t, x_sel_f, ↓x_draw, ↓q_kseq_n, ↓q_kseq_r, ↓q_kseq_e, ↓q_block_n, ↓q_block_r, ↓q_block_e, ↓q_loop_n, ↓q_loop_r, ↓q_loop_e, ↓l_done, d_mov, d_pick, d_not, d_nilchk, d_nilchk', d_conv, d_add, d_sub, d_mul, d_quo, d_rem, d_shl, d_shr, d_and, d_or, d_andnot, d_eql, d_neq, d_lss, d_leq, d_gtr, d_geq, d_eqb, d_neqb, d_mkfunc, d_load, d_fieldaddr, d_fieldaddr', d_field_t, d_field_f, d_idxaddr, d_idxaddr_g, elemO_some, d_idxaddr_m, d_arraddr, d_arraddr', d_idx_f, d_sub_s, d_sub_g, d_arrsub, d_arrall, d_extract, d_len, d_len_g, d_len_e, d_len_m, d_min, d_build, d_bslice0, d_bs1, d_bs2, d_bsa, d_eqagg, v_mov, v_pick, v_not, v_nilchk, v_conv, v_bin, v_binb, v_eqagg, v_mkfunc, v_load, v_fieldaddr, v_field, v_idxaddr, v_arraddr, v_idx, v_sub, v_arrsub, v_arrall, v_extract, v_len, v_min, v_build, v_bslice, v_lookup, v_call, v_callv, Nat.reduceEqDiff, Nat.reduceBEq, reduceIte, ite_true, ite_false, Bool.false_eq_true, Bool.true_eq_false, if_true, if_false, decide_eq_true_eq, decide_eq_false_iff_not, decide_true, decide_false, Nat.zero_add, Nat.add_zero, Nat.reduceAdd, reduceCtorEq, eq_self, not_true_eq_false, not_false_eq_true, Bool.not_true, Bool.not_false, Nat.reduceMul, List.length_cons, List.length_nil, at_elem, take_f, take_tt, Int.toNat_natCast, Option.some.injEq, Option.bind_some, Int.natCast_nonneg, true_and, and_true, and_self, ↓q_for_n, ↓q_for_r, ↓q_for_e, eI_len, List.length_map, at_obj, obj_box, updH_same, Nat.reduceLeDiff, Nat.zero_le, Nat.le_refl, List.drop_zero, List.drop_succ_cons, List.take_succ_cons, List.take_zero, c_agg, c_int, c_bool, c_slice, c_emp, c_grow, take_f', List.getElem?_cons_zero, u64w (show h.signs.length < 2 ^ 62 by omega), w_shl1 (show h.signs.length < 62 by omega), show ¬ ((h.signs.length : Int) < 0) by omega, hs]
  refine fin_ret 2 (by simp [upd_at]) ⟨_, H, Settle.refl ((Ext.refl H).new hb1 _), ?_, rfl⟩
  simp [upd_at]
theorem signs_full {h : House} (c : Course) : natOf (signsL h c) = fullN h ↔ isTrue h [] c = true := by
  have hl : (signsL h c).length = h.signs.length := by simp [signsL]
  have key : natOf (signsL h c) = fullN h ↔ ∀ i, i < h.signs.length → signAt h (lastOf h c []) i = true := by
    constructor
    · intro he i hi
      have h1 : (natOf (signsL h c)).testBit i = (fullN h).testBit i := by rw [he]
      rw [natOf_bit, fullN, Nat.testBit_two_pow_sub_one] at h1
      have h2 : (signsL h c).getD i false = signAt h (lastOf h c []) i := by simp [signsL, hi]
      rw [h2] at h1; rw [h1]; simp [hi]
    · intro hall
      apply Nat.eq_of_testBit_eq
      intro i
      rw [natOf_bit, fullN, Nat.testBit_two_pow_sub_one]
      by_cases hi : i < h.signs.length
      · have h2 : (signsL h c).getD i false = signAt h (lastOf h c []) i := by simp [signsL, hi]
        rw [h2, hall i hi]; simp [hi]
      · rw [List.getD_eq_getElem?_getD, List.getElem?_eq_none (by omega)]; simp [hi]
  rw [key, isTrue, rightOK, List.all_eq_true]
  constructor
  · intro hall i hi
    have := hall i (by simpa using hi)
    rw [signAt] at this
    rw [signRight]
    simp only [List.not_mem_nil, decide_false, Bool.false_or]
    rw [beq_iff_eq] at this
    rw [this]; simp
  · intro hall i hi
    have := hall i (by simpa using hi)
    rw [signRight] at this
    simp only [List.not_mem_nil, decide_false, Bool.false_or] at this
    rw [signAt, beq_iff_eq]
    simpa using this
end Go.Lift

set_option linter.unusedSimpArgs false
set_option linter.unusedVariables false
namespace Go.Lift
open Go Go.Proofs
def hrsGo (h : House) : Nat → Nat → Nat → List Int
  | 0, _, _ => []
  | k + 1, j, n => ((h.touches.getD j default).lo + ((n % hourN h j : Nat) : Int)) :: hrsGo h k (j + 1) (n / hourN h j)
theorem hrsGo_len (h : House) : ∀ k j n, (hrsGo h k j n).length = k
  | 0, _, _ => rfl
  | k + 1, j, n => by rw [hrsGo, List.length_cons, hrsGo_len h k]
def hrsOf (h : House) (n : Nat) : List Int := hrsGo h h.touches.length 0 n
theorem hours_c (h : House) (hv : HV h) (n : Nat) (hn : n < 2 ^ 62) : Pure Tryz.prog 90 [eH h, i6 n] (.slice (eI (hrsOf h n))) := by
  intro H
  have hm6 := hv.ok.touches
  refine fn_of hmix fc90 (by simp) ?_
  rw [ienv2]
  simp only [go_sem, reduceIte, reduceCtorEq, Nat.reduceEqDiff, Nat.reduceBEq, Nat.reduceAdd, Nat.reduceMul, Nat.reduceLeDiff, ac90, eH]
  refine v_box _ rfl fun b2 hb2 => ?_
  simp only [go_sem, reduceIte, reduceCtorEq, Nat.reduceEqDiff, Nat.reduceBEq, Nat.reduceAdd, Nat.reduceMul, Nat.reduceLeDiff]
  refine x_for h.touches.length (fun j env H1 => Ext H H1 ∧ H1 b2 = some (.box [.slice (h.table.women.map eW), .slice (h.table.pieces.map eP), i6 h.table.wrong, .slice (eI h.sick), i6 h.others, i6 h.last, .slice (h.touches.map eTo), .slice (h.boiled.map eB), .slice (h.signs.map eS)]) ∧ (∃ (out : List Int) (nk : Nat), nk < 2 ^ 62 ∧ out.length = j ∧ hrsOf h n = out ++ hrsGo h (h.touches.length - j) j nk ∧ Grown 1 H H1 (env 5) (eI out) ∧ env 1 = i6 nk) ∧ env 2 = .ptr b2 0 ∧ env 6 = i6 j ∧ env 41 = .any)
    ⟨(Ext.refl H).new hb2 _, updH_same _ _ _, ⟨[], n, hn, rfl, by simp [hrsOf], .inl ⟨by simp [upd_at], rfl⟩, by simp [upd_at]⟩, by simp [upd_at], by simp [upd_at], by simp [upd_at]⟩ ?_
  rintro j env H1 hj ⟨hE, hB, ⟨out, nk, hnk, hol, heq, hG, g1⟩, g2, g6, hN⟩
  by_cases hlt : (j : Int) < (h.touches.length : Int)
  · have hlt' : j < h.touches.length := by omega
    have hget : h.touches.getD j default = h.touches[j] := by simp [hlt']
    obtain ⟨t1, t2, t3⟩ := hv.tim _ (List.getElem_mem hlt')
    have hsz : h.touches[j].hi - h.touches[j].lo + 1 = ((hourN h j : Nat) : Int) := by rw [hourN, hget]; omega
    have hp : 1 ≤ hourN h j := by omega
    have hw1 := w64 (x := h.touches[j].hi - h.touches[j].lo) (by omega) (by omega)
    have hw2 : IntKind.i64.wrap (h.touches[j].hi - h.touches[j].lo + 1) = ((hourN h j : Nat) : Int) := by rw [w64 (by omega) (by omega), hsz]
    have hne : ¬ ((hourN h j : Nat) : Int) = 0 := by omega
    have hrem : (nk : Int).tmod ((hourN h j : Nat) : Int) = ((nk % hourN h j : Nat) : Int) := (Int.ofNat_tmod nk (hourN h j)).symm
    have hquo : (nk : Int).tdiv ((hourN h j : Nat) : Int) = ((nk / hourN h j : Nat) : Int) := (Int.ofNat_tdiv nk (hourN h j)).symm
    have hml : nk % hourN h j < hourN h j := Nat.mod_lt _ hp
    have hdl : nk / hourN h j < 2 ^ 62 := Nat.lt_of_le_of_lt (Nat.div_le_self _ _) hnk
    have hwd : IntKind.i64.wrap ((nk / hourN h j : Nat) : Int) = ((nk / hourN h j : Nat) : Int) := by
      generalize nk / hourN h j = q at hdl
      exact w64 (by omega) (by omega)
    have hwa : IntKind.i64.wrap (h.touches[j].lo + ((nk % hourN h j : Nat) : Int)) = h.touches[j].lo + ((nk % hourN h j : Nat) : Int) := by
      generalize nk % hourN h j = q at hml
      exact w64 (by omega) (by omega)
    simp only [go_sem, reduceIte, reduceCtorEq, Nat.reduceEqDiff, Nat.reduceBEq, Nat.reduceAdd, Nat.reduceMul, Nat.reduceLeDiff, g1, g2, g6, hN, hB, hlt, take_f', List.getElem?_cons_zero, map_get (f := eTo) hlt', eTo]
    refine v_alloc fun b7 hb7 => ?_
    have n27 : b2 ≠ b7 := fun h => by subst h; rw [hB] at hb7; cases hb7
    simp only [go_sem, reduceIte, reduceCtorEq, Nat.reduceEqDiff, Nat.reduceBEq, Nat.reduceAdd, Nat.reduceMul, Nat.reduceLeDiff, g1, g2, g6, hN]
    rw [v_store]
    refine ⟨rfl, rfl, by simp [AV.cells, AV.isCell], _, updH_same _ _ _, by simp, ?_⟩
    have hE7 : ∀ o1 o2, Ext H (updH (updH H1 b7 o1) b7 o2) := fun o1 o2 => (hE.new hb7 _).upd (hE.isNone hb7) _
    have hG7 : ∀ cs o2, Grown 1 H (updH (updH H1 b7 (.box cs)) b7 o2) (env 5) (eI out) := fun cs o2 => (hG.new hb7 (.box cs)).store (updH_same _ _ _) o2
    simp only [go_sem, reduceIte, reduceCtorEq, Nat.reduceEqDiff, Nat.reduceBEq, Nat.reduceAdd, Nat.reduceMul, Nat.reduceLeDiff, g1, g2, g6, hN, placeAt, List.append_nil, List.nil_append, List.drop_nil, take_f', List.getElem?_cons_zero, List.getElem?_cons_succ, hw1, hw2, hne, hrem, hwa]
    refine v_append (hG7 _ _) (hE7 _ _) rfl (eI_good _) (one_good _) (one_cell _) (by simp; omega) (by simp; omega) ?_
    intro v' H2 hg' he' hk'
    have C2 : H2 b2 = some (.box [.slice (h.table.women.map eW), .slice (h.table.pieces.map eP), i6 h.table.wrong, .slice (eI h.sick), i6 h.others, i6 h.last, .slice (h.touches.map eTo), .slice (h.boiled.map eB), .slice (h.signs.map eS)]) := hk'.box (hG7 _ _) (by rw [updH_ne _ _ n27, updH_ne _ _ n27]; exact hB)
    simp only [go_sem, reduceIte, reduceCtorEq, Nat.reduceEqDiff, Nat.reduceBEq, Nat.reduceAdd, Nat.reduceMul, Nat.reduceLeDiff, g1, g2, g6, hN, hne, hquo, hwd, wsucc (show j < 4611686018427387904 by omega), hlt', C2]
    refine ⟨he', out ++ [h.touches[j].lo + ((nk % hourN h j : Nat) : Int)], nk / hourN h j, hdl, by simp [hol], ?_, by rw [eI_app]; exact hg', rfl⟩
    rw [heq, show h.touches.length - j = (h.touches.length - (j + 1)) + 1 by omega, hrsGo, hget, List.append_assoc]; rfl
  · simp only [go_sem, reduceIte, reduceCtorEq, Nat.reduceEqDiff, Nat.reduceBEq, Nat.reduceAdd, Nat.reduceMul, Nat.reduceLeDiff, g1, g2, g6, hN, hB, hlt, take_f', List.getElem?_cons_zero]
    have : j = h.touches.length := by omega
    subst this
    refine fin_ret 4 (by simp [upd_at, hN]) ⟨_, H, ?_, rfl, rfl⟩
    simp only [upd_at, if_true]
    rw [heq, Nat.sub_self, hrsGo, List.append_nil]
    exact hG.weaken hE
theorem eCr_good (l : List Course) : goodEls 2 (l.map eCr) := by
  intro e he; rw [List.mem_map] at he; obtain ⟨x, _, rfl⟩ := he; rfl
theorem eCr_cell (l : List Course) : cellEls (l.map eCr) := by
  intro e he x hx; rw [List.mem_map] at he; obtain ⟨y, _, rfl⟩ := he
  simp only [eCr, List.mem_cons, List.not_mem_nil, or_false] at hx
  rcases hx with rfl | rfl <;> rfl
def rowR (h : House) (j : Nat) (o : List Int) : List Course := (List.range j).map fun n => ⟨o, hrsOf h n⟩
def coursesR (h : House) : List Course := (truthsR h.table).flatMap (rowR h (timesR h h.touches.length))
theorem truthsR_size (t : Table) : (truthsR t).length ≤ 3000 := Nat.le_trans (ownersUpto_len t _) (Nat.min_le_left _ _)
theorem truthsR_own {t : Table} {o : List Int} (ho : o ∈ truthsR t) : o.length = t.pieces.length := by
  simp only [truthsR, ownersUpto, List.mem_filter, List.mem_map] at ho
  obtain ⟨⟨n, _, rfl⟩, _⟩ := ho
  exact nthL_len _ _ _
theorem flat_len (h : House) (T : Nat) : ∀ l : List (List Int), (l.flatMap (rowR h T)).length = l.length * T
  | [] => by simp
  | o :: l => by rw [List.flatMap_cons, List.length_append, flat_len h T l, List.length_cons, Nat.add_mul]; simp [rowR]; omega
theorem coursesR_c (h : House) (hv : HV h) : Pure Tryz.prog 36 [eH h] (eCL (coursesR h)) := by
  intro H
  have hm6 := hv.ok.touches
  have hts := truthsR_size h.table
  have hT : timesR h h.touches.length ≤ 3000 := Nat.min_le_left _ _
  obtain ⟨tr, htr⟩ : ∃ tr, tr = truthsR h.table := ⟨_, rfl⟩
  obtain ⟨T, hTe⟩ : ∃ T, T = timesR h h.touches.length := ⟨_, rfl⟩
  refine fn_of hmix fc36 (by simp) ?_
  rw [ienv1]
  simp only [go_sem, reduceIte, reduceCtorEq, Nat.reduceEqDiff, Nat.reduceBEq, Nat.reduceAdd, Nat.reduceMul, Nat.reduceLeDiff, ac36, eH]
  refine v_box _ rfl fun b1 hb1 => ?_
  simp only [go_sem, reduceIte, reduceCtorEq, Nat.reduceEqDiff, Nat.reduceBEq, Nat.reduceAdd, Nat.reduceMul, Nat.reduceLeDiff]
  refine (truthsR_c h.table hv.ok.sm hv.tab).go ?_
  rw [coursesR, ← htr, ← hTe]
  rw [← htr] at hts
  simp only [go_sem, reduceIte, reduceCtorEq, Nat.reduceEqDiff, Nat.reduceBEq, Nat.reduceAdd, Nat.reduceMul, Nat.reduceLeDiff, eII]
  refine x_for tr.length (fun j env H1 => Ext H H1 ∧ H1 b1 = some (.box [.slice (h.table.women.map eW), .slice (h.table.pieces.map eP), i6 h.table.wrong, .slice (eI h.sick), i6 h.others, i6 h.last, .slice (h.touches.map eTo), .slice (h.boiled.map eB), .slice (h.signs.map eS)]) ∧ Grown 2 H H1 (env 3) (((tr.take j).flatMap (rowR h T)).map eCr) ∧ env 1 = .ptr b1 0 ∧ env 4 = .slice (tr.map fun x => [AV.slice (eI x)]) ∧ env 5 = i6 j ∧ env 34 = .any)
    ⟨(Ext.refl H).new hb1 _, updH_same _ _ _, .inl ⟨by simp [upd_at], rfl⟩, by simp [upd_at], by simp [upd_at], by simp [upd_at], by simp [upd_at]⟩ ?_
  rintro j env H1 hj ⟨hE, hB, hG, g1, g4, g5, hN⟩
  by_cases hlt : (j : Int) < (tr.length : Int)
  rotate_left
  · simp only [go_sem, reduceIte, reduceCtorEq, Nat.reduceEqDiff, Nat.reduceBEq, Nat.reduceAdd, Nat.reduceMul, Nat.reduceLeDiff, g1, g4, g5, hN, hlt]
    have : j = tr.length := by omega
    subst this
    refine fin_ret 2 (by simp [upd_at, hN]) ⟨_, H, ?_, rfl, rfl⟩
    simp only [upd_at, if_true]
    rw [List.take_length] at hG
    exact hG.weaken hE
  have hlt' : j < tr.length := by omega
  simp only [go_sem, reduceIte, reduceCtorEq, Nat.reduceEqDiff, Nat.reduceBEq, Nat.reduceAdd, Nat.reduceMul, Nat.reduceLeDiff, g1, g4, g5, hN, hlt]
  refine x_for T (fun n env H1 => Ext H H1 ∧ H1 b1 = some (.box [.slice (h.table.women.map eW), .slice (h.table.pieces.map eP), i6 h.table.wrong, .slice (eI h.sick), i6 h.others, i6 h.last, .slice (h.touches.map eTo), .slice (h.boiled.map eB), .slice (h.signs.map eS)]) ∧ Grown 2 H H1 (env 3) (((tr.take j).flatMap (rowR h T) ++ rowR h n tr[j]).map eCr) ∧ env 1 = .ptr b1 0 ∧ env 4 = .slice (tr.map fun x => [AV.slice (eI x)]) ∧ env 5 = i6 j ∧ env 6 = i6 n ∧ env 34 = .any)
    ⟨hE, hB, by simpa [upd_at, rowR] using hG, by simp [upd_at, g1], by simp [upd_at, g4], by simp [upd_at, g5], by simp [upd_at], by simp [upd_at, hN]⟩ ?_
  clear hE hB hG g1 g4 g5 hN hlt env H1
  rintro n env H1 hn ⟨hE, hB, hG, g1, g4, g5, g6, hN⟩
  simp only [go_sem, reduceIte, reduceCtorEq, Nat.reduceEqDiff, Nat.reduceBEq, Nat.reduceAdd, Nat.reduceMul, Nat.reduceLeDiff, g1, g4, g5, g6, hN, hB]
  refine (timesR_c h hm6 hv.tim).go ?_
  rw [← hTe]
  by_cases hlt : (n : Int) < (T : Int)
  · have hltn : n < T := by omega
    simp only [go_sem, reduceIte, reduceCtorEq, Nat.reduceEqDiff, Nat.reduceBEq, Nat.reduceAdd, Nat.reduceMul, Nat.reduceLeDiff, g1, g4, g5, g6, hN, hlt, hB, map_get (f := fun x : List Int => [AV.slice (eI x)]) hlt', take_f', List.getElem?_cons_zero]
    refine pgo_call (hours_c h hv n (by omega)) ?_
    have hsz : ((tr.take j).flatMap (rowR h T)).length ≤ 3000 * 3000 := by
      rw [flat_len]
      exact Nat.mul_le_mul (by simp; omega) (by omega)
    have hsr : (rowR h n tr[j]).length = n := by simp [rowR]
    simp only [go_sem, reduceIte, reduceCtorEq, Nat.reduceEqDiff, Nat.reduceBEq, Nat.reduceAdd, Nat.reduceMul, Nat.reduceLeDiff, bc36, Option.map_some, d_bsa]
    refine v_append hG hE rfl (eCr_good _) (eCr_good [⟨tr[j], hrsOf h n⟩]) (eCr_cell [⟨tr[j], hrsOf h n⟩]) (by simp only [List.length_map, List.length_append, hsr, List.length_cons, List.length_nil]; omega) (by simp only [List.length_map, List.length_append, hsr, List.length_cons, List.length_nil]; omega) ?_
    intro v' H2 hg' he' hk'
    simp only [go_sem, reduceIte, reduceCtorEq, Nat.reduceEqDiff, Nat.reduceBEq, Nat.reduceAdd, Nat.reduceMul, Nat.reduceLeDiff, g1, g4, g5, g6, hN, wsucc (show n < 4611686018427387904 by omega), hltn, hk'.box hG hB]
    refine ⟨he', ?_⟩
    have : rowR h (n + 1) tr[j] = rowR h n tr[j] ++ [⟨tr[j], hrsOf h n⟩] := by simp only [rowR, List.range_succ, List.map_append]; rfl
    rw [this, ← List.append_assoc, List.map_append]; exact hg'
  · have : n = T := by omega
    subst this
    simp only [go_sem, reduceIte, reduceCtorEq, Nat.reduceEqDiff, Nat.reduceBEq, Nat.reduceAdd, Nat.reduceMul, Nat.reduceLeDiff, g1, g4, g5, g6, hN, hlt, wsucc (show j < 4611686018427387904 by omega), hlt']
    refine ⟨hE, hB, ?_⟩
    rw [take_snoc hlt', List.flatMap_append]; simpa using hG
theorem coursesR_len {h : House} {c : Course} (hc : c ∈ coursesR h) : CLen h c := by
  simp only [coursesR, List.mem_flatMap, rowR, List.mem_map] at hc
  obtain ⟨o, ho, n, _, rfl⟩ := hc
  exact ⟨truthsR_own ho, hrsGo_len _ _ _ _⟩
theorem coursesR_size (h : House) : (coursesR h).length ≤ 9000000 := by
  rw [coursesR, flat_len]
  exact Nat.mul_le_mul (truthsR_size _) (Nat.min_le_left _ _)
def truthsH (h : House) : List Course := (coursesR h).filter (isTrue h [])
theorem truthsH_c (h : House) (hv : HV h) : Pure Tryz.prog 63 [eH h] (eCL (truthsH h)) := by
  intro H
  have hsg := hv.ok.signs
  have hcs := coursesR_size h
  obtain ⟨cs, hcse⟩ : ∃ cs, cs = coursesR h := ⟨_, rfl⟩
  have hcl : ∀ c ∈ cs, CLen h c := fun c hc => coursesR_len (by rw [← hcse]; exact hc)
  rw [← hcse] at hcs
  refine fn_of hmix fc63 (by simp) ?_
  rw [ienv1]
  simp only [go_sem, reduceIte, reduceCtorEq, Nat.reduceEqDiff, Nat.reduceBEq, Nat.reduceAdd, Nat.reduceMul, Nat.reduceLeDiff, ac63, eH]
  refine v_box _ rfl fun b1 hb1 => ?_
  simp only [go_sem, reduceIte, reduceCtorEq, Nat.reduceEqDiff, Nat.reduceBEq, Nat.reduceAdd, Nat.reduceMul, Nat.reduceLeDiff]
  refine (coursesR_c h hv).go ?_
  rw [truthsH, ← hcse]
  simp only [go_sem, reduceIte, reduceCtorEq, Nat.reduceEqDiff, Nat.reduceBEq, Nat.reduceAdd, Nat.reduceMul, Nat.reduceLeDiff, eCL]
  refine x_for cs.length (fun j env H1 => Ext H H1 ∧ H1 b1 = some (.box [.slice (h.table.women.map eW), .slice (h.table.pieces.map eP), i6 h.table.wrong, .slice (eI h.sick), i6 h.others, i6 h.last, .slice (h.touches.map eTo), .slice (h.boiled.map eB), .slice (h.signs.map eS)]) ∧ Grown 2 H H1 (env 3) (((cs.take j).filter (isTrue h [])).map eCr) ∧ env 1 = .ptr b1 0 ∧ env 4 = .slice (cs.map eCr) ∧ env 5 = i6 j ∧ env 31 = .any)
    ⟨(Ext.refl H).new hb1 _, updH_same _ _ _, .inl ⟨by simp [upd_at], rfl⟩, by simp [upd_at], by simp [upd_at], by simp [upd_at], by simp [upd_at]⟩ ?_
  rintro j env H1 hj ⟨hE, hB, hG, g1, g4, g5, hN⟩
  by_cases hlt : (j : Int) < (cs.length : Int)
  · have hlt' : j < cs.length := by omega
    have hfl : ((cs.take j).filter (isTrue h [])).length ≤ j := Nat.le_trans (List.length_filter_le _ _) (by simp; omega)
    have hd : decide (((natOf (signsL h cs[j]) : Nat) : Int) = ((fullN h : Nat) : Int)) = isTrue h [] cs[j] := by
      rw [Bool.eq_iff_iff, decide_eq_true_eq, ← signs_full]; omega
    simp only [go_sem, reduceIte, reduceCtorEq, Nat.reduceEqDiff, Nat.reduceBEq, Nat.reduceAdd, Nat.reduceMul, Nat.reduceLeDiff, g1, g4, g5, hN, hlt, hB, map_get (f := eCr) hlt', eCr]
    refine pgo_call (rightH_c h hv cs[j] (hcl _ (List.getElem_mem hlt'))) ?_
    simp only [go_sem, reduceIte, reduceCtorEq, Nat.reduceEqDiff, Nat.reduceBEq, Nat.reduceAdd, Nat.reduceMul, Nat.reduceLeDiff, g1, g4, g5, hN, hB]
    refine pgo_call (fullH_c h (by omega)) ?_
    simp only [go_sem, reduceIte, reduceCtorEq, Nat.reduceEqDiff, Nat.reduceBEq, Nat.reduceAdd, Nat.reduceMul, Nat.reduceLeDiff, hd]
    cases hT : isTrue h [] cs[j]
    · simp only [go_sem, reduceIte, reduceCtorEq, Nat.reduceEqDiff, Nat.reduceBEq, Nat.reduceAdd, Nat.reduceMul, Nat.reduceLeDiff, g1, g4, g5, hN, hB, wsucc (show j < 4611686018427387904 by omega), hlt']
      refine ⟨hE, ?_⟩
      rw [take_snoc hlt', List.filter_append]; simpa [List.filter_cons, hT] using hG
    · simp only [go_sem, reduceIte, reduceCtorEq, Nat.reduceEqDiff, Nat.reduceBEq, Nat.reduceAdd, Nat.reduceMul, Nat.reduceLeDiff, g1, g4, g5, hN, map_get (f := eCr) hlt', eCr, d_bsa]
      refine v_append hG hE rfl (eCr_good _) (eCr_good [cs[j]]) (eCr_cell [cs[j]]) (by simp; omega) (by simp; omega) ?_
      intro v' H2 hg' he' hk'
      simp only [go_sem, reduceIte, reduceCtorEq, Nat.reduceEqDiff, Nat.reduceBEq, Nat.reduceAdd, Nat.reduceMul, Nat.reduceLeDiff, g1, g4, g5, hN, wsucc (show j < 4611686018427387904 by omega), hlt']
      refine ⟨he', hk'.box hG hB, ?_⟩
      rw [take_snoc hlt', List.filter_append, List.map_append]
      have : [cs[j]].filter (isTrue h []) = [cs[j]] := by simp [List.filter_cons, hT]
      rw [this]; exact hg'
  · simp only [go_sem, reduceIte, reduceCtorEq, Nat.reduceEqDiff, Nat.reduceBEq, Nat.reduceAdd, Nat.reduceMul, Nat.reduceLeDiff, g1, g4, g5, hN, hlt]
    have : j = cs.length := by omega
    subst this
    refine fin_ret 2 (by simp [upd_at, hN]) ⟨_, H, ?_, rfl, rfl⟩
    simp only [upd_at, if_true]
    rw [List.take_length] at hG
    exact hG.weaken hE
end Go.Lift

set_option linter.unusedSimpArgs false
set_option linter.unusedVariables false
namespace Go.Lift
open Go Go.Proofs
theorem rowR_c (l : List Int) (k : Int) (hl : Sm l.length) : Pure Tryz.prog 61 [.slice (eI l), i6 k] (.slice ((rowOf l k).map eB)) := by
  intro H
  unfold Sm at hl
  refine fn_of hmix fc61 (by simp) ?_
  rw [ienv2]
  simp only [go_sem, reduceIte, reduceCtorEq, Nat.reduceEqDiff, Nat.reduceBEq, Nat.reduceAdd, Nat.reduceMul, Nat.reduceLeDiff, List.getElem?_cons_zero, List.getElem?_cons_succ, bne_self_eq_false, Int.reduceEq, ac61]
  refine x_for l.length (fun j env H1 => Ext H H1 ∧ Grown 2 H H1 (env 5) (((List.range j).map fun i : Nat => (⟨l.getD i 0, IntKind.i64.wrap (k + (i : Int))⟩ : Boiling)).map eB) ∧ env 0 = .slice (eI l) ∧ env 1 = i6 k ∧ env 6 = i6 j ∧ env 25 = .any)
    ⟨Ext.refl H, .inl ⟨by simp [upd_at], rfl⟩, by simp [upd_at], by simp [upd_at], by simp [upd_at], by simp [upd_at]⟩ ?_
  rintro j env H1 hj ⟨hE, hG, g0, g1, g6, hN⟩
  by_cases hlt : (j : Int) < (l.length : Int)
  · have hlt' : j < l.length := by omega
    have hgl : l.getD j 0 = l[j] := by simp [hlt']
    simp only [go_sem, reduceIte, reduceCtorEq, Nat.reduceEqDiff, Nat.reduceBEq, Nat.reduceAdd, Nat.reduceMul, Nat.reduceLeDiff, List.getElem?_cons_zero, List.getElem?_cons_succ, bne_self_eq_false, Int.reduceEq, g0, g1, g6, hN, hlt, eI_get hlt', bc2, Option.map_some, d_bsa]
    refine v_append hG hE rfl (eB_good _) (eB_good [⟨l[j], IntKind.i64.wrap (k + (j : Int))⟩]) (eB_cell [⟨l[j], IntKind.i64.wrap (k + (j : Int))⟩]) (by simp; omega) (by simp; omega) ?_
    intro v' H2 hg' he' hk'
    simp only [go_sem, reduceIte, reduceCtorEq, Nat.reduceEqDiff, Nat.reduceBEq, Nat.reduceAdd, Nat.reduceMul, Nat.reduceLeDiff, List.getElem?_cons_zero, List.getElem?_cons_succ, bne_self_eq_false, Int.reduceEq, g0, g1, g6, hN, wsucc (show j < 4611686018427387904 by omega), hlt']
    refine ⟨he', ?_⟩
    rw [List.map_append, List.map_append]
    simp only [List.map_cons, List.map_nil, hgl]; exact hg'
  · have : j = l.length := by omega
    subst this
    simp only [go_sem, reduceIte, reduceCtorEq, Nat.reduceEqDiff, Nat.reduceBEq, Nat.reduceAdd, Nat.reduceMul, Nat.reduceLeDiff, List.getElem?_cons_zero, List.getElem?_cons_succ, bne_self_eq_false, Int.reduceEq, g0, g1, g6, hN, hlt]
    refine fin_ret 4 (by simp [upd_at, hN]) ⟨_, H, ?_, rfl, rfl⟩
    simp only [upd_at, if_true]
    exact hG.weaken hE
def isOrd (h : House) (l : List Int) (k : Int) : Bool := l.all (thingOK h) && (decide ((l.length : Int) ≤ 3) && decide (IntKind.i64.wrap (IntKind.i64.wrap (k + (l.length : Int)) - 1) ≤ h.last))
theorem isOrd_c (h : House) (l : List Int) (k : Int) (hl : Sm l.length) : Pure Tryz.prog 60 [eH h, .slice (eI l), i6 k] (.bool (isOrd h l k)) := by
  intro H
  unfold Sm at hl
  refine fn_of hmix fc60 (by simp) ?_
  rw [ienv3]
  simp only [go_sem, reduceIte, reduceCtorEq, Nat.reduceEqDiff, Nat.reduceBEq, Nat.reduceAdd, Nat.reduceMul, Nat.reduceLeDiff, List.getElem?_cons_zero, List.getElem?_cons_succ, bne_self_eq_false, Int.reduceEq, ac60, eH]
  refine v_box _ rfl fun b3 hb3 => ?_
  simp only [go_sem, reduceIte, reduceCtorEq, Nat.reduceEqDiff, Nat.reduceBEq, Nat.reduceAdd, Nat.reduceMul, Nat.reduceLeDiff, List.getElem?_cons_zero, List.getElem?_cons_succ, bne_self_eq_false, Int.reduceEq]
  refine x_for l.length (fun j env H1 => Ext H H1 ∧ H1 b3 = some (.box [.slice (h.table.women.map eW), .slice (h.table.pieces.map eP), i6 h.table.wrong, .slice (eI h.sick), i6 h.others, i6 h.last, .slice (h.touches.map eTo), .slice (h.boiled.map eB), .slice (h.signs.map eS)]) ∧ env 1 = .slice (eI l) ∧ env 2 = i6 k ∧ env 3 = .ptr b3 0 ∧ env 7 = i6 j ∧ env 34 = .any ∧ (l.take j).all (thingOK h) = true)
    ⟨(Ext.refl H).new hb3 _, updH_same _ _ _, by simp [upd_at], by simp [upd_at], by simp [upd_at], by simp [upd_at], by simp [upd_at], by simp⟩ ?_
  rintro j env H1 hj ⟨hE, hB3, g1, g2, g3, g7, hN, hq⟩
  by_cases hlt : (j : Int) < (l.length : Int)
  · have hlt' : j < l.length := by omega
    simp only [go_sem, reduceIte, reduceCtorEq, Nat.reduceEqDiff, Nat.reduceBEq, Nat.reduceAdd, Nat.reduceMul, Nat.reduceLeDiff, List.getElem?_cons_zero, List.getElem?_cons_succ, bne_self_eq_false, Int.reduceEq, g1, g2, g3, g7, hN, hlt, hB3, eI_get hlt']
    refine pgo_call (isThing_c h l[j]) ?_
    cases d : thingOK h l[j]
    · simp only [go_sem, reduceIte, reduceCtorEq, Nat.reduceEqDiff, Nat.reduceBEq, Nat.reduceAdd, Nat.reduceMul, Nat.reduceLeDiff, List.getElem?_cons_zero, List.getElem?_cons_succ, bne_self_eq_false, Int.reduceEq, hN]
      refine fin_ret 6 (by simp [upd_at, hN]) ⟨_, H, Settle.refl hE, ?_, rfl⟩
      have : l.all (thingOK h) = false := by rw [List.all_eq_false]; exact ⟨l[j], List.getElem_mem _, by simp [d]⟩
      simp [upd_at, isOrd, this]
    · simp only [go_sem, reduceIte, reduceCtorEq, Nat.reduceEqDiff, Nat.reduceBEq, Nat.reduceAdd, Nat.reduceMul, Nat.reduceLeDiff, List.getElem?_cons_zero, List.getElem?_cons_succ, bne_self_eq_false, Int.reduceEq, g1, g2, g3, g7, hN, hB3, wsucc (show j < 4611686018427387904 by omega), hlt']
      refine ⟨hE, ?_⟩
      rw [take_snoc hlt', List.all_append, hq, List.all_cons, d]; rfl
  · have : j = l.length := by omega
    subst this
    rw [List.take_length] at hq
    by_cases h3 : (l.length : Int) ≤ 3
    · simp only [go_sem, reduceIte, reduceCtorEq, Nat.reduceEqDiff, Nat.reduceBEq, Nat.reduceAdd, Nat.reduceMul, Nat.reduceLeDiff, List.getElem?_cons_zero, List.getElem?_cons_succ, bne_self_eq_false, Int.reduceEq, g1, g2, g3, g7, hN, hlt, h3, hB3, take_f']
      refine fin_ret 6 (by simp [upd_at, hN]) ⟨_, H, Settle.refl hE, ?_, rfl⟩
      simp only [upd_at, if_true, isOrd, hq, Bool.true_and, decide_eq_true h3]
    · simp only [go_sem, reduceIte, reduceCtorEq, Nat.reduceEqDiff, Nat.reduceBEq, Nat.reduceAdd, Nat.reduceMul, Nat.reduceLeDiff, List.getElem?_cons_zero, List.getElem?_cons_succ, bne_self_eq_false, Int.reduceEq, g1, g2, g3, g7, hN, hlt, h3]
      refine fin_ret 6 (by simp [upd_at, hN]) ⟨_, H, Settle.refl hE, ?_, rfl⟩
      simp only [upd_at, if_true, isOrd, hq, Bool.true_and, decide_eq_false h3, Bool.false_and]
end Go.Lift

set_option linter.unusedSimpArgs false
set_option linter.unusedVariables false
namespace Go.Lift
open Go Go.Proofs
def ordOK (h : House) (l : List Course) (hour : Int) (o : List Int) : Bool := isOrd h o hour && l.all (safeR h (rowOf o hour))
def lngR (h : House) (l : List Course) (hour : Int) : Nat → List Int → Option (List Int)
  | 0, o => if ordOK h l hour o = true then some o else none
  | n + 1, o => (List.range (nT h)).findSome? fun i : Nat => lngR h l hour n (o ++ [(i : Int)])
def lngV (h : House) (l : List Course) (hour : Int) (n : Nat) (o : List Int) : AV := match lngR h l hour n o with
  | some x => .tup [.slice (eI x), .bool true]
  | none => .tup [if n = 0 then .slice (eI o) else .emp, .bool false]
theorem ACalls.arg3 {P : Program} {f : FuncId} {a b c x y d : AV} {H : AHeap} {R : AV → AHeap → Prop} (h : ∀ w v, Rep H w v x → Rep H w v y) (hc : ACalls P f [a, b, c, y, d] H R) : ACalls P f [a, b, c, x, d] H R :=
  ACalls.weaken (xs := [a, b, c, x, d]) (ys := [a, b, c, y, d]) rfl (hc := hc) fun i p q hp hq w v hr => by
    match i, hp, hq with
    | 0, hp, hq => cases hp; cases hq; exact hr
    | 1, hp, hq => cases hp; cases hq; exact hr
    | 2, hp, hq => cases hp; cases hq; exact hr
    | 3, hp, hq => cases hp; cases hq; exact h w v hr
    | 4, hp, hq => cases hp; cases hq; exact hr
theorem lng_c (h : House) (hv : HV h) (l : List Course) (hl : Sm l.length) (hc : ∀ c ∈ l, CLen h c) (k : Int) : ∀ (n : Nat) (o : List Int), o.length + n ≤ 10 → Pure Tryz.prog 112 [eH h, eCL l, i6 k, .slice (eI o), i6 n] (lngV h l k n o) := by
  intro n
  induction n with
  | zero =>
    intro o ho H
    refine fn_of hmix fc112 (by simp) ?_
    rw [ienv5]
    simp only [go_sem, reduceIte, reduceCtorEq, Nat.reduceEqDiff, Nat.reduceBEq, Nat.reduceAdd, Nat.reduceMul, Nat.reduceLeDiff, List.getElem?_cons_zero, List.getElem?_cons_succ, bne_self_eq_false, Int.reduceEq, ac112, eH, eCL]
    refine v_box _ rfl fun b5 hb5 => ?_
    have e1 := (Ext.refl H).new hb5 (.box [.slice (h.table.women.map eW), .slice (h.table.pieces.map eP), i6 h.table.wrong, .slice (eI h.sick), i6 h.others, i6 h.last, .slice (h.touches.map eTo), .slice (h.boiled.map eB), .slice (h.signs.map eS)])
    simp only [go_sem, reduceIte, reduceCtorEq, Nat.reduceEqDiff, Nat.reduceBEq, Nat.reduceAdd, Nat.reduceMul, Nat.reduceLeDiff, List.getElem?_cons_zero, List.getElem?_cons_succ, bne_self_eq_false, Int.reduceEq, show ((0 : Nat) : Int) = 0 from rfl]
    refine pgo_call (isOrd_c h o k (by unfold Sm; omega)) ?_
    cases d1 : isOrd h o k
    · simp only [go_sem, reduceIte, reduceCtorEq, Nat.reduceEqDiff, Nat.reduceBEq, Nat.reduceAdd, Nat.reduceMul, Nat.reduceLeDiff, List.getElem?_cons_zero, List.getElem?_cons_succ, bne_self_eq_false, Int.reduceEq]
      refine fin_ret2 10 11 (by simp [upd_at]) ⟨lngV h l k 0 o, H, ?_, rfl, rfl⟩
      simp only [upd_at, if_true, Nat.reduceEqDiff, if_false, lngV, lngR, ordOK, d1, Bool.false_and, Bool.false_eq_true]
      exact Settle.refl e1
    · simp only [go_sem, reduceIte, reduceCtorEq, Nat.reduceEqDiff, Nat.reduceBEq, Nat.reduceAdd, Nat.reduceMul, Nat.reduceLeDiff, List.getElem?_cons_zero, List.getElem?_cons_succ, bne_self_eq_false, Int.reduceEq]
      refine pgo_call (rowR_c o k (by unfold Sm; omega)) ?_
      simp only [go_sem, reduceIte, reduceCtorEq, Nat.reduceEqDiff, Nat.reduceBEq, Nat.reduceAdd, Nat.reduceMul, Nat.reduceLeDiff, List.getElem?_cons_zero, List.getElem?_cons_succ, bne_self_eq_false, Int.reduceEq]
      refine pgo_call (areSafe_c h hv l hl hc (rowOf o k) (by simp [rowOf]; omega)) ?_
      cases d2 : l.all (safeR h (rowOf o k))
      · simp only [go_sem, reduceIte, reduceCtorEq, Nat.reduceEqDiff, Nat.reduceBEq, Nat.reduceAdd, Nat.reduceMul, Nat.reduceLeDiff, List.getElem?_cons_zero, List.getElem?_cons_succ, bne_self_eq_false, Int.reduceEq]
        refine fin_ret2 10 11 (by simp [upd_at]) ⟨lngV h l k 0 o, H, ?_, rfl, rfl⟩
        simp only [upd_at, if_true, Nat.reduceEqDiff, if_false, lngV, lngR, ordOK, d1, d2, Bool.and_false, Bool.false_eq_true]
        exact Settle.refl e1
      · simp only [go_sem, reduceIte, reduceCtorEq, Nat.reduceEqDiff, Nat.reduceBEq, Nat.reduceAdd, Nat.reduceMul, Nat.reduceLeDiff, List.getElem?_cons_zero, List.getElem?_cons_succ, bne_self_eq_false, Int.reduceEq]
        refine fin_ret2 10 11 (by simp [upd_at]) ⟨lngV h l k 0 o, H, ?_, rfl, rfl⟩
        simp only [upd_at, if_true, Nat.reduceEqDiff, if_false, lngV, lngR, ordOK, d1, d2, Bool.and_true]
        exact Settle.refl e1
  | succ n ih =>
    intro o ho H
    have hnt := nT_le hv.ok
    refine fn_of hmix fc112 (by simp) ?_
    rw [ienv5]
    simp only [go_sem, reduceIte, reduceCtorEq, Nat.reduceEqDiff, Nat.reduceBEq, Nat.reduceAdd, Nat.reduceMul, Nat.reduceLeDiff, List.getElem?_cons_zero, List.getElem?_cons_succ, bne_self_eq_false, Int.reduceEq, ac112, eH, eCL]
    refine v_box _ rfl fun b5 hb5 => ?_
    simp only [go_sem, reduceIte, reduceCtorEq, Nat.reduceEqDiff, Nat.reduceBEq, Nat.reduceAdd, Nat.reduceMul, Nat.reduceLeDiff, List.getElem?_cons_zero, List.getElem?_cons_succ, bne_self_eq_false, Int.reduceEq, show ¬ ((n + 1 : Nat) : Int) = 0 by omega]
    refine x_for (nT h) (fun j env H1 => Ext H H1 ∧ H1 b5 = some (.box [.slice (h.table.women.map eW), .slice (h.table.pieces.map eP), i6 h.table.wrong, .slice (eI h.sick), i6 h.others, i6 h.last, .slice (h.touches.map eTo), .slice (h.boiled.map eB), .slice (h.signs.map eS)]) ∧ env 1 = .slice (l.map eCr) ∧ env 2 = i6 k ∧ env 3 = .slice (eI o) ∧ env 4 = i6 (n + 1 : Nat) ∧ env 5 = .ptr b5 0 ∧ env 12 = i6 j ∧ env 53 = .any ∧ (List.range j).findSome? (fun i : Nat => lngR h l k n (o ++ [(i : Int)])) = none)
      ⟨(Ext.refl H).new hb5 _, updH_same _ _ _, by simp [upd_at], by simp [upd_at], by simp [upd_at], by simp [upd_at], by simp [upd_at], by simp [upd_at], by simp [upd_at], by simp⟩ ?_
    rintro j env H1 hj ⟨hE, hB, g1, g2, g3, g4, g5, g12, hN, hq⟩
    simp only [go_sem, reduceIte, reduceCtorEq, Nat.reduceEqDiff, Nat.reduceBEq, Nat.reduceAdd, Nat.reduceMul, Nat.reduceLeDiff, List.getElem?_cons_zero, List.getElem?_cons_succ, bne_self_eq_false, Int.reduceEq, g1, g2, g3, g4, g5, g12, hN, hB]
    refine (thingsR_c h).go ?_
    rw [thingsW_ok hv.ok]
    by_cases hlt : (j : Int) < (nT h : Int)
    · have hlt' : j < nT h := by omega
      have hsub : IntKind.i64.wrap (((n + 1 : Nat) : Int) - 1) = (n : Int) := by rw [w64 (by omega) (by omega)]; omega
      simp only [go_sem, reduceIte, reduceCtorEq, Nat.reduceEqDiff, Nat.reduceBEq, Nat.reduceAdd, Nat.reduceMul, Nat.reduceLeDiff, List.getElem?_cons_zero, List.getElem?_cons_succ, bne_self_eq_false, Int.reduceEq, g1, g2, g3, g4, g5, g12, hN, hB, hlt, hsub]
      refine v_append (H0 := H1) (sz := 1) (.inl ⟨rfl, rfl⟩) (Ext.refl _) rfl (by intro e he; cases he) (eI_good _) (eI_cell _) (by simp; omega) (by simp; omega) ?_
      intro v1 H2 hg1 he1 hk1
      have C5 := he1 _ _ hB
      simp only [go_sem, reduceIte, reduceCtorEq, Nat.reduceEqDiff, Nat.reduceBEq, Nat.reduceAdd, Nat.reduceMul, Nat.reduceLeDiff, List.getElem?_cons_zero, List.getElem?_cons_succ, bne_self_eq_false, Int.reduceEq, g1, g2, g3, g4, g5, g12, hN, C5]
      refine v_append hg1 he1 rfl (eI_good _) (one_good (j : Int)) (one_cell (j : Int)) (by simp; omega) (by simp; omega) ?_
      intro v2 H3 hg2 he2 hk2
      have D5 := he2 _ _ hB
      simp only [go_sem, reduceIte, reduceCtorEq, Nat.reduceEqDiff, Nat.reduceBEq, Nat.reduceAdd, Nat.reduceMul, Nat.reduceLeDiff, List.getElem?_cons_zero, List.getElem?_cons_succ, bne_self_eq_false, Int.reduceEq, g1, g2, g3, g4, g5, g12, hN, D5]
      refine ACalls.arg3 (y := .slice (eI (o ++ [(j : Int)]))) (fun w v hr => by rw [eI_app]; exact hg2.weakRep hr) ?_
      refine (ih (o ++ [(j : Int)]) (by simp; omega)).go ?_
      cases d : lngR h l k n (o ++ [(j : Int)]) with
      | none =>
        simp only [go_sem, reduceIte, reduceCtorEq, Nat.reduceEqDiff, Nat.reduceBEq, Nat.reduceAdd, Nat.reduceMul, Nat.reduceLeDiff, List.getElem?_cons_zero, List.getElem?_cons_succ, bne_self_eq_false, Int.reduceEq, lngV, d, l_alt, g1, g2, g3, g4, g5, g12, hN, D5, wsucc (show j < 4611686018427387904 by omega), hlt']
        have hq' : (List.range (j + 1)).findSome? (fun i : Nat => lngR h l k n (o ++ [(i : Int)])) = none := by
          rw [List.range_succ, List.findSome?_append, hq]; simp [d]
        rw [List.range_succ] at hq'
        have hE3 := hE.trans he2
        exact ⟨hE3, hq'⟩
      | some x =>
        simp only [go_sem, reduceIte, reduceCtorEq, Nat.reduceEqDiff, Nat.reduceBEq, Nat.reduceAdd, Nat.reduceMul, Nat.reduceLeDiff, List.getElem?_cons_zero, List.getElem?_cons_succ, bne_self_eq_false, Int.reduceEq, lngV, d, l_alt, g1, g2, g3, g4, g5, g12, hN, D5]
        have hr : lngR h l k (n + 1) o = some x := by
          rw [lngR]
          have : (List.range (nT h)).findSome? (fun i : Nat => lngR h l k n (o ++ [(i : Int)])) = some x := by
            rw [show nT h = (j + 1) + (nT h - (j + 1)) by omega, List.range_add, List.findSome?_append, List.range_succ, List.findSome?_append, hq]
            simp [d]
          exact this
        have hfin : ∀ env', env' 53 = .any → env' 10 = .slice (eI x) → env' 11 = .bool true → fin Tryz.prog [.tmp 10, .tmp 11] 53 (fun r' H' => r' = lngV h l k (n + 1) o ∧ H' = H) .ret env' H3 := by
          intro env' h53 h10 h11
          refine fin_ret2 10 11 h53 ⟨lngV h l k (n + 1) o, H, ?_, rfl, rfl⟩
          rw [h10, h11, lngV, hr]
          exact Settle.refl (hE.trans he2)
        exact ⟨⟨hfin _ (by simp [upd_at, hN]) (by simp [upd_at]) (by simp [upd_at]), hfin _ (by simp [upd_at, hN]) (by simp [upd_at]) (by simp [upd_at])⟩, hfin _ (by simp [upd_at, hN]) (by simp [upd_at]) (by simp [upd_at])⟩
    · have : j = nT h := by omega
      subst this
      simp only [go_sem, reduceIte, reduceCtorEq, Nat.reduceEqDiff, Nat.reduceBEq, Nat.reduceAdd, Nat.reduceMul, Nat.reduceLeDiff, List.getElem?_cons_zero, List.getElem?_cons_succ, bne_self_eq_false, Int.reduceEq, g1, g2, g3, g4, g5, g12, hN, hB, hlt]
      refine fin_ret2 10 11 (by simp [upd_at, hN]) ⟨lngV h l k (n + 1) o, H, ?_, rfl, rfl⟩
      simp only [upd_at, if_true, Nat.reduceEqDiff, if_false, lngV, lngR, hq, Nat.add_eq_zero_iff, Nat.one_ne_zero, and_false, Nat.succ_ne_zero]
      exact Settle.refl hE
end Go.Lift

set_option linter.unusedSimpArgs false
set_option linter.unusedVariables false
namespace Go.Lift
open Go Go.Proofs
theorem enumG_nodup {f : Nat → List Int} (hf : ∀ i, (f i).Nodup) : ∀ (k : Nat) (pre : List Int), (enumG f k pre).Nodup
  | 0, pre => by simp [enumG]
  | k + 1, pre => by
    rw [enumG, List.Nodup, List.pairwise_flatMap]
    refine ⟨fun w _ => enumG_nodup hf k _, ?_⟩
    refine List.Pairwise.imp ?_ (hf pre.length)
    intro a b hab x hx y hy hxy
    subst hxy
    obtain ⟨s1, h1, _⟩ := (mem_enumG f k _ _).1 hx
    obtain ⟨s2, h2, _⟩ := (mem_enumG f k _ _).1 hy
    rw [h1] at h2
    simp at h2
    exact hab h2.1
theorem nodup_filter {α : Type} {l : List α} (p : α → Bool) (h : l.Nodup) : (l.filter p).Nodup := List.Pairwise.filter p h
theorem nodup_ofNat {l : List Nat} (h : l.Nodup) : (l.map Int.ofNat).Nodup := by
  refine List.Pairwise.map Int.ofNat (fun a b hab => ?_) h
  intro hh
  exact hab (Int.ofNat.inj hh)
theorem womenUpto_nodup (ws : List Woman) (marks : List Int) (n : Nat) : (womenUpto ws marks n).Nodup := nodup_ofNat (nodup_filter _ List.nodup_range)
theorem whoIs_nodup (t : Table) (i m : Nat) : (whoIs t i m).Nodup := nodup_ofNat (nodup_filter _ List.nodup_range)
def ownersA (t : Table) : List (List Int) := (enumW (whoseT t) t.pieces.length []).filter (isTruthT t)
theorem ownersA_mem {t : Table} (hc : checkTable t = 0) (o : List Int) : o ∈ ownersA t ↔ isTruthT t o = true := by
  rw [ownersA, List.mem_filter]
  exact ⟨fun h => h.2, fun h => ⟨truth_whose hc h, h⟩⟩
theorem truthsR_mem {t : Table} (hc : checkTable t = 0) (o : List Int) : o ∈ truthsR t ↔ isTruthT t o = true := by
  rw [truthsR_eq hc, List.mem_filter, isTruthT_iff hc, isTruthR, Bool.and_eq_true, decide_eq_true_eq, mem_allO]
  constructor
  · rintro ⟨h1, h2, h3⟩; exact ⟨h1, h3⟩
  · rintro ⟨h1, h2⟩; exact ⟨h1, h1, h2⟩
theorem getD_nodup {L : List (List Int)} (h : ∀ l ∈ L, l.Nodup) (i : Nat) : (L.getD i []).Nodup := by
  rw [List.getD_eq_getElem?_getD]
  cases hi : L[i]? with
  | none => simp
  | some l => exact h l (List.mem_of_getElem? hi)
theorem owners_perm {t : Table} (hc : checkTable t = 0) : (truthsR t).Perm (ownersA t) := by
  refine (List.perm_ext_iff_of_nodup ?_ ?_).2 fun o => ?_
  · rw [truthsR_eq hc, allO, enumO_eq]
    exact nodup_filter _ (enumG_nodup (fun i => womenUpto_nodup _ _ _) _ _)
  · rw [ownersA, enumW_eq]
    refine nodup_filter _ (enumG_nodup (fun i => getD_nodup (fun l hl => ?_) i) _ _)
    simp only [whoseT, List.mem_map] at hl
    obtain ⟨j, _, rfl⟩ := hl
    exact whoIs_nodup _ _ _
  · rw [truthsR_mem hc, ownersA_mem hc]
theorem flat_cons {α β : Type} (f : β → α) (g : β → List α) : ∀ l : List β, (l.flatMap fun y => f y :: g y).Perm (l.map f ++ l.flatMap g)
  | [] => List.Perm.refl _
  | y :: l => by
    simp only [List.flatMap_cons, List.map_cons, List.cons_append]
    refine List.Perm.cons _ ?_
    have h1 := (flat_cons f g l).append_left (g y)
    refine h1.trans ?_
    rw [← List.append_assoc, ← List.append_assoc]
    exact List.perm_append_comm.append_right _
theorem flat_swap {α β γ : Type} (f : α → β → γ) (l2 : List β) : ∀ l1 : List α, (l1.flatMap fun x => l2.map fun y => f x y).Perm (l2.flatMap fun y => l1.map fun x => f x y)
  | [] => by simp
  | x :: l1 => by
    rw [List.flatMap_cons]
    have h := flat_swap f l2 l1
    refine (h.append_left _).trans ?_
    exact (flat_cons (fun y => f x y) (fun y => l1.map fun x => f x y) l2).symm
theorem flat_congr {α β : Type} {f g : α → List β} : ∀ {l : List α}, (∀ a ∈ l, (f a).Perm (g a)) → (l.flatMap f).Perm (l.flatMap g)
  | [], _ => List.Perm.refl _
  | a :: l, h => by
    rw [List.flatMap_cons, List.flatMap_cons]
    exact (h a List.mem_cons_self).append (flat_congr fun b hb => h b (List.mem_cons_of_mem _ hb))
def enS (f : Nat → List Int) : Nat → Nat → List (List Int)
  | 0, _ => [[]]
  | k + 1, j => (f j).flatMap fun w => (enS f k (j + 1)).map fun s => w :: s
theorem enumG_enS (f : Nat → List Int) : ∀ (k : Nat) (pre : List Int), enumG f k pre = (enS f k pre.length).map fun s => pre ++ s
  | 0, pre => by simp [enumG, enS]
  | k + 1, pre => by
    rw [enumG, enS, List.map_flatMap]
    congr 1
    funext w
    rw [enumG_enS f k, List.map_map, List.length_append, List.length_singleton]
    congr 1
    funext s
    simp
theorem hrs_perm (h : House) : ∀ (k j : Nat), (∀ i, j ≤ i → i < j + k → 1 ≤ hourN h i) → ((List.range (prodL (hourN h) j k)).map (hrsGo h k j)).Perm (enS (hoursAt h) k j)
  | 0, j, _ => by simp [prodL, enS, hrsGo]
  | k + 1, j, hp => by
    have ih := hrs_perm h k (j + 1) (fun i h1 h2 => hp i (by omega) (by omega))
    have hk := hp j (by omega) (by omega)
    rw [prodL, Nat.mul_comm, range_mul, List.map_flatMap, enS]
    have e1 : (fun q => ((List.range (hourN h j)).map fun r => q * hourN h j + r).map (hrsGo h (k + 1) j)) = fun q => (List.range (hourN h j)).map fun r : Nat => ((h.touches.getD j default).lo + (r : Int)) :: hrsGo h k (j + 1) q := by
      funext q
      rw [List.map_map]
      apply List.ext_getElem
      · simp
      · intro i h1 h2
        simp only [List.length_map, List.length_range] at h1 h2
        simp only [List.getElem_map, List.getElem_range, Function.comp, hrsGo]
        have e1 : (q * hourN h j + i) / hourN h j = q := by
          rw [Nat.mul_comm, Nat.mul_add_div hk, Nat.div_eq_of_lt h2, Nat.add_zero]
        have e2 : (q * hourN h j + i) % hourN h j = i := by
          rw [Nat.mul_comm, Nat.mul_add_mod, Nat.mod_eq_of_lt h2]
        rw [e1, e2]
    rw [e1]
    refine (flat_swap (fun (q r : Nat) => ((h.touches.getD j default).lo + (r : Int)) :: hrsGo h k (j + 1) q) (List.range (hourN h j)) (List.range (prodL (hourN h) (j + 1) k))).trans ?_
    rw [hoursAt, List.flatMap_map]
    refine flat_congr fun r _ => ?_
    have := ih.map fun s => ((h.touches.getD j default).lo + (r : Int)) :: s
    rw [List.map_map] at this
    exact this
theorem hours_perm (h : House) (hp : ∀ i, i < h.touches.length → 1 ≤ hourN h i) : ((List.range (prodL (hourN h) 0 h.touches.length)).map (hrsOf h)).Perm (enumH h h.touches.length []) := by
  have := hrs_perm h h.touches.length 0 (fun i _ h2 => hp i (by omega))
  rw [enumH_eq, enumG_enS]
  simp only [List.nil_append, List.length_nil, List.map_id']
  exact this
end Go.Lift

set_option linter.unusedSimpArgs false
set_option linter.unusedVariables false
namespace Go.Lift
open Go Go.Proofs
theorem prodL_pos {f : Nat → Nat} : ∀ (k a : Nat), (∀ i, a ≤ i → i < a + k → 1 ≤ f i) → 1 ≤ prodL f a k
  | 0, _, _ => Nat.le_refl _
  | k + 1, a, h => by
    rw [prodL]
    exact Nat.mul_pos (h a (by omega) (by omega)) (prodL_pos k (a + 1) fun i h1 h2 => h i (by omega) (by omega))
theorem timesR_eq {h : House} (hv : HV h) : timesR h h.touches.length = prodL (hourN h) 0 h.touches.length := by
  have h1 := manyH_eq hv
  have h2 := hv.many
  have h3 := prodL_pos (f := womN h.table) h.table.pieces.length 0 fun i _ hi => womN_pos hv.tab i (by omega)
  have h4 : prodL (womN h.table) 0 h.table.pieces.length * prodL (hourN h) 0 h.touches.length ≤ 2000 := by omega
  have h5 : prodL (hourN h) 0 h.touches.length ≤ prodL (womN h.table) 0 h.table.pieces.length * prodL (hourN h) 0 h.touches.length := Nat.le_mul_of_pos_left _ h3
  rw [timesR]; omega
theorem flat_filter {α β : Type} (p : α → Bool) (f : α → List β) : ∀ l : List α, l.flatMap (fun a => if p a = true then f a else []) = (l.filter p).flatMap f
  | [] => rfl
  | a :: l => by
    rw [List.flatMap_cons, List.filter_cons, flat_filter p f l]
    cases p a <;> simp
theorem courses_perm {h : House} (hv : HV h) : (coursesR h).Perm (allC h) := by
  have e1 : allC h = (ownersA h.table).flatMap fun o => (enumH h h.touches.length []).map fun hs => (⟨o, hs⟩ : Course) := by
    rw [allC, ownersA, ← flat_filter]; rfl
  rw [e1, coursesR]
  refine ((owners_perm hv.tab).flatMap_right _).trans (flat_congr fun o _ => ?_)
  rw [rowR, timesR_eq hv]
  have := (hours_perm h (hourN_pos hv)).map fun hs => (⟨o, hs⟩ : Course)
  rw [List.map_map] at this
  exact this
theorem truths_perm {h : House} (hv : HV h) : (truthsH h).Perm (truH h []) := (courses_perm hv).filter _
theorem mem_coursesR {h : House} (hv : HV h) (c : Course) : c ∈ coursesR h ↔ courseOK h c = true := by rw [(courses_perm hv).mem_iff, mem_allC hv.tab]
theorem coursesR_clen {h : House} (hv : HV h) {c : Course} (hc : c ∈ coursesR h) : CLen h c := by
  have := courseOK_len ((mem_coursesR hv c).1 hc)
  exact ⟨this.1, this.2⟩
theorem truthsH_clen {h : House} (hv : HV h) {c : Course} (hc : c ∈ truthsH h) : CLen h c := coursesR_clen hv (List.mem_filter.1 hc).1
theorem truthsH_sm {h : House} (hv : HV h) : (truthsH h).length ≤ 2000 := by
  have h1 := (courses_perm hv).length_eq
  have h2 := allC_len hv
  have h3 : (truthsH h).length ≤ (coursesR h).length := List.length_filter_le _ _
  omega
theorem perm_nil {α : Type} {a b : List α} (h : a.Perm b) : a = [] ↔ b = [] := by
  rw [← List.length_eq_zero_iff, ← List.length_eq_zero_iff, h.length_eq]
theorem perm_all {α : Type} {a b : List α} (h : a.Perm b) (p : α → Bool) : a.all p = b.all p := by
  rw [Bool.eq_iff_iff, List.all_eq_true, List.all_eq_true]
  exact ⟨fun hp x hx => hp x (h.mem_iff.2 hx), fun hp x hx => hp x (h.mem_iff.1 hx)⟩
theorem own_woman {h : House} (hv : HV h) {c : Course} (hc : courseOK h c = true) {i : Nat} (hi : i < h.table.pieces.length) : ∃ w : Nat, c.owners.getD i 0 = (w : Int) ∧ w < h.table.women.length := by
  simp only [courseOK, Bool.and_eq_true] at hc
  obtain ⟨h1, _⟩ := (isTruthT_iff hv.tab _).1 hc.1
  obtain ⟨h3, h4, h5⟩ := allO_owner (checkTable_len hv.tab).2 h1
  obtain ⟨w, hw, hwl⟩ := h5 i hi
  refine ⟨w, ?_, hwl⟩
  rw [← hw, pad7_get _ _ (by omega)]
theorem pad_get {h : House} (hv : HV h) {c : Course} (hc : courseOK h c = true) {i : Nat} (hi : i < h.table.pieces.length) : (pad7 c.owners).getD i 0 = c.owners.getD i 0 := by
  have := (courseOK_len hc).1
  rw [pad7_get _ _ (by omega)]
theorem safe_eq {h : House} (hv : HV h) {c : Course} (hc : courseOK h c = true) (more : List Boiling) : safeR h more c = safeC h more c := by
  have hl := (courseOK_len hc).1
  rw [safeR, safeC, Bool.eq_iff_iff]
  simp only [List.all_eq_true, List.mem_range, harmB, safeAt, hl, Bool.not_eq_true', Bool.and_eq_false_iff, Bool.not_eq_false', decide_eq_true_eq, List.any_eq_false, harmAt, Bool.and_eq_true]
  constructor
  · intro hw i hi
    obtain ⟨w, h1, h2⟩ := own_woman hv hc hi
    rw [pad_get hv hc hi, h1]
    rcases hw w h2 with h3 | h3
    · exact .inr h3
    · have := h3 i hi
      rw [h1] at this
      simp only [true_and, Bool.not_eq_true] at this
      exact .inl this
  · intro hs w hw
    by_cases h1 : (w : Int) ∈ h.sick
    · exact .inl h1
    · refine .inr fun i hi h2 => ?_
      have := hs i hi
      rw [pad_get hv hc hi, h2.1, h2.2] at this
      rcases this with h | h
      · cases h
      · exact h1 h
theorem all_safe {h : House} (hv : HV h) (more : List Boiling) : (truthsH h).all (safeR h more) = safeP h more := by
  rw [perm_all (truths_perm hv), safeP, Bool.eq_iff_iff, List.all_eq_true, List.all_eq_true]
  have key : ∀ c ∈ truH h [], safeR h more c = safeC h more c := fun c hc => safe_eq hv (tru_ok hv hc) more
  exact ⟨fun hp x hx => by rw [← key x hx]; exact hp x hx, fun hp x hx => by rw [key x hx]; exact hp x hx⟩
end Go.Lift

set_option linter.unusedSimpArgs false
set_option linter.unusedVariables false
namespace Go.Lift
open Go Go.Proofs
def withinR (h : House) (fine : Bool) : AV := if askErrH h fine = 0 then .tup [eCL (truthsH h), i6 0] else .tup [.emp, i6 (askErrH h fine)]
theorem thin_sm {h : House} (c1 : thinH h = true) : HSm h := by
  rw [thinH, Bool.and_eq_true] at c1; exact short_sm c1.1
theorem within_c' (h : House) (hm : HSm h) (k : Int) : Pure Tryz.prog 53 [eH h, i6 k] (withinR h (hourOK h k)) := by
  intro H
  refine fn_of hmix fc53 (by simp) ?_
  rw [ienv2]
  simp only [go_sem, reduceIte, reduceCtorEq, Nat.reduceEqDiff, Nat.reduceBEq, Nat.reduceAdd, Nat.reduceMul, Nat.reduceLeDiff, List.getElem?_cons_zero, List.getElem?_cons_succ, bne_self_eq_false, Int.reduceEq, ac53, eH]
  refine v_box _ rfl fun b2 hb2 => ?_
  have e1 := (Ext.refl H).new hb2 (.box [.slice (h.table.women.map eW), .slice (h.table.pieces.map eP), i6 h.table.wrong, .slice (eI h.sick), i6 h.others, i6 h.last, .slice (h.touches.map eTo), .slice (h.boiled.map eB), .slice (h.signs.map eS)])
  simp only [go_sem, reduceIte, reduceCtorEq, Nat.reduceEqDiff, Nat.reduceBEq, Nat.reduceAdd, Nat.reduceMul, Nat.reduceLeDiff, List.getElem?_cons_zero, List.getElem?_cons_succ, bne_self_eq_false, Int.reduceEq]
  refine (fault_c h hm).go ?_
  by_cases c1 : checkHouse h = 0
  rotate_left
  · simp only [go_sem, reduceIte, reduceCtorEq, Nat.reduceEqDiff, Nat.reduceBEq, Nat.reduceAdd, Nat.reduceMul, Nat.reduceLeDiff, List.getElem?_cons_zero, List.getElem?_cons_succ, bne_self_eq_false, Int.reduceEq, c1]
    refine fin_ret2 4 5 (by simp [upd_at]) ⟨withinR h (hourOK h k), H, ?_, rfl, rfl⟩
    have : askErrH h (hourOK h k) = checkHouse h := by rw [askErrH, if_neg c1]
    simp only [upd_at, if_true, Nat.reduceEqDiff, if_false, withinR, this, c1]
    exact Settle.refl e1
  have hv := hv_of hm.tsm hm.sk c1
  simp only [go_sem, reduceIte, reduceCtorEq, Nat.reduceEqDiff, Nat.reduceBEq, Nat.reduceAdd, Nat.reduceMul, Nat.reduceLeDiff, List.getElem?_cons_zero, List.getElem?_cons_succ, bne_self_eq_false, Int.reduceEq, c1]
  refine (isHour_c h k).go ?_
  cases c2 : hourOK h k
  · simp only [go_sem, reduceIte, reduceCtorEq, Nat.reduceEqDiff, Nat.reduceBEq, Nat.reduceAdd, Nat.reduceMul, Nat.reduceLeDiff, List.getElem?_cons_zero, List.getElem?_cons_succ, bne_self_eq_false, Int.reduceEq]
    refine fin_ret2 4 5 (by simp [upd_at]) ⟨withinR h false, H, ?_, rfl, rfl⟩
    have : askErrH h false = 2 := by rw [askErrH, if_pos c1]; rfl
    simp only [upd_at, if_true, Nat.reduceEqDiff, if_false, withinR, this, show ¬ (2 : Int) = 0 by omega]
    exact Settle.refl e1
  simp only [go_sem, reduceIte, reduceCtorEq, Nat.reduceEqDiff, Nat.reduceBEq, Nat.reduceAdd, Nat.reduceMul, Nat.reduceLeDiff, List.getElem?_cons_zero, List.getElem?_cons_succ, bne_self_eq_false, Int.reduceEq]
  refine (truthsH_c h hv).go ?_
  have hnil := perm_nil (truths_perm hv)
  by_cases c3 : truthsH h = []
  · simp only [go_sem, reduceIte, reduceCtorEq, Nat.reduceEqDiff, Nat.reduceBEq, Nat.reduceAdd, Nat.reduceMul, Nat.reduceLeDiff, List.getElem?_cons_zero, List.getElem?_cons_succ, bne_self_eq_false, Int.reduceEq, eCL, c3, show ((0 : Nat) : Int) = 0 from rfl]
    refine fin_ret2 4 5 (by simp [upd_at]) ⟨withinR h true, H, ?_, rfl, rfl⟩
    have : askErrH h true = 11 := by rw [askErrH, if_pos c1, if_pos rfl, if_pos (hnil.1 c3)]
    simp only [upd_at, if_true, Nat.reduceEqDiff, if_false, withinR, this, show ¬ (11 : Int) = 0 by omega]
    exact Settle.refl e1
  · have hp := List.length_pos_iff.2 c3
    simp only [go_sem, reduceIte, reduceCtorEq, Nat.reduceEqDiff, Nat.reduceBEq, Nat.reduceAdd, Nat.reduceMul, Nat.reduceLeDiff, List.getElem?_cons_zero, List.getElem?_cons_succ, bne_self_eq_false, Int.reduceEq, eCL, show ¬ ((truthsH h).length : Int) = 0 by omega]
    refine fin_ret2 4 5 (by simp [upd_at]) ⟨withinR h true, H, ?_, rfl, rfl⟩
    have : askErrH h true = 0 := by rw [askErrH, if_pos c1, if_pos rfl, if_neg (fun h => c3 (hnil.2 h))]
    simp only [upd_at, if_true, Nat.reduceEqDiff, if_false, withinR, this]
    exact Settle.refl e1
end Go.Lift

set_option linter.unusedSimpArgs false
set_option linter.unusedVariables false
namespace Go.Lift
open Go Go.Proofs
theorem before_irr : ∀ a : List Int, beforeL a a = false
  | [] => rfl
  | a :: xs => by rw [beforeL, if_pos rfl, before_irr xs]
theorem before_trans : ∀ a b c : List Int, beforeL a b = true → beforeL b c = true → beforeL a c = true
  | [], b, [], _, h2 => by
    cases b with
    | nil => exact h2
    | cons b bs => simp [beforeL] at h2
  | [], _, c :: cs, _, _ => by simp [beforeL]
  | a :: xs, [], _, h1, _ => by simp [beforeL] at h1
  | a :: xs, b :: bs, [], _, h2 => by simp [beforeL] at h2
  | a :: xs, b :: bs, c :: cs, h1, h2 => by
    simp only [beforeL] at h1 h2 ⊢
    by_cases e1 : a = b
    · subst e1
      rw [if_pos rfl] at h1
      by_cases e2 : a = c
      · rw [if_pos e2] at h2 ⊢; exact before_trans xs bs cs h1 h2
      · rw [if_neg e2] at h2 ⊢; exact h2
    · rw [if_neg e1, decide_eq_true_eq] at h1
      by_cases e2 : b = c
      · subst e2; rw [if_neg e1]; exact decide_eq_true h1
      · rw [if_neg e2, decide_eq_true_eq] at h2
        rw [if_neg (by omega)]; exact decide_eq_true (by omega)
theorem before_pre : ∀ (p a b : List Int), beforeL (p ++ a) (p ++ b) = beforeL a b
  | [], _, _ => rfl
  | x :: p, a, b => by rw [List.cons_append, List.cons_append, beforeL, if_pos rfl, before_pre p]
theorem shorter_iff (a b : List Int) : shorterL a b = true ↔ a.length < b.length ∨ (a.length = b.length ∧ beforeL a b = true) := by
  simp [shorterL]
theorem shorter_irr (a : List Int) : shorterL a a = false := by
  rw [Bool.eq_false_iff, Ne, shorter_iff, before_irr]
  rintro (h | h)
  · omega
  · cases h.2
theorem shorter_trans {a b c : List Int} (h1 : shorterL a b = true) (h2 : shorterL b c = true) : shorterL a c = true := by
  rw [shorter_iff] at *
  rcases h1 with h1 | h1 <;> rcases h2 with h2 | h2
  · exact .inl (by omega)
  · exact .inl (by omega)
  · exact .inl (by omega)
  · exact .inr ⟨by omega, before_trans _ _ _ h1.2 h2.2⟩
theorem shorter_asym {a b : List Int} (h : shorterL a b = true) : shorterL b a = false := by
  rw [Bool.eq_false_iff]
  intro h2
  have := shorter_trans h h2
  rw [shorter_irr] at this; cases this
/-- The least one that will do, of some lists. -/
structure IsMin (ok : List Int → Bool) (D : List Int → Prop) (x : List Int) : Prop where
  dom : D x
  good : ok x = true
  least : ∀ y, D y → ok y = true → shorterL y x = false
theorem IsMin.congr {ok ok' : List Int → Bool} {D D' : List Int → Prop} {x : List Int} (h : IsMin ok D x) (hd : ∀ y, D y ↔ D' y) (hok : ∀ y, D y → ok y = ok' y) : IsMin ok' D' x :=
  ⟨(hd x).1 h.dom, by rw [← hok x h.dom]; exact h.good, fun y hy ho => h.least y ((hd y).2 hy) (by rw [hok y ((hd y).2 hy)]; exact ho)⟩
theorem find_min {ok : List Int → Bool} {l : List (List Int)} (hs : l.Pairwise fun a b => shorterL a b = true) {x : List Int} (h : l.find? ok = some x) : IsMin ok (· ∈ l) x := by
  obtain ⟨h1, l1, bs, rfl, h2⟩ := List.find?_eq_some_iff_append.1 h
  refine ⟨by simp, h1, fun y hy ho => ?_⟩
  rw [List.pairwise_append] at hs
  rcases List.mem_append.1 hy with hy | hy
  · have := h2 y hy; rw [ho] at this; cases this
  · rcases List.mem_cons.1 hy with rfl | hy
    · exact shorter_irr _
    · exact shorter_asym ((List.pairwise_cons.1 hs.2.1).1 y hy)
theorem tryAll_find {ok : List Int → Bool} : ∀ {l : List (List Int)} {x : List Int} (old : List Int), l.find? ok = some x → tryAll ok old l = x
  | [], x, _, h => by cases h
  | y :: l, x, old, h => by
    rw [tryAll]
    rw [List.find?_cons] at h
    cases hy : ok y
    · rw [hy] at h; simp only [Bool.false_eq_true, if_false]; exact tryAll_find y h
    · rw [hy] at h; cases h; rfl
theorem any_find {α : Type} {ok : α → Bool} {l : List α} (h : l.any ok = true) : ∃ x, l.find? ok = some x := by
  cases hf : l.find? ok with
  | some x => exact ⟨x, rfl⟩
  | none =>
    rw [List.any_eq_true] at h
    obtain ⟨x, hx, ho⟩ := h
    exact absurd ho (List.find?_eq_none.1 hf x hx)
theorem by_length {f : Nat → List (List Int)} {m : Nat} (h1 : ∀ k, (f k).Pairwise fun a b => beforeL a b = true) (h2 : ∀ k, ∀ x ∈ f k, x.length = k) : ((List.range m).flatMap f).Pairwise fun a b => shorterL a b = true := by
  rw [List.pairwise_flatMap]
  refine ⟨fun k _ => ?_, ?_⟩
  · refine List.Pairwise.imp_of_mem ?_ (h1 k)
    intro a b ha hb hab
    rw [shorter_iff]
    exact .inr ⟨by rw [h2 k a ha, h2 k b hb], hab⟩
  · refine List.Pairwise.imp ?_ List.pairwise_lt_range
    intro a b hab x hx y hy
    rw [shorter_iff]
    exact .inl (by rw [h2 a x hx, h2 b y hy]; exact hab)
end Go.Lift

set_option linter.unusedSimpArgs false
set_option linter.unusedVariables false
namespace Go.Lift
open Go Go.Proofs
theorem find_congr {α : Type} {p q : α → Bool} : ∀ {l : List α}, (∀ x ∈ l, p x = q x) → l.find? p = l.find? q
  | [], _ => rfl
  | a :: l, h => by
    rw [List.find?_cons, List.find?_cons, h a List.mem_cons_self, find_congr fun x hx => h x (List.mem_cons_of_mem _ hx)]
end Go.Lift

set_option linter.unusedSimpArgs false
set_option linter.unusedVariables false
namespace Go.Lift
open Go Go.Proofs
theorem hour_nat {h : House} {k : Int} (hh : hourOK h k = true) : ∃ n : Nat, k = (n : Int) ∧ (n : Int) ≤ h.last := by
  rw [hourOK, decide_eq_true_eq] at hh
  exact ⟨k.toNat, by omega, by omega⟩
def Ord (n : Nat) (x : List Int) : Prop := ∀ a ∈ x, ∃ i : Nat, a = (i : Int) ∧ i < n
theorem mem_orders (n : Nat) : ∀ (k : Nat) (pre x : List Int), x ∈ orders n k pre ↔ ∃ s, x = pre ++ s ∧ s.length = k ∧ Ord n s
  | 0, pre, x => by
    simp only [orders, List.mem_singleton]
    constructor
    · rintro rfl; exact ⟨[], by simp, rfl, fun a ha => by cases ha⟩
    · rintro ⟨s, rfl, h, _⟩; rw [List.length_eq_zero_iff.1 h]; simp
  | k + 1, pre, x => by
    simp only [orders, List.mem_flatMap, List.mem_range]
    constructor
    · rintro ⟨j, hj, hx⟩
      obtain ⟨s, rfl, h1, h2⟩ := (mem_orders n k _ _).1 hx
      refine ⟨(j : Int) :: s, by simp, by simp [h1], fun a ha => ?_⟩
      rcases List.mem_cons.1 ha with rfl | ha
      · exact ⟨j, rfl, hj⟩
      · exact h2 a ha
    · rintro ⟨s, rfl, h1, h2⟩
      cases s with
      | nil => simp at h1
      | cons a s =>
        obtain ⟨i, rfl, hi⟩ := h2 a List.mem_cons_self
        exact ⟨i, hi, (mem_orders n k _ _).2 ⟨s, by simp, by simpa using h1, fun b hb => h2 b (List.mem_cons_of_mem _ hb)⟩⟩
theorem orders_sorted (n : Nat) : ∀ (k : Nat) (pre : List Int), (orders n k pre).Pairwise fun a b => beforeL a b = true
  | 0, _ => by simp [orders]
  | k + 1, pre => by
    rw [orders, List.pairwise_flatMap]
    refine ⟨fun j _ => orders_sorted n k _, ?_⟩
    refine List.Pairwise.imp ?_ List.pairwise_lt_range
    intro a b hab x hx y hy
    obtain ⟨s1, rfl, _⟩ := (mem_orders n k _ _).1 hx
    obtain ⟨s2, rfl, _⟩ := (mem_orders n k _ _).1 hy
    rw [List.append_assoc, List.append_assoc, before_pre]
    simp only [List.singleton_append, beforeL]
    rw [if_neg (by omega)]; exact decide_eq_true (by omega)
def OrdD (h : House) (k : Int) (x : List Int) : Prop := x.length ≤ orderN h k ∧ Ord (nT h) x
theorem orders_len {n k : Nat} {x : List Int} (hx : x ∈ orders n k []) : x.length = k := by
  obtain ⟨s, rfl, h1, _⟩ := (mem_orders n k [] x).1 hx
  simpa using h1
theorem mem_orderL {h : House} {k : Int} {x : List Int} : x ∈ orderL h k ↔ OrdD h k x := by
  simp only [orderL, orderAll, List.mem_flatMap, List.mem_range, mem_orders, List.nil_append, OrdD]
  constructor
  · rintro ⟨m, hm, s, rfl, h1, h2⟩; exact ⟨by omega, h2⟩
  · rintro ⟨h1, h2⟩; exact ⟨x.length, by omega, x, rfl, rfl, h2⟩
theorem orderL_sorted (h : House) (k : Int) : (orderL h k).Pairwise fun a b => shorterL a b = true :=
  by_length (fun k => orders_sorted _ k []) fun k x hx => orders_len hx
theorem order_min {h : House} {k : Int} (ha : ((orderL h k).any fun x => safeP h (rowOf x k)) = true) : IsMin (fun x => safeP h (rowOf x k)) (OrdD h k) (orderOf h k) := by
  obtain ⟨y, hy⟩ := any_find ha
  rw [orderOf, tryAll_find [] hy]
  exact (find_min (orderL_sorted h k) hy).congr (fun y => mem_orderL) (fun _ _ => rfl)
theorem lngR_find (h : House) (l : List Course) (k : Int) : ∀ (n : Nat) (o : List Int), lngR h l k n o = (orders (nT h) n o).find? (ordOK h l k)
  | 0, o => by
    simp only [lngR, orders, List.find?_cons, List.find?_nil]
    cases ordOK h l k o <;> simp
  | n + 1, o => by
    rw [lngR, orders, List.find?_flatMap]
    congr 1
    funext i
    exact lngR_find h l k n _
def orderR (h : House) (l : List Course) (k : Int) (j : Nat) : Option (List Int) := ((List.range j).flatMap fun n => orders (nT h) n []).find? (ordOK h l k)
theorem orderR_succ (h : House) (l : List Course) (k : Int) (j : Nat) : orderR h l k (j + 1) = (orderR h l k j).or (lngR h l k j []) := by
  rw [orderR, List.range_succ, List.flatMap_append, List.find?_append, lngR_find]; simp [orderR]
theorem thing_of {h : House} (hk : HOK h) {x : List Int} : x.all (thingOK h) = true ↔ Ord (nT h) x := by
  have hn := nT_le hk
  rw [List.all_eq_true]
  simp only [thingOK, thingsW_ok hk, w64 (x := (nT h : Int) - 1) (by omega) (by omega), decide_eq_true_eq]
  constructor
  · intro hall a ha
    have := hall a ha
    exact ⟨a.toNat, by omega, by omega⟩
  · intro hall a ha
    obtain ⟨i, rfl, hi⟩ := hall a ha
    omega
theorem longest_val {h : House} (hk : HOK h) {k : Int} (hh : hourOK h k = true) : longestOf h k = if h.last - k + 1 < 3 then h.last - k + 1 else 3 := by
  obtain ⟨n, rfl, hn⟩ := hour_nat hh
  obtain ⟨m, h1, h2⟩ := hk.last
  rw [longestOf, w64 (x := h.last - (n : Int)) (by omega) (by omega), w64 (x := h.last - (n : Int) + 1) (by omega) (by omega)]
theorem isOrd_val {h : House} (hk : HOK h) {k : Int} (hh : hourOK h k = true) (x : List Int) (hx : Sm x.length) : isOrd h x k = (x.all (thingOK h) && decide ((x.length : Int) ≤ longestOf h k)) := by
  obtain ⟨n, rfl, hn⟩ := hour_nat hh
  obtain ⟨m, h1, h2⟩ := hk.last
  unfold Sm at hx
  rw [isOrd, longest_val hk hh, w64 (x := (n : Int) + (x.length : Int)) (by omega) (by omega), w64 (x := (n : Int) + (x.length : Int) - 1) (by omega) (by omega)]
  congr 1
  rw [Bool.eq_iff_iff, Bool.and_eq_true, decide_eq_true_eq, decide_eq_true_eq, decide_eq_true_eq]
  split <;> omega
theorem orderN_val {h : House} (hk : HOK h) {k : Int} (hh : hourOK h k = true) : (orderN h k : Int) = longestOf h k ∧ orderN h k ≤ 3 ∧ 1 ≤ orderN h k := by
  obtain ⟨n, rfl, hn⟩ := hour_nat hh
  obtain ⟨m, h1, h2⟩ := hk.last
  rw [orderN, longest_val hk hh]
  split <;> omega
theorem find_none {α : Type} {p : α → Bool} {l : List α} (h : ∀ x ∈ l, p x = false) : l.find? p = none :=
  List.find?_eq_none.2 fun x hx hp => by rw [h x hx] at hp; cases hp
theorem orderR_eq {h : House} (hv : HV h) {k : Int} (hh : hourOK h k = true) : orderR h (truthsH h) k 4 = (orderL h k).find? fun x => safeP h (rowOf x k) := by
  obtain ⟨h1, h2, h3⟩ := orderN_val hv.ok hh
  have hval : ∀ m, m ≤ 3 → ∀ x ∈ orders (nT h) m [], ordOK h (truthsH h) k x = (decide (m ≤ orderN h k) && safeP h (rowOf x k)) := by
    intro m hm x hx
    have hl := orders_len hx
    obtain ⟨s, hs, _, ho⟩ := (mem_orders _ m [] x).1 hx
    rw [List.nil_append] at hs; subst hs
    rw [ordOK, isOrd_val hv.ok hh x (by unfold Sm; omega), (thing_of hv.ok).2 ho, all_safe hv, ← h1, hl, Bool.true_and]
    congr 1
    rw [Bool.eq_iff_iff, decide_eq_true_eq, decide_eq_true_eq]; omega
  have key : ∀ j, j ≤ 4 → orderR h (truthsH h) k j = ((List.range (min j (orderN h k + 1))).flatMap fun n => orders (nT h) n []).find? fun x => safeP h (rowOf x k) := by
    intro j
    induction j with
    | zero => intro _; simp [orderR]
    | succ j ih =>
      intro hj
      rw [orderR_succ, ih (by omega), lngR_find]
      by_cases hjn : j ≤ orderN h k
      · rw [find_congr (l := orders (nT h) j []) (p := ordOK h (truthsH h) k) (q := fun x => safeP h (rowOf x k)) (fun x hx => by rw [hval j (by omega) x hx, decide_eq_true hjn]; rfl)]
        rw [show min j (orderN h k + 1) = j by omega, show min (j + 1) (orderN h k + 1) = j + 1 by omega, List.range_succ, List.flatMap_append, List.find?_append]
        simp
      · rw [find_none (l := orders (nT h) j []) (p := ordOK h (truthsH h) k) (fun x hx => by rw [hval j (by omega) x hx, decide_eq_false hjn]; rfl)]
        rw [show min j (orderN h k + 1) = orderN h k + 1 by omega, show min (j + 1) (orderN h k + 1) = orderN h k + 1 by omega]
        simp
  rw [key 4 (Nat.le_refl _), show min 4 (orderN h k + 1) = orderN h k + 1 by omega]; rfl
theorem find_any {α : Type} {p : α → Bool} {l : List α} : l.any p = (l.find? p).isSome := by
  rw [Bool.eq_iff_iff, List.find?_isSome, List.any_eq_true]
end Go.Lift

set_option linter.unusedSimpArgs false
set_option linter.unusedVariables false
namespace Go.Lift
open Go Go.Proofs
theorem ask_and {h : House} {f : Bool} (g : Bool) (hne : askErrH h f ≠ 0) : askErrH h (f && g) ≠ 0 := by
  unfold askErrH at *
  by_cases h1 : checkHouse h = 0
  · rw [if_pos h1] at *
    cases f
    · simp
    · cases g
      · simp
      · exact hne
  · rw [if_neg h1]; exact h1
theorem ask_ok {h : House} {f : Bool} (he : askErrH h f = 0) : checkHouse h = 0 ∧ f = true ∧ truH h [] ≠ [] := by
  unfold askErrH at he
  by_cases h1 : checkHouse h = 0
  · rw [if_pos h1] at he
    cases f
    · simp at he
    · refine ⟨h1, rfl, fun h2 => ?_⟩
      rw [if_pos rfl, if_pos h2] at he; cases he
  · rw [if_neg h1] at he; exact absurd he h1
theorem ask_zero {h : House} (h1 : checkHouse h = 0) (h2 : truH h [] ≠ []) : askErrH h true = 0 := by
  rw [askErrH, if_pos h1, if_pos rfl, if_neg h2]
theorem ask_cond {h : House} {f : Bool} (he : askErrH h f = 0) (g : Bool) : decide (askErrH h (f && g) = 0) = g := by
  obtain ⟨h1, rfl, h2⟩ := ask_ok he
  cases g
  · simp [askErrH, h1]
  · simp [ask_zero h1 h2]
end Go.Lift

set_option linter.unusedSimpArgs false
set_option linter.unusedVariables false
namespace Go.Lift
open Go Go.Proofs
def orderRV : Option (List Int) → AV
  | some x => .tup [.slice (eI x), .bool true]
  | none => .tup [.emp, .bool false]
theorem orderR_c (h : House) (hv : HV h) (l : List Course) (hl : Sm l.length) (hc : ∀ c ∈ l, CLen h c) (k : Int) : Pure Tryz.prog 62 [eH h, eCL l, i6 k] (orderRV (orderR h l k 4)) := by
  intro H
  refine fn_of hmix fc62 (by simp) ?_
  rw [ienv3]
  simp only [go_sem, reduceIte, reduceCtorEq, Nat.reduceEqDiff, Nat.reduceBEq, Nat.reduceAdd, Nat.reduceMul, Nat.reduceLeDiff, List.getElem?_cons_zero, List.getElem?_cons_succ, bne_self_eq_false, Int.reduceEq, ac62, eH]
  refine v_box _ rfl fun b1 hb1 => ?_
  have e1 := (Ext.refl H).new hb1 (.box [.slice (h.table.women.map eW), .slice (h.table.pieces.map eP), i6 h.table.wrong, .slice (eI h.sick), i6 h.others, i6 h.last, .slice (h.touches.map eTo), .slice (h.boiled.map eB), .slice (h.signs.map eS)])
  simp only [go_sem, reduceIte, reduceCtorEq, Nat.reduceEqDiff, Nat.reduceBEq, Nat.reduceAdd, Nat.reduceMul, Nat.reduceLeDiff, List.getElem?_cons_zero, List.getElem?_cons_succ, bne_self_eq_false, Int.reduceEq]
  refine x_for 4 (fun j env H1 => Ext H H1 ∧ H1 b1 = some (.box [.slice (h.table.women.map eW), .slice (h.table.pieces.map eP), i6 h.table.wrong, .slice (eI h.sick), i6 h.others, i6 h.last, .slice (h.touches.map eTo), .slice (h.boiled.map eB), .slice (h.signs.map eS)]) ∧ env 1 = eCL l ∧ env 2 = i6 k ∧ env 3 = .ptr b1 0 ∧ env 8 = i6 j ∧ env 25 = .any ∧ orderR h l k j = none)
    ⟨e1, updH_same _ _ _, by simp [upd_at], by simp [upd_at], by simp [upd_at], by simp [upd_at], by simp [upd_at], rfl⟩ ?_
  rintro j env H1 hj ⟨hE, hB, g1, g2, g3, g8, hN, hq⟩
  by_cases hlt : (j : Int) ≤ 3
  · have hlt' : j < 4 := by omega
    simp only [go_sem, reduceIte, reduceCtorEq, Nat.reduceEqDiff, Nat.reduceBEq, Nat.reduceAdd, Nat.reduceMul, Nat.reduceLeDiff, List.getElem?_cons_zero, List.getElem?_cons_succ, bne_self_eq_false, Int.reduceEq, g1, g2, g3, g8, hN, hB, hlt]
    refine ACalls.arg3 (y := .slice (eI [])) (fun w v hr => Wk.emp _ _ _ hr) ?_
    refine (lng_c h hv l hl hc k j [] (by simp; omega)).go ?_
    have hs := orderR_succ h l k j
    rw [hq] at hs
    unfold lngV
    cases d : lngR h l k j [] with
    | some x =>
      rw [d] at hs
      simp only [go_sem, reduceIte, reduceCtorEq, Nat.reduceEqDiff, Nat.reduceBEq, Nat.reduceAdd, Nat.reduceMul, Nat.reduceLeDiff, List.getElem?_cons_zero, List.getElem?_cons_succ, bne_self_eq_false, Int.reduceEq, hN]
      refine fin_ret2 6 7 (by simp [upd_at, hN]) ⟨_, H, ?_, rfl, rfl⟩
      have : orderR h l k 4 = some x := by
        have : ∀ m, orderR h l k (j + 1 + m) = some x := by
          intro m
          induction m with
          | zero => rw [Nat.add_zero, hs]; rfl
          | succ m ih => rw [← Nat.add_assoc, orderR_succ, ih]; rfl
        have := this (4 - (j + 1))
        rwa [show j + 1 + (4 - (j + 1)) = 4 by omega] at this
      rw [this]
      simp only [upd_at, if_true, Nat.reduceEqDiff, if_false, orderRV]
      exact Settle.refl hE
    | none =>
      rw [d] at hs
      simp only [go_sem, reduceIte, reduceCtorEq, Nat.reduceEqDiff, Nat.reduceBEq, Nat.reduceAdd, Nat.reduceMul, Nat.reduceLeDiff, List.getElem?_cons_zero, List.getElem?_cons_succ, bne_self_eq_false, Int.reduceEq, g1, g2, g3, g8, hN, hB, wsucc (show j < 4611686018427387904 by omega), hlt']
      exact ⟨hE, hs⟩
  · have : j = 4 := by omega
    subst this
    simp only [go_sem, reduceIte, reduceCtorEq, Nat.reduceEqDiff, Nat.reduceBEq, Nat.reduceAdd, Nat.reduceMul, Nat.reduceLeDiff, List.getElem?_cons_zero, List.getElem?_cons_succ, bne_self_eq_false, Int.reduceEq, g1, g2, g3, g8, hN, hlt]
    refine fin_ret2 6 7 (by simp [upd_at, hN]) ⟨_, H, ?_, rfl, rfl⟩
    rw [hq]
    simp only [upd_at, if_true, Nat.reduceEqDiff, if_false, orderRV]
    exact Settle.refl hE
theorem orderOf_len {h : House} (hk : HOK h) {k : Int} (hh : hourOK h k = true) (ha : ((orderL h k).any fun x => safeP h (rowOf x k)) = true) : (orderOf h k).length ≤ 3 := by
  have h1 := (order_min ha).dom.1
  have h2 := (orderN_val hk hh).2.1
  omega
theorem orders_none (h : House) (k : Int) (l : List Int) (many : Int) (c1 : thinH h = true) (c0 : ¬ 30 < (l.length : Int)) (c2 : askErrH h (hourOK h k) = 0) (d9 : (orderL h k).find? (fun x => safeP h (rowOf x k)) = none) : Pure Tryz.prog 13 [eH h, i6 k, .slice (eI l), i6 many] (.bool true) := by
  intro H
  refine fn_of hmix fc13 (by simp) ?_
  rw [ienv4]
  simp only [go_sem, reduceIte, reduceCtorEq, Nat.reduceEqDiff, Nat.reduceBEq, Nat.reduceAdd, Nat.reduceMul, Nat.reduceLeDiff, List.getElem?_cons_zero, List.getElem?_cons_succ, bne_self_eq_false, Int.reduceEq, ac13, eH]
  refine v_box _ rfl fun b1 hb1 => ?_
  have e1 := (Ext.refl H).new hb1 (.box [.slice (h.table.women.map eW), .slice (h.table.pieces.map eP), i6 h.table.wrong, .slice (eI h.sick), i6 h.others, i6 h.last, .slice (h.touches.map eTo), .slice (h.boiled.map eB), .slice (h.signs.map eS)])
  simp only [go_sem, reduceIte, reduceCtorEq, Nat.reduceEqDiff, Nat.reduceBEq, Nat.reduceAdd, Nat.reduceMul, Nat.reduceLeDiff, List.getElem?_cons_zero, List.getElem?_cons_succ, bne_self_eq_false, Int.reduceEq]
  refine (thinH_c h).go ?_
  have hm := thin_sm c1
  have hl : Sm l.length := by unfold Sm; omega
  simp only [go_sem, reduceIte, reduceCtorEq, Nat.reduceEqDiff, Nat.reduceBEq, Nat.reduceAdd, Nat.reduceMul, Nat.reduceLeDiff, List.getElem?_cons_zero, List.getElem?_cons_succ, bne_self_eq_false, Int.reduceEq, c1, c0]
  refine (house_c h hm).go ?_
  simp only [go_sem, reduceIte, reduceCtorEq, Nat.reduceEqDiff, Nat.reduceBEq, Nat.reduceAdd, Nat.reduceMul, Nat.reduceLeDiff, List.getElem?_cons_zero, List.getElem?_cons_succ, bne_self_eq_false, Int.reduceEq]
  refine (order_c h hm.tsm hm.sk k).go ?_
  obtain ⟨hc, hh, htn⟩ := ask_ok c2
  have hv := hv_of hm.tsm hm.sk hc
  have htl := truthsH_sm hv
  have hc10 : ¬ (10 : Int) = 0 := by omega
  have hany : ((orderL h k).any fun x => safeP h (rowOf x k)) = ((orderL h k).find? fun x => safeP h (rowOf x k)).isSome := find_any
  have k2 : proveOrderP h k l many = (isOrd h l k && (decide ((l.length : Int) ≤ many) && safeP h (rowOf l k))) := by
    rw [proveOrderP, ask_cond c2, isOrd_val hv.ok hh l hl]
    cases l.all (thingOK h) <;> cases decide ((l.length : Int) ≤ many) <;> cases decide ((l.length : Int) ≤ longestOf h k) <;> rfl
  rw [d9] at hany
  have k3 : orderE h k = 10 := by rw [orderE, if_pos c2, hany]; rfl
  simp only [go_sem, reduceIte, reduceCtorEq, Nat.reduceEqDiff, Nat.reduceBEq, Nat.reduceAdd, Nat.reduceMul, Nat.reduceLeDiff, List.getElem?_cons_zero, List.getElem?_cons_succ, bne_self_eq_false, Int.reduceEq, listR, k3, hc10]
  refine (house_c h hm).go ?_
  simp only [go_sem, reduceIte, reduceCtorEq, Nat.reduceEqDiff, Nat.reduceBEq, Nat.reduceAdd, Nat.reduceMul, Nat.reduceLeDiff, List.getElem?_cons_zero, List.getElem?_cons_succ, bne_self_eq_false, Int.reduceEq]
  refine (copyL_c l (by omega)).go ?_
  simp only [go_sem, reduceIte, reduceCtorEq, Nat.reduceEqDiff, Nat.reduceBEq, Nat.reduceAdd, Nat.reduceMul, Nat.reduceLeDiff, List.getElem?_cons_zero, List.getElem?_cons_succ, bne_self_eq_false, Int.reduceEq]
  refine (proveOrder_c h hm.tsm hm.sk k l hl many).go ?_
  rw [k2]
  simp only [go_sem, reduceIte, reduceCtorEq, Nat.reduceEqDiff, Nat.reduceBEq, Nat.reduceAdd, Nat.reduceMul, Nat.reduceLeDiff, List.getElem?_cons_zero, List.getElem?_cons_succ, bne_self_eq_false, Int.reduceEq]
  refine (within_c' h hm k).go ?_
  simp only [go_sem, reduceIte, reduceCtorEq, Nat.reduceEqDiff, Nat.reduceBEq, Nat.reduceAdd, Nat.reduceMul, Nat.reduceLeDiff, List.getElem?_cons_zero, List.getElem?_cons_succ, bne_self_eq_false, Int.reduceEq, withinR, c2]
  refine pgo_call (isOrd_c h l k hl) ?_
  cases d1 : isOrd h l k
  · simp only [go_sem, reduceIte, reduceCtorEq, Nat.reduceEqDiff, Nat.reduceBEq, Nat.reduceAdd, Nat.reduceMul, Nat.reduceLeDiff, List.getElem?_cons_zero, List.getElem?_cons_succ, bne_self_eq_false, Int.reduceEq, and_self, decide_true, decide_false, Bool.or_true, Bool.true_or, Bool.true_and, Bool.and_true, Bool.or_false, Bool.false_or, Bool.not_false, Bool.not_true, Bool.and_false, Bool.false_and, not_true_eq_false, not_false_eq_true, if_true, if_false, reduceIte, Bool.false_eq_true, eq_self, true_and, and_true, beq_self_eq_true]
    refine (orderR_c h hv (truthsH h) (by unfold Sm; omega) (fun c hc => truthsH_clen hv hc) k).go ?_
    rw [orderR_eq hv hh, d9]
    simp only [go_sem, reduceIte, reduceCtorEq, Nat.reduceEqDiff, Nat.reduceBEq, Nat.reduceAdd, Nat.reduceMul, Nat.reduceLeDiff, List.getElem?_cons_zero, List.getElem?_cons_succ, bne_self_eq_false, Int.reduceEq, orderRV]
    refine awake_c.go ?_
    simp only [go_sem, reduceIte, reduceCtorEq, Nat.reduceEqDiff, Nat.reduceBEq, Nat.reduceAdd, Nat.reduceMul, Nat.reduceLeDiff, List.getElem?_cons_zero, List.getElem?_cons_succ, bne_self_eq_false, Int.reduceEq]
    exact fin_ret 8 (by simp [upd_at]) ⟨_, H, Settle.refl e1, by simp [upd_at], rfl⟩
  by_cases d2 : (l.length : Int) ≤ many
  rotate_left
  · simp only [go_sem, reduceIte, reduceCtorEq, Nat.reduceEqDiff, Nat.reduceBEq, Nat.reduceAdd, Nat.reduceMul, Nat.reduceLeDiff, List.getElem?_cons_zero, List.getElem?_cons_succ, bne_self_eq_false, Int.reduceEq, and_self, decide_true, decide_false, Bool.or_true, Bool.true_or, Bool.true_and, Bool.and_true, Bool.or_false, Bool.false_or, Bool.not_false, Bool.not_true, Bool.and_false, Bool.false_and, not_true_eq_false, not_false_eq_true, if_true, if_false, reduceIte, Bool.false_eq_true, eq_self, true_and, and_true, beq_self_eq_true, d2]
    refine (orderR_c h hv (truthsH h) (by unfold Sm; omega) (fun c hc => truthsH_clen hv hc) k).go ?_
    rw [orderR_eq hv hh, d9]
    simp only [go_sem, reduceIte, reduceCtorEq, Nat.reduceEqDiff, Nat.reduceBEq, Nat.reduceAdd, Nat.reduceMul, Nat.reduceLeDiff, List.getElem?_cons_zero, List.getElem?_cons_succ, bne_self_eq_false, Int.reduceEq, orderRV]
    refine awake_c.go ?_
    simp only [go_sem, reduceIte, reduceCtorEq, Nat.reduceEqDiff, Nat.reduceBEq, Nat.reduceAdd, Nat.reduceMul, Nat.reduceLeDiff, List.getElem?_cons_zero, List.getElem?_cons_succ, bne_self_eq_false, Int.reduceEq]
    exact fin_ret 8 (by simp [upd_at]) ⟨_, H, Settle.refl e1, by simp [upd_at], rfl⟩
  simp only [go_sem, reduceIte, reduceCtorEq, Nat.reduceEqDiff, Nat.reduceBEq, Nat.reduceAdd, Nat.reduceMul, Nat.reduceLeDiff, List.getElem?_cons_zero, List.getElem?_cons_succ, bne_self_eq_false, Int.reduceEq, and_self, decide_true, decide_false, Bool.or_true, Bool.true_or, Bool.true_and, Bool.and_true, Bool.or_false, Bool.false_or, Bool.not_false, Bool.not_true, Bool.and_false, Bool.false_and, not_true_eq_false, not_false_eq_true, if_true, if_false, reduceIte, Bool.false_eq_true, eq_self, true_and, and_true, beq_self_eq_true, d2]
  refine pgo_call (rowR_c l k hl) ?_
  simp only [go_sem, reduceIte, reduceCtorEq, Nat.reduceEqDiff, Nat.reduceBEq, Nat.reduceAdd, Nat.reduceMul, Nat.reduceLeDiff, List.getElem?_cons_zero, List.getElem?_cons_succ, bne_self_eq_false, Int.reduceEq]
  refine pgo_call (areSafe_c h hv (truthsH h) (by unfold Sm; omega) (fun c hc => truthsH_clen hv hc) (rowOf l k) (by simp [rowOf]; omega)) ?_
  rw [all_safe hv]
  cases d3 : safeP h (rowOf l k)
  · simp only [go_sem, reduceIte, reduceCtorEq, Nat.reduceEqDiff, Nat.reduceBEq, Nat.reduceAdd, Nat.reduceMul, Nat.reduceLeDiff, List.getElem?_cons_zero, List.getElem?_cons_succ, bne_self_eq_false, Int.reduceEq, and_self, decide_true, decide_false, Bool.or_true, Bool.true_or, Bool.true_and, Bool.and_true, Bool.or_false, Bool.false_or, Bool.not_false, Bool.not_true, Bool.and_false, Bool.false_and, not_true_eq_false, not_false_eq_true, if_true, if_false, reduceIte, Bool.false_eq_true, eq_self, true_and, and_true, beq_self_eq_true, d3]
    refine (orderR_c h hv (truthsH h) (by unfold Sm; omega) (fun c hc => truthsH_clen hv hc) k).go ?_
    rw [orderR_eq hv hh, d9]
    simp only [go_sem, reduceIte, reduceCtorEq, Nat.reduceEqDiff, Nat.reduceBEq, Nat.reduceAdd, Nat.reduceMul, Nat.reduceLeDiff, List.getElem?_cons_zero, List.getElem?_cons_succ, bne_self_eq_false, Int.reduceEq, orderRV]
    refine awake_c.go ?_
    simp only [go_sem, reduceIte, reduceCtorEq, Nat.reduceEqDiff, Nat.reduceBEq, Nat.reduceAdd, Nat.reduceMul, Nat.reduceLeDiff, List.getElem?_cons_zero, List.getElem?_cons_succ, bne_self_eq_false, Int.reduceEq]
    exact fin_ret 8 (by simp [upd_at]) ⟨_, H, Settle.refl e1, by simp [upd_at], rfl⟩
  · simp only [go_sem, reduceIte, reduceCtorEq, Nat.reduceEqDiff, Nat.reduceBEq, Nat.reduceAdd, Nat.reduceMul, Nat.reduceLeDiff, List.getElem?_cons_zero, List.getElem?_cons_succ, bne_self_eq_false, Int.reduceEq, and_self, decide_true, decide_false, Bool.or_true, Bool.true_or, Bool.true_and, Bool.and_true, Bool.or_false, Bool.false_or, Bool.not_false, Bool.not_true, Bool.and_false, Bool.false_and, not_true_eq_false, not_false_eq_true, if_true, if_false, reduceIte, Bool.false_eq_true, eq_self, true_and, and_true, beq_self_eq_true, d3]
    refine (orderR_c h hv (truthsH h) (by unfold Sm; omega) (fun c hc => truthsH_clen hv hc) k).go ?_
    rw [orderR_eq hv hh, d9]
    simp only [go_sem, reduceIte, reduceCtorEq, Nat.reduceEqDiff, Nat.reduceBEq, Nat.reduceAdd, Nat.reduceMul, Nat.reduceLeDiff, List.getElem?_cons_zero, List.getElem?_cons_succ, bne_self_eq_false, Int.reduceEq, orderRV]
    refine awake_c.go ?_
    simp only [go_sem, reduceIte, reduceCtorEq, Nat.reduceEqDiff, Nat.reduceBEq, Nat.reduceAdd, Nat.reduceMul, Nat.reduceLeDiff, List.getElem?_cons_zero, List.getElem?_cons_succ, bne_self_eq_false, Int.reduceEq]
    exact fin_ret 8 (by simp [upd_at]) ⟨_, H, Settle.refl e1, by simp [upd_at], rfl⟩
theorem orders_some (h : House) (k : Int) (l : List Int) (many : Int) (c1 : thinH h = true) (c0 : ¬ 30 < (l.length : Int)) (c2 : askErrH h (hourOK h k) = 0) (y : List Int) (d9 : (orderL h k).find? (fun x => safeP h (rowOf x k)) = some y) : Pure Tryz.prog 13 [eH h, i6 k, .slice (eI l), i6 many] (.bool true) := by
  intro H
  refine fn_of hmix fc13 (by simp) ?_
  rw [ienv4]
  simp only [go_sem, reduceIte, reduceCtorEq, Nat.reduceEqDiff, Nat.reduceBEq, Nat.reduceAdd, Nat.reduceMul, Nat.reduceLeDiff, List.getElem?_cons_zero, List.getElem?_cons_succ, bne_self_eq_false, Int.reduceEq, ac13, eH]
  refine v_box _ rfl fun b1 hb1 => ?_
  have e1 := (Ext.refl H).new hb1 (.box [.slice (h.table.women.map eW), .slice (h.table.pieces.map eP), i6 h.table.wrong, .slice (eI h.sick), i6 h.others, i6 h.last, .slice (h.touches.map eTo), .slice (h.boiled.map eB), .slice (h.signs.map eS)])
  simp only [go_sem, reduceIte, reduceCtorEq, Nat.reduceEqDiff, Nat.reduceBEq, Nat.reduceAdd, Nat.reduceMul, Nat.reduceLeDiff, List.getElem?_cons_zero, List.getElem?_cons_succ, bne_self_eq_false, Int.reduceEq]
  refine (thinH_c h).go ?_
  have hm := thin_sm c1
  have hl : Sm l.length := by unfold Sm; omega
  simp only [go_sem, reduceIte, reduceCtorEq, Nat.reduceEqDiff, Nat.reduceBEq, Nat.reduceAdd, Nat.reduceMul, Nat.reduceLeDiff, List.getElem?_cons_zero, List.getElem?_cons_succ, bne_self_eq_false, Int.reduceEq, c1, c0]
  refine (house_c h hm).go ?_
  simp only [go_sem, reduceIte, reduceCtorEq, Nat.reduceEqDiff, Nat.reduceBEq, Nat.reduceAdd, Nat.reduceMul, Nat.reduceLeDiff, List.getElem?_cons_zero, List.getElem?_cons_succ, bne_self_eq_false, Int.reduceEq]
  refine (order_c h hm.tsm hm.sk k).go ?_
  obtain ⟨hc, hh, htn⟩ := ask_ok c2
  have hv := hv_of hm.tsm hm.sk hc
  have htl := truthsH_sm hv
  have hc10 : ¬ (10 : Int) = 0 := by omega
  have hany : ((orderL h k).any fun x => safeP h (rowOf x k)) = ((orderL h k).find? fun x => safeP h (rowOf x k)).isSome := find_any
  have k2 : proveOrderP h k l many = (isOrd h l k && (decide ((l.length : Int) ≤ many) && safeP h (rowOf l k))) := by
    rw [proveOrderP, ask_cond c2, isOrd_val hv.ok hh l hl]
    cases l.all (thingOK h) <;> cases decide ((l.length : Int) ≤ many) <;> cases decide ((l.length : Int) ≤ longestOf h k) <;> rfl
  rw [d9] at hany
  have k3 : orderE h k = 0 := by rw [orderE, if_pos c2, hany]; rfl
  have ky : orderOf h k = y := tryAll_find [] d9
  have hyl := orderOf_len hv.ok hh hany
  subst ky
  simp only [go_sem, reduceIte, reduceCtorEq, Nat.reduceEqDiff, Nat.reduceBEq, Nat.reduceAdd, Nat.reduceMul, Nat.reduceLeDiff, List.getElem?_cons_zero, List.getElem?_cons_succ, bne_self_eq_false, Int.reduceEq, listR, k3]
  refine (house_c h hm).go ?_
  simp only [go_sem, reduceIte, reduceCtorEq, Nat.reduceEqDiff, Nat.reduceBEq, Nat.reduceAdd, Nat.reduceMul, Nat.reduceLeDiff, List.getElem?_cons_zero, List.getElem?_cons_succ, bne_self_eq_false, Int.reduceEq]
  refine (copyL_c l (by omega)).go ?_
  simp only [go_sem, reduceIte, reduceCtorEq, Nat.reduceEqDiff, Nat.reduceBEq, Nat.reduceAdd, Nat.reduceMul, Nat.reduceLeDiff, List.getElem?_cons_zero, List.getElem?_cons_succ, bne_self_eq_false, Int.reduceEq]
  refine (proveOrder_c h hm.tsm hm.sk k l hl many).go ?_
  rw [k2]
  simp only [go_sem, reduceIte, reduceCtorEq, Nat.reduceEqDiff, Nat.reduceBEq, Nat.reduceAdd, Nat.reduceMul, Nat.reduceLeDiff, List.getElem?_cons_zero, List.getElem?_cons_succ, bne_self_eq_false, Int.reduceEq]
  refine (within_c' h hm k).go ?_
  simp only [go_sem, reduceIte, reduceCtorEq, Nat.reduceEqDiff, Nat.reduceBEq, Nat.reduceAdd, Nat.reduceMul, Nat.reduceLeDiff, List.getElem?_cons_zero, List.getElem?_cons_succ, bne_self_eq_false, Int.reduceEq, withinR, c2]
  refine pgo_call (isOrd_c h l k hl) ?_
  cases d1 : isOrd h l k
  · simp only [go_sem, reduceIte, reduceCtorEq, Nat.reduceEqDiff, Nat.reduceBEq, Nat.reduceAdd, Nat.reduceMul, Nat.reduceLeDiff, List.getElem?_cons_zero, List.getElem?_cons_succ, bne_self_eq_false, Int.reduceEq, and_self, decide_true, decide_false, Bool.or_true, Bool.true_or, Bool.true_and, Bool.and_true, Bool.or_false, Bool.false_or, Bool.not_false, Bool.not_true, Bool.and_false, Bool.false_and, not_true_eq_false, not_false_eq_true, if_true, if_false, reduceIte, Bool.false_eq_true, eq_self, true_and, and_true, beq_self_eq_true]
    refine (orderR_c h hv (truthsH h) (by unfold Sm; omega) (fun c hc => truthsH_clen hv hc) k).go ?_
    rw [orderR_eq hv hh, d9]
    simp only [go_sem, reduceIte, reduceCtorEq, Nat.reduceEqDiff, Nat.reduceBEq, Nat.reduceAdd, Nat.reduceMul, Nat.reduceLeDiff, List.getElem?_cons_zero, List.getElem?_cons_succ, bne_self_eq_false, Int.reduceEq, orderRV]
    refine (same_c (orderOf h k) (orderOf h k) (by unfold Sm; omega)).go ?_
    simp only [go_sem, reduceIte, reduceCtorEq, Nat.reduceEqDiff, Nat.reduceBEq, Nat.reduceAdd, Nat.reduceMul, Nat.reduceLeDiff, List.getElem?_cons_zero, List.getElem?_cons_succ, bne_self_eq_false, Int.reduceEq]
    refine awake_c.go ?_
    simp only [go_sem, reduceIte, reduceCtorEq, Nat.reduceEqDiff, Nat.reduceBEq, Nat.reduceAdd, Nat.reduceMul, Nat.reduceLeDiff, List.getElem?_cons_zero, List.getElem?_cons_succ, bne_self_eq_false, Int.reduceEq]
    exact fin_ret 8 (by simp [upd_at]) ⟨_, H, Settle.refl e1, by simp [upd_at], rfl⟩
  by_cases d2 : (l.length : Int) ≤ many
  rotate_left
  · simp only [go_sem, reduceIte, reduceCtorEq, Nat.reduceEqDiff, Nat.reduceBEq, Nat.reduceAdd, Nat.reduceMul, Nat.reduceLeDiff, List.getElem?_cons_zero, List.getElem?_cons_succ, bne_self_eq_false, Int.reduceEq, and_self, decide_true, decide_false, Bool.or_true, Bool.true_or, Bool.true_and, Bool.and_true, Bool.or_false, Bool.false_or, Bool.not_false, Bool.not_true, Bool.and_false, Bool.false_and, not_true_eq_false, not_false_eq_true, if_true, if_false, reduceIte, Bool.false_eq_true, eq_self, true_and, and_true, beq_self_eq_true, d2]
    refine (orderR_c h hv (truthsH h) (by unfold Sm; omega) (fun c hc => truthsH_clen hv hc) k).go ?_
    rw [orderR_eq hv hh, d9]
    simp only [go_sem, reduceIte, reduceCtorEq, Nat.reduceEqDiff, Nat.reduceBEq, Nat.reduceAdd, Nat.reduceMul, Nat.reduceLeDiff, List.getElem?_cons_zero, List.getElem?_cons_succ, bne_self_eq_false, Int.reduceEq, orderRV]
    refine (same_c (orderOf h k) (orderOf h k) (by unfold Sm; omega)).go ?_
    simp only [go_sem, reduceIte, reduceCtorEq, Nat.reduceEqDiff, Nat.reduceBEq, Nat.reduceAdd, Nat.reduceMul, Nat.reduceLeDiff, List.getElem?_cons_zero, List.getElem?_cons_succ, bne_self_eq_false, Int.reduceEq]
    refine awake_c.go ?_
    simp only [go_sem, reduceIte, reduceCtorEq, Nat.reduceEqDiff, Nat.reduceBEq, Nat.reduceAdd, Nat.reduceMul, Nat.reduceLeDiff, List.getElem?_cons_zero, List.getElem?_cons_succ, bne_self_eq_false, Int.reduceEq]
    exact fin_ret 8 (by simp [upd_at]) ⟨_, H, Settle.refl e1, by simp [upd_at], rfl⟩
  simp only [go_sem, reduceIte, reduceCtorEq, Nat.reduceEqDiff, Nat.reduceBEq, Nat.reduceAdd, Nat.reduceMul, Nat.reduceLeDiff, List.getElem?_cons_zero, List.getElem?_cons_succ, bne_self_eq_false, Int.reduceEq, and_self, decide_true, decide_false, Bool.or_true, Bool.true_or, Bool.true_and, Bool.and_true, Bool.or_false, Bool.false_or, Bool.not_false, Bool.not_true, Bool.and_false, Bool.false_and, not_true_eq_false, not_false_eq_true, if_true, if_false, reduceIte, Bool.false_eq_true, eq_self, true_and, and_true, beq_self_eq_true, d2]
  refine pgo_call (rowR_c l k hl) ?_
  simp only [go_sem, reduceIte, reduceCtorEq, Nat.reduceEqDiff, Nat.reduceBEq, Nat.reduceAdd, Nat.reduceMul, Nat.reduceLeDiff, List.getElem?_cons_zero, List.getElem?_cons_succ, bne_self_eq_false, Int.reduceEq]
  refine pgo_call (areSafe_c h hv (truthsH h) (by unfold Sm; omega) (fun c hc => truthsH_clen hv hc) (rowOf l k) (by simp [rowOf]; omega)) ?_
  rw [all_safe hv]
  cases d3 : safeP h (rowOf l k)
  · simp only [go_sem, reduceIte, reduceCtorEq, Nat.reduceEqDiff, Nat.reduceBEq, Nat.reduceAdd, Nat.reduceMul, Nat.reduceLeDiff, List.getElem?_cons_zero, List.getElem?_cons_succ, bne_self_eq_false, Int.reduceEq, and_self, decide_true, decide_false, Bool.or_true, Bool.true_or, Bool.true_and, Bool.and_true, Bool.or_false, Bool.false_or, Bool.not_false, Bool.not_true, Bool.and_false, Bool.false_and, not_true_eq_false, not_false_eq_true, if_true, if_false, reduceIte, Bool.false_eq_true, eq_self, true_and, and_true, beq_self_eq_true, d3]
    refine (orderR_c h hv (truthsH h) (by unfold Sm; omega) (fun c hc => truthsH_clen hv hc) k).go ?_
    rw [orderR_eq hv hh, d9]
    simp only [go_sem, reduceIte, reduceCtorEq, Nat.reduceEqDiff, Nat.reduceBEq, Nat.reduceAdd, Nat.reduceMul, Nat.reduceLeDiff, List.getElem?_cons_zero, List.getElem?_cons_succ, bne_self_eq_false, Int.reduceEq, orderRV]
    refine (same_c (orderOf h k) (orderOf h k) (by unfold Sm; omega)).go ?_
    simp only [go_sem, reduceIte, reduceCtorEq, Nat.reduceEqDiff, Nat.reduceBEq, Nat.reduceAdd, Nat.reduceMul, Nat.reduceLeDiff, List.getElem?_cons_zero, List.getElem?_cons_succ, bne_self_eq_false, Int.reduceEq]
    refine awake_c.go ?_
    simp only [go_sem, reduceIte, reduceCtorEq, Nat.reduceEqDiff, Nat.reduceBEq, Nat.reduceAdd, Nat.reduceMul, Nat.reduceLeDiff, List.getElem?_cons_zero, List.getElem?_cons_succ, bne_self_eq_false, Int.reduceEq]
    exact fin_ret 8 (by simp [upd_at]) ⟨_, H, Settle.refl e1, by simp [upd_at], rfl⟩
  · simp only [go_sem, reduceIte, reduceCtorEq, Nat.reduceEqDiff, Nat.reduceBEq, Nat.reduceAdd, Nat.reduceMul, Nat.reduceLeDiff, List.getElem?_cons_zero, List.getElem?_cons_succ, bne_self_eq_false, Int.reduceEq, and_self, decide_true, decide_false, Bool.or_true, Bool.true_or, Bool.true_and, Bool.and_true, Bool.or_false, Bool.false_or, Bool.not_false, Bool.not_true, Bool.and_false, Bool.false_and, not_true_eq_false, not_false_eq_true, if_true, if_false, reduceIte, Bool.false_eq_true, eq_self, true_and, and_true, beq_self_eq_true, d3]
    refine (orderR_c h hv (truthsH h) (by unfold Sm; omega) (fun c hc => truthsH_clen hv hc) k).go ?_
    rw [orderR_eq hv hh, d9]
    simp only [go_sem, reduceIte, reduceCtorEq, Nat.reduceEqDiff, Nat.reduceBEq, Nat.reduceAdd, Nat.reduceMul, Nat.reduceLeDiff, List.getElem?_cons_zero, List.getElem?_cons_succ, bne_self_eq_false, Int.reduceEq, orderRV]
    refine (same_c (orderOf h k) (orderOf h k) (by unfold Sm; omega)).go ?_
    simp only [go_sem, reduceIte, reduceCtorEq, Nat.reduceEqDiff, Nat.reduceBEq, Nat.reduceAdd, Nat.reduceMul, Nat.reduceLeDiff, List.getElem?_cons_zero, List.getElem?_cons_succ, bne_self_eq_false, Int.reduceEq]
    refine awake_c.go ?_
    simp only [go_sem, reduceIte, reduceCtorEq, Nat.reduceEqDiff, Nat.reduceBEq, Nat.reduceAdd, Nat.reduceMul, Nat.reduceLeDiff, List.getElem?_cons_zero, List.getElem?_cons_succ, bne_self_eq_false, Int.reduceEq]
    exact fin_ret 8 (by simp [upd_at]) ⟨_, H, Settle.refl e1, by simp [upd_at], rfl⟩
theorem orders_law (h : House) (k : Int) (hkw : (Lit.int .i64 k).wf = true) (l : List Int) (many : Int) (hmw : (Lit.int .i64 many).wf = true) : Pure Tryz.prog 13 [eH h, i6 k, .slice (eI l), i6 many] (.bool true) := by
  cases c1 : thinH h
  · intro H
    refine fn_of hmix fc13 (by simp) ?_
    rw [ienv4]
    simp only [go_sem, reduceIte, reduceCtorEq, Nat.reduceEqDiff, Nat.reduceBEq, Nat.reduceAdd, Nat.reduceMul, Nat.reduceLeDiff, List.getElem?_cons_zero, List.getElem?_cons_succ, bne_self_eq_false, Int.reduceEq, ac13, eH]
    refine v_box _ rfl fun b1 hb1 => ?_
    have e1 := (Ext.refl H).new hb1 (.box [.slice (h.table.women.map eW), .slice (h.table.pieces.map eP), i6 h.table.wrong, .slice (eI h.sick), i6 h.others, i6 h.last, .slice (h.touches.map eTo), .slice (h.boiled.map eB), .slice (h.signs.map eS)])
    simp only [go_sem, reduceIte, reduceCtorEq, Nat.reduceEqDiff, Nat.reduceBEq, Nat.reduceAdd, Nat.reduceMul, Nat.reduceLeDiff, List.getElem?_cons_zero, List.getElem?_cons_succ, bne_self_eq_false, Int.reduceEq]
    refine (thinH_c h).go ?_
    simp only [go_sem, reduceIte, reduceCtorEq, Nat.reduceEqDiff, Nat.reduceBEq, Nat.reduceAdd, Nat.reduceMul, Nat.reduceLeDiff, List.getElem?_cons_zero, List.getElem?_cons_succ, bne_self_eq_false, Int.reduceEq, c1]
    refine awake_c.go ?_
    simp only [go_sem, reduceIte, reduceCtorEq, Nat.reduceEqDiff, Nat.reduceBEq, Nat.reduceAdd, Nat.reduceMul, Nat.reduceLeDiff, List.getElem?_cons_zero, List.getElem?_cons_succ, bne_self_eq_false, Int.reduceEq]
    exact fin_ret 8 (by simp [upd_at]) ⟨_, H, Settle.refl e1, by simp [upd_at], rfl⟩
  by_cases c0 : 30 < (l.length : Int)
  · intro H
    refine fn_of hmix fc13 (by simp) ?_
    rw [ienv4]
    simp only [go_sem, reduceIte, reduceCtorEq, Nat.reduceEqDiff, Nat.reduceBEq, Nat.reduceAdd, Nat.reduceMul, Nat.reduceLeDiff, List.getElem?_cons_zero, List.getElem?_cons_succ, bne_self_eq_false, Int.reduceEq, ac13, eH]
    refine v_box _ rfl fun b1 hb1 => ?_
    have e1 := (Ext.refl H).new hb1 (.box [.slice (h.table.women.map eW), .slice (h.table.pieces.map eP), i6 h.table.wrong, .slice (eI h.sick), i6 h.others, i6 h.last, .slice (h.touches.map eTo), .slice (h.boiled.map eB), .slice (h.signs.map eS)])
    simp only [go_sem, reduceIte, reduceCtorEq, Nat.reduceEqDiff, Nat.reduceBEq, Nat.reduceAdd, Nat.reduceMul, Nat.reduceLeDiff, List.getElem?_cons_zero, List.getElem?_cons_succ, bne_self_eq_false, Int.reduceEq]
    refine (thinH_c h).go ?_
    simp only [go_sem, reduceIte, reduceCtorEq, Nat.reduceEqDiff, Nat.reduceBEq, Nat.reduceAdd, Nat.reduceMul, Nat.reduceLeDiff, List.getElem?_cons_zero, List.getElem?_cons_succ, bne_self_eq_false, Int.reduceEq, c1, c0]
    refine awake_c.go ?_
    simp only [go_sem, reduceIte, reduceCtorEq, Nat.reduceEqDiff, Nat.reduceBEq, Nat.reduceAdd, Nat.reduceMul, Nat.reduceLeDiff, List.getElem?_cons_zero, List.getElem?_cons_succ, bne_self_eq_false, Int.reduceEq]
    exact fin_ret 8 (by simp [upd_at]) ⟨_, H, Settle.refl e1, by simp [upd_at], rfl⟩
  by_cases c2 : askErrH h (hourOK h k) = 0
  · cases d9 : (orderL h k).find? fun x => safeP h (rowOf x k) with
    | none => exact orders_none h k l many c1 c0 c2 d9
    | some y => exact orders_some h k l many c1 c0 c2 y d9
  · intro H
    refine fn_of hmix fc13 (by simp) ?_
    rw [ienv4]
    simp only [go_sem, reduceIte, reduceCtorEq, Nat.reduceEqDiff, Nat.reduceBEq, Nat.reduceAdd, Nat.reduceMul, Nat.reduceLeDiff, List.getElem?_cons_zero, List.getElem?_cons_succ, bne_self_eq_false, Int.reduceEq, ac13, eH]
    refine v_box _ rfl fun b1 hb1 => ?_
    have e1 := (Ext.refl H).new hb1 (.box [.slice (h.table.women.map eW), .slice (h.table.pieces.map eP), i6 h.table.wrong, .slice (eI h.sick), i6 h.others, i6 h.last, .slice (h.touches.map eTo), .slice (h.boiled.map eB), .slice (h.signs.map eS)])
    simp only [go_sem, reduceIte, reduceCtorEq, Nat.reduceEqDiff, Nat.reduceBEq, Nat.reduceAdd, Nat.reduceMul, Nat.reduceLeDiff, List.getElem?_cons_zero, List.getElem?_cons_succ, bne_self_eq_false, Int.reduceEq]
    refine (thinH_c h).go ?_
    have hm := thin_sm c1
    have hl : Sm l.length := by unfold Sm; omega
    simp only [go_sem, reduceIte, reduceCtorEq, Nat.reduceEqDiff, Nat.reduceBEq, Nat.reduceAdd, Nat.reduceMul, Nat.reduceLeDiff, List.getElem?_cons_zero, List.getElem?_cons_succ, bne_self_eq_false, Int.reduceEq, c1, c0]
    refine (house_c h hm).go ?_
    simp only [go_sem, reduceIte, reduceCtorEq, Nat.reduceEqDiff, Nat.reduceBEq, Nat.reduceAdd, Nat.reduceMul, Nat.reduceLeDiff, List.getElem?_cons_zero, List.getElem?_cons_succ, bne_self_eq_false, Int.reduceEq]
    refine (order_c h hm.tsm hm.sk k).go ?_
    have k2 : proveOrderP h k l many = false := by rw [proveOrderP, decide_eq_false (ask_and _ c2)]; rfl
    have k3 : orderE h k = askErrH h (hourOK h k) := by rw [orderE, if_neg c2]
    simp only [go_sem, reduceIte, reduceCtorEq, Nat.reduceEqDiff, Nat.reduceBEq, Nat.reduceAdd, Nat.reduceMul, Nat.reduceLeDiff, List.getElem?_cons_zero, List.getElem?_cons_succ, bne_self_eq_false, Int.reduceEq, listR, k3, c2]
    refine (house_c h hm).go ?_
    simp only [go_sem, reduceIte, reduceCtorEq, Nat.reduceEqDiff, Nat.reduceBEq, Nat.reduceAdd, Nat.reduceMul, Nat.reduceLeDiff, List.getElem?_cons_zero, List.getElem?_cons_succ, bne_self_eq_false, Int.reduceEq]
    refine (copyL_c l (by omega)).go ?_
    simp only [go_sem, reduceIte, reduceCtorEq, Nat.reduceEqDiff, Nat.reduceBEq, Nat.reduceAdd, Nat.reduceMul, Nat.reduceLeDiff, List.getElem?_cons_zero, List.getElem?_cons_succ, bne_self_eq_false, Int.reduceEq]
    refine (proveOrder_c h hm.tsm hm.sk k l hl many).go ?_
    rw [k2]
    simp only [go_sem, reduceIte, reduceCtorEq, Nat.reduceEqDiff, Nat.reduceBEq, Nat.reduceAdd, Nat.reduceMul, Nat.reduceLeDiff, List.getElem?_cons_zero, List.getElem?_cons_succ, bne_self_eq_false, Int.reduceEq]
    refine (within_c' h hm k).go ?_
    simp only [go_sem, reduceIte, reduceCtorEq, Nat.reduceEqDiff, Nat.reduceBEq, Nat.reduceAdd, Nat.reduceMul, Nat.reduceLeDiff, List.getElem?_cons_zero, List.getElem?_cons_succ, bne_self_eq_false, Int.reduceEq, withinR, c2]
    refine awake_c.go ?_
    simp only [go_sem, reduceIte, reduceCtorEq, Nat.reduceEqDiff, Nat.reduceBEq, Nat.reduceAdd, Nat.reduceMul, Nat.reduceLeDiff, List.getElem?_cons_zero, List.getElem?_cons_succ, bne_self_eq_false, Int.reduceEq]
    exact fin_ret 8 (by simp [upd_at]) ⟨_, H, Settle.refl e1, by simp [upd_at], rfl⟩
end Go.Lift

