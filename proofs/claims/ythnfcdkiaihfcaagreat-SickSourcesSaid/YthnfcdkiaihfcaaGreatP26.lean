/- Part 26 of the proof: the tools and contracts. Conditions: none. -/
import Derived.Test.YthnfcdkiaihfcaaGreatP25
import Derived.Test.YthnfcdkiaihfcaaGreatProg
set_option maxRecDepth 100000
set_option linter.unusedVariables false
namespace Go.Lift
open Go Go.Proofs
def cert14 : Nat → Option Cert := fun
  | 14 => some ⟨[0, 1, 2, 3, 4, 5, 6, 7, 8, 9, 10, 11, 12], (.one 13 .done), [[], [0], [0, 1], [0, 1], [0, 1, 2, 3], [0, 1, 2, 3, 4], [0, 1], [0, 1, 6], [0, 1], [0, 1, 6, 7, 8], [0, 1, 6, 7, 8, 9], [0, 1, 2, 3, 4, 5, 6, 7, 8, 9, 10], [0, 1, 2, 3, 4, 5, 6, 7, 8, 9, 10, 11], [0, 1, 2, 3, 4, 5, 6, 7, 8, 9, 10, 11, 12]]⟩
  | 20 => some ⟨[0, 1, 2, 3, 4, 5, 6, 7, 8, 9, 10, 11, 12, 13], .done, [[], [0], [], [2], [], [4], [4, 5], [2, 3, 4, 5, 6], [0, 1, 2, 3, 4, 5, 6, 7], [0, 1, 2, 3, 4, 5, 6, 7, 8], [0, 1, 2, 3, 4, 5, 6, 7, 8, 9], [0, 1, 2, 3, 4, 5, 6, 7, 8, 9], [0, 1, 2, 3, 4, 5, 6, 7, 8, 9, 10], [0, 1, 2, 3, 4, 5, 6, 7, 8, 9, 10, 11, 12]]⟩
  | _ => none
def ac14 : ACode :=(.seq (.ops [uO 2 .box 0, oA 4 .mov [kF]]) (.seq (.seq (.ops [uO 17 lT9 2, uO 18 (.call 35) 17, uO 19 .not 18]) (.cond (.t 19) (.seq (.ops [oA 20 (.call 20) [], uM 4 20]) .ret) .skip)) (.seq (.ops [oA 5 .mov [kE]]) (.seq (.ops [uO 22 fA0 2, uO 23 lT3 22, uO 24 (.call 46) 23, uO 25 (.call 45) 24, uM 21 25, uO 26 x0 21, uO 27 x1 21, uM 6 26, uM 7 27]) (.seq (.seq (.ops [uM 28 7, oA 29 bN [.t 28, (kI 0)], uM 30 29, gM 31 6 30 false, gO 32 .len 31 30 false, gO 33 fA0 2 30 false, gO 34 fA1 33 30 false, gO 35 lF 34 30 false, gO 36 .len 35 30 false, gB 37 bN 32 36 30 false, oA 38 .pick [.t 30, kT, .t 37]]) (.cond (.t 38) (.seq (.ops [oA 4 .mov [kF]]) .ret) .skip)) (.seq (.seq (.ops [oA 8 .mov [(kI 0)]]) (.block 0 (.loop (.seq (.seq (.ops [uM 39 8, uM 40 6, uO 41 .len 40, uB 42 bL 39 41]) (.cond (.t 42) .skip (.exit 0))) (.seq (.block 1 (.seq (.ops [oA 9 .mov [kF]]) (.seq (.seq (.ops [oA 10 .mov [(kI 0)]]) (.block 2 (.loop (.seq (.seq (.ops [uM 45 10, uO 46 fA3 2, uO 47 lF 46, uO 48 .len 47, uB 49 bL 45 48]) (.cond (.t 49) .skip (.exit 2))) (.seq (.block 3 (.draw [(false, uM 52 9), (false, uM 53 52), (false, gM 54 6 53 false), (false, gM 55 8 53 false), (false, gB 56 (.idxaddr 1) 54 55 53 false), (false, gO 57 lF 56 53 false), (false, gO 58 fA3 2 53 false), (false, gO 59 lF 58 53 false), (false, gM 60 10 53 false), (false, gB 61 (.idxaddr 1) 59 60 53 false), (false, gO 62 lF 61 53 false), (false, gB 63 (.call 40) 57 62 53 false), (false, oA 64 .pick [.t 53, kT, .t 63])] (.one (uM 9 64) [] .done))) (.ops [uM 50 10, oA 51 bA [.t 50, (kI 1)], uM 10 51])))))) (.seq (.ops [uM 65 9]) (.cond (.t 65) (.ops [uM 66 5, uM 67 8, uO 68 (.bslice 1) 67, uB 69 (.append 1 8) 66 68, uM 5 69]) .skip))))) (.ops [uM 43 8, oA 44 bA [.t 43, (kI 1)], uM 8 44])))))) (.seq (.ops [uO 70 lT9 2, oA 11 (.alloc z9) [], oZ (.store 9) [.t 11, .t 70]]) (.seq (.ops [uO 71 fA3 11, oZ (.store 1) [.t 71, kE], uO 72 fA8 11, oZ (.store 1) [.t 72, kE]]) (.seq (.ops [uO 74 lT9 11, uO 75 (.call 22) 74, uO 76 (.call 21) 75, uM 73 76, uO 77 x0 73, uO 78 x1 73, uM 12 77, uM 13 78]) (.seq (.draw [(false, uO 80 lT9 11), (false, uO 81 (.call 22) 80), (false, uM 82 1), (false, uO 83 (.conv .i64) 82), (false, uO 84 fA5 2), (false, uO 85 lF 84), (false, oA 86 bA [.t 85, (kI 1)]), (false, uB 87 (.bin .rem) 83 86), (false, uB 88 (.call 44) 81 87), (false, uM 79 88), (false, uO 89 x0 79), (false, uO 90 x1 79), (false, uM 14 89), (false, uM 15 90)] .done) (.seq (.seq (.ops [uM 91 13, oA 92 bN [.t 91, (kI 0)], uM 93 92, gM 94 15 93 false, oG 95 bN [.t 94, (kI 0)] 93 false, oA 96 .pick [.t 93, kT, .t 95], uM 97 96, gM 98 14 97 false, gO 99 .len 98 97 false, oG 100 bN [.t 99, (kI 0)] 97 false, oA 101 .pick [.t 97, kT, .t 100], uM 102 101, gM 103 12 102 false, gO 104 .len 103 102 false, gO 105 lT9 2 102 false, gO 106 (.call 25) 105 102 false, gB 107 bN 104 106 102 false, oA 108 .pick [.t 102, kT, .t 107]]) (.cond (.t 108) (.seq (.ops [oA 4 .mov [kF]]) .ret) .skip)) (.seq (.seq (.ops [oA 16 .mov [(kI 0)]]) (.block 4 (.loop (.seq (.seq (.ops [uM 109 16, uM 110 12, uO 111 .len 110, uB 112 bL 109 111]) (.cond (.t 112) .skip (.exit 4))) (.seq (.block 5 (.seq (.ops [uM 115 12, uM 116 16, uB 117 (.idxaddr 1) 115 116, uO 118 lF 117, oA 119 bN [.t 118, (kI 2)]]) (.cond (.t 119) (.seq (.ops [oA 4 .mov [kF]]) .ret) .skip))) (.ops [uM 113 16, oA 114 bA [.t 113, (kI 1)], uM 16 114])))))) (.seq (.seq (.ops [uO 120 lT9 2, uO 121 (.call 63) 120, uO 122 .len 121, oA 123 bE [.t 122, (kI 0)]]) (.cond (.t 123) (.seq (.ops [oA 124 (.call 20) [], uM 4 124]) .ret) .skip)) (.seq (.ops [uO 125 lT9 2, uO 126 (.call 22) 125, uM 127 5, uM 128 5, uO 129 .len 128, oA 130 (.call 52) [.t 126, (kI 0), .t 127, .t 129], uM 131 130, oG 132 (.call 20) [] 131 true, oA 133 .pick [.t 131, .t 132, kF], uM 4 133]) .ret))))))))))))))
theorem fc14 : fnC Tryz.prog 14 cert14 = some (134, [.tmp 4], ac14) := by kernel_rfl
end Go.Lift
set_option maxRecDepth 100000
set_option linter.unusedVariables false
namespace Go.Lift
open Go Go.Proofs
def cert36 : Nat → Option Cert := fun
  | 9 => some ⟨[0, 1, 2, 3, 4, 5, 6, 7, 8, 9], (.one 10 (.one 11 .done)), [[], [], [], [1, 2], [1, 2, 3], [], [], [5, 6], [1, 2, 3, 4, 5, 6, 7], [1, 2, 3, 4, 5, 6, 7, 8], [0, 1, 2, 3, 4, 5, 6, 7, 8, 9], [0, 1, 2, 3, 4, 5, 6, 7, 8, 9, 10]]⟩
  | _ => none
def ac36 : ACode :=(.seq (.ops [uO 1 .box 0, oA 2 .mov [kE]]) (.seq (.ops [oA 3 .mov [kE]]) (.seq (.ops [uO 7 fA0 1, uO 8 lT3 7, uO 9 (.call 88) 8, uM 4 9]) (.seq (.seq (.ops [oA 5 .mov [(kI 0)]]) (.block 0 (.loop (.seq (.seq (.ops [uM 10 5, uM 11 4, uO 12 .len 11, uB 13 bL 10 12]) (.cond (.t 13) .skip (.exit 0))) (.seq (.block 1 (.seq (.ops [oA 6 .mov [(kI 0)]]) (.block 2 (.loop (.seq (.seq (.ops [uM 16 6, uO 17 lT9 1, uO 18 (.call 89) 17, uB 19 bL 16 18]) (.cond (.t 19) .skip (.exit 2))) (.seq (.block 3 (.draw [(false, uM 22 3), (false, uM 23 4), (false, uM 24 5), (false, uB 25 (.idxaddr 1) 23 24), (false, uO 26 lF 25), (false, uO 27 lT9 1), (false, uM 28 6), (false, uB 29 (.call 90) 27 28), (false, uB 30 (.build [.emp, .emp] [(0, 1), (1, 1)]) 26 29), (false, uO 31 (.bslice 2) 30)] (.one (uB 32 (.append 2 48) 22 31) [] (.one (uM 3 32) [] .done)))) (.ops [uM 20 6, oA 21 bA [.t 20, (kI 1)], uM 6 21]))))))) (.ops [uM 14 5, oA 15 bA [.t 14, (kI 1)], uM 5 15])))))) (.seq (.ops [uM 33 3, uM 2 33]) .ret)))))
theorem fc36 : fnC Tryz.prog 36 cert36 = some (34, [.tmp 2], ac36) := by kernel_rfl
def cert49 : Nat → Option Cert := fun _ => none
def ac49 : ACode :=(.seq (.ops [uO 1 .box 0, oA 2 .mov [(kI 0)]]) (.seq (.ops [uO 3 fA8 1, uO 4 lF 3, uO 5 .len 4, uO 6 (.conv .u64) 5, oA 7 (.bin .shl) [(kI 1), .t 6], oA 8 (.bin .sub) [.t 7, (kI 1)], uM 2 8]) .ret))
theorem fc49 : fnC Tryz.prog 49 cert49 = some (9, [.tmp 2], ac49) := by kernel_rfl
def cert63 : Nat → Option Cert := fun
  | 6 => some ⟨[0, 1, 2, 3, 4, 5, 6, 7, 8], .done, [[], [], [], [1, 2], [1, 2, 3], [0, 1, 2, 3, 4], [], [0, 1, 2, 3, 4, 5, 6], [0, 1, 2, 3, 4, 5, 6, 7]]⟩
  | _ => none
def ac63 : ACode :=(.seq (.ops [uO 1 .box 0, oA 2 .mov [kE]]) (.seq (.ops [oA 3 .mov [kE]]) (.seq (.ops [uO 6 lT9 1, uO 7 (.call 36) 6, uM 4 7]) (.seq (.seq (.ops [oA 5 .mov [(kI 0)]]) (.block 0 (.loop (.seq (.seq (.ops [uM 8 5, uM 9 4, uO 10 .len 9, uB 11 bL 8 10]) (.cond (.t 11) .skip (.exit 0))) (.seq (.block 1 (.seq (.draw [(false, uO 14 lT9 1), (false, uM 15 4), (false, uM 16 5), (false, uB 17 (.idxaddr 2) 15 16), (false, uO 18 lT2 17), (false, uB 19 (.call 86) 14 18), (false, uO 20 lT9 1), (false, uO 21 (.call 49) 20), (false, uB 22 bE 19 21)] .done) (.cond (.t 22) (.ops [uM 23 3, uM 24 4, uM 25 5, uB 26 (.idxaddr 2) 24 25, uO 27 lT2 26, uO 28 (.bslice 2) 27, uB 29 (.append 2 48) 23 28, uM 3 29]) .skip))) (.ops [uM 12 5, oA 13 bA [.t 12, (kI 1)], uM 5 13])))))) (.seq (.ops [uM 30 3, uM 2 30]) .ret)))))
theorem fc63 : fnC Tryz.prog 63 cert63 = some (31, [.tmp 2], ac63) := by kernel_rfl
def cert69 : Nat → Option Cert := fun
  | 1 => some ⟨[0, 1, 2, 3, 4, 6, 8, 9], (.one 5 (.one 7 (.one 10 (.one 11 .done)))), [[], [], [], [], [3], [2, 3, 4], [], [2, 3, 4, 5, 6], [], [8], [0, 1, 2, 3, 4, 5, 6, 7, 8, 9], [0, 1, 2, 3, 4, 5, 6, 7, 8, 9, 10]]⟩
  | _ => none
def ac69 : ACode :=(.seq (.ops [uO 3 .box 0, uO 4 .box 1, oA 6 .mov [(kI 0)]]) (.seq (.draw [(true, uO 7 lT9 3), (true, uO 8 lT2 4), (false, oA 9 (.bslice 2) []), (false, uO 10 fA7 3), (false, uO 11 lF 10), (true, uM 13 2), (true, uO 15 fA5 3), (true, uO 16 lF 15)] (.one (uB 12 (.append 2 16) 9 11) [uO 7 lT9 3, uO 8 lT2 4, uO 16 lF 15] (.one (uB 14 (.append 2 16) 12 13) [uO 7 lT9 3, uO 8 lT2 4, uO 16 lF 15] (.one (oA 17 (.call 123) [.t 7, .t 8, .t 14, .t 16]) [] (.one (uM 6 17) [] .done))))) .ret))
theorem fc69 : fnC Tryz.prog 69 cert69 = some (18, [.tmp 6], ac69) := by kernel_rfl
end Go.Lift
set_option maxRecDepth 100000
set_option linter.unusedVariables false
namespace Go.Lift
open Go Go.Proofs
def cert86 : Nat → Option Cert := fun
  | 5 => some ⟨[0, 1, 2, 3, 4, 5, 6, 7, 8, 9, 10, 11, 12, 13, 14, 15, 16, 17], .done, [[], [], [1], [], [1, 2, 3], [1, 2, 3, 4], [1, 2, 3, 4, 5], [1, 2, 3, 4, 5, 6], [1, 2, 3, 4, 5, 6, 7], [0, 1, 2, 3, 4, 5, 6, 7, 8], [0, 1, 2, 3, 4, 5, 6, 7, 8, 9], [], [11], [], [11, 12, 13], [11, 12, 13, 14], [11, 12, 13, 14, 15], [0, 1, 2, 3, 4, 5, 6, 7, 8, 9, 10, 11, 12, 13, 14, 15, 16]]⟩
  | _ => none
def ac86 : ACode :=(.seq (.ops [uO 2 .box 0, uO 3 .box 1, oA 4 .mov [(kI 0)]]) (.seq (.ops [uO 8 lT9 2, uO 9 lT2 3, oA 10 (.call 69) [.t 8, .t 9, kE], oA 5 .mov [(kI 0)], uM 6 10]) (.seq (.seq (.ops [oA 7 .mov [(kI 0)]]) (.block 0 (.loop (.seq (.seq (.ops [uM 11 7, uO 12 fA8 2, uO 13 lF 12, uO 14 .len 13, uB 15 bL 11 14]) (.cond (.t 15) .skip (.exit 0))) (.seq (.block 1 (.seq (.draw [(false, uM 18 6), (false, uO 19 fA8 2), (false, uO 20 lF 19), (false, uM 21 7), (false, uB 22 (.idxaddr 2) 20 21), (false, uO 23 fA0 22), (false, uO 24 lF 23), (false, uO 25 (.conv .u64) 24), (false, oA 26 (.bin .shl) [(kI 1), .t 25]), (false, uB 27 (.bin .and) 18 26), (false, oA 28 bN [.t 27, (kI 0)]), (false, uO 29 fA8 2), (false, uO 30 lF 29), (false, uM 31 7), (false, uB 32 (.idxaddr 2) 30 31), (false, uO 33 fA1 32), (false, uO 34 lF 33), (false, uB 35 (.binb .eql) 28 34)] .done) (.cond (.t 35) (.ops [uM 36 5, uM 37 7, uO 38 (.conv .u64) 37, oA 39 (.bin .shl) [(kI 1), .t 38], uB 40 (.bin .or) 36 39, uM 5 40]) .skip))) (.ops [uM 16 7, oA 17 bA [.t 16, (kI 1)], uM 7 17])))))) (.seq (.ops [uM 41 5, uM 4 41]) .ret))))
theorem fc86 : fnC Tryz.prog 86 cert86 = some (42, [.tmp 4], ac86) := by kernel_rfl
def cert90 : Nat → Option Cert := fun
  | 7 => some ⟨[0, 1, 2, 3, 4, 5, 6, 7], (.one 8 (.one 9 .done)), [[], [], [1], [], [], [3, 4], [1, 2, 3, 4, 5], [1, 2, 3, 4, 5, 6], [0, 1, 2, 3, 4, 5, 6, 7], [0, 1, 2, 3, 4, 5, 6, 7, 8]]⟩
  | _ => none
def ac90 : ACode :=(.seq (.ops [uO 2 .box 0, oA 4 .mov [kE]]) (.seq (.ops [oA 5 .mov [kE]]) (.seq (.seq (.ops [oA 6 .mov [(kI 0)]]) (.block 0 (.loop (.seq (.seq (.ops [uM 9 6, uO 10 fA6 2, uO 11 lF 10, uO 12 .len 11, uB 13 bL 9 12]) (.cond (.t 13) .skip (.exit 0))) (.seq (.block 1 (.seq (.ops [uO 16 fA6 2, uO 17 lF 16, uM 18 6, uB 19 (.idxaddr 4) 17 18, uO 20 fA2 19, uO 21 lT2 20, oA 7 (.alloc [(.int .i64 0), (.int .i64 0)]) [], oZ (.store 2) [.t 7, .t 21]]) (.seq (.ops [uO 22 fA1 7, uO 23 lF 22, uO 24 fA0 7, uO 25 lF 24, uB 26 (.bin .sub) 23 25, oA 27 bA [.t 26, (kI 1)], uM 8 27]) (.seq (.draw [(false, uM 28 5), (false, uO 29 fA0 7), (false, uO 30 lF 29), (false, uM 31 1), (false, uM 32 8), (false, uB 33 (.bin .rem) 31 32), (false, uB 34 bA 30 33), (false, uO 35 (.bslice 1) 34)] (.one (uB 36 (.append 1 8) 28 35) [] (.one (uM 5 36) [] .done))) (.ops [uM 37 1, uM 38 8, uB 39 (.bin .quo) 37 38, uM 1 39]))))) (.ops [uM 14 6, oA 15 bA [.t 14, (kI 1)], uM 6 15])))))) (.seq (.ops [uM 40 5, uM 4 40]) .ret))))
theorem fc90 : fnC Tryz.prog 90 cert90 = some (41, [.tmp 4], ac90) := by kernel_rfl
def cert123 : Nat → Option Cert := fun
  | 6 => some ⟨[0, 1, 2, 3, 4, 5, 6, 7], .done, [[], [0], [], [2], [], [2, 3, 4], [2, 3, 4, 5], [0, 1, 2, 3, 4, 5, 6]]⟩
  | 18 => some ⟨[0, 1, 2, 3, 4, 5, 6, 7, 8, 9, 10, 11, 12, 13, 14, 15, 16, 17], .done, [[], [0], [], [0, 1, 2], [0, 1, 2, 3], [0, 1, 2, 3, 4], [0, 1, 2, 3, 4, 5], [0, 1, 2, 3, 4, 5, 6], [], [8], [], [8, 9, 10], [8, 9, 10, 11], [8, 9, 10, 11, 12], [8, 9, 10, 11, 12, 13], [8, 9, 10, 11, 12, 13, 14], [0, 1, 2, 3, 4, 5, 6, 7, 8, 9, 10, 11, 12, 13, 14, 15], [0, 1, 2, 3, 4, 5, 6, 7, 8, 9, 10, 11, 12, 13, 14, 15, 16]]⟩
  | _ => none
def ac123 : ACode :=(.seq (.ops [uO 4 .box 0, uO 5 .box 1, oA 8 .mov [(kI 0)]]) (.seq (.ops [oA 9 .mov [(kI 0)]]) (.seq (.seq (.ops [uM 14 3, oA 15 bL [.t 14, (kI 0)]]) (.cond (.t 15) (.seq (.seq (.ops [oA 10 .mov [(kI 0)]]) (.block 0 (.loop (.seq (.seq (.ops [uM 16 10, uO 17 fA0 5, uO 18 lF 17, uO 19 .len 18, uB 20 bL 16 19]) (.cond (.t 20) .skip (.exit 0))) (.seq (.block 1 (.seq (.draw [(false, uO 23 fA3 4), (false, uO 24 lF 23), (false, uO 25 fA0 5), (false, uO 26 lF 25), (false, uM 27 10), (false, uB 28 (.idxaddr 1) 26 27), (false, uO 29 lF 28), (false, uB 30 (.call 40) 24 29)] .done) (.cond (.t 30) (.ops [uM 31 9, uM 32 10, uO 33 (.conv .u64) 32, oA 34 (.bin .shl) [(kI 1), .t 33], uB 35 (.bin .or) 31 34, uM 9 35]) .skip))) (.ops [uM 21 10, oA 22 bA [.t 21, (kI 1)], uM 10 22])))))) (.seq (.ops [uM 36 9, uM 8 36]) .ret)) .skip)) (.seq (.ops [uO 37 lT9 4, uO 38 lT2 5, uM 39 2, uM 40 3, oA 41 (.bin .sub) [.t 40, (kI 1)], oA 42 (.call 123) [.t 37, .t 38, .t 39, .t 41], uM 9 42]) (.seq (.seq (.ops [oA 11 .mov [(kI 0)]]) (.block 2 (.loop (.seq (.seq (.ops [uM 43 11, uO 44 lT9 4, uO 45 (.call 25) 44, uB 46 bL 43 45]) (.cond (.t 46) .skip (.exit 2))) (.seq (.block 3 (.seq (.ops [uM 49 2, uM 50 11, uM 51 3, oA 52 (.call 151) [.t 49, .t 50, .t 51]]) (.cond (.t 52) (.ops [uM 53 9, uM 54 11, uO 55 (.conv .u64) 54, oA 56 (.bin .shl) [(kI 1), .t 55], uB 57 (.bin .andNot) 53 56, uM 9 57]) .skip))) (.ops [uM 47 11, oA 48 bA [.t 47, (kI 1)], uM 11 48])))))) (.seq (.seq (.ops [oA 12 .mov [(kI 0)]]) (.block 4 (.loop (.seq (.seq (.ops [uM 58 12, uO 59 fA6 4, uO 60 lF 59, uO 61 .len 60, uB 62 bL 58 61]) (.cond (.t 62) .skip (.exit 4))) (.seq (.block 5 (.seq (.draw [(false, uO 65 fA6 4), (false, uO 66 lF 65), (false, uM 67 12), (false, uB 68 (.idxaddr 4) 66 67), (false, uO 69 fA0 68), (false, uO 70 lF 69), (false, uO 71 (.conv .u64) 70), (false, oA 72 (.bin .shl) [(kI 1), .t 71]), (false, uO 73 fA6 4), (false, uO 74 lF 73), (false, uM 75 12), (false, uB 76 (.idxaddr 4) 74 75), (false, uO 77 fA1 76), (false, uO 78 lF 77), (false, uO 79 (.conv .u64) 78), (false, oA 80 (.bin .shl) [(kI 1), .t 79]), (false, uB 81 (.bin .or) 72 80), (false, uM 13 81)] .done) (.seq (.ops [uO 82 fA1 5, uO 83 lF 82, uM 84 12, uB 85 (.idxaddr 1) 83 84, uO 86 lF 85, uM 87 3, uB 88 bE 86 87, uM 89 88, gM 90 9 89 true, gM 91 13 89 true, gB 92 (.bin .and) 90 91 89 true, oG 93 bN [.t 92, (kI 0)] 89 true, oA 94 .pick [.t 89, .t 93, kF]]) (.cond (.t 94) (.ops [uM 95 9, uM 96 13, uB 97 (.bin .or) 95 96, uM 9 97]) .skip)))) (.ops [uM 63 12, oA 64 bA [.t 63, (kI 1)], uM 12 64])))))) (.seq (.ops [uM 98 9, uM 8 98]) .ret)))))))
theorem fc123 : fnC Tryz.prog 123 cert123 = some (99, [.tmp 8], ac123) := by kernel_rfl
def cert151 : Nat → Option Cert := fun _ => none
def ac151 : ACode :=(.seq (.ops [oA 6 .mov [kF]]) (.seq (.seq (.ops [oA 7 .mov [(kI 0)]]) (.block 0 (.loop (.seq (.seq (.ops [uM 8 7, uM 9 0, uO 10 .len 9, uB 11 bL 8 10]) (.cond (.t 11) .skip (.exit 0))) (.seq (.block 1 (.seq (.ops [uM 14 0, uM 15 7, uB 16 (.idxaddr 2) 14 15, uO 17 fA0 16, uO 18 lF 17, uM 19 1, uB 20 bE 18 19, uM 21 20, gM 22 0 21 true, gM 23 7 21 true, gB 24 (.idxaddr 2) 22 23 21 true, gO 25 fA1 24 21 true, gO 26 lF 25 21 true, gM 27 2 21 true, gB 28 bE 26 27 21 true, oA 29 .pick [.t 21, .t 28, kF]]) (.cond (.t 29) (.seq (.ops [oA 6 .mov [kT]]) .ret) .skip))) (.ops [uM 12 7, oA 13 bA [.t 12, (kI 1)], uM 7 13])))))) (.seq (.ops [oA 6 .mov [kF]]) .ret)))
theorem fc151 : fnC Tryz.prog 151 cert151 = some (30, [.tmp 6], ac151) := by kernel_rfl
end Go.Lift
set_option linter.unusedSimpArgs false
set_option linter.unusedVariables false
namespace Go.Lift
open Go Go.Proofs
theorem w_and {a b : Nat} (ha : a < 2 ^ 62) (hb : b < 2 ^ 62) : IntKind.i64.wrap (((BitVec.ofInt IntKind.i64.bits (a : Int) &&& BitVec.ofInt IntKind.i64.bits (b : Int)).toNat : Nat) : Int) = ((a &&& b : Nat) : Int) := by
  have h1 : (BitVec.ofInt IntKind.i64.bits (a : Int) &&& BitVec.ofInt IntKind.i64.bits (b : Int)).toNat = a &&& b := by
    rw [bv_nat, bv_nat]
    show (BitVec.ofNat 64 a &&& BitVec.ofNat 64 b).toNat = _
    rw [BitVec.toNat_and, BitVec.toNat_ofNat, BitVec.toNat_ofNat, Nat.mod_eq_of_lt (by omega), Nat.mod_eq_of_lt (by omega)]
  have h2 := Nat.and_lt_two_pow a hb
  rw [h1, w64 (by omega) (by omega)]
end Go.Lift

set_option linter.unusedSimpArgs false
set_option linter.unusedVariables false
namespace Go.Lift
open Go Go.Proofs
def beforeL : List Int → List Int → Bool
  | a :: xs, b :: bs => if a = b then beforeL xs bs else decide (a < b)
  | [], bs => decide (0 < bs.length)
  | _ :: _, [] => false
def shorterL (a b : List Int) : Bool := decide (a.length < b.length) || (decide (a.length = b.length) && beforeL a b)
end Go.Lift

set_option linter.unusedSimpArgs false
set_option linter.unusedVariables false
namespace Go.Lift
open Go Go.Proofs
theorem natOf_set_t {c : List Bool} {i : Nat} (h : i < c.length) : natOf (c.set i true) = natOf c ||| 2 ^ i := by
  apply Nat.eq_of_testBit_eq
  intro j
  rw [Nat.testBit_or, natOf_bit, natOf_bit, Nat.testBit_two_pow, List.getD_eq_getElem?_getD, List.getElem?_set]
  by_cases hij : i = j
  · subst hij; simp [h]
  · simp [hij, List.getD_eq_getElem?_getD]
theorem natOf_set_f {c : List Bool} {i : Nat} (h : i < c.length) : natOf (c.set i false) = andN (natOf c) (2 ^ i) := by
  apply Nat.eq_of_testBit_eq
  intro j
  rw [andN_bit, natOf_bit, natOf_bit, Nat.testBit_two_pow, List.getD_eq_getElem?_getD, List.getElem?_set]
  by_cases hij : i = j
  · subst hij; simp [h]
  · simp [hij, List.getD_eq_getElem?_getD]
theorem natOf_and {c : List Bool} {i : Nat} : natOf c &&& 2 ^ i ≠ 0 ↔ c.getD i false = true := by
  rw [← natOf_bit]
  constructor
  · intro h
    cases hb : (natOf c).testBit i
    · exfalso; apply h
      apply Nat.eq_of_testBit_eq
      intro j
      rw [Nat.testBit_and, Nat.testBit_two_pow, Nat.zero_testBit]
      by_cases hij : i = j
      · subst hij; simp [hb]
      · simp [hij]
    · rfl
  · intro h h0
    have := congrArg (fun n => n.testBit i) h0
    simp [Nat.testBit_and, Nat.testBit_two_pow, h] at this
theorem natOf_and2 {c : List Bool} {a b : Nat} : natOf c &&& (2 ^ a ||| 2 ^ b) ≠ 0 ↔ (c.getD a false || c.getD b false) = true := by
  have h1 : natOf c &&& (2 ^ a ||| 2 ^ b) = (natOf c &&& 2 ^ a) ||| (natOf c &&& 2 ^ b) := Nat.and_or_distrib_left ..
  rw [h1, Bool.or_eq_true, ← natOf_and, ← natOf_and]
  generalize natOf c &&& 2 ^ a = x
  generalize natOf c &&& 2 ^ b = y
  constructor
  · intro h
    by_cases hx : x = 0
    · right; intro hy; apply h; rw [hx, hy]; rfl
    · exact .inl hx
  · intro h h0
    have := Nat.or_eq_zero_iff.1 h0
    rcases h with h | h
    · exact h this.1
    · exact h this.2
theorem isBoiled_c (l : List Boiling) (n k : Int) (hl : Sm l.length) : Pure Tryz.prog 151 [.slice (l.map eB), i6 n, i6 k] (.bool (decide ((n, k) ∈ l.map bKey))) := by
  intro H
  unfold Sm at hl
  refine fn_of hmix fc151 (by simp) ?_
  rw [ienv3]
  simp only [go_sem, reduceIte, reduceCtorEq, Nat.reduceEqDiff, Nat.reduceBEq, Nat.reduceAdd, Nat.reduceMul, Nat.reduceLeDiff, ac151]
  refine x_for l.length (fun j env H1 => H1 = H ∧ (n, k) ∉ (l.take j).map bKey ∧ env 0 = .slice (l.map eB) ∧ env 1 = i6 n ∧ env 2 = i6 k ∧ env 7 = i6 j ∧ env 30 = .any) (by simp [upd_at]) ?_
  rintro j env H1 hj ⟨rfl, hq, g0, g1, g2, g7, hN⟩
  by_cases hlt : (j : Int) < (l.length : Int)
  · have hlt' : j < l.length := by omega
    have hsn : (n, k) ∈ (l.take (j + 1)).map bKey ↔ (n, k) ∈ (l.take j).map bKey ∨ (l[j].thing = n ∧ l[j].hour = k) := by
      rw [take_snoc hlt', List.map_append, List.mem_append]
      simp only [List.map_cons, List.map_nil, List.mem_singleton, bKey, Prod.mk.injEq]
      constructor <;> rintro (h | ⟨h1, h2⟩)
      · exact .inl h
      · exact .inr ⟨h1.symm, h2.symm⟩
      · exact .inl h
      · exact .inr ⟨h1.symm, h2.symm⟩
    by_cases c1 : l[j].thing = n
    · by_cases c2 : l[j].hour = k
      · simp only [go_sem, reduceIte, reduceCtorEq, Nat.reduceEqDiff, Nat.reduceBEq, Nat.reduceAdd, Nat.reduceMul, Nat.reduceLeDiff, g0, g1, g2, g7, hN, hlt, map_get (f := eB) hlt', eB, take_f', List.getElem?_cons_zero, List.getElem?_cons_succ, c1, c2]
        refine fin_ret' 6 (by simp [upd_at, hN]) ?_
        simp only [upd_at, if_true, and_true, AV.bool.injEq]
        symm; rw [decide_eq_true_eq]
        have h1 := hsn.2 (.inr ⟨c1, c2⟩)
        rw [List.mem_map] at h1 ⊢
        obtain ⟨x, hx, hx2⟩ := h1
        exact ⟨x, List.mem_of_mem_take hx, hx2⟩
      · simp only [go_sem, reduceIte, reduceCtorEq, Nat.reduceEqDiff, Nat.reduceBEq, Nat.reduceAdd, Nat.reduceMul, Nat.reduceLeDiff, g0, g1, g2, g7, hN, hlt, map_get (f := eB) hlt', eB, take_f', List.getElem?_cons_zero, List.getElem?_cons_succ, c1, c2, wsucc (show j < 4611686018427387904 by omega), hlt']
        intro h; rcases hsn.1 h with h | h
        · exact hq h
        · exact c2 h.2
    · simp only [go_sem, reduceIte, reduceCtorEq, Nat.reduceEqDiff, Nat.reduceBEq, Nat.reduceAdd, Nat.reduceMul, Nat.reduceLeDiff, g0, g1, g2, g7, hN, hlt, map_get (f := eB) hlt', eB, take_f', List.getElem?_cons_zero, c1, wsucc (show j < 4611686018427387904 by omega), hlt']
      intro h; rcases hsn.1 h with h | h
      · exact hq h
      · exact c1 h.1
  · simp only [go_sem, reduceIte, reduceCtorEq, Nat.reduceEqDiff, Nat.reduceBEq, Nat.reduceAdd, Nat.reduceMul, Nat.reduceLeDiff, g0, g1, g2, g7, hN, hlt]
    have : j = l.length := by omega
    subst this
    rw [List.take_length] at hq
    refine fin_ret' 6 (by simp [upd_at, hN]) ?_
    simp only [upd_at, if_true, and_true, AV.bool.injEq]
    exact (decide_eq_false hq).symm
theorem startOf_out (h : House) (o : List Int) : ∀ (j i : Nat), j ≤ i → (startOf h o j).getD i false = false
  | 0, i, _ => by simp only [startOf, List.range_zero, List.foldl_nil]; rw [List.getD_eq_getElem?_getD, List.getElem?_replicate]; split <;> rfl
  | j + 1, i, hi => by
    have ih := startOf_out h o j i (by omega)
    simp only [startOf, range_fold]
    rw [sickAt, List.getD_eq_getElem?_getD, List.getElem?_set_ne (by omega), ← List.getD_eq_getElem?_getD]
    exact ih
theorem startOf_nat (h : House) (o : List Int) (j : Nat) (hj : j < 10) : natOf (startOf h o (j + 1)) = if o.getD j 0 ∈ h.sick then natOf (startOf h o j) ||| 2 ^ j else natOf (startOf h o j) := by
  have hl := startOf_len h o j
  have h1 : startOf h o (j + 1) = (startOf h o j).set j (decide (o.getD j 0 ∈ h.sick)) := by simp only [startOf, range_fold]; rfl
  rw [h1]
  by_cases hm : o.getD j 0 ∈ h.sick
  · rw [if_pos hm, decide_eq_true hm, natOf_set_t (by omega)]
  · rw [if_neg hm, decide_eq_false hm, natOf_set_f (by omega)]
    apply Nat.eq_of_testBit_eq
    intro i
    rw [andN_bit, Nat.testBit_two_pow, natOf_bit]
    by_cases hij : j = i
    · subst hij; rw [startOf_out h o j j (Nat.le_refl _)]; rfl
    · simp [hij]
theorem pad6_get (l : List Int) (i : Nat) (h : i < l.length) : (pad6 l).getD i 0 = l[i] := by
  rw [pad6, List.getD_eq_getElem?_getD, List.getElem?_append_left h]; simp [h]
theorem carriers_c (h : House) (hv : HV h) (c : Course) (hc : CLen h c) (l : List Boiling) (hl : Sm l.length) :
    ∀ k : Nat, k ≤ 6 → Pure Tryz.prog 123 [eH h, eC c, .slice (l.map eB), i6 ((k : Int) - 1)] (i6 (natOf (hoursOf h (pad7 c.owners) (pad6 c.hours) (l.map bKey) k) : Nat)) := by
  have hp7 := hv.ok.pcs
  have hm6 := hv.ok.touches
  have h7 : c.owners.length ≤ 7 := by have := hc.own; omega
  have hnT := nT_le hv.ok
  intro k
  induction k with
  | zero =>
    intro _ H
    refine fn_of hmix fc123 (by simp) ?_
    rw [ienv4]
    simp only [go_sem, reduceIte, reduceCtorEq, Nat.reduceEqDiff, Nat.reduceBEq, Nat.reduceAdd, Nat.reduceMul, Nat.reduceLeDiff, ac123, eH, eC, show (((0 : Nat) : Int) - 1 < 0) by omega]
    refine v_box _ rfl fun b4 hb4 => ?_
    simp only [go_sem, reduceIte, reduceCtorEq, Nat.reduceEqDiff, Nat.reduceBEq, Nat.reduceAdd, Nat.reduceMul, Nat.reduceLeDiff, show (((0 : Nat) : Int) - 1 < 0) by omega]
    refine v_box _ rfl fun b5 hb5 => ?_
    have n45 : b4 ≠ b5 := fun h => by subst h; simp at hb5
    simp only [go_sem, reduceIte, reduceCtorEq, Nat.reduceEqDiff, Nat.reduceBEq, Nat.reduceAdd, Nat.reduceMul, Nat.reduceLeDiff, show (((0 : Nat) : Int) - 1 < 0) by omega]
    have e2 := ((Ext.refl H).new hb4 (.box [.slice (h.table.women.map eW), .slice (h.table.pieces.map eP), i6 h.table.wrong, .slice (eI h.sick), i6 h.others, i6 h.last, .slice (h.touches.map eTo), .slice (h.boiled.map eB), .slice (h.signs.map eS)])).new hb5 (.box [.slice (eI c.owners), .slice (eI c.hours)])
    refine x_for c.owners.length (fun j env H1 => Ext H H1 ∧ H1 b4 = some (.box [.slice (h.table.women.map eW), .slice (h.table.pieces.map eP), i6 h.table.wrong, .slice (eI h.sick), i6 h.others, i6 h.last, .slice (h.touches.map eTo), .slice (h.boiled.map eB), .slice (h.signs.map eS)]) ∧ H1 b5 = some (.box [.slice (eI c.owners), .slice (eI c.hours)]) ∧ env 4 = .ptr b4 0 ∧ env 5 = .ptr b5 0 ∧ env 9 = i6 (natOf (startOf h (pad7 c.owners) j) : Nat) ∧ env 10 = i6 j ∧ env 99 = .any)
      ⟨e2, by rw [updH_ne _ _ n45]; exact updH_same _ _ _, updH_same _ _ _, by simp [upd_at], by simp [upd_at], by simp [upd_at, startOf, natOf], by simp [upd_at], by simp [upd_at]⟩ ?_
    rintro j env H1 hj ⟨hE, hB4, hB5, g4, g5, g9, g10, hN⟩
    by_cases hlt : (j : Int) < (c.owners.length : Int)
    · have hlt' : j < c.owners.length := by omega
      have hgo : (pad7 c.owners).getD j 0 = c.owners[j] := by rw [pad7_get _ _ hlt']; simp [hlt']
      have hst := startOf_nat h (pad7 c.owners) j (by omega)
      rw [hgo] at hst
      simp only [go_sem, reduceIte, reduceCtorEq, Nat.reduceEqDiff, Nat.reduceBEq, Nat.reduceAdd, Nat.reduceMul, Nat.reduceLeDiff, g4, g5, g9, g10, hN, hB4, hB5, hlt, take_f', List.getElem?_cons_zero, eI_get hlt']
      refine pgo_call (has_c h.sick c.owners[j] hv.ok.sk) ?_
      by_cases hm : c.owners[j] ∈ h.sick
      · have hor := w_or (natOf_lt62 (c := startOf h (pad7 c.owners) j) (by rw [startOf_len]; omega)) (two_lt (show j < 62 by omega))
        simp only [↓aops_nil, ↓aops_go, ↓aops_go0, ↓aops_if, ↓k_cont, ↓k_cont0, g_tt, g_ff, g_tf, g_ft, g_u, ↓apre_nil, ↓apre_if, ↓apre_go, pgo_det, Tag.isCall, popt_some, gp_tt, gp_ff, gp_tf, gp_ft, gp_u, ↓k_draw, opt_some, List.map_cons, List.map_nil, ev, upd_at, ↓x_skip, ↓x_label, ↓x_ret, ↓x_exit, ↓x_seq, ↓x_block, ↓x_ops, ↓x_cond, x_sel_t, x_sel_f, ↓x_draw, ↓q_kseq_n, ↓q_kseq_r, ↓q_kseq_e, ↓q_block_n, ↓q_block_r, ↓q_block_e, ↓q_loop_n, ↓q_loop_r, ↓q_loop_e, ↓l_done, d_mov, d_pick, d_not, d_nilchk, d_nilchk', d_conv, d_add, d_sub, d_mul, d_quo, d_rem, d_shl, d_shr, d_and, d_or, d_andnot, d_eql, d_neq, d_lss, d_leq, d_gtr, d_geq, d_eqb, d_neqb, d_mkfunc, d_load, d_fieldaddr, d_fieldaddr', d_field_t, d_field_f, d_idxaddr, d_idxaddr_g, elemO_some, d_idxaddr_m, d_arraddr, d_arraddr', d_idx_f, d_sub_s, d_sub_g, d_arrsub, d_arrall, d_extract, d_len, d_len_g, d_len_e, d_len_m, d_min, d_build, d_bslice0, d_bs1, d_bs2, d_bsa, d_eqagg, v_mov, v_pick, v_not, v_nilchk, v_conv, v_bin, v_binb, v_eqagg, v_mkfunc, v_load, v_fieldaddr, v_field, v_idxaddr, v_arraddr, v_idx, v_sub, v_arrsub, v_arrall, v_extract, v_len, v_min, v_build, v_bslice, v_lookup, v_call, v_callv, Nat.reduceEqDiff, Nat.reduceBEq, reduceIte, ite_true, ite_false, Bool.false_eq_true, Bool.true_eq_false, if_true, if_false, decide_eq_true_eq, decide_eq_false_iff_not, decide_true, decide_false, Nat.zero_add, Nat.add_zero, Nat.reduceAdd, reduceCtorEq, eq_self, not_true_eq_false, not_false_eq_true, Bool.not_true, Bool.not_false, Nat.reduceMul, List.length_cons, List.length_nil, at_elem, take_f, take_tt, Int.toNat_natCast, Option.some.injEq, Option.bind_some, Int.natCast_nonneg, true_and, and_true, and_self, ↓q_for_n, ↓q_for_r, ↓q_for_e, eI_len, List.length_map, at_obj, obj_box, updH_same, Nat.reduceLeDiff, Nat.zero_le, Nat.le_refl, List.drop_zero, List.drop_succ_cons, List.take_succ_cons, List.take_zero, c_agg, c_int, c_bool, c_slice, c_emp, c_grow, ↓l_one0, ↓l_one1, ↓k_l0, ↓k_l1, stab_nil, stab_cons, stab_if, st_tt, st_ff, st_tf, st_ft, st_u, hm, g4, g5, g9, g10, hN, u64w (show j < 2 ^ 62 by omega), w_shl1 (show j < 62 by omega), show ¬ ((j : Int) < 0) by omega, hor, wsucc (show j < 4611686018427387904 by omega), hlt', hB4, hB5]
        refine ⟨hE, ?_⟩
        rw [hst, if_pos hm]
      · simp only [go_sem, reduceIte, reduceCtorEq, Nat.reduceEqDiff, Nat.reduceBEq, Nat.reduceAdd, Nat.reduceMul, Nat.reduceLeDiff, hm, g4, g5, g9, g10, hN, wsucc (show j < 4611686018427387904 by omega), hlt', hB4, hB5]
        refine ⟨hE, ?_⟩
        rw [hst, if_neg hm]
    · simp only [go_sem, reduceIte, reduceCtorEq, Nat.reduceEqDiff, Nat.reduceBEq, Nat.reduceAdd, Nat.reduceMul, Nat.reduceLeDiff, g4, g5, g9, g10, hN, hB4, hB5, hlt, take_f', List.getElem?_cons_zero]
      have : j = c.owners.length := by omega
      subst this
      refine fin_ret 8 (by simp [upd_at, hN]) ⟨_, H, Settle.refl hE, ?_, rfl⟩
      simp [upd_at, hoursOf, hc.own]
  | succ k ih =>
    intro hk H
    have ih' := ih (by omega)
    have hcast : ((k + 1 : Nat) : Int) - 1 = (k : Int) := by omega
    have hdec : IntKind.i64.wrap ((k : Int) - 1) = (k : Int) - 1 := w64 (by omega) (by omega)
    rw [hcast]
    refine fn_of hmix fc123 (by simp) ?_
    rw [ienv4]
    simp only [go_sem, reduceIte, reduceCtorEq, Nat.reduceEqDiff, Nat.reduceBEq, Nat.reduceAdd, Nat.reduceMul, Nat.reduceLeDiff, ac123, eH, eC]
    refine v_box _ rfl fun b4 hb4 => ?_
    simp only [go_sem, reduceIte, reduceCtorEq, Nat.reduceEqDiff, Nat.reduceBEq, Nat.reduceAdd, Nat.reduceMul, Nat.reduceLeDiff]
    refine v_box _ rfl fun b5 hb5 => ?_
    have n45 : b4 ≠ b5 := fun h => by subst h; simp at hb5
    simp only [go_sem, reduceIte, reduceCtorEq, Nat.reduceEqDiff, Nat.reduceBEq, Nat.reduceAdd, Nat.reduceMul, Nat.reduceLeDiff, show ¬ ((k : Int) < 0) by omega, updH_ne _ _ n45, hdec]
    have e2 := ((Ext.refl H).new hb4 (.box [.slice (h.table.women.map eW), .slice (h.table.pieces.map eP), i6 h.table.wrong, .slice (eI h.sick), i6 h.others, i6 h.last, .slice (h.touches.map eTo), .slice (h.boiled.map eB), .slice (h.signs.map eS)])).new hb5 (.box [.slice (eI c.owners), .slice (eI c.hours)])
    refine ih'.go ?_
    obtain ⟨c0, hc0⟩ : ∃ c0, c0 = hoursOf h (pad7 c.owners) (pad6 c.hours) (l.map bKey) k := ⟨_, rfl⟩
    have hc0l : c0.length = 10 := by rw [hc0]; exact hoursOf_len _ _ _ _ _
    rw [← hc0]
    have hfin : hoursOf h (pad7 c.owners) (pad6 c.hours) (l.map bKey) (k + 1) = touchOf h (pad6 c.hours) k (boilOf (l.map bKey) k c0 (nT h)) h.touches.length := by
      simp only [hoursOf, range_fold]; rw [hc0]; rfl
    rw [hfin]
    simp only [go_sem, reduceIte, reduceCtorEq, Nat.reduceEqDiff, Nat.reduceBEq, Nat.reduceAdd, Nat.reduceMul, Nat.reduceLeDiff]
    refine x_for (nT h) (fun j env H1 => Ext H H1 ∧ H1 b4 = some (.box [.slice (h.table.women.map eW), .slice (h.table.pieces.map eP), i6 h.table.wrong, .slice (eI h.sick), i6 h.others, i6 h.last, .slice (h.touches.map eTo), .slice (h.boiled.map eB), .slice (h.signs.map eS)]) ∧ H1 b5 = some (.box [.slice (eI c.owners), .slice (eI c.hours)]) ∧ env 2 = .slice (l.map eB) ∧ env 3 = i6 k ∧ env 4 = .ptr b4 0 ∧ env 5 = .ptr b5 0 ∧ env 9 = i6 (natOf (boilOf (l.map bKey) k c0 j) : Nat) ∧ env 11 = i6 j ∧ env 99 = .any)
      ⟨e2, by rw [updH_ne _ _ n45]; exact updH_same _ _ _, updH_same _ _ _, by simp [upd_at], by simp [upd_at], by simp [upd_at], by simp [upd_at], by simp [upd_at, boilOf], by simp [upd_at], by simp [upd_at]⟩ ?_
    rintro j env H1 hj ⟨hE, hB4, hB5, g2, g3, g4, g5, g9, g11, hN⟩
    have hbl := boilOf_len (l.map bKey) k c0 j hc0l
    simp only [go_sem, reduceIte, reduceCtorEq, Nat.reduceEqDiff, Nat.reduceBEq, Nat.reduceAdd, Nat.reduceMul, Nat.reduceLeDiff, g2, g3, g4, g5, g9, g11, hN, hB4]
    refine (thingsR_c h).go ?_
    rw [thingsW_ok hv.ok]
    by_cases hlt : (j : Int) < (nT h : Int)
    · have hlt' : j < nT h := by omega
      simp only [go_sem, reduceIte, reduceCtorEq, Nat.reduceEqDiff, Nat.reduceBEq, Nat.reduceAdd, Nat.reduceMul, Nat.reduceLeDiff, g2, g3, g4, g5, g9, g11, hN, hlt]
      refine (isBoiled_c l j k hl).go ?_
      have hst : boilOf (l.map bKey) k c0 (j + 1) = if ((j : Int), (k : Int)) ∈ l.map bKey then (boilOf (l.map bKey) k c0 j).set j false else boilOf (l.map bKey) k c0 j := by
        simp only [boilOf, range_fold]; rfl
      by_cases hin : ((j : Int), (k : Int)) ∈ l.map bKey
      · have handn := w_andN (natOf_lt62 (c := boilOf (l.map bKey) k c0 j) (by omega)) (two_lt (show j < 62 by omega))
        simp only [↓aops_nil, ↓aops_go, ↓aops_go0, ↓aops_if, ↓k_cont, ↓k_cont0, g_tt, g_ff, g_tf, g_ft, g_u, ↓apre_nil, ↓apre_if, ↓apre_go, pgo_det, Tag.isCall, popt_some, gp_tt, gp_ff, gp_tf, gp_ft, gp_u, ↓k_draw, opt_some, List.map_cons, List.map_nil, ev, upd_at, ↓x_skip, ↓x_label, ↓x_ret, ↓x_exit, ↓x_seq, ↓x_block, ↓x_ops, ↓x_cond, x_sel_t, x_sel_f, ↓x_draw, ↓q_kseq_n, ↓q_kseq_r, ↓q_kseq_e, ↓q_block_n, ↓q_block_r, ↓q_block_e, ↓q_loop_n, ↓q_loop_r, ↓q_loop_e, ↓l_done, d_mov, d_pick, d_not, d_nilchk, d_nilchk', d_conv, d_add, d_sub, d_mul, d_quo, d_rem, d_shl, d_shr, d_and, d_or, d_andnot, d_eql, d_neq, d_lss, d_leq, d_gtr, d_geq, d_eqb, d_neqb, d_mkfunc, d_load, d_fieldaddr, d_fieldaddr', d_field_t, d_field_f, d_idxaddr, d_idxaddr_g, elemO_some, d_idxaddr_m, d_arraddr, d_arraddr', d_idx_f, d_sub_s, d_sub_g, d_arrsub, d_arrall, d_extract, d_len, d_len_g, d_len_e, d_len_m, d_min, d_build, d_bslice0, d_bs1, d_bs2, d_bsa, d_eqagg, v_mov, v_pick, v_not, v_nilchk, v_conv, v_bin, v_binb, v_eqagg, v_mkfunc, v_load, v_fieldaddr, v_field, v_idxaddr, v_arraddr, v_idx, v_sub, v_arrsub, v_arrall, v_extract, v_len, v_min, v_build, v_bslice, v_lookup, v_call, v_callv, Nat.reduceEqDiff, Nat.reduceBEq, reduceIte, ite_true, ite_false, Bool.false_eq_true, Bool.true_eq_false, if_true, if_false, decide_eq_true_eq, decide_eq_false_iff_not, decide_true, decide_false, Nat.zero_add, Nat.add_zero, Nat.reduceAdd, reduceCtorEq, eq_self, not_true_eq_false, not_false_eq_true, Bool.not_true, Bool.not_false, Nat.reduceMul, List.length_cons, List.length_nil, at_elem, take_f, take_tt, Int.toNat_natCast, Option.some.injEq, Option.bind_some, Int.natCast_nonneg, true_and, and_true, and_self, ↓q_for_n, ↓q_for_r, ↓q_for_e, eI_len, List.length_map, at_obj, obj_box, updH_same, Nat.reduceLeDiff, Nat.zero_le, Nat.le_refl, List.drop_zero, List.drop_succ_cons, List.take_succ_cons, List.take_zero, c_agg, c_int, c_bool, c_slice, c_emp, c_grow, hin, g2, g3, g4, g5, g9, g11, hN, u64w (show j < 2 ^ 62 by omega), w_shl1 (show j < 62 by omega), show ¬ ((j : Int) < 0) by omega, handn, wsucc (show j < 4611686018427387904 by omega), hlt', hB4, hB5]
        refine ⟨hE, ?_⟩
        rw [hst, if_pos hin, natOf_set_f (by omega)]
      · simp only [go_sem, reduceIte, reduceCtorEq, Nat.reduceEqDiff, Nat.reduceBEq, Nat.reduceAdd, Nat.reduceMul, Nat.reduceLeDiff, hin, g2, g3, g4, g5, g9, g11, hN, wsucc (show j < 4611686018427387904 by omega), hlt', hB4, hB5]
        refine ⟨hE, ?_⟩
        rw [hst, if_neg hin]
    have hj' : j = nT h := by omega
    subst hj'
    simp only [go_sem, reduceIte, reduceCtorEq, Nat.reduceEqDiff, Nat.reduceBEq, Nat.reduceAdd, Nat.reduceMul, Nat.reduceLeDiff, g2, g3, g4, g5, g9, g11, hN, hlt]
    obtain ⟨c1, hc1⟩ : ∃ c1, c1 = boilOf (l.map bKey) k c0 (nT h) := ⟨_, rfl⟩
    have hc1l : c1.length = 10 := by rw [hc1]; exact boilOf_len _ _ _ _ hc0l
    rw [← hc1] at g9 ⊢
    refine x_for h.touches.length (fun j env H1 => Ext H H1 ∧ H1 b4 = some (.box [.slice (h.table.women.map eW), .slice (h.table.pieces.map eP), i6 h.table.wrong, .slice (eI h.sick), i6 h.others, i6 h.last, .slice (h.touches.map eTo), .slice (h.boiled.map eB), .slice (h.signs.map eS)]) ∧ H1 b5 = some (.box [.slice (eI c.owners), .slice (eI c.hours)]) ∧ env 3 = i6 k ∧ env 4 = .ptr b4 0 ∧ env 5 = .ptr b5 0 ∧ env 9 = i6 (natOf (touchOf h (pad6 c.hours) k c1 j) : Nat) ∧ env 12 = i6 j ∧ env 99 = .any)
      ⟨hE, hB4, hB5, by simp [upd_at, g3], by simp [upd_at, g4], by simp [upd_at, g5], by simp [upd_at, g9, touchOf], by simp [upd_at], by simp [upd_at, hN]⟩ ?_
    clear hE hB4 hB5 g2 g3 g4 g5 g9 g11 hN hlt hj hbl env H1
    rintro j env H1 hj ⟨hE, hB4, hB5, g3, g4, g5, g9, g12, hN⟩
    by_cases hlt : (j : Int) < (h.touches.length : Int)
    rotate_left
    · have : j = h.touches.length := by omega
      subst this
      simp only [go_sem, reduceIte, reduceCtorEq, Nat.reduceEqDiff, Nat.reduceBEq, Nat.reduceAdd, Nat.reduceMul, Nat.reduceLeDiff, g3, g4, g5, g9, g12, hN, hlt, hB4, take_f', List.getElem?_cons_zero]
      refine fin_ret 8 (by simp [upd_at, hN]) ⟨_, H, Settle.refl hE, ?_, rfl⟩
      simp [upd_at]
    have hlt' : j < h.touches.length := by omega
    have hlth : j < c.hours.length := by have := hc.hrs; omega
    have hget : h.touches.getD j default = h.touches[j] := by simp [hlt']
    obtain ⟨a, b, ha, hb, ha10, hb10⟩ := hv.ok.touch _ (List.getElem_mem hlt')
    have htl := touchOf_len h (pad6 c.hours) k c1 j hc1l
    have hpg := pad6_get c.hours j hlth
    have hst : touchOf h (pad6 c.hours) k c1 (j + 1) = if c.hours[j] = (k : Int) ∧ ((touchOf h (pad6 c.hours) k c1 j).getD a false || (touchOf h (pad6 c.hours) k c1 j).getD b false) = true then ((touchOf h (pad6 c.hours) k c1 j).set a true).set b true else touchOf h (pad6 c.hours) k c1 j := by
      simp only [touchOf, range_fold]
      rw [touchAt, hget, ha, hb, hpg]; simp only [Int.toNat_natCast]; rfl
    obtain ⟨ct, hct⟩ : ∃ ct, ct = touchOf h (pad6 c.hours) k c1 j := ⟨_, rfl⟩
    rw [← hct] at g9 htl hst
    have hpair := w_or (two_lt (show a < 62 by omega)) (two_lt (show b < 62 by omega))
    have hpl : (2 ^ a ||| 2 ^ b) < 2 ^ 62 := Nat.or_lt_two_pow (two_lt (by omega)) (two_lt (by omega))
    have hcl := natOf_lt62 (c := ct) (by omega)
    have handp := w_and hcl hpl
    have horp := w_or hcl hpl
    by_cases c1 : c.hours[j] = (k : Int)
    rotate_left
    · simp only [go_sem, reduceIte, reduceCtorEq, Nat.reduceEqDiff, Nat.reduceBEq, Nat.reduceAdd, Nat.reduceMul, Nat.reduceLeDiff, g3, g4, g5, g9, g12, hN, hlt, hB4, hB5, take_f', List.getElem?_cons_zero, List.getElem?_cons_succ, map_get (f := eTo) hlt', eTo, ha, hb, u64w (show a < 2 ^ 62 by omega), u64w (show b < 2 ^ 62 by omega), w_shl1 (show a < 62 by omega), w_shl1 (show b < 62 by omega), show ¬ ((a : Int) < 0) by omega, show ¬ ((b : Int) < 0) by omega, hpair, eI_get hlth, c1, wsucc (show j < 4611686018427387904 by omega), hlt']
      refine ⟨hE, ?_⟩
      rw [hst, if_neg (fun h => c1 h.1)]
    by_cases c2 : natOf ct &&& (2 ^ a ||| 2 ^ b) = 0
    · have c2' : ((natOf ct &&& (2 ^ a ||| 2 ^ b) : Nat) : Int) = 0 := by rw [c2]; rfl
      simp only [↓aops_nil, ↓aops_go, ↓aops_go0, ↓aops_if, ↓k_cont, ↓k_cont0, g_tt, g_ff, g_tf, g_ft, g_u, ↓apre_nil, ↓apre_if, ↓apre_go, pgo_det, Tag.isCall, popt_some, gp_tt, gp_ff, gp_tf, gp_ft, gp_u, ↓k_draw, opt_some, List.map_cons, List.map_nil, ev, upd_at, ↓x_skip, ↓x_label, ↓x_ret, ↓x_exit, ↓x_seq, ↓x_block, ↓x_ops, ↓x_cond, x_sel_t, x_sel_f, ↓x_draw, ↓q_kseq_n, ↓q_kseq_r, ↓q_kseq_e, ↓q_block_n, ↓q_block_r, ↓q_block_e, ↓q_loop_n, ↓q_loop_r, ↓q_loop_e, ↓l_done, d_mov, d_pick, d_not, d_nilchk, d_nilchk', d_conv, d_add, d_sub, d_mul, d_quo, d_rem, d_shl, d_shr, d_and, d_or, d_andnot, d_eql, d_neq, d_lss, d_leq, d_gtr, d_geq, d_eqb, d_neqb, d_mkfunc, d_load, d_fieldaddr, d_fieldaddr', d_field_t, d_field_f, d_idxaddr, d_idxaddr_g, elemO_some, d_idxaddr_m, d_arraddr, d_arraddr', d_idx_f, d_sub_s, d_sub_g, d_arrsub, d_arrall, d_extract, d_len, d_len_g, d_len_e, d_len_m, d_min, d_build, d_bslice0, d_bs1, d_bs2, d_bsa, d_eqagg, v_mov, v_pick, v_not, v_nilchk, v_conv, v_bin, v_binb, v_eqagg, v_mkfunc, v_load, v_fieldaddr, v_field, v_idxaddr, v_arraddr, v_idx, v_sub, v_arrsub, v_arrall, v_extract, v_len, v_min, v_build, v_bslice, v_lookup, v_call, v_callv, Nat.reduceEqDiff, Nat.reduceBEq, reduceIte, ite_true, ite_false, Bool.false_eq_true, Bool.true_eq_false, if_true, if_false, decide_eq_true_eq, decide_eq_false_iff_not, decide_true, decide_false, Nat.zero_add, Nat.add_zero, Nat.reduceAdd, reduceCtorEq, eq_self, not_true_eq_false, not_false_eq_true, Bool.not_true, Bool.not_false, Nat.reduceMul, List.length_cons, List.length_nil, at_elem, take_f, take_tt, Int.toNat_natCast, Option.some.injEq, Option.bind_some, Int.natCast_nonneg, true_and, and_true, and_self, ↓q_for_n, ↓q_for_r, ↓q_for_e, eI_len, List.length_map, at_obj, obj_box, updH_same, Nat.reduceLeDiff, Nat.zero_le, Nat.le_refl, List.drop_zero, List.drop_succ_cons, List.take_succ_cons, List.take_zero, c_agg, c_int, c_bool, c_slice, c_emp, c_grow, ↓l_one0, ↓l_one1, ↓k_l0, ↓k_l1, stab_nil, stab_cons, stab_if, st_tt, st_ff, st_tf, st_ft, st_u, g3, g4, g5, g9, g12, hN, hlt, hB4, hB5, take_f', List.getElem?_cons_zero, List.getElem?_cons_succ, map_get (f := eTo) hlt', eTo, ha, hb, u64w (show a < 2 ^ 62 by omega), u64w (show b < 2 ^ 62 by omega), w_shl1 (show a < 62 by omega), w_shl1 (show b < 62 by omega), show ¬ ((a : Int) < 0) by omega, show ¬ ((b : Int) < 0) by omega, hpair, eI_get hlth, c1, handp, c2', wsucc (show j < 4611686018427387904 by omega), hlt']
      refine ⟨hE, ?_⟩
      rw [hst, if_neg (fun h => natOf_and2.2 h.2 c2)]
    · have c2' : ¬ ((natOf ct &&& (2 ^ a ||| 2 ^ b) : Nat) : Int) = 0 := by omega
      simp only [↓aops_nil, ↓aops_go, ↓aops_go0, ↓aops_if, ↓k_cont, ↓k_cont0, g_tt, g_ff, g_tf, g_ft, g_u, ↓apre_nil, ↓apre_if, ↓apre_go, pgo_det, Tag.isCall, popt_some, gp_tt, gp_ff, gp_tf, gp_ft, gp_u, ↓k_draw, opt_some, List.map_cons, List.map_nil, ev, upd_at, ↓x_skip, ↓x_label, ↓x_ret, ↓x_exit, ↓x_seq, ↓x_block, ↓x_ops, ↓x_cond, x_sel_t, x_sel_f, ↓x_draw, ↓q_kseq_n, ↓q_kseq_r, ↓q_kseq_e, ↓q_block_n, ↓q_block_r, ↓q_block_e, ↓q_loop_n, ↓q_loop_r, ↓q_loop_e, ↓l_done, d_mov, d_pick, d_not, d_nilchk, d_nilchk', d_conv, d_add, d_sub, d_mul, d_quo, d_rem, d_shl, d_shr, d_and, d_or, d_andnot, d_eql, d_neq, d_lss, d_leq, d_gtr, d_geq, d_eqb, d_neqb, d_mkfunc, d_load, d_fieldaddr, d_fieldaddr', d_field_t, d_field_f, d_idxaddr, d_idxaddr_g, elemO_some, d_idxaddr_m, d_arraddr, d_arraddr', d_idx_f, d_sub_s, d_sub_g, d_arrsub, d_arrall, d_extract, d_len, d_len_g, d_len_e, d_len_m, d_min, d_build, d_bslice0, d_bs1, d_bs2, d_bsa, d_eqagg, v_mov, v_pick, v_not, v_nilchk, v_conv, v_bin, v_binb, v_eqagg, v_mkfunc, v_load, v_fieldaddr, v_field, v_idxaddr, v_arraddr, v_idx, v_sub, v_arrsub, v_arrall, v_extract, v_len, v_min, v_build, v_bslice, v_lookup, v_call, v_callv, Nat.reduceEqDiff, Nat.reduceBEq, reduceIte, ite_true, ite_false, Bool.false_eq_true, Bool.true_eq_false, if_true, if_false, decide_eq_true_eq, decide_eq_false_iff_not, decide_true, decide_false, Nat.zero_add, Nat.add_zero, Nat.reduceAdd, reduceCtorEq, eq_self, not_true_eq_false, not_false_eq_true, Bool.not_true, Bool.not_false, Nat.reduceMul, List.length_cons, List.length_nil, at_elem, take_f, take_tt, Int.toNat_natCast, Option.some.injEq, Option.bind_some, Int.natCast_nonneg, true_and, and_true, and_self, ↓q_for_n, ↓q_for_r, ↓q_for_e, eI_len, List.length_map, at_obj, obj_box, updH_same, Nat.reduceLeDiff, Nat.zero_le, Nat.le_refl, List.drop_zero, List.drop_succ_cons, List.take_succ_cons, List.take_zero, c_agg, c_int, c_bool, c_slice, c_emp, c_grow, ↓l_one0, ↓l_one1, ↓k_l0, ↓k_l1, stab_nil, stab_cons, stab_if, st_tt, st_ff, st_tf, st_ft, st_u, g3, g4, g5, g9, g12, hN, hlt, hB4, hB5, take_f', List.getElem?_cons_zero, List.getElem?_cons_succ, map_get (f := eTo) hlt', eTo, ha, hb, u64w (show a < 2 ^ 62 by omega), u64w (show b < 2 ^ 62 by omega), w_shl1 (show a < 62 by omega), w_shl1 (show b < 62 by omega), show ¬ ((a : Int) < 0) by omega, show ¬ ((b : Int) < 0) by omega, hpair, eI_get hlth, c1, handp, c2', horp, wsucc (show j < 4611686018427387904 by omega), hlt']
      refine ⟨hE, ?_⟩
      rw [hst, if_pos ⟨c1, natOf_and2.1 c2⟩, natOf_set_t (by simp; omega), natOf_set_t (by omega), Nat.or_assoc]
end Go.Lift

set_option linter.unusedSimpArgs false
set_option linter.unusedVariables false
namespace Go.Lift
open Go Go.Proofs
theorem ACalls.arg2 {P : Program} {f : FuncId} {a b x y d : AV} {H : AHeap} {R : AV → AHeap → Prop} (h : ∀ w v, Rep H w v x → Rep H w v y) (hc : ACalls P f [a, b, y, d] H R) : ACalls P f [a, b, x, d] H R :=
  ACalls.weaken (xs := [a, b, x, d]) (ys := [a, b, y, d]) rfl (hc := hc) fun i p q hp hq w v hr => by
    match i, hp, hq with
    | 0, hp, hq => cases hp; cases hq; exact hr
    | 1, hp, hq => cases hp; cases hq; exact hr
    | 2, hp, hq => cases hp; cases hq; exact h w v hr
    | 3, hp, hq => cases hp; cases hq; exact hr
theorem last_c (h : House) (hv : HV h) (c : Course) (hc : CLen h c) (more : List Boiling) (hm : more.length ≤ 1000) : Pure Tryz.prog 69 [eH h, eC c, .slice (more.map eB)] (i6 (natOf (lastOf h c more) : Nat)) := by
  intro H
  obtain ⟨nl, hl1, hl2⟩ := hv.ok.last
  have hb4 := hv.ok.boiled
  refine fn_of hmix fc69 (by simp) ?_
  rw [ienv3]
  simp only [go_sem, reduceIte, reduceCtorEq, Nat.reduceEqDiff, Nat.reduceBEq, Nat.reduceAdd, Nat.reduceMul, Nat.reduceLeDiff, ac69, eH, eC]
  refine v_box _ rfl fun b3 hb3 => ?_
  simp only [go_sem, reduceIte, reduceCtorEq, Nat.reduceEqDiff, Nat.reduceBEq, Nat.reduceAdd, Nat.reduceMul, Nat.reduceLeDiff]
  refine v_box _ rfl fun b5 hb5 => ?_
  have n35 : b3 ≠ b5 := fun h => by subst h; simp at hb5
  have e2 := ((Ext.refl H).new hb3 (.box [.slice (h.table.women.map eW), .slice (h.table.pieces.map eP), i6 h.table.wrong, .slice (eI h.sick), i6 h.others, i6 h.last, .slice (h.touches.map eTo), .slice (h.boiled.map eB), .slice (h.signs.map eS)])).new hb5 (.box [.slice (eI c.owners), .slice (eI c.hours)])
  have B3 : updH (updH H b3 (.box [.slice (h.table.women.map eW), .slice (h.table.pieces.map eP), i6 h.table.wrong, .slice (eI h.sick), i6 h.others, i6 h.last, .slice (h.touches.map eTo), .slice (h.boiled.map eB), .slice (h.signs.map eS)])) b5 (.box [.slice (eI c.owners), .slice (eI c.hours)]) b3 = some (.box [.slice (h.table.women.map eW), .slice (h.table.pieces.map eP), i6 h.table.wrong, .slice (eI h.sick), i6 h.others, i6 h.last, .slice (h.touches.map eTo), .slice (h.boiled.map eB), .slice (h.signs.map eS)]) := by rw [updH_ne _ _ n35]; exact updH_same _ _ _
  have B5 : updH (updH H b3 (.box [.slice (h.table.women.map eW), .slice (h.table.pieces.map eP), i6 h.table.wrong, .slice (eI h.sick), i6 h.others, i6 h.last, .slice (h.touches.map eTo), .slice (h.boiled.map eB), .slice (h.signs.map eS)])) b5 (.box [.slice (eI c.owners), .slice (eI c.hours)]) b5 = some (.box [.slice (eI c.owners), .slice (eI c.hours)]) := updH_same _ _ _
  simp only [go_sem, reduceIte, reduceCtorEq, Nat.reduceEqDiff, Nat.reduceBEq, Nat.reduceAdd, Nat.reduceMul, Nat.reduceLeDiff, updH_ne _ _ n35, take_f', List.getElem?_cons_zero]
  refine v_append (H0 := updH (updH H b3 (.box [.slice (h.table.women.map eW), .slice (h.table.pieces.map eP), i6 h.table.wrong, .slice (eI h.sick), i6 h.others, i6 h.last, .slice (h.touches.map eTo), .slice (h.boiled.map eB), .slice (h.signs.map eS)])) b5 (.box [.slice (eI c.owners), .slice (eI c.hours)])) (sz := 2) (.inl ⟨rfl, rfl⟩) (Ext.refl _) rfl (by intro e he; cases he) (eB_good _) (eB_cell _) (by simp; omega) (by simp; omega) ?_
  intro v1 H1 hg1 he1 hk1
  have C3 := he1 _ _ B3
  have C5 := he1 _ _ B5
  simp only [go_sem, reduceIte, reduceCtorEq, Nat.reduceEqDiff, Nat.reduceBEq, Nat.reduceAdd, Nat.reduceMul, Nat.reduceLeDiff, C3, C5, take_f', List.getElem?_cons_zero]
  refine v_append hg1 he1 rfl (eB_good h.boiled) (eB_good more) (eB_cell more) (by simp; omega) (by simp; omega) ?_
  intro v2 H2 hg2 he2 hk2
  have D3 := he2 _ _ B3
  have D5 := he2 _ _ B5
  simp only [go_sem, reduceIte, reduceCtorEq, Nat.reduceEqDiff, Nat.reduceBEq, Nat.reduceAdd, Nat.reduceMul, Nat.reduceLeDiff, D3, D5, take_f', List.getElem?_cons_zero]
  refine ACalls.arg2 (y := .slice ((h.boiled ++ more).map eB)) (fun w v hr => by rw [List.map_append]; exact hg2.weakRep hr) ?_
  have hlast : h.last = ((nl + 1 : Nat) : Int) - 1 := by omega
  have hcall := carriers_c h hv c hc (h.boiled ++ more) (by unfold Sm; simp; omega) (nl + 1) (by omega)
  rw [← hlast] at hcall
  refine hcall.go ?_
  simp only [go_sem, reduceIte, reduceCtorEq, Nat.reduceEqDiff, Nat.reduceBEq, Nat.reduceAdd, Nat.reduceMul, Nat.reduceLeDiff]
  refine fin_ret 6 (by simp [upd_at]) ⟨_, H, Settle.refl (e2.trans he2), ?_, rfl⟩
  simp [upd_at, lastOf, playOf, hl1]
def eCr (c : Course) : List AV := [.slice (eI c.owners), .slice (eI c.hours)]
def eCL (l : List Course) : AV := .slice (l.map eCr)
end Go.Lift

set_option linter.unusedSimpArgs false
set_option linter.unusedVariables false
namespace Go.Lift
open Go Go.Proofs
def signAt (h : House) (bs : List Bool) (i : Nat) : Bool := bs.getD (h.signs.getD i default).thing.toNat false == (h.signs.getD i default).carries
def signsL (h : House) (c : Course) : List Bool := (List.range h.signs.length).map (signAt h (lastOf h c []))
theorem rightH_c (h : House) (hv : HV h) (c : Course) (hc : CLen h c) : Pure Tryz.prog 86 [eH h, eC c] (i6 (natOf (signsL h c) : Nat)) := by
  intro H
  have hsg := hv.ok.signs
  have hll := lastOf_len h c []
  refine fn_of hmix fc86 (by simp) ?_
  rw [ienv2]
  simp only [go_sem, reduceIte, reduceCtorEq, Nat.reduceEqDiff, Nat.reduceBEq, Nat.reduceAdd, Nat.reduceMul, Nat.reduceLeDiff, ac86, eH, eC]
  refine v_box _ rfl fun b2 hb2 => ?_
  simp only [go_sem, reduceIte, reduceCtorEq, Nat.reduceEqDiff, Nat.reduceBEq, Nat.reduceAdd, Nat.reduceMul, Nat.reduceLeDiff]
  refine v_box _ rfl fun b3 hb3 => ?_
  have n23 : b2 ≠ b3 := fun h => by subst h; simp at hb3
  have e2 := ((Ext.refl H).new hb2 (.box [.slice (h.table.women.map eW), .slice (h.table.pieces.map eP), i6 h.table.wrong, .slice (eI h.sick), i6 h.others, i6 h.last, .slice (h.touches.map eTo), .slice (h.boiled.map eB), .slice (h.signs.map eS)])).new hb3 (.box [.slice (eI c.owners), .slice (eI c.hours)])
  simp only [go_sem, reduceIte, reduceCtorEq, Nat.reduceEqDiff, Nat.reduceBEq, Nat.reduceAdd, Nat.reduceMul, Nat.reduceLeDiff, updH_ne _ _ n23]
  refine (Pure.emp2 (last_c h hv c hc [] (by simp))).go ?_
  simp only [go_sem, reduceIte, reduceCtorEq, Nat.reduceEqDiff, Nat.reduceBEq, Nat.reduceAdd, Nat.reduceMul, Nat.reduceLeDiff]
  refine x_for h.signs.length (fun j env H1 => Ext H H1 ∧ H1 b2 = some (.box [.slice (h.table.women.map eW), .slice (h.table.pieces.map eP), i6 h.table.wrong, .slice (eI h.sick), i6 h.others, i6 h.last, .slice (h.touches.map eTo), .slice (h.boiled.map eB), .slice (h.signs.map eS)]) ∧ env 2 = .ptr b2 0 ∧ env 5 = i6 (natOf ((List.range j).map (signAt h (lastOf h c []))) : Nat) ∧ env 6 = i6 (natOf (lastOf h c []) : Nat) ∧ env 7 = i6 j ∧ env 42 = .any)
    ⟨e2, by rw [updH_ne _ _ n23]; exact updH_same _ _ _, by simp [upd_at], by simp [upd_at, natOf], by simp [upd_at], by simp [upd_at], by simp [upd_at]⟩ ?_
  rintro j env H1 hj ⟨hE, hB, g2, g5, g6, g7, hN⟩
  by_cases hlt : (j : Int) < (h.signs.length : Int)
  · have hlt' : j < h.signs.length := by omega
    have hget : h.signs.getD j default = h.signs[j] := by simp [hlt']
    obtain ⟨a, ha, ha10⟩ := hv.ok.sign _ (List.getElem_mem hlt')
    have hsn : natOf ((List.range (j + 1)).map (signAt h (lastOf h c []))) = if signAt h (lastOf h c []) j = true then natOf ((List.range j).map (signAt h (lastOf h c []))) ||| 2 ^ j else natOf ((List.range j).map (signAt h (lastOf h c []))) := by
      rw [List.range_succ, List.map_append, List.map_cons, List.map_nil, natOf_snoc]; simp
    have handp := w_and (natOf_lt62 (c := lastOf h c []) (by omega)) (two_lt (show a < 62 by omega))
    have hor := w_or (natOf_lt62 (c := (List.range j).map (signAt h (lastOf h c []))) (by simp; omega)) (two_lt (show j < 62 by omega))
    have hne : (!decide (((natOf (lastOf h c []) &&& 2 ^ a : Nat) : Int) = 0)) = (lastOf h c []).getD a false := by
      rw [Bool.eq_iff_iff, ← natOf_and]
      simp only [Bool.not_eq_true', decide_eq_false_iff_not]
      omega
    have hsa : signAt h (lastOf h c []) j = ((lastOf h c []).getD a false == h.signs[j].carries) := by
      rw [signAt, hget, ha]; rfl
    simp only [↓aops_nil, ↓aops_go, ↓aops_go0, ↓aops_if, ↓k_cont, ↓k_cont0, g_tt, g_ff, g_tf, g_ft, g_u, ↓apre_nil, ↓apre_if, ↓apre_go, pgo_det, Tag.isCall, popt_some, gp_tt, gp_ff, gp_tf, gp_ft, gp_u, ↓k_draw, opt_some, List.map_cons, List.map_nil, ev, upd_at, ↓x_skip, ↓x_label, ↓x_ret, ↓x_exit, ↓x_seq, ↓x_block, ↓x_ops, ↓x_cond, x_sel_t, x_sel_f, ↓x_draw, ↓q_kseq_n, ↓q_kseq_r, ↓q_kseq_e, ↓q_block_n, ↓q_block_r, ↓q_block_e, ↓q_loop_n, ↓q_loop_r, ↓q_loop_e, ↓l_done, d_mov, d_pick, d_not, d_nilchk, d_nilchk', d_conv, d_add, d_sub, d_mul, d_quo, d_rem, d_shl, d_shr, d_and, d_or, d_andnot, d_eql, d_neq, d_lss, d_leq, d_gtr, d_geq, d_eqb, d_neqb, d_mkfunc, d_load, d_fieldaddr, d_fieldaddr', d_field_t, d_field_f, d_idxaddr, d_idxaddr_g, elemO_some, d_idxaddr_m, d_arraddr, d_arraddr', d_idx_f, d_sub_s, d_sub_g, d_arrsub, d_arrall, d_extract, d_len, d_len_g, d_len_e, d_len_m, d_min, d_build, d_bslice0, d_bs1, d_bs2, d_bsa, d_eqagg, v_mov, v_pick, v_not, v_nilchk, v_conv, v_bin, v_binb, v_eqagg, v_mkfunc, v_load, v_fieldaddr, v_field, v_idxaddr, v_arraddr, v_idx, v_sub, v_arrsub, v_arrall, v_extract, v_len, v_min, v_build, v_bslice, v_lookup, v_call, v_callv, Nat.reduceEqDiff, Nat.reduceBEq, reduceIte, ite_true, ite_false, Bool.false_eq_true, Bool.true_eq_false, if_true, if_false, decide_eq_true_eq, decide_eq_false_iff_not, decide_true, decide_false, Nat.zero_add, Nat.add_zero, Nat.reduceAdd, reduceCtorEq, eq_self, not_true_eq_false, not_false_eq_true, Bool.not_true, Bool.not_false, Nat.reduceMul, List.length_cons, List.length_nil, at_elem, take_f, take_tt, Int.toNat_natCast, Option.some.injEq, Option.bind_some, Int.natCast_nonneg, true_and, and_true, and_self, ↓q_for_n, ↓q_for_r, ↓q_for_e, eI_len, List.length_map, at_obj, obj_box, updH_same, Nat.reduceLeDiff, Nat.zero_le, Nat.le_refl, List.drop_zero, List.drop_succ_cons, List.take_succ_cons, List.take_zero, c_agg, c_int, c_bool, c_slice, c_emp, c_grow, ↓l_one0, ↓l_one1, ↓k_l0, ↓k_l1, stab_nil, stab_cons, stab_if, st_tt, st_ff, st_tf, st_ft, st_u, g2, g5, g6, g7, hN, hlt, hB, take_f', List.getElem?_cons_zero, List.getElem?_cons_succ, map_get (f := eS) hlt', eS, ha, u64w (show a < 2 ^ 62 by omega), w_shl1 (show a < 62 by omega), show ¬ ((a : Int) < 0) by omega, handp, hne, ← hsa]
    cases hs : signAt h (lastOf h c []) j
    · simp only [↓aops_nil, ↓aops_go, ↓aops_go0, ↓aops_if, ↓k_cont, ↓k_cont0, g_tt, g_ff, g_tf, g_ft, g_u, ↓apre_nil, ↓apre_if, ↓apre_go, pgo_det, Tag.isCall, popt_some, gp_tt, gp_ff, gp_tf, gp_ft, gp_u, ↓k_draw, opt_some, List.map_cons, List.map_nil, ev, upd_at, ↓x_skip, ↓x_label, ↓x_ret, ↓x_exit, ↓x_seq, ↓x_block, ↓x_ops, ↓x_cond, x_sel_t, x_sel_f, ↓x_draw, ↓q_kseq_n, ↓q_kseq_r, ↓q_kseq_e, ↓q_block_n, ↓q_block_r, ↓q_block_e, ↓q_loop_n, ↓q_loop_r, ↓q_loop_e, ↓l_done, d_mov, d_pick, d_not, d_nilchk, d_nilchk', d_conv, d_add, d_sub, d_mul, d_quo, d_rem, d_shl, d_shr, d_and, d_or, d_andnot, d_eql, d_neq, d_lss, d_leq, d_gtr, d_geq, d_eqb, d_neqb, d_mkfunc, d_load, d_fieldaddr, d_fieldaddr', d_field_t, d_field_f, d_idxaddr, d_idxaddr_g, elemO_some, d_idxaddr_m, d_arraddr, d_arraddr', d_idx_f, d_sub_s, d_sub_g, d_arrsub, d_arrall, d_extract, d_len, d_len_g, d_len_e, d_len_m, d_min, d_build, d_bslice0, d_bs1, d_bs2, d_bsa, d_eqagg, v_mov, v_pick, v_not, v_nilchk, v_conv, v_bin, v_binb, v_eqagg, v_mkfunc, v_load, v_fieldaddr, v_field, v_idxaddr, v_arraddr, v_idx, v_sub, v_arrsub, v_arrall, v_extract, v_len, v_min, v_build, v_bslice, v_lookup, v_call, v_callv, Nat.reduceEqDiff, Nat.reduceBEq, reduceIte, ite_true, ite_false, Bool.false_eq_true, Bool.true_eq_false, if_true, if_false, decide_eq_true_eq, decide_eq_false_iff_not, decide_true, decide_false, Nat.zero_add, Nat.add_zero, Nat.reduceAdd, reduceCtorEq, eq_self, not_true_eq_false, not_false_eq_true, Bool.not_true, Bool.not_false, Nat.reduceMul, List.length_cons, List.length_nil, at_elem, take_f, take_tt, Int.toNat_natCast, Option.some.injEq, Option.bind_some, Int.natCast_nonneg, true_and, and_true, and_self, ↓q_for_n, ↓q_for_r, ↓q_for_e, eI_len, List.length_map, at_obj, obj_box, updH_same, Nat.reduceLeDiff, Nat.zero_le, Nat.le_refl, List.drop_zero, List.drop_succ_cons, List.take_succ_cons, List.take_zero, c_agg, c_int, c_bool, c_slice, c_emp, c_grow, ↓l_one0, ↓l_one1, ↓k_l0, ↓k_l1, stab_nil, stab_cons, stab_if, st_tt, st_ff, st_tf, st_ft, st_u, g2, g5, g6, g7, hN, hB, wsucc (show j < 4611686018427387904 by omega), hlt']
      refine ⟨hE, ?_⟩
      rw [hsn, hs]; rfl
    · simp only [↓aops_nil, ↓aops_go, ↓aops_go0, ↓aops_if, ↓k_cont, ↓k_cont0, g_tt, g_ff, g_tf, g_ft, g_u, ↓apre_nil, ↓apre_if, ↓apre_go, pgo_det, Tag.isCall, popt_some, gp_tt, gp_ff, gp_tf, gp_ft, gp_u, ↓k_draw, opt_some, List.map_cons, List.map_nil, ev, upd_at, ↓x_skip, ↓x_label, ↓x_ret, ↓x_exit, ↓x_seq, ↓x_block, ↓x_ops, ↓x_cond, x_sel_t, x_sel_f, ↓x_draw, ↓q_kseq_n, ↓q_kseq_r, ↓q_kseq_e, ↓q_block_n, ↓q_block_r, ↓q_block_e, ↓q_loop_n, ↓q_loop_r, ↓q_loop_e, ↓l_done, d_mov, d_pick, d_not, d_nilchk, d_nilchk', d_conv, d_add, d_sub, d_mul, d_quo, d_rem, d_shl, d_shr, d_and, d_or, d_andnot, d_eql, d_neq, d_lss, d_leq, d_gtr, d_geq, d_eqb, d_neqb, d_mkfunc, d_load, d_fieldaddr, d_fieldaddr', d_field_t, d_field_f, d_idxaddr, d_idxaddr_g, elemO_some, d_idxaddr_m, d_arraddr, d_arraddr', d_idx_f, d_sub_s, d_sub_g, d_arrsub, d_arrall, d_extract, d_len, d_len_g, d_len_e, d_len_m, d_min, d_build, d_bslice0, d_bs1, d_bs2, d_bsa, d_eqagg, v_mov, v_pick, v_not, v_nilchk, v_conv, v_bin, v_binb, v_eqagg, v_mkfunc, v_load, v_fieldaddr, v_field, v_idxaddr, v_arraddr, v_idx, v_sub, v_arrsub, v_arrall, v_extract, v_len, v_min, v_build, v_bslice, v_lookup, v_call, v_callv, Nat.reduceEqDiff, Nat.reduceBEq, reduceIte, ite_true, ite_false, Bool.false_eq_true, Bool.true_eq_false, if_true, if_false, decide_eq_true_eq, decide_eq_false_iff_not, decide_true, decide_false, Nat.zero_add, Nat.add_zero, Nat.reduceAdd, reduceCtorEq, eq_self, not_true_eq_false, not_false_eq_true, Bool.not_true, Bool.not_false, Nat.reduceMul, List.length_cons, List.length_nil, at_elem, take_f, take_tt, Int.toNat_natCast, Option.some.injEq, Option.bind_some, Int.natCast_nonneg, true_and, and_true, and_self, ↓q_for_n, ↓q_for_r, ↓q_for_e, eI_len, List.length_map, at_obj, obj_box, updH_same, Nat.reduceLeDiff, Nat.zero_le, Nat.le_refl, List.drop_zero, List.drop_succ_cons, List.take_succ_cons, List.take_zero, c_agg, c_int, c_bool, c_slice, c_emp, c_grow, ↓l_one0, ↓l_one1, ↓k_l0, ↓k_l1, stab_nil, stab_cons, stab_if, st_tt, st_ff, st_tf, st_ft, st_u, g2, g5, g6, g7, hN, hB, u64w (show j < 2 ^ 62 by omega), w_shl1 (show j < 62 by omega), show ¬ ((j : Int) < 0) by omega, hor, wsucc (show j < 4611686018427387904 by omega), hlt']
      refine ⟨hE, ?_⟩
      rw [hsn, hs]; rfl
  · simp only [go_sem, reduceIte, reduceCtorEq, Nat.reduceEqDiff, Nat.reduceBEq, Nat.reduceAdd, Nat.reduceMul, Nat.reduceLeDiff, g2, g5, g6, g7, hN, hlt, hB, take_f', List.getElem?_cons_zero]
    have : j = h.signs.length := by omega
    subst this
    refine fin_ret 4 (by simp [upd_at, hN]) ⟨_, H, Settle.refl hE, ?_, rfl⟩
    simp [upd_at, signsL]
def fullN (h : House) : Nat := 2 ^ h.signs.length - 1
theorem fullH_c (h : House) (hsg : h.signs.length ≤ 60) : Pure Tryz.prog 49 [eH h] (i6 (fullN h : Nat)) := by
  intro H
  refine fn_of hmix fc49 (by simp) ?_
  rw [ienv1]
  simp only [go_sem, reduceIte, reduceCtorEq, Nat.reduceEqDiff, Nat.reduceBEq, Nat.reduceAdd, Nat.reduceMul, Nat.reduceLeDiff, ac49, eH]
  refine v_box _ rfl fun b1 hb1 => ?_
  have hp : 1 ≤ 2 ^ h.signs.length := Nat.one_le_two_pow
  have hp2 := two_lt (show h.signs.length < 62 by omega)
  have hs : IntKind.i64.wrap (((2 ^ h.signs.length : Nat) : Int) - 1) = ((fullN h : Nat) : Int) := by
    rw [fullN]
    generalize 2 ^ h.signs.length = q at hp hp2
    rw [w64 (by omega) (by omega)]; omega
  simp only [↓aops_nil, ↓aops_go, ↓aops_go0, ↓aops_if, ↓k_cont, ↓k_cont0, g_tt, g_ff, g_tf, g_ft, g_u, ↓apre_nil, ↓apre_if, ↓apre_go, pgo_det, Tag.isCall, popt_some, gp_tt, gp_ff, gp_tf, gp_ft, gp_u, ↓k_draw, opt_some, List.map_cons, List.map_nil, ev, upd_at, ↓x_skip, ↓x_label, ↓x_ret, ↓x_exit, ↓x_seq, ↓x_block, ↓x_ops, ↓x_cond, x_sel_t, x_sel_f, ↓x_draw, ↓q_kseq_n, ↓q_kseq_r, ↓q_kseq_e, ↓q_block_n, ↓q_block_r, ↓q_block_e, ↓q_loop_n, ↓q_loop_r, ↓q_loop_e, ↓l_done, d_mov, d_pick, d_not, d_nilchk, d_nilchk', d_conv, d_add, d_sub, d_mul, d_quo, d_rem, d_shl, d_shr, d_and, d_or, d_andnot, d_eql, d_neq, d_lss, d_leq, d_gtr, d_geq, d_eqb, d_neqb, d_mkfunc, d_load, d_fieldaddr, d_fieldaddr', d_field_t, d_field_f, d_idxaddr, d_idxaddr_g, elemO_some, d_idxaddr_m, d_arraddr, d_arraddr', d_idx_f, d_sub_s, d_sub_g, d_arrsub, d_arrall, d_extract, d_len, d_len_g, d_len_e, d_len_m, d_min, d_build, d_bslice0, d_bs1, d_bs2, d_bsa, d_eqagg, v_mov, v_pick, v_not, v_nilchk, v_conv, v_bin, v_binb, v_eqagg, v_mkfunc, v_load, v_fieldaddr, v_field, v_idxaddr, v_arraddr, v_idx, v_sub, v_arrsub, v_arrall, v_extract, v_len, v_min, v_build, v_bslice, v_lookup, v_call, v_callv, Nat.reduceEqDiff, Nat.reduceBEq, reduceIte, ite_true, ite_false, Bool.false_eq_true, Bool.true_eq_false, if_true, if_false, decide_eq_true_eq, decide_eq_false_iff_not, decide_true, decide_false, Nat.zero_add, Nat.add_zero, Nat.reduceAdd, reduceCtorEq, eq_self, not_true_eq_false, not_false_eq_true, Bool.not_true, Bool.not_false, Nat.reduceMul, List.length_cons, List.length_nil, at_elem, take_f, take_tt, Int.toNat_natCast, Option.some.injEq, Option.bind_some, Int.natCast_nonneg, true_and, and_true, and_self, ↓q_for_n, ↓q_for_r, ↓q_for_e, eI_len, List.length_map, at_obj, obj_box, updH_same, Nat.reduceLeDiff, Nat.zero_le, Nat.le_refl, List.drop_zero, List.drop_succ_cons, List.take_succ_cons, List.take_zero, c_agg, c_int, c_bool, c_slice, c_emp, c_grow, take_f', List.getElem?_cons_zero, u64w (show h.signs.length < 2 ^ 62 by omega), w_shl1 (show h.signs.length < 62 by omega), show ¬ ((h.signs.length : Int) < 0) by omega, hs]
  refine fin_ret 2 (by simp [upd_at]) ⟨_, H, Settle.refl ((Ext.refl H).new hb1 _), ?_, rfl⟩
  simp [upd_at]
theorem signs_full {h : House} (c : Course) : natOf (signsL h c) = fullN h ↔ isTrue h [] c = true := by
  have hl : (signsL h c).length = h.signs.length := by simp [signsL]
  have key : natOf (signsL h c) = fullN h ↔ ∀ i, i < h.signs.length → signAt h (lastOf h c []) i = true := by
    constructor
    · intro he i hi
      have h1 : (natOf (signsL h c)).testBit i = (fullN h).testBit i := by rw [he]
      rw [natOf_bit, fullN, Nat.testBit_two_pow_sub_one] at h1
      have h2 : (signsL h c).getD i false = signAt h (lastOf h c []) i := by simp [signsL, hi]
      rw [h2] at h1; rw [h1]; simp [hi]
    · intro hall
      apply Nat.eq_of_testBit_eq
      intro i
      rw [natOf_bit, fullN, Nat.testBit_two_pow_sub_one]
      by_cases hi : i < h.signs.length
      · have h2 : (signsL h c).getD i false = signAt h (lastOf h c []) i := by simp [signsL, hi]
        rw [h2, hall i hi]; simp [hi]
      · rw [List.getD_eq_getElem?_getD, List.getElem?_eq_none (by omega)]; simp [hi]
  rw [key, isTrue, rightOK, List.all_eq_true]
  constructor
  · intro hall i hi
    have := hall i (by simpa using hi)
    rw [signAt] at this
    rw [signRight]
    simp only [List.not_mem_nil, decide_false, Bool.false_or]
    rw [beq_iff_eq] at this
    rw [this]; simp
  · intro hall i hi
    have := hall i (by simpa using hi)
    rw [signRight] at this
    simp only [List.not_mem_nil, decide_false, Bool.false_or] at this
    rw [signAt, beq_iff_eq]
    simpa using this
end Go.Lift

set_option linter.unusedSimpArgs false
set_option linter.unusedVariables false
namespace Go.Lift
open Go Go.Proofs
def hrsGo (h : House) : Nat → Nat → Nat → List Int
  | 0, _, _ => []
  | k + 1, j, n => ((h.touches.getD j default).lo + ((n % hourN h j : Nat) : Int)) :: hrsGo h k (j + 1) (n / hourN h j)
theorem hrsGo_len (h : House) : ∀ k j n, (hrsGo h k j n).length = k
  | 0, _, _ => rfl
  | k + 1, j, n => by rw [hrsGo, List.length_cons, hrsGo_len h k]
def hrsOf (h : House) (n : Nat) : List Int := hrsGo h h.touches.length 0 n
theorem hours_c (h : House) (hv : HV h) (n : Nat) (hn : n < 2 ^ 62) : Pure Tryz.prog 90 [eH h, i6 n] (.slice (eI (hrsOf h n))) := by
  intro H
  have hm6 := hv.ok.touches
  refine fn_of hmix fc90 (by simp) ?_
  rw [ienv2]
  simp only [go_sem, reduceIte, reduceCtorEq, Nat.reduceEqDiff, Nat.reduceBEq, Nat.reduceAdd, Nat.reduceMul, Nat.reduceLeDiff, ac90, eH]
  refine v_box _ rfl fun b2 hb2 => ?_
  simp only [go_sem, reduceIte, reduceCtorEq, Nat.reduceEqDiff, Nat.reduceBEq, Nat.reduceAdd, Nat.reduceMul, Nat.reduceLeDiff]
  refine x_for h.touches.length (fun j env H1 => Ext H H1 ∧ H1 b2 = some (.box [.slice (h.table.women.map eW), .slice (h.table.pieces.map eP), i6 h.table.wrong, .slice (eI h.sick), i6 h.others, i6 h.last, .slice (h.touches.map eTo), .slice (h.boiled.map eB), .slice (h.signs.map eS)]) ∧ (∃ (out : List Int) (nk : Nat), nk < 2 ^ 62 ∧ out.length = j ∧ hrsOf h n = out ++ hrsGo h (h.touches.length - j) j nk ∧ Grown 1 H H1 (env 5) (eI out) ∧ env 1 = i6 nk) ∧ env 2 = .ptr b2 0 ∧ env 6 = i6 j ∧ env 41 = .any)
    ⟨(Ext.refl H).new hb2 _, updH_same _ _ _, ⟨[], n, hn, rfl, by simp [hrsOf], .inl ⟨by simp [upd_at], rfl⟩, by simp [upd_at]⟩, by simp [upd_at], by simp [upd_at], by simp [upd_at]⟩ ?_
  rintro j env H1 hj ⟨hE, hB, ⟨out, nk, hnk, hol, heq, hG, g1⟩, g2, g6, hN⟩
  by_cases hlt : (j : Int) < (h.touches.length : Int)
  · have hlt' : j < h.touches.length := by omega
    have hget : h.touches.getD j default = h.touches[j] := by simp [hlt']
    obtain ⟨t1, t2, t3⟩ := hv.tim _ (List.getElem_mem hlt')
    have hsz : h.touches[j].hi - h.touches[j].lo + 1 = ((hourN h j : Nat) : Int) := by rw [hourN, hget]; omega
    have hp : 1 ≤ hourN h j := by omega
    have hw1 := w64 (x := h.touches[j].hi - h.touches[j].lo) (by omega) (by omega)
    have hw2 : IntKind.i64.wrap (h.touches[j].hi - h.touches[j].lo + 1) = ((hourN h j : Nat) : Int) := by rw [w64 (by omega) (by omega), hsz]
    have hne : ¬ ((hourN h j : Nat) : Int) = 0 := by omega
    have hrem : (nk : Int).tmod ((hourN h j : Nat) : Int) = ((nk % hourN h j : Nat) : Int) := (Int.ofNat_tmod nk (hourN h j)).symm
    have hquo : (nk : Int).tdiv ((hourN h j : Nat) : Int) = ((nk / hourN h j : Nat) : Int) := (Int.ofNat_tdiv nk (hourN h j)).symm
    have hml : nk % hourN h j < hourN h j := Nat.mod_lt _ hp
    have hdl : nk / hourN h j < 2 ^ 62 := Nat.lt_of_le_of_lt (Nat.div_le_self _ _) hnk
    have hwd : IntKind.i64.wrap ((nk / hourN h j : Nat) : Int) = ((nk / hourN h j : Nat) : Int) := by
      generalize nk / hourN h j = q at hdl
      exact w64 (by omega) (by omega)
    have hwa : IntKind.i64.wrap (h.touches[j].lo + ((nk % hourN h j : Nat) : Int)) = h.touches[j].lo + ((nk % hourN h j : Nat) : Int) := by
      generalize nk % hourN h j = q at hml
      exact w64 (by omega) (by omega)
    simp only [go_sem, reduceIte, reduceCtorEq, Nat.reduceEqDiff, Nat.reduceBEq, Nat.reduceAdd, Nat.reduceMul, Nat.reduceLeDiff, g1, g2, g6, hN, hB, hlt, take_f', List.getElem?_cons_zero, map_get (f := eTo) hlt', eTo]
    refine v_alloc fun b7 hb7 => ?_
    have n27 : b2 ≠ b7 := fun h => by subst h; rw [hB] at hb7; cases hb7
    simp only [go_sem, reduceIte, reduceCtorEq, Nat.reduceEqDiff, Nat.reduceBEq, Nat.reduceAdd, Nat.reduceMul, Nat.reduceLeDiff, g1, g2, g6, hN]
    rw [v_store]
    refine ⟨rfl, rfl, by simp [AV.cells, AV.isCell], _, updH_same _ _ _, by simp, ?_⟩
    have hE7 : ∀ o1 o2, Ext H (updH (updH H1 b7 o1) b7 o2) := fun o1 o2 => (hE.new hb7 _).upd (hE.isNone hb7) _
    have hG7 : ∀ cs o2, Grown 1 H (updH (updH H1 b7 (.box cs)) b7 o2) (env 5) (eI out) := fun cs o2 => (hG.new hb7 (.box cs)).store (updH_same _ _ _) o2
    simp only [go_sem, reduceIte, reduceCtorEq, Nat.reduceEqDiff, Nat.reduceBEq, Nat.reduceAdd, Nat.reduceMul, Nat.reduceLeDiff, g1, g2, g6, hN, placeAt, List.append_nil, List.nil_append, List.drop_nil, take_f', List.getElem?_cons_zero, List.getElem?_cons_succ, hw1, hw2, hne, hrem, hwa]
    refine v_append (hG7 _ _) (hE7 _ _) rfl (eI_good _) (one_good _) (one_cell _) (by simp; omega) (by simp; omega) ?_
    intro v' H2 hg' he' hk'
    have C2 : H2 b2 = some (.box [.slice (h.table.women.map eW), .slice (h.table.pieces.map eP), i6 h.table.wrong, .slice (eI h.sick), i6 h.others, i6 h.last, .slice (h.touches.map eTo), .slice (h.boiled.map eB), .slice (h.signs.map eS)]) := hk'.box (hG7 _ _) (by rw [updH_ne _ _ n27, updH_ne _ _ n27]; exact hB)
    simp only [go_sem, reduceIte, reduceCtorEq, Nat.reduceEqDiff, Nat.reduceBEq, Nat.reduceAdd, Nat.reduceMul, Nat.reduceLeDiff, g1, g2, g6, hN, hne, hquo, hwd, wsucc (show j < 4611686018427387904 by omega), hlt', C2]
    refine ⟨he', out ++ [h.touches[j].lo + ((nk % hourN h j : Nat) : Int)], nk / hourN h j, hdl, by simp [hol], ?_, by rw [eI_app]; exact hg', rfl⟩
    rw [heq, show h.touches.length - j = (h.touches.length - (j + 1)) + 1 by omega, hrsGo, hget, List.append_assoc]; rfl
  · simp only [go_sem, reduceIte, reduceCtorEq, Nat.reduceEqDiff, Nat.reduceBEq, Nat.reduceAdd, Nat.reduceMul, Nat.reduceLeDiff, g1, g2, g6, hN, hB, hlt, take_f', List.getElem?_cons_zero]
    have : j = h.touches.length := by omega
    subst this
    refine fin_ret 4 (by simp [upd_at, hN]) ⟨_, H, ?_, rfl, rfl⟩
    simp only [upd_at, if_true]
    rw [heq, Nat.sub_self, hrsGo, List.append_nil]
    exact hG.weaken hE
theorem eCr_good (l : List Course) : goodEls 2 (l.map eCr) := by
  intro e he; rw [List.mem_map] at he; obtain ⟨x, _, rfl⟩ := he; rfl
theorem eCr_cell (l : List Course) : cellEls (l.map eCr) := by
  intro e he x hx; rw [List.mem_map] at he; obtain ⟨y, _, rfl⟩ := he
  simp only [eCr, List.mem_cons, List.not_mem_nil, or_false] at hx
  rcases hx with rfl | rfl <;> rfl
def rowR (h : House) (j : Nat) (o : List Int) : List Course := (List.range j).map fun n => ⟨o, hrsOf h n⟩
def coursesR (h : House) : List Course := (truthsR h.table).flatMap (rowR h (timesR h h.touches.length))
theorem truthsR_size (t : Table) : (truthsR t).length ≤ 3000 := Nat.le_trans (ownersUpto_len t _) (Nat.min_le_left _ _)
theorem truthsR_own {t : Table} {o : List Int} (ho : o ∈ truthsR t) : o.length = t.pieces.length := by
  simp only [truthsR, ownersUpto, List.mem_filter, List.mem_map] at ho
  obtain ⟨⟨n, _, rfl⟩, _⟩ := ho
  exact nthL_len _ _ _
theorem flat_len (h : House) (T : Nat) : ∀ l : List (List Int), (l.flatMap (rowR h T)).length = l.length * T
  | [] => by simp
  | o :: l => by rw [List.flatMap_cons, List.length_append, flat_len h T l, List.length_cons, Nat.add_mul]; simp [rowR]; omega
theorem coursesR_c (h : House) (hv : HV h) : Pure Tryz.prog 36 [eH h] (eCL (coursesR h)) := by
  intro H
  have hm6 := hv.ok.touches
  have hts := truthsR_size h.table
  have hT : timesR h h.touches.length ≤ 3000 := Nat.min_le_left _ _
  obtain ⟨tr, htr⟩ : ∃ tr, tr = truthsR h.table := ⟨_, rfl⟩
  obtain ⟨T, hTe⟩ : ∃ T, T = timesR h h.touches.length := ⟨_, rfl⟩
  refine fn_of hmix fc36 (by simp) ?_
  rw [ienv1]
  simp only [go_sem, reduceIte, reduceCtorEq, Nat.reduceEqDiff, Nat.reduceBEq, Nat.reduceAdd, Nat.reduceMul, Nat.reduceLeDiff, ac36, eH]
  refine v_box _ rfl fun b1 hb1 => ?_
  simp only [go_sem, reduceIte, reduceCtorEq, Nat.reduceEqDiff, Nat.reduceBEq, Nat.reduceAdd, Nat.reduceMul, Nat.reduceLeDiff]
  refine (truthsR_c h.table hv.ok.sm hv.tab).go ?_
  rw [coursesR, ← htr, ← hTe]
  rw [← htr] at hts
  simp only [go_sem, reduceIte, reduceCtorEq, Nat.reduceEqDiff, Nat.reduceBEq, Nat.reduceAdd, Nat.reduceMul, Nat.reduceLeDiff, eII]
  refine x_for tr.length (fun j env H1 => Ext H H1 ∧ H1 b1 = some (.box [.slice (h.table.women.map eW), .slice (h.table.pieces.map eP), i6 h.table.wrong, .slice (eI h.sick), i6 h.others, i6 h.last, .slice (h.touches.map eTo), .slice (h.boiled.map eB), .slice (h.signs.map eS)]) ∧ Grown 2 H H1 (env 3) (((tr.take j).flatMap (rowR h T)).map eCr) ∧ env 1 = .ptr b1 0 ∧ env 4 = .slice (tr.map fun x => [AV.slice (eI x)]) ∧ env 5 = i6 j ∧ env 34 = .any)
    ⟨(Ext.refl H).new hb1 _, updH_same _ _ _, .inl ⟨by simp [upd_at], rfl⟩, by simp [upd_at], by simp [upd_at], by simp [upd_at], by simp [upd_at]⟩ ?_
  rintro j env H1 hj ⟨hE, hB, hG, g1, g4, g5, hN⟩
  by_cases hlt : (j : Int) < (tr.length : Int)
  rotate_left
  · simp only [go_sem, reduceIte, reduceCtorEq, Nat.reduceEqDiff, Nat.reduceBEq, Nat.reduceAdd, Nat.reduceMul, Nat.reduceLeDiff, g1, g4, g5, hN, hlt]
    have : j = tr.length := by omega
    subst this
    refine fin_ret 2 (by simp [upd_at, hN]) ⟨_, H, ?_, rfl, rfl⟩
    simp only [upd_at, if_true]
    rw [List.take_length] at hG
    exact hG.weaken hE
  have hlt' : j < tr.length := by omega
  simp only [go_sem, reduceIte, reduceCtorEq, Nat.reduceEqDiff, Nat.reduceBEq, Nat.reduceAdd, Nat.reduceMul, Nat.reduceLeDiff, g1, g4, g5, hN, hlt]
  refine x_for T (fun n env H1 => Ext H H1 ∧ H1 b1 = some (.box [.slice (h.table.women.map eW), .slice (h.table.pieces.map eP), i6 h.table.wrong, .slice (eI h.sick), i6 h.others, i6 h.last, .slice (h.touches.map eTo), .slice (h.boiled.map eB), .slice (h.signs.map eS)]) ∧ Grown 2 H H1 (env 3) (((tr.take j).flatMap (rowR h T) ++ rowR h n tr[j]).map eCr) ∧ env 1 = .ptr b1 0 ∧ env 4 = .slice (tr.map fun x => [AV.slice (eI x)]) ∧ env 5 = i6 j ∧ env 6 = i6 n ∧ env 34 = .any)
    ⟨hE, hB, by simpa [upd_at, rowR] using hG, by simp [upd_at, g1], by simp [upd_at, g4], by simp [upd_at, g5], by simp [upd_at], by simp [upd_at, hN]⟩ ?_
  clear hE hB hG g1 g4 g5 hN hlt env H1
  rintro n env H1 hn ⟨hE, hB, hG, g1, g4, g5, g6, hN⟩
  simp only [go_sem, reduceIte, reduceCtorEq, Nat.reduceEqDiff, Nat.reduceBEq, Nat.reduceAdd, Nat.reduceMul, Nat.reduceLeDiff, g1, g4, g5, g6, hN, hB]
  refine (timesR_c h hm6 hv.tim).go ?_
  rw [← hTe]
  by_cases hlt : (n : Int) < (T : Int)
  · have hltn : n < T := by omega
    simp only [go_sem, reduceIte, reduceCtorEq, Nat.reduceEqDiff, Nat.reduceBEq, Nat.reduceAdd, Nat.reduceMul, Nat.reduceLeDiff, g1, g4, g5, g6, hN, hlt, hB, map_get (f := fun x : List Int => [AV.slice (eI x)]) hlt', take_f', List.getElem?_cons_zero]
    refine pgo_call (hours_c h hv n (by omega)) ?_
    have hsz : ((tr.take j).flatMap (rowR h T)).length ≤ 3000 * 3000 := by
      rw [flat_len]
      exact Nat.mul_le_mul (by simp; omega) (by omega)
    have hsr : (rowR h n tr[j]).length = n := by simp [rowR]
    simp only [go_sem, reduceIte, reduceCtorEq, Nat.reduceEqDiff, Nat.reduceBEq, Nat.reduceAdd, Nat.reduceMul, Nat.reduceLeDiff, bc36, Option.map_some, d_bsa]
    refine v_append hG hE rfl (eCr_good _) (eCr_good [⟨tr[j], hrsOf h n⟩]) (eCr_cell [⟨tr[j], hrsOf h n⟩]) (by simp only [List.length_map, List.length_append, hsr, List.length_cons, List.length_nil]; omega) (by simp only [List.length_map, List.length_append, hsr, List.length_cons, List.length_nil]; omega) ?_
    intro v' H2 hg' he' hk'
    simp only [go_sem, reduceIte, reduceCtorEq, Nat.reduceEqDiff, Nat.reduceBEq, Nat.reduceAdd, Nat.reduceMul, Nat.reduceLeDiff, g1, g4, g5, g6, hN, wsucc (show n < 4611686018427387904 by omega), hltn, hk'.box hG hB]
    refine ⟨he', ?_⟩
    have : rowR h (n + 1) tr[j] = rowR h n tr[j] ++ [⟨tr[j], hrsOf h n⟩] := by simp only [rowR, List.range_succ, List.map_append]; rfl
    rw [this, ← List.append_assoc, List.map_append]; exact hg'
  · have : n = T := by omega
    subst this
    simp only [go_sem, reduceIte, reduceCtorEq, Nat.reduceEqDiff, Nat.reduceBEq, Nat.reduceAdd, Nat.reduceMul, Nat.reduceLeDiff, g1, g4, g5, g6, hN, hlt, wsucc (show j < 4611686018427387904 by omega), hlt']
    refine ⟨hE, hB, ?_⟩
    rw [take_snoc hlt', List.flatMap_append]; simpa using hG
theorem coursesR_len {h : House} {c : Course} (hc : c ∈ coursesR h) : CLen h c := by
  simp only [coursesR, List.mem_flatMap, rowR, List.mem_map] at hc
  obtain ⟨o, ho, n, _, rfl⟩ := hc
  exact ⟨truthsR_own ho, hrsGo_len _ _ _ _⟩
theorem coursesR_size (h : House) : (coursesR h).length ≤ 9000000 := by
  rw [coursesR, flat_len]
  exact Nat.mul_le_mul (truthsR_size _) (Nat.min_le_left _ _)
def truthsH (h : House) : List Course := (coursesR h).filter (isTrue h [])
theorem truthsH_c (h : House) (hv : HV h) : Pure Tryz.prog 63 [eH h] (eCL (truthsH h)) := by
  intro H
  have hsg := hv.ok.signs
  have hcs := coursesR_size h
  obtain ⟨cs, hcse⟩ : ∃ cs, cs = coursesR h := ⟨_, rfl⟩
  have hcl : ∀ c ∈ cs, CLen h c := fun c hc => coursesR_len (by rw [← hcse]; exact hc)
  rw [← hcse] at hcs
  refine fn_of hmix fc63 (by simp) ?_
  rw [ienv1]
  simp only [go_sem, reduceIte, reduceCtorEq, Nat.reduceEqDiff, Nat.reduceBEq, Nat.reduceAdd, Nat.reduceMul, Nat.reduceLeDiff, ac63, eH]
  refine v_box _ rfl fun b1 hb1 => ?_
  simp only [go_sem, reduceIte, reduceCtorEq, Nat.reduceEqDiff, Nat.reduceBEq, Nat.reduceAdd, Nat.reduceMul, Nat.reduceLeDiff]
  refine (coursesR_c h hv).go ?_
  rw [truthsH, ← hcse]
  simp only [go_sem, reduceIte, reduceCtorEq, Nat.reduceEqDiff, Nat.reduceBEq, Nat.reduceAdd, Nat.reduceMul, Nat.reduceLeDiff, eCL]
  refine x_for cs.length (fun j env H1 => Ext H H1 ∧ H1 b1 = some (.box [.slice (h.table.women.map eW), .slice (h.table.pieces.map eP), i6 h.table.wrong, .slice (eI h.sick), i6 h.others, i6 h.last, .slice (h.touches.map eTo), .slice (h.boiled.map eB), .slice (h.signs.map eS)]) ∧ Grown 2 H H1 (env 3) (((cs.take j).filter (isTrue h [])).map eCr) ∧ env 1 = .ptr b1 0 ∧ env 4 = .slice (cs.map eCr) ∧ env 5 = i6 j ∧ env 31 = .any)
    ⟨(Ext.refl H).new hb1 _, updH_same _ _ _, .inl ⟨by simp [upd_at], rfl⟩, by simp [upd_at], by simp [upd_at], by simp [upd_at], by simp [upd_at]⟩ ?_
  rintro j env H1 hj ⟨hE, hB, hG, g1, g4, g5, hN⟩
  by_cases hlt : (j : Int) < (cs.length : Int)
  · have hlt' : j < cs.length := by omega
    have hfl : ((cs.take j).filter (isTrue h [])).length ≤ j := Nat.le_trans (List.length_filter_le _ _) (by simp; omega)
    have hd : decide (((natOf (signsL h cs[j]) : Nat) : Int) = ((fullN h : Nat) : Int)) = isTrue h [] cs[j] := by
      rw [Bool.eq_iff_iff, decide_eq_true_eq, ← signs_full]; omega
    simp only [go_sem, reduceIte, reduceCtorEq, Nat.reduceEqDiff, Nat.reduceBEq, Nat.reduceAdd, Nat.reduceMul, Nat.reduceLeDiff, g1, g4, g5, hN, hlt, hB, map_get (f := eCr) hlt', eCr]
    refine pgo_call (rightH_c h hv cs[j] (hcl _ (List.getElem_mem hlt'))) ?_
    simp only [go_sem, reduceIte, reduceCtorEq, Nat.reduceEqDiff, Nat.reduceBEq, Nat.reduceAdd, Nat.reduceMul, Nat.reduceLeDiff, g1, g4, g5, hN, hB]
    refine pgo_call (fullH_c h (by omega)) ?_
    simp only [go_sem, reduceIte, reduceCtorEq, Nat.reduceEqDiff, Nat.reduceBEq, Nat.reduceAdd, Nat.reduceMul, Nat.reduceLeDiff, hd]
    cases hT : isTrue h [] cs[j]
    · simp only [go_sem, reduceIte, reduceCtorEq, Nat.reduceEqDiff, Nat.reduceBEq, Nat.reduceAdd, Nat.reduceMul, Nat.reduceLeDiff, g1, g4, g5, hN, hB, wsucc (show j < 4611686018427387904 by omega), hlt']
      refine ⟨hE, ?_⟩
      rw [take_snoc hlt', List.filter_append]; simpa [List.filter_cons, hT] using hG
    · simp only [go_sem, reduceIte, reduceCtorEq, Nat.reduceEqDiff, Nat.reduceBEq, Nat.reduceAdd, Nat.reduceMul, Nat.reduceLeDiff, g1, g4, g5, hN, map_get (f := eCr) hlt', eCr, d_bsa]
      refine v_append hG hE rfl (eCr_good _) (eCr_good [cs[j]]) (eCr_cell [cs[j]]) (by simp; omega) (by simp; omega) ?_
      intro v' H2 hg' he' hk'
      simp only [go_sem, reduceIte, reduceCtorEq, Nat.reduceEqDiff, Nat.reduceBEq, Nat.reduceAdd, Nat.reduceMul, Nat.reduceLeDiff, g1, g4, g5, hN, wsucc (show j < 4611686018427387904 by omega), hlt']
      refine ⟨he', hk'.box hG hB, ?_⟩
      rw [take_snoc hlt', List.filter_append, List.map_append]
      have : [cs[j]].filter (isTrue h []) = [cs[j]] := by simp [List.filter_cons, hT]
      rw [this]; exact hg'
  · simp only [go_sem, reduceIte, reduceCtorEq, Nat.reduceEqDiff, Nat.reduceBEq, Nat.reduceAdd, Nat.reduceMul, Nat.reduceLeDiff, g1, g4, g5, hN, hlt]
    have : j = cs.length := by omega
    subst this
    refine fin_ret 2 (by simp [upd_at, hN]) ⟨_, H, ?_, rfl, rfl⟩
    simp only [upd_at, if_true]
    rw [List.take_length] at hG
    exact hG.weaken hE
end Go.Lift

set_option linter.unusedSimpArgs false
set_option linter.unusedVariables false
namespace Go.Lift
open Go Go.Proofs
theorem Grown.wk {sz : Nat} {H0 H : AHeap} {v : AV} {es : List (List AV)} (g : Grown sz H0 H v es) : Wk v (.slice es) := fun _ _ _ hr => by
  rcases g with ⟨rfl, rfl⟩ | ⟨b, cap, rfl, _⟩
  · exact Rep.weaken_emp hr
  · exact Rep.weaken_slice hr
end Go.Lift

set_option linter.unusedSimpArgs false
set_option linter.unusedVariables false
namespace Go.Lift
open Go Go.Proofs
theorem enumG_nodup {f : Nat → List Int} (hf : ∀ i, (f i).Nodup) : ∀ (k : Nat) (pre : List Int), (enumG f k pre).Nodup
  | 0, pre => by simp [enumG]
  | k + 1, pre => by
    rw [enumG, List.Nodup, List.pairwise_flatMap]
    refine ⟨fun w _ => enumG_nodup hf k _, ?_⟩
    refine List.Pairwise.imp ?_ (hf pre.length)
    intro a b hab x hx y hy hxy
    subst hxy
    obtain ⟨s1, h1, _⟩ := (mem_enumG f k _ _).1 hx
    obtain ⟨s2, h2, _⟩ := (mem_enumG f k _ _).1 hy
    rw [h1] at h2
    simp at h2
    exact hab h2.1
theorem nodup_filter {α : Type} {l : List α} (p : α → Bool) (h : l.Nodup) : (l.filter p).Nodup := List.Pairwise.filter p h
theorem nodup_ofNat {l : List Nat} (h : l.Nodup) : (l.map Int.ofNat).Nodup := by
  refine List.Pairwise.map Int.ofNat (fun a b hab => ?_) h
  intro hh
  exact hab (Int.ofNat.inj hh)
theorem womenUpto_nodup (ws : List Woman) (marks : List Int) (n : Nat) : (womenUpto ws marks n).Nodup := nodup_ofNat (nodup_filter _ List.nodup_range)
theorem whoIs_nodup (t : Table) (i m : Nat) : (whoIs t i m).Nodup := nodup_ofNat (nodup_filter _ List.nodup_range)
def ownersA (t : Table) : List (List Int) := (enumW (whoseT t) t.pieces.length []).filter (isTruthT t)
theorem ownersA_mem {t : Table} (hc : checkTable t = 0) (o : List Int) : o ∈ ownersA t ↔ isTruthT t o = true := by
  rw [ownersA, List.mem_filter]
  exact ⟨fun h => h.2, fun h => ⟨truth_whose hc h, h⟩⟩
theorem truthsR_mem {t : Table} (hc : checkTable t = 0) (o : List Int) : o ∈ truthsR t ↔ isTruthT t o = true := by
  rw [truthsR_eq hc, List.mem_filter, isTruthT_iff hc, isTruthR, Bool.and_eq_true, decide_eq_true_eq, mem_allO]
  constructor
  · rintro ⟨h1, h2, h3⟩; exact ⟨h1, h3⟩
  · rintro ⟨h1, h2⟩; exact ⟨h1, h1, h2⟩
theorem getD_nodup {L : List (List Int)} (h : ∀ l ∈ L, l.Nodup) (i : Nat) : (L.getD i []).Nodup := by
  rw [List.getD_eq_getElem?_getD]
  cases hi : L[i]? with
  | none => simp
  | some l => exact h l (List.mem_of_getElem? hi)
theorem owners_perm {t : Table} (hc : checkTable t = 0) : (truthsR t).Perm (ownersA t) := by
  refine (List.perm_ext_iff_of_nodup ?_ ?_).2 fun o => ?_
  · rw [truthsR_eq hc, allO, enumO_eq]
    exact nodup_filter _ (enumG_nodup (fun i => womenUpto_nodup _ _ _) _ _)
  · rw [ownersA, enumW_eq]
    refine nodup_filter _ (enumG_nodup (fun i => getD_nodup (fun l hl => ?_) i) _ _)
    simp only [whoseT, List.mem_map] at hl
    obtain ⟨j, _, rfl⟩ := hl
    exact whoIs_nodup _ _ _
  · rw [truthsR_mem hc, ownersA_mem hc]
theorem flat_cons {α β : Type} (f : β → α) (g : β → List α) : ∀ l : List β, (l.flatMap fun y => f y :: g y).Perm (l.map f ++ l.flatMap g)
  | [] => List.Perm.refl _
  | y :: l => by
    simp only [List.flatMap_cons, List.map_cons, List.cons_append]
    refine List.Perm.cons _ ?_
    have h1 := (flat_cons f g l).append_left (g y)
    refine h1.trans ?_
    rw [← List.append_assoc, ← List.append_assoc]
    exact List.perm_append_comm.append_right _
theorem flat_swap {α β γ : Type} (f : α → β → γ) (l2 : List β) : ∀ l1 : List α, (l1.flatMap fun x => l2.map fun y => f x y).Perm (l2.flatMap fun y => l1.map fun x => f x y)
  | [] => by simp
  | x :: l1 => by
    rw [List.flatMap_cons]
    have h := flat_swap f l2 l1
    refine (h.append_left _).trans ?_
    exact (flat_cons (fun y => f x y) (fun y => l1.map fun x => f x y) l2).symm
theorem flat_congr {α β : Type} {f g : α → List β} : ∀ {l : List α}, (∀ a ∈ l, (f a).Perm (g a)) → (l.flatMap f).Perm (l.flatMap g)
  | [], _ => List.Perm.refl _
  | a :: l, h => by
    rw [List.flatMap_cons, List.flatMap_cons]
    exact (h a List.mem_cons_self).append (flat_congr fun b hb => h b (List.mem_cons_of_mem _ hb))
def enS (f : Nat → List Int) : Nat → Nat → List (List Int)
  | 0, _ => [[]]
  | k + 1, j => (f j).flatMap fun w => (enS f k (j + 1)).map fun s => w :: s
theorem enumG_enS (f : Nat → List Int) : ∀ (k : Nat) (pre : List Int), enumG f k pre = (enS f k pre.length).map fun s => pre ++ s
  | 0, pre => by simp [enumG, enS]
  | k + 1, pre => by
    rw [enumG, enS, List.map_flatMap]
    congr 1
    funext w
    rw [enumG_enS f k, List.map_map, List.length_append, List.length_singleton]
    congr 1
    funext s
    simp
theorem hrs_perm (h : House) : ∀ (k j : Nat), (∀ i, j ≤ i → i < j + k → 1 ≤ hourN h i) → ((List.range (prodL (hourN h) j k)).map (hrsGo h k j)).Perm (enS (hoursAt h) k j)
  | 0, j, _ => by simp [prodL, enS, hrsGo]
  | k + 1, j, hp => by
    have ih := hrs_perm h k (j + 1) (fun i h1 h2 => hp i (by omega) (by omega))
    have hk := hp j (by omega) (by omega)
    rw [prodL, Nat.mul_comm, range_mul, List.map_flatMap, enS]
    have e1 : (fun q => ((List.range (hourN h j)).map fun r => q * hourN h j + r).map (hrsGo h (k + 1) j)) = fun q => (List.range (hourN h j)).map fun r : Nat => ((h.touches.getD j default).lo + (r : Int)) :: hrsGo h k (j + 1) q := by
      funext q
      rw [List.map_map]
      apply List.ext_getElem
      · simp
      · intro i h1 h2
        simp only [List.length_map, List.length_range] at h1 h2
        simp only [List.getElem_map, List.getElem_range, Function.comp, hrsGo]
        have e1 : (q * hourN h j + i) / hourN h j = q := by
          rw [Nat.mul_comm, Nat.mul_add_div hk, Nat.div_eq_of_lt h2, Nat.add_zero]
        have e2 : (q * hourN h j + i) % hourN h j = i := by
          rw [Nat.mul_comm, Nat.mul_add_mod, Nat.mod_eq_of_lt h2]
        rw [e1, e2]
    rw [e1]
    refine (flat_swap (fun (q r : Nat) => ((h.touches.getD j default).lo + (r : Int)) :: hrsGo h k (j + 1) q) (List.range (hourN h j)) (List.range (prodL (hourN h) (j + 1) k))).trans ?_
    rw [hoursAt, List.flatMap_map]
    refine flat_congr fun r _ => ?_
    have := ih.map fun s => ((h.touches.getD j default).lo + (r : Int)) :: s
    rw [List.map_map] at this
    exact this
theorem hours_perm (h : House) (hp : ∀ i, i < h.touches.length → 1 ≤ hourN h i) : ((List.range (prodL (hourN h) 0 h.touches.length)).map (hrsOf h)).Perm (enumH h h.touches.length []) := by
  have := hrs_perm h h.touches.length 0 (fun i _ h2 => hp i (by omega))
  rw [enumH_eq, enumG_enS]
  simp only [List.nil_append, List.length_nil, List.map_id']
  exact this
end Go.Lift

set_option linter.unusedSimpArgs false
set_option linter.unusedVariables false
namespace Go.Lift
open Go Go.Proofs
theorem prodL_pos {f : Nat → Nat} : ∀ (k a : Nat), (∀ i, a ≤ i → i < a + k → 1 ≤ f i) → 1 ≤ prodL f a k
  | 0, _, _ => Nat.le_refl _
  | k + 1, a, h => by
    rw [prodL]
    exact Nat.mul_pos (h a (by omega) (by omega)) (prodL_pos k (a + 1) fun i h1 h2 => h i (by omega) (by omega))
theorem timesR_eq {h : House} (hv : HV h) : timesR h h.touches.length = prodL (hourN h) 0 h.touches.length := by
  have h1 := manyH_eq hv
  have h2 := hv.many
  have h3 := prodL_pos (f := womN h.table) h.table.pieces.length 0 fun i _ hi => womN_pos hv.tab i (by omega)
  have h4 : prodL (womN h.table) 0 h.table.pieces.length * prodL (hourN h) 0 h.touches.length ≤ 2000 := by omega
  have h5 : prodL (hourN h) 0 h.touches.length ≤ prodL (womN h.table) 0 h.table.pieces.length * prodL (hourN h) 0 h.touches.length := Nat.le_mul_of_pos_left _ h3
  rw [timesR]; omega
theorem flat_filter {α β : Type} (p : α → Bool) (f : α → List β) : ∀ l : List α, l.flatMap (fun a => if p a = true then f a else []) = (l.filter p).flatMap f
  | [] => rfl
  | a :: l => by
    rw [List.flatMap_cons, List.filter_cons, flat_filter p f l]
    cases p a <;> simp
theorem courses_perm {h : House} (hv : HV h) : (coursesR h).Perm (allC h) := by
  have e1 : allC h = (ownersA h.table).flatMap fun o => (enumH h h.touches.length []).map fun hs => (⟨o, hs⟩ : Course) := by
    rw [allC, ownersA, ← flat_filter]; rfl
  rw [e1, coursesR]
  refine ((owners_perm hv.tab).flatMap_right _).trans (flat_congr fun o _ => ?_)
  rw [rowR, timesR_eq hv]
  have := (hours_perm h (hourN_pos hv)).map fun hs => (⟨o, hs⟩ : Course)
  rw [List.map_map] at this
  exact this
theorem truths_perm {h : House} (hv : HV h) : (truthsH h).Perm (truH h []) := (courses_perm hv).filter _
theorem perm_nil {α : Type} {a b : List α} (h : a.Perm b) : a = [] ↔ b = [] := by
  rw [← List.length_eq_zero_iff, ← List.length_eq_zero_iff, h.length_eq]
end Go.Lift

set_option linter.unusedSimpArgs false
set_option linter.unusedVariables false
namespace Go.Lift
open Go Go.Proofs
theorem thin_sm {h : House} (c1 : thinH h = true) : HSm h := by
  rw [thinH, Bool.and_eq_true] at c1; exact short_sm c1.1
theorem hour0 {h : House} (hv : HV h) : hourOK h 0 = true := by
  obtain ⟨n, h1, h2⟩ := hv.ok.last
  simp only [hourOK, h1, decide_eq_true_eq]; omega
end Go.Lift

set_option linter.unusedSimpArgs false
set_option linter.unusedVariables false
namespace Go.Lift
open Go Go.Proofs
theorem before_irr : ∀ a : List Int, beforeL a a = false
  | [] => rfl
  | a :: xs => by rw [beforeL, if_pos rfl, before_irr xs]
theorem before_trans : ∀ a b c : List Int, beforeL a b = true → beforeL b c = true → beforeL a c = true
  | [], b, [], _, h2 => by
    cases b with
    | nil => exact h2
    | cons b bs => simp [beforeL] at h2
  | [], _, c :: cs, _, _ => by simp [beforeL]
  | a :: xs, [], _, h1, _ => by simp [beforeL] at h1
  | a :: xs, b :: bs, [], _, h2 => by simp [beforeL] at h2
  | a :: xs, b :: bs, c :: cs, h1, h2 => by
    simp only [beforeL] at h1 h2 ⊢
    by_cases e1 : a = b
    · subst e1
      rw [if_pos rfl] at h1
      by_cases e2 : a = c
      · rw [if_pos e2] at h2 ⊢; exact before_trans xs bs cs h1 h2
      · rw [if_neg e2] at h2 ⊢; exact h2
    · rw [if_neg e1, decide_eq_true_eq] at h1
      by_cases e2 : b = c
      · subst e2; rw [if_neg e1]; exact decide_eq_true h1
      · rw [if_neg e2, decide_eq_true_eq] at h2
        rw [if_neg (by omega)]; exact decide_eq_true (by omega)
theorem before_pre : ∀ (p a b : List Int), beforeL (p ++ a) (p ++ b) = beforeL a b
  | [], _, _ => rfl
  | x :: p, a, b => by rw [List.cons_append, List.cons_append, beforeL, if_pos rfl, before_pre p]
theorem shorter_iff (a b : List Int) : shorterL a b = true ↔ a.length < b.length ∨ (a.length = b.length ∧ beforeL a b = true) := by
  simp [shorterL]
theorem shorter_irr (a : List Int) : shorterL a a = false := by
  rw [Bool.eq_false_iff, Ne, shorter_iff, before_irr]
  rintro (h | h)
  · omega
  · cases h.2
theorem shorter_trans {a b c : List Int} (h1 : shorterL a b = true) (h2 : shorterL b c = true) : shorterL a c = true := by
  rw [shorter_iff] at *
  rcases h1 with h1 | h1 <;> rcases h2 with h2 | h2
  · exact .inl (by omega)
  · exact .inl (by omega)
  · exact .inl (by omega)
  · exact .inr ⟨by omega, before_trans _ _ _ h1.2 h2.2⟩
theorem shorter_asym {a b : List Int} (h : shorterL a b = true) : shorterL b a = false := by
  rw [Bool.eq_false_iff]
  intro h2
  have := shorter_trans h h2
  rw [shorter_irr] at this; cases this
/-- The least one that will do, of some lists. -/
structure IsMin (ok : List Int → Bool) (D : List Int → Prop) (x : List Int) : Prop where
  dom : D x
  good : ok x = true
  least : ∀ y, D y → ok y = true → shorterL y x = false
theorem IsMin.congr {ok ok' : List Int → Bool} {D D' : List Int → Prop} {x : List Int} (h : IsMin ok D x) (hd : ∀ y, D y ↔ D' y) (hok : ∀ y, D y → ok y = ok' y) : IsMin ok' D' x :=
  ⟨(hd x).1 h.dom, by rw [← hok x h.dom]; exact h.good, fun y hy ho => h.least y ((hd y).2 hy) (by rw [hok y ((hd y).2 hy)]; exact ho)⟩
theorem find_min {ok : List Int → Bool} {l : List (List Int)} (hs : l.Pairwise fun a b => shorterL a b = true) {x : List Int} (h : l.find? ok = some x) : IsMin ok (· ∈ l) x := by
  obtain ⟨h1, l1, bs, rfl, h2⟩ := List.find?_eq_some_iff_append.1 h
  refine ⟨by simp, h1, fun y hy ho => ?_⟩
  rw [List.pairwise_append] at hs
  rcases List.mem_append.1 hy with hy | hy
  · have := h2 y hy; rw [ho] at this; cases this
  · rcases List.mem_cons.1 hy with rfl | hy
    · exact shorter_irr _
    · exact shorter_asym ((List.pairwise_cons.1 hs.2.1).1 y hy)
theorem tryAll_find {ok : List Int → Bool} : ∀ {l : List (List Int)} {x : List Int} (old : List Int), l.find? ok = some x → tryAll ok old l = x
  | [], x, _, h => by cases h
  | y :: l, x, old, h => by
    rw [tryAll]
    rw [List.find?_cons] at h
    cases hy : ok y
    · rw [hy] at h; simp only [Bool.false_eq_true, if_false]; exact tryAll_find y h
    · rw [hy] at h; cases h; rfl
theorem any_find {α : Type} {ok : α → Bool} {l : List α} (h : l.any ok = true) : ∃ x, l.find? ok = some x := by
  cases hf : l.find? ok with
  | some x => exact ⟨x, rfl⟩
  | none =>
    rw [List.any_eq_true] at h
    obtain ⟨x, hx, ho⟩ := h
    exact absurd ho (List.find?_eq_none.1 hf x hx)
def Inc (n : Nat) (x : List Int) : Prop := x.Pairwise (· < ·) ∧ ∀ a ∈ x, ∃ i : Nat, a = (i : Int) ∧ i < n
def IncF (n : Nat) : Nat → List Int → Prop
  | _, [] => True
  | f, a :: l => ∃ i : Nat, a = (i : Int) ∧ f ≤ i ∧ i < n ∧ IncF n (i + 1) l
theorem IncF.room {n : Nat} : ∀ {l : List Int} {f : Nat}, IncF n f l → l ≠ [] → f + l.length ≤ n
  | [], _, _, h => absurd rfl h
  | a :: l, f, h, _ => by
    obtain ⟨i, rfl, h1, h2, h3⟩ := h
    cases l with
    | nil => simp; omega
    | cons b l => have := h3.room (by simp); simp only [List.length_cons] at this ⊢; omega
theorem incF_iff {n : Nat} : ∀ {l : List Int} {f : Nat}, IncF n f l ↔ l.Pairwise (· < ·) ∧ ∀ a ∈ l, ∃ i : Nat, a = (i : Int) ∧ f ≤ i ∧ i < n
  | [], f => by simp [IncF]
  | a :: l, f => by
    rw [List.pairwise_cons]
    constructor
    · rintro ⟨i, rfl, h1, h2, h3⟩
      obtain ⟨k1, k2⟩ := (incF_iff (l := l) (f := i + 1)).1 h3
      refine ⟨⟨fun b hb => ?_, k1⟩, fun b hb => ?_⟩
      · obtain ⟨j, rfl, h4, h5⟩ := k2 b hb; omega
      · rcases List.mem_cons.1 hb with rfl | hb
        · exact ⟨i, rfl, h1, h2⟩
        · obtain ⟨j, rfl, h4, h5⟩ := k2 b hb; exact ⟨j, rfl, by omega, h5⟩
    · rintro ⟨⟨h1, h2⟩, h3⟩
      obtain ⟨i, rfl, h4, h5⟩ := h3 a List.mem_cons_self
      refine ⟨i, rfl, h4, h5, incF_iff.2 ⟨h2, fun b hb => ?_⟩⟩
      obtain ⟨j, rfl, h6, h7⟩ := h3 b (List.mem_cons_of_mem _ hb)
      have := h1 _ hb
      exact ⟨j, rfl, by omega, h7⟩
theorem inc_incF {n : Nat} {l : List Int} : Inc n l ↔ IncF n 0 l := by
  rw [incF_iff, Inc]; simp
theorem mem_combos (n : Nat) : ∀ (k f : Nat) (pre x : List Int), x ∈ combos n k pre f ↔ ∃ s, x = pre ++ s ∧ s.length = k ∧ IncF n f s
  | 0, f, pre, x => by
    simp only [combos, List.mem_singleton]
    constructor
    · rintro rfl; exact ⟨[], by simp, rfl, trivial⟩
    · rintro ⟨s, rfl, h, _⟩; rw [List.length_eq_zero_iff.1 h]; simp
  | k + 1, f, pre, x => by
    simp only [combos, List.mem_flatMap, List.mem_range]
    constructor
    · rintro ⟨j, hj, hx⟩
      obtain ⟨s, rfl, h1, h2⟩ := (mem_combos n k _ _ _).1 hx
      exact ⟨((f + j : Nat) : Int) :: s, by simp, by simp [h1], f + j, rfl, by omega, by omega, h2⟩
    · rintro ⟨s, rfl, h1, h2⟩
      cases s with
      | nil => simp at h1
      | cons a s =>
        obtain ⟨i, rfl, h3, h4, h5⟩ := h2
        simp only [List.length_cons] at h1
        have hroom : i + k < n := by
          rcases Nat.eq_zero_or_pos s.length with h | h
          · omega
          · have := h5.room (List.length_pos_iff.1 h); omega
        refine ⟨i - f, by omega, (mem_combos n k _ _ _).2 ⟨s, ?_, by omega, ?_⟩⟩
        · rw [show f + (i - f) = i by omega]; simp
        · rw [show f + (i - f) = i by omega]; exact h5
theorem combos_sorted (n : Nat) : ∀ (k f : Nat) (pre : List Int), (combos n k pre f).Pairwise fun a b => beforeL a b = true
  | 0, _, _ => by simp [combos]
  | k + 1, f, pre => by
    rw [combos, List.pairwise_flatMap]
    refine ⟨fun j _ => combos_sorted n k _ _, ?_⟩
    refine List.Pairwise.imp ?_ List.pairwise_lt_range
    intro a b hab x hx y hy
    obtain ⟨s1, rfl, _⟩ := (mem_combos n k _ _ _).1 hx
    obtain ⟨s2, rfl, _⟩ := (mem_combos n k _ _ _).1 hy
    rw [List.append_assoc, List.append_assoc, before_pre]
    simp only [List.singleton_append, beforeL]
    rw [if_neg (by omega)]; exact decide_eq_true (by omega)
def combosAll (n : Nat) : List (List Int) := (List.range (n + 1)).flatMap fun k => combos n k [] 0
theorem by_length {f : Nat → List (List Int)} {m : Nat} (h1 : ∀ k, (f k).Pairwise fun a b => beforeL a b = true) (h2 : ∀ k, ∀ x ∈ f k, x.length = k) : ((List.range m).flatMap f).Pairwise fun a b => shorterL a b = true := by
  rw [List.pairwise_flatMap]
  refine ⟨fun k _ => ?_, ?_⟩
  · refine List.Pairwise.imp_of_mem ?_ (h1 k)
    intro a b ha hb hab
    rw [shorter_iff]
    exact .inr ⟨by rw [h2 k a ha, h2 k b hb], hab⟩
  · refine List.Pairwise.imp ?_ List.pairwise_lt_range
    intro a b hab x hx y hy
    rw [shorter_iff]
    exact .inl (by rw [h2 a x hx, h2 b y hy]; exact hab)
theorem combosAll_sorted (n : Nat) : (combosAll n).Pairwise fun a b => shorterL a b = true :=
  by_length (fun k => combos_sorted n k 0 []) fun k x hx => by
    obtain ⟨s, rfl, h, _⟩ := (mem_combos n k 0 [] x).1 hx
    simpa using h
theorem mem_combosAll {n : Nat} {x : List Int} : x ∈ combosAll n ↔ Inc n x := by
  simp only [combosAll, List.mem_flatMap, List.mem_range, mem_combos, inc_incF, List.nil_append]
  constructor
  · rintro ⟨k, _, s, rfl, _, h⟩; exact h
  · intro h
    refine ⟨x.length, ?_, x, rfl, rfl, h⟩
    rcases Nat.eq_zero_or_pos x.length with h0 | h0
    · omega
    · have := h.room (List.length_pos_iff.1 h0); omega
theorem tryAll_min {ok : List Int → Bool} {n : Nat} {x : List Int} (hx : Inc n x) (ho : ok x = true) : IsMin ok (Inc n) (tryAll ok [] (combosAll n)) := by
  obtain ⟨y, hy⟩ := any_find (ok := ok) (l := combosAll n) (List.any_eq_true.2 ⟨x, mem_combosAll.2 hx, ho⟩)
  rw [tryAll_find [] hy]
  exact (find_min (combosAll_sorted n) hy).congr (fun y => mem_combosAll) (fun _ _ => rfl)
theorem bitsUpto_sorted (m p : Nat) : (bitsUpto m p).Pairwise (· < ·) := by
  rw [bitsUpto]
  refine List.Pairwise.map Int.ofNat (fun a b hab => ?_) (List.Pairwise.filter _ List.pairwise_lt_range)
  exact Int.ofNat_lt.2 hab
theorem bits_inc {n m : Nat} (hn : n ≤ 62) (hm : m < 2 ^ n) : Inc n (bitsL m) := by
  rw [bitsL_of hn hm]
  refine ⟨bitsUpto_sorted m n, fun a ha => ?_⟩
  simp only [bitsUpto, List.mem_map, List.mem_filter, List.mem_range] at ha
  obtain ⟨i, h, rfl⟩ := ha
  exact ⟨i, rfl, h.1⟩
end Go.Lift

set_option linter.unusedSimpArgs false
set_option linter.unusedVariables false
namespace Go.Lift
open Go Go.Proofs
/-- The house with other signs. -/
def reS (h : House) (ss : List Sign) : House := { h with signs := ss }
def sgn (bs : List Bool) (s : Sign) : Bool := bs.getD s.thing.toNat false == s.carries
theorem enumH_reS (h : House) (ss : List Sign) : ∀ (k : Nat) (pre : List Int), enumH (reS h ss) k pre = enumH h k pre
  | 0, _ => rfl
  | k + 1, pre => by
    simp only [enumH]
    congr 1
    funext n
    exact enumH_reS h ss k _
theorem allC_reS (h : House) (ss : List Sign) : allC (reS h ss) = allC h := by
  unfold allC
  congr 1
  funext o
  unfold coursesOf
  rw [enumH_reS]; rfl
theorem timesUpto_reS (h : House) (ss : List Sign) (m : Int) : ∀ j, timesUpto (reS h ss) m j = timesUpto h m j
  | 0 => rfl
  | j + 1 => by simp only [timesUpto, timesUpto_reS h ss m j]; rfl
theorem check_zero (h : House) : checkHouse h = 0 ↔ ¬ bigH h ∧ askErr h.table = 0 ∧ ¬ badH h ∧ allH h ∧ ¬ 2000 < manyH h := by
  unfold checkHouse
  by_cases h1 : bigH h
  · simp [h1]
  by_cases h2 : askErr h.table = 0
  rotate_left
  · simp [h1, h2]
  by_cases h3 : badH h
  · simp [h1, h2, h3]
  by_cases h4 : allH h
  rotate_left
  · simp [h1, h2, h3, h4]
  by_cases h5 : 2000 < manyH h
  · simp [h1, h2, h3, h4, h5]
  · simp [h1, h2, h3, h4, h5]
theorem check_reS {h : House} (hc : checkHouse h = 0) {ss : List Sign} (h5 : ss.length ≤ 5) (ht : ∀ s ∈ ss, thingOK h s.thing = true) : checkHouse (reS h ss) = 0 := by
  rw [check_zero] at hc ⊢
  obtain ⟨h1, h2, h3, h4, h6⟩ := hc
  refine ⟨?_, h2, h3, ⟨h4.1, h4.2.1, List.all_eq_true.2 ht⟩, ?_⟩
  · rintro (k | k | k | k | k)
    · exact h1 (.inl k)
    · exact h1 (.inr (.inl k))
    · exact h1 (.inr (.inr (.inl k)))
    · exact h1 (.inr (.inr (.inr (.inl k))))
    · have : (reS h ss).signs.length = ss.length := rfl
      omega
  · have : manyH (reS h ss) = manyH h := timesUpto_reS h ss _ _
    rw [this]; exact h6
theorem range_all {α : Type} (d : α) (l : List α) (p : α → Bool) : ((List.range l.length).all fun i => p (l.getD i d)) = l.all p := by
  rw [Bool.eq_iff_iff, List.all_eq_true, List.all_eq_true]
  constructor
  · intro h x hx
    obtain ⟨i, hi, rfl⟩ := List.getElem_of_mem hx
    have := h i (List.mem_range.2 hi)
    simpa [List.getD_eq_getElem?_getD, hi] using this
  · intro h i hi
    have hi' := List.mem_range.1 hi
    have : l.getD i d = l[i] := by simp [List.getD_eq_getElem?_getD, hi']
    rw [this]; exact h _ (List.getElem_mem _)
theorem isTrue_nil (h : House) (c : Course) : isTrue h [] c = h.signs.all (sgn (lastOf h c [])) := by
  rw [← range_all default, isTrue, rightOK]
  congr 1
  funext i
  unfold signRight sgn
  generalize (lastOf h c []).getD _ false = a
  generalize Sign.carries _ = b
  cases a <;> cases b <;> simp
theorem allC_ne {h : House} (hv : HV h) : ∃ c, c ∈ allC h := by
  have h1 : truthsT h.table ≠ [] := by
    intro h0
    have := hv.ask
    rw [askErr, if_pos hv.tab, if_pos h0] at this; cases this
  have h2 : truthsR h.table ≠ [] := fun h0 => h1 ((truths_nil hv.tab).1 h0)
  obtain ⟨o, l, ho⟩ := List.exists_cons_of_ne_nil h2
  have h3 : isTruthT h.table o = true := (truthsR_mem hv.tab o).1 (by rw [ho]; simp)
  refine ⟨⟨o, h.touches.map (·.lo)⟩, (mem_allC hv.tab _).2 ?_⟩
  rw [courseOK, h3, hoursOK]
  simp only [Bool.true_and, List.length_map, decide_true, List.all_eq_true, List.mem_range, decide_eq_true_eq]
  intro i hi
  have := hv.tim _ (List.getElem_mem hi)
  simp [List.getD_eq_getElem?_getD, hi]; omega
theorem mem_bitsL (m i : Nat) : (i : Int) ∈ bitsL m ↔ i < 62 ∧ m.testBit i = true := by
  simp only [bitsL, bitsUpto, List.mem_map, List.mem_filter, List.mem_range]
  constructor
  · rintro ⟨j, hj, e⟩
    have : j = i := by
      have : ((j : Nat) : Int) = (i : Int) := e
      omega
    subst this; exact hj
  · intro hi; exact ⟨i, hi, rfl⟩
end Go.Lift

set_option linter.unusedSimpArgs false
set_option linter.unusedVariables false
namespace Go.Lift
open Go Go.Proofs
def Zer (c : List Bool) : Prop := ∀ i, c.getD i false = false
theorem getD_set (c : List Bool) (k i : Nat) (b : Bool) (hk : k < c.length) : (c.set k b).getD i false = if i = k then b else c.getD i false := by
  simp only [List.getD_eq_getElem?_getD, List.getElem?_set, hk, if_true]
  by_cases h : k = i
  · subst h; simp
  · rw [if_neg h, if_neg (fun e => h e.symm)]
theorem startOf_get (h : House) (o : List Int) : ∀ j, j ≤ 10 → ∀ i, (startOf h o j).getD i false = (decide (i < j) && decide (o.getD i 0 ∈ h.sick))
  | 0, _, i => by
    simp only [startOf, List.range_zero, List.foldl_nil, List.getD_eq_getElem?_getD, List.getElem?_replicate]
    split <;> simp
  | j + 1, hj, i => by
    have e : startOf h o (j + 1) = sickAt h o (startOf h o j) j := range_fold _ _ _
    rw [e, sickAt, getD_set _ _ _ _ (by rw [startOf_len]; omega), startOf_get h o j (by omega)]
    by_cases hi : i = j
    · subst hi; simp
    · rw [if_neg hi]
      by_cases h1 : i < j
      · simp [h1, show i < j + 1 by omega]
      · simp [h1, show ¬ i < j + 1 by omega]
theorem boilOf_get (keys : List (Int × Int)) (k : Int) (c : List Bool) (hc : c.length = 10) : ∀ j, j ≤ 10 → ∀ i, (boilOf keys k c j).getD i false = (c.getD i false && !(decide (i < j) && decide (((i : Int), k) ∈ keys)))
  | 0, _, i => by simp [boilOf]
  | j + 1, hj, i => by
    have e : boilOf keys k c (j + 1) = boilAt keys k (boilOf keys k c j) j := range_fold _ _ _
    have ih := boilOf_get keys k c hc j (by omega)
    rw [e, boilAt]
    by_cases hk : ((j : Int), k) ∈ keys
    · rw [if_pos hk, getD_set _ _ _ _ (by rw [boilOf_len keys k c j hc]; omega), ih]
      by_cases hi : i = j
      · subst hi; simp [hk]
      · rw [if_neg hi]
        by_cases h1 : i < j
        · simp [h1, show i < j + 1 by omega]
        · simp [h1, show ¬ i < j + 1 by omega]
    · rw [if_neg hk, ih]
      by_cases hi : i = j
      · subst hi; simp [hk]
      · by_cases h1 : i < j
        · simp [h1, show i < j + 1 by omega]
        · simp [h1, show ¬ i < j + 1 by omega]
def tA (h : House) (i : Nat) : Nat := (h.touches.getD i default).a.toNat
def tB (h : House) (i : Nat) : Nat := (h.touches.getD i default).b.toNat
theorem touchAt_get (h : House) (hrs : List Int) (k : Int) (c : List Bool) (i n : Nat) (ha : tA h i < c.length) (hb : tB h i < c.length) :
    (touchAt h hrs k c i).getD n false = (c.getD n false || (decide (hrs.getD i 0 = k) && (c.getD (tA h i) false || c.getD (tB h i) false) && (decide (n = tA h i) || decide (n = tB h i)))) := by
  have e : touchAt h hrs k c i = if hrs.getD i 0 = k ∧ (c.getD (tA h i) false || c.getD (tB h i) false) = true then (c.set (tA h i) true).set (tB h i) true else c := rfl
  rw [e]
  by_cases hc : hrs.getD i 0 = k ∧ (c.getD (tA h i) false || c.getD (tB h i) false) = true
  · rw [if_pos hc, getD_set _ _ _ _ (by rw [List.length_set]; exact hb), getD_set _ _ _ _ ha, hc.2, decide_eq_true hc.1]
    by_cases h1 : n = tB h i
    · simp [h1]
    · by_cases h2 : n = tA h i
      · simp [h1, h2]
      · simp [h1, h2]
  · rw [if_neg hc]
    by_cases h1 : hrs.getD i 0 = k
    · have h2 : (c.getD (tA h i) false || c.getD (tB h i) false) = false := by
        rw [Bool.eq_false_iff]; exact fun h2 => hc ⟨h1, h2⟩
      rw [h2]; simp
    · rw [decide_eq_false h1]; simp
theorem tAB {h : House} (hk : HOK h) {i : Nat} (hi : i < h.touches.length) : tA h i < 10 ∧ tB h i < 10 := by
  obtain ⟨a, b, h1, h2, h3, h4⟩ := hk.touch _ (List.getElem_mem hi)
  have e : h.touches.getD i default = h.touches[i] := by simp [List.getD_eq_getElem?_getD, hi]
  rw [tA, tB, e, h1, h2]
  exact ⟨by omega, by omega⟩
theorem zer_touch {h : House} (hk : HOK h) {hrs : List Int} {k : Int} {c : List Bool} (hc : c.length = 10) (hz : Zer c) : ∀ j, j ≤ h.touches.length → Zer (touchOf h hrs k c j)
  | 0, _ => hz
  | j + 1, hj => fun n => by
    have e : touchOf h hrs k c (j + 1) = touchAt h hrs k (touchOf h hrs k c j) j := range_fold _ _ _
    have hab := tAB hk (show j < h.touches.length by omega)
    have hl := touchOf_len h hrs k c j hc
    have ih := zer_touch hk hc hz (hrs := hrs) (k := k) j (by omega)
    rw [e, touchAt_get _ _ _ _ _ _ (by omega) (by omega), ih, ih, ih]; simp
theorem hoursOf_succ (h : House) (o hrs : List Int) (keys : List (Int × Int)) (j : Nat) : hoursOf h o hrs keys (j + 1) = hourAt h hrs keys (hoursOf h o hrs keys j) j := range_fold _ _ _
theorem zer_boil {h : House} (hk : HOK h) {o hrs : List Int} {keys : List (Int × Int)} {k : Nat} (hb : ∀ i, (hoursOf h o hrs keys k).getD i false = true → i < nT h ∧ ((i : Int), (k : Int)) ∈ keys) : Zer (hoursOf h o hrs keys (k + 1)) := by
  have hl := hoursOf_len h o hrs keys k
  rw [hoursOf_succ, hourAt]
  refine zer_touch hk (boilOf_len _ _ _ _ hl) (fun i => ?_) _ (Nat.le_refl _)
  rw [boilOf_get _ _ _ hl _ (nT_le hk)]
  cases hi : (hoursOf h o hrs keys k).getD i false
  · rfl
  · obtain ⟨h1, h2⟩ := hb i hi
    rw [decide_eq_true h1, decide_eq_true h2]; rfl
theorem zer_more {h : House} (hk : HOK h) {o hrs : List Int} {keys : List (Int × Int)} {k : Nat} (hz : Zer (hoursOf h o hrs keys k)) : ∀ m, Zer (hoursOf h o hrs keys (k + m))
  | 0 => hz
  | m + 1 => zer_boil hk fun i hi => by
    have := zer_more hk hz m i
    rw [show (hoursOf h o hrs keys (k.add m)).getD i false = (hoursOf h o hrs keys (k + m)).getD i false from rfl, this] at hi; cases hi
theorem zer_play {h : House} (hk : HOK h) {o hrs : List Int} {keys : List (Int × Int)} {k : Nat} (hkl : k ≤ h.last.toNat + 1) (hz : Zer (hoursOf h o hrs keys k)) : Zer (playOf h o hrs keys) := by
  obtain ⟨m, hm⟩ := Nat.exists_eq_add_of_le hkl
  rw [playOf, hm]; exact zer_more hk hz m
theorem touch_lt {h : House} (hc : checkHouse h = 0) (hk : HOK h) {i : Nat} (hi : i < h.touches.length) : tA h i < nT h ∧ tB h i < nT h := by
  have h4 := (List.all_eq_true.1 ((check_zero h).1 hc).2.2.2.1.1) _ (List.getElem_mem hi)
  simp only [touchOK, Bool.and_eq_true] at h4
  have ha := h4.1.1.1.1.1
  have hb := h4.1.1.1.1.2
  have hn := nT_le hk
  have e : h.touches.getD i default = h.touches[i] := by simp [List.getD_eq_getElem?_getD, hi]
  simp only [thingOK, thingsW_ok hk, decide_eq_true_eq, w64 (x := (nT h : Int) - 1) (by omega) (by omega)] at ha hb
  rw [tA, tB, e]; omega
theorem things_sub {h : House} (hc : checkHouse h = 0) (hk : HOK h) (o hrs : List Int) (keys : List (Int × Int)) : ∀ j i, (hoursOf h o hrs keys j).getD i false = true → i < nT h
  | 0, i, hi => by
    have hp := hk.pcs
    have : hoursOf h o hrs keys 0 = startOf h o h.table.pieces.length := rfl
    rw [this, startOf_get _ _ _ (by omega), Bool.and_eq_true, decide_eq_true_eq] at hi
    have := hi.1
    unfold nT; omega
  | j + 1, i, hi => by
    have hl := hoursOf_len h o hrs keys j
    have ih := things_sub hc hk o hrs keys j
    rw [hoursOf_succ, hourAt] at hi
    have : ∀ m, m ≤ h.touches.length → ∀ i, (touchOf h hrs j (boilOf keys j (hoursOf h o hrs keys j) (nT h)) m).getD i false = true → i < nT h := by
      intro m
      induction m with
      | zero =>
        intro _ i hi
        have e : touchOf h hrs j (boilOf keys j (hoursOf h o hrs keys j) (nT h)) 0 = boilOf keys j (hoursOf h o hrs keys j) (nT h) := rfl
        rw [e, boilOf_get _ _ _ hl _ (nT_le hk), Bool.and_eq_true] at hi
        exact ih i hi.1
      | succ m imh =>
        intro hm i hi
        have e : touchOf h hrs j (boilOf keys j (hoursOf h o hrs keys j) (nT h)) (m + 1) = touchAt h hrs j (touchOf h hrs j (boilOf keys j (hoursOf h o hrs keys j) (nT h)) m) m := range_fold _ _ _
        have hab := tAB hk (show m < h.touches.length by omega)
        have hlt := touch_lt hc hk (show m < h.touches.length by omega)
        have hl2 := touchOf_len h hrs j _ m (boilOf_len keys j _ (nT h) hl)
        rw [e, touchAt_get _ _ _ _ _ _ (by omega) (by omega)] at hi
        simp only [Bool.or_eq_true, Bool.and_eq_true, decide_eq_true_eq] at hi
        rcases hi with hi | ⟨_, rfl | rfl⟩
        · exact imh (by omega) i hi
        · exact hlt.1
        · exact hlt.2
    exact this _ (Nat.le_refl _) i hi
theorem safe_zer {h : House} {c : Course} {more : List Boiling} (hz : Zer (lastOf h c more)) : safeC h more c = true := by
  rw [safeC, List.all_eq_true]
  intro i _
  rw [safeAt, hz i]; rfl
theorem safe_iff (h : House) (more : List Boiling) (c : Course) : safeC h more c = true ↔ ∀ i, i < h.table.pieces.length → (lastOf h c more).getD i false = true → (pad7 c.owners).getD i 0 ∈ h.sick := by
  rw [safeC, List.all_eq_true]
  constructor
  · intro hall i hi ht
    have := hall i (List.mem_range.2 hi)
    rw [safeAt, ht] at this
    simpa using this
  · intro hall i hi
    rw [safeAt]
    cases ht : (lastOf h c more).getD i false
    · rfl
    · rw [decide_eq_true (hall i (List.mem_range.1 hi) ht)]; rfl
theorem safeP_iff (h : House) (more : List Boiling) : safeP h more = true ↔ ∀ c ∈ truH h [], safeC h more c = true := by
  rw [safeP, List.all_eq_true]
/-- All that is boiled in an hour keeps all safe. -/
theorem boil_all {h : House} (hc : checkHouse h = 0) (hk : HOK h) {k : Nat} (hkl : (k : Int) ≤ h.last) {l : List Int} (hl : ∀ i, i < nT h → (i : Int) ∈ l) (c : Course) : safeC h (atOf l k) c = true := by
  refine safe_zer (zer_play hk (k := k + 1) (by omega) (zer_boil hk fun i hi => ?_))
  have hi := things_sub hc hk _ _ _ _ i hi
  refine ⟨hi, ?_⟩
  simp only [List.map_append, List.mem_append, atOf, List.map_map, List.mem_map]
  exact .inr ⟨(i : Int), hl i hi, rfl⟩
end Go.Lift

set_option linter.unusedSimpArgs false
set_option linter.unusedVariables false
namespace Go.Lift
open Go Go.Proofs
theorem hour_nat {h : House} {k : Int} (hh : hourOK h k = true) : ∃ n : Nat, k = (n : Int) ∧ (n : Int) ≤ h.last := by
  rw [hourOK, decide_eq_true_eq] at hh
  exact ⟨k.toNat, by omega, by omega⟩
theorem boil_full {h : House} (hc : checkHouse h = 0) (hk : HOK h) {k : Int} (hh : hourOK h k = true) : safeP h (atOf (bitsL (2 ^ nT h - 1)) k) = true := by
  obtain ⟨n, rfl, hn⟩ := hour_nat hh
  have := nT_le hk
  rw [safeP_iff]
  refine fun c _ => boil_all hc hk hn (fun i hi => (mem_bitsL _ _).2 ⟨by omega, ?_⟩) c
  rw [Nat.testBit_two_pow_sub_one]; exact decide_eq_true hi
theorem boil_min {h : House} (hc : checkHouse h = 0) (hk : HOK h) {k : Int} (hh : hourOK h k = true) : IsMin (fun x => safeP h (atOf x k)) (Inc (nT h)) (boilOf' h k) := by
  have hn := nT_le hk
  exact tryAll_min (ok := fun x => safeP h (atOf x k)) (n := nT h) (bits_inc (m := 2 ^ nT h - 1) (by omega) (by have : 1 ≤ 2 ^ nT h := Nat.one_le_two_pow; omega)) (boil_full hc hk hh)
end Go.Lift

set_option linter.unusedSimpArgs false
set_option linter.unusedVariables false
namespace Go.Lift
open Go Go.Proofs
theorem ask_ok {h : House} {f : Bool} (he : askErrH h f = 0) : checkHouse h = 0 ∧ f = true ∧ truH h [] ≠ [] := by
  unfold askErrH at he
  by_cases h1 : checkHouse h = 0
  · rw [if_pos h1] at he
    cases f
    · simp at he
    · refine ⟨h1, rfl, fun h2 => ?_⟩
      rw [if_pos rfl, if_pos h2] at he; cases he
  · rw [if_neg h1] at he; exact absurd he h1
theorem ask_zero {h : House} (h1 : checkHouse h = 0) (h2 : truH h [] ≠ []) : askErrH h true = 0 := by
  rw [askErrH, if_pos h1, if_pos rfl, if_neg h2]
theorem ask_cond {h : House} {f : Bool} (he : askErrH h f = 0) (g : Bool) : decide (askErrH h (f && g) = 0) = g := by
  obtain ⟨h1, rfl, h2⟩ := ask_ok he
  cases g
  · simp [askErrH, h1]
  · simp [ask_zero h1 h2]
end Go.Lift

set_option linter.unusedSimpArgs false
set_option linter.unusedVariables false
namespace Go.Lift
open Go Go.Proofs
theorem isWhose_iff {h : House} (ht : truH h [] ≠ []) (w : Nat) : isWhose h w = true ↔ ∃ c ∈ truH h [], harmedP h w c = true := by
  rw [isWhose, verdictOf, decide_eq_true_eq]
  have hpos : 0 < (truH h []).length := List.length_pos_iff.2 ht
  have key : (∃ c ∈ truH h [], harmedP h w c = true) ↔ (truH h []).countP (harmedP h w) ≠ 0 := by
    rw [Ne, List.countP_eq_zero]
    constructor
    · rintro ⟨x, hx, hp⟩ hall; exact hall x hx hp
    · intro hne; exact Classical.byContradiction fun hno => hne fun x hx hp => hno ⟨x, hx, hp⟩
  rw [key]
  by_cases h1 : (truH h []).countP (harmedP h w) = (truH h []).length
  · rw [if_pos h1]
    exact ⟨fun _ => by omega, fun _ => by decide⟩
  · rw [if_neg h1]
    by_cases h2 : (truH h []).countP (harmedP h w) = 0
    · rw [if_pos h2]; simp [h2]
    · rw [if_neg h2]; exact ⟨fun _ => h2, fun _ => by decide⟩
theorem harmedP_iff (h : House) (w : Int) (c : Course) : harmedP h w c = true ↔ ∃ i, i < h.table.pieces.length ∧ (lastOf h c []).getD i false = true ∧ (pad7 c.owners).getD i 0 = w ∧ ¬ (pad7 c.owners).getD i 0 ∈ h.sick := by
  rw [harmedP, List.any_eq_true]
  constructor
  · rintro ⟨i, hi, hh⟩
    simp only [harmedAt, Bool.and_eq_true, decide_eq_true_eq, Bool.not_eq_true', decide_eq_false_iff_not] at hh
    exact ⟨i, List.mem_range.1 hi, hh.1.1, hh.1.2, hh.2⟩
  · rintro ⟨i, hi, h1, h2, h3⟩
    refine ⟨i, List.mem_range.2 hi, ?_⟩
    simp only [harmedAt, Bool.and_eq_true, decide_eq_true_eq, Bool.not_eq_true', decide_eq_false_iff_not]
    exact ⟨⟨h1, h2⟩, h3⟩
theorem boil_nil {h : House} (hc : checkHouse h = 0) (hk : HOK h) {k : Int} (hh : hourOK h k = true) : boilOf' h k = [] ↔ safeP h [] = true := by
  have hm := boil_min hc hk hh
  constructor
  · intro he; have := hm.good; rw [he] at this; exact this
  · intro hs
    have := hm.least [] ⟨List.Pairwise.nil, fun a ha => by cases ha⟩ hs
    rw [Bool.eq_false_iff, Ne, shorter_iff] at this
    rw [← List.length_eq_zero_iff]
    apply Classical.byContradiction
    intro hn; exact this (.inl (by simp; omega))
end Go.Lift

set_option linter.unusedSimpArgs false
set_option linter.unusedVariables false
namespace Go.Lift
open Go Go.Proofs
theorem verdict_two {α : Type} {l : List α} (hl : l ≠ []) (p : α → Bool) : verdictOf (l.countP p) l.length = 2 ↔ ∀ c ∈ l, p c = false := by
  have hpos := List.length_pos_iff.2 hl
  have key : (∀ c ∈ l, p c = false) ↔ l.countP p = 0 := by
    rw [List.countP_eq_zero]
    exact ⟨fun h c hc => by rw [h c hc]; simp, fun h c hc => by simpa using h c hc⟩
  rw [key, verdictOf]
  by_cases h1 : l.countP p = l.length
  · rw [if_pos h1]
    exact ⟨fun h => by omega, fun h => by omega⟩
  · rw [if_neg h1]
    by_cases h2 : l.countP p = 0
    · rw [if_pos h2]; exact ⟨fun _ => h2, fun _ => rfl⟩
    · rw [if_neg h2]; exact ⟨fun h => by omega, fun h => absurd h h2⟩
/-- One house has the same things, and no other truths. -/
structure SubH (x h : House) : Prop where
  pcs : x.table.pieces.length = h.table.pieces.length
  wom : x.table.women.length = h.table.women.length
  sick : x.sick = h.sick
  nT : nT x = nT h
  last : ∀ c more, lastOf x c more = lastOf h c more
  tru : ∀ c ∈ truH x [], c ∈ truH h []
theorem SubH.ne {x h : House} (s : SubH x h) (hx : truH x [] ≠ []) : truH h [] ≠ [] := by
  obtain ⟨c, l, e⟩ := List.exists_cons_of_ne_nil hx
  intro h0
  have := s.tru c (by rw [e]; simp)
  rw [h0] at this; cases this
theorem SubH.whose {x h : House} (s : SubH x h) (hx : truH x [] ≠ []) (w : Nat) (hw : isWhose x w = true) : isWhose h w = true := by
  rw [isWhose_iff hx] at hw
  rw [isWhose_iff (s.ne hx)]
  obtain ⟨c, hc, hp⟩ := hw
  refine ⟨c, s.tru c hc, ?_⟩
  rw [harmedP_iff] at hp ⊢
  rw [s.pcs, s.last, s.sick] at hp
  exact hp
theorem SubH.len {x h : House} (s : SubH x h) (hx : truH x [] ≠ []) : (whoseS x).length ≤ (whoseS h).length := by
  rw [whoseS, whoseS, whoseUpto, whoseUpto, List.length_map, List.length_map, ← List.countP_eq_length_filter, ← List.countP_eq_length_filter, s.wom]
  exact List.countP_mono_left fun w _ hw => s.whose hx w hw
theorem SubH.safe {x h : House} (s : SubH x h) (more : List Boiling) (hs : safeP h more = true) : safeP x more = true := by
  rw [safeP_iff] at hs ⊢
  intro c hc
  have := hs c (s.tru c hc)
  rw [safe_iff] at this ⊢
  rw [s.pcs, s.last, s.sick]; exact this
theorem truH_reS (h : House) (ss : List Sign) (c : Course) : c ∈ truH (reS h ss) [] ↔ c ∈ allC h ∧ ∀ s ∈ ss, sgn (lastOf h c []) s = true := by
  rw [truH, List.mem_filter, allC_reS, isTrue_nil, List.all_eq_true]; rfl
theorem truH_self (h : House) (c : Course) : c ∈ truH h [] ↔ c ∈ allC h ∧ ∀ s ∈ h.signs, sgn (lastOf h c []) s = true := truH_reS h h.signs c
end Go.Lift

set_option linter.unusedSimpArgs false
set_option linter.unusedVariables false
namespace Go.Lift
open Go Go.Proofs
def reSK (h : House) (sk : List Int) : House := { h with sick := sk }
theorem timesUpto_reSK (h : House) (sk : List Int) (m : Int) : ∀ j, timesUpto (reSK h sk) m j = timesUpto h m j
  | 0 => rfl
  | j + 1 => by simp only [timesUpto, timesUpto_reSK h sk m j]; rfl
theorem check_reSK {h : House} (hc : checkHouse h = 0) {sk : List Int} (hr : risingOK sk h.table.women.length = true) : checkHouse (reSK h sk) = 0 := by
  rw [check_zero] at hc ⊢
  obtain ⟨h1, h2, h3, h4, h6⟩ := hc
  refine ⟨h1, h2, ?_, h4, ?_⟩
  · rintro (k | k | k | k)
    · exact h3 (.inl k)
    · exact h3 (.inr (.inl k))
    · exact h3 (.inr (.inr (.inl k)))
    · have : risingOK (reSK h sk).sick (reSK h sk).table.women.length = risingOK sk h.table.women.length := rfl
      rw [this, hr] at k; cases k
  · have : manyH (reSK h sk) = manyH h := timesUpto_reSK h sk _ _
    rw [this]; exact h6
theorem check_nil {h : House} (hc : checkHouse h = 0) : checkHouse (reS h []) = 0 := check_reS hc (by simp) fun s hs => by cases hs
theorem zer_none {h : House} (hk : HOK h) (hs : h.sick = []) (c : Course) (more : List Boiling) : Zer (lastOf h c more) := by
  have hp := hk.pcs
  refine zer_play hk (k := 0) (by omega) fun i => ?_
  show (startOf h _ h.table.pieces.length).getD i false = false
  rw [startOf_get _ _ _ (by omega), hs]; simp
theorem carry_none {h : House} (hk : HOK h) (hs : h.sick = []) (hne : truH h [] ≠ []) (i : Nat) : carryAt h i = 2 := by
  rw [carryAt, verdict_two hne]
  intro c _
  exact zer_none hk hs c [] i
theorem boil_none {h : House} (hc : checkHouse h = 0) (hk : HOK h) (hs : h.sick = []) {k : Int} (hh : hourOK h k = true) : boilOf' h k = [] := by
  rw [boil_nil hc hk hh, safeP_iff]
  exact fun c _ => safe_zer (zer_none hk hs c [])
theorem truth_who {t : Table} (hc : checkTable t = 0) {o : List Int} (ho : isTruthT t o = true) {i : Nat} (hi : i < t.pieces.length) : o.getD i 0 ∈ (whoseT t).getD i [] := by
  have := truth_whose hc ho
  rw [enumW_eq, mem_enumG] at this
  obtain ⟨suf, e, h1, h2⟩ := this
  rw [List.nil_append] at e
  subst e
  have := h2 i hi
  rw [List.length_nil, Nat.zero_add] at this
  exact this
def srcAt (h : House) (i : Nat) : Bool := h.sick.any fun s => decide (s ∈ (whoseT h.table).getD i [])
def srcUpto (h : House) (j : Nat) : List Int := ((List.range j).filter (srcAt h)).map Int.ofNat
theorem srcUpto_succ (h : House) (j : Nat) : srcUpto h (j + 1) = srcUpto h j ++ (if srcAt h j = true then [(j : Int)] else []) := by
  rw [srcUpto, List.range_succ, List.filter_append, List.map_append, srcUpto]
  congr 1
  cases hq : srcAt h j <;> simp [hq]
theorem srcUpto_len (h : House) (j : Nat) : (srcUpto h j).length ≤ j := by
  rw [srcUpto, List.length_map]
  exact Nat.le_trans (List.length_filter_le _ _) (by simp)
theorem filter_inc (p : Nat → Bool) (n : Nat) : Inc n (((List.range n).filter p).map Int.ofNat) := by
  refine ⟨List.Pairwise.map Int.ofNat (fun a b hab => Int.ofNat_lt.2 hab) (List.Pairwise.filter _ List.pairwise_lt_range), fun a ha => ?_⟩
  simp only [List.mem_map, List.mem_filter, List.mem_range] at ha
  obtain ⟨i, ⟨hi, _⟩, rfl⟩ := ha
  exact ⟨i, rfl, hi⟩
theorem Inc.mono {n m : Nat} {l : List Int} (h : Inc n l) (hn : n ≤ m) : Inc m l :=
  ⟨h.1, fun a ha => let ⟨i, e, hi⟩ := h.2 a ha; ⟨i, e, by omega⟩⟩
theorem src_inc (h : House) : Inc (nT h) (srcUpto h h.table.pieces.length) := (filter_inc _ _).mono (by unfold nT; omega)
theorem src_safe {h : House} (hc : checkHouse h = 0) (hv : HV h) : safeP h (atOf (srcUpto h h.table.pieces.length) 0) = true := by
  rw [safeP_iff]
  intro c hct
  have hok := tru_ok hv hct
  have hp := hv.ok.pcs
  rw [courseOK, Bool.and_eq_true] at hok
  refine safe_zer (zer_play hv.ok (k := 1) (by omega) (zer_boil hv.ok (k := 0) fun i hi => ?_))
  have e : hoursOf h (pad7 c.owners) (pad6 c.hours) ((h.boiled ++ atOf (srcUpto h h.table.pieces.length) 0).map bKey) 0 = startOf h (pad7 c.owners) h.table.pieces.length := rfl
  rw [e, startOf_get _ _ _ (by omega), Bool.and_eq_true, decide_eq_true_eq, decide_eq_true_eq] at hi
  refine ⟨by unfold nT; omega, ?_⟩
  rw [List.map_append, List.mem_append]
  refine .inr ?_
  simp only [atOf, List.map_map, List.mem_map]
  refine ⟨(i : Int), ?_, rfl⟩
  simp only [srcUpto, List.mem_map, List.mem_filter, List.mem_range]
  refine ⟨i, ⟨hi.1, ?_⟩, rfl⟩
  rw [srcAt, List.any_eq_true]
  refine ⟨_, hi.2, decide_eq_true ?_⟩
  have hlen := isTruthT_len hok.1
  rw [pad7_get _ _ (by omega)]
  exact truth_who hv.tab hok.1 hi.1
end Go.Lift

set_option linter.unusedSimpArgs false
set_option linter.unusedVariables false
namespace Go.Lift
open Go Go.Proofs
/-- The hour with a number. -/
def hourK (h : House) (n : Nat) : Int := ((n % (h.last.toNat + 1) : Nat) : Int)
theorem hourK_ok {h : House} (hk : HOK h) (n : Nat) : hourOK h (hourK h n) = true := by
  obtain ⟨m, h1, h2⟩ := hk.last
  rw [hourOK, hourK, decide_eq_true_eq]
  have := Nat.mod_lt n (show 0 < h.last.toNat + 1 by omega)
  omega
theorem hourK_facts {h : House} (hk : HOK h) {n : Nat} (hn : n < 256) : IntKind.i64.wrap (n : Int) = (n : Int) ∧ ¬ IntKind.i64.wrap (h.last + 1) = 0 ∧ (n : Int).tmod (IntKind.i64.wrap (h.last + 1)) = hourK h n := by
  obtain ⟨m, h1, h2⟩ := hk.last
  have e : IntKind.i64.wrap (h.last + 1) = ((h.last.toNat + 1 : Nat) : Int) := by rw [w64 (by omega) (by omega)]; omega
  refine ⟨w64 (by omega) (by omega), by rw [e]; omega, ?_⟩
  rw [e, hourK, Int.ofNat_tmod]
theorem ready_ok {h : House} (hr : readyH h = true) : HSm h ∧ checkHouse h = 0 := by
  rw [readyH, Bool.and_eq_true, decide_eq_true_eq] at hr
  exact ⟨thin_sm hr.1, hr.2⟩
end Go.Lift

set_option linter.unusedSimpArgs false
set_option linter.unusedVariables false
namespace Go.Lift
open Go Go.Proofs
theorem HSm.signs' {h : House} (hs : HSm h) {ss : List Sign} (hl : ss.length ≤ 1073741824) : HSm (reS h ss) :=
  ⟨hs.women, hs.pieces, hs.marks, hs.sick, hs.touches, hs.boiled, hl⟩
end Go.Lift

set_option linter.unusedSimpArgs false
set_option linter.unusedVariables false
namespace Go.Lift
open Go Go.Proofs Go.Proofs.YthnfcdkiaihfcaaGreat
theorem rising_inc {n : Nat} (hn : n ≤ 10) {l : List Int} (h : Inc n l) : risingR l n = true := by
  rw [risingR, List.all_eq_true]
  intro i hi
  have hi := List.mem_range.1 hi
  obtain ⟨a, ha, han⟩ := h.2 _ (List.getElem_mem hi)
  have e : l.getD i 0 = (a : Int) := by rw [List.getD_eq_getElem?_getD, List.getElem?_eq_getElem hi, ← ha]; rfl
  rw [risingRAt, e, w64 (by omega) (by omega), Bool.and_eq_true, decide_eq_true_eq]
  refine ⟨by omega, ?_⟩
  by_cases h0 : i = 0
  · simp [h0]
  · have hi1 : i - 1 < l.length := by omega
    have e1 : l.getD (i - 1) 0 = l[i - 1] := by rw [List.getD_eq_getElem?_getD, List.getElem?_eq_getElem hi1]; rfl
    have := (List.pairwise_iff_getElem.1 h.1) (i - 1) i hi1 hi (by omega)
    rw [ha] at this
    rw [e1, decide_eq_false (show ¬ (a : Int) ≤ l[i - 1] by omega)]; simp
theorem risingOK_inc {h : House} (hk : HOK h) {l : List Int} (hi : Inc (nT h) l) : risingOK l (thingsW h) = true := by
  have := nT_le hk
  rw [thingsW_ok hk, rising_eq _ _ (by omega) (by omega)]; exact rising_inc this hi
theorem proveBoil_self {h : House} (hk : HOK h) {k : Int} (ha : askErrH h (hourOK h k) = 0) {x : List Int} (hi : Inc (nT h) x) (hs : safeP h (atOf x k) = true) : proveBoilP h k x x.length = true := by
  rw [proveBoilP, ask_cond ha, risingOK_inc hk hi, hs]; simp
end Go.Lift

set_option linter.unusedSimpArgs false
set_option linter.unusedVariables false
namespace Go.Lift
open Go Go.Proofs
theorem Pure.wk {P : Program} {f : FuncId} {x y r : AV} {xs : List AV} (hp : Pure P f (y :: xs) r) (h : Wk x y) : Pure P f (x :: xs) r :=
  fun H => ACalls.arg0 (fun w v hr => h H w v hr) (hp H)
theorem wk9 {a b c d e f g i j a' b' c' d' e' f' g' i' j' : AV} (h1 : Wk a a') (h2 : Wk b b') (h3 : Wk c c') (h4 : Wk d d') (h5 : Wk e e') (h6 : Wk f f') (h7 : Wk g g') (h8 : Wk i i') (h9 : Wk j j') : Wk (.agg [a, b, c, d, e, f, g, i, j]) (.agg [a', b', c', d', e', f', g', i', j']) :=
  Wk.agg rfl fun n x y hx hy => by
    match n, hx, hy with
    | 0, hx, hy => cases hx; cases hy; exact h1
    | 1, hx, hy => cases hx; cases hy; exact h2
    | 2, hx, hy => cases hx; cases hy; exact h3
    | 3, hx, hy => cases hx; cases hy; exact h4
    | 4, hx, hy => cases hx; cases hy; exact h5
    | 5, hx, hy => cases hx; cases hy; exact h6
    | 6, hx, hy => cases hx; cases hy; exact h7
    | 7, hx, hy => cases hx; cases hy; exact h8
    | 8, hx, hy => cases hx; cases hy; exact h9
theorem carry_len (h : House) : (carryOf h).length = nT h := by simp [carryOf]
end Go.Lift

set_option linter.unusedSimpArgs false
set_option linter.unusedVariables false
namespace Go.Lift
open Go Go.Proofs
/-- What a step on the heap leaves as it was. -/
structure Step (H H' : AHeap) (b : Nat) : Prop where
  keep : ∀ c o, c ≠ b → H c = some o → H' c = some o
  ext : ∀ H0, Ext H0 H → H0 b = none → Ext H0 H'
  grown : ∀ sz H0 v es, Grown sz H0 H v es → Grown sz H0 H' v es
theorem v_alloc' {P : Program} {R : AV → AHeap → Prop} {H : AHeap} {zs : List AV} (h : ∀ b H', H b = none → H' b = some (.box zs) → Step H H' b → R (.ptr b 0) H') : aopV P (.alloc zs) [] H R :=
  v_alloc fun b hb => h b _ hb (updH_same _ _ _) ⟨fun c o hc ho => by rw [updH_ne _ _ hc]; exact ho, fun H0 e hn => e.upd hn _, fun sz H0 v es g => g.new hb _⟩
theorem v_store' {P : Program} {R : AV → AHeap → Prop} {H : AHeap} {n b off : Nat} {x : AV} {cs : List AV} (hb : H b = some (.box cs)) (hx : x.ok = true) (hl : x.cells.length = n) (hc : ∀ y ∈ x.cells, AV.isCell y = true) (ho : off + n ≤ cs.length)
    (h : ∀ H', H' b = some (.box (placeAt cs off x.cells)) → Step H H' b → R .any H') : aopV P (.store n) [.ptr b off, x] H R := by
  rw [v_store]
  exact ⟨hx, hl, hc, cs, hb, ho, h _ (updH_same _ _ _) ⟨fun c o hc ho => by rw [updH_ne _ _ hc]; exact ho, fun H0 e hn => e.upd hn _, fun sz H0 v es g => g.store hb _⟩⟩
theorem ne_of {H : AHeap} {a b : Nat} {o : AObj} (ha : H a = some o) (hb : H b = none) : a ≠ b := fun e => by subst e; rw [ha] at hb; cases hb
theorem Grown.one {sz : Nat} {H0 H : AHeap} {v : AV} {es : List (List AV)} (g : Grown sz H0 H v es) : v.ok = true ∧ v.cells.length = 1 ∧ ∀ y ∈ v.cells, AV.isCell y = true := by
  refine ⟨g.cellv.1, by rw [g.cellv.2.1]; rfl, ?_⟩
  rw [g.cellv.2.1]; intro y hy; simp at hy; subst hy; exact g.cellv.2.2
/-- The cells of a house, with the lists of the sick, of the touches, of the boilings and of the signs given. -/
def hc4 (h : House) (a b c d : AV) : List AV := [.slice (h.table.women.map eW), .slice (h.table.pieces.map eP), i6 h.table.wrong, a, i6 h.others, i6 h.last, b, c, d]
theorem wkH {x h : House} {a b c d : AV} (ht : x.table = h.table) (ho : x.others = h.others) (hl : x.last = h.last) (ha : Wk a (.slice (eI x.sick))) (hb : Wk b (.slice (x.touches.map eTo))) (hc : Wk c (.slice (x.boiled.map eB))) (hd : Wk d (.slice (x.signs.map eS))) : Wk (.agg (hc4 h a b c d)) (eH x) := by
  unfold eH hc4
  rw [ht, ho, hl]
  exact wk9 (Wk.refl _) (Wk.refl _) (Wk.refl _) ha (Wk.refl _) (Wk.refl _) hb hc hd
theorem HSm.sick' {h : House} (hs : HSm h) {sk : List Int} (hl : sk.length ≤ 1073741824) : HSm (reSK h sk) :=
  ⟨hs.women, hs.pieces, hs.marks, hl, hs.touches, hs.boiled, hs.signs⟩
theorem ne_nosigns {h : House} (hv : HV h) (hs : h.signs = []) : truH h [] ≠ [] := by
  obtain ⟨c, hc⟩ := allC_ne hv
  intro h0
  have := (truH_self h c).2 ⟨hc, fun s hm => by rw [hs] at hm; cases hm⟩
  rw [h0] at this; cases this
end Go.Lift

set_option linter.unusedSimpArgs false
set_option linter.unusedVariables false
namespace Go.Lift
open Go Go.Proofs
theorem hm_table {h : House} (hm : HSm h) : Pure Tryz.prog 46 [eT h.table] (eT h.table) :=
  table_c h.table (by have := hm.women; omega) (by have := hm.pieces; omega) (fun p hp => by have := hm.marks p hp; omega)
theorem whose_len (t : Table) : (whoseT t).length = t.pieces.length := by simp [whoseT]
theorem whose_row {t : Table} {i : Nat} (hi : i < t.pieces.length) : ((whoseT t).map fun x => [AV.slice (eI x)])[i]? = some [AV.slice (eI ((whoseT t).getD i []))] := by
  have : i < (whoseT t).length := by rw [whose_len]; exact hi
  simp [List.getD_eq_getElem?_getD, this]
theorem whose_row_len {t : Table} (i : Nat) : ((whoseT t).getD i []).length ≤ t.women.length := by
  rcases Nat.lt_or_ge i (whoseT t).length with h | h
  · have : (whoseT t).getD i [] = whoIs t i t.women.length := by
      rw [List.getD_eq_getElem?_getD, List.getElem?_eq_getElem h]; simp [whoseT]
    rw [this]; exact whoIs_len t i _
  · rw [List.getD_eq_getElem?_getD, List.getElem?_eq_none h]; simp
theorem any_snoc {α : Type} {p : α → Bool} {l : List α} {k : Nat} (hk : k < l.length) : (l.take (k + 1)).any p = ((l.take k).any p || p l[k]) := by
  rw [take_snoc hk, List.any_append]; simp
set_option maxHeartbeats 2000000 in
theorem sources_law (h : House) (n : Nat) (hn : n < 256) : Pure Tryz.prog 14 [eH h, .int .u8 (n : Int)] (.bool true) := by
  intro H
  refine fn_of hmix fc14 (by simp) ?_
  rw [ienv2]
  simp only [go_sem, reduceIte, reduceCtorEq, Nat.reduceEqDiff, Nat.reduceBEq, Nat.reduceAdd, Nat.reduceMul, Nat.reduceLeDiff, List.getElem?_cons_zero, List.getElem?_cons_succ, bne_self_eq_false, Int.reduceEq, ac14, eH]
  refine v_box _ rfl fun b1 hb1 => ?_
  have e1 := (Ext.refl H).new hb1 (.box [.slice (h.table.women.map eW), .slice (h.table.pieces.map eP), i6 h.table.wrong, .slice (eI h.sick), i6 h.others, i6 h.last, .slice (h.touches.map eTo), .slice (h.boiled.map eB), .slice (h.signs.map eS)])
  simp only [go_sem, reduceIte, reduceCtorEq, Nat.reduceEqDiff, Nat.reduceBEq, Nat.reduceAdd, Nat.reduceMul, Nat.reduceLeDiff, List.getElem?_cons_zero, List.getElem?_cons_succ, bne_self_eq_false, Int.reduceEq]
  refine (ready_c h).go ?_
  cases c1 : readyH h
  · simp only [go_sem, reduceIte, reduceCtorEq, Nat.reduceEqDiff, Nat.reduceBEq, Nat.reduceAdd, Nat.reduceMul, Nat.reduceLeDiff, List.getElem?_cons_zero, List.getElem?_cons_succ, bne_self_eq_false, Int.reduceEq]
    refine awake_c.go ?_
    simp only [go_sem, reduceIte, reduceCtorEq, Nat.reduceEqDiff, Nat.reduceBEq, Nat.reduceAdd, Nat.reduceMul, Nat.reduceLeDiff, List.getElem?_cons_zero, List.getElem?_cons_succ, bne_self_eq_false, Int.reduceEq]
    exact fin_ret 4 (by simp [upd_at]) ⟨_, H, Settle.refl e1, by simp [upd_at], rfl⟩
  obtain ⟨hm, hc⟩ := ready_ok c1
  have hv := hv_of hm.tsm hm.sk hc
  have hnt := nT_le hv.ok
  have hw5 := checkTable_len hv.tab
  have hsk := hv.ok.sk
  unfold Sm at hsk
  simp only [go_sem, reduceIte, reduceCtorEq, Nat.reduceEqDiff, Nat.reduceBEq, Nat.reduceAdd, Nat.reduceMul, Nat.reduceLeDiff, List.getElem?_cons_zero, List.getElem?_cons_succ, bne_self_eq_false, Int.reduceEq]
  refine (hm_table hm).go ?_
  simp only [go_sem, reduceIte, reduceCtorEq, Nat.reduceEqDiff, Nat.reduceBEq, Nat.reduceAdd, Nat.reduceMul, Nat.reduceLeDiff, List.getElem?_cons_zero, List.getElem?_cons_succ, bne_self_eq_false, Int.reduceEq]
  refine (whose_c h.table hv.ok.sm).go ?_
  rw [whoseR, if_pos hv.ask]
  have hwl := whose_len h.table
  simp only [go_sem, reduceIte, reduceCtorEq, Nat.reduceEqDiff, Nat.reduceBEq, Nat.reduceAdd, Nat.reduceMul, Nat.reduceLeDiff, List.getElem?_cons_zero, List.getElem?_cons_succ, bne_self_eq_false, Int.reduceEq, eII, eT, List.length_map, hwl, take_f', bne_self_eq_false]
  refine x_for h.table.pieces.length (fun j env H1 => Ext H H1 ∧ H1 b1 = some (.box [.slice (h.table.women.map eW), .slice (h.table.pieces.map eP), i6 h.table.wrong, .slice (eI h.sick), i6 h.others, i6 h.last, .slice (h.touches.map eTo), .slice (h.boiled.map eB), .slice (h.signs.map eS)]) ∧ Grown 1 H H1 (env 5) (eI (srcUpto h j)) ∧ env 1 = .int .u8 (n : Int) ∧ env 2 = .ptr b1 0 ∧ env 6 = .slice ((whoseT h.table).map fun x => [AV.slice (eI x)]) ∧ env 8 = i6 j ∧ env 134 = .any)
    ⟨e1, updH_same _ _ _, .inl ⟨by simp [upd_at], rfl⟩, by simp [upd_at], by simp [upd_at], by simp [upd_at], by simp [upd_at], by simp [upd_at]⟩ ?_
  clear e1
  rintro j env H1 hj ⟨hE, B1, hG, g1, g2, g6, g8, hN⟩
  by_cases hlt : (j : Int) < (h.table.pieces.length : Int)
  · have hlt' : j < h.table.pieces.length := by omega
    have hrl := whose_row_len (t := h.table) j
    simp only [go_sem, reduceIte, reduceCtorEq, Nat.reduceEqDiff, Nat.reduceBEq, Nat.reduceAdd, Nat.reduceMul, Nat.reduceLeDiff, List.getElem?_cons_zero, List.getElem?_cons_succ, bne_self_eq_false, Int.reduceEq, g1, g2, g6, g8, hN, B1, List.length_map, hwl, hlt]
    refine x_for h.sick.length (fun k env H1 => Ext H H1 ∧ H1 b1 = some (.box [.slice (h.table.women.map eW), .slice (h.table.pieces.map eP), i6 h.table.wrong, .slice (eI h.sick), i6 h.others, i6 h.last, .slice (h.touches.map eTo), .slice (h.boiled.map eB), .slice (h.signs.map eS)]) ∧ Grown 1 H H1 (env 5) (eI (srcUpto h j)) ∧ env 1 = .int .u8 (n : Int) ∧ env 2 = .ptr b1 0 ∧ env 6 = .slice ((whoseT h.table).map fun x => [AV.slice (eI x)]) ∧ env 8 = i6 j ∧ env 134 = .any ∧ env 10 = i6 k ∧ env 9 = .bool ((h.sick.take k).any fun s => decide (s ∈ (whoseT h.table).getD j [])))
      ⟨hE, B1, by simpa [upd_at] using hG, by simp [upd_at, g1], by simp [upd_at, g2], by simp [upd_at, g6], by simp [upd_at, g8], by simp [upd_at, hN], by simp [upd_at], by simp [upd_at]⟩ ?_
    clear hE B1 hG g1 g2 g6 g8 hN
    rintro k env H1 hk ⟨hE, B1, hG, g1, g2, g6, g8, hN, g10, g9⟩
    by_cases klt : (k : Int) < (h.sick.length : Int)
    · have klt' : k < h.sick.length := by omega
      cases q : (h.sick.take k).any fun s => decide (s ∈ (whoseT h.table).getD j [])
      · rw [q] at g9
        simp only [go_sem, reduceIte, reduceCtorEq, Nat.reduceEqDiff, Nat.reduceBEq, Nat.reduceAdd, Nat.reduceMul, Nat.reduceLeDiff, List.getElem?_cons_zero, List.getElem?_cons_succ, bne_self_eq_false, Int.reduceEq, g1, g2, g6, g8, g9, g10, hN, B1, klt, take_f', whose_row hlt', eI_get klt']
        refine pgo_call (has_c _ _ (by unfold Sm; omega)) ?_
        simp only [go_sem, reduceIte, reduceCtorEq, Nat.reduceEqDiff, Nat.reduceBEq, Nat.reduceAdd, Nat.reduceMul, Nat.reduceLeDiff, List.getElem?_cons_zero, List.getElem?_cons_succ, bne_self_eq_false, Int.reduceEq, g1, g2, g6, g8, g9, g10, hN, B1, wsucc (show k < 4611686018427387904 by omega), klt']
        exact ⟨hE, by simpa [upd_at] using hG, by rw [any_snoc klt', q]; rfl⟩
      · rw [q] at g9
        simp only [go_sem, reduceIte, reduceCtorEq, Nat.reduceEqDiff, Nat.reduceBEq, Nat.reduceAdd, Nat.reduceMul, Nat.reduceLeDiff, List.getElem?_cons_zero, List.getElem?_cons_succ, bne_self_eq_false, Int.reduceEq, g1, g2, g6, g8, g9, g10, hN, B1, klt, take_f', wsucc (show k < 4611686018427387904 by omega), klt']
        exact ⟨hE, by simpa [upd_at] using hG, by rw [any_snoc klt', q]; rfl⟩
    · have : k = h.sick.length := by omega
      subst this
      rw [List.take_length] at g9
      have hsl := srcUpto_len h j
      have hq : (h.sick.any fun s => decide (s ∈ (whoseT h.table).getD j [])) = srcAt h j := rfl
      rw [hq] at g9
      cases q : srcAt h j
      · rw [q] at g9
        simp only [go_sem, reduceIte, reduceCtorEq, Nat.reduceEqDiff, Nat.reduceBEq, Nat.reduceAdd, Nat.reduceMul, Nat.reduceLeDiff, List.getElem?_cons_zero, List.getElem?_cons_succ, bne_self_eq_false, Int.reduceEq, g1, g2, g6, g8, g9, g10, hN, B1, klt, take_f', wsucc (show j < 4611686018427387904 by omega), hlt']
        refine ⟨hE, ?_⟩
        rw [srcUpto_succ, q, if_neg (by simp), List.append_nil]; simpa [upd_at] using hG
      · rw [q] at g9
        simp only [go_sem, reduceIte, reduceCtorEq, Nat.reduceEqDiff, Nat.reduceBEq, Nat.reduceAdd, Nat.reduceMul, Nat.reduceLeDiff, List.getElem?_cons_zero, List.getElem?_cons_succ, bne_self_eq_false, Int.reduceEq, g1, g2, g6, g8, g9, g10, hN, B1, klt, take_f', d_bs1]
        refine v_append hG hE rfl (eI_good _) (one_good (j : Int)) (one_cell (j : Int)) (by simp; omega) (by simp; omega) ?_
        intro v' H2 hg' he' hk'
        have K1 := hk'.box hG B1
        simp only [go_sem, reduceIte, reduceCtorEq, Nat.reduceEqDiff, Nat.reduceBEq, Nat.reduceAdd, Nat.reduceMul, Nat.reduceLeDiff, List.getElem?_cons_zero, List.getElem?_cons_succ, bne_self_eq_false, Int.reduceEq, g1, g2, g6, g8, g9, g10, hN, K1, wsucc (show j < 4611686018427387904 by omega), hlt']
        refine ⟨he', ?_⟩
        rw [srcUpto_succ, q, if_pos rfl, eI_app]; exact hg'
  have : j = h.table.pieces.length := by omega
  subst this
  have hsl := srcUpto_len h h.table.pieces.length
  simp only [go_sem, reduceIte, reduceCtorEq, Nat.reduceEqDiff, Nat.reduceBEq, Nat.reduceAdd, Nat.reduceMul, Nat.reduceLeDiff, List.getElem?_cons_zero, List.getElem?_cons_succ, bne_self_eq_false, Int.reduceEq, g1, g2, g6, g8, hN, B1, List.length_map, hwl, hlt]
  refine v_alloc' fun b7 H2 hn7 B7 st => ?_
  have n17 := ne_of B1 hn7
  have z7 := hE.isNone hn7
  have B1 := st.keep b1 _ n17 B1
  have e2 := st.ext H hE z7
  have hG2 := st.grown _ _ _ _ hG
  simp only [go_sem, reduceIte, reduceCtorEq, Nat.reduceEqDiff, Nat.reduceBEq, Nat.reduceAdd, Nat.reduceMul, Nat.reduceLeDiff, List.getElem?_cons_zero, List.getElem?_cons_succ, bne_self_eq_false, Int.reduceEq, g1, g2, g6, g8, hN, B1]
  refine v_store' B7 rfl rfl (by simp [AV.cells, AV.isCell]) (by simp) fun H3 B7 st => ?_
  have B1 := st.keep b1 _ n17 B1
  have e3 := st.ext H e2 z7
  replace B7 : H3 b7 = some (.box [.slice (h.table.women.map eW), .slice (h.table.pieces.map eP), i6 h.table.wrong, .slice (eI h.sick), i6 h.others, i6 h.last, .slice (h.touches.map eTo), .slice (h.boiled.map eB), .slice (h.signs.map eS)]) := B7
  have hG3 := st.grown _ _ _ _ hG2
  simp only [go_sem, reduceIte, reduceCtorEq, Nat.reduceEqDiff, Nat.reduceBEq, Nat.reduceAdd, Nat.reduceMul, Nat.reduceLeDiff, List.getElem?_cons_zero, List.getElem?_cons_succ, bne_self_eq_false, Int.reduceEq, g1, g2, g6, g8, hN, B1]
  refine v_store' B7 rfl rfl (by simp [AV.cells, AV.isCell]) (by simp) fun H4 B7 st => ?_
  have B1 := st.keep b1 _ n17 B1
  have e4 := st.ext H e3 z7
  replace B7 : H4 b7 = some (.box (hc4 h .emp (.slice (h.touches.map eTo)) (.slice (h.boiled.map eB)) (.slice (h.signs.map eS)))) := B7
  have hG4 := st.grown _ _ _ _ hG3
  simp only [go_sem, reduceIte, reduceCtorEq, Nat.reduceEqDiff, Nat.reduceBEq, Nat.reduceAdd, Nat.reduceMul, Nat.reduceLeDiff, List.getElem?_cons_zero, List.getElem?_cons_succ, bne_self_eq_false, Int.reduceEq, g1, g2, g6, g8, hN, B1]
  refine v_store' B7 rfl rfl (by simp [AV.cells, AV.isCell]) (by simp [hc4]) fun H5 B7 st => ?_
  have B1 := st.keep b1 _ n17 B1
  have e5 := st.ext H e4 z7
  have hG5 := st.grown _ _ _ _ hG4
  replace B7 : H5 b7 = some (.box (hc4 h .emp (.slice (h.touches.map eTo)) (.slice (h.boiled.map eB)) .emp)) := B7
  clear hG hG2 hG3 hG4 e2 e3 e4 hE st
  have xm : HSm (reSK (reS h []) []) := (hm.signs' (by simp)).sick' (by simp)
  have xc : checkHouse (reSK (reS h []) []) = 0 := check_reSK (check_nil hc) rfl
  have xv := hv_of xm.tsm xm.sk xc
  have xne := ne_nosigns xv rfl
  have ax := ask_zero xc xne
  have wx : Wk (.agg (hc4 h .emp (.slice (h.touches.map eTo)) (.slice (h.boiled.map eB)) .emp)) (eH (reSK (reS h []) [])) := wkH rfl rfl rfl Wk.emp (Wk.refl _) (Wk.refl _) Wk.emp
  obtain ⟨f1, f2, f3⟩ := hourK_facts hv.ok hn
  have hh : hourOK (reSK (reS h []) []) (hourK h n) = true := hourK_ok hv.ok n
  have lx : (carryOf (reSK (reS h []) [])).length = nT h := carry_len _
  have bn : boilOf' (reSK (reS h []) []) (hourK h n) = [] := boil_none xc xv.ok rfl hh
  simp only [go_sem, reduceIte, reduceCtorEq, Nat.reduceEqDiff, Nat.reduceBEq, Nat.reduceAdd, Nat.reduceMul, Nat.reduceLeDiff, List.getElem?_cons_zero, List.getElem?_cons_succ, bne_self_eq_false, Int.reduceEq, g1, g2, g6, g8, hN, B1, B7, hc4]
  refine ((house_c _ xm).wk wx).go ?_
  simp only [go_sem, reduceIte, reduceCtorEq, Nat.reduceEqDiff, Nat.reduceBEq, Nat.reduceAdd, Nat.reduceMul, Nat.reduceLeDiff, List.getElem?_cons_zero, List.getElem?_cons_succ, bne_self_eq_false, Int.reduceEq]
  refine (carry_c _ xm.tsm xm.sk).go ?_
  simp only [go_sem, reduceIte, reduceCtorEq, Nat.reduceEqDiff, Nat.reduceBEq, Nat.reduceAdd, Nat.reduceMul, Nat.reduceLeDiff, List.getElem?_cons_zero, List.getElem?_cons_succ, bne_self_eq_false, Int.reduceEq, listR, ax, g1, g2, g6, g8, hN, B1, B7, hc4]
  refine pgo_call ((house_c _ xm).wk wx) ?_
  simp only [go_sem, reduceIte, reduceCtorEq, Nat.reduceEqDiff, Nat.reduceBEq, Nat.reduceAdd, Nat.reduceMul, Nat.reduceLeDiff, List.getElem?_cons_zero, List.getElem?_cons_succ, bne_self_eq_false, Int.reduceEq, g1, g2, g6, g8, hN, B1, B7, take_f', f1, f2, f3]
  refine pgo_call (boil_c _ xm.tsm xm.sk (hourK h n)) ?_
  simp only [go_sem, reduceIte, reduceCtorEq, Nat.reduceEqDiff, Nat.reduceBEq, Nat.reduceAdd, Nat.reduceMul, Nat.reduceLeDiff, List.getElem?_cons_zero, List.getElem?_cons_succ, bne_self_eq_false, Int.reduceEq, listR, ax, hh, bn, g1, g2, g6, g8, hN, B1, B7, eI, List.map_nil, List.length_nil, Int.natCast_zero, bne_self_eq_false]
  refine (thingsR_c h).go ?_
  rw [thingsW_ok hv.ok]
  have lx' : (List.map (fun n => [i6 n]) (carryOf (reSK (reS h []) []))).length = nT h := by rw [List.length_map]; exact lx
  simp only [go_sem, reduceIte, reduceCtorEq, Nat.reduceEqDiff, Nat.reduceBEq, Nat.reduceAdd, Nat.reduceMul, Nat.reduceLeDiff, List.getElem?_cons_zero, List.getElem?_cons_succ, bne_self_eq_false, Int.reduceEq, lx, g1, g2, g6, g8, hN, B1, B7, bne_self_eq_false]
  generalize hx : reSK (reS h []) [] = x at *
  refine x_for (nT h) (fun j env H1 => Ext H H1 ∧ H1 b1 = some (.box [.slice (h.table.women.map eW), .slice (h.table.pieces.map eP), i6 h.table.wrong, .slice (eI h.sick), i6 h.others, i6 h.last, .slice (h.touches.map eTo), .slice (h.boiled.map eB), .slice (h.signs.map eS)]) ∧ Grown 1 H H1 (env 5) (eI (srcUpto h h.table.pieces.length)) ∧ env 2 = .ptr b1 0 ∧ env 12 = .slice (eI (carryOf x)) ∧ env 16 = i6 j ∧ env 134 = .any)
    ⟨e5, B1, by simpa [upd_at] using hG5, by simp [upd_at, g2], (by simp only [upd_at, Nat.reduceEqDiff, if_false, if_true]; rfl), by simp [upd_at], by simp [upd_at, hN]⟩ ?_
  clear e5 B1 B7 hG5 g1 g2 g6 g8 hN hlt hj n17
  rintro j env H1 hj ⟨hE, B1, hG, g2, g12, g16, hN⟩
  by_cases hlt : (j : Int) < (nT h : Int)
  · have hlt' : j < nT h := by omega
    have gx : (eI (carryOf x))[j]? = some [i6 2] := by
      have : carryAt x j = 2 := carry_none xv.ok (by rw [← hx]; rfl) xne j
      rw [eI_get (by omega)]; simp [carryOf, this]
    simp only [go_sem, reduceIte, reduceCtorEq, Nat.reduceEqDiff, Nat.reduceBEq, Nat.reduceAdd, Nat.reduceMul, Nat.reduceLeDiff, List.getElem?_cons_zero, List.getElem?_cons_succ, bne_self_eq_false, Int.reduceEq, g2, g12, g16, hN, lx, hlt, gx, B1, bne_self_eq_false, wsucc (show j < 4611686018427387904 by omega), hlt']
    exact ⟨hE, by simpa [upd_at] using hG⟩
  simp only [go_sem, reduceIte, reduceCtorEq, Nat.reduceEqDiff, Nat.reduceBEq, Nat.reduceAdd, Nat.reduceMul, Nat.reduceLeDiff, List.getElem?_cons_zero, List.getElem?_cons_succ, bne_self_eq_false, Int.reduceEq, g2, g12, g16, hN, lx, hlt, B1]
  refine (truthsH_c h hv).go ?_
  have hnil := perm_nil (truths_perm hv)
  by_cases t0 : truthsH h = []
  · simp only [go_sem, reduceIte, reduceCtorEq, Nat.reduceEqDiff, Nat.reduceBEq, Nat.reduceAdd, Nat.reduceMul, Nat.reduceLeDiff, List.getElem?_cons_zero, List.getElem?_cons_succ, bne_self_eq_false, Int.reduceEq, eCL, t0, List.map_nil, List.length_nil, Int.natCast_zero]
    refine awake_c.go ?_
    simp only [go_sem, reduceIte, reduceCtorEq, Nat.reduceEqDiff, Nat.reduceBEq, Nat.reduceAdd, Nat.reduceMul, Nat.reduceLeDiff, List.getElem?_cons_zero, List.getElem?_cons_succ, bne_self_eq_false, Int.reduceEq]
    exact fin_ret 4 (by simp [upd_at, hN]) ⟨_, H, Settle.refl hE, by simp [upd_at], rfl⟩
  have tp := List.length_pos_iff.2 t0
  have t1 : ¬ ((truthsH h).length : Int) = 0 := by omega
  have a1 : askErrH h (hourOK h 0) = 0 := by
    rw [hour0 hv]; exact ask_zero hc (fun h0 => t0 (hnil.2 h0))
  have pb := proveBoil_self hv.ok a1 (src_inc h) (src_safe hc hv)
  simp only [go_sem, reduceIte, reduceCtorEq, Nat.reduceEqDiff, Nat.reduceBEq, Nat.reduceAdd, Nat.reduceMul, Nat.reduceLeDiff, List.getElem?_cons_zero, List.getElem?_cons_succ, bne_self_eq_false, Int.reduceEq, eCL, List.length_map, t1, g2, g12, g16, hN, B1]
  refine (house_c h hm).go ?_
  simp only [go_sem, reduceIte, reduceCtorEq, Nat.reduceEqDiff, Nat.reduceBEq, Nat.reduceAdd, Nat.reduceMul, Nat.reduceLeDiff, List.getElem?_cons_zero, List.getElem?_cons_succ, bne_self_eq_false, Int.reduceEq, g2, g12, g16, hN, B1, hG.len, eI_len]
  refine ACalls.arg2 (y := .slice (eI (srcUpto h h.table.pieces.length))) (fun w v hr => hG.weakRep hr) ?_
  refine (proveBoil_c h hm.tsm hm.sk 0 _ (by unfold Sm; omega) _).go ?_
  rw [pb]
  simp only [go_sem, reduceIte, reduceCtorEq, Nat.reduceEqDiff, Nat.reduceBEq, Nat.reduceAdd, Nat.reduceMul, Nat.reduceLeDiff, List.getElem?_cons_zero, List.getElem?_cons_succ, bne_self_eq_false, Int.reduceEq]
  refine awake_c.go ?_
  simp only [go_sem, reduceIte, reduceCtorEq, Nat.reduceEqDiff, Nat.reduceBEq, Nat.reduceAdd, Nat.reduceMul, Nat.reduceLeDiff, List.getElem?_cons_zero, List.getElem?_cons_succ, bne_self_eq_false, Int.reduceEq]
  exact fin_ret 4 (by simp [upd_at, hN]) ⟨_, H, Settle.refl hE, by simp [upd_at], rfl⟩
end Go.Lift

