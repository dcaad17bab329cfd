/- Part 26 of the proof: the tools and contracts. Conditions: none. -/
import Derived.Test.YthnfcdkiaihfcaaGreatP25
import Derived.Test.YthnfcdkiaihfcaaGreatProg
set_option maxRecDepth 100000
set_option linter.unusedVariables false
namespace Go.Lift
open Go Go.Proofs
def cert16 : Nat → Option Cert := fun
  | 7 => some ⟨[0, 1, 2, 3, 4, 5, 6, 7, 8, 9], .done, [[], [0], [], [0, 1, 2], [0, 1, 2, 3], [0, 1, 2, 3, 4], [0, 1, 2, 3, 4, 5], [0, 1, 2, 3, 4, 5], [0, 1, 2, 3, 4, 5, 6], [0, 1, 2, 3, 4, 5, 6, 7, 8]]⟩
  | 12 => some ⟨[0, 1, 2, 3, 4, 5, 6, 7, 8, 9, 10, 11, 12, 13, 14, 15, 16, 17, 18, 19, 20, 21, 22, 23, 24, 25, 26, 27, 28, 29, 30, 31, 32, 33, 34, 35, 36, 37, 38, 39, 40, 41, 42, 43, 44, 45, 46, 47, 48, 49], .done, [[], [0], [0, 1], [0, 1, 2], [0, 1, 2, 3], [0, 1, 2, 3, 4], [0, 1, 2, 3, 4, 5], [0, 1, 2, 3, 4, 5, 6], [0, 1, 2, 3, 4, 5, 6, 7], [0, 1, 2, 3, 4, 5, 6, 7, 8], [0, 1, 2, 3, 4, 5, 6, 7, 8, 9], [0, 1, 2, 3, 4, 5, 6, 7, 8, 9, 10], [0, 1, 2, 3, 4, 5, 6, 7, 8, 9, 10, 11], [0, 1, 2, 3, 4, 5, 6, 7, 8, 9, 10, 11, 12], [0, 1, 2, 3, 4, 5, 6, 7, 8, 9, 10, 11, 12, 13], [0, 1, 2, 3, 4, 5, 6, 7, 8, 9, 10, 11, 12, 13, 14], [0, 1, 2, 3, 4, 5, 6, 7, 8, 9, 10, 11, 12, 13, 14, 15], [0, 1, 2, 3, 4, 5, 6, 7, 8, 9, 10, 11, 12, 13, 14, 15, 16], [0, 1, 2, 3, 4, 5, 6, 7, 8, 9, 10, 11, 12, 13, 14, 15, 16, 17], [0, 1, 2, 3, 4, 5, 6, 7, 8, 9, 10, 11, 12, 13, 14, 15, 16, 17, 18], [0, 1, 2, 3, 4, 5, 6, 7, 8, 9, 10, 11, 12, 13, 14, 15, 16, 17, 18, 19], [0, 1, 2, 3, 4, 5, 6, 7, 8, 9, 10, 11, 12, 13, 14, 15, 16, 17, 18, 19, 20], [0, 1, 2, 3, 4, 5, 6, 7, 8, 9, 10, 11, 12, 13, 14, 15, 16, 17, 18, 19, 20, 21], [0, 1, 2, 3, 4, 5, 6, 7, 8, 9, 10, 11, 12, 13, 14, 15, 16, 17, 18, 19, 20, 21, 22], [0, 1, 2, 3, 4, 5, 6, 7, 8, 9, 10, 11, 12, 13, 14, 15, 16, 17, 18, 19, 20, 21, 22, 23], [0, 1, 2, 3, 4, 5, 6, 7, 8, 9, 10, 11, 12, 13, 14, 15, 16, 17, 18, 19, 20, 21, 22, 23, 24], [0, 1, 2, 3, 4, 5, 6, 7, 8, 9, 10, 11, 12, 13, 14, 15, 16, 17, 18, 19, 20, 21, 22, 23, 24, 25], [0, 1, 2, 3, 4, 5, 6, 7, 8, 9, 10, 11, 12, 13, 14, 15, 16, 17, 18, 19, 20, 21, 22, 23, 24, 25, 26], [0, 1, 2, 3, 4, 5, 6, 7, 8, 9, 10, 11, 12, 13, 14, 15, 16, 17, 18, 19, 20, 21, 22, 23, 24, 25, 26, 27], [0, 1, 2, 3, 4, 5, 6, 7, 8, 9, 10, 11, 12, 13, 14, 15, 16, 17, 18, 19, 20, 21, 22, 23, 24, 25, 26, 27, 28], [0, 1, 2, 3, 4, 5, 6, 7, 8, 9, 10, 11, 12, 13, 14, 15, 16, 17, 18, 19, 20, 21, 22, 23, 24, 25, 26, 27, 28, 29], [0, 1, 2, 3, 4, 5, 6, 7, 8, 9, 10, 11, 12, 13, 14, 15, 16, 17, 18, 19, 20, 21, 22, 23, 24, 25, 26, 27, 28, 29, 30], [0, 1, 2, 3, 4, 5, 6, 7, 8, 9, 10, 11, 12, 13, 14, 15, 16, 17, 18, 19, 20, 21, 22, 23, 24, 25, 26, 27, 28, 29, 30, 31], [0, 1, 2, 3, 4, 5, 6, 7, 8, 9, 10, 11, 12, 13, 14, 15, 16, 17, 18, 19, 20, 21, 22, 23, 24, 25, 26, 27, 28, 29, 30, 31, 32], [0, 1, 2, 3, 4, 5, 6, 7, 8, 9, 10, 11, 12, 13, 14, 15, 16, 17, 18, 19, 20, 21, 22, 23, 24, 25, 26, 27, 28, 29, 30, 31, 32, 33], [0, 1, 2, 3, 4, 5, 6, 7, 8, 9, 10, 11, 12, 13, 14, 15, 16, 17, 18, 19, 20, 21, 22, 23, 24, 25, 26, 27, 28, 29, 30, 31, 32, 33, 34], [0, 1, 2, 3, 4, 5, 6, 7, 8, 9, 10, 11, 12, 13, 14, 15, 16, 17, 18, 19, 20, 21, 22, 23, 24, 25, 26, 27, 28, 29, 30, 31, 32, 33, 34, 35], [0, 1, 2, 3, 4, 5, 6, 7, 8, 9, 10, 11, 12, 13, 14, 15, 16, 17, 18, 19, 20, 21, 22, 23, 24, 25, 26, 27, 28, 29, 30, 31, 32, 33, 34, 35, 36], [0, 1, 2, 3, 4, 5, 6, 7, 8, 9, 10, 11, 12, 13, 14, 15, 16, 17, 18, 19, 20, 21, 22, 23, 24, 25, 26, 27, 28, 29, 30, 31, 32, 33, 34, 35], [0, 1, 2, 3, 4, 5, 6, 7, 8, 9, 10, 11, 12, 13, 14, 15, 16, 17, 18, 19, 20, 21, 22, 23, 24, 25, 26, 27, 28, 29, 30, 31, 32, 33, 34, 35, 38], [0, 1, 2, 3, 4, 5, 6, 7, 8, 9, 10, 11, 12, 13, 14, 15, 16, 17, 18, 19, 20, 21, 22, 23, 24, 25, 26, 27, 28, 29, 30, 31, 32, 33, 34, 35, 36, 37, 38, 39], [0, 1, 2, 3, 4, 5, 6, 7, 8, 9, 10, 11, 12, 13, 14, 15, 16, 17, 18, 19, 20, 21, 22, 23, 24, 25, 26, 27, 28, 29, 30, 31, 32, 33, 34, 35, 36, 37, 38, 39, 40], [0, 1, 2, 3, 4, 5, 6, 7, 8, 9, 10, 11, 12, 13, 14, 15, 16, 17, 18, 19, 20, 21, 22, 23, 24, 25, 26, 27, 28, 29, 30, 31, 32, 33, 34, 35, 36, 37, 38, 39, 40, 41], [0, 1, 2, 3, 4, 5, 6, 7, 8, 9, 10, 11, 12, 13, 14, 15, 16, 17, 18, 19, 20, 21, 22, 23, 24, 25, 26, 27, 28, 29, 30, 31, 32, 33, 34, 35, 36, 37, 38, 39, 40, 41, 42], [0, 1, 2, 3, 4, 5, 6, 7, 8, 9, 10, 11, 12, 13, 14, 15, 16, 17, 18, 19, 20, 21, 22, 23, 24, 25, 26, 27, 28, 29, 30, 31, 32, 33, 34, 35, 36, 37, 38, 39, 40, 41, 42, 43], [0, 1, 2, 3, 4, 5, 6, 7, 8, 9, 10, 11, 12, 13, 14, 15, 16, 17, 18, 19, 20, 21, 22, 23, 24, 25, 26, 27, 28, 29, 30, 31, 32, 33, 34, 35, 36, 37, 38, 39, 40, 41, 42], [0, 1, 2, 3, 4, 5, 6, 7, 8, 9, 10, 11, 12, 13, 14, 15, 16, 17, 18, 19, 20, 21, 22, 23, 24, 25, 26, 27, 28, 29, 30, 31, 32, 33, 34, 35, 36, 37, 38, 39, 40, 41, 42, 43, 44, 45], [0, 1, 2, 3, 4, 5, 6, 7, 8, 9, 10, 11, 12, 13, 14, 15, 16, 17, 18, 19, 20, 21, 22, 23, 24, 25, 26, 27, 28, 29, 30, 31, 32, 33, 34, 35, 36, 37, 38, 39, 40, 41, 42, 43, 44, 45, 46], [0, 1, 2, 3, 4, 5, 6, 7, 8, 9, 10, 11, 12, 13, 14, 15, 16, 17, 18, 19, 20, 21, 22, 23, 24, 25, 26, 27, 28, 29, 30, 31, 32, 33, 34, 35, 36, 37, 38, 39, 40, 41, 42, 43, 44, 45, 46, 47], [0, 1, 2, 3, 4, 5, 6, 7, 8, 9, 10, 11, 12, 13, 14, 15, 16, 17, 18, 19, 20, 21, 22, 23, 24, 25, 26, 27, 28, 29, 30, 31, 32, 33, 34, 35, 36, 37, 38, 39, 40, 41, 42, 43, 44, 45, 46, 47, 48]]⟩
  | 20 => some ⟨[0, 1, 2, 3, 4, 5, 6, 7, 8, 9, 10, 11, 12, 13, 14, 15, 16, 17, 18, 19, 20, 21, 22, 23, 24, 25, 26, 27, 28], .done, [[], [0], [0, 1], [0, 1], [0, 1, 3], [0, 1, 3, 4], [0, 1, 2, 3, 4, 5], [0, 1, 2, 3, 4, 5, 6], [0, 1, 2, 3, 4, 5, 6, 7], [0, 1, 2, 3, 4, 5, 6, 7, 8], [0, 1, 2, 3, 4, 5, 6, 7, 8, 9], [0, 1, 2, 3, 4, 5, 6, 7, 8], [0, 1, 2, 3, 4, 5, 6, 7, 8, 11], [0, 1, 2, 3, 4, 5, 6, 7, 8], [0, 1, 2, 3, 4, 5, 6, 7, 8, 11, 12, 13], [0, 1, 2, 3, 4, 5, 6, 7, 8, 11, 12, 13, 14], [0, 1, 2, 3, 4, 5, 6, 7, 8, 9, 10, 11, 12, 13, 14, 15], [0, 1, 2, 3, 4, 5, 6, 7, 8, 9, 10, 11, 12, 13, 14, 15, 16], [0, 1, 2, 3, 4, 5, 6, 7, 8, 9, 10, 11, 12, 13, 14, 15, 16, 17], [0, 1, 2, 3, 4, 5, 6, 7, 8, 9, 10, 11, 12, 13, 14, 15, 16, 17, 18], [0, 1, 2, 3, 4, 5, 6, 7, 8, 9, 10, 11, 12, 13, 14, 15, 16, 17, 18, 19], [0, 1, 2, 3, 4, 5, 6, 7, 8, 9, 10, 11, 12, 13, 14, 15, 16, 17, 18, 19], [0, 1, 2, 3, 4, 5, 6, 7, 8, 9, 10, 11, 12, 13, 14, 15, 16, 17, 18, 19, 21], [0, 1, 2, 3, 4, 5, 6, 7, 8, 9, 10, 11, 12, 13, 14, 15, 16, 17, 18, 19], [0, 1, 2, 3, 4, 5, 6, 7, 8, 9, 10, 11, 12, 13, 14, 15, 16, 17, 18, 19, 21, 22, 23], [0, 1, 2, 3, 4, 5, 6, 7, 8, 9, 10, 11, 12, 13, 14, 15, 16, 17, 18, 19, 21, 22, 23, 24], [0, 1, 2, 3, 4, 5, 6, 7, 8, 9, 10, 11, 12, 13, 14, 15, 16, 17, 18, 19, 20, 21, 22, 23, 24, 25], [0, 1, 2, 3, 4, 5, 6, 7, 8, 9, 10, 11, 12, 13, 14, 15, 16, 17, 18, 19, 20, 21, 22, 23, 24, 25, 26], [0, 1, 2, 3, 4, 5, 6, 7, 8, 9, 10, 11, 12, 13, 14, 15, 16, 17, 18, 19, 20, 21, 22, 23, 24, 25, 26, 27]]⟩
  | 22 => some ⟨[0, 1, 2, 3, 4, 5, 6, 7, 8, 9, 10, 11, 12, 13, 14, 15, 16, 17, 18, 19, 20, 21, 22, 23, 24, 25, 26, 27, 28, 29, 30, 31, 32, 33], .done, [[], [], [1], [0, 1, 2], [0, 1, 2, 3], [0, 1, 2, 3, 4], [0, 1, 2, 3, 4], [0, 1, 2, 3, 4], [0, 1, 2, 3, 4], [0, 1, 2, 3, 4, 7, 8], [0, 1, 2, 3, 4, 5, 6, 7, 8, 9], [0, 1, 2, 3, 4, 5, 6, 7, 8, 9, 10], [0, 1, 2, 3, 4, 5, 6, 7, 8, 9, 10, 11], [0, 1, 2, 3, 4, 5, 6, 7, 8, 9, 10, 11, 12], [0, 1, 2, 3, 4, 5, 6, 7, 8, 9, 10, 11, 12, 13], [0, 1, 2, 3, 4, 5, 6, 7, 8, 9, 10, 11, 12, 13, 14], [0, 1, 2, 3, 4, 5, 6, 7, 8, 9, 10, 11, 12, 13, 14, 15], [0, 1, 2, 3, 4, 5, 6, 7, 8, 9, 10, 11, 12, 13, 14, 15], [0, 1, 2, 3, 4, 5, 6, 7, 8, 9, 10, 11, 12, 13, 14, 15], [0, 1, 2, 3, 4, 5, 6, 7, 8, 9, 10, 11, 12, 13, 14, 15, 16, 17, 18], [0, 1, 2, 3, 4, 5, 6, 7, 8, 9, 10, 11, 12, 13, 14, 15, 16, 17, 18, 19], [0, 1, 2, 3, 4, 5, 6, 7, 8, 9, 10, 11, 12, 13, 14, 15, 16, 17, 18, 19, 20], [0, 1, 2, 3, 4, 5, 6, 7, 8, 9, 10, 11, 12, 13, 14, 15, 16, 17, 18, 19, 20], [0, 1, 2, 3, 4, 5, 6, 7, 8, 9, 10, 11, 12, 13, 14, 15, 16, 17, 18, 19, 20], [0, 1, 2, 3, 4, 5, 6, 7, 8, 9, 10, 11, 12, 13, 14, 15, 16, 17, 18, 19, 20], [0, 1, 2, 3, 4, 5, 6, 7, 8, 9, 10, 11, 12, 13, 14, 15, 16, 17, 18, 19, 20, 23, 24], [0, 1, 2, 3, 4, 5, 6, 7, 8, 9, 10, 11, 12, 13, 14, 15, 16, 17, 18, 19, 20, 21, 22, 23, 24, 25], [0, 1, 2, 3, 4, 5, 6, 7, 8, 9, 10, 11, 12, 13, 14, 15, 16, 17, 18, 19, 20, 21, 22, 23, 24, 25, 26], [0, 1, 2, 3, 4, 5, 6, 7, 8, 9, 10, 11, 12, 13, 14, 15, 16, 17, 18, 19, 20, 21, 22, 23, 24, 25, 26, 27], [0, 1, 2, 3, 4, 5, 6, 7, 8, 9, 10, 11, 12, 13, 14, 15, 16, 17, 18, 19, 20, 21, 22, 23, 24, 25, 26, 27, 28], [0, 1, 2, 3, 4, 5, 6, 7, 8, 9, 10, 11, 12, 13, 14, 15, 16, 17, 18, 19, 20, 21, 22, 23, 24, 25, 26, 27, 28, 29], [0, 1, 2, 3, 4, 5, 6, 7, 8, 9, 10, 11, 12, 13, 14, 15, 16, 17, 18, 19, 20, 21, 22, 23, 24, 25, 26, 27, 28, 29, 30], [0, 1, 2, 3, 4, 5, 6, 7, 8, 9, 10, 11, 12, 13, 14, 15, 16, 17, 18, 19, 20, 21, 22, 23, 24, 25, 26, 27, 28, 29, 30, 31], [0, 1, 2, 3, 4, 5, 6, 7, 8, 9, 10, 11, 12, 13, 14, 15, 16, 17, 18, 19, 20, 21, 22, 23, 24, 25, 26, 27, 28, 29, 30, 31, 32]]⟩
  | _ => none
def ac16 : ACode :=(.seq (.ops [uO 4 .box 0, oA 8 .mov [kF]]) (.seq (.seq (.ops [uO 28 lT9 4, uO 29 (.call 35) 28, uO 30 .not 29]) (.cond (.t 30) (.seq (.ops [oA 31 (.call 20) [], uM 8 31]) .ret) .skip)) (.seq (.ops [uO 33 lT9 4, uM 34 1, uM 35 2, oA 36 (.call 70) [.t 33, .t 34, .t 35], uM 32 36, uO 37 x0 32, uO 38 x1 32, oA 9 (.alloc z9) [], oA 10 (.alloc [.emp, .emp]) [], oZ (.store 9) [.t 9, .t 37], oZ (.store 2) [.t 10, .t 38]]) (.seq (.ops [uM 39 3, uO 40 (.conv .i64) 39, uO 41 fA5 4, uO 42 lF 41, oA 43 bA [.t 42, (kI 1)], uB 44 (.bin .rem) 40 43, uM 11 44]) (.seq (.ops [uO 46 lT9 9, uO 47 (.call 22) 46, uO 48 (.call 21) 47, uM 45 48, uO 49 x0 45, uO 50 x1 45, uM 12 49, uM 13 50]) (.seq (.ops [uO 52 lT9 9, uO 53 (.call 22) 52, uO 54 (.call 23) 53, uM 51 54, uO 55 x0 51, uO 56 x1 51, uM 14 55, uM 15 56]) (.seq (.draw [(false, uO 58 lT9 9), (false, uO 59 (.call 22) 58), (false, uO 60 lT2 10), (false, uO 61 (.call 38) 60), (false, uB 62 (.call 37) 59 61), (false, uM 57 62), (false, uO 63 x0 57), (false, uO 64 x1 57), (false, uM 16 63), (false, uM 17 64)] .done) (.seq (.ops [uO 66 lT9 9, uO 67 (.call 22) 66, uM 68 11, uB 69 (.call 44) 67 68, uM 65 69, uO 70 x0 65, uO 71 x1 65, uM 18 70, uM 19 71]) (.seq (.ops [uO 73 lT9 9, uO 74 (.call 22) 73, uM 75 11, uB 76 (.call 58) 74 75, uM 72 76, uO 77 x0 72, uO 78 x1 72, uM 20 77, uM 21 78]) (.seq (.ops [uO 80 lT9 9, uO 81 (.call 22) 80, uO 82 (.call 30) 81, uM 79 82, uO 83 x0 79, uO 84 x1 79, uM 22 83, uM 23 84]) (.seq (.ops [uO 86 lT9 9, uO 87 (.call 22) 86, uO 88 (.call 29) 87, uM 85 88, uO 89 x0 85, uO 90 x1 85, uM 24 89, uM 25 90]) (.seq (.seq (.draw [(false, uM 91 13), (false, oA 92 bN [.t 91, (kI 0)]), (false, uM 93 92), (false, gM 94 15 93 false), (false, oG 95 bN [.t 94, (kI 0)] 93 false), (false, oA 96 .pick [.t 93, kT, .t 95]), (false, uM 97 96), (false, gM 98 17 97 false), (false, oG 99 bN [.t 98, (kI 0)] 97 false), (false, oA 100 .pick [.t 97, kT, .t 99]), (false, uM 101 100), (false, gM 102 19 101 false), (false, oG 103 bN [.t 102, (kI 0)] 101 false), (false, oA 104 .pick [.t 101, kT, .t 103]), (false, uM 105 104), (false, gM 106 21 105 false), (false, oG 107 bN [.t 106, (kI 0)] 105 false), (false, gM 108 107 105 false), (false, gM 109 21 108 true), (false, oG 110 bN [.t 109, (kI 10)] 108 true), (false, oG 111 .pick [.t 108, .t 110, kF] 105 false), (false, oA 112 .pick [.t 105, kT, .t 111]), (false, uM 113 112), (false, gM 114 23 113 false), (false, oG 115 bN [.t 114, (kI 0)] 113 false), (false, oA 116 .pick [.t 113, kT, .t 115]), (false, uM 117 116), (false, gM 118 22 117 false), (false, gO 119 .len 118 117 false), (false, oG 120 bN [.t 119, (kI 0)] 117 false), (false, oA 121 .pick [.t 117, kT, .t 120]), (false, uM 122 121), (false, gM 123 25 122 false), (false, oG 124 bN [.t 123, (kI 7)] 122 false), (false, oA 125 .pick [.t 122, kT, .t 124]), (false, uM 126 125), (false, gM 127 12 126 false), (false, gO 128 .len 127 126 false), (false, gO 129 lT9 4 126 false), (false, gO 130 (.call 25) 129 126 false), (false, gB 131 bN 128 130 126 false), (false, oA 132 .pick [.t 126, kT, .t 131]), (false, uM 133 132), (false, gO 134 lT9 9 133 false), (false, gO 135 (.call 22) 134 133 false), (false, gO 136 lT2 10 133 false), (false, gO 137 (.call 38) 136 133 false), (false, gB 138 (.call 65) 135 137 133 false), (false, gO 139 .not 138 133 false), (false, oA 140 .pick [.t 133, kT, .t 139])] .done) (.cond (.t 140) (.seq (.ops [oA 8 .mov [kF]]) .ret) .skip)) (.seq (.seq (.ops [oA 26 .mov [(kI 0)]]) (.block 0 (.loop (.seq (.seq (.ops [uM 141 26, uM 142 12, uO 143 .len 142, uB 144 bL 141 143]) (.cond (.t 144) .skip (.exit 0))) (.seq (.block 1 (.seq (.ops [uM 147 16, uM 148 26, uB 149 (.call 40) 147 148, uM 27 149]) (.seq (.seq (.ops [uM 150 12, uM 151 26, uB 152 (.idxaddr 1) 150 151, uO 153 lF 152, oA 154 (.call 47) [.t 153, (kI 1), (kI 3)], uO 155 .not 154, uM 156 155, gM 157 12 156 false, gM 158 26 156 false, gB 159 (.idxaddr 1) 157 158 156 false, gO 160 lF 159 156 false, oG 161 bE [.t 160, (kI 1)] 156 false, gM 162 161 156 false, gM 163 27 162 true, gO 164 .not 163 162 true, oG 165 .pick [.t 162, .t 164, kF] 156 false, oA 166 .pick [.t 156, kT, .t 165], uM 167 166, gM 168 12 167 false, gM 169 26 167 false, gB 170 (.idxaddr 1) 168 169 167 false, gO 171 lF 170 167 false, oG 172 bE [.t 171, (kI 2)] 167 false, gM 173 172 167 false, gM 174 27 173 true, oG 175 .pick [.t 173, .t 174, kF] 167 false, oA 176 .pick [.t 167, kT, .t 175]]) (.cond (.t 176) (.seq (.ops [oA 8 .mov [kF]]) .ret) .skip)) (.seq (.draw [(false, uM 177 27), (false, uM 178 177), (false, gM 179 26 178 true), (false, gO 180 fA0 10 178 true), (false, gO 181 lF 180 178 true), (false, gO 182 .len 181 178 true), (false, gB 183 bL 179 182 178 true), (false, oA 184 .pick [.t 178, .t 183, kF]), (false, uM 185 184), (false, gO 186 fA3 4 185 true), (false, gO 187 lF 186 185 true), (false, gO 188 fA0 10 185 true), (false, gO 189 lF 188 185 true), (false, gM 190 26 185 true), (false, gB 191 (.idxaddr 1) 189 190 185 true), (false, gO 192 lF 191 185 true), (false, gB 193 (.call 40) 187 192 185 true), (false, gO 194 .not 193 185 true), (false, oA 195 .pick [.t 185, .t 194, kF]), (false, uM 196 195), (false, gM 197 14 196 true), (false, gO 198 fA0 10 196 true), (false, gO 199 lF 198 196 true), (false, gM 200 26 196 true), (false, gB 201 (.idxaddr 1) 199 200 196 true), (false, gO 202 lF 201 196 true), (false, gB 203 (.call 40) 197 202 196 true), (false, gO 204 .not 203 196 true), (false, oA 205 .pick [.t 196, .t 204, kF])] .done) (.cond (.t 205) (.seq (.ops [oA 8 .mov [kF]]) .ret) .skip))))) (.ops [uM 145 26, oA 146 bA [.t 145, (kI 1)], uM 26 146])))))) (.seq (.draw [(false, uM 206 18), (false, uO 207 lT9 4), (false, uO 208 (.call 25) 207), (false, uB 209 (.call 54) 206 208), (false, uM 210 209), (false, gO 211 lT9 9 210 true), (false, gO 212 lT2 10 210 true), (false, gM 213 18 210 true), (false, gM 214 11 210 true), (false, gB 215 (.call 56) 213 214 210 true), (false, oG 216 (.call 71) [.t 211, .t 212, .t 215] 210 true), (false, oA 217 .pick [.t 210, .t 216, kF]), (false, uM 218 217), (false, gM 219 21 218 true), (false, oG 220 bN [.t 219, (kI 0)] 218 true), (false, gM 221 220 218 true), (false, gO 222 lT9 9 221 false), (false, gM 223 20 221 false), (false, gM 224 11 221 false), (false, oG 225 (.call 60) [.t 222, .t 223, .t 224] 221 false), (false, gM 226 225 221 false), (false, gO 227 lT9 9 226 true), (false, gO 228 lT2 10 226 true), (false, gM 229 20 226 true), (false, gM 230 11 226 true), (false, gB 231 (.call 61) 229 230 226 true), (false, oG 232 (.call 71) [.t 227, .t 228, .t 231] 226 true), (false, oG 233 .pick [.t 226, .t 232, kF] 221 false), (false, oG 234 .pick [.t 221, kT, .t 233] 218 true), (false, oA 235 .pick [.t 218, .t 234, kF]), (false, uM 236 235), (false, oG 237 (.call 20) [] 236 true), (false, oA 238 .pick [.t 236, .t 237, kF]), (false, uM 8 238)] .done) .ret))))))))))))))
theorem fc16 : fnC Tryz.prog 16 cert16 = some (239, [.tmp 8], ac16) := by kernel_rfl
end Go.Lift
set_option maxRecDepth 100000
set_option linter.unusedVariables false
namespace Go.Lift
open Go Go.Proofs
def cert36 : Nat → Option Cert := fun
  | 9 => some ⟨[0, 1, 2, 3, 4, 5, 6, 7, 8, 9], (.one 10 (.one 11 .done)), [[], [], [], [1, 2], [1, 2, 3], [], [], [5, 6], [1, 2, 3, 4, 5, 6, 7], [1, 2, 3, 4, 5, 6, 7, 8], [0, 1, 2, 3, 4, 5, 6, 7, 8, 9], [0, 1, 2, 3, 4, 5, 6, 7, 8, 9, 10]]⟩
  | _ => none
def ac36 : ACode :=(.seq (.ops [uO 1 .box 0, oA 2 .mov [kE]]) (.seq (.ops [oA 3 .mov [kE]]) (.seq (.ops [uO 7 fA0 1, uO 8 lT3 7, uO 9 (.call 88) 8, uM 4 9]) (.seq (.seq (.ops [oA 5 .mov [(kI 0)]]) (.block 0 (.loop (.seq (.seq (.ops [uM 10 5, uM 11 4, uO 12 .len 11, uB 13 bL 10 12]) (.cond (.t 13) .skip (.exit 0))) (.seq (.block 1 (.seq (.ops [oA 6 .mov [(kI 0)]]) (.block 2 (.loop (.seq (.seq (.ops [uM 16 6, uO 17 lT9 1, uO 18 (.call 89) 17, uB 19 bL 16 18]) (.cond (.t 19) .skip (.exit 2))) (.seq (.block 3 (.draw [(false, uM 22 3), (false, uM 23 4), (false, uM 24 5), (false, uB 25 (.idxaddr 1) 23 24), (false, uO 26 lF 25), (false, uO 27 lT9 1), (false, uM 28 6), (false, uB 29 (.call 90) 27 28), (false, uB 30 (.build [.emp, .emp] [(0, 1), (1, 1)]) 26 29), (false, uO 31 (.bslice 2) 30)] (.one (uB 32 (.append 2 48) 22 31) [] (.one (uM 3 32) [] .done)))) (.ops [uM 20 6, oA 21 bA [.t 20, (kI 1)], uM 6 21]))))))) (.ops [uM 14 5, oA 15 bA [.t 14, (kI 1)], uM 5 15])))))) (.seq (.ops [uM 33 3, uM 2 33]) .ret)))))
theorem fc36 : fnC Tryz.prog 36 cert36 = some (34, [.tmp 2], ac36) := by kernel_rfl
def cert56 : Nat → Option Cert := fun _ => none
def ac56 : ACode :=(.seq (.ops [oA 4 .mov [kE]]) (.seq (.ops [oA 5 .mov [kE]]) (.seq (.seq (.ops [oA 6 .mov [(kI 0)]]) (.block 0 (.loop (.seq (.seq (.ops [uM 7 6, uM 8 0, uO 9 .len 8, uB 10 bL 7 9]) (.cond (.t 10) .skip (.exit 0))) (.seq (.block 1 (.ops [uM 13 5, uM 14 0, uM 15 6, uB 16 (.idxaddr 1) 14 15, uO 17 lF 16, uM 18 1, uB 19 (.build [(.int .i64 0), (.int .i64 0)] [(0, 1), (1, 1)]) 17 18, uO 20 (.bslice 2) 19, uB 21 (.append 2 16) 13 20, uM 5 21])) (.ops [uM 11 6, oA 12 bA [.t 11, (kI 1)], uM 6 12])))))) (.seq (.ops [uM 22 5, uM 4 22]) .ret))))
theorem fc56 : fnC Tryz.prog 56 cert56 = some (23, [.tmp 4], ac56) := by kernel_rfl
def cert60 : Nat → Option Cert := fun
  | 4 => some ⟨[0, 1, 2, 3, 4, 5, 6], .done, [[], [], [], [1, 2], [1, 2, 3], [0, 1, 2, 3, 4], [0, 1, 2, 3, 4, 5]]⟩
  | _ => none
def ac60 : ACode :=(.seq (.ops [uO 3 .box 0, oA 6 .mov [kF]]) (.seq (.seq (.ops [oA 7 .mov [(kI 0)]]) (.block 0 (.loop (.seq (.seq (.ops [uM 8 7, uM 9 1, uO 10 .len 9, uB 11 bL 8 10]) (.cond (.t 11) .skip (.exit 0))) (.seq (.block 1 (.seq (.draw [(false, uO 14 lT9 3), (false, uM 15 1), (false, uM 16 7), (false, uB 17 (.idxaddr 1) 15 16), (false, uO 18 lF 17), (false, uB 19 (.call 96) 14 18), (false, uO 20 .not 19)] .done) (.cond (.t 20) (.seq (.ops [oA 6 .mov [kF]]) .ret) .skip))) (.ops [uM 12 7, oA 13 bA [.t 12, (kI 1)], uM 7 13])))))) (.seq (.ops [uM 21 1, uO 22 .len 21, oA 23 (.bin .leq) [.t 22, (kI 3)], uM 24 23, gM 25 2 24 true, gM 26 1 24 true, gO 27 .len 26 24 true, gB 28 bA 25 27 24 true, oG 29 (.bin .sub) [.t 28, (kI 1)] 24 true, gO 30 fA5 3 24 true, gO 31 lF 30 24 true, gB 32 (.bin .leq) 29 31 24 true, oA 33 .pick [.t 24, .t 32, kF], uM 6 33]) .ret)))
theorem fc60 : fnC Tryz.prog 60 cert60 = some (34, [.tmp 6], ac60) := by kernel_rfl
def cert61 : Nat → Option Cert := fun _ => none
def ac61 : ACode :=(.seq (.ops [oA 4 .mov [kE]]) (.seq (.ops [oA 5 .mov [kE]]) (.seq (.seq (.ops [oA 6 .mov [(kI 0)]]) (.block 0 (.loop (.seq (.seq (.ops [uM 7 6, uM 8 0, uO 9 .len 8, uB 10 bL 7 9]) (.cond (.t 10) .skip (.exit 0))) (.seq (.block 1 (.ops [uM 13 5, uM 14 0, uM 15 6, uB 16 (.idxaddr 1) 14 15, uO 17 lF 16, uM 18 1, uM 19 6, uB 20 bA 18 19, uB 21 (.build [(.int .i64 0), (.int .i64 0)] [(0, 1), (1, 1)]) 17 20, uO 22 (.bslice 2) 21, uB 23 (.append 2 16) 13 22, uM 5 23])) (.ops [uM 11 6, oA 12 bA [.t 11, (kI 1)], uM 6 12])))))) (.seq (.ops [uM 24 5, uM 4 24]) .ret))))
theorem fc61 : fnC Tryz.prog 61 cert61 = some (25, [.tmp 4], ac61) := by kernel_rfl
def cert69 : Nat → Option Cert := fun
  | 1 => some ⟨[0, 1, 2, 3, 4, 6, 8, 9], (.one 5 (.one 7 (.one 10 (.one 11 .done)))), [[], [], [], [], [3], [2, 3, 4], [], [2, 3, 4, 5, 6], [], [8], [0, 1, 2, 3, 4, 5, 6, 7, 8, 9], [0, 1, 2, 3, 4, 5, 6, 7, 8, 9, 10]]⟩
  | _ => none
def ac69 : ACode :=(.seq (.ops [uO 3 .box 0, uO 4 .box 1, oA 6 .mov [(kI 0)]]) (.seq (.draw [(true, uO 7 lT9 3), (true, uO 8 lT2 4), (false, oA 9 (.bslice 2) []), (false, uO 10 fA7 3), (false, uO 11 lF 10), (true, uM 13 2), (true, uO 15 fA5 3), (true, uO 16 lF 15)] (.one (uB 12 (.append 2 16) 9 11) [uO 7 lT9 3, uO 8 lT2 4, uO 16 lF 15] (.one (uB 14 (.append 2 16) 12 13) [uO 7 lT9 3, uO 8 lT2 4, uO 16 lF 15] (.one (oA 17 (.call 123) [.t 7, .t 8, .t 14, .t 16]) [] (.one (uM 6 17) [] .done))))) .ret))
theorem fc69 : fnC Tryz.prog 69 cert69 = some (18, [.tmp 6], ac69) := by kernel_rfl
def cert70 : Nat → Option Cert := fun
  | 8 => some ⟨[0, 1, 2, 3, 4, 5, 6, 7], .done, [[], [], [1], [0, 1, 2], [], [0, 1, 2, 3, 4], [0, 1, 2, 3, 4, 5], [0, 1, 2, 3, 4, 5, 6]]⟩
  | 9 => some ⟨[0, 1, 2, 3, 4, 5, 6, 7, 8, 9, 10], (.one 11 (.one 12 (.one 13 .done))), [[], [0], [], [], [], [3, 4], [3, 4, 5], [], [3, 4, 5, 6, 7], [2, 3, 4, 5, 6, 7, 8], [2, 3, 4, 5, 6, 7, 8, 9], [0, 1, 2, 3, 4, 5, 6, 7, 8, 9, 10], [0, 1, 2, 3, 4, 5, 6, 7, 8, 9, 10, 11], [0, 1, 2, 3, 4, 5, 6, 7, 8, 9, 10, 11, 12]]⟩
  | 10 => some ⟨[0, 1], (.one 2 (.one 3 .done)), [[], [], [0], [0, 1, 2]]⟩
  | _ => none
def ac70 : ACode :=(.seq (.ops [uO 3 .box 0, oA 6 (.alloc z9) [], oA 7 (.alloc [.emp, .emp]) []]) (.seq (.ops [uO 13 lT9 3, uO 14 (.call 36) 13, uM 8 14]) (.seq (.ops [uM 15 8, uM 16 1, uO 17 (.conv .i64) 16, uM 18 8, uO 19 .len 18, uB 20 (.bin .rem) 17 19, uB 21 (.idxaddr 2) 15 20, uO 22 lT2 21, oA 9 (.alloc [.emp, .emp]) [], oZ (.store 2) [.t 9, .t 22]]) (.seq (.ops [uO 23 lT9 3, oA 10 (.alloc z9) [], oZ (.store 9) [.t 10, .t 23]]) (.seq (.ops [uO 24 fA8 10, oZ (.store 1) [.t 24, kE]]) (.seq (.seq (.ops [oA 11 .mov [(kI 0)]]) (.block 0 (.loop (.seq (.seq (.ops [uM 25 11, uM 26 2, oA 27 (.call 124) [.t 26, (kI 0)], oA 28 (.bin .rem) [.t 27, (kI 6)], uB 29 bL 25 28, uM 30 29, gO 31 lT9 3 30 true, gO 32 (.call 25) 31 30 true, oG 33 (.bin .gtr) [.t 32, (kI 0)] 30 true, oA 34 .pick [.t 30, .t 33, kF]]) (.cond (.t 34) .skip (.exit 0))) (.seq (.block 1 (.seq (.draw [(false, uM 37 2), (false, uM 38 11), (false, oA 39 bA [.t 38, (kI 1)]), (false, uB 40 (.call 124) 37 39), (false, uO 41 lT9 3), (false, uO 42 (.call 25) 41), (false, uB 43 (.bin .rem) 40 42), (false, uM 12 43)] .done) (.draw [(false, uO 44 fA8 10), (false, uO 45 lF 44), (false, uM 46 12), (false, uO 47 lT9 3), (false, uO 48 lT2 9), (false, oA 49 (.call 69) [.t 47, .t 48, kE]), (false, uO 50 (.call 51) 49), (false, uM 51 12), (false, uB 52 (.call 40) 50 51), (false, uB 53 (.build [(.int .i64 0), (.bool false)] [(0, 1), (1, 1)]) 46 52), (false, uO 54 (.bslice 2) 53)] (.one (uB 55 (.append 2 16) 45 54) [] (.one (uO 56 fA8 10) [] (.one (oZ (.store 1) [.t 56, .t 55]) [] .done)))))) (.ops [uM 35 11, oA 36 bA [.t 35, (kI 1)], uM 11 36])))))) (.seq (.draw [(false, uO 57 lT9 10), (true, uO 58 lT2 9)] (.one (oZ (.store 9) [.t 6, .t 57]) [uO 58 lT2 9] (.one (oZ (.store 2) [.t 7, .t 58]) [] .done))) .ret)))))))
theorem fc70 : fnC Tryz.prog 70 cert70 = some (59, [.cell 6 31, .cell 7 63], ac70) := by kernel_rfl
def cert71 : Nat → Option Cert := fun _ => none
def ac71 : ACode :=(.seq (.ops [uO 3 .box 0, uO 4 .box 1, oA 6 .mov [kF]]) (.seq (.ops [uO 9 lT9 3, uO 10 lT2 4, uM 11 2, oA 12 (.call 69) [.t 9, .t 10, .t 11], uM 7 12]) (.seq (.seq (.ops [oA 8 .mov [(kI 0)]]) (.block 0 (.loop (.seq (.seq (.ops [uM 13 8, uO 14 fA0 3, uO 15 fA0 14, uO 16 lF 15, uO 17 .len 16, uB 18 bL 13 17]) (.cond (.t 18) .skip (.exit 0))) (.seq (.block 1 (.seq (.ops [uO 21 lT9 3, uO 22 lT2 4, uM 23 7, uM 24 8, oA 25 (.call 82) [.t 21, .t 22, .t 23, .t 24]]) (.cond (.t 25) (.seq (.ops [oA 6 .mov [kF]]) .ret) .skip))) (.ops [uM 19 8, oA 20 bA [.t 19, (kI 1)], uM 8 20])))))) (.seq (.ops [oA 6 .mov [kT]]) .ret))))
theorem fc71 : fnC Tryz.prog 71 cert71 = some (26, [.tmp 6], ac71) := by kernel_rfl
end Go.Lift
set_option maxRecDepth 100000
set_option linter.unusedVariables false
namespace Go.Lift
open Go Go.Proofs
def cert82 : Nat → Option Cert := fun _ => none
def ac82 : ACode :=(.seq (.ops [uO 4 .box 0, uO 5 .box 1, oA 8 .mov [kF]]) (.seq (.seq (.ops [uO 10 fA3 4, uO 11 lF 10, uM 12 3, uB 13 (.call 40) 11 12]) (.cond (.t 13) (.seq (.ops [oA 8 .mov [kF]]) .ret) .skip)) (.seq (.seq (.ops [oA 9 .mov [(kI 0)]]) (.block 0 (.loop (.seq (.seq (.ops [uM 14 9, uO 15 fA0 5, uO 16 lF 15, uO 17 .len 16, uB 18 bL 14 17]) (.cond (.t 18) .skip (.exit 0))) (.seq (.block 1 (.seq (.ops [uO 21 fA0 5, uO 22 lF 21, uM 23 9, uB 24 (.idxaddr 1) 22 23, uO 25 lF 24, uM 26 3, uB 27 bE 25 26, uM 28 27, gM 29 2 28 true, gM 30 9 28 true, gO 31 (.conv .u64) 30 28 true, oG 32 (.bin .shl) [(kI 1), .t 31] 28 true, gB 33 (.bin .and) 29 32 28 true, oG 34 bN [.t 33, (kI 0)] 28 true, oA 35 .pick [.t 28, .t 34, kF]]) (.cond (.t 35) (.seq (.ops [oA 8 .mov [kT]]) .ret) .skip))) (.ops [uM 19 9, oA 20 bA [.t 19, (kI 1)], uM 9 20])))))) (.seq (.ops [oA 8 .mov [kF]]) .ret))))
theorem fc82 : fnC Tryz.prog 82 cert82 = some (36, [.tmp 8], ac82) := by kernel_rfl
def cert90 : Nat → Option Cert := fun
  | 7 => some ⟨[0, 1, 2, 3, 4, 5, 6, 7], (.one 8 (.one 9 .done)), [[], [], [1], [], [], [3, 4], [1, 2, 3, 4, 5], [1, 2, 3, 4, 5, 6], [0, 1, 2, 3, 4, 5, 6, 7], [0, 1, 2, 3, 4, 5, 6, 7, 8]]⟩
  | _ => none
def ac90 : ACode :=(.seq (.ops [uO 2 .box 0, oA 4 .mov [kE]]) (.seq (.ops [oA 5 .mov [kE]]) (.seq (.seq (.ops [oA 6 .mov [(kI 0)]]) (.block 0 (.loop (.seq (.seq (.ops [uM 9 6, uO 10 fA6 2, uO 11 lF 10, uO 12 .len 11, uB 13 bL 9 12]) (.cond (.t 13) .skip (.exit 0))) (.seq (.block 1 (.seq (.ops [uO 16 fA6 2, uO 17 lF 16, uM 18 6, uB 19 (.idxaddr 4) 17 18, uO 20 fA2 19, uO 21 lT2 20, oA 7 (.alloc [(.int .i64 0), (.int .i64 0)]) [], oZ (.store 2) [.t 7, .t 21]]) (.seq (.ops [uO 22 fA1 7, uO 23 lF 22, uO 24 fA0 7, uO 25 lF 24, uB 26 (.bin .sub) 23 25, oA 27 bA [.t 26, (kI 1)], uM 8 27]) (.seq (.draw [(false, uM 28 5), (false, uO 29 fA0 7), (false, uO 30 lF 29), (false, uM 31 1), (false, uM 32 8), (false, uB 33 (.bin .rem) 31 32), (false, uB 34 bA 30 33), (false, uO 35 (.bslice 1) 34)] (.one (uB 36 (.append 1 8) 28 35) [] (.one (uM 5 36) [] .done))) (.ops [uM 37 1, uM 38 8, uB 39 (.bin .quo) 37 38, uM 1 39]))))) (.ops [uM 14 6, oA 15 bA [.t 14, (kI 1)], uM 6 15])))))) (.seq (.ops [uM 40 5, uM 4 40]) .ret))))
theorem fc90 : fnC Tryz.prog 90 cert90 = some (41, [.tmp 4], ac90) := by kernel_rfl
def cert123 : Nat → Option Cert := fun
  | 6 => some ⟨[0, 1, 2, 3, 4, 5, 6, 7], .done, [[], [0], [], [2], [], [2, 3, 4], [2, 3, 4, 5], [0, 1, 2, 3, 4, 5, 6]]⟩
  | 18 => some ⟨[0, 1, 2, 3, 4, 5, 6, 7, 8, 9, 10, 11, 12, 13, 14, 15, 16, 17], .done, [[], [0], [], [0, 1, 2], [0, 1, 2, 3], [0, 1, 2, 3, 4], [0, 1, 2, 3, 4, 5], [0, 1, 2, 3, 4, 5, 6], [], [8], [], [8, 9, 10], [8, 9, 10, 11], [8, 9, 10, 11, 12], [8, 9, 10, 11, 12, 13], [8, 9, 10, 11, 12, 13, 14], [0, 1, 2, 3, 4, 5, 6, 7, 8, 9, 10, 11, 12, 13, 14, 15], [0, 1, 2, 3, 4, 5, 6, 7, 8, 9, 10, 11, 12, 13, 14, 15, 16]]⟩
  | _ => none
def ac123 : ACode :=(.seq (.ops [uO 4 .box 0, uO 5 .box 1, oA 8 .mov [(kI 0)]]) (.seq (.ops [oA 9 .mov [(kI 0)]]) (.seq (.seq (.ops [uM 14 3, oA 15 bL [.t 14, (kI 0)]]) (.cond (.t 15) (.seq (.seq (.ops [oA 10 .mov [(kI 0)]]) (.block 0 (.loop (.seq (.seq (.ops [uM 16 10, uO 17 fA0 5, uO 18 lF 17, uO 19 .len 18, uB 20 bL 16 19]) (.cond (.t 20) .skip (.exit 0))) (.seq (.block 1 (.seq (.draw [(false, uO 23 fA3 4), (false, uO 24 lF 23), (false, uO 25 fA0 5), (false, uO 26 lF 25), (false, uM 27 10), (false, uB 28 (.idxaddr 1) 26 27), (false, uO 29 lF 28), (false, uB 30 (.call 40) 24 29)] .done) (.cond (.t 30) (.ops [uM 31 9, uM 32 10, uO 33 (.conv .u64) 32, oA 34 (.bin .shl) [(kI 1), .t 33], uB 35 (.bin .or) 31 34, uM 9 35]) .skip))) (.ops [uM 21 10, oA 22 bA [.t 21, (kI 1)], uM 10 22])))))) (.seq (.ops [uM 36 9, uM 8 36]) .ret)) .skip)) (.seq (.ops [uO 37 lT9 4, uO 38 lT2 5, uM 39 2, uM 40 3, oA 41 (.bin .sub) [.t 40, (kI 1)], oA 42 (.call 123) [.t 37, .t 38, .t 39, .t 41], uM 9 42]) (.seq (.seq (.ops [oA 11 .mov [(kI 0)]]) (.block 2 (.loop (.seq (.seq (.ops [uM 43 11, uO 44 lT9 4, uO 45 (.call 25) 44, uB 46 bL 43 45]) (.cond (.t 46) .skip (.exit 2))) (.seq (.block 3 (.seq (.ops [uM 49 2, uM 50 11, uM 51 3, oA 52 (.call 151) [.t 49, .t 50, .t 51]]) (.cond (.t 52) (.ops [uM 53 9, uM 54 11, uO 55 (.conv .u64) 54, oA 56 (.bin .shl) [(kI 1), .t 55], uB 57 (.bin .andNot) 53 56, uM 9 57]) .skip))) (.ops [uM 47 11, oA 48 bA [.t 47, (kI 1)], uM 11 48])))))) (.seq (.seq (.ops [oA 12 .mov [(kI 0)]]) (.block 4 (.loop (.seq (.seq (.ops [uM 58 12, uO 59 fA6 4, uO 60 lF 59, uO 61 .len 60, uB 62 bL 58 61]) (.cond (.t 62) .skip (.exit 4))) (.seq (.block 5 (.seq (.draw [(false, uO 65 fA6 4), (false, uO 66 lF 65), (false, uM 67 12), (false, uB 68 (.idxaddr 4) 66 67), (false, uO 69 fA0 68), (false, uO 70 lF 69), (false, uO 71 (.conv .u64) 70), (false, oA 72 (.bin .shl) [(kI 1), .t 71]), (false, uO 73 fA6 4), (false, uO 74 lF 73), (false, uM 75 12), (false, uB 76 (.idxaddr 4) 74 75), (false, uO 77 fA1 76), (false, uO 78 lF 77), (false, uO 79 (.conv .u64) 78), (false, oA 80 (.bin .shl) [(kI 1), .t 79]), (false, uB 81 (.bin .or) 72 80), (false, uM 13 81)] .done) (.seq (.ops [uO 82 fA1 5, uO 83 lF 82, uM 84 12, uB 85 (.idxaddr 1) 83 84, uO 86 lF 85, uM 87 3, uB 88 bE 86 87, uM 89 88, gM 90 9 89 true, gM 91 13 89 true, gB 92 (.bin .and) 90 91 89 true, oG 93 bN [.t 92, (kI 0)] 89 true, oA 94 .pick [.t 89, .t 93, kF]]) (.cond (.t 94) (.ops [uM 95 9, uM 96 13, uB 97 (.bin .or) 95 96, uM 9 97]) .skip)))) (.ops [uM 63 12, oA 64 bA [.t 63, (kI 1)], uM 12 64])))))) (.seq (.ops [uM 98 9, uM 8 98]) .ret)))))))
theorem fc123 : fnC Tryz.prog 123 cert123 = some (99, [.tmp 8], ac123) := by kernel_rfl
def cert124 : Nat → Option Cert := fun _ => none
def ac124 : ACode :=(.seq (.ops [oA 4 .mov [(kI 0)]]) (.seq (.seq (.ops [uM 5 0, uO 6 .len 5, oA 7 bE [.t 6, (kI 0)]]) (.cond (.t 7) (.seq (.ops [oA 4 .mov [(kI 0)]]) .ret) .skip)) (.seq (.ops [uM 8 0, uM 9 1, uM 10 0, uO 11 .len 10, uB 12 (.bin .rem) 9 11, uB 13 (.idxaddr 1) 8 12, uO 14 lF 13, uO 15 (.conv .i64) 14, uM 4 15]) .ret)))
theorem fc124 : fnC Tryz.prog 124 cert124 = some (16, [.tmp 4], ac124) := by kernel_rfl
def cert151 : Nat → Option Cert := fun _ => none
def ac151 : ACode :=(.seq (.ops [oA 6 .mov [kF]]) (.seq (.seq (.ops [oA 7 .mov [(kI 0)]]) (.block 0 (.loop (.seq (.seq (.ops [uM 8 7, uM 9 0, uO 10 .len 9, uB 11 bL 8 10]) (.cond (.t 11) .skip (.exit 0))) (.seq (.block 1 (.seq (.ops [uM 14 0, uM 15 7, uB 16 (.idxaddr 2) 14 15, uO 17 fA0 16, uO 18 lF 17, uM 19 1, uB 20 bE 18 19, uM 21 20, gM 22 0 21 true, gM 23 7 21 true, gB 24 (.idxaddr 2) 22 23 21 true, gO 25 fA1 24 21 true, gO 26 lF 25 21 true, gM 27 2 21 true, gB 28 bE 26 27 21 true, oA 29 .pick [.t 21, .t 28, kF]]) (.cond (.t 29) (.seq (.ops [oA 6 .mov [kT]]) .ret) .skip))) (.ops [uM 12 7, oA 13 bA [.t 12, (kI 1)], uM 7 13])))))) (.seq (.ops [oA 6 .mov [kF]]) .ret)))
theorem fc151 : fnC Tryz.prog 151 cert151 = some (30, [.tmp 6], ac151) := by kernel_rfl
end Go.Lift
set_option linter.unusedSimpArgs false
set_option linter.unusedVariables false
namespace Go.Lift
open Go Go.Proofs
theorem w_and {a b : Nat} (ha : a < 2 ^ 62) (hb : b < 2 ^ 62) : IntKind.i64.wrap (((BitVec.ofInt IntKind.i64.bits (a : Int) &&& BitVec.ofInt IntKind.i64.bits (b : Int)).toNat : Nat) : Int) = ((a &&& b : Nat) : Int) := by
  have h1 : (BitVec.ofInt IntKind.i64.bits (a : Int) &&& BitVec.ofInt IntKind.i64.bits (b : Int)).toNat = a &&& b := by
    rw [bv_nat, bv_nat]
    show (BitVec.ofNat 64 a &&& BitVec.ofNat 64 b).toNat = _
    rw [BitVec.toNat_and, BitVec.toNat_ofNat, BitVec.toNat_ofNat, Nat.mod_eq_of_lt (by omega), Nat.mod_eq_of_lt (by omega)]
  have h2 := Nat.and_lt_two_pow a hb
  rw [h1, w64 (by omega) (by omega)]
theorem bitsL_natOf {c : List Bool} (hc : c.length ≤ 62) : bitsL (natOf c) = truesUpto c c.length := by
  rw [bitsL_of hc (natOf_lt c), bitsUpto, truesUpto]
  congr 1
  apply List.filter_congr
  intro i _
  rw [natOf_bit]
end Go.Lift

set_option linter.unusedSimpArgs false
set_option linter.unusedVariables false
namespace Go.Lift
open Go Go.Proofs
def beforeL : List Int → List Int → Bool
  | a :: xs, b :: bs => if a = b then beforeL xs bs else decide (a < b)
  | [], bs => decide (0 < bs.length)
  | _ :: _, [] => false
def shorterL (a b : List Int) : Bool := decide (a.length < b.length) || (decide (a.length = b.length) && beforeL a b)
end Go.Lift

set_option linter.unusedSimpArgs false
set_option linter.unusedVariables false
namespace Go.Lift
open Go Go.Proofs
theorem natOf_set_t {c : List Bool} {i : Nat} (h : i < c.length) : natOf (c.set i true) = natOf c ||| 2 ^ i := by
  apply Nat.eq_of_testBit_eq
  intro j
  rw [Nat.testBit_or, natOf_bit, natOf_bit, Nat.testBit_two_pow, List.getD_eq_getElem?_getD, List.getElem?_set]
  by_cases hij : i = j
  · subst hij; simp [h]
  · simp [hij, List.getD_eq_getElem?_getD]
theorem natOf_set_f {c : List Bool} {i : Nat} (h : i < c.length) : natOf (c.set i false) = andN (natOf c) (2 ^ i) := by
  apply Nat.eq_of_testBit_eq
  intro j
  rw [andN_bit, natOf_bit, natOf_bit, Nat.testBit_two_pow, List.getD_eq_getElem?_getD, List.getElem?_set]
  by_cases hij : i = j
  · subst hij; simp [h]
  · simp [hij, List.getD_eq_getElem?_getD]
theorem natOf_and {c : List Bool} {i : Nat} : natOf c &&& 2 ^ i ≠ 0 ↔ c.getD i false = true := by
  rw [← natOf_bit]
  constructor
  · intro h
    cases hb : (natOf c).testBit i
    · exfalso; apply h
      apply Nat.eq_of_testBit_eq
      intro j
      rw [Nat.testBit_and, Nat.testBit_two_pow, Nat.zero_testBit]
      by_cases hij : i = j
      · subst hij; simp [hb]
      · simp [hij]
    · rfl
  · intro h h0
    have := congrArg (fun n => n.testBit i) h0
    simp [Nat.testBit_and, Nat.testBit_two_pow, h] at this
theorem natOf_and2 {c : List Bool} {a b : Nat} : natOf c &&& (2 ^ a ||| 2 ^ b) ≠ 0 ↔ (c.getD a false || c.getD b false) = true := by
  have h1 : natOf c &&& (2 ^ a ||| 2 ^ b) = (natOf c &&& 2 ^ a) ||| (natOf c &&& 2 ^ b) := Nat.and_or_distrib_left ..
  rw [h1, Bool.or_eq_true, ← natOf_and, ← natOf_and]
  generalize natOf c &&& 2 ^ a = x
  generalize natOf c &&& 2 ^ b = y
  constructor
  · intro h
    by_cases hx : x = 0
    · right; intro hy; apply h; rw [hx, hy]; rfl
    · exact .inl hx
  · intro h h0
    have := Nat.or_eq_zero_iff.1 h0
    rcases h with h | h
    · exact h this.1
    · exact h this.2
theorem isBoiled_c (l : List Boiling) (n k : Int) (hl : Sm l.length) : Pure Tryz.prog 151 [.slice (l.map eB), i6 n, i6 k] (.bool (decide ((n, k) ∈ l.map bKey))) := by
  intro H
  unfold Sm at hl
  refine fn_of hmix fc151 (by simp) ?_
  rw [ienv3]
  simp only [go_sem, reduceIte, reduceCtorEq, Nat.reduceEqDiff, Nat.reduceBEq, Nat.reduceAdd, Nat.reduceMul, Nat.reduceLeDiff, ac151]
  refine x_for l.length (fun j env H1 => H1 = H ∧ (n, k) ∉ (l.take j).map bKey ∧ env 0 = .slice (l.map eB) ∧ env 1 = i6 n ∧ env 2 = i6 k ∧ env 7 = i6 j ∧ env 30 = .any) (by simp [upd_at]) ?_
  rintro j env H1 hj ⟨rfl, hq, g0, g1, g2, g7, hN⟩
  by_cases hlt : (j : Int) < (l.length : Int)
  · have hlt' : j < l.length := by omega
    have hsn : (n, k) ∈ (l.take (j + 1)).map bKey ↔ (n, k) ∈ (l.take j).map bKey ∨ (l[j].thing = n ∧ l[j].hour = k) := by
      rw [take_snoc hlt', List.map_append, List.mem_append]
      simp only [List.map_cons, List.map_nil, List.mem_singleton, bKey, Prod.mk.injEq]
      constructor <;> rintro (h | ⟨h1, h2⟩)
      · exact .inl h
      · exact .inr ⟨h1.symm, h2.symm⟩
      · exact .inl h
      · exact .inr ⟨h1.symm, h2.symm⟩
    by_cases c1 : l[j].thing = n
    · by_cases c2 : l[j].hour = k
      · simp only [go_sem, reduceIte, reduceCtorEq, Nat.reduceEqDiff, Nat.reduceBEq, Nat.reduceAdd, Nat.reduceMul, Nat.reduceLeDiff, g0, g1, g2, g7, hN, hlt, map_get (f := eB) hlt', eB, take_f', List.getElem?_cons_zero, List.getElem?_cons_succ, c1, c2]
        refine fin_ret' 6 (by simp [upd_at, hN]) ?_
        simp only [upd_at, if_true, and_true, AV.bool.injEq]
        symm; rw [decide_eq_true_eq]
        have h1 := hsn.2 (.inr ⟨c1, c2⟩)
        rw [List.mem_map] at h1 ⊢
        obtain ⟨x, hx, hx2⟩ := h1
        exact ⟨x, List.mem_of_mem_take hx, hx2⟩
      · simp only [go_sem, reduceIte, reduceCtorEq, Nat.reduceEqDiff, Nat.reduceBEq, Nat.reduceAdd, Nat.reduceMul, Nat.reduceLeDiff, g0, g1, g2, g7, hN, hlt, map_get (f := eB) hlt', eB, take_f', List.getElem?_cons_zero, List.getElem?_cons_succ, c1, c2, wsucc (show j < 4611686018427387904 by omega), hlt']
        intro h; rcases hsn.1 h with h | h
        · exact hq h
        · exact c2 h.2
    · simp only [go_sem, reduceIte, reduceCtorEq, Nat.reduceEqDiff, Nat.reduceBEq, Nat.reduceAdd, Nat.reduceMul, Nat.reduceLeDiff, g0, g1, g2, g7, hN, hlt, map_get (f := eB) hlt', eB, take_f', List.getElem?_cons_zero, c1, wsucc (show j < 4611686018427387904 by omega), hlt']
      intro h; rcases hsn.1 h with h | h
      · exact hq h
      · exact c1 h.1
  · simp only [go_sem, reduceIte, reduceCtorEq, Nat.reduceEqDiff, Nat.reduceBEq, Nat.reduceAdd, Nat.reduceMul, Nat.reduceLeDiff, g0, g1, g2, g7, hN, hlt]
    have : j = l.length := by omega
    subst this
    rw [List.take_length] at hq
    refine fin_ret' 6 (by simp [upd_at, hN]) ?_
    simp only [upd_at, if_true, and_true, AV.bool.injEq]
    exact (decide_eq_false hq).symm
theorem startOf_out (h : House) (o : List Int) : ∀ (j i : Nat), j ≤ i → (startOf h o j).getD i false = false
  | 0, i, _ => by simp only [startOf, List.range_zero, List.foldl_nil]; rw [List.getD_eq_getElem?_getD, List.getElem?_replicate]; split <;> rfl
  | j + 1, i, hi => by
    have ih := startOf_out h o j i (by omega)
    simp only [startOf, range_fold]
    rw [sickAt, List.getD_eq_getElem?_getD, List.getElem?_set_ne (by omega), ← List.getD_eq_getElem?_getD]
    exact ih
theorem startOf_nat (h : House) (o : List Int) (j : Nat) (hj : j < 10) : natOf (startOf h o (j + 1)) = if o.getD j 0 ∈ h.sick then natOf (startOf h o j) ||| 2 ^ j else natOf (startOf h o j) := by
  have hl := startOf_len h o j
  have h1 : startOf h o (j + 1) = (startOf h o j).set j (decide (o.getD j 0 ∈ h.sick)) := by simp only [startOf, range_fold]; rfl
  rw [h1]
  by_cases hm : o.getD j 0 ∈ h.sick
  · rw [if_pos hm, decide_eq_true hm, natOf_set_t (by omega)]
  · rw [if_neg hm, decide_eq_false hm, natOf_set_f (by omega)]
    apply Nat.eq_of_testBit_eq
    intro i
    rw [andN_bit, Nat.testBit_two_pow, natOf_bit]
    by_cases hij : j = i
    · subst hij; rw [startOf_out h o j j (Nat.le_refl _)]; rfl
    · simp [hij]
theorem pad6_get (l : List Int) (i : Nat) (h : i < l.length) : (pad6 l).getD i 0 = l[i] := by
  rw [pad6, List.getD_eq_getElem?_getD, List.getElem?_append_left h]; simp [h]
theorem carriers_c (h : House) (hv : HV h) (c : Course) (hc : CLen h c) (l : List Boiling) (hl : Sm l.length) :
    ∀ k : Nat, k ≤ 6 → Pure Tryz.prog 123 [eH h, eC c, .slice (l.map eB), i6 ((k : Int) - 1)] (i6 (natOf (hoursOf h (pad7 c.owners) (pad6 c.hours) (l.map bKey) k) : Nat)) := by
  have hp7 := hv.ok.pcs
  have hm6 := hv.ok.touches
  have h7 : c.owners.length ≤ 7 := by have := hc.own; omega
  have hnT := nT_le hv.ok
  intro k
  induction k with
  | zero =>
    intro _ H
    refine fn_of hmix fc123 (by simp) ?_
    rw [ienv4]
    simp only [go_sem, reduceIte, reduceCtorEq, Nat.reduceEqDiff, Nat.reduceBEq, Nat.reduceAdd, Nat.reduceMul, Nat.reduceLeDiff, ac123, eH, eC, show (((0 : Nat) : Int) - 1 < 0) by omega]
    refine v_box _ rfl fun b4 hb4 => ?_
    simp only [go_sem, reduceIte, reduceCtorEq, Nat.reduceEqDiff, Nat.reduceBEq, Nat.reduceAdd, Nat.reduceMul, Nat.reduceLeDiff, show (((0 : Nat) : Int) - 1 < 0) by omega]
    refine v_box _ rfl fun b5 hb5 => ?_
    have n45 : b4 ≠ b5 := fun h => by subst h; simp at hb5
    simp only [go_sem, reduceIte, reduceCtorEq, Nat.reduceEqDiff, Nat.reduceBEq, Nat.reduceAdd, Nat.reduceMul, Nat.reduceLeDiff, show (((0 : Nat) : Int) - 1 < 0) by omega]
    have e2 := ((Ext.refl H).new hb4 (.box [.slice (h.table.women.map eW), .slice (h.table.pieces.map eP), i6 h.table.wrong, .slice (eI h.sick), i6 h.others, i6 h.last, .slice (h.touches.map eTo), .slice (h.boiled.map eB), .slice (h.signs.map eS)])).new hb5 (.box [.slice (eI c.owners), .slice (eI c.hours)])
    refine x_for c.owners.length (fun j env H1 => Ext H H1 ∧ H1 b4 = some (.box [.slice (h.table.women.map eW), .slice (h.table.pieces.map eP), i6 h.table.wrong, .slice (eI h.sick), i6 h.others, i6 h.last, .slice (h.touches.map eTo), .slice (h.boiled.map eB), .slice (h.signs.map eS)]) ∧ H1 b5 = some (.box [.slice (eI c.owners), .slice (eI c.hours)]) ∧ env 4 = .ptr b4 0 ∧ env 5 = .ptr b5 0 ∧ env 9 = i6 (natOf (startOf h (pad7 c.owners) j) : Nat) ∧ env 10 = i6 j ∧ env 99 = .any)
      ⟨e2, by rw [updH_ne _ _ n45]; exact updH_same _ _ _, updH_same _ _ _, by simp [upd_at], by simp [upd_at], by simp [upd_at, startOf, natOf], by simp [upd_at], by simp [upd_at]⟩ ?_
    rintro j env H1 hj ⟨hE, hB4, hB5, g4, g5, g9, g10, hN⟩
    by_cases hlt : (j : Int) < (c.owners.length : Int)
    · have hlt' : j < c.owners.length := by omega
      have hgo : (pad7 c.owners).getD j 0 = c.owners[j] := by rw [pad7_get _ _ hlt']; simp [hlt']
      have hst := startOf_nat h (pad7 c.owners) j (by omega)
      rw [hgo] at hst
      simp only [go_sem, reduceIte, reduceCtorEq, Nat.reduceEqDiff, Nat.reduceBEq, Nat.reduceAdd, Nat.reduceMul, Nat.reduceLeDiff, g4, g5, g9, g10, hN, hB4, hB5, hlt, take_f', List.getElem?_cons_zero, eI_get hlt']
      refine pgo_call (has_c h.sick c.owners[j] hv.ok.sk) ?_
      by_cases hm : c.owners[j] ∈ h.sick
      · have hor := w_or (natOf_lt62 (c := startOf h (pad7 c.owners) j) (by rw [startOf_len]; omega)) (two_lt (show j < 62 by omega))
        simp only [↓aops_nil, ↓aops_go, ↓aops_go0, ↓aops_if, ↓k_cont, ↓k_cont0, g_tt, g_ff, g_tf, g_ft, g_u, ↓apre_nil, ↓apre_if, ↓apre_go, pgo_det, Tag.isCall, popt_some, gp_tt, gp_ff, gp_tf, gp_ft, gp_u, ↓k_draw, opt_some, List.map_cons, List.map_nil, ev, upd_at, ↓x_skip, ↓x_label, ↓x_ret, ↓x_exit, ↓x_seq, ↓x_block, ↓x_ops, ↓x_cond, x_sel_t, x_sel_f, ↓x_draw, ↓q_kseq_n, ↓q_kseq_r, ↓q_kseq_e, ↓q_block_n, ↓q_block_r, ↓q_block_e, ↓q_loop_n, ↓q_loop_r, ↓q_loop_e, ↓l_done, d_mov, d_pick, d_not, d_nilchk, d_nilchk', d_conv, d_add, d_sub, d_mul, d_quo, d_rem, d_shl, d_shr, d_and, d_or, d_andnot, d_eql, d_neq, d_lss, d_leq, d_gtr, d_geq, d_eqb, d_neqb, d_mkfunc, d_load, d_fieldaddr, d_fieldaddr', d_field_t, d_field_f, d_idxaddr, d_idxaddr_g, elemO_some, d_idxaddr_m, d_arraddr, d_arraddr', d_idx_f, d_sub_s, d_sub_g, d_arrsub, d_arrall, d_extract, d_len, d_len_g, d_len_e, d_len_m, d_min, d_build, d_bslice0, d_bs1, d_bs2, d_bsa, d_eqagg, v_mov, v_pick, v_not, v_nilchk, v_conv, v_bin, v_binb, v_eqagg, v_mkfunc, v_load, v_fieldaddr, v_field, v_idxaddr, v_arraddr, v_idx, v_sub, v_arrsub, v_arrall, v_extract, v_len, v_min, v_build, v_bslice, v_lookup, v_call, v_callv, Nat.reduceEqDiff, Nat.reduceBEq, reduceIte, ite_true, ite_false, Bool.false_eq_true, Bool.true_eq_false, if_true, if_false, decide_eq_true_eq, decide_eq_false_iff_not, decide_true, decide_false, Nat.zero_add, Nat.add_zero, Nat.reduceAdd, reduceCtorEq, eq_self, not_true_eq_false, not_false_eq_true, Bool.not_true, Bool.not_false, Nat.reduceMul, List.length_cons, List.length_nil, at_elem, take_f, take_tt, Int.toNat_natCast, Option.some.injEq, Option.bind_some, Int.natCast_nonneg, true_and, and_true, and_self, ↓q_for_n, ↓q_for_r, ↓q_for_e, eI_len, List.length_map, at_obj, obj_box, updH_same, Nat.reduceLeDiff, Nat.zero_le, Nat.le_refl, List.drop_zero, List.drop_succ_cons, List.take_succ_cons, List.take_zero, c_agg, c_int, c_bool, c_slice, c_emp, c_grow, ↓l_one0, ↓l_one1, ↓k_l0, ↓k_l1, stab_nil, stab_cons, stab_if, st_tt, st_ff, st_tf, st_ft, st_u, hm, g4, g5, g9, g10, hN, u64w (show j < 2 ^ 62 by omega), w_shl1 (show j < 62 by omega), show ¬ ((j : Int) < 0) by omega, hor, wsucc (show j < 4611686018427387904 by omega), hlt', hB4, hB5]
        refine ⟨hE, ?_⟩
        rw [hst, if_pos hm]
      · simp only [go_sem, reduceIte, reduceCtorEq, Nat.reduceEqDiff, Nat.reduceBEq, Nat.reduceAdd, Nat.reduceMul, Nat.reduceLeDiff, hm, g4, g5, g9, g10, hN, wsucc (show j < 4611686018427387904 by omega), hlt', hB4, hB5]
        refine ⟨hE, ?_⟩
        rw [hst, if_neg hm]
    · simp only [go_sem, reduceIte, reduceCtorEq, Nat.reduceEqDiff, Nat.reduceBEq, Nat.reduceAdd, Nat.reduceMul, Nat.reduceLeDiff, g4, g5, g9, g10, hN, hB4, hB5, hlt, take_f', List.getElem?_cons_zero]
      have : j = c.owners.length := by omega
      subst this
      refine fin_ret 8 (by simp [upd_at, hN]) ⟨_, H, Settle.refl hE, ?_, rfl⟩
      simp [upd_at, hoursOf, hc.own]
  | succ k ih =>
    intro hk H
    have ih' := ih (by omega)
    have hcast : ((k + 1 : Nat) : Int) - 1 = (k : Int) := by omega
    have hdec : IntKind.i64.wrap ((k : Int) - 1) = (k : Int) - 1 := w64 (by omega) (by omega)
    rw [hcast]
    refine fn_of hmix fc123 (by simp) ?_
    rw [ienv4]
    simp only [go_sem, reduceIte, reduceCtorEq, Nat.reduceEqDiff, Nat.reduceBEq, Nat.reduceAdd, Nat.reduceMul, Nat.reduceLeDiff, ac123, eH, eC]
    refine v_box _ rfl fun b4 hb4 => ?_
    simp only [go_sem, reduceIte, reduceCtorEq, Nat.reduceEqDiff, Nat.reduceBEq, Nat.reduceAdd, Nat.reduceMul, Nat.reduceLeDiff]
    refine v_box _ rfl fun b5 hb5 => ?_
    have n45 : b4 ≠ b5 := fun h => by subst h; simp at hb5
    simp only [go_sem, reduceIte, reduceCtorEq, Nat.reduceEqDiff, Nat.reduceBEq, Nat.reduceAdd, Nat.reduceMul, Nat.reduceLeDiff, show ¬ ((k : Int) < 0) by omega, updH_ne _ _ n45, hdec]
    have e2 := ((Ext.refl H).new hb4 (.box [.slice (h.table.women.map eW), .slice (h.table.pieces.map eP), i6 h.table.wrong, .slice (eI h.sick), i6 h.others, i6 h.last, .slice (h.touches.map eTo), .slice (h.boiled.map eB), .slice (h.signs.map eS)])).new hb5 (.box [.slice (eI c.owners), .slice (eI c.hours)])
    refine ih'.go ?_
    obtain ⟨c0, hc0⟩ : ∃ c0, c0 = hoursOf h (pad7 c.owners) (pad6 c.hours) (l.map bKey) k := ⟨_, rfl⟩
    have hc0l : c0.length = 10 := by rw [hc0]; exact hoursOf_len _ _ _ _ _
    rw [← hc0]
    have hfin : hoursOf h (pad7 c.owners) (pad6 c.hours) (l.map bKey) (k + 1) = touchOf h (pad6 c.hours) k (boilOf (l.map bKey) k c0 (nT h)) h.touches.length := by
      simp only [hoursOf, range_fold]; rw [hc0]; rfl
    rw [hfin]
    simp only [go_sem, reduceIte, reduceCtorEq, Nat.reduceEqDiff, Nat.reduceBEq, Nat.reduceAdd, Nat.reduceMul, Nat.reduceLeDiff]
    refine x_for (nT h) (fun j env H1 => Ext H H1 ∧ H1 b4 = some (.box [.slice (h.table.women.map eW), .slice (h.table.pieces.map eP), i6 h.table.wrong, .slice (eI h.sick), i6 h.others, i6 h.last, .slice (h.touches.map eTo), .slice (h.boiled.map eB), .slice (h.signs.map eS)]) ∧ H1 b5 = some (.box [.slice (eI c.owners), .slice (eI c.hours)]) ∧ env 2 = .slice (l.map eB) ∧ env 3 = i6 k ∧ env 4 = .ptr b4 0 ∧ env 5 = .ptr b5 0 ∧ env 9 = i6 (natOf (boilOf (l.map bKey) k c0 j) : Nat) ∧ env 11 = i6 j ∧ env 99 = .any)
      ⟨e2, by rw [updH_ne _ _ n45]; exact updH_same _ _ _, updH_same _ _ _, by simp [upd_at], by simp [upd_at], by simp [upd_at], by simp [upd_at], by simp [upd_at, boilOf], by simp [upd_at], by simp [upd_at]⟩ ?_
    rintro j env H1 hj ⟨hE, hB4, hB5, g2, g3, g4, g5, g9, g11, hN⟩
    have hbl := boilOf_len (l.map bKey) k c0 j hc0l
    simp only [go_sem, reduceIte, reduceCtorEq, Nat.reduceEqDiff, Nat.reduceBEq, Nat.reduceAdd, Nat.reduceMul, Nat.reduceLeDiff, g2, g3, g4, g5, g9, g11, hN, hB4]
    refine (thingsR_c h).go ?_
    rw [thingsW_ok hv.ok]
    by_cases hlt : (j : Int) < (nT h : Int)
    · have hlt' : j < nT h := by omega
      simp only [go_sem, reduceIte, reduceCtorEq, Nat.reduceEqDiff, Nat.reduceBEq, Nat.reduceAdd, Nat.reduceMul, Nat.reduceLeDiff, g2, g3, g4, g5, g9, g11, hN, hlt]
      refine (isBoiled_c l j k hl).go ?_
      have hst : boilOf (l.map bKey) k c0 (j + 1) = if ((j : Int), (k : Int)) ∈ l.map bKey then (boilOf (l.map bKey) k c0 j).set j false else boilOf (l.map bKey) k c0 j := by
        simp only [boilOf, range_fold]; rfl
      by_cases hin : ((j : Int), (k : Int)) ∈ l.map bKey
      · have handn := w_andN (natOf_lt62 (c := boilOf (l.map bKey) k c0 j) (by omega)) (two_lt (show j < 62 by omega))
        simp only [↓aops_nil, ↓aops_go, ↓aops_go0, ↓aops_if, ↓k_cont, ↓k_cont0, g_tt, g_ff, g_tf, g_ft, g_u, ↓apre_nil, ↓apre_if, ↓apre_go, pgo_det, Tag.isCall, popt_some, gp_tt, gp_ff, gp_tf, gp_ft, gp_u, ↓k_draw, opt_some, List.map_cons, List.map_nil, ev, upd_at, ↓x_skip, ↓x_label, ↓x_ret, ↓x_exit, ↓x_seq, ↓x_block, ↓x_ops, ↓x_cond, x_sel_t, x_sel_f, ↓x_draw, ↓q_kseq_n, ↓q_kseq_r, ↓q_kseq_e, ↓q_block_n, ↓q_block_r, ↓q_block_e, ↓q_loop_n, ↓q_loop_r, ↓q_loop_e, ↓l_done, d_mov, d_pick, d_not, d_nilchk, d_nilchk', d_conv, d_add, d_sub, d_mul, d_quo, d_rem, d_shl, d_shr, d_and, d_or, d_andnot, d_eql, d_neq, d_lss, d_leq, d_gtr, d_geq, d_eqb, d_neqb, d_mkfunc, d_load, d_fieldaddr, d_fieldaddr', d_field_t, d_field_f, d_idxaddr, d_idxaddr_g, elemO_some, d_idxaddr_m, d_arraddr, d_arraddr', d_idx_f, d_sub_s, d_sub_g, d_arrsub, d_arrall, d_extract, d_len, d_len_g, d_len_e, d_len_m, d_min, d_build, d_bslice0, d_bs1, d_bs2, d_bsa, d_eqagg, v_mov, v_pick, v_not, v_nilchk, v_conv, v_bin, v_binb, v_eqagg, v_mkfunc, v_load, v_fieldaddr, v_field, v_idxaddr, v_arraddr, v_idx, v_sub, v_arrsub, v_arrall, v_extract, v_len, v_min, v_build, v_bslice, v_lookup, v_call, v_callv, Nat.reduceEqDiff, Nat.reduceBEq, reduceIte, ite_true, ite_false, Bool.false_eq_true, Bool.true_eq_false, if_true, if_false, decide_eq_true_eq, decide_eq_false_iff_not, decide_true, decide_false, Nat.zero_add, Nat.add_zero, Nat.reduceAdd, reduceCtorEq, eq_self, not_true_eq_false, not_false_eq_true, Bool.not_true, Bool.not_false, Nat.reduceMul, List.length_cons, List.length_nil, at_elem, take_f, take_tt, Int.toNat_natCast, Option.some.injEq, Option.bind_some, Int.natCast_nonneg, true_and, and_true, and_self, ↓q_for_n, ↓q_for_r, ↓q_for_e, eI_len, List.length_map, at_obj, obj_box, updH_same, Nat.reduceLeDiff, Nat.zero_le, Nat.le_refl, List.drop_zero, List.drop_succ_cons, List.take_succ_cons, List.take_zero, c_agg, c_int, c_bool, c_slice, c_emp, c_grow, hin, g2, g3, g4, g5, g9, g11, hN, u64w (show j < 2 ^ 62 by omega), w_shl1 (show j < 62 by omega), show ¬ ((j : Int) < 0) by omega, handn, wsucc (show j < 4611686018427387904 by omega), hlt', hB4, hB5]
        refine ⟨hE, ?_⟩
        rw [hst, if_pos hin, natOf_set_f (by omega)]
      · simp only [go_sem, reduceIte, reduceCtorEq, Nat.reduceEqDiff, Nat.reduceBEq, Nat.reduceAdd, Nat.reduceMul, Nat.reduceLeDiff, hin, g2, g3, g4, g5, g9, g11, hN, wsucc (show j < 4611686018427387904 by omega), hlt', hB4, hB5]
        refine ⟨hE, ?_⟩
        rw [hst, if_neg hin]
    have hj' : j = nT h := by omega
    subst hj'
    simp only [go_sem, reduceIte, reduceCtorEq, Nat.reduceEqDiff, Nat.reduceBEq, Nat.reduceAdd, Nat.reduceMul, Nat.reduceLeDiff, g2, g3, g4, g5, g9, g11, hN, hlt]
    obtain ⟨c1, hc1⟩ : ∃ c1, c1 = boilOf (l.map bKey) k c0 (nT h) := ⟨_, rfl⟩
    have hc1l : c1.length = 10 := by rw [hc1]; exact boilOf_len _ _ _ _ hc0l
    rw [← hc1] at g9 ⊢
    refine x_for h.touches.length (fun j env H1 => Ext H H1 ∧ H1 b4 = some (.box [.slice (h.table.women.map eW), .slice (h.table.pieces.map eP), i6 h.table.wrong, .slice (eI h.sick), i6 h.others, i6 h.last, .slice (h.touches.map eTo), .slice (h.boiled.map eB), .slice (h.signs.map eS)]) ∧ H1 b5 = some (.box [.slice (eI c.owners), .slice (eI c.hours)]) ∧ env 3 = i6 k ∧ env 4 = .ptr b4 0 ∧ env 5 = .ptr b5 0 ∧ env 9 = i6 (natOf (touchOf h (pad6 c.hours) k c1 j) : Nat) ∧ env 12 = i6 j ∧ env 99 = .any)
      ⟨hE, hB4, hB5, by simp [upd_at, g3], by simp [upd_at, g4], by simp [upd_at, g5], by simp [upd_at, g9, touchOf], by simp [upd_at], by simp [upd_at, hN]⟩ ?_
    clear hE hB4 hB5 g2 g3 g4 g5 g9 g11 hN hlt hj hbl env H1
    rintro j env H1 hj ⟨hE, hB4, hB5, g3, g4, g5, g9, g12, hN⟩
    by_cases hlt : (j : Int) < (h.touches.length : Int)
    rotate_left
    · have : j = h.touches.length := by omega
      subst this
      simp only [go_sem, reduceIte, reduceCtorEq, Nat.reduceEqDiff, Nat.reduceBEq, Nat.reduceAdd, Nat.reduceMul, Nat.reduceLeDiff, g3, g4, g5, g9, g12, hN, hlt, hB4, take_f', List.getElem?_cons_zero]
      refine fin_ret 8 (by simp [upd_at, hN]) ⟨_, H, Settle.refl hE, ?_, rfl⟩
      simp [upd_at]
    have hlt' : j < h.touches.length := by omega
    have hlth : j < c.hours.length := by have := hc.hrs; omega
    have hget : h.touches.getD j default = h.touches[j] := by simp [hlt']
    obtain ⟨a, b, ha, hb, ha10, hb10⟩ := hv.ok.touch _ (List.getElem_mem hlt')
    have htl := touchOf_len h (pad6 c.hours) k c1 j hc1l
    have hpg := pad6_get c.hours j hlth
    have hst : touchOf h (pad6 c.hours) k c1 (j + 1) = if c.hours[j] = (k : Int) ∧ ((touchOf h (pad6 c.hours) k c1 j).getD a false || (touchOf h (pad6 c.hours) k c1 j).getD b false) = true then ((touchOf h (pad6 c.hours) k c1 j).set a true).set b true else touchOf h (pad6 c.hours) k c1 j := by
      simp only [touchOf, range_fold]
      rw [touchAt, hget, ha, hb, hpg]; simp only [Int.toNat_natCast]; rfl
    obtain ⟨ct, hct⟩ : ∃ ct, ct = touchOf h (pad6 c.hours) k c1 j := ⟨_, rfl⟩
    rw [← hct] at g9 htl hst
    have hpair := w_or (two_lt (show a < 62 by omega)) (two_lt (show b < 62 by omega))
    have hpl : (2 ^ a ||| 2 ^ b) < 2 ^ 62 := Nat.or_lt_two_pow (two_lt (by omega)) (two_lt (by omega))
    have hcl := natOf_lt62 (c := ct) (by omega)
    have handp := w_and hcl hpl
    have horp := w_or hcl hpl
    by_cases c1 : c.hours[j] = (k : Int)
    rotate_left
    · simp only [go_sem, reduceIte, reduceCtorEq, Nat.reduceEqDiff, Nat.reduceBEq, Nat.reduceAdd, Nat.reduceMul, Nat.reduceLeDiff, g3, g4, g5, g9, g12, hN, hlt, hB4, hB5, take_f', List.getElem?_cons_zero, List.getElem?_cons_succ, map_get (f := eTo) hlt', eTo, ha, hb, u64w (show a < 2 ^ 62 by omega), u64w (show b < 2 ^ 62 by omega), w_shl1 (show a < 62 by omega), w_shl1 (show b < 62 by omega), show ¬ ((a : Int) < 0) by omega, show ¬ ((b : Int) < 0) by omega, hpair, eI_get hlth, c1, wsucc (show j < 4611686018427387904 by omega), hlt']
      refine ⟨hE, ?_⟩
      rw [hst, if_neg (fun h => c1 h.1)]
    by_cases c2 : natOf ct &&& (2 ^ a ||| 2 ^ b) = 0
    · have c2' : ((natOf ct &&& (2 ^ a ||| 2 ^ b) : Nat) : Int) = 0 := by rw [c2]; rfl
      simp only [↓aops_nil, ↓aops_go, ↓aops_go0, ↓aops_if, ↓k_cont, ↓k_cont0, g_tt, g_ff, g_tf, g_ft, g_u, ↓apre_nil, ↓apre_if, ↓apre_go, pgo_det, Tag.isCall, popt_some, gp_tt, gp_ff, gp_tf, gp_ft, gp_u, ↓k_draw, opt_some, List.map_cons, List.map_nil, ev, upd_at, ↓x_skip, ↓x_label, ↓x_ret, ↓x_exit, ↓x_seq, ↓x_block, ↓x_ops, ↓x_cond, x_sel_t, x_sel_f, ↓x_draw, ↓q_kseq_n, ↓q_kseq_r, ↓q_kseq_e, ↓q_block_n, ↓q_block_r, ↓q_block_e, ↓q_loop_n, ↓q_loop_r, ↓q_loop_e, ↓l_done, d_mov, d_pick, d_not, d_nilchk, d_nilchk', d_conv, d_add, d_sub, d_mul, d_quo, d_rem, d_shl, d_shr, d_and, d_or, d_andnot, d_eql, d_neq, d_lss, d_leq, d_gtr, d_geq, d_eqb, d_neqb, d_mkfunc, d_load, d_fieldaddr, d_fieldaddr', d_field_t, d_field_f, d_idxaddr, d_idxaddr_g, elemO_some, d_idxaddr_m, d_arraddr, d_arraddr', d_idx_f, d_sub_s, d_sub_g, d_arrsub, d_arrall, d_extract, d_len, d_len_g, d_len_e, d_len_m, d_min, d_build, d_bslice0, d_bs1, d_bs2, d_bsa, d_eqagg, v_mov, v_pick, v_not, v_nilchk, v_conv, v_bin, v_binb, v_eqagg, v_mkfunc, v_load, v_fieldaddr, v_field, v_idxaddr, v_arraddr, v_idx, v_sub, v_arrsub, v_arrall, v_extract, v_len, v_min, v_build, v_bslice, v_lookup, v_call, v_callv, Nat.reduceEqDiff, Nat.reduceBEq, reduceIte, ite_true, ite_false, Bool.false_eq_true, Bool.true_eq_false, if_true, if_false, decide_eq_true_eq, decide_eq_false_iff_not, decide_true, decide_false, Nat.zero_add, Nat.add_zero, Nat.reduceAdd, reduceCtorEq, eq_self, not_true_eq_false, not_false_eq_true, Bool.not_true, Bool.not_false, Nat.reduceMul, List.length_cons, List.length_nil, at_elem, take_f, take_tt, Int.toNat_natCast, Option.some.injEq, Option.bind_some, Int.natCast_nonneg, true_and, and_true, and_self, ↓q_for_n, ↓q_for_r, ↓q_for_e, eI_len, List.length_map, at_obj, obj_box, updH_same, Nat.reduceLeDiff, Nat.zero_le, Nat.le_refl, List.drop_zero, List.drop_succ_cons, List.take_succ_cons, List.take_zero, c_agg, c_int, c_bool, c_slice, c_emp, c_grow, ↓l_one0, ↓l_one1, ↓k_l0, ↓k_l1, stab_nil, stab_cons, stab_if, st_tt, st_ff, st_tf, st_ft, st_u, g3, g4, g5, g9, g12, hN, hlt, hB4, hB5, take_f', List.getElem?_cons_zero, List.getElem?_cons_succ, map_get (f := eTo) hlt', eTo, ha, hb, u64w (show a < 2 ^ 62 by omega), u64w (show b < 2 ^ 62 by omega), w_shl1 (show a < 62 by omega), w_shl1 (show b < 62 by omega), show ¬ ((a : Int) < 0) by omega, show ¬ ((b : Int) < 0) by omega, hpair, eI_get hlth, c1, handp, c2', wsucc (show j < 4611686018427387904 by omega), hlt']
      refine ⟨hE, ?_⟩
      rw [hst, if_neg (fun h => natOf_and2.2 h.2 c2)]
    · have c2' : ¬ ((natOf ct &&& (2 ^ a ||| 2 ^ b) : Nat) : Int) = 0 := by omega
      simp only [↓aops_nil, ↓aops_go, ↓aops_go0, ↓aops_if, ↓k_cont, ↓k_cont0, g_tt, g_ff, g_tf, g_ft, g_u, ↓apre_nil, ↓apre_if, ↓apre_go, pgo_det, Tag.isCall, popt_some, gp_tt, gp_ff, gp_tf, gp_ft, gp_u, ↓k_draw, opt_some, List.map_cons, List.map_nil, ev, upd_at, ↓x_skip, ↓x_label, ↓x_ret, ↓x_exit, ↓x_seq, ↓x_block, ↓x_ops, ↓x_cond, x_sel_t, x_sel_f, ↓x_draw, ↓q_kseq_n, ↓q_kseq_r, ↓q_kseq_e, ↓q_block_n, ↓q_block_r, ↓q_block_e, ↓q_loop_n, ↓q_loop_r, ↓q_loop_e, ↓l_done, d_mov, d_pick, d_not, d_nilchk, d_nilchk', d_conv, d_add, d_sub, d_mul, d_quo, d_rem, d_shl, d_shr, d_and, d_or, d_andnot, d_eql, d_neq, d_lss, d_leq, d_gtr, d_geq, d_eqb, d_neqb, d_mkfunc, d_load, d_fieldaddr, d_fieldaddr', d_field_t, d_field_f, d_idxaddr, d_idxaddr_g, elemO_some, d_idxaddr_m, d_arraddr, d_arraddr', d_idx_f, d_sub_s, d_sub_g, d_arrsub, d_arrall, d_extract, d_len, d_len_g, d_len_e, d_len_m, d_min, d_build, d_bslice0, d_bs1, d_bs2, d_bsa, d_eqagg, v_mov, v_pick, v_not, v_nilchk, v_conv, v_bin, v_binb, v_eqagg, v_mkfunc, v_load, v_fieldaddr, v_field, v_idxaddr, v_arraddr, v_idx, v_sub, v_arrsub, v_arrall, v_extract, v_len, v_min, v_build, v_bslice, v_lookup, v_call, v_callv, Nat.reduceEqDiff, Nat.reduceBEq, reduceIte, ite_true, ite_false, Bool.false_eq_true, Bool.true_eq_false, if_true, if_false, decide_eq_true_eq, decide_eq_false_iff_not, decide_true, decide_false, Nat.zero_add, Nat.add_zero, Nat.reduceAdd, reduceCtorEq, eq_self, not_true_eq_false, not_false_eq_true, Bool.not_true, Bool.not_false, Nat.reduceMul, List.length_cons, List.length_nil, at_elem, take_f, take_tt, Int.toNat_natCast, Option.some.injEq, Option.bind_some, Int.natCast_nonneg, true_and, and_true, and_self, ↓q_for_n, ↓q_for_r, ↓q_for_e, eI_len, List.length_map, at_obj, obj_box, updH_same, Nat.reduceLeDiff, Nat.zero_le, Nat.le_refl, List.drop_zero, List.drop_succ_cons, List.take_succ_cons, List.take_zero, c_agg, c_int, c_bool, c_slice, c_emp, c_grow, ↓l_one0, ↓l_one1, ↓k_l0, ↓k_l1, stab_nil, stab_cons, stab_if, st_tt, st_ff, st_tf, st_ft, st_u, g3, g4, g5, g9, g12, hN, hlt, hB4, hB5, take_f', List.getElem?_cons_zero, List.getElem?_cons_succ, map_get (f := eTo) hlt', eTo, ha, hb, u64w (show a < 2 ^ 62 by omega), u64w (show b < 2 ^ 62 by omega), w_shl1 (show a < 62 by omega), w_shl1 (show b < 62 by omega), show ¬ ((a : Int) < 0) by omega, show ¬ ((b : Int) < 0) by omega, hpair, eI_get hlth, c1, handp, c2', horp, wsucc (show j < 4611686018427387904 by omega), hlt']
      refine ⟨hE, ?_⟩
      rw [hst, if_pos ⟨c1, natOf_and2.1 c2⟩, natOf_set_t (by simp; omega), natOf_set_t (by omega), Nat.or_assoc]
end Go.Lift

set_option linter.unusedSimpArgs false
set_option linter.unusedVariables false
namespace Go.Lift
open Go Go.Proofs
theorem ACalls.arg2 {P : Program} {f : FuncId} {a b x y d : AV} {H : AHeap} {R : AV → AHeap → Prop} (h : ∀ w v, Rep H w v x → Rep H w v y) (hc : ACalls P f [a, b, y, d] H R) : ACalls P f [a, b, x, d] H R :=
  ACalls.weaken (xs := [a, b, x, d]) (ys := [a, b, y, d]) rfl (hc := hc) fun i p q hp hq w v hr => by
    match i, hp, hq with
    | 0, hp, hq => cases hp; cases hq; exact hr
    | 1, hp, hq => cases hp; cases hq; exact hr
    | 2, hp, hq => cases hp; cases hq; exact h w v hr
    | 3, hp, hq => cases hp; cases hq; exact hr
theorem last_c (h : House) (hv : HV h) (c : Course) (hc : CLen h c) (more : List Boiling) (hm : more.length ≤ 1000) : Pure Tryz.prog 69 [eH h, eC c, .slice (more.map eB)] (i6 (natOf (lastOf h c more) : Nat)) := by
  intro H
  obtain ⟨nl, hl1, hl2⟩ := hv.ok.last
  have hb4 := hv.ok.boiled
  refine fn_of hmix fc69 (by simp) ?_
  rw [ienv3]
  simp only [go_sem, reduceIte, reduceCtorEq, Nat.reduceEqDiff, Nat.reduceBEq, Nat.reduceAdd, Nat.reduceMul, Nat.reduceLeDiff, ac69, eH, eC]
  refine v_box _ rfl fun b3 hb3 => ?_
  simp only [go_sem, reduceIte, reduceCtorEq, Nat.reduceEqDiff, Nat.reduceBEq, Nat.reduceAdd, Nat.reduceMul, Nat.reduceLeDiff]
  refine v_box _ rfl fun b5 hb5 => ?_
  have n35 : b3 ≠ b5 := fun h => by subst h; simp at hb5
  have e2 := ((Ext.refl H).new hb3 (.box [.slice (h.table.women.map eW), .slice (h.table.pieces.map eP), i6 h.table.wrong, .slice (eI h.sick), i6 h.others, i6 h.last, .slice (h.touches.map eTo), .slice (h.boiled.map eB), .slice (h.signs.map eS)])).new hb5 (.box [.slice (eI c.owners), .slice (eI c.hours)])
  have B3 : updH (updH H b3 (.box [.slice (h.table.women.map eW), .slice (h.table.pieces.map eP), i6 h.table.wrong, .slice (eI h.sick), i6 h.others, i6 h.last, .slice (h.touches.map eTo), .slice (h.boiled.map eB), .slice (h.signs.map eS)])) b5 (.box [.slice (eI c.owners), .slice (eI c.hours)]) b3 = some (.box [.slice (h.table.women.map eW), .slice (h.table.pieces.map eP), i6 h.table.wrong, .slice (eI h.sick), i6 h.others, i6 h.last, .slice (h.touches.map eTo), .slice (h.boiled.map eB), .slice (h.signs.map eS)]) := by rw [updH_ne _ _ n35]; exact updH_same _ _ _
  have B5 : updH (updH H b3 (.box [.slice (h.table.women.map eW), .slice (h.table.pieces.map eP), i6 h.table.wrong, .slice (eI h.sick), i6 h.others, i6 h.last, .slice (h.touches.map eTo), .slice (h.boiled.map eB), .slice (h.signs.map eS)])) b5 (.box [.slice (eI c.owners), .slice (eI c.hours)]) b5 = some (.box [.slice (eI c.owners), .slice (eI c.hours)]) := updH_same _ _ _
  simp only [go_sem, reduceIte, reduceCtorEq, Nat.reduceEqDiff, Nat.reduceBEq, Nat.reduceAdd, Nat.reduceMul, Nat.reduceLeDiff, updH_ne _ _ n35, take_f', List.getElem?_cons_zero]
  refine v_append (H0 := updH (updH H b3 (.box [.slice (h.table.women.map eW), .slice (h.table.pieces.map eP), i6 h.table.wrong, .slice (eI h.sick), i6 h.others, i6 h.last, .slice (h.touches.map eTo), .slice (h.boiled.map eB), .slice (h.signs.map eS)])) b5 (.box [.slice (eI c.owners), .slice (eI c.hours)])) (sz := 2) (.inl ⟨rfl, rfl⟩) (Ext.refl _) rfl (by intro e he; cases he) (eB_good _) (eB_cell _) (by simp; omega) (by simp; omega) ?_
  intro v1 H1 hg1 he1 hk1
  have C3 := he1 _ _ B3
  have C5 := he1 _ _ B5
  simp only [go_sem, reduceIte, reduceCtorEq, Nat.reduceEqDiff, Nat.reduceBEq, Nat.reduceAdd, Nat.reduceMul, Nat.reduceLeDiff, C3, C5, take_f', List.getElem?_cons_zero]
  refine v_append hg1 he1 rfl (eB_good h.boiled) (eB_good more) (eB_cell more) (by simp; omega) (by simp; omega) ?_
  intro v2 H2 hg2 he2 hk2
  have D3 := he2 _ _ B3
  have D5 := he2 _ _ B5
  simp only [go_sem, reduceIte, reduceCtorEq, Nat.reduceEqDiff, Nat.reduceBEq, Nat.reduceAdd, Nat.reduceMul, Nat.reduceLeDiff, D3, D5, take_f', List.getElem?_cons_zero]
  refine ACalls.arg2 (y := .slice ((h.boiled ++ more).map eB)) (fun w v hr => by rw [List.map_append]; exact hg2.weakRep hr) ?_
  have hlast : h.last = ((nl + 1 : Nat) : Int) - 1 := by omega
  have hcall := carriers_c h hv c hc (h.boiled ++ more) (by unfold Sm; simp; omega) (nl + 1) (by omega)
  rw [← hlast] at hcall
  refine hcall.go ?_
  simp only [go_sem, reduceIte, reduceCtorEq, Nat.reduceEqDiff, Nat.reduceBEq, Nat.reduceAdd, Nat.reduceMul, Nat.reduceLeDiff]
  refine fin_ret 6 (by simp [upd_at]) ⟨_, H, Settle.refl (e2.trans he2), ?_, rfl⟩
  simp [upd_at, lastOf, playOf, hl1]
def harmAt (c : Course) (bs : List Bool) (w : Int) (i : Nat) : Bool := decide (c.owners.getD i 0 = w) && bs.getD i false
def harmB (h : House) (c : Course) (bs : List Bool) (w : Int) : Bool := !decide (w ∈ h.sick) && (List.range c.owners.length).any (harmAt c bs w)
theorem isHarmed_c (h : House) (c : Course) (hsk : Sm h.sick.length) (ho : c.owners.length ≤ 60) (bs : List Bool) (hb : bs.length ≤ 60) (w : Int) : Pure Tryz.prog 82 [eH h, eC c, i6 (natOf bs : Nat), i6 w] (.bool (harmB h c bs w)) := by
  intro H
  refine fn_of hmix fc82 (by simp) ?_
  rw [ienv4]
  simp only [go_sem, reduceIte, reduceCtorEq, Nat.reduceEqDiff, Nat.reduceBEq, Nat.reduceAdd, Nat.reduceMul, Nat.reduceLeDiff, ac82, eH, eC]
  refine v_box _ rfl fun b4 hb4 => ?_
  simp only [go_sem, reduceIte, reduceCtorEq, Nat.reduceEqDiff, Nat.reduceBEq, Nat.reduceAdd, Nat.reduceMul, Nat.reduceLeDiff]
  refine v_box _ rfl fun b5 hb5 => ?_
  have n45 : b4 ≠ b5 := fun h => by subst h; simp at hb5
  have e2 := ((Ext.refl H).new hb4 (.box [.slice (h.table.women.map eW), .slice (h.table.pieces.map eP), i6 h.table.wrong, .slice (eI h.sick), i6 h.others, i6 h.last, .slice (h.touches.map eTo), .slice (h.boiled.map eB), .slice (h.signs.map eS)])).new hb5 (.box [.slice (eI c.owners), .slice (eI c.hours)])
  simp only [go_sem, reduceIte, reduceCtorEq, Nat.reduceEqDiff, Nat.reduceBEq, Nat.reduceAdd, Nat.reduceMul, Nat.reduceLeDiff, updH_ne _ _ n45, take_f', List.getElem?_cons_zero]
  refine (has_c h.sick w hsk).go ?_
  by_cases c1 : w ∈ h.sick
  · simp only [go_sem, reduceIte, reduceCtorEq, Nat.reduceEqDiff, Nat.reduceBEq, Nat.reduceAdd, Nat.reduceMul, Nat.reduceLeDiff, c1]
    refine fin_ret 8 (by simp [upd_at]) ⟨_, H, Settle.refl e2, ?_, rfl⟩
    simp [upd_at, harmB, c1]
  simp only [go_sem, reduceIte, reduceCtorEq, Nat.reduceEqDiff, Nat.reduceBEq, Nat.reduceAdd, Nat.reduceMul, Nat.reduceLeDiff, c1]
  refine x_for c.owners.length (fun j env H1 => Ext H H1 ∧ H1 b5 = some (.box [.slice (eI c.owners), .slice (eI c.hours)]) ∧ env 2 = i6 (natOf bs : Nat) ∧ env 3 = i6 w ∧ env 5 = .ptr b5 0 ∧ env 9 = i6 j ∧ env 36 = .any ∧ ∀ i, i < j → harmAt c bs w i = false)
    ⟨e2, updH_same _ _ _, by simp [upd_at], by simp [upd_at], by simp [upd_at], by simp [upd_at], by simp [upd_at], by simp⟩ ?_
  rintro j env H1 hj ⟨hE, hB5, g2, g3, g5, g9, hN, hq⟩
  by_cases hlt : (j : Int) < (c.owners.length : Int)
  · have hlt' : j < c.owners.length := by omega
    have hgo : c.owners.getD j 0 = c.owners[j] := by simp [hlt']
    have hnext : harmAt c bs w j = false → ∀ i, i < j + 1 → harmAt c bs w i = false := fun hh i hi => by
      rcases Nat.lt_or_ge i j with h' | h'
      · exact hq i h'
      · have : i = j := by omega
        subst this; exact hh
    have handp := w_and (natOf_lt62 (c := bs) (by omega)) (two_lt (show j < 62 by omega))
    by_cases d1 : c.owners[j] = w
    rotate_left
    · simp only [go_sem, reduceIte, reduceCtorEq, Nat.reduceEqDiff, Nat.reduceBEq, Nat.reduceAdd, Nat.reduceMul, Nat.reduceLeDiff, g2, g3, g5, g9, hN, hlt, hB5, take_f', List.getElem?_cons_zero, eI_get hlt', d1, wsucc (show j < 4611686018427387904 by omega), hlt']
      exact ⟨hE, hnext (by rw [harmAt, hgo, decide_eq_false d1]; rfl)⟩
    by_cases d2 : natOf bs &&& 2 ^ j = 0
    · have d2' : ((natOf bs &&& 2 ^ j : Nat) : Int) = 0 := by rw [d2]; rfl
      simp only [↓aops_nil, ↓aops_go, ↓aops_go0, ↓aops_if, ↓k_cont, ↓k_cont0, g_tt, g_ff, g_tf, g_ft, g_u, ↓apre_nil, ↓apre_if, ↓apre_go, pgo_det, Tag.isCall, popt_some, gp_tt, gp_ff, gp_tf, gp_ft, gp_u, ↓k_draw, opt_some, List.map_cons, List.map_nil, ev, upd_at, ↓x_skip, ↓x_label, ↓x_ret, ↓x_exit, ↓x_seq, ↓x_block, ↓x_ops, ↓x_cond, x_sel_t, x_sel_f, ↓x_draw, ↓q_kseq_n, ↓q_kseq_r, ↓q_kseq_e, ↓q_block_n, ↓q_block_r, ↓q_block_e, ↓q_loop_n, ↓q_loop_r, ↓q_loop_e, ↓l_done, d_mov, d_pick, d_not, d_nilchk, d_nilchk', d_conv, d_add, d_sub, d_mul, d_quo, d_rem, d_shl, d_shr, d_and, d_or, d_andnot, d_eql, d_neq, d_lss, d_leq, d_gtr, d_geq, d_eqb, d_neqb, d_mkfunc, d_load, d_fieldaddr, d_fieldaddr', d_field_t, d_field_f, d_idxaddr, d_idxaddr_g, elemO_some, d_idxaddr_m, d_arraddr, d_arraddr', d_idx_f, d_sub_s, d_sub_g, d_arrsub, d_arrall, d_extract, d_len, d_len_g, d_len_e, d_len_m, d_min, d_build, d_bslice0, d_bs1, d_bs2, d_bsa, d_eqagg, v_mov, v_pick, v_not, v_nilchk, v_conv, v_bin, v_binb, v_eqagg, v_mkfunc, v_load, v_fieldaddr, v_field, v_idxaddr, v_arraddr, v_idx, v_sub, v_arrsub, v_arrall, v_extract, v_len, v_min, v_build, v_bslice, v_lookup, v_call, v_callv, Nat.reduceEqDiff, Nat.reduceBEq, reduceIte, ite_true, ite_false, Bool.false_eq_true, Bool.true_eq_false, if_true, if_false, decide_eq_true_eq, decide_eq_false_iff_not, decide_true, decide_false, Nat.zero_add, Nat.add_zero, Nat.reduceAdd, reduceCtorEq, eq_self, not_true_eq_false, not_false_eq_true, Bool.not_true, Bool.not_false, Nat.reduceMul, List.length_cons, List.length_nil, at_elem, take_f, take_tt, Int.toNat_natCast, Option.some.injEq, Option.bind_some, Int.natCast_nonneg, true_and, and_true, and_self, ↓q_for_n, ↓q_for_r, ↓q_for_e, eI_len, List.length_map, at_obj, obj_box, updH_same, Nat.reduceLeDiff, Nat.zero_le, Nat.le_refl, List.drop_zero, List.drop_succ_cons, List.take_succ_cons, List.take_zero, c_agg, c_int, c_bool, c_slice, c_emp, c_grow, g2, g3, g5, g9, hN, hlt, hB5, take_f', List.getElem?_cons_zero, eI_get hlt', d1, u64w (show j < 2 ^ 62 by omega), w_shl1 (show j < 62 by omega), show ¬ ((j : Int) < 0) by omega, handp, d2', wsucc (show j < 4611686018427387904 by omega), hlt']
      refine ⟨hE, hnext ?_⟩
      have : bs.getD j false = false := by
        cases hb : bs.getD j false
        · rfl
        · exact absurd d2 (natOf_and.2 hb)
      rw [harmAt, this, Bool.and_false]
    · have d2' : ¬ ((natOf bs &&& 2 ^ j : Nat) : Int) = 0 := by omega
      simp only [↓aops_nil, ↓aops_go, ↓aops_go0, ↓aops_if, ↓k_cont, ↓k_cont0, g_tt, g_ff, g_tf, g_ft, g_u, ↓apre_nil, ↓apre_if, ↓apre_go, pgo_det, Tag.isCall, popt_some, gp_tt, gp_ff, gp_tf, gp_ft, gp_u, ↓k_draw, opt_some, List.map_cons, List.map_nil, ev, upd_at, ↓x_skip, ↓x_label, ↓x_ret, ↓x_exit, ↓x_seq, ↓x_block, ↓x_ops, ↓x_cond, x_sel_t, x_sel_f, ↓x_draw, ↓q_kseq_n, ↓q_kseq_r, ↓q_kseq_e, ↓q_block_n, ↓q_block_r, ↓q_block_e, ↓q_loop_n, ↓q_loop_r, ↓q_loop_e, ↓l_done, d_mov, d_pick, d_not, d_nilchk, d_nilchk', d_conv, d_add, d_sub, d_mul, d_quo, d_rem, d_shl, d_shr, d_and, d_or, d_andnot, d_eql, d_neq, d_lss, d_leq, d_gtr, d_geq, d_eqb, d_neqb, d_mkfunc, d_load, d_fieldaddr, d_fieldaddr', d_field_t, d_field_f, d_idxaddr, d_idxaddr_g, elemO_some, d_idxaddr_m, d_arraddr, d_arraddr', d_idx_f, d_sub_s, d_sub_g, d_arrsub, d_arrall, d_extract, d_len, d_len_g, d_len_e, d_len_m, d_min, d_build, d_bslice0, d_bs1, d_bs2, d_bsa, d_eqagg, v_mov, v_pick, v_not, v_nilchk, v_conv, v_bin, v_binb, v_eqagg, v_mkfunc, v_load, v_fieldaddr, v_field, v_idxaddr, v_arraddr, v_idx, v_sub, v_arrsub, v_arrall, v_extract, v_len, v_min, v_build, v_bslice, v_lookup, v_call, v_callv, Nat.reduceEqDiff, Nat.reduceBEq, reduceIte, ite_true, ite_false, Bool.false_eq_true, Bool.true_eq_false, if_true, if_false, decide_eq_true_eq, decide_eq_false_iff_not, decide_true, decide_false, Nat.zero_add, Nat.add_zero, Nat.reduceAdd, reduceCtorEq, eq_self, not_true_eq_false, not_false_eq_true, Bool.not_true, Bool.not_false, Nat.reduceMul, List.length_cons, List.length_nil, at_elem, take_f, take_tt, Int.toNat_natCast, Option.some.injEq, Option.bind_some, Int.natCast_nonneg, true_and, and_true, and_self, ↓q_for_n, ↓q_for_r, ↓q_for_e, eI_len, List.length_map, at_obj, obj_box, updH_same, Nat.reduceLeDiff, Nat.zero_le, Nat.le_refl, List.drop_zero, List.drop_succ_cons, List.take_succ_cons, List.take_zero, c_agg, c_int, c_bool, c_slice, c_emp, c_grow, g2, g3, g5, g9, hN, hlt, hB5, take_f', List.getElem?_cons_zero, eI_get hlt', d1, u64w (show j < 2 ^ 62 by omega), w_shl1 (show j < 62 by omega), show ¬ ((j : Int) < 0) by omega, handp, d2']
      refine fin_ret 8 (by simp [upd_at, hN]) ⟨_, H, Settle.refl hE, ?_, rfl⟩
      simp only [upd_at, if_true, and_true, AV.bool.injEq]
      symm
      rw [harmB, decide_eq_false c1, Bool.not_false, Bool.true_and, List.any_eq_true]
      exact ⟨j, by simp [hlt'], by rw [harmAt, hgo, decide_eq_true d1, natOf_and.1 d2]; rfl⟩
  · simp only [go_sem, reduceIte, reduceCtorEq, Nat.reduceEqDiff, Nat.reduceBEq, Nat.reduceAdd, Nat.reduceMul, Nat.reduceLeDiff, g2, g3, g5, g9, hN, hlt, hB5, take_f', List.getElem?_cons_zero]
    have : j = c.owners.length := by omega
    subst this
    refine fin_ret 8 (by simp [upd_at, hN]) ⟨_, H, Settle.refl hE, ?_, rfl⟩
    simp only [upd_at, if_true, and_true, AV.bool.injEq]
    symm
    rw [harmB, decide_eq_false c1, Bool.not_false, Bool.true_and, List.any_eq_false]
    intro i hi; rw [hq i (by simpa using hi)]; simp
def safeR (h : House) (more : List Boiling) (c : Course) : Bool := (List.range h.table.women.length).all fun w => !harmB h c (lastOf h c more) (w : Int)
theorem isSafe_c (h : House) (hv : HV h) (c : Course) (hc : CLen h c) (more : List Boiling) (hm : more.length ≤ 1000) : Pure Tryz.prog 71 [eH h, eC c, .slice (more.map eB)] (.bool (safeR h more c)) := by
  intro H
  have hp7 := hv.ok.pcs
  have hll := lastOf_len h c more
  refine fn_of hmix fc71 (by simp) ?_
  rw [ienv3]
  simp only [go_sem, reduceIte, reduceCtorEq, Nat.reduceEqDiff, Nat.reduceBEq, Nat.reduceAdd, Nat.reduceMul, Nat.reduceLeDiff, ac71, eH, eC]
  refine v_box _ rfl fun b3 hb3 => ?_
  simp only [go_sem, reduceIte, reduceCtorEq, Nat.reduceEqDiff, Nat.reduceBEq, Nat.reduceAdd, Nat.reduceMul, Nat.reduceLeDiff]
  refine v_box _ rfl fun b4 hb4 => ?_
  have n34 : b3 ≠ b4 := fun h => by subst h; simp at hb4
  have e2 := ((Ext.refl H).new hb3 (.box [.slice (h.table.women.map eW), .slice (h.table.pieces.map eP), i6 h.table.wrong, .slice (eI h.sick), i6 h.others, i6 h.last, .slice (h.touches.map eTo), .slice (h.boiled.map eB), .slice (h.signs.map eS)])).new hb4 (.box [.slice (eI c.owners), .slice (eI c.hours)])
  simp only [go_sem, reduceIte, reduceCtorEq, Nat.reduceEqDiff, Nat.reduceBEq, Nat.reduceAdd, Nat.reduceMul, Nat.reduceLeDiff, updH_ne _ _ n34]
  refine (last_c h hv c hc more hm).go ?_
  simp only [go_sem, reduceIte, reduceCtorEq, Nat.reduceEqDiff, Nat.reduceBEq, Nat.reduceAdd, Nat.reduceMul, Nat.reduceLeDiff]
  refine x_for h.table.women.length (fun j env H1 => Ext H H1 ∧ H1 b3 = some (.box [.slice (h.table.women.map eW), .slice (h.table.pieces.map eP), i6 h.table.wrong, .slice (eI h.sick), i6 h.others, i6 h.last, .slice (h.touches.map eTo), .slice (h.boiled.map eB), .slice (h.signs.map eS)]) ∧ H1 b4 = some (.box [.slice (eI c.owners), .slice (eI c.hours)]) ∧ env 3 = .ptr b3 0 ∧ env 4 = .ptr b4 0 ∧ env 7 = i6 (natOf (lastOf h c more) : Nat) ∧ env 8 = i6 j ∧ env 26 = .any ∧ ∀ i : Nat, i < j → harmB h c (lastOf h c more) (i : Int) = false)
    ⟨e2, by rw [updH_ne _ _ n34]; exact updH_same _ _ _, updH_same _ _ _, by simp [upd_at], by simp [upd_at], by simp [upd_at], by simp [upd_at], by simp [upd_at], by simp⟩ ?_
  rintro j env H1 hj ⟨hE, hB3, hB4, g3, g4, g7, g8, hN, hq⟩
  have hw := hv.ok.sm.women
  unfold Sm at hw
  by_cases hlt : (j : Int) < (h.table.women.length : Int)
  · have hlt' : j < h.table.women.length := by omega
    simp only [go_sem, reduceIte, reduceCtorEq, Nat.reduceEqDiff, Nat.reduceBEq, Nat.reduceAdd, Nat.reduceMul, Nat.reduceLeDiff, g3, g4, g7, g8, hN, hlt, hB3, hB4, take_f', List.getElem?_cons_zero]
    refine (isHarmed_c h c hv.ok.sk (by have := hc.own; omega) (lastOf h c more) (by omega) j).go ?_
    cases d : harmB h c (lastOf h c more) (j : Int)
    · simp only [go_sem, reduceIte, reduceCtorEq, Nat.reduceEqDiff, Nat.reduceBEq, Nat.reduceAdd, Nat.reduceMul, Nat.reduceLeDiff, g3, g4, g7, g8, hN, hB3, hB4, wsucc (show j < 4611686018427387904 by omega), hlt']
      refine ⟨hE, fun i hi => ?_⟩
      rcases Nat.lt_or_ge i j with h' | h'
      · exact hq i h'
      · have : i = j := by omega
        subst this; exact d
    · simp only [go_sem, reduceIte, reduceCtorEq, Nat.reduceEqDiff, Nat.reduceBEq, Nat.reduceAdd, Nat.reduceMul, Nat.reduceLeDiff, hN]
      refine fin_ret 6 (by simp [upd_at, hN]) ⟨_, H, Settle.refl hE, ?_, rfl⟩
      have : safeR h more c = false := by rw [safeR, List.all_eq_false]; exact ⟨j, by simp [hlt'], by simp [d]⟩
      simp [upd_at, this]
  · simp only [go_sem, reduceIte, reduceCtorEq, Nat.reduceEqDiff, Nat.reduceBEq, Nat.reduceAdd, Nat.reduceMul, Nat.reduceLeDiff, g3, g4, g7, g8, hN, hlt, hB3, take_f', List.getElem?_cons_zero]
    have : j = h.table.women.length := by omega
    subst this
    refine fin_ret 6 (by simp [upd_at, hN]) ⟨_, H, Settle.refl hE, ?_, rfl⟩
    have : safeR h more c = true := by rw [safeR, List.all_eq_true]; intro i hi; simp only [hq i (by simpa using hi), Bool.not_false]
    simp [upd_at, this]
def eCr (c : Course) : List AV := [.slice (eI c.owners), .slice (eI c.hours)]
def eCL (l : List Course) : AV := .slice (l.map eCr)
end Go.Lift

set_option linter.unusedSimpArgs false
set_option linter.unusedVariables false
namespace Go.Lift
open Go Go.Proofs
def hrsGo (h : House) : Nat → Nat → Nat → List Int
  | 0, _, _ => []
  | k + 1, j, n => ((h.touches.getD j default).lo + ((n % hourN h j : Nat) : Int)) :: hrsGo h k (j + 1) (n / hourN h j)
def hrsOf (h : House) (n : Nat) : List Int := hrsGo h h.touches.length 0 n
theorem hours_c (h : House) (hv : HV h) (n : Nat) (hn : n < 2 ^ 62) : Pure Tryz.prog 90 [eH h, i6 n] (.slice (eI (hrsOf h n))) := by
  intro H
  have hm6 := hv.ok.touches
  refine fn_of hmix fc90 (by simp) ?_
  rw [ienv2]
  simp only [go_sem, reduceIte, reduceCtorEq, Nat.reduceEqDiff, Nat.reduceBEq, Nat.reduceAdd, Nat.reduceMul, Nat.reduceLeDiff, ac90, eH]
  refine v_box _ rfl fun b2 hb2 => ?_
  simp only [go_sem, reduceIte, reduceCtorEq, Nat.reduceEqDiff, Nat.reduceBEq, Nat.reduceAdd, Nat.reduceMul, Nat.reduceLeDiff]
  refine x_for h.touches.length (fun j env H1 => Ext H H1 ∧ H1 b2 = some (.box [.slice (h.table.women.map eW), .slice (h.table.pieces.map eP), i6 h.table.wrong, .slice (eI h.sick), i6 h.others, i6 h.last, .slice (h.touches.map eTo), .slice (h.boiled.map eB), .slice (h.signs.map eS)]) ∧ (∃ (out : List Int) (nk : Nat), nk < 2 ^ 62 ∧ out.length = j ∧ hrsOf h n = out ++ hrsGo h (h.touches.length - j) j nk ∧ Grown 1 H H1 (env 5) (eI out) ∧ env 1 = i6 nk) ∧ env 2 = .ptr b2 0 ∧ env 6 = i6 j ∧ env 41 = .any)
    ⟨(Ext.refl H).new hb2 _, updH_same _ _ _, ⟨[], n, hn, rfl, by simp [hrsOf], .inl ⟨by simp [upd_at], rfl⟩, by simp [upd_at]⟩, by simp [upd_at], by simp [upd_at], by simp [upd_at]⟩ ?_
  rintro j env H1 hj ⟨hE, hB, ⟨out, nk, hnk, hol, heq, hG, g1⟩, g2, g6, hN⟩
  by_cases hlt : (j : Int) < (h.touches.length : Int)
  · have hlt' : j < h.touches.length := by omega
    have hget : h.touches.getD j default = h.touches[j] := by simp [hlt']
    obtain ⟨t1, t2, t3⟩ := hv.tim _ (List.getElem_mem hlt')
    have hsz : h.touches[j].hi - h.touches[j].lo + 1 = ((hourN h j : Nat) : Int) := by rw [hourN, hget]; omega
    have hp : 1 ≤ hourN h j := by omega
    have hw1 := w64 (x := h.touches[j].hi - h.touches[j].lo) (by omega) (by omega)
    have hw2 : IntKind.i64.wrap (h.touches[j].hi - h.touches[j].lo + 1) = ((hourN h j : Nat) : Int) := by rw [w64 (by omega) (by omega), hsz]
    have hne : ¬ ((hourN h j : Nat) : Int) = 0 := by omega
    have hrem : (nk : Int).tmod ((hourN h j : Nat) : Int) = ((nk % hourN h j : Nat) : Int) := (Int.ofNat_tmod nk (hourN h j)).symm
    have hquo : (nk : Int).tdiv ((hourN h j : Nat) : Int) = ((nk / hourN h j : Nat) : Int) := (Int.ofNat_tdiv nk (hourN h j)).symm
    have hml : nk % hourN h j < hourN h j := Nat.mod_lt _ hp
    have hdl : nk / hourN h j < 2 ^ 62 := Nat.lt_of_le_of_lt (Nat.div_le_self _ _) hnk
    have hwd : IntKind.i64.wrap ((nk / hourN h j : Nat) : Int) = ((nk / hourN h j : Nat) : Int) := by
      generalize nk / hourN h j = q at hdl
      exact w64 (by omega) (by omega)
    have hwa : IntKind.i64.wrap (h.touches[j].lo + ((nk % hourN h j : Nat) : Int)) = h.touches[j].lo + ((nk % hourN h j : Nat) : Int) := by
      generalize nk % hourN h j = q at hml
      exact w64 (by omega) (by omega)
    simp only [go_sem, reduceIte, reduceCtorEq, Nat.reduceEqDiff, Nat.reduceBEq, Nat.reduceAdd, Nat.reduceMul, Nat.reduceLeDiff, g1, g2, g6, hN, hB, hlt, take_f', List.getElem?_cons_zero, map_get (f := eTo) hlt', eTo]
    refine v_alloc fun b7 hb7 => ?_
    have n27 : b2 ≠ b7 := fun h => by subst h; rw [hB] at hb7; cases hb7
    simp only [go_sem, reduceIte, reduceCtorEq, Nat.reduceEqDiff, Nat.reduceBEq, Nat.reduceAdd, Nat.reduceMul, Nat.reduceLeDiff, g1, g2, g6, hN]
    rw [v_store]
    refine ⟨rfl, rfl, by simp [AV.cells, AV.isCell], _, updH_same _ _ _, by simp, ?_⟩
    have hE7 : ∀ o1 o2, Ext H (updH (updH H1 b7 o1) b7 o2) := fun o1 o2 => (hE.new hb7 _).upd (hE.isNone hb7) _
    have hG7 : ∀ cs o2, Grown 1 H (updH (updH H1 b7 (.box cs)) b7 o2) (env 5) (eI out) := fun cs o2 => (hG.new hb7 (.box cs)).store (updH_same _ _ _) o2
    simp only [go_sem, reduceIte, reduceCtorEq, Nat.reduceEqDiff, Nat.reduceBEq, Nat.reduceAdd, Nat.reduceMul, Nat.reduceLeDiff, g1, g2, g6, hN, placeAt, List.append_nil, List.nil_append, List.drop_nil, take_f', List.getElem?_cons_zero, List.getElem?_cons_succ, hw1, hw2, hne, hrem, hwa]
    refine v_append (hG7 _ _) (hE7 _ _) rfl (eI_good _) (one_good _) (one_cell _) (by simp; omega) (by simp; omega) ?_
    intro v' H2 hg' he' hk'
    have C2 : H2 b2 = some (.box [.slice (h.table.women.map eW), .slice (h.table.pieces.map eP), i6 h.table.wrong, .slice (eI h.sick), i6 h.others, i6 h.last, .slice (h.touches.map eTo), .slice (h.boiled.map eB), .slice (h.signs.map eS)]) := hk'.box (hG7 _ _) (by rw [updH_ne _ _ n27, updH_ne _ _ n27]; exact hB)
    simp only [go_sem, reduceIte, reduceCtorEq, Nat.reduceEqDiff, Nat.reduceBEq, Nat.reduceAdd, Nat.reduceMul, Nat.reduceLeDiff, g1, g2, g6, hN, hne, hquo, hwd, wsucc (show j < 4611686018427387904 by omega), hlt', C2]
    refine ⟨he', out ++ [h.touches[j].lo + ((nk % hourN h j : Nat) : Int)], nk / hourN h j, hdl, by simp [hol], ?_, by rw [eI_app]; exact hg', rfl⟩
    rw [heq, show h.touches.length - j = (h.touches.length - (j + 1)) + 1 by omega, hrsGo, hget, List.append_assoc]; rfl
  · simp only [go_sem, reduceIte, reduceCtorEq, Nat.reduceEqDiff, Nat.reduceBEq, Nat.reduceAdd, Nat.reduceMul, Nat.reduceLeDiff, g1, g2, g6, hN, hB, hlt, take_f', List.getElem?_cons_zero]
    have : j = h.touches.length := by omega
    subst this
    refine fin_ret 4 (by simp [upd_at, hN]) ⟨_, H, ?_, rfl, rfl⟩
    simp only [upd_at, if_true]
    rw [heq, Nat.sub_self, hrsGo, List.append_nil]
    exact hG.weaken hE
theorem eCr_good (l : List Course) : goodEls 2 (l.map eCr) := by
  intro e he; rw [List.mem_map] at he; obtain ⟨x, _, rfl⟩ := he; rfl
theorem eCr_cell (l : List Course) : cellEls (l.map eCr) := by
  intro e he x hx; rw [List.mem_map] at he; obtain ⟨y, _, rfl⟩ := he
  simp only [eCr, List.mem_cons, List.not_mem_nil, or_false] at hx
  rcases hx with rfl | rfl <;> rfl
def rowR (h : House) (j : Nat) (o : List Int) : List Course := (List.range j).map fun n => ⟨o, hrsOf h n⟩
def coursesR (h : House) : List Course := (truthsR h.table).flatMap (rowR h (timesR h h.touches.length))
theorem truthsR_size (t : Table) : (truthsR t).length ≤ 3000 := Nat.le_trans (ownersUpto_len t _) (Nat.min_le_left _ _)
theorem flat_len (h : House) (T : Nat) : ∀ l : List (List Int), (l.flatMap (rowR h T)).length = l.length * T
  | [] => by simp
  | o :: l => by rw [List.flatMap_cons, List.length_append, flat_len h T l, List.length_cons, Nat.add_mul]; simp [rowR]; omega
theorem coursesR_c (h : House) (hv : HV h) : Pure Tryz.prog 36 [eH h] (eCL (coursesR h)) := by
  intro H
  have hm6 := hv.ok.touches
  have hts := truthsR_size h.table
  have hT : timesR h h.touches.length ≤ 3000 := Nat.min_le_left _ _
  obtain ⟨tr, htr⟩ : ∃ tr, tr = truthsR h.table := ⟨_, rfl⟩
  obtain ⟨T, hTe⟩ : ∃ T, T = timesR h h.touches.length := ⟨_, rfl⟩
  refine fn_of hmix fc36 (by simp) ?_
  rw [ienv1]
  simp only [go_sem, reduceIte, reduceCtorEq, Nat.reduceEqDiff, Nat.reduceBEq, Nat.reduceAdd, Nat.reduceMul, Nat.reduceLeDiff, ac36, eH]
  refine v_box _ rfl fun b1 hb1 => ?_
  simp only [go_sem, reduceIte, reduceCtorEq, Nat.reduceEqDiff, Nat.reduceBEq, Nat.reduceAdd, Nat.reduceMul, Nat.reduceLeDiff]
  refine (truthsR_c h.table hv.ok.sm hv.tab).go ?_
  rw [coursesR, ← htr, ← hTe]
  rw [← htr] at hts
  simp only [go_sem, reduceIte, reduceCtorEq, Nat.reduceEqDiff, Nat.reduceBEq, Nat.reduceAdd, Nat.reduceMul, Nat.reduceLeDiff, eII]
  refine x_for tr.length (fun j env H1 => Ext H H1 ∧ H1 b1 = some (.box [.slice (h.table.women.map eW), .slice (h.table.pieces.map eP), i6 h.table.wrong, .slice (eI h.sick), i6 h.others, i6 h.last, .slice (h.touches.map eTo), .slice (h.boiled.map eB), .slice (h.signs.map eS)]) ∧ Grown 2 H H1 (env 3) (((tr.take j).flatMap (rowR h T)).map eCr) ∧ env 1 = .ptr b1 0 ∧ env 4 = .slice (tr.map fun x => [AV.slice (eI x)]) ∧ env 5 = i6 j ∧ env 34 = .any)
    ⟨(Ext.refl H).new hb1 _, updH_same _ _ _, .inl ⟨by simp [upd_at], rfl⟩, by simp [upd_at], by simp [upd_at], by simp [upd_at], by simp [upd_at]⟩ ?_
  rintro j env H1 hj ⟨hE, hB, hG, g1, g4, g5, hN⟩
  by_cases hlt : (j : Int) < (tr.length : Int)
  rotate_left
  · simp only [go_sem, reduceIte, reduceCtorEq, Nat.reduceEqDiff, Nat.reduceBEq, Nat.reduceAdd, Nat.reduceMul, Nat.reduceLeDiff, g1, g4, g5, hN, hlt]
    have : j = tr.length := by omega
    subst this
    refine fin_ret 2 (by simp [upd_at, hN]) ⟨_, H, ?_, rfl, rfl⟩
    simp only [upd_at, if_true]
    rw [List.take_length] at hG
    exact hG.weaken hE
  have hlt' : j < tr.length := by omega
  simp only [go_sem, reduceIte, reduceCtorEq, Nat.reduceEqDiff, Nat.reduceBEq, Nat.reduceAdd, Nat.reduceMul, Nat.reduceLeDiff, g1, g4, g5, hN, hlt]
  refine x_for T (fun n env H1 => Ext H H1 ∧ H1 b1 = some (.box [.slice (h.table.women.map eW), .slice (h.table.pieces.map eP), i6 h.table.wrong, .slice (eI h.sick), i6 h.others, i6 h.last, .slice (h.touches.map eTo), .slice (h.boiled.map eB), .slice (h.signs.map eS)]) ∧ Grown 2 H H1 (env 3) (((tr.take j).flatMap (rowR h T) ++ rowR h n tr[j]).map eCr) ∧ env 1 = .ptr b1 0 ∧ env 4 = .slice (tr.map fun x => [AV.slice (eI x)]) ∧ env 5 = i6 j ∧ env 6 = i6 n ∧ env 34 = .any)
    ⟨hE, hB, by simpa [upd_at, rowR] using hG, by simp [upd_at, g1], by simp [upd_at, g4], by simp [upd_at, g5], by simp [upd_at], by simp [upd_at, hN]⟩ ?_
  clear hE hB hG g1 g4 g5 hN hlt env H1
  rintro n env H1 hn ⟨hE, hB, hG, g1, g4, g5, g6, hN⟩
  simp only [go_sem, reduceIte, reduceCtorEq, Nat.reduceEqDiff, Nat.reduceBEq, Nat.reduceAdd, Nat.reduceMul, Nat.reduceLeDiff, g1, g4, g5, g6, hN, hB]
  refine (timesR_c h hm6 hv.tim).go ?_
  rw [← hTe]
  by_cases hlt : (n : Int) < (T : Int)
  · have hltn : n < T := by omega
    simp only [go_sem, reduceIte, reduceCtorEq, Nat.reduceEqDiff, Nat.reduceBEq, Nat.reduceAdd, Nat.reduceMul, Nat.reduceLeDiff, g1, g4, g5, g6, hN, hlt, hB, map_get (f := fun x : List Int => [AV.slice (eI x)]) hlt', take_f', List.getElem?_cons_zero]
    refine pgo_call (hours_c h hv n (by omega)) ?_
    have hsz : ((tr.take j).flatMap (rowR h T)).length ≤ 3000 * 3000 := by
      rw [flat_len]
      exact Nat.mul_le_mul (by simp; omega) (by omega)
    have hsr : (rowR h n tr[j]).length = n := by simp [rowR]
    simp only [go_sem, reduceIte, reduceCtorEq, Nat.reduceEqDiff, Nat.reduceBEq, Nat.reduceAdd, Nat.reduceMul, Nat.reduceLeDiff, bc36, Option.map_some, d_bsa]
    refine v_append hG hE rfl (eCr_good _) (eCr_good [⟨tr[j], hrsOf h n⟩]) (eCr_cell [⟨tr[j], hrsOf h n⟩]) (by simp only [List.length_map, List.length_append, hsr, List.length_cons, List.length_nil]; omega) (by simp only [List.length_map, List.length_append, hsr, List.length_cons, List.length_nil]; omega) ?_
    intro v' H2 hg' he' hk'
    simp only [go_sem, reduceIte, reduceCtorEq, Nat.reduceEqDiff, Nat.reduceBEq, Nat.reduceAdd, Nat.reduceMul, Nat.reduceLeDiff, g1, g4, g5, g6, hN, wsucc (show n < 4611686018427387904 by omega), hltn, hk'.box hG hB]
    refine ⟨he', ?_⟩
    have : rowR h (n + 1) tr[j] = rowR h n tr[j] ++ [⟨tr[j], hrsOf h n⟩] := by simp only [rowR, List.range_succ, List.map_append]; rfl
    rw [this, ← List.append_assoc, List.map_append]; exact hg'
  · have : n = T := by omega
    subst this
    simp only [go_sem, reduceIte, reduceCtorEq, Nat.reduceEqDiff, Nat.reduceBEq, Nat.reduceAdd, Nat.reduceMul, Nat.reduceLeDiff, g1, g4, g5, g6, hN, hlt, wsucc (show j < 4611686018427387904 by omega), hlt']
    refine ⟨hE, hB, ?_⟩
    rw [take_snoc hlt', List.flatMap_append]; simpa using hG
end Go.Lift

set_option linter.unusedSimpArgs false
set_option linter.unusedVariables false
namespace Go.Lift
open Go Go.Proofs
theorem Grown.wk {sz : Nat} {H0 H : AHeap} {v : AV} {es : List (List AV)} (g : Grown sz H0 H v es) : Wk v (.slice es) := fun _ _ _ hr => by
  rcases g with ⟨rfl, rfl⟩ | ⟨b, cap, rfl, _⟩
  · exact Rep.weaken_emp hr
  · exact Rep.weaken_slice hr
end Go.Lift

set_option linter.unusedSimpArgs false
set_option linter.unusedVariables false
namespace Go.Lift
open Go Go.Proofs
theorem atR_c (l : List Int) (k : Int) (hl : Sm l.length) : Pure Tryz.prog 56 [.slice (eI l), i6 k] (.slice ((atOf l k).map eB)) := by
  intro H
  unfold Sm at hl
  refine fn_of hmix fc56 (by simp) ?_
  rw [ienv2]
  simp only [go_sem, reduceIte, reduceCtorEq, Nat.reduceEqDiff, Nat.reduceBEq, Nat.reduceAdd, Nat.reduceMul, Nat.reduceLeDiff, List.getElem?_cons_zero, List.getElem?_cons_succ, bne_self_eq_false, Int.reduceEq, ac56]
  refine x_for l.length (fun j env H1 => Ext H H1 ∧ Grown 2 H H1 (env 5) ((atOf (l.take j) k).map eB) ∧ env 0 = .slice (eI l) ∧ env 1 = i6 k ∧ env 6 = i6 j ∧ env 23 = .any)
    ⟨Ext.refl H, .inl ⟨by simp [upd_at], rfl⟩, by simp [upd_at], by simp [upd_at], by simp [upd_at], by simp [upd_at]⟩ ?_
  rintro j env H1 hj ⟨hE, hG, g0, g1, g6, hN⟩
  by_cases hlt : (j : Int) < (l.length : Int)
  · have hlt' : j < l.length := by omega
    simp only [go_sem, reduceIte, reduceCtorEq, Nat.reduceEqDiff, Nat.reduceBEq, Nat.reduceAdd, Nat.reduceMul, Nat.reduceLeDiff, List.getElem?_cons_zero, List.getElem?_cons_succ, bne_self_eq_false, Int.reduceEq, g0, g1, g6, hN, hlt, eI_get hlt', bc2, Option.map_some, d_bsa]
    refine v_append hG hE rfl (eB_good _) (eB_good [⟨l[j], k⟩]) (eB_cell [⟨l[j], k⟩]) (by simp [atOf]; omega) (by simp [atOf]; omega) ?_
    intro v' H2 hg' he' hk'
    simp only [go_sem, reduceIte, reduceCtorEq, Nat.reduceEqDiff, Nat.reduceBEq, Nat.reduceAdd, Nat.reduceMul, Nat.reduceLeDiff, List.getElem?_cons_zero, List.getElem?_cons_succ, bne_self_eq_false, Int.reduceEq, g0, g1, g6, hN, wsucc (show j < 4611686018427387904 by omega), hlt']
    refine ⟨he', ?_⟩
    rw [take_snoc hlt', atOf, List.map_append, List.map_append]; exact hg'
  · have : j = l.length := by omega
    subst this
    rw [List.take_length] at hG
    simp only [go_sem, reduceIte, reduceCtorEq, Nat.reduceEqDiff, Nat.reduceBEq, Nat.reduceAdd, Nat.reduceMul, Nat.reduceLeDiff, List.getElem?_cons_zero, List.getElem?_cons_succ, bne_self_eq_false, Int.reduceEq, g0, g1, g6, hN, hlt]
    refine fin_ret 4 (by simp [upd_at, hN]) ⟨_, H, ?_, rfl, rfl⟩
    simp only [upd_at, if_true]
    exact hG.weaken hE
theorem rowR_c (l : List Int) (k : Int) (hl : Sm l.length) : Pure Tryz.prog 61 [.slice (eI l), i6 k] (.slice ((rowOf l k).map eB)) := by
  intro H
  unfold Sm at hl
  refine fn_of hmix fc61 (by simp) ?_
  rw [ienv2]
  simp only [go_sem, reduceIte, reduceCtorEq, Nat.reduceEqDiff, Nat.reduceBEq, Nat.reduceAdd, Nat.reduceMul, Nat.reduceLeDiff, List.getElem?_cons_zero, List.getElem?_cons_succ, bne_self_eq_false, Int.reduceEq, ac61]
  refine x_for l.length (fun j env H1 => Ext H H1 ∧ Grown 2 H H1 (env 5) (((List.range j).map fun i : Nat => (⟨l.getD i 0, IntKind.i64.wrap (k + (i : Int))⟩ : Boiling)).map eB) ∧ env 0 = .slice (eI l) ∧ env 1 = i6 k ∧ env 6 = i6 j ∧ env 25 = .any)
    ⟨Ext.refl H, .inl ⟨by simp [upd_at], rfl⟩, by simp [upd_at], by simp [upd_at], by simp [upd_at], by simp [upd_at]⟩ ?_
  rintro j env H1 hj ⟨hE, hG, g0, g1, g6, hN⟩
  by_cases hlt : (j : Int) < (l.length : Int)
  · have hlt' : j < l.length := by omega
    have hgl : l.getD j 0 = l[j] := by simp [hlt']
    simp only [go_sem, reduceIte, reduceCtorEq, Nat.reduceEqDiff, Nat.reduceBEq, Nat.reduceAdd, Nat.reduceMul, Nat.reduceLeDiff, List.getElem?_cons_zero, List.getElem?_cons_succ, bne_self_eq_false, Int.reduceEq, g0, g1, g6, hN, hlt, eI_get hlt', bc2, Option.map_some, d_bsa]
    refine v_append hG hE rfl (eB_good _) (eB_good [⟨l[j], IntKind.i64.wrap (k + (j : Int))⟩]) (eB_cell [⟨l[j], IntKind.i64.wrap (k + (j : Int))⟩]) (by simp; omega) (by simp; omega) ?_
    intro v' H2 hg' he' hk'
    simp only [go_sem, reduceIte, reduceCtorEq, Nat.reduceEqDiff, Nat.reduceBEq, Nat.reduceAdd, Nat.reduceMul, Nat.reduceLeDiff, List.getElem?_cons_zero, List.getElem?_cons_succ, bne_self_eq_false, Int.reduceEq, g0, g1, g6, hN, wsucc (show j < 4611686018427387904 by omega), hlt']
    refine ⟨he', ?_⟩
    rw [List.map_append, List.map_append]
    simp only [List.map_cons, List.map_nil, hgl]; exact hg'
  · have : j = l.length := by omega
    subst this
    simp only [go_sem, reduceIte, reduceCtorEq, Nat.reduceEqDiff, Nat.reduceBEq, Nat.reduceAdd, Nat.reduceMul, Nat.reduceLeDiff, List.getElem?_cons_zero, List.getElem?_cons_succ, bne_self_eq_false, Int.reduceEq, g0, g1, g6, hN, hlt]
    refine fin_ret 4 (by simp [upd_at, hN]) ⟨_, H, ?_, rfl, rfl⟩
    simp only [upd_at, if_true]
    exact hG.weaken hE
def isOrd (h : House) (l : List Int) (k : Int) : Bool := l.all (thingOK h) && (decide ((l.length : Int) ≤ 3) && decide (IntKind.i64.wrap (IntKind.i64.wrap (k + (l.length : Int)) - 1) ≤ h.last))
theorem isOrd_c (h : House) (l : List Int) (k : Int) (hl : Sm l.length) : Pure Tryz.prog 60 [eH h, .slice (eI l), i6 k] (.bool (isOrd h l k)) := by
  intro H
  unfold Sm at hl
  refine fn_of hmix fc60 (by simp) ?_
  rw [ienv3]
  simp only [go_sem, reduceIte, reduceCtorEq, Nat.reduceEqDiff, Nat.reduceBEq, Nat.reduceAdd, Nat.reduceMul, Nat.reduceLeDiff, List.getElem?_cons_zero, List.getElem?_cons_succ, bne_self_eq_false, Int.reduceEq, ac60, eH]
  refine v_box _ rfl fun b3 hb3 => ?_
  simp only [go_sem, reduceIte, reduceCtorEq, Nat.reduceEqDiff, Nat.reduceBEq, Nat.reduceAdd, Nat.reduceMul, Nat.reduceLeDiff, List.getElem?_cons_zero, List.getElem?_cons_succ, bne_self_eq_false, Int.reduceEq]
  refine x_for l.length (fun j env H1 => Ext H H1 ∧ H1 b3 = some (.box [.slice (h.table.women.map eW), .slice (h.table.pieces.map eP), i6 h.table.wrong, .slice (eI h.sick), i6 h.others, i6 h.last, .slice (h.touches.map eTo), .slice (h.boiled.map eB), .slice (h.signs.map eS)]) ∧ env 1 = .slice (eI l) ∧ env 2 = i6 k ∧ env 3 = .ptr b3 0 ∧ env 7 = i6 j ∧ env 34 = .any ∧ (l.take j).all (thingOK h) = true)
    ⟨(Ext.refl H).new hb3 _, updH_same _ _ _, by simp [upd_at], by simp [upd_at], by simp [upd_at], by simp [upd_at], by simp [upd_at], by simp⟩ ?_
  rintro j env H1 hj ⟨hE, hB3, g1, g2, g3, g7, hN, hq⟩
  by_cases hlt : (j : Int) < (l.length : Int)
  · have hlt' : j < l.length := by omega
    simp only [go_sem, reduceIte, reduceCtorEq, Nat.reduceEqDiff, Nat.reduceBEq, Nat.reduceAdd, Nat.reduceMul, Nat.reduceLeDiff, List.getElem?_cons_zero, List.getElem?_cons_succ, bne_self_eq_false, Int.reduceEq, g1, g2, g3, g7, hN, hlt, hB3, eI_get hlt']
    refine pgo_call (isThing_c h l[j]) ?_
    cases d : thingOK h l[j]
    · simp only [go_sem, reduceIte, reduceCtorEq, Nat.reduceEqDiff, Nat.reduceBEq, Nat.reduceAdd, Nat.reduceMul, Nat.reduceLeDiff, List.getElem?_cons_zero, List.getElem?_cons_succ, bne_self_eq_false, Int.reduceEq, hN]
      refine fin_ret 6 (by simp [upd_at, hN]) ⟨_, H, Settle.refl hE, ?_, rfl⟩
      have : l.all (thingOK h) = false := by rw [List.all_eq_false]; exact ⟨l[j], List.getElem_mem _, by simp [d]⟩
      simp [upd_at, isOrd, this]
    · simp only [go_sem, reduceIte, reduceCtorEq, Nat.reduceEqDiff, Nat.reduceBEq, Nat.reduceAdd, Nat.reduceMul, Nat.reduceLeDiff, List.getElem?_cons_zero, List.getElem?_cons_succ, bne_self_eq_false, Int.reduceEq, g1, g2, g3, g7, hN, hB3, wsucc (show j < 4611686018427387904 by omega), hlt']
      refine ⟨hE, ?_⟩
      rw [take_snoc hlt', List.all_append, hq, List.all_cons, d]; rfl
  · have : j = l.length := by omega
    subst this
    rw [List.take_length] at hq
    by_cases h3 : (l.length : Int) ≤ 3
    · simp only [go_sem, reduceIte, reduceCtorEq, Nat.reduceEqDiff, Nat.reduceBEq, Nat.reduceAdd, Nat.reduceMul, Nat.reduceLeDiff, List.getElem?_cons_zero, List.getElem?_cons_succ, bne_self_eq_false, Int.reduceEq, g1, g2, g3, g7, hN, hlt, h3, hB3, take_f']
      refine fin_ret 6 (by simp [upd_at, hN]) ⟨_, H, Settle.refl hE, ?_, rfl⟩
      simp only [upd_at, if_true, isOrd, hq, Bool.true_and, decide_eq_true h3]
    · simp only [go_sem, reduceIte, reduceCtorEq, Nat.reduceEqDiff, Nat.reduceBEq, Nat.reduceAdd, Nat.reduceMul, Nat.reduceLeDiff, List.getElem?_cons_zero, List.getElem?_cons_succ, bne_self_eq_false, Int.reduceEq, g1, g2, g3, g7, hN, hlt, h3]
      refine fin_ret 6 (by simp [upd_at, hN]) ⟨_, H, Settle.refl hE, ?_, rfl⟩
      simp only [upd_at, if_true, isOrd, hq, Bool.true_and, decide_eq_false h3, Bool.false_and]
end Go.Lift

set_option linter.unusedSimpArgs false
set_option linter.unusedVariables false
namespace Go.Lift
open Go Go.Proofs
theorem enumG_nodup {f : Nat → List Int} (hf : ∀ i, (f i).Nodup) : ∀ (k : Nat) (pre : List Int), (enumG f k pre).Nodup
  | 0, pre => by simp [enumG]
  | k + 1, pre => by
    rw [enumG, List.Nodup, List.pairwise_flatMap]
    refine ⟨fun w _ => enumG_nodup hf k _, ?_⟩
    refine List.Pairwise.imp ?_ (hf pre.length)
    intro a b hab x hx y hy hxy
    subst hxy
    obtain ⟨s1, h1, _⟩ := (mem_enumG f k _ _).1 hx
    obtain ⟨s2, h2, _⟩ := (mem_enumG f k _ _).1 hy
    rw [h1] at h2
    simp at h2
    exact hab h2.1
theorem nodup_filter {α : Type} {l : List α} (p : α → Bool) (h : l.Nodup) : (l.filter p).Nodup := List.Pairwise.filter p h
theorem nodup_ofNat {l : List Nat} (h : l.Nodup) : (l.map Int.ofNat).Nodup := by
  refine List.Pairwise.map Int.ofNat (fun a b hab => ?_) h
  intro hh
  exact hab (Int.ofNat.inj hh)
theorem womenUpto_nodup (ws : List Woman) (marks : List Int) (n : Nat) : (womenUpto ws marks n).Nodup := nodup_ofNat (nodup_filter _ List.nodup_range)
theorem whoIs_nodup (t : Table) (i m : Nat) : (whoIs t i m).Nodup := nodup_ofNat (nodup_filter _ List.nodup_range)
def ownersA (t : Table) : List (List Int) := (enumW (whoseT t) t.pieces.length []).filter (isTruthT t)
theorem ownersA_mem {t : Table} (hc : checkTable t = 0) (o : List Int) : o ∈ ownersA t ↔ isTruthT t o = true := by
  rw [ownersA, List.mem_filter]
  exact ⟨fun h => h.2, fun h => ⟨truth_whose hc h, h⟩⟩
theorem truthsR_mem {t : Table} (hc : checkTable t = 0) (o : List Int) : o ∈ truthsR t ↔ isTruthT t o = true := by
  rw [truthsR_eq hc, List.mem_filter, isTruthT_iff hc, isTruthR, Bool.and_eq_true, decide_eq_true_eq, mem_allO]
  constructor
  · rintro ⟨h1, h2, h3⟩; exact ⟨h1, h3⟩
  · rintro ⟨h1, h2⟩; exact ⟨h1, h1, h2⟩
theorem getD_nodup {L : List (List Int)} (h : ∀ l ∈ L, l.Nodup) (i : Nat) : (L.getD i []).Nodup := by
  rw [List.getD_eq_getElem?_getD]
  cases hi : L[i]? with
  | none => simp
  | some l => exact h l (List.mem_of_getElem? hi)
theorem owners_perm {t : Table} (hc : checkTable t = 0) : (truthsR t).Perm (ownersA t) := by
  refine (List.perm_ext_iff_of_nodup ?_ ?_).2 fun o => ?_
  · rw [truthsR_eq hc, allO, enumO_eq]
    exact nodup_filter _ (enumG_nodup (fun i => womenUpto_nodup _ _ _) _ _)
  · rw [ownersA, enumW_eq]
    refine nodup_filter _ (enumG_nodup (fun i => getD_nodup (fun l hl => ?_) i) _ _)
    simp only [whoseT, List.mem_map] at hl
    obtain ⟨j, _, rfl⟩ := hl
    exact whoIs_nodup _ _ _
  · rw [truthsR_mem hc, ownersA_mem hc]
theorem flat_cons {α β : Type} (f : β → α) (g : β → List α) : ∀ l : List β, (l.flatMap fun y => f y :: g y).Perm (l.map f ++ l.flatMap g)
  | [] => List.Perm.refl _
  | y :: l => by
    simp only [List.flatMap_cons, List.map_cons, List.cons_append]
    refine List.Perm.cons _ ?_
    have h1 := (flat_cons f g l).append_left (g y)
    refine h1.trans ?_
    rw [← List.append_assoc, ← List.append_assoc]
    exact List.perm_append_comm.append_right _
theorem flat_swap {α β γ : Type} (f : α → β → γ) (l2 : List β) : ∀ l1 : List α, (l1.flatMap fun x => l2.map fun y => f x y).Perm (l2.flatMap fun y => l1.map fun x => f x y)
  | [] => by simp
  | x :: l1 => by
    rw [List.flatMap_cons]
    have h := flat_swap f l2 l1
    refine (h.append_left _).trans ?_
    exact (flat_cons (fun y => f x y) (fun y => l1.map fun x => f x y) l2).symm
theorem flat_congr {α β : Type} {f g : α → List β} : ∀ {l : List α}, (∀ a ∈ l, (f a).Perm (g a)) → (l.flatMap f).Perm (l.flatMap g)
  | [], _ => List.Perm.refl _
  | a :: l, h => by
    rw [List.flatMap_cons, List.flatMap_cons]
    exact (h a List.mem_cons_self).append (flat_congr fun b hb => h b (List.mem_cons_of_mem _ hb))
def enS (f : Nat → List Int) : Nat → Nat → List (List Int)
  | 0, _ => [[]]
  | k + 1, j => (f j).flatMap fun w => (enS f k (j + 1)).map fun s => w :: s
theorem enumG_enS (f : Nat → List Int) : ∀ (k : Nat) (pre : List Int), enumG f k pre = (enS f k pre.length).map fun s => pre ++ s
  | 0, pre => by simp [enumG, enS]
  | k + 1, pre => by
    rw [enumG, enS, List.map_flatMap]
    congr 1
    funext w
    rw [enumG_enS f k, List.map_map, List.length_append, List.length_singleton]
    congr 1
    funext s
    simp
theorem hrs_perm (h : House) : ∀ (k j : Nat), (∀ i, j ≤ i → i < j + k → 1 ≤ hourN h i) → ((List.range (prodL (hourN h) j k)).map (hrsGo h k j)).Perm (enS (hoursAt h) k j)
  | 0, j, _ => by simp [prodL, enS, hrsGo]
  | k + 1, j, hp => by
    have ih := hrs_perm h k (j + 1) (fun i h1 h2 => hp i (by omega) (by omega))
    have hk := hp j (by omega) (by omega)
    rw [prodL, Nat.mul_comm, range_mul, List.map_flatMap, enS]
    have e1 : (fun q => ((List.range (hourN h j)).map fun r => q * hourN h j + r).map (hrsGo h (k + 1) j)) = fun q => (List.range (hourN h j)).map fun r : Nat => ((h.touches.getD j default).lo + (r : Int)) :: hrsGo h k (j + 1) q := by
      funext q
      rw [List.map_map]
      apply List.ext_getElem
      · simp
      · intro i h1 h2
        simp only [List.length_map, List.length_range] at h1 h2
        simp only [List.getElem_map, List.getElem_range, Function.comp, hrsGo]
        have e1 : (q * hourN h j + i) / hourN h j = q := by
          rw [Nat.mul_comm, Nat.mul_add_div hk, Nat.div_eq_of_lt h2, Nat.add_zero]
        have e2 : (q * hourN h j + i) % hourN h j = i := by
          rw [Nat.mul_comm, Nat.mul_add_mod, Nat.mod_eq_of_lt h2]
        rw [e1, e2]
    rw [e1]
    refine (flat_swap (fun (q r : Nat) => ((h.touches.getD j default).lo + (r : Int)) :: hrsGo h k (j + 1) q) (List.range (hourN h j)) (List.range (prodL (hourN h) (j + 1) k))).trans ?_
    rw [hoursAt, List.flatMap_map]
    refine flat_congr fun r _ => ?_
    have := ih.map fun s => ((h.touches.getD j default).lo + (r : Int)) :: s
    rw [List.map_map] at this
    exact this
theorem hours_perm (h : House) (hp : ∀ i, i < h.touches.length → 1 ≤ hourN h i) : ((List.range (prodL (hourN h) 0 h.touches.length)).map (hrsOf h)).Perm (enumH h h.touches.length []) := by
  have := hrs_perm h h.touches.length 0 (fun i _ h2 => hp i (by omega))
  rw [enumH_eq, enumG_enS]
  simp only [List.nil_append, List.length_nil, List.map_id']
  exact this
end Go.Lift

set_option linter.unusedSimpArgs false
set_option linter.unusedVariables false
namespace Go.Lift
open Go Go.Proofs
theorem prodL_pos {f : Nat → Nat} : ∀ (k a : Nat), (∀ i, a ≤ i → i < a + k → 1 ≤ f i) → 1 ≤ prodL f a k
  | 0, _, _ => Nat.le_refl _
  | k + 1, a, h => by
    rw [prodL]
    exact Nat.mul_pos (h a (by omega) (by omega)) (prodL_pos k (a + 1) fun i h1 h2 => h i (by omega) (by omega))
theorem timesR_eq {h : House} (hv : HV h) : timesR h h.touches.length = prodL (hourN h) 0 h.touches.length := by
  have h1 := manyH_eq hv
  have h2 := hv.many
  have h3 := prodL_pos (f := womN h.table) h.table.pieces.length 0 fun i _ hi => womN_pos hv.tab i (by omega)
  have h4 : prodL (womN h.table) 0 h.table.pieces.length * prodL (hourN h) 0 h.touches.length ≤ 2000 := by omega
  have h5 : prodL (hourN h) 0 h.touches.length ≤ prodL (womN h.table) 0 h.table.pieces.length * prodL (hourN h) 0 h.touches.length := Nat.le_mul_of_pos_left _ h3
  rw [timesR]; omega
theorem flat_filter {α β : Type} (p : α → Bool) (f : α → List β) : ∀ l : List α, l.flatMap (fun a => if p a = true then f a else []) = (l.filter p).flatMap f
  | [] => rfl
  | a :: l => by
    rw [List.flatMap_cons, List.filter_cons, flat_filter p f l]
    cases p a <;> simp
theorem courses_perm {h : House} (hv : HV h) : (coursesR h).Perm (allC h) := by
  have e1 : allC h = (ownersA h.table).flatMap fun o => (enumH h h.touches.length []).map fun hs => (⟨o, hs⟩ : Course) := by
    rw [allC, ownersA, ← flat_filter]; rfl
  rw [e1, coursesR]
  refine ((owners_perm hv.tab).flatMap_right _).trans (flat_congr fun o _ => ?_)
  rw [rowR, timesR_eq hv]
  have := (hours_perm h (hourN_pos hv)).map fun hs => (⟨o, hs⟩ : Course)
  rw [List.map_map] at this
  exact this
theorem mem_coursesR {h : House} (hv : HV h) (c : Course) : c ∈ coursesR h ↔ courseOK h c = true := by rw [(courses_perm hv).mem_iff, mem_allC hv.tab]
theorem own_woman {h : House} (hv : HV h) {c : Course} (hc : courseOK h c = true) {i : Nat} (hi : i < h.table.pieces.length) : ∃ w : Nat, c.owners.getD i 0 = (w : Int) ∧ w < h.table.women.length := by
  simp only [courseOK, Bool.and_eq_true] at hc
  obtain ⟨h1, _⟩ := (isTruthT_iff hv.tab _).1 hc.1
  obtain ⟨h3, h4, h5⟩ := allO_owner (checkTable_len hv.tab).2 h1
  obtain ⟨w, hw, hwl⟩ := h5 i hi
  refine ⟨w, ?_, hwl⟩
  rw [← hw, pad7_get _ _ (by omega)]
theorem pad_get {h : House} (hv : HV h) {c : Course} (hc : courseOK h c = true) {i : Nat} (hi : i < h.table.pieces.length) : (pad7 c.owners).getD i 0 = c.owners.getD i 0 := by
  have := (courseOK_len hc).1
  rw [pad7_get _ _ (by omega)]
theorem safe_eq {h : House} (hv : HV h) {c : Course} (hc : courseOK h c = true) (more : List Boiling) : safeR h more c = safeC h more c := by
  have hl := (courseOK_len hc).1
  rw [safeR, safeC, Bool.eq_iff_iff]
  simp only [List.all_eq_true, List.mem_range, harmB, safeAt, hl, Bool.not_eq_true', Bool.and_eq_false_iff, Bool.not_eq_false', decide_eq_true_eq, List.any_eq_false, harmAt, Bool.and_eq_true]
  constructor
  · intro hw i hi
    obtain ⟨w, h1, h2⟩ := own_woman hv hc hi
    rw [pad_get hv hc hi, h1]
    rcases hw w h2 with h3 | h3
    · exact .inr h3
    · have := h3 i hi
      rw [h1] at this
      simp only [true_and, Bool.not_eq_true] at this
      exact .inl this
  · intro hs w hw
    by_cases h1 : (w : Int) ∈ h.sick
    · exact .inl h1
    · refine .inr fun i hi h2 => ?_
      have := hs i hi
      rw [pad_get hv hc hi, h2.1, h2.2] at this
      rcases this with h | h
      · cases h
      · exact h1 h
end Go.Lift

set_option linter.unusedSimpArgs false
set_option linter.unusedVariables false
namespace Go.Lift
open Go Go.Proofs
theorem thin_sm {h : House} (c1 : thinH h = true) : HSm h := by
  rw [thinH, Bool.and_eq_true] at c1; exact short_sm c1.1
end Go.Lift

set_option linter.unusedSimpArgs false
set_option linter.unusedVariables false
namespace Go.Lift
open Go Go.Proofs
theorem before_irr : ∀ a : List Int, beforeL a a = false
  | [] => rfl
  | a :: xs => by rw [beforeL, if_pos rfl, before_irr xs]
theorem before_trans : ∀ a b c : List Int, beforeL a b = true → beforeL b c = true → beforeL a c = true
  | [], b, [], _, h2 => by
    cases b with
    | nil => exact h2
    | cons b bs => simp [beforeL] at h2
  | [], _, c :: cs, _, _ => by simp [beforeL]
  | a :: xs, [], _, h1, _ => by simp [beforeL] at h1
  | a :: xs, b :: bs, [], _, h2 => by simp [beforeL] at h2
  | a :: xs, b :: bs, c :: cs, h1, h2 => by
    simp only [beforeL] at h1 h2 ⊢
    by_cases e1 : a = b
    · subst e1
      rw [if_pos rfl] at h1
      by_cases e2 : a = c
      · rw [if_pos e2] at h2 ⊢; exact before_trans xs bs cs h1 h2
      · rw [if_neg e2] at h2 ⊢; exact h2
    · rw [if_neg e1, decide_eq_true_eq] at h1
      by_cases e2 : b = c
      · subst e2; rw [if_neg e1]; exact decide_eq_true h1
      · rw [if_neg e2, decide_eq_true_eq] at h2
        rw [if_neg (by omega)]; exact decide_eq_true (by omega)
theorem before_pre : ∀ (p a b : List Int), beforeL (p ++ a) (p ++ b) = beforeL a b
  | [], _, _ => rfl
  | x :: p, a, b => by rw [List.cons_append, List.cons_append, beforeL, if_pos rfl, before_pre p]
theorem shorter_iff (a b : List Int) : shorterL a b = true ↔ a.length < b.length ∨ (a.length = b.length ∧ beforeL a b = true) := by
  simp [shorterL]
theorem shorter_irr (a : List Int) : shorterL a a = false := by
  rw [Bool.eq_false_iff, Ne, shorter_iff, before_irr]
  rintro (h | h)
  · omega
  · cases h.2
theorem shorter_trans {a b c : List Int} (h1 : shorterL a b = true) (h2 : shorterL b c = true) : shorterL a c = true := by
  rw [shorter_iff] at *
  rcases h1 with h1 | h1 <;> rcases h2 with h2 | h2
  · exact .inl (by omega)
  · exact .inl (by omega)
  · exact .inl (by omega)
  · exact .inr ⟨by omega, before_trans _ _ _ h1.2 h2.2⟩
theorem shorter_asym {a b : List Int} (h : shorterL a b = true) : shorterL b a = false := by
  rw [Bool.eq_false_iff]
  intro h2
  have := shorter_trans h h2
  rw [shorter_irr] at this; cases this
/-- The least one that will do, of some lists. -/
structure IsMin (ok : List Int → Bool) (D : List Int → Prop) (x : List Int) : Prop where
  dom : D x
  good : ok x = true
  least : ∀ y, D y → ok y = true → shorterL y x = false
theorem IsMin.congr {ok ok' : List Int → Bool} {D D' : List Int → Prop} {x : List Int} (h : IsMin ok D x) (hd : ∀ y, D y ↔ D' y) (hok : ∀ y, D y → ok y = ok' y) : IsMin ok' D' x :=
  ⟨(hd x).1 h.dom, by rw [← hok x h.dom]; exact h.good, fun y hy ho => h.least y ((hd y).2 hy) (by rw [hok y ((hd y).2 hy)]; exact ho)⟩
theorem find_min {ok : List Int → Bool} {l : List (List Int)} (hs : l.Pairwise fun a b => shorterL a b = true) {x : List Int} (h : l.find? ok = some x) : IsMin ok (· ∈ l) x := by
  obtain ⟨h1, l1, bs, rfl, h2⟩ := List.find?_eq_some_iff_append.1 h
  refine ⟨by simp, h1, fun y hy ho => ?_⟩
  rw [List.pairwise_append] at hs
  rcases List.mem_append.1 hy with hy | hy
  · have := h2 y hy; rw [ho] at this; cases this
  · rcases List.mem_cons.1 hy with rfl | hy
    · exact shorter_irr _
    · exact shorter_asym ((List.pairwise_cons.1 hs.2.1).1 y hy)
theorem tryAll_find {ok : List Int → Bool} : ∀ {l : List (List Int)} {x : List Int} (old : List Int), l.find? ok = some x → tryAll ok old l = x
  | [], x, _, h => by cases h
  | y :: l, x, old, h => by
    rw [tryAll]
    rw [List.find?_cons] at h
    cases hy : ok y
    · rw [hy] at h; simp only [Bool.false_eq_true, if_false]; exact tryAll_find y h
    · rw [hy] at h; cases h; rfl
theorem any_find {α : Type} {ok : α → Bool} {l : List α} (h : l.any ok = true) : ∃ x, l.find? ok = some x := by
  cases hf : l.find? ok with
  | some x => exact ⟨x, rfl⟩
  | none =>
    rw [List.any_eq_true] at h
    obtain ⟨x, hx, ho⟩ := h
    exact absurd ho (List.find?_eq_none.1 hf x hx)
def Inc (n : Nat) (x : List Int) : Prop := x.Pairwise (· < ·) ∧ ∀ a ∈ x, ∃ i : Nat, a = (i : Int) ∧ i < n
def IncF (n : Nat) : Nat → List Int → Prop
  | _, [] => True
  | f, a :: l => ∃ i : Nat, a = (i : Int) ∧ f ≤ i ∧ i < n ∧ IncF n (i + 1) l
theorem IncF.room {n : Nat} : ∀ {l : List Int} {f : Nat}, IncF n f l → l ≠ [] → f + l.length ≤ n
  | [], _, _, h => absurd rfl h
  | a :: l, f, h, _ => by
    obtain ⟨i, rfl, h1, h2, h3⟩ := h
    cases l with
    | nil => simp; omega
    | cons b l => have := h3.room (by simp); simp only [List.length_cons] at this ⊢; omega
theorem incF_iff {n : Nat} : ∀ {l : List Int} {f : Nat}, IncF n f l ↔ l.Pairwise (· < ·) ∧ ∀ a ∈ l, ∃ i : Nat, a = (i : Int) ∧ f ≤ i ∧ i < n
  | [], f => by simp [IncF]
  | a :: l, f => by
    rw [List.pairwise_cons]
    constructor
    · rintro ⟨i, rfl, h1, h2, h3⟩
      obtain ⟨k1, k2⟩ := (incF_iff (l := l) (f := i + 1)).1 h3
      refine ⟨⟨fun b hb => ?_, k1⟩, fun b hb => ?_⟩
      · obtain ⟨j, rfl, h4, h5⟩ := k2 b hb; omega
      · rcases List.mem_cons.1 hb with rfl | hb
        · exact ⟨i, rfl, h1, h2⟩
        · obtain ⟨j, rfl, h4, h5⟩ := k2 b hb; exact ⟨j, rfl, by omega, h5⟩
    · rintro ⟨⟨h1, h2⟩, h3⟩
      obtain ⟨i, rfl, h4, h5⟩ := h3 a List.mem_cons_self
      refine ⟨i, rfl, h4, h5, incF_iff.2 ⟨h2, fun b hb => ?_⟩⟩
      obtain ⟨j, rfl, h6, h7⟩ := h3 b (List.mem_cons_of_mem _ hb)
      have := h1 _ hb
      exact ⟨j, rfl, by omega, h7⟩
theorem inc_incF {n : Nat} {l : List Int} : Inc n l ↔ IncF n 0 l := by
  rw [incF_iff, Inc]; simp
theorem mem_combos (n : Nat) : ∀ (k f : Nat) (pre x : List Int), x ∈ combos n k pre f ↔ ∃ s, x = pre ++ s ∧ s.length = k ∧ IncF n f s
  | 0, f, pre, x => by
    simp only [combos, List.mem_singleton]
    constructor
    · rintro rfl; exact ⟨[], by simp, rfl, trivial⟩
    · rintro ⟨s, rfl, h, _⟩; rw [List.length_eq_zero_iff.1 h]; simp
  | k + 1, f, pre, x => by
    simp only [combos, List.mem_flatMap, List.mem_range]
    constructor
    · rintro ⟨j, hj, hx⟩
      obtain ⟨s, rfl, h1, h2⟩ := (mem_combos n k _ _ _).1 hx
      exact ⟨((f + j : Nat) : Int) :: s, by simp, by simp [h1], f + j, rfl, by omega, by omega, h2⟩
    · rintro ⟨s, rfl, h1, h2⟩
      cases s with
      | nil => simp at h1
      | cons a s =>
        obtain ⟨i, rfl, h3, h4, h5⟩ := h2
        simp only [List.length_cons] at h1
        have hroom : i + k < n := by
          rcases Nat.eq_zero_or_pos s.length with h | h
          · omega
          · have := h5.room (List.length_pos_iff.1 h); omega
        refine ⟨i - f, by omega, (mem_combos n k _ _ _).2 ⟨s, ?_, by omega, ?_⟩⟩
        · rw [show f + (i - f) = i by omega]; simp
        · rw [show f + (i - f) = i by omega]; exact h5
theorem combos_sorted (n : Nat) : ∀ (k f : Nat) (pre : List Int), (combos n k pre f).Pairwise fun a b => beforeL a b = true
  | 0, _, _ => by simp [combos]
  | k + 1, f, pre => by
    rw [combos, List.pairwise_flatMap]
    refine ⟨fun j _ => combos_sorted n k _ _, ?_⟩
    refine List.Pairwise.imp ?_ List.pairwise_lt_range
    intro a b hab x hx y hy
    obtain ⟨s1, rfl, _⟩ := (mem_combos n k _ _ _).1 hx
    obtain ⟨s2, rfl, _⟩ := (mem_combos n k _ _ _).1 hy
    rw [List.append_assoc, List.append_assoc, before_pre]
    simp only [List.singleton_append, beforeL]
    rw [if_neg (by omega)]; exact decide_eq_true (by omega)
def combosAll (n : Nat) : List (List Int) := (List.range (n + 1)).flatMap fun k => combos n k [] 0
theorem by_length {f : Nat → List (List Int)} {m : Nat} (h1 : ∀ k, (f k).Pairwise fun a b => beforeL a b = true) (h2 : ∀ k, ∀ x ∈ f k, x.length = k) : ((List.range m).flatMap f).Pairwise fun a b => shorterL a b = true := by
  rw [List.pairwise_flatMap]
  refine ⟨fun k _ => ?_, ?_⟩
  · refine List.Pairwise.imp_of_mem ?_ (h1 k)
    intro a b ha hb hab
    rw [shorter_iff]
    exact .inr ⟨by rw [h2 k a ha, h2 k b hb], hab⟩
  · refine List.Pairwise.imp ?_ List.pairwise_lt_range
    intro a b hab x hx y hy
    rw [shorter_iff]
    exact .inl (by rw [h2 a x hx, h2 b y hy]; exact hab)
theorem combosAll_sorted (n : Nat) : (combosAll n).Pairwise fun a b => shorterL a b = true :=
  by_length (fun k => combos_sorted n k 0 []) fun k x hx => by
    obtain ⟨s, rfl, h, _⟩ := (mem_combos n k 0 [] x).1 hx
    simpa using h
theorem mem_combosAll {n : Nat} {x : List Int} : x ∈ combosAll n ↔ Inc n x := by
  simp only [combosAll, List.mem_flatMap, List.mem_range, mem_combos, inc_incF, List.nil_append]
  constructor
  · rintro ⟨k, _, s, rfl, _, h⟩; exact h
  · intro h
    refine ⟨x.length, ?_, x, rfl, rfl, h⟩
    rcases Nat.eq_zero_or_pos x.length with h0 | h0
    · omega
    · have := h.room (List.length_pos_iff.1 h0); omega
theorem tryAll_min {ok : List Int → Bool} {n : Nat} {x : List Int} (hx : Inc n x) (ho : ok x = true) : IsMin ok (Inc n) (tryAll ok [] (combosAll n)) := by
  obtain ⟨y, hy⟩ := any_find (ok := ok) (l := combosAll n) (List.any_eq_true.2 ⟨x, mem_combosAll.2 hx, ho⟩)
  rw [tryAll_find [] hy]
  exact (find_min (combosAll_sorted n) hy).congr (fun y => mem_combosAll) (fun _ _ => rfl)
theorem bitsUpto_sorted (m p : Nat) : (bitsUpto m p).Pairwise (· < ·) := by
  rw [bitsUpto]
  refine List.Pairwise.map Int.ofNat (fun a b hab => ?_) (List.Pairwise.filter _ List.pairwise_lt_range)
  exact Int.ofNat_lt.2 hab
theorem bits_inc {n m : Nat} (hn : n ≤ 62) (hm : m < 2 ^ n) : Inc n (bitsL m) := by
  rw [bitsL_of hn hm]
  refine ⟨bitsUpto_sorted m n, fun a ha => ?_⟩
  simp only [bitsUpto, List.mem_map, List.mem_filter, List.mem_range] at ha
  obtain ⟨i, h, rfl⟩ := ha
  exact ⟨i, rfl, h.1⟩
end Go.Lift

set_option linter.unusedSimpArgs false
set_option linter.unusedVariables false
namespace Go.Lift
open Go Go.Proofs
/-- The house with other signs. -/
def reS (h : House) (ss : List Sign) : House := { h with signs := ss }
def sgn (bs : List Bool) (s : Sign) : Bool := bs.getD s.thing.toNat false == s.carries
theorem enumH_reS (h : House) (ss : List Sign) : ∀ (k : Nat) (pre : List Int), enumH (reS h ss) k pre = enumH h k pre
  | 0, _ => rfl
  | k + 1, pre => by
    simp only [enumH]
    congr 1
    funext n
    exact enumH_reS h ss k _
theorem allC_reS (h : House) (ss : List Sign) : allC (reS h ss) = allC h := by
  unfold allC
  congr 1
  funext o
  unfold coursesOf
  rw [enumH_reS]; rfl
theorem timesUpto_reS (h : House) (ss : List Sign) (m : Int) : ∀ j, timesUpto (reS h ss) m j = timesUpto h m j
  | 0 => rfl
  | j + 1 => by simp only [timesUpto, timesUpto_reS h ss m j]; rfl
theorem check_zero (h : House) : checkHouse h = 0 ↔ ¬ bigH h ∧ askErr h.table = 0 ∧ ¬ badH h ∧ allH h ∧ ¬ 2000 < manyH h := by
  unfold checkHouse
  by_cases h1 : bigH h
  · simp [h1]
  by_cases h2 : askErr h.table = 0
  rotate_left
  · simp [h1, h2]
  by_cases h3 : badH h
  · simp [h1, h2, h3]
  by_cases h4 : allH h
  rotate_left
  · simp [h1, h2, h3, h4]
  by_cases h5 : 2000 < manyH h
  · simp [h1, h2, h3, h4, h5]
  · simp [h1, h2, h3, h4, h5]
theorem check_reS {h : House} (hc : checkHouse h = 0) {ss : List Sign} (h5 : ss.length ≤ 5) (ht : ∀ s ∈ ss, thingOK h s.thing = true) : checkHouse (reS h ss) = 0 := by
  rw [check_zero] at hc ⊢
  obtain ⟨h1, h2, h3, h4, h6⟩ := hc
  refine ⟨?_, h2, h3, ⟨h4.1, h4.2.1, List.all_eq_true.2 ht⟩, ?_⟩
  · rintro (k | k | k | k | k)
    · exact h1 (.inl k)
    · exact h1 (.inr (.inl k))
    · exact h1 (.inr (.inr (.inl k)))
    · exact h1 (.inr (.inr (.inr (.inl k))))
    · have : (reS h ss).signs.length = ss.length := rfl
      omega
  · have : manyH (reS h ss) = manyH h := timesUpto_reS h ss _ _
    rw [this]; exact h6
theorem range_all {α : Type} (d : α) (l : List α) (p : α → Bool) : ((List.range l.length).all fun i => p (l.getD i d)) = l.all p := by
  rw [Bool.eq_iff_iff, List.all_eq_true, List.all_eq_true]
  constructor
  · intro h x hx
    obtain ⟨i, hi, rfl⟩ := List.getElem_of_mem hx
    have := h i (List.mem_range.2 hi)
    simpa [List.getD_eq_getElem?_getD, hi] using this
  · intro h i hi
    have hi' := List.mem_range.1 hi
    have : l.getD i d = l[i] := by simp [List.getD_eq_getElem?_getD, hi']
    rw [this]; exact h _ (List.getElem_mem _)
theorem isTrue_nil (h : House) (c : Course) : isTrue h [] c = h.signs.all (sgn (lastOf h c [])) := by
  rw [← range_all default, isTrue, rightOK]
  congr 1
  funext i
  unfold signRight sgn
  generalize (lastOf h c []).getD _ false = a
  generalize Sign.carries _ = b
  cases a <;> cases b <;> simp
theorem isTrue_out (h : House) (out : List Int) (c : Course) : isTrue h out c = true ↔ ∀ i, i < h.signs.length → (i : Int) ∉ out → sgn (lastOf h c []) (h.signs.getD i default) = true := by
  rw [isTrue, rightOK, List.all_eq_true]
  constructor
  · intro hall i hi hn
    have := hall i (List.mem_range.2 hi)
    simpa [signRight, hn, sgn] using this
  · intro hall i hi
    by_cases hm : (i : Int) ∈ out
    · simp [signRight, hm]
    · have := hall i (List.mem_range.1 hi) hm
      simpa [signRight, hm, sgn] using this
theorem possible_iff (h : House) (out : List Int) : possibleP h out = true ↔ ∃ c ∈ allC h, isTrue h out c = true := by
  rw [possibleP, List.any_eq_true]
theorem possible_tru (h : House) : possibleP h [] = true ↔ truH h [] ≠ [] := by
  rw [possible_iff, truH, Ne, List.filter_eq_nil_iff]
  constructor
  · rintro ⟨c, hc, ht⟩ hall; exact hall c hc ht
  · intro hn; exact Classical.byContradiction fun hno => hn fun c hc ht => hno ⟨c, hc, ht⟩
theorem allC_ne {h : House} (hv : HV h) : ∃ c, c ∈ allC h := by
  have h1 : truthsT h.table ≠ [] := by
    intro h0
    have := hv.ask
    rw [askErr, if_pos hv.tab, if_pos h0] at this; cases this
  have h2 : truthsR h.table ≠ [] := fun h0 => h1 ((truths_nil hv.tab).1 h0)
  obtain ⟨o, l, ho⟩ := List.exists_cons_of_ne_nil h2
  have h3 : isTruthT h.table o = true := (truthsR_mem hv.tab o).1 (by rw [ho]; simp)
  refine ⟨⟨o, h.touches.map (·.lo)⟩, (mem_allC hv.tab _).2 ?_⟩
  rw [courseOK, h3, hoursOK]
  simp only [Bool.true_and, List.length_map, decide_true, List.all_eq_true, List.mem_range, decide_eq_true_eq]
  intro i hi
  have := hv.tim _ (List.getElem_mem hi)
  simp [List.getD_eq_getElem?_getD, hi]; omega
theorem mem_bitsL (m i : Nat) : (i : Int) ∈ bitsL m ↔ i < 62 ∧ m.testBit i = true := by
  simp only [bitsL, bitsUpto, List.mem_map, List.mem_filter, List.mem_range]
  constructor
  · rintro ⟨j, hj, e⟩
    have : j = i := by
      have : ((j : Nat) : Int) = (i : Int) := e
      omega
    subst this; exact hj
  · intro hi; exact ⟨i, hi, rfl⟩
theorem possible_full {h : House} (hv : HV h) : possibleP h (bitsL (2 ^ h.signs.length - 1)) = true := by
  obtain ⟨c, hc⟩ := allC_ne hv
  rw [possible_iff]
  refine ⟨c, hc, (isTrue_out _ _ _).2 fun i hi hn => absurd ((mem_bitsL _ _).2 ⟨?_, ?_⟩) hn⟩
  · have := hv.ok.signs; omega
  · rw [Nat.testBit_two_pow_sub_one]; exact decide_eq_true hi
theorem leave_min {h : House} (hv : HV h) : IsMin (possibleP h) (Inc h.signs.length) (leaveOf h) := by
  have h5 := hv.ok.signs
  have := tryAll_min (ok := possibleP h) (n := h.signs.length) (bits_inc (m := 2 ^ h.signs.length - 1) (by omega) (by have : 1 ≤ 2 ^ h.signs.length := Nat.one_le_two_pow; omega)) (possible_full hv)
  exact this
theorem cut_reS (h : House) (k : Nat) : cut h k = reS h (h.signs.take k) := rfl
theorem possible_reS (h : House) (ss : List Sign) : possibleP (reS h ss) [] = (allC h).any fun c => ss.all (sgn (lastOf h c [])) := by
  rw [possibleP, allC_reS]
  congr 1
  funext c
  rw [isTrue_nil]; rfl
end Go.Lift

set_option linter.unusedSimpArgs false
set_option linter.unusedVariables false
namespace Go.Lift
open Go Go.Proofs
def Zer (c : List Bool) : Prop := ∀ i, c.getD i false = false
theorem getD_set (c : List Bool) (k i : Nat) (b : Bool) (hk : k < c.length) : (c.set k b).getD i false = if i = k then b else c.getD i false := by
  simp only [List.getD_eq_getElem?_getD, List.getElem?_set, hk, if_true]
  by_cases h : k = i
  · subst h; simp
  · rw [if_neg h, if_neg (fun e => h e.symm)]
theorem startOf_get (h : House) (o : List Int) : ∀ j, j ≤ 10 → ∀ i, (startOf h o j).getD i false = (decide (i < j) && decide (o.getD i 0 ∈ h.sick))
  | 0, _, i => by
    simp only [startOf, List.range_zero, List.foldl_nil, List.getD_eq_getElem?_getD, List.getElem?_replicate]
    split <;> simp
  | j + 1, hj, i => by
    have e : startOf h o (j + 1) = sickAt h o (startOf h o j) j := range_fold _ _ _
    rw [e, sickAt, getD_set _ _ _ _ (by rw [startOf_len]; omega), startOf_get h o j (by omega)]
    by_cases hi : i = j
    · subst hi; simp
    · rw [if_neg hi]
      by_cases h1 : i < j
      · simp [h1, show i < j + 1 by omega]
      · simp [h1, show ¬ i < j + 1 by omega]
theorem boilOf_get (keys : List (Int × Int)) (k : Int) (c : List Bool) (hc : c.length = 10) : ∀ j, j ≤ 10 → ∀ i, (boilOf keys k c j).getD i false = (c.getD i false && !(decide (i < j) && decide (((i : Int), k) ∈ keys)))
  | 0, _, i => by simp [boilOf]
  | j + 1, hj, i => by
    have e : boilOf keys k c (j + 1) = boilAt keys k (boilOf keys k c j) j := range_fold _ _ _
    have ih := boilOf_get keys k c hc j (by omega)
    rw [e, boilAt]
    by_cases hk : ((j : Int), k) ∈ keys
    · rw [if_pos hk, getD_set _ _ _ _ (by rw [boilOf_len keys k c j hc]; omega), ih]
      by_cases hi : i = j
      · subst hi; simp [hk]
      · rw [if_neg hi]
        by_cases h1 : i < j
        · simp [h1, show i < j + 1 by omega]
        · simp [h1, show ¬ i < j + 1 by omega]
    · rw [if_neg hk, ih]
      by_cases hi : i = j
      · subst hi; simp [hk]
      · by_cases h1 : i < j
        · simp [h1, show i < j + 1 by omega]
        · simp [h1, show ¬ i < j + 1 by omega]
def tA (h : House) (i : Nat) : Nat := (h.touches.getD i default).a.toNat
def tB (h : House) (i : Nat) : Nat := (h.touches.getD i default).b.toNat
theorem touchAt_get (h : House) (hrs : List Int) (k : Int) (c : List Bool) (i n : Nat) (ha : tA h i < c.length) (hb : tB h i < c.length) :
    (touchAt h hrs k c i).getD n false = (c.getD n false || (decide (hrs.getD i 0 = k) && (c.getD (tA h i) false || c.getD (tB h i) false) && (decide (n = tA h i) || decide (n = tB h i)))) := by
  have e : touchAt h hrs k c i = if hrs.getD i 0 = k ∧ (c.getD (tA h i) false || c.getD (tB h i) false) = true then (c.set (tA h i) true).set (tB h i) true else c := rfl
  rw [e]
  by_cases hc : hrs.getD i 0 = k ∧ (c.getD (tA h i) false || c.getD (tB h i) false) = true
  · rw [if_pos hc, getD_set _ _ _ _ (by rw [List.length_set]; exact hb), getD_set _ _ _ _ ha, hc.2, decide_eq_true hc.1]
    by_cases h1 : n = tB h i
    · simp [h1]
    · by_cases h2 : n = tA h i
      · simp [h1, h2]
      · simp [h1, h2]
  · rw [if_neg hc]
    by_cases h1 : hrs.getD i 0 = k
    · have h2 : (c.getD (tA h i) false || c.getD (tB h i) false) = false := by
        rw [Bool.eq_false_iff]; exact fun h2 => hc ⟨h1, h2⟩
      rw [h2]; simp
    · rw [decide_eq_false h1]; simp
theorem tAB {h : House} (hk : HOK h) {i : Nat} (hi : i < h.touches.length) : tA h i < 10 ∧ tB h i < 10 := by
  obtain ⟨a, b, h1, h2, h3, h4⟩ := hk.touch _ (List.getElem_mem hi)
  have e : h.touches.getD i default = h.touches[i] := by simp [List.getD_eq_getElem?_getD, hi]
  rw [tA, tB, e, h1, h2]
  exact ⟨by omega, by omega⟩
theorem zer_touch {h : House} (hk : HOK h) {hrs : List Int} {k : Int} {c : List Bool} (hc : c.length = 10) (hz : Zer c) : ∀ j, j ≤ h.touches.length → Zer (touchOf h hrs k c j)
  | 0, _ => hz
  | j + 1, hj => fun n => by
    have e : touchOf h hrs k c (j + 1) = touchAt h hrs k (touchOf h hrs k c j) j := range_fold _ _ _
    have hab := tAB hk (show j < h.touches.length by omega)
    have hl := touchOf_len h hrs k c j hc
    have ih := zer_touch hk hc hz (hrs := hrs) (k := k) j (by omega)
    rw [e, touchAt_get _ _ _ _ _ _ (by omega) (by omega), ih, ih, ih]; simp
theorem hoursOf_succ (h : House) (o hrs : List Int) (keys : List (Int × Int)) (j : Nat) : hoursOf h o hrs keys (j + 1) = hourAt h hrs keys (hoursOf h o hrs keys j) j := range_fold _ _ _
theorem zer_boil {h : House} (hk : HOK h) {o hrs : List Int} {keys : List (Int × Int)} {k : Nat} (hb : ∀ i, (hoursOf h o hrs keys k).getD i false = true → i < nT h ∧ ((i : Int), (k : Int)) ∈ keys) : Zer (hoursOf h o hrs keys (k + 1)) := by
  have hl := hoursOf_len h o hrs keys k
  rw [hoursOf_succ, hourAt]
  refine zer_touch hk (boilOf_len _ _ _ _ hl) (fun i => ?_) _ (Nat.le_refl _)
  rw [boilOf_get _ _ _ hl _ (nT_le hk)]
  cases hi : (hoursOf h o hrs keys k).getD i false
  · rfl
  · obtain ⟨h1, h2⟩ := hb i hi
    rw [decide_eq_true h1, decide_eq_true h2]; rfl
theorem zer_more {h : House} (hk : HOK h) {o hrs : List Int} {keys : List (Int × Int)} {k : Nat} (hz : Zer (hoursOf h o hrs keys k)) : ∀ m, Zer (hoursOf h o hrs keys (k + m))
  | 0 => hz
  | m + 1 => zer_boil hk fun i hi => by
    have := zer_more hk hz m i
    rw [show (hoursOf h o hrs keys (k.add m)).getD i false = (hoursOf h o hrs keys (k + m)).getD i false from rfl, this] at hi; cases hi
theorem zer_play {h : House} (hk : HOK h) {o hrs : List Int} {keys : List (Int × Int)} {k : Nat} (hkl : k ≤ h.last.toNat + 1) (hz : Zer (hoursOf h o hrs keys k)) : Zer (playOf h o hrs keys) := by
  obtain ⟨m, hm⟩ := Nat.exists_eq_add_of_le hkl
  rw [playOf, hm]; exact zer_more hk hz m
theorem touch_lt {h : House} (hc : checkHouse h = 0) (hk : HOK h) {i : Nat} (hi : i < h.touches.length) : tA h i < nT h ∧ tB h i < nT h := by
  have h4 := (List.all_eq_true.1 ((check_zero h).1 hc).2.2.2.1.1) _ (List.getElem_mem hi)
  simp only [touchOK, Bool.and_eq_true] at h4
  have ha := h4.1.1.1.1.1
  have hb := h4.1.1.1.1.2
  have hn := nT_le hk
  have e : h.touches.getD i default = h.touches[i] := by simp [List.getD_eq_getElem?_getD, hi]
  simp only [thingOK, thingsW_ok hk, decide_eq_true_eq, w64 (x := (nT h : Int) - 1) (by omega) (by omega)] at ha hb
  rw [tA, tB, e]; omega
theorem things_sub {h : House} (hc : checkHouse h = 0) (hk : HOK h) (o hrs : List Int) (keys : List (Int × Int)) : ∀ j i, (hoursOf h o hrs keys j).getD i false = true → i < nT h
  | 0, i, hi => by
    have hp := hk.pcs
    have : hoursOf h o hrs keys 0 = startOf h o h.table.pieces.length := rfl
    rw [this, startOf_get _ _ _ (by omega), Bool.and_eq_true, decide_eq_true_eq] at hi
    have := hi.1
    unfold nT; omega
  | j + 1, i, hi => by
    have hl := hoursOf_len h o hrs keys j
    have ih := things_sub hc hk o hrs keys j
    rw [hoursOf_succ, hourAt] at hi
    have : ∀ m, m ≤ h.touches.length → ∀ i, (touchOf h hrs j (boilOf keys j (hoursOf h o hrs keys j) (nT h)) m).getD i false = true → i < nT h := by
      intro m
      induction m with
      | zero =>
        intro _ i hi
        have e : touchOf h hrs j (boilOf keys j (hoursOf h o hrs keys j) (nT h)) 0 = boilOf keys j (hoursOf h o hrs keys j) (nT h) := rfl
        rw [e, boilOf_get _ _ _ hl _ (nT_le hk), Bool.and_eq_true] at hi
        exact ih i hi.1
      | succ m imh =>
        intro hm i hi
        have e : touchOf h hrs j (boilOf keys j (hoursOf h o hrs keys j) (nT h)) (m + 1) = touchAt h hrs j (touchOf h hrs j (boilOf keys j (hoursOf h o hrs keys j) (nT h)) m) m := range_fold _ _ _
        have hab := tAB hk (show m < h.touches.length by omega)
        have hlt := touch_lt hc hk (show m < h.touches.length by omega)
        have hl2 := touchOf_len h hrs j _ m (boilOf_len keys j _ (nT h) hl)
        rw [e, touchAt_get _ _ _ _ _ _ (by omega) (by omega)] at hi
        simp only [Bool.or_eq_true, Bool.and_eq_true, decide_eq_true_eq] at hi
        rcases hi with hi | ⟨_, rfl | rfl⟩
        · exact imh (by omega) i hi
        · exact hlt.1
        · exact hlt.2
    exact this _ (Nat.le_refl _) i hi
theorem safe_zer {h : House} {c : Course} {more : List Boiling} (hz : Zer (lastOf h c more)) : safeC h more c = true := by
  rw [safeC, List.all_eq_true]
  intro i _
  rw [safeAt, hz i]; rfl
theorem safe_iff (h : House) (more : List Boiling) (c : Course) : safeC h more c = true ↔ ∀ i, i < h.table.pieces.length → (lastOf h c more).getD i false = true → (pad7 c.owners).getD i 0 ∈ h.sick := by
  rw [safeC, List.all_eq_true]
  constructor
  · intro hall i hi ht
    have := hall i (List.mem_range.2 hi)
    rw [safeAt, ht] at this
    simpa using this
  · intro hall i hi
    rw [safeAt]
    cases ht : (lastOf h c more).getD i false
    · rfl
    · rw [decide_eq_true (hall i (List.mem_range.1 hi) ht)]; rfl
theorem safeP_iff (h : House) (more : List Boiling) : safeP h more = true ↔ ∀ c ∈ truH h [], safeC h more c = true := by
  rw [safeP, List.all_eq_true]
/-- All that is boiled in an hour keeps all safe. -/
theorem boil_all {h : House} (hc : checkHouse h = 0) (hk : HOK h) {k : Nat} (hkl : (k : Int) ≤ h.last) {l : List Int} (hl : ∀ i, i < nT h → (i : Int) ∈ l) (c : Course) : safeC h (atOf l k) c = true := by
  refine safe_zer (zer_play hk (k := k + 1) (by omega) (zer_boil hk fun i hi => ?_))
  have hi := things_sub hc hk _ _ _ _ i hi
  refine ⟨hi, ?_⟩
  simp only [List.map_append, List.mem_append, atOf, List.map_map, List.mem_map]
  exact .inr ⟨(i : Int), hl i hi, rfl⟩
end Go.Lift

set_option linter.unusedSimpArgs false
set_option linter.unusedVariables false
namespace Go.Lift
open Go Go.Proofs
theorem hour_nat {h : House} {k : Int} (hh : hourOK h k = true) : ∃ n : Nat, k = (n : Int) ∧ (n : Int) ≤ h.last := by
  rw [hourOK, decide_eq_true_eq] at hh
  exact ⟨k.toNat, by omega, by omega⟩
theorem boil_full {h : House} (hc : checkHouse h = 0) (hk : HOK h) {k : Int} (hh : hourOK h k = true) : safeP h (atOf (bitsL (2 ^ nT h - 1)) k) = true := by
  obtain ⟨n, rfl, hn⟩ := hour_nat hh
  have := nT_le hk
  rw [safeP_iff]
  refine fun c _ => boil_all hc hk hn (fun i hi => (mem_bitsL _ _).2 ⟨by omega, ?_⟩) c
  rw [Nat.testBit_two_pow_sub_one]; exact decide_eq_true hi
theorem boil_min {h : House} (hc : checkHouse h = 0) (hk : HOK h) {k : Int} (hh : hourOK h k = true) : IsMin (fun x => safeP h (atOf x k)) (Inc (nT h)) (boilOf' h k) := by
  have hn := nT_le hk
  exact tryAll_min (ok := fun x => safeP h (atOf x k)) (n := nT h) (bits_inc (m := 2 ^ nT h - 1) (by omega) (by have : 1 ≤ 2 ^ nT h := Nat.one_le_two_pow; omega)) (boil_full hc hk hh)
theorem inc_len {n : Nat} {x : List Int} (h : Inc n x) : x.length ≤ n := by
  rcases Nat.eq_zero_or_pos x.length with h0 | h0
  · omega
  · have := (inc_incF.1 h).room (List.length_pos_iff.1 h0); omega
def Ord (n : Nat) (x : List Int) : Prop := ∀ a ∈ x, ∃ i : Nat, a = (i : Int) ∧ i < n
theorem mem_orders (n : Nat) : ∀ (k : Nat) (pre x : List Int), x ∈ orders n k pre ↔ ∃ s, x = pre ++ s ∧ s.length = k ∧ Ord n s
  | 0, pre, x => by
    simp only [orders, List.mem_singleton]
    constructor
    · rintro rfl; exact ⟨[], by simp, rfl, fun a ha => by cases ha⟩
    · rintro ⟨s, rfl, h, _⟩; rw [List.length_eq_zero_iff.1 h]; simp
  | k + 1, pre, x => by
    simp only [orders, List.mem_flatMap, List.mem_range]
    constructor
    · rintro ⟨j, hj, hx⟩
      obtain ⟨s, rfl, h1, h2⟩ := (mem_orders n k _ _).1 hx
      refine ⟨(j : Int) :: s, by simp, by simp [h1], fun a ha => ?_⟩
      rcases List.mem_cons.1 ha with rfl | ha
      · exact ⟨j, rfl, hj⟩
      · exact h2 a ha
    · rintro ⟨s, rfl, h1, h2⟩
      cases s with
      | nil => simp at h1
      | cons a s =>
        obtain ⟨i, rfl, hi⟩ := h2 a List.mem_cons_self
        exact ⟨i, hi, (mem_orders n k _ _).2 ⟨s, by simp, by simpa using h1, fun b hb => h2 b (List.mem_cons_of_mem _ hb)⟩⟩
theorem orders_sorted (n : Nat) : ∀ (k : Nat) (pre : List Int), (orders n k pre).Pairwise fun a b => beforeL a b = true
  | 0, _ => by simp [orders]
  | k + 1, pre => by
    rw [orders, List.pairwise_flatMap]
    refine ⟨fun j _ => orders_sorted n k _, ?_⟩
    refine List.Pairwise.imp ?_ List.pairwise_lt_range
    intro a b hab x hx y hy
    obtain ⟨s1, rfl, _⟩ := (mem_orders n k _ _).1 hx
    obtain ⟨s2, rfl, _⟩ := (mem_orders n k _ _).1 hy
    rw [List.append_assoc, List.append_assoc, before_pre]
    simp only [List.singleton_append, beforeL]
    rw [if_neg (by omega)]; exact decide_eq_true (by omega)
def OrdD (h : House) (k : Int) (x : List Int) : Prop := x.length ≤ orderN h k ∧ Ord (nT h) x
theorem orders_len {n k : Nat} {x : List Int} (hx : x ∈ orders n k []) : x.length = k := by
  obtain ⟨s, rfl, h1, _⟩ := (mem_orders n k [] x).1 hx
  simpa using h1
theorem mem_orderL {h : House} {k : Int} {x : List Int} : x ∈ orderL h k ↔ OrdD h k x := by
  simp only [orderL, orderAll, List.mem_flatMap, List.mem_range, mem_orders, List.nil_append, OrdD]
  constructor
  · rintro ⟨m, hm, s, rfl, h1, h2⟩; exact ⟨by omega, h2⟩
  · rintro ⟨h1, h2⟩; exact ⟨x.length, by omega, x, rfl, rfl, h2⟩
theorem orderL_sorted (h : House) (k : Int) : (orderL h k).Pairwise fun a b => shorterL a b = true :=
  by_length (fun k => orders_sorted _ k []) fun k x hx => orders_len hx
theorem order_min {h : House} {k : Int} (ha : ((orderL h k).any fun x => safeP h (rowOf x k)) = true) : IsMin (fun x => safeP h (rowOf x k)) (OrdD h k) (orderOf h k) := by
  obtain ⟨y, hy⟩ := any_find ha
  rw [orderOf, tryAll_find [] hy]
  exact (find_min (orderL_sorted h k) hy).congr (fun y => mem_orderL) (fun _ _ => rfl)
theorem thing_of {h : House} (hk : HOK h) {x : List Int} : x.all (thingOK h) = true ↔ Ord (nT h) x := by
  have hn := nT_le hk
  rw [List.all_eq_true]
  simp only [thingOK, thingsW_ok hk, w64 (x := (nT h : Int) - 1) (by omega) (by omega), decide_eq_true_eq]
  constructor
  · intro hall a ha
    have := hall a ha
    exact ⟨a.toNat, by omega, by omega⟩
  · intro hall a ha
    obtain ⟨i, rfl, hi⟩ := hall a ha
    omega
theorem longest_val {h : House} (hk : HOK h) {k : Int} (hh : hourOK h k = true) : longestOf h k = if h.last - k + 1 < 3 then h.last - k + 1 else 3 := by
  obtain ⟨n, rfl, hn⟩ := hour_nat hh
  obtain ⟨m, h1, h2⟩ := hk.last
  rw [longestOf, w64 (x := h.last - (n : Int)) (by omega) (by omega), w64 (x := h.last - (n : Int) + 1) (by omega) (by omega)]
theorem isOrd_val {h : House} (hk : HOK h) {k : Int} (hh : hourOK h k = true) (x : List Int) (hx : Sm x.length) : isOrd h x k = (x.all (thingOK h) && decide ((x.length : Int) ≤ longestOf h k)) := by
  obtain ⟨n, rfl, hn⟩ := hour_nat hh
  obtain ⟨m, h1, h2⟩ := hk.last
  unfold Sm at hx
  rw [isOrd, longest_val hk hh, w64 (x := (n : Int) + (x.length : Int)) (by omega) (by omega), w64 (x := (n : Int) + (x.length : Int) - 1) (by omega) (by omega)]
  congr 1
  rw [Bool.eq_iff_iff, Bool.and_eq_true, decide_eq_true_eq, decide_eq_true_eq, decide_eq_true_eq]
  split <;> omega
theorem orderN_val {h : House} (hk : HOK h) {k : Int} (hh : hourOK h k = true) : (orderN h k : Int) = longestOf h k ∧ orderN h k ≤ 3 ∧ 1 ≤ orderN h k := by
  obtain ⟨n, rfl, hn⟩ := hour_nat hh
  obtain ⟨m, h1, h2⟩ := hk.last
  rw [orderN, longest_val hk hh]
  split <;> omega
end Go.Lift

set_option linter.unusedSimpArgs false
set_option linter.unusedVariables false
namespace Go.Lift
open Go Go.Proofs
theorem ask_zero {h : House} (h1 : checkHouse h = 0) (h2 : truH h [] ≠ []) : askErrH h true = 0 := by
  rw [askErrH, if_pos h1, if_pos rfl, if_neg h2]
end Go.Lift

set_option linter.unusedSimpArgs false
set_option linter.unusedVariables false
namespace Go.Lift
open Go Go.Proofs
theorem possible_cut (h : House) (k : Nat) (hk : k ≤ h.signs.length) : possibleP (cut h k) [] = true ↔ ∃ c ∈ allC h, ∀ i, i < k → sgn (lastOf h c []) (h.signs.getD i default) = true := by
  rw [cut_reS, possible_reS, List.any_eq_true]
  have hl : (h.signs.take k).length = k := by simp; omega
  have key : ∀ c, (h.signs.take k).all (sgn (lastOf h c [])) = true ↔ ∀ i, i < k → sgn (lastOf h c []) (h.signs.getD i default) = true := by
    intro c
    rw [← range_all default, List.all_eq_true, hl]
    have e : ∀ i, i < k → (h.signs.take k).getD i default = h.signs.getD i default := fun i hi => by
      simp [List.getD_eq_getElem?_getD, List.getElem?_take, hi]
    constructor
    · intro hall i hi; rw [← e i hi]; exact hall i (List.mem_range.2 hi)
    · intro hall i hi; have hi := List.mem_range.1 hi; rw [e i hi]; exact hall i hi
  constructor
  · rintro ⟨c, hc, ha⟩; exact ⟨c, hc, (key c).1 ha⟩
  · rintro ⟨c, hc, ha⟩; exact ⟨c, hc, (key c).2 ha⟩
theorem isWhose_iff {h : House} (ht : truH h [] ≠ []) (w : Nat) : isWhose h w = true ↔ ∃ c ∈ truH h [], harmedP h w c = true := by
  rw [isWhose, verdictOf, decide_eq_true_eq]
  have hpos : 0 < (truH h []).length := List.length_pos_iff.2 ht
  have key : (∃ c ∈ truH h [], harmedP h w c = true) ↔ (truH h []).countP (harmedP h w) ≠ 0 := by
    rw [Ne, List.countP_eq_zero]
    constructor
    · rintro ⟨x, hx, hp⟩ hall; exact hall x hx hp
    · intro hne; exact Classical.byContradiction fun hno => hne fun x hx hp => hno ⟨x, hx, hp⟩
  rw [key]
  by_cases h1 : (truH h []).countP (harmedP h w) = (truH h []).length
  · rw [if_pos h1]
    exact ⟨fun _ => by omega, fun _ => by decide⟩
  · rw [if_neg h1]
    by_cases h2 : (truH h []).countP (harmedP h w) = 0
    · rw [if_pos h2]; simp [h2]
    · rw [if_neg h2]; exact ⟨fun _ => h2, fun _ => by decide⟩
theorem harmedP_iff (h : House) (w : Int) (c : Course) : harmedP h w c = true ↔ ∃ i, i < h.table.pieces.length ∧ (lastOf h c []).getD i false = true ∧ (pad7 c.owners).getD i 0 = w ∧ ¬ (pad7 c.owners).getD i 0 ∈ h.sick := by
  rw [harmedP, List.any_eq_true]
  constructor
  · rintro ⟨i, hi, hh⟩
    simp only [harmedAt, Bool.and_eq_true, decide_eq_true_eq, Bool.not_eq_true', decide_eq_false_iff_not] at hh
    exact ⟨i, List.mem_range.1 hi, hh.1.1, hh.1.2, hh.2⟩
  · rintro ⟨i, hi, h1, h2, h3⟩
    refine ⟨i, List.mem_range.2 hi, ?_⟩
    simp only [harmedAt, Bool.and_eq_true, decide_eq_true_eq, Bool.not_eq_true', decide_eq_false_iff_not]
    exact ⟨⟨h1, h2⟩, h3⟩
theorem mem_whoseS (h : House) (w : Int) : w ∈ whoseS h ↔ ∃ n : Nat, w = (n : Int) ∧ n < h.table.women.length ∧ isWhose h n = true := by
  simp only [whoseS, whoseUpto, List.mem_map, List.mem_filter, List.mem_range]
  constructor
  · rintro ⟨n, ⟨h1, h2⟩, rfl⟩; exact ⟨n, rfl, h1, h2⟩
  · rintro ⟨n, rfl, h1, h2⟩; exact ⟨n, ⟨h1, h2⟩, rfl⟩
theorem orderE_ask {h : House} {k : Int} (ha : askErrH h (hourOK h k) = 0) : (orderE h k = 0 ∧ ((orderL h k).any fun x => safeP h (rowOf x k)) = true) ∨ (orderE h k = 10 ∧ ((orderL h k).any fun x => safeP h (rowOf x k)) = false) := by
  rw [orderE, if_pos ha]
  cases hq : ((orderL h k).any fun x => safeP h (rowOf x k))
  · exact .inr ⟨rfl, rfl⟩
  · exact .inl ⟨rfl, rfl⟩
end Go.Lift

set_option linter.unusedSimpArgs false
set_option linter.unusedVariables false
namespace Go.Lift
open Go Go.Proofs
theorem verdict_one {α : Type} (l : List α) (p : α → Bool) : verdictOf (l.countP p) l.length = 1 ↔ ∀ c ∈ l, p c = true := by
  rw [← List.countP_eq_length, verdictOf]
  by_cases h1 : l.countP p = l.length
  · simp [h1]
  · rw [if_neg h1]
    split
    · constructor
      · intro h; omega
      · intro h; exact absurd h h1
    · constructor
      · intro h; omega
      · intro h; exact absurd h h1
theorem verdict_two {α : Type} {l : List α} (hl : l ≠ []) (p : α → Bool) : verdictOf (l.countP p) l.length = 2 ↔ ∀ c ∈ l, p c = false := by
  have hpos := List.length_pos_iff.2 hl
  have key : (∀ c ∈ l, p c = false) ↔ l.countP p = 0 := by
    rw [List.countP_eq_zero]
    exact ⟨fun h c hc => by rw [h c hc]; simp, fun h c hc => by simpa using h c hc⟩
  rw [key, verdictOf]
  by_cases h1 : l.countP p = l.length
  · rw [if_pos h1]
    exact ⟨fun h => by omega, fun h => by omega⟩
  · rw [if_neg h1]
    by_cases h2 : l.countP p = 0
    · rw [if_pos h2]; exact ⟨fun _ => h2, fun _ => rfl⟩
    · rw [if_neg h2]; exact ⟨fun h => by omega, fun h => absurd h h2⟩
theorem verdict_range {α : Type} (l : List α) (p : α → Bool) : 1 ≤ verdictOf (l.countP p) l.length ∧ verdictOf (l.countP p) l.length ≤ 3 := by
  rw [verdictOf]; split
  · omega
  · split <;> omega
/-- One house has the same things, and no other truths. -/
structure SubH (x h : House) : Prop where
  pcs : x.table.pieces.length = h.table.pieces.length
  wom : x.table.women.length = h.table.women.length
  sick : x.sick = h.sick
  nT : nT x = nT h
  last : ∀ c more, lastOf x c more = lastOf h c more
  tru : ∀ c ∈ truH x [], c ∈ truH h []
theorem SubH.ne {x h : House} (s : SubH x h) (hx : truH x [] ≠ []) : truH h [] ≠ [] := by
  obtain ⟨c, l, e⟩ := List.exists_cons_of_ne_nil hx
  intro h0
  have := s.tru c (by rw [e]; simp)
  rw [h0] at this; cases this
theorem SubH.whose {x h : House} (s : SubH x h) (hx : truH x [] ≠ []) (w : Nat) (hw : isWhose x w = true) : isWhose h w = true := by
  rw [isWhose_iff hx] at hw
  rw [isWhose_iff (s.ne hx)]
  obtain ⟨c, hc, hp⟩ := hw
  refine ⟨c, s.tru c hc, ?_⟩
  rw [harmedP_iff] at hp ⊢
  rw [s.pcs, s.last, s.sick] at hp
  exact hp
theorem SubH.len {x h : House} (s : SubH x h) (hx : truH x [] ≠ []) : (whoseS x).length ≤ (whoseS h).length := by
  rw [whoseS, whoseS, whoseUpto, whoseUpto, List.length_map, List.length_map, ← List.countP_eq_length_filter, ← List.countP_eq_length_filter, s.wom]
  exact List.countP_mono_left fun w _ hw => s.whose hx w hw
theorem SubH.safe {x h : House} (s : SubH x h) (more : List Boiling) (hs : safeP h more = true) : safeP x more = true := by
  rw [safeP_iff] at hs ⊢
  intro c hc
  have := hs c (s.tru c hc)
  rw [safe_iff] at this ⊢
  rw [s.pcs, s.last, s.sick]; exact this
theorem truH_reS (h : House) (ss : List Sign) (c : Course) : c ∈ truH (reS h ss) [] ↔ c ∈ allC h ∧ ∀ s ∈ ss, sgn (lastOf h c []) s = true := by
  rw [truH, List.mem_filter, allC_reS, isTrue_nil, List.all_eq_true]; rfl
theorem truH_self (h : House) (c : Course) : c ∈ truH h [] ↔ c ∈ allC h ∧ ∀ s ∈ h.signs, sgn (lastOf h c []) s = true := truH_reS h h.signs c
theorem leave_of_tru {h : House} (hv : HV h) (ht : truH h [] ≠ []) : leaveOf h = [] := by
  have := (leave_min hv).least [] ⟨List.Pairwise.nil, fun a ha => by cases ha⟩ ((possible_tru h).2 ht)
  rw [Bool.eq_false_iff, Ne, shorter_iff] at this
  rw [← List.length_eq_zero_iff]
  apply Classical.byContradiction
  intro hn; exact this (.inl (by simp; omega))
end Go.Lift

set_option linter.unusedSimpArgs false
set_option linter.unusedVariables false
namespace Go.Lift
open Go Go.Proofs
theorem Inc.mono {n m : Nat} {l : List Int} (h : Inc n l) (hn : n ≤ m) : Inc m l :=
  ⟨h.1, fun a ha => let ⟨i, e, hi⟩ := h.2 a ha; ⟨i, e, by omega⟩⟩
end Go.Lift

set_option linter.unusedSimpArgs false
set_option linter.unusedVariables false
namespace Go.Lift
open Go Go.Proofs
/-- The hour with a number. -/
def hourK (h : House) (n : Nat) : Int := ((n % (h.last.toNat + 1) : Nat) : Int)
theorem hourK_ok {h : House} (hk : HOK h) (n : Nat) : hourOK h (hourK h n) = true := by
  obtain ⟨m, h1, h2⟩ := hk.last
  rw [hourOK, hourK, decide_eq_true_eq]
  have := Nat.mod_lt n (show 0 < h.last.toNat + 1 by omega)
  omega
theorem hourK_facts {h : House} (hk : HOK h) {n : Nat} (hn : n < 256) : IntKind.i64.wrap (n : Int) = (n : Int) ∧ ¬ IntKind.i64.wrap (h.last + 1) = 0 ∧ (n : Int).tmod (IntKind.i64.wrap (h.last + 1)) = hourK h n := by
  obtain ⟨m, h1, h2⟩ := hk.last
  have e : IntKind.i64.wrap (h.last + 1) = ((h.last.toNat + 1 : Nat) : Int) := by rw [w64 (by omega) (by omega)]; omega
  refine ⟨w64 (by omega) (by omega), by rw [e]; omega, ?_⟩
  rw [e, hourK, Int.ofNat_tmod]
theorem ready_ok {h : House} (hr : readyH h = true) : HSm h ∧ checkHouse h = 0 := by
  rw [readyH, Bool.and_eq_true, decide_eq_true_eq] at hr
  exact ⟨thin_sm hr.1, hr.2⟩
end Go.Lift

set_option linter.unusedSimpArgs false
set_option linter.unusedVariables false
namespace Go.Lift
open Go Go.Proofs
theorem agg31 : isAggB Tryz.prog 31 = some true := by kernel_rfl
theorem sz31 : szB Tryz.prog 31 = some 9 := by kernel_rfl
theorem HSm.signs' {h : House} (hs : HSm h) {ss : List Sign} (hl : ss.length ≤ 1073741824) : HSm (reS h ss) :=
  ⟨hs.women, hs.pieces, hs.marks, hs.sick, hs.touches, hs.boiled, hl⟩
end Go.Lift

set_option linter.unusedSimpArgs false
set_option linter.unusedVariables false
namespace Go.Lift
open Go Go.Proofs Go.Proofs.YthnfcdkiaihfcaaGreat
theorem orderOf_le {h : House} (hk : HOK h) {k : Int} (hh : hourOK h k = true) (ha : ((orderL h k).any fun x => safeP h (rowOf x k)) = true) : (orderOf h k).length ≤ 3 := by
  have h1 := (order_min ha).dom.1
  have h2 := (orderN_val hk hh).2.1
  omega
def wordN (ws : List Nat) (k : Nat) : Nat := if ws.length = 0 then 0 else ws.getD (k % ws.length) 0
theorem wordN_lt {ws : List Nat} (hw : ∀ n ∈ ws, n < 65536) (k : Nat) : wordN ws k < 65536 := by
  unfold wordN
  split
  · omega
  · rename_i h0
    have : k % ws.length < ws.length := Nat.mod_lt _ (by omega)
    rw [List.getD_eq_getElem?_getD, List.getElem?_eq_getElem this]
    exact hw _ (List.getElem_mem _)
theorem word_c (ws : List Nat) (hw : ∀ n ∈ ws, n < 65536) (k : Nat) : Pure Tryz.prog 124 [.slice (eU ws), i6 k] (i6 (wordN ws k : Nat)) := by
  intro H
  refine fn_of hmix fc124 (by simp) ?_
  rw [ienv2]
  have hl : (eU ws).length = ws.length := by simp [eU]
  by_cases h0 : (ws.length : Int) = 0
  · simp only [go_sem, reduceIte, reduceCtorEq, Nat.reduceEqDiff, Nat.reduceBEq, Nat.reduceAdd, Nat.reduceMul, Nat.reduceLeDiff, List.getElem?_cons_zero, List.getElem?_cons_succ, bne_self_eq_false, Int.reduceEq, ac124, hl, h0]
    refine fin_ret' 4 (by simp [upd_at]) ?_
    simp [upd_at, wordN, show ws.length = 0 by omega]
  · have hlt : k % ws.length < ws.length := Nat.mod_lt _ (by omega)
    have hget : (eU ws)[k % ws.length]? = some [AV.int .u16 ((ws[k % ws.length] : Nat) : Int)] := by simp [eU, hlt]
    have hb := hw _ (List.getElem_mem hlt)
    have hval : wordN ws k = ws[k % ws.length] := by
      rw [wordN, if_neg (by omega), List.getD_eq_getElem?_getD, List.getElem?_eq_getElem hlt]; rfl
    simp only [go_sem, reduceIte, reduceCtorEq, Nat.reduceEqDiff, Nat.reduceBEq, Nat.reduceAdd, Nat.reduceMul, Nat.reduceLeDiff, List.getElem?_cons_zero, List.getElem?_cons_succ, bne_self_eq_false, Int.reduceEq, ac124, hl, h0, ← Int.ofNat_tmod, hget]
    refine fin_ret' 4 (by simp [upd_at]) ?_
    rw [hval]
    simp only [upd_at, if_true, w64 (show -9223372036854775808 ≤ ((ws[k % ws.length] : Nat) : Int) by omega) (show ((ws[k % ws.length] : Nat) : Int) < 9223372036854775808 by omega)]
    simp
theorem rising_inc {n : Nat} (hn : n ≤ 10) {l : List Int} (h : Inc n l) : risingR l n = true := by
  rw [risingR, List.all_eq_true]
  intro i hi
  have hi := List.mem_range.1 hi
  obtain ⟨a, ha, han⟩ := h.2 _ (List.getElem_mem hi)
  have e : l.getD i 0 = (a : Int) := by rw [List.getD_eq_getElem?_getD, List.getElem?_eq_getElem hi, ← ha]; rfl
  rw [risingRAt, e, w64 (by omega) (by omega), Bool.and_eq_true, decide_eq_true_eq]
  refine ⟨by omega, ?_⟩
  by_cases h0 : i = 0
  · simp [h0]
  · have hi1 : i - 1 < l.length := by omega
    have e1 : l.getD (i - 1) 0 = l[i - 1] := by rw [List.getD_eq_getElem?_getD, List.getElem?_eq_getElem hi1]; rfl
    have := (List.pairwise_iff_getElem.1 h.1) (i - 1) i hi1 hi (by omega)
    rw [ha] at this
    rw [e1, decide_eq_false (show ¬ (a : Int) ≤ l[i - 1] by omega)]; simp
end Go.Lift

set_option linter.unusedSimpArgs false
set_option linter.unusedVariables false
namespace Go.Lift
open Go Go.Proofs
theorem Pure.wk {P : Program} {f : FuncId} {x y r : AV} {xs : List AV} (hp : Pure P f (y :: xs) r) (h : Wk x y) : Pure P f (x :: xs) r :=
  fun H => ACalls.arg0 (fun w v hr => h H w v hr) (hp H)
theorem wk9 {a b c d e f g i j a' b' c' d' e' f' g' i' j' : AV} (h1 : Wk a a') (h2 : Wk b b') (h3 : Wk c c') (h4 : Wk d d') (h5 : Wk e e') (h6 : Wk f f') (h7 : Wk g g') (h8 : Wk i i') (h9 : Wk j j') : Wk (.agg [a, b, c, d, e, f, g, i, j]) (.agg [a', b', c', d', e', f', g', i', j']) :=
  Wk.agg rfl fun n x y hx hy => by
    match n, hx, hy with
    | 0, hx, hy => cases hx; cases hy; exact h1
    | 1, hx, hy => cases hx; cases hy; exact h2
    | 2, hx, hy => cases hx; cases hy; exact h3
    | 3, hx, hy => cases hx; cases hy; exact h4
    | 4, hx, hy => cases hx; cases hy; exact h5
    | 5, hx, hy => cases hx; cases hy; exact h6
    | 6, hx, hy => cases hx; cases hy; exact h7
    | 7, hx, hy => cases hx; cases hy; exact h8
    | 8, hx, hy => cases hx; cases hy; exact h9
theorem carry_len (h : House) : (carryOf h).length = nT h := by simp [carryOf]
end Go.Lift

set_option linter.unusedSimpArgs false
set_option linter.unusedVariables false
namespace Go.Lift
open Go Go.Proofs
/-- What a step on the heap leaves as it was. -/
structure Step (H H' : AHeap) (b : Nat) : Prop where
  keep : ∀ c o, c ≠ b → H c = some o → H' c = some o
  ext : ∀ H0, Ext H0 H → H0 b = none → Ext H0 H'
  grown : ∀ sz H0 v es, Grown sz H0 H v es → Grown sz H0 H' v es
theorem v_alloc' {P : Program} {R : AV → AHeap → Prop} {H : AHeap} {zs : List AV} (h : ∀ b H', H b = none → H' b = some (.box zs) → Step H H' b → R (.ptr b 0) H') : aopV P (.alloc zs) [] H R :=
  v_alloc fun b hb => h b _ hb (updH_same _ _ _) ⟨fun c o hc ho => by rw [updH_ne _ _ hc]; exact ho, fun H0 e hn => e.upd hn _, fun sz H0 v es g => g.new hb _⟩
theorem v_store' {P : Program} {R : AV → AHeap → Prop} {H : AHeap} {n b off : Nat} {x : AV} {cs : List AV} (hb : H b = some (.box cs)) (hx : x.ok = true) (hl : x.cells.length = n) (hc : ∀ y ∈ x.cells, AV.isCell y = true) (ho : off + n ≤ cs.length)
    (h : ∀ H', H' b = some (.box (placeAt cs off x.cells)) → Step H H' b → R .any H') : aopV P (.store n) [.ptr b off, x] H R := by
  rw [v_store]
  exact ⟨hx, hl, hc, cs, hb, ho, h _ (updH_same _ _ _) ⟨fun c o hc ho => by rw [updH_ne _ _ hc]; exact ho, fun H0 e hn => e.upd hn _, fun sz H0 v es g => g.store hb _⟩⟩
theorem ne_of {H : AHeap} {a b : Nat} {o : AObj} (ha : H a = some o) (hb : H b = none) : a ≠ b := fun e => by subst e; rw [ha] at hb; cases hb
theorem Grown.one {sz : Nat} {H0 H : AHeap} {v : AV} {es : List (List AV)} (g : Grown sz H0 H v es) : v.ok = true ∧ v.cells.length = 1 ∧ ∀ y ∈ v.cells, AV.isCell y = true := by
  refine ⟨g.cellv.1, by rw [g.cellv.2.1]; rfl, ?_⟩
  rw [g.cellv.2.1]; intro y hy; simp at hy; subst hy; exact g.cellv.2.2
/-- The cells of a house, with the lists of the sick, of the touches, of the boilings and of the signs given. -/
def hc4 (h : House) (a b c d : AV) : List AV := [.slice (h.table.women.map eW), .slice (h.table.pieces.map eP), i6 h.table.wrong, a, i6 h.others, i6 h.last, b, c, d]
theorem hc_cells {h : House} {a b c d : AV} (ha : a.isCell = true) (hb : b.isCell = true) (hc : c.isCell = true) (hd : d.isCell = true) : ∀ y ∈ hc4 h a b c d, AV.isCell y = true := by
  intro y hy
  simp only [hc4, List.mem_cons, List.not_mem_nil, or_false] at hy
  rcases hy with rfl | rfl | rfl | rfl | rfl | rfl | rfl | rfl | rfl
  · rfl
  · rfl
  · rfl
  · exact ha
  · rfl
  · rfl
  · exact hb
  · exact hc
  · exact hd
theorem wkH {x h : House} {a b c d : AV} (ht : x.table = h.table) (ho : x.others = h.others) (hl : x.last = h.last) (ha : Wk a (.slice (eI x.sick))) (hb : Wk b (.slice (x.touches.map eTo))) (hc : Wk c (.slice (x.boiled.map eB))) (hd : Wk d (.slice (x.signs.map eS))) : Wk (.agg (hc4 h a b c d)) (eH x) := by
  unfold eH hc4
  rw [ht, ho, hl]
  exact wk9 (Wk.refl _) (Wk.refl _) (Wk.refl _) ha (Wk.refl _) (Wk.refl _) hb hc hd
end Go.Lift

set_option linter.unusedSimpArgs false
set_option linter.unusedVariables false
namespace Go.Lift
open Go Go.Proofs
theorem mem_trues (bs : List Bool) (j i : Nat) : (i : Int) ∈ truesUpto bs j ↔ i < j ∧ bs.getD i false = true := by
  simp only [truesUpto, List.mem_map, List.mem_filter, List.mem_range]
  constructor
  · rintro ⟨a, ha, e⟩
    have : a = i := by
      have : ((a : Nat) : Int) = (i : Int) := e
      omega
    subst this; exact ha
  · intro h; exact ⟨i, h, rfl⟩
theorem thing_nat {h : House} (hk : HOK h) {i : Nat} (hi : i < nT h) : thingOK h (i : Int) = true := by
  have hn := nT_le hk
  rw [thingOK, thingsW_ok hk, w64 (by omega) (by omega), decide_eq_true_eq]; omega
end Go.Lift

set_option linter.unusedSimpArgs false
set_option linter.unusedVariables false
namespace Go.Lift
open Go Go.Proofs Go.Proofs.YthnfcdkiaihfcaaGreat
theorem agg63 : isAggB Tryz.prog 63 = some true := by kernel_rfl
theorem sz63 : szB Tryz.prog 63 = some 2 := by kernel_rfl
theorem fin_cell2 {P : Program} {N : Nat} {env : Env} {H : AHeap} (t n b t' n' b' : Nat) (ty ty' : TypeId) (cs cs' : List AV) (hN : env N = .any) (h1 : isAggB P ty = some true) (h2 : szB P ty = some n) (ht : env t = .ptr b 0) (hb : H b = some (.box cs)) (hl : cs.length = n)
    (h1' : isAggB P ty' = some true) (h2' : szB P ty' = some n') (ht' : env t' = .ptr b' 0) (hb' : H b' = some (.box cs')) (hl' : cs'.length = n')
    {Rr : AV → AHeap → Prop} (h : ∃ r' H2, Settle H (.tup [.agg cs, .agg cs']) H2 r' ∧ Rr r' H2) : fin P [.cell t ty, .cell t' ty'] N Rr .ret env H := by
  obtain ⟨r', H2, h3, h4⟩ := h
  refine ⟨H, .inl ⟨hN, rfl⟩, .tup [.agg cs, .agg cs'], ?_, r', H2, h3, h4⟩
  have e1 : resV P env H (.cell t ty) = some (.agg cs) := by
    simp only [resV, h1, h2, ht, at_obj, hb, obj_box, Nat.zero_le, if_true, List.drop_zero, Option.bind_some, take_tt, hl, Nat.le_refl]
    rw [take_len hl]
  have e2 : resV P env H (.cell t' ty') = some (.agg cs') := by
    simp only [resV, h1', h2', ht', at_obj, hb', obj_box, Nat.zero_le, if_true, List.drop_zero, Option.bind_some, take_tt, hl', Nat.le_refl]
    rw [take_len hl']
  simp [aret, List.mapM_cons, List.mapM_nil, e1, e2, oneOf]
theorem settle_tup2 {H1 H2 : AHeap} {x x' y y' : AV} (e : Ext H2 H1) (h : ∀ w v, HRel H1 w → Rep H1 w v x → Rep H2 w v x') (h' : ∀ w v, HRel H1 w → Rep H1 w v y → Rep H2 w v y') : Settle H1 (.tup [x, y]) H2 (.tup [x', y']) := by
  refine ⟨e, fun w v hH hr => ?_⟩
  cases hr with
  | tup arr cs hs hx =>
    refine .tup arr _ (by simpa using hs) (fun i y hi => ?_)
    match i, hi with
    | 0, hi => cases hi; exact h w _ hH (hx 0 _ rfl)
    | 1, hi => cases hi; exact h' w _ hH (hx 1 _ rfl)
def sgOf (h : House) (c : Course) (ws : List Nat) (i : Nat) : Sign := ⟨((wordN ws (i + 1) % nT h : Nat) : Int), decide (((wordN ws (i + 1) % nT h : Nat) : Int) ∈ truesUpto (lastOf h c []) 10)⟩
def sgUpto (h : House) (c : Course) (ws : List Nat) (j : Nat) : List Sign := (List.range j).map (sgOf h c ws)
def sgN (h : House) (ws : List Nat) : Nat := if nT h = 0 then 0 else wordN ws 0 % 6
def sgAll (h : House) (c : Course) (ws : List Nat) : List Sign := sgUpto h c ws (sgN h ws)
theorem sgN_le (h : House) (ws : List Nat) : sgN h ws ≤ 5 := by
  unfold sgN; split <;> omega
theorem sgAll_ok {h : House} (hk : HOK h) (c : Course) (ws : List Nat) : (sgAll h c ws).length ≤ 5 ∧ ∀ s ∈ sgAll h c ws, thingOK h s.thing = true ∧ sgn (lastOf h c []) s = true := by
  refine ⟨by rw [sgAll, sgUpto, List.length_map, List.length_range]; exact sgN_le h ws, fun s hs => ?_⟩
  simp only [sgAll, sgUpto, List.mem_map, List.mem_range] at hs
  obtain ⟨i, hi, rfl⟩ := hs
  have hn := nT_le hk
  have h0 : nT h ≠ 0 := by intro h0; rw [sgN, if_pos h0] at hi; omega
  have hlt : wordN ws (i + 1) % nT h < nT h := Nat.mod_lt _ (by omega)
  refine ⟨thing_nat hk hlt, ?_⟩
  simp only [sgn, sgOf, mem_trues, Int.toNat_natCast]
  cases (lastOf h c []).getD (wordN ws (i + 1) % nT h) false
  · simp
  · simp; omega
def foundC (h : House) (n1 : Nat) : Course := (coursesR h).getD (n1 % (coursesR h).length) default
theorem foundC_mem {h : House} (hv : HV h) (n1 : Nat) : foundC h n1 ∈ coursesR h ∧ n1 % (coursesR h).length < (coursesR h).length := by
  have hM : 0 < (coursesR h).length := by
    obtain ⟨c, hcc⟩ := allC_ne hv
    exact List.length_pos_of_mem ((courses_perm hv).mem_iff.2 hcc)
  have hj := Nat.mod_lt n1 hM
  refine ⟨?_, hj⟩
  rw [foundC, List.getD_eq_getElem?_getD, List.getElem?_eq_getElem hj]
  exact List.getElem_mem hj
set_option maxHeartbeats 2000000 in
theorem found_c (h : House) (hm : HSm h) (hc : checkHouse h = 0) (n1 : Nat) (hn1 : n1 < 65536) (ws : List Nat) (hw : ∀ n ∈ ws, n < 65536) : Pure Tryz.prog 70 [eH h, .int .u16 (n1 : Int), .slice (eU ws)] (.tup [eH (reS h (sgAll h (foundC h n1) ws)), eC (foundC h n1)]) := by
  intro H
  have hv := hv_of hm.tsm hm.sk hc
  have hnt := nT_le hv.ok
  have hpl := hv.ok.pcs
  have htl := hv.ok.touches
  have hw0 := wordN_lt hw 0
  have hwc : Pure Tryz.prog 124 [.slice (eU ws), i6 0] (i6 (wordN ws 0 : Nat)) := word_c ws hw 0
  refine fn_of hmix fc70 (by simp) ?_
  rw [ienv3]
  simp only [go_sem, reduceIte, reduceCtorEq, Nat.reduceEqDiff, Nat.reduceBEq, Nat.reduceAdd, Nat.reduceMul, Nat.reduceLeDiff, List.getElem?_cons_zero, List.getElem?_cons_succ, bne_self_eq_false, Int.reduceEq, ac70, eH]
  refine v_box _ rfl fun b1 hb1 => ?_
  have e1 := (Ext.refl H).new hb1 (.box [.slice (h.table.women.map eW), .slice (h.table.pieces.map eP), i6 h.table.wrong, .slice (eI h.sick), i6 h.others, i6 h.last, .slice (h.touches.map eTo), .slice (h.boiled.map eB), .slice (h.signs.map eS)])
  simp only [go_sem, reduceIte, reduceCtorEq, Nat.reduceEqDiff, Nat.reduceBEq, Nat.reduceAdd, Nat.reduceMul, Nat.reduceLeDiff, List.getElem?_cons_zero, List.getElem?_cons_succ, bne_self_eq_false, Int.reduceEq]
  have B1 : updH H b1 (.box [.slice (h.table.women.map eW), .slice (h.table.pieces.map eP), i6 h.table.wrong, .slice (eI h.sick), i6 h.others, i6 h.last, .slice (h.touches.map eTo), .slice (h.boiled.map eB), .slice (h.signs.map eS)]) b1 = some (.box [.slice (h.table.women.map eW), .slice (h.table.pieces.map eP), i6 h.table.wrong, .slice (eI h.sick), i6 h.others, i6 h.last, .slice (h.touches.map eTo), .slice (h.boiled.map eB), .slice (h.signs.map eS)]) := updH_same _ _ _
  generalize updH H b1 (.box [.slice (h.table.women.map eW), .slice (h.table.pieces.map eP), i6 h.table.wrong, .slice (eI h.sick), i6 h.others, i6 h.last, .slice (h.touches.map eTo), .slice (h.boiled.map eB), .slice (h.signs.map eS)]) = H1 at e1 B1 ⊢
  refine v_alloc' fun b6 H2 hn6 B6 st => ?_
  have z6 := e1.isNone hn6
  have n16 := ne_of B1 hn6
  have B1 := st.keep b1 _ n16 B1
  have e2 := st.ext H e1 z6
  simp only [go_sem, reduceIte, reduceCtorEq, Nat.reduceEqDiff, Nat.reduceBEq, Nat.reduceAdd, Nat.reduceMul, Nat.reduceLeDiff, List.getElem?_cons_zero, List.getElem?_cons_succ, bne_self_eq_false, Int.reduceEq, B1]
  refine v_alloc' fun b7 H3 hn7 B7 st => ?_
  have z7 := e2.isNone hn7
  have n17 := ne_of B1 hn7
  have n67 := ne_of B6 hn7
  have B1 := st.keep b1 _ n17 B1
  have B6 := st.keep b6 _ n67 B6
  have e3 := st.ext H e2 z7
  simp only [go_sem, reduceIte, reduceCtorEq, Nat.reduceEqDiff, Nat.reduceBEq, Nat.reduceAdd, Nat.reduceMul, Nat.reduceLeDiff, List.getElem?_cons_zero, List.getElem?_cons_succ, bne_self_eq_false, Int.reduceEq, B1]
  refine (coursesR_c h hv).go ?_
  obtain ⟨hcm, hj⟩ := foundC_mem hv n1
  have hok := (mem_coursesR hv _).1 hcm
  have hcl := courseOK_len hok
  have a3 : IntKind.i64.wrap (n1 : Int) = (n1 : Int) := w64 (by omega) (by omega)
  have ej : (n1 : Int).tmod ((coursesR h).length : Int) = ((n1 % (coursesR h).length : Nat) : Int) := (Int.ofNat_tmod _ _).symm
  have hce : (coursesR h)[n1 % (coursesR h).length] = foundC h n1 := by rw [foundC, List.getD_eq_getElem?_getD, List.getElem?_eq_getElem hj]; rfl
  generalize foundC h n1 = c at hcm hok hcl hce
  simp only [go_sem, reduceIte, reduceCtorEq, Nat.reduceEqDiff, Nat.reduceBEq, Nat.reduceAdd, Nat.reduceMul, Nat.reduceLeDiff, List.getElem?_cons_zero, List.getElem?_cons_succ, bne_self_eq_false, Int.reduceEq, eCL, a3, ej, show ¬ ((coursesR h).length : Int) = 0 by omega, map_get (f := eCr) hj, hce, eCr, B1]
  refine v_alloc' fun b9 H4 hn9 B9 st => ?_
  have z9 := e3.isNone hn9
  have n19 := ne_of B1 hn9
  have n69 := ne_of B6 hn9
  have n79 := ne_of B7 hn9
  have B1 := st.keep b1 _ n19 B1
  have B6 := st.keep b6 _ n69 B6
  have B7 := st.keep b7 _ n79 B7
  have e4 := st.ext H e3 z9
  simp only [go_sem, reduceIte, reduceCtorEq, Nat.reduceEqDiff, Nat.reduceBEq, Nat.reduceAdd, Nat.reduceMul, Nat.reduceLeDiff, List.getElem?_cons_zero, List.getElem?_cons_succ, bne_self_eq_false, Int.reduceEq, B1]
  refine v_store' B9 rfl rfl (by simp [AV.cells, AV.isCell]) (by simp) fun H5 B9 st => ?_
  have B1 := st.keep b1 _ n19 B1
  have B6 := st.keep b6 _ n69 B6
  have B7 := st.keep b7 _ n79 B7
  have e5 := st.ext H e4 z9
  replace B9 : H5 b9 = some (.box [.slice (eI c.owners), .slice (eI c.hours)]) := B9
  simp only [go_sem, reduceIte, reduceCtorEq, Nat.reduceEqDiff, Nat.reduceBEq, Nat.reduceAdd, Nat.reduceMul, Nat.reduceLeDiff, List.getElem?_cons_zero, List.getElem?_cons_succ, bne_self_eq_false, Int.reduceEq, B1]
  refine v_alloc' fun b10 H6 hn10 B10 st => ?_
  have z10 := e5.isNone hn10
  have n110 := ne_of B1 hn10
  have n610 := ne_of B6 hn10
  have n710 := ne_of B7 hn10
  have n910 := ne_of B9 hn10
  have B1 := st.keep b1 _ n110 B1
  have B6 := st.keep b6 _ n610 B6
  have B7 := st.keep b7 _ n710 B7
  have B9 := st.keep b9 _ n910 B9
  have e6 := st.ext H e5 z10
  simp only [go_sem, reduceIte, reduceCtorEq, Nat.reduceEqDiff, Nat.reduceBEq, Nat.reduceAdd, Nat.reduceMul, Nat.reduceLeDiff, List.getElem?_cons_zero, List.getElem?_cons_succ, bne_self_eq_false, Int.reduceEq, B1]
  refine v_store' B10 rfl rfl (by simp [AV.cells, AV.isCell]) (by simp) fun H7 B10 st => ?_
  have B1 := st.keep b1 _ n110 B1
  have B6 := st.keep b6 _ n610 B6
  have B7 := st.keep b7 _ n710 B7
  have B9 := st.keep b9 _ n910 B9
  have e7 := st.ext H e6 z10
  replace B10 : H7 b10 = some (.box [.slice (h.table.women.map eW), .slice (h.table.pieces.map eP), i6 h.table.wrong, .slice (eI h.sick), i6 h.others, i6 h.last, .slice (h.touches.map eTo), .slice (h.boiled.map eB), .slice (h.signs.map eS)]) := B10
  simp only [go_sem, reduceIte, reduceCtorEq, Nat.reduceEqDiff, Nat.reduceBEq, Nat.reduceAdd, Nat.reduceMul, Nat.reduceLeDiff, List.getElem?_cons_zero, List.getElem?_cons_succ, bne_self_eq_false, Int.reduceEq, B1]
  refine v_store' B10 rfl rfl (by simp [AV.cells, AV.isCell]) (by simp) fun H8 B10 st => ?_
  have B1 := st.keep b1 _ n110 B1
  have B6 := st.keep b6 _ n610 B6
  have B7 := st.keep b7 _ n710 B7
  have B9 := st.keep b9 _ n910 B9
  have e8 := st.ext H e7 z10
  replace B10 : H8 b10 = some (.box (hc4 h (.slice (eI h.sick)) (.slice (h.touches.map eTo)) (.slice (h.boiled.map eB)) .emp)) := B10
  clear e1 e2 e3 e4 e5 e6 e7 st
  simp only [go_sem, reduceIte, reduceCtorEq, Nat.reduceEqDiff, Nat.reduceBEq, Nat.reduceAdd, Nat.reduceMul, Nat.reduceLeDiff, List.getElem?_cons_zero, List.getElem?_cons_succ, bne_self_eq_false, Int.reduceEq, B1]
  refine x_for (sgN h ws) (fun j env H1 => Ext H H1 ∧ H1 b1 = some (.box [.slice (h.table.women.map eW), .slice (h.table.pieces.map eP), i6 h.table.wrong, .slice (eI h.sick), i6 h.others, i6 h.last, .slice (h.touches.map eTo), .slice (h.boiled.map eB), .slice (h.signs.map eS)]) ∧ H1 b6 = some (.box [.emp, .emp, .int .i64 0, .emp, .int .i64 0, .int .i64 0, .emp, .emp, .emp]) ∧ H1 b7 = some (.box [.emp, .emp]) ∧ H1 b9 = some (.box [.slice (eI c.owners), .slice (eI c.hours)]) ∧ (∃ v, H1 b10 = some (.box (hc4 h (.slice (eI h.sick)) (.slice (h.touches.map eTo)) (.slice (h.boiled.map eB)) v)) ∧ Grown 2 H H1 v ((sgUpto h c ws j).map eS)) ∧ env 2 = .slice (eU ws) ∧ env 3 = .ptr b1 0 ∧ env 6 = .ptr b6 0 ∧ env 7 = .ptr b7 0 ∧ env 9 = .ptr b9 0 ∧ env 10 = .ptr b10 0 ∧ env 11 = i6 j ∧ env 59 = .any)
    ⟨e8, B1, B6, B7, B9, ⟨.emp, B10, .inl ⟨rfl, rfl⟩⟩, by simp [upd_at], by simp [upd_at], by simp [upd_at], by simp [upd_at], by simp [upd_at], by simp [upd_at], by simp [upd_at], by simp [upd_at]⟩ ?_
  clear e8 B1 B6 B7 B9 B10
  rintro j env H1 hj ⟨hE, B1, B6, B7, B9, ⟨v, B10, hG⟩, g2, g3, g6, g7, g9, g10, g11, hN⟩
  have hj5 := Nat.le_trans hj (sgN_le h ws)
  have hmod : ((wordN ws 0 : Nat) : Int).tmod 6 = ((wordN ws 0 % 6 : Nat) : Int) := (Int.ofNat_tmod _ 6).symm
  by_cases hlt : j < sgN h ws
  · have k0 : nT h ≠ 0 := by intro h0; rw [sgN, if_pos h0] at hlt; omega
    have k1 : (j : Int) < ((wordN ws 0 % 6 : Nat) : Int) := by rw [sgN, if_neg k0] at hlt; omega
    have hth : wordN ws (j + 1) % nT h < nT h := Nat.mod_lt _ (by omega)
    have hll := lastOf_len h c []
    have htr := truesUpto_len (lastOf h c []) 10
    simp only [go_sem, reduceIte, reduceCtorEq, Nat.reduceEqDiff, Nat.reduceBEq, Nat.reduceAdd, Nat.reduceMul, Nat.reduceLeDiff, List.getElem?_cons_zero, List.getElem?_cons_succ, bne_self_eq_false, Int.reduceEq, g2, g3, g6, g7, g9, g10, g11, hN, B1]
    refine hwc.go ?_
    simp only [go_sem, reduceIte, reduceCtorEq, Nat.reduceEqDiff, Nat.reduceBEq, Nat.reduceAdd, Nat.reduceMul, Nat.reduceLeDiff, List.getElem?_cons_zero, List.getElem?_cons_succ, bne_self_eq_false, Int.reduceEq, g2, g3, g6, g7, g9, g10, g11, hN, B1, hmod, k1, show ¬ (6 : Int) = 0 by omega]
    refine (thingsR_c h).go ?_
    rw [thingsW_ok hv.ok]
    simp only [go_sem, reduceIte, reduceCtorEq, Nat.reduceEqDiff, Nat.reduceBEq, Nat.reduceAdd, Nat.reduceMul, Nat.reduceLeDiff, List.getElem?_cons_zero, List.getElem?_cons_succ, bne_self_eq_false, Int.reduceEq, g2, g3, g6, g7, g9, g10, g11, hN, B1, show (0 : Int) < (nT h : Int) by omega, wsucc (show j < 4611686018427387904 by omega)]
    refine pgo_call (word_c ws hw (j + 1)) ?_
    simp only [go_sem, reduceIte, reduceCtorEq, Nat.reduceEqDiff, Nat.reduceBEq, Nat.reduceAdd, Nat.reduceMul, Nat.reduceLeDiff, List.getElem?_cons_zero, List.getElem?_cons_succ, bne_self_eq_false, Int.reduceEq, g2, g3, g6, g7, g9, g10, g11, hN, B1]
    refine pgo_call (thingsR_c h) ?_
    rw [thingsW_ok hv.ok]
    simp only [go_sem, reduceIte, reduceCtorEq, Nat.reduceEqDiff, Nat.reduceBEq, Nat.reduceAdd, Nat.reduceMul, Nat.reduceLeDiff, List.getElem?_cons_zero, List.getElem?_cons_succ, bne_self_eq_false, Int.reduceEq, g2, g3, g6, g7, g9, g10, g11, hN, B1, B9, B10, hc4, take_f', show ¬ (nT h : Int) = 0 by omega, ← Int.ofNat_tmod]
    refine pgo_call (Pure.emp2 (last_c h hv c ⟨hcl.1, hcl.2⟩ [] (by simp))) ?_
    simp only [go_sem, reduceIte, reduceCtorEq, Nat.reduceEqDiff, Nat.reduceBEq, Nat.reduceAdd, Nat.reduceMul, Nat.reduceLeDiff, List.getElem?_cons_zero, List.getElem?_cons_succ, bne_self_eq_false, Int.reduceEq]
    refine pgo_call (bits_c _ (natOf_lt62 (by omega))) ?_
    rw [bitsL_natOf (by omega), hll]
    simp only [go_sem, reduceIte, reduceCtorEq, Nat.reduceEqDiff, Nat.reduceBEq, Nat.reduceAdd, Nat.reduceMul, Nat.reduceLeDiff, List.getElem?_cons_zero, List.getElem?_cons_succ, bne_self_eq_false, Int.reduceEq, g2, g3, g6, g7, g9, g10, g11, hN]
    refine pgo_call (has_c _ _ (by unfold Sm; omega)) ?_
    simp only [go_sem, reduceIte, reduceCtorEq, Nat.reduceEqDiff, Nat.reduceBEq, Nat.reduceAdd, Nat.reduceMul, Nat.reduceLeDiff, List.getElem?_cons_zero, List.getElem?_cons_succ, bne_self_eq_false, Int.reduceEq, g2, g3, g6, g7, g9, g10, g11, hN, bcS, Option.map_some, d_bsa]
    refine v_append hG hE rfl (eS_good _) (eS_good [sgOf h c ws j]) (eS_cell [sgOf h c ws j]) (by simp [sgUpto]; omega) (by simp [sgUpto]; omega) ?_
    intro v' H2 hg' he' hk'
    have K1 := hk'.box hG B1
    have K6 := hk'.box hG B6
    have K7 := hk'.box hG B7
    have K9 := hk'.box hG B9
    have K10 := hk'.box hG B10
    simp only [go_sem, reduceIte, reduceCtorEq, Nat.reduceEqDiff, Nat.reduceBEq, Nat.reduceAdd, Nat.reduceMul, Nat.reduceLeDiff, List.getElem?_cons_zero, List.getElem?_cons_succ, bne_self_eq_false, Int.reduceEq, g2, g3, g6, g7, g9, g10, g11, hN]
    refine v_store' K10 hg'.one.1 hg'.one.2.1 hg'.one.2.2 (by simp [hc4]) fun H3 K10 st => ?_
    have K1 := st.keep b1 _ n110 K1
    have K6 := st.keep b6 _ n610 K6
    have K7 := st.keep b7 _ n710 K7
    have K9 := st.keep b9 _ n910 K9
    have he3 := st.ext H he' z10
    have hg3 := st.grown _ _ _ _ hg'
    simp only [go_sem, reduceIte, reduceCtorEq, Nat.reduceEqDiff, Nat.reduceBEq, Nat.reduceAdd, Nat.reduceMul, Nat.reduceLeDiff, List.getElem?_cons_zero, List.getElem?_cons_succ, bne_self_eq_false, Int.reduceEq, g2, g3, g6, g7, g9, g10, g11, hN, K1, K6, K7, K9, hc4, wsucc (show j < 4611686018427387904 by omega), hlt]
    refine ⟨he3, v', by rw [K10, hg'.cellv.2.1]; rfl, ?_⟩
    rw [sgUpto, List.range_succ, List.map_append, ← sgUpto, List.map_append]; exact hg3
  · have hjn : j = sgN h ws := by omega
    by_cases k1 : (j : Int) < ((wordN ws 0 % 6 : Nat) : Int)
    rotate_left
    · simp only [go_sem, reduceIte, reduceCtorEq, Nat.reduceEqDiff, Nat.reduceBEq, Nat.reduceAdd, Nat.reduceMul, Nat.reduceLeDiff, List.getElem?_cons_zero, List.getElem?_cons_succ, bne_self_eq_false, Int.reduceEq, g2, g3, g6, g7, g9, g10, g11, hN, B1]
      refine hwc.go ?_
      simp only [go_sem, reduceIte, reduceCtorEq, Nat.reduceEqDiff, Nat.reduceBEq, Nat.reduceAdd, Nat.reduceMul, Nat.reduceLeDiff, List.getElem?_cons_zero, List.getElem?_cons_succ, bne_self_eq_false, Int.reduceEq, g2, g3, g6, g7, g9, g10, g11, hN, B1, B9, B10, hc4, hmod, k1, show ¬ (6 : Int) = 0 by omega]
      refine v_store' B6 rfl rfl (hc_cells (h := h) rfl rfl rfl hG.cellv.2.2) (by simp) fun H2 B6 st => ?_
      have B7 := st.keep b7 _ n67.symm B7
      have B9 := st.keep b9 _ n69.symm B9
      have e2 := st.ext H hE z6
      have hG2 := st.grown _ _ _ _ hG
      replace B6 : H2 b6 = some (.box (hc4 h (.slice (eI h.sick)) (.slice (h.touches.map eTo)) (.slice (h.boiled.map eB)) v)) := B6
      simp only [go_sem, reduceIte, reduceCtorEq, Nat.reduceEqDiff, Nat.reduceBEq, Nat.reduceAdd, Nat.reduceMul, Nat.reduceLeDiff, List.getElem?_cons_zero, List.getElem?_cons_succ, bne_self_eq_false, Int.reduceEq, g6, g7, g9, g10, hN, B9]
      refine v_store' B7 rfl rfl (by simp [AV.cells, AV.isCell]) (by simp) fun H3 B7 st => ?_
      have B6 := st.keep b6 _ n67 B6
      have e3 := st.ext H e2 z7
      have hG3 := st.grown _ _ _ _ hG2
      replace B7 : H3 b7 = some (.box [.slice (eI c.owners), .slice (eI c.hours)]) := B7
      simp only [go_sem, reduceIte, reduceCtorEq, Nat.reduceEqDiff, Nat.reduceBEq, Nat.reduceAdd, Nat.reduceMul, Nat.reduceLeDiff, List.getElem?_cons_zero, List.getElem?_cons_succ, bne_self_eq_false, Int.reduceEq]
      refine fin_cell2 6 9 b6 7 2 b7 31 63 _ _ (by simp [upd_at, hN]) agg31 sz31 (by simp [upd_at, g6]) B6 rfl agg63 sz63 (by simp [upd_at, g7]) B7 rfl ⟨_, H, ?_, rfl, rfl⟩
      refine settle_tup2 e3 (fun w u hH hr => ?_) (fun w u hH hr => hr.mono (Evolve.drop e3))
      have hw1 : Wk (.agg (hc4 h (.slice (eI h.sick)) (.slice (h.touches.map eTo)) (.slice (h.boiled.map eB)) v)) (eH (reS h (sgAll h c ws))) := wkH rfl rfl rfl (Wk.refl _) (Wk.refl _) (Wk.refl _) (by
        show Wk v (.slice ((sgAll h c ws).map eS))
        rw [sgAll, ← hjn]; exact hG3.wk)
      exact (hw1 _ w u hr).mono (Evolve.drop e3)
    have k0 : nT h = 0 := by
      apply Classical.byContradiction
      intro hne
      rw [sgN, if_neg hne] at hlt; omega
    simp only [go_sem, reduceIte, reduceCtorEq, Nat.reduceEqDiff, Nat.reduceBEq, Nat.reduceAdd, Nat.reduceMul, Nat.reduceLeDiff, List.getElem?_cons_zero, List.getElem?_cons_succ, bne_self_eq_false, Int.reduceEq, g2, g3, g6, g7, g9, g10, g11, hN, B1]
    refine hwc.go ?_
    simp only [go_sem, reduceIte, reduceCtorEq, Nat.reduceEqDiff, Nat.reduceBEq, Nat.reduceAdd, Nat.reduceMul, Nat.reduceLeDiff, List.getElem?_cons_zero, List.getElem?_cons_succ, bne_self_eq_false, Int.reduceEq, g2, g3, g6, g7, g9, g10, g11, hN, B1, hmod, k1, show ¬ (6 : Int) = 0 by omega]
    refine (thingsR_c h).go ?_
    rw [thingsW_ok hv.ok]
    simp only [go_sem, reduceIte, reduceCtorEq, Nat.reduceEqDiff, Nat.reduceBEq, Nat.reduceAdd, Nat.reduceMul, Nat.reduceLeDiff, List.getElem?_cons_zero, List.getElem?_cons_succ, bne_self_eq_false, Int.reduceEq, g2, g3, g6, g7, g9, g10, g11, hN, B1, B9, B10, hc4, show ¬ (0 : Int) < (nT h : Int) by omega]
    refine v_store' B6 rfl rfl (hc_cells (h := h) rfl rfl rfl hG.cellv.2.2) (by simp) fun H2 B6 st => ?_
    have B7 := st.keep b7 _ n67.symm B7
    have B9 := st.keep b9 _ n69.symm B9
    have e2 := st.ext H hE z6
    have hG2 := st.grown _ _ _ _ hG
    replace B6 : H2 b6 = some (.box (hc4 h (.slice (eI h.sick)) (.slice (h.touches.map eTo)) (.slice (h.boiled.map eB)) v)) := B6
    simp only [go_sem, reduceIte, reduceCtorEq, Nat.reduceEqDiff, Nat.reduceBEq, Nat.reduceAdd, Nat.reduceMul, Nat.reduceLeDiff, List.getElem?_cons_zero, List.getElem?_cons_succ, bne_self_eq_false, Int.reduceEq, g6, g7, g9, g10, hN, B9]
    refine v_store' B7 rfl rfl (by simp [AV.cells, AV.isCell]) (by simp) fun H3 B7 st => ?_
    have B6 := st.keep b6 _ n67 B6
    have e3 := st.ext H e2 z7
    have hG3 := st.grown _ _ _ _ hG2
    replace B7 : H3 b7 = some (.box [.slice (eI c.owners), .slice (eI c.hours)]) := B7
    simp only [go_sem, reduceIte, reduceCtorEq, Nat.reduceEqDiff, Nat.reduceBEq, Nat.reduceAdd, Nat.reduceMul, Nat.reduceLeDiff, List.getElem?_cons_zero, List.getElem?_cons_succ, bne_self_eq_false, Int.reduceEq]
    refine fin_cell2 6 9 b6 7 2 b7 31 63 _ _ (by simp [upd_at, hN]) agg31 sz31 (by simp [upd_at, g6]) B6 rfl agg63 sz63 (by simp [upd_at, g7]) B7 rfl ⟨_, H, ?_, rfl, rfl⟩
    refine settle_tup2 e3 (fun w u hH hr => ?_) (fun w u hH hr => hr.mono (Evolve.drop e3))
    have hw1 : Wk (.agg (hc4 h (.slice (eI h.sick)) (.slice (h.touches.map eTo)) (.slice (h.boiled.map eB)) v)) (eH (reS h (sgAll h c ws))) := wkH rfl rfl rfl (Wk.refl _) (Wk.refl _) (Wk.refl _) (by
      show Wk v (.slice ((sgAll h c ws).map eS))
      rw [sgAll, ← hjn]; exact hG3.wk)
    exact (hw1 _ w u hr).mono (Evolve.drop e3)
theorem found_tru {h : House} (hv : HV h) (n1 : Nat) (ws : List Nat) : foundC h n1 ∈ truH (reS h (sgAll h (foundC h n1) ws)) [] := by
  rw [truH_reS]
  obtain ⟨hcm, _⟩ := foundC_mem hv n1
  exact ⟨(mem_allC hv.tab _).2 ((mem_coursesR hv _).1 hcm), fun s hs => ((sgAll_ok hv.ok _ ws).2 s hs).2⟩
theorem first_none_of {h : House} (ht : truH h [] ≠ []) : (List.range h.signs.length).find? (badAt h) = none := by
  rw [List.find?_range_eq_none]
  intro i hi
  obtain ⟨c, l, e⟩ := List.exists_cons_of_ne_nil ht
  have hc : c ∈ truH h [] := by rw [e]; simp
  rw [truH_self] at hc
  have : possibleP (cut h (i + 1)) [] = true := (possible_cut h (i + 1) (by omega)).2 ⟨c, hc.1, fun k hk => by
    have : h.signs.getD k default ∈ h.signs := by
      rw [List.getD_eq_getElem?_getD, List.getElem?_eq_getElem (by omega)]; exact List.getElem_mem _
    exact hc.2 _ this⟩
  rw [badAt, this]; rfl
set_option maxHeartbeats 4000000 in
set_option maxRecDepth 100000 in
theorem truth_none (h : House) (n1 : Nat) (hn1 : n1 < 65536) (ws : List Nat) (hw : ∀ n ∈ ws, n < 65536) (n : Nat) (hn : n < 256) (c1 : readyH h = true) (hE : orderE (reS h (sgAll h (foundC h n1) ws)) (hourK h n) = 10) : Pure Tryz.prog 16 [eH h, .int .u16 (n1 : Int), .slice (eU ws), .int .u8 (n : Int)] (.bool true) := by
  obtain ⟨hm, hc⟩ := ready_ok c1
  have hv := hv_of hm.tsm hm.sk hc
  have hnt := nT_le hv.ok
  have hpl := hv.ok.pcs
  have htl := hv.ok.touches
  obtain ⟨f1, f2, f3⟩ := hourK_facts hv.ok hn
  obtain ⟨hcm, _⟩ := foundC_mem hv n1
  have hok := (mem_coursesR hv _).1 hcm
  have hcl := courseOK_len hok
  have hct := found_tru hv n1 ws
  obtain ⟨sl, sok⟩ := sgAll_ok hv.ok (foundC h n1) ws
  have xm : HSm (reS h (sgAll h (foundC h n1) ws)) := hm.signs' (by omega)
  have xc : checkHouse (reS h (sgAll h (foundC h n1) ws)) = 0 := check_reS hc sl fun s hs => (sok s hs).1
  have xv := hv_of xm.tsm xm.sk xc
  have xt : (reS h (sgAll h (foundC h n1) ws)).table = h.table := rfl
  have xtt : (reS h (sgAll h (foundC h n1) ws)).touches = h.touches := rfl
  have xs : (reS h (sgAll h (foundC h n1) ws)).sick = h.sick := rfl
  have xn : nT (reS h (sgAll h (foundC h n1) ws)) = nT h := rfl
  have hh : hourOK (reS h (sgAll h (foundC h n1) ws)) (hourK h n) = true := hourK_ok hv.ok n
  have cok : courseOK (reS h (sgAll h (foundC h n1) ws)) (foundC h n1) = true := hok
  have hfc := found_c h hm hc n1 hn1 ws hw
  generalize foundC h n1 = c at *
  generalize reS h (sgAll h c ws) = x at *
  have xne : truH x [] ≠ [] := fun h0 => by rw [h0] at hct; cases hct
  have ax := ask_zero xc xne
  have ax' : askErrH x (hourOK x (hourK h n)) = 0 := by rw [hh]; exact ax
  have ln := leave_of_tru xv xne
  have fn0 := first_none_of xne
  have lx : (carryOf x).length = nT h := by rw [carry_len, xn]
  have p1 : playE x c = 0 := by rw [playE, if_pos xc, cok]; rfl
  have p2 : truthS x c = true := by rw [truthS, decide_eq_true xc, cok, (List.mem_filter.1 hct).2]; rfl
  have s1 : Sm (truesUpto (lastOf x c []) 10).length := by have := truesUpto_len (lastOf x c []) 10; unfold Sm; omega
  have s2 : Sm (whoseS x).length := by have := whoseUpto_len x x.table.women.length; have := xm.women; unfold whoseS Sm; omega
  have bmin := boil_min xc xv.ok hh
  have bdom : Inc (nT h) (boilOf' x (hourK h n)) := by rw [← xn]; exact bmin.dom
  have blen := inc_len bdom
  have bsafe : safeR x (atOf (boilOf' x (hourK h n)) (hourK h n)) c = true := by rw [safe_eq xv cok]; exact (safeP_iff _ _).1 bmin.good c hct
  have hc10 : ¬ (10 : Int) = 0 := by omega
  intro H
  refine fn_of hmix fc16 (by simp) ?_
  rw [ienv4]
  simp only [go_sem, reduceIte, reduceCtorEq, Nat.reduceEqDiff, Nat.reduceBEq, Nat.reduceAdd, Nat.reduceMul, Nat.reduceLeDiff, List.getElem?_cons_zero, List.getElem?_cons_succ, bne_self_eq_false, Int.reduceEq, ac16, eH]
  refine v_box _ rfl fun b1 hb1 => ?_
  have e1 := (Ext.refl H).new hb1 (.box [.slice (h.table.women.map eW), .slice (h.table.pieces.map eP), i6 h.table.wrong, .slice (eI h.sick), i6 h.others, i6 h.last, .slice (h.touches.map eTo), .slice (h.boiled.map eB), .slice (h.signs.map eS)])
  simp only [go_sem, reduceIte, reduceCtorEq, Nat.reduceEqDiff, Nat.reduceBEq, Nat.reduceAdd, Nat.reduceMul, Nat.reduceLeDiff, List.getElem?_cons_zero, List.getElem?_cons_succ, bne_self_eq_false, Int.reduceEq]
  refine (ready_c h).go ?_
  simp only [go_sem, reduceIte, reduceCtorEq, Nat.reduceEqDiff, Nat.reduceBEq, Nat.reduceAdd, Nat.reduceMul, Nat.reduceLeDiff, List.getElem?_cons_zero, List.getElem?_cons_succ, bne_self_eq_false, Int.reduceEq, c1]
  refine hfc.go ?_
  simp only [go_sem, reduceIte, reduceCtorEq, Nat.reduceEqDiff, Nat.reduceBEq, Nat.reduceAdd, Nat.reduceMul, Nat.reduceLeDiff, List.getElem?_cons_zero, List.getElem?_cons_succ, bne_self_eq_false, Int.reduceEq, eC, eH]
  have B1 : updH H b1 (.box [.slice (h.table.women.map eW), .slice (h.table.pieces.map eP), i6 h.table.wrong, .slice (eI h.sick), i6 h.others, i6 h.last, .slice (h.touches.map eTo), .slice (h.boiled.map eB), .slice (h.signs.map eS)]) b1 = some (.box [.slice (h.table.women.map eW), .slice (h.table.pieces.map eP), i6 h.table.wrong, .slice (eI h.sick), i6 h.others, i6 h.last, .slice (h.touches.map eTo), .slice (h.boiled.map eB), .slice (h.signs.map eS)]) := updH_same _ _ _
  generalize updH H b1 (.box [.slice (h.table.women.map eW), .slice (h.table.pieces.map eP), i6 h.table.wrong, .slice (eI h.sick), i6 h.others, i6 h.last, .slice (h.touches.map eTo), .slice (h.boiled.map eB), .slice (h.signs.map eS)]) = H1 at e1 B1 ⊢
  refine v_alloc' fun b9 H2 hn9 B9 st => ?_
  have z9 := e1.isNone hn9
  have n19 := ne_of B1 hn9
  have B1 := st.keep b1 _ n19 B1
  have e2 := st.ext H e1 z9
  simp only [go_sem, reduceIte, reduceCtorEq, Nat.reduceEqDiff, Nat.reduceBEq, Nat.reduceAdd, Nat.reduceMul, Nat.reduceLeDiff, List.getElem?_cons_zero, List.getElem?_cons_succ, bne_self_eq_false, Int.reduceEq, B1]
  refine v_alloc' fun b10 H3 hn10 B10 st => ?_
  have z10 := e2.isNone hn10
  have n110 := ne_of B1 hn10
  have n910 := ne_of B9 hn10
  have B1 := st.keep b1 _ n110 B1
  have B9 := st.keep b9 _ n910 B9
  have e3 := st.ext H e2 z10
  simp only [go_sem, reduceIte, reduceCtorEq, Nat.reduceEqDiff, Nat.reduceBEq, Nat.reduceAdd, Nat.reduceMul, Nat.reduceLeDiff, List.getElem?_cons_zero, List.getElem?_cons_succ, bne_self_eq_false, Int.reduceEq, B1]
  refine v_store' B9 rfl rfl (by simp [AV.cells, AV.isCell]) (by simp) fun H4 B9 st => ?_
  have B1 := st.keep b1 _ n19 B1
  have B10 := st.keep b10 _ n910.symm B10
  have e4 := st.ext H e3 z9
  replace B9 : H4 b9 = some (.box [.slice (x.table.women.map eW), .slice (x.table.pieces.map eP), i6 x.table.wrong, .slice (eI x.sick), i6 x.others, i6 x.last, .slice (x.touches.map eTo), .slice (x.boiled.map eB), .slice (x.signs.map eS)]) := B9
  simp only [go_sem, reduceIte, reduceCtorEq, Nat.reduceEqDiff, Nat.reduceBEq, Nat.reduceAdd, Nat.reduceMul, Nat.reduceLeDiff, List.getElem?_cons_zero, List.getElem?_cons_succ, bne_self_eq_false, Int.reduceEq, B1]
  refine v_store' B10 rfl rfl (by simp [AV.cells, AV.isCell]) (by simp) fun H5 B10 st => ?_
  have B1 := st.keep b1 _ n110 B1
  have B9 := st.keep b9 _ n910 B9
  have e5 := st.ext H e4 z10
  replace B10 : H5 b10 = some (.box [.slice (eI c.owners), .slice (eI c.hours)]) := B10
  simp only [go_sem, reduceIte, reduceCtorEq, Nat.reduceEqDiff, Nat.reduceBEq, Nat.reduceAdd, Nat.reduceMul, Nat.reduceLeDiff, List.getElem?_cons_zero, List.getElem?_cons_succ, bne_self_eq_false, Int.reduceEq, B1, B9, B10, f1, f2, f3]
  refine (house_c x xm).go ?_
  simp only [go_sem, reduceIte, reduceCtorEq, Nat.reduceEqDiff, Nat.reduceBEq, Nat.reduceAdd, Nat.reduceMul, Nat.reduceLeDiff, List.getElem?_cons_zero, List.getElem?_cons_succ, bne_self_eq_false, Int.reduceEq]
  refine (carry_c x xm.tsm xm.sk).go ?_
  simp only [go_sem, reduceIte, reduceCtorEq, Nat.reduceEqDiff, Nat.reduceBEq, Nat.reduceAdd, Nat.reduceMul, Nat.reduceLeDiff, List.getElem?_cons_zero, List.getElem?_cons_succ, bne_self_eq_false, Int.reduceEq, listR, ax, B1, B9, B10]
  refine (house_c x xm).go ?_
  simp only [go_sem, reduceIte, reduceCtorEq, Nat.reduceEqDiff, Nat.reduceBEq, Nat.reduceAdd, Nat.reduceMul, Nat.reduceLeDiff, List.getElem?_cons_zero, List.getElem?_cons_succ, bne_self_eq_false, Int.reduceEq]
  refine (whoseS_c x xm.tsm xm.sk).go ?_
  simp only [go_sem, reduceIte, reduceCtorEq, Nat.reduceEqDiff, Nat.reduceBEq, Nat.reduceAdd, Nat.reduceMul, Nat.reduceLeDiff, List.getElem?_cons_zero, List.getElem?_cons_succ, bne_self_eq_false, Int.reduceEq, listR, ax, B1, B9, B10]
  refine pgo_call (house_c x xm) ?_
  simp only [go_sem, reduceIte, reduceCtorEq, Nat.reduceEqDiff, Nat.reduceBEq, Nat.reduceAdd, Nat.reduceMul, Nat.reduceLeDiff, List.getElem?_cons_zero, List.getElem?_cons_succ, bne_self_eq_false, Int.reduceEq, B1, B9, B10]
  refine pgo_call (course_c c (by omega) (by omega)) ?_
  simp only [go_sem, reduceIte, reduceCtorEq, Nat.reduceEqDiff, Nat.reduceBEq, Nat.reduceAdd, Nat.reduceMul, Nat.reduceLeDiff, List.getElem?_cons_zero, List.getElem?_cons_succ, bne_self_eq_false, Int.reduceEq]
  refine pgo_call (playS_c x xm.tsm xm.sk c (by unfold Sm; omega) (by unfold Sm; omega)) ?_
  simp only [go_sem, reduceIte, reduceCtorEq, Nat.reduceEqDiff, Nat.reduceBEq, Nat.reduceAdd, Nat.reduceMul, Nat.reduceLeDiff, List.getElem?_cons_zero, List.getElem?_cons_succ, bne_self_eq_false, Int.reduceEq, listR, p1, B1, B9, B10]
  refine (house_c x xm).go ?_
  simp only [go_sem, reduceIte, reduceCtorEq, Nat.reduceEqDiff, Nat.reduceBEq, Nat.reduceAdd, Nat.reduceMul, Nat.reduceLeDiff, List.getElem?_cons_zero, List.getElem?_cons_succ, bne_self_eq_false, Int.reduceEq]
  refine (boil_c x xm.tsm xm.sk (hourK h n)).go ?_
  simp only [go_sem, reduceIte, reduceCtorEq, Nat.reduceEqDiff, Nat.reduceBEq, Nat.reduceAdd, Nat.reduceMul, Nat.reduceLeDiff, List.getElem?_cons_zero, List.getElem?_cons_succ, bne_self_eq_false, Int.reduceEq, listR, ax, hh, B1, B9, B10]
  refine (house_c x xm).go ?_
  simp only [go_sem, reduceIte, reduceCtorEq, Nat.reduceEqDiff, Nat.reduceBEq, Nat.reduceAdd, Nat.reduceMul, Nat.reduceLeDiff, List.getElem?_cons_zero, List.getElem?_cons_succ, bne_self_eq_false, Int.reduceEq]
  refine (order_c x xm.tsm xm.sk (hourK h n)).go ?_
  simp only [go_sem, reduceIte, reduceCtorEq, Nat.reduceEqDiff, Nat.reduceBEq, Nat.reduceAdd, Nat.reduceMul, Nat.reduceLeDiff, List.getElem?_cons_zero, List.getElem?_cons_succ, bne_self_eq_false, Int.reduceEq, listR, hE, hc10, B1, B9, B10]
  refine (house_c x xm).go ?_
  simp only [go_sem, reduceIte, reduceCtorEq, Nat.reduceEqDiff, Nat.reduceBEq, Nat.reduceAdd, Nat.reduceMul, Nat.reduceLeDiff, List.getElem?_cons_zero, List.getElem?_cons_succ, bne_self_eq_false, Int.reduceEq]
  refine (leave_c x xm.tsm xm.sk).go ?_
  simp only [go_sem, reduceIte, reduceCtorEq, Nat.reduceEqDiff, Nat.reduceBEq, Nat.reduceAdd, Nat.reduceMul, Nat.reduceLeDiff, List.getElem?_cons_zero, List.getElem?_cons_succ, bne_self_eq_false, Int.reduceEq, listR, xc, ln, eI, List.map_nil, B1, B9, B10]
  refine (house_c x xm).go ?_
  simp only [go_sem, reduceIte, reduceCtorEq, Nat.reduceEqDiff, Nat.reduceBEq, Nat.reduceAdd, Nat.reduceMul, Nat.reduceLeDiff, List.getElem?_cons_zero, List.getElem?_cons_succ, bne_self_eq_false, Int.reduceEq]
  refine (first_c x xm.tsm xm.sk).go ?_
  simp only [go_sem, reduceIte, reduceCtorEq, Nat.reduceEqDiff, Nat.reduceBEq, Nat.reduceAdd, Nat.reduceMul, Nat.reduceLeDiff, List.getElem?_cons_zero, List.getElem?_cons_succ, bne_self_eq_false, Int.reduceEq, firstR, xc, fn0, B1, B9, B10, List.length_nil, Int.natCast_zero, bne_self_eq_false, show ¬ (7 : Int) = 0 by omega, show ¬ (10 : Int) = 0 by omega]
  refine pgo_call (thingsR_c h) ?_
  rw [thingsW_ok hv.ok]
  simp only [go_sem, reduceIte, reduceCtorEq, Nat.reduceEqDiff, Nat.reduceBEq, Nat.reduceAdd, Nat.reduceMul, Nat.reduceLeDiff, List.getElem?_cons_zero, List.getElem?_cons_succ, bne_self_eq_false, Int.reduceEq, lx, B1, B9, B10, bne_self_eq_false]
  refine pgo_call (house_c x xm) ?_
  simp only [go_sem, reduceIte, reduceCtorEq, Nat.reduceEqDiff, Nat.reduceBEq, Nat.reduceAdd, Nat.reduceMul, Nat.reduceLeDiff, List.getElem?_cons_zero, List.getElem?_cons_succ, bne_self_eq_false, Int.reduceEq, B1, B9, B10]
  refine pgo_call (course_c c (by omega) (by omega)) ?_
  simp only [go_sem, reduceIte, reduceCtorEq, Nat.reduceEqDiff, Nat.reduceBEq, Nat.reduceAdd, Nat.reduceMul, Nat.reduceLeDiff, List.getElem?_cons_zero, List.getElem?_cons_succ, bne_self_eq_false, Int.reduceEq]
  refine pgo_call (proveS_c x xm.tsm xm.sk c (by unfold Sm; omega) (by unfold Sm; omega)) ?_
  rw [p2]
  simp only [go_sem, reduceIte, reduceCtorEq, Nat.reduceEqDiff, Nat.reduceBEq, Nat.reduceAdd, Nat.reduceMul, Nat.reduceLeDiff, List.getElem?_cons_zero, List.getElem?_cons_succ, bne_self_eq_false, Int.reduceEq]
  refine x_for (nT h) (fun j env H1 => Ext H H1 ∧ H1 b1 = some (.box [.slice (h.table.women.map eW), .slice (h.table.pieces.map eP), i6 h.table.wrong, .slice (eI h.sick), i6 h.others, i6 h.last, .slice (h.touches.map eTo), .slice (h.boiled.map eB), .slice (h.signs.map eS)]) ∧ H1 b9 = some (.box [.slice (x.table.women.map eW), .slice (x.table.pieces.map eP), i6 x.table.wrong, .slice (eI x.sick), i6 x.others, i6 x.last, .slice (x.touches.map eTo), .slice (x.boiled.map eB), .slice (x.signs.map eS)]) ∧ H1 b10 = some (.box [.slice (eI c.owners), .slice (eI c.hours)]) ∧ env 4 = .ptr b1 0 ∧ env 9 = .ptr b9 0 ∧ env 10 = .ptr b10 0 ∧ env 11 = i6 (hourK h n) ∧ env 12 = .slice (eI (carryOf x)) ∧ env 14 = .slice (eI (whoseS x)) ∧ env 16 = .slice (eI (truesUpto (lastOf x c []) 10)) ∧ env 18 = .slice (eI (boilOf' x (hourK h n))) ∧ env 20 = .emp ∧ env 21 = i6 10 ∧ env 26 = i6 j ∧ env 239 = .any)
    ⟨e5, B1, B9, B10, by simp [upd_at], by simp [upd_at], by simp [upd_at], by simp [upd_at], (by first | (simp only [upd_at, Nat.reduceEqDiff, if_false, if_true]; done) | (simp only [upd_at, Nat.reduceEqDiff, if_false, if_true]; rfl)), (by first | (simp only [upd_at, Nat.reduceEqDiff, if_false, if_true]; done) | (simp only [upd_at, Nat.reduceEqDiff, if_false, if_true]; rfl)), (by first | (simp only [upd_at, Nat.reduceEqDiff, if_false, if_true]; done) | (simp only [upd_at, Nat.reduceEqDiff, if_false, if_true]; rfl)), (by first | (simp only [upd_at, Nat.reduceEqDiff, if_false, if_true]; done) | (simp only [upd_at, Nat.reduceEqDiff, if_false, if_true]; rfl)), (by first | (simp only [upd_at, Nat.reduceEqDiff, if_false, if_true]; done) | (simp only [upd_at, Nat.reduceEqDiff, if_false, if_true]; rfl)), by simp [upd_at], by simp [upd_at], by simp [upd_at]⟩ ?_
  clear e1 e2 e3 e4 e5 B1 B9 B10 st
  rintro j env H1 hj ⟨hE, B1, B9, B10, g4, g9, g10, g11, g12, g14, g16, g18, g20, g21, g26, hN⟩
  by_cases hlt : (j : Int) < (nT h : Int)
  · have hlt' : j < nT h := by omega
    have gv : (eI (carryOf x))[j]? = some [i6 (carryAt x j)] := by rw [eI_get (by omega)]; simp [carryOf]
    have vr := verdict_range (truH x []) (carriesP x j)
    have vin : (1 : Int) ≤ carryAt x j ∧ carryAt x j ≤ 3 := vr
    have mis : (j : Int) ∈ truesUpto (lastOf x c []) 10 ↔ (lastOf x c []).getD j false = true := by rw [mem_trues]; exact ⟨fun h => h.2, fun h => ⟨by omega, h⟩⟩
    simp only [go_sem, reduceIte, reduceCtorEq, Nat.reduceEqDiff, Nat.reduceBEq, Nat.reduceAdd, Nat.reduceMul, Nat.reduceLeDiff, List.getElem?_cons_zero, List.getElem?_cons_succ, bne_self_eq_false, Int.reduceEq, g4, g9, g10, g11, g12, g14, g16, g18, g20, g21, g26, hN, lx, hlt, B1, B9, B10]
    refine (has_c _ _ s1).go ?_
    by_cases q : (j : Int) ∈ truesUpto (lastOf x c []) 10
    · have v2 : ¬ carryAt x j = 2 := fun h2 => by
        rw [carryAt, verdict_two xne] at h2
        have := h2 c hct
        rw [carriesP, mis.1 q] at this; cases this
      simp only [go_sem, reduceIte, reduceCtorEq, Nat.reduceEqDiff, Nat.reduceBEq, Nat.reduceAdd, Nat.reduceMul, Nat.reduceLeDiff, List.getElem?_cons_zero, List.getElem?_cons_succ, bne_self_eq_false, Int.reduceEq, g4, g9, g10, g11, g12, g14, g16, g18, g20, g21, g26, hN, B1, B9, B10, gv, q]
      refine (in_c _ _ _).go ?_
      by_cases v1 : carryAt x j = 1
      · simp only [go_sem, reduceIte, reduceCtorEq, Nat.reduceEqDiff, Nat.reduceBEq, Nat.reduceAdd, Nat.reduceMul, Nat.reduceLeDiff, List.getElem?_cons_zero, List.getElem?_cons_succ, bne_self_eq_false, Int.reduceEq, g4, g9, g10, g11, g12, g14, g16, g18, g20, g21, g26, hN, B1, B9, B10, gv, q, v1, show (1 : Int) ≤ 1 by omega, show (1 : Int) ≤ 3 by omega, show ¬ (1 : Int) = 2 by omega]
        by_cases o1 : (j : Int) < (c.owners.length : Int)
        rotate_left
        · simp only [go_sem, reduceIte, reduceCtorEq, Nat.reduceEqDiff, Nat.reduceBEq, Nat.reduceAdd, Nat.reduceMul, Nat.reduceLeDiff, List.getElem?_cons_zero, List.getElem?_cons_succ, bne_self_eq_false, Int.reduceEq, g4, g9, g10, g11, g12, g14, g16, g18, g20, g21, g26, hN, B1, B9, B10, q, o1, wsucc (show j < 4611686018427387904 by omega), hlt']
          exact hE
        have o2 : j < c.owners.length := by omega
        simp only [go_sem, reduceIte, reduceCtorEq, Nat.reduceEqDiff, Nat.reduceBEq, Nat.reduceAdd, Nat.reduceMul, Nat.reduceLeDiff, List.getElem?_cons_zero, List.getElem?_cons_succ, bne_self_eq_false, Int.reduceEq, g4, g9, g10, g11, g12, g14, g16, g18, g20, g21, g26, hN, B1, B9, B10, q, o1, take_f', eI_get o2]
        refine pgo_call (has_c h.sick _ hv.ok.sk) ?_
        by_cases o3 : c.owners[j] ∈ h.sick
        · simp only [go_sem, reduceIte, reduceCtorEq, Nat.reduceEqDiff, Nat.reduceBEq, Nat.reduceAdd, Nat.reduceMul, Nat.reduceLeDiff, List.getElem?_cons_zero, List.getElem?_cons_succ, bne_self_eq_false, Int.reduceEq, g4, g9, g10, g11, g12, g14, g16, g18, g20, g21, g26, hN, B1, B9, B10, o3, wsucc (show j < 4611686018427387904 by omega), hlt']
          exact hE
        have o4 : c.owners[j] ∈ whoseS x := by
          have hjp : j < x.table.pieces.length := by rw [xt]; omega
          have hjp' : j < h.table.pieces.length := by omega
          obtain ⟨w, h1, h2⟩ := own_woman hv hok hjp'
          have hpg := pad_get hv hok hjp'
          have hg : c.owners.getD j 0 = c.owners[j] := by rw [List.getD_eq_getElem?_getD, List.getElem?_eq_getElem o2]; rfl
          rw [hg] at h1
          rw [h1]
          refine (mem_whoseS x w).2 ⟨w, rfl, by rw [xt]; exact h2, (isWhose_iff xne w).2 ⟨c, hct, (harmedP_iff _ _ _).2 ⟨j, hjp, mis.1 q, by rw [hpg, hg, h1], ?_⟩⟩⟩
          rw [xs, hpg, hg]; exact o3
        simp only [go_sem, reduceIte, reduceCtorEq, Nat.reduceEqDiff, Nat.reduceBEq, Nat.reduceAdd, Nat.reduceMul, Nat.reduceLeDiff, List.getElem?_cons_zero, List.getElem?_cons_succ, bne_self_eq_false, Int.reduceEq, g4, g9, g10, g11, g12, g14, g16, g18, g20, g21, g26, hN, B1, B9, B10, o3, eI_get o2]
        refine pgo_call (has_c _ _ s2) ?_
        simp only [go_sem, reduceIte, reduceCtorEq, Nat.reduceEqDiff, Nat.reduceBEq, Nat.reduceAdd, Nat.reduceMul, Nat.reduceLeDiff, List.getElem?_cons_zero, List.getElem?_cons_succ, bne_self_eq_false, Int.reduceEq, g4, g9, g10, g11, g12, g14, g16, g18, g20, g21, g26, hN, B1, B9, B10, o4, wsucc (show j < 4611686018427387904 by omega), hlt']
        exact hE
      · simp only [go_sem, reduceIte, reduceCtorEq, Nat.reduceEqDiff, Nat.reduceBEq, Nat.reduceAdd, Nat.reduceMul, Nat.reduceLeDiff, List.getElem?_cons_zero, List.getElem?_cons_succ, bne_self_eq_false, Int.reduceEq, g4, g9, g10, g11, g12, g14, g16, g18, g20, g21, g26, hN, B1, B9, B10, gv, q, v1, v2, vin]
        by_cases o1 : (j : Int) < (c.owners.length : Int)
        rotate_left
        · simp only [go_sem, reduceIte, reduceCtorEq, Nat.reduceEqDiff, Nat.reduceBEq, Nat.reduceAdd, Nat.reduceMul, Nat.reduceLeDiff, List.getElem?_cons_zero, List.getElem?_cons_succ, bne_self_eq_false, Int.reduceEq, g4, g9, g10, g11, g12, g14, g16, g18, g20, g21, g26, hN, B1, B9, B10, q, o1, wsucc (show j < 4611686018427387904 by omega), hlt']
          exact hE
        have o2 : j < c.owners.length := by omega
        simp only [go_sem, reduceIte, reduceCtorEq, Nat.reduceEqDiff, Nat.reduceBEq, Nat.reduceAdd, Nat.reduceMul, Nat.reduceLeDiff, List.getElem?_cons_zero, List.getElem?_cons_succ, bne_self_eq_false, Int.reduceEq, g4, g9, g10, g11, g12, g14, g16, g18, g20, g21, g26, hN, B1, B9, B10, q, o1, take_f', eI_get o2]
        refine pgo_call (has_c h.sick _ hv.ok.sk) ?_
        by_cases o3 : c.owners[j] ∈ h.sick
        · simp only [go_sem, reduceIte, reduceCtorEq, Nat.reduceEqDiff, Nat.reduceBEq, Nat.reduceAdd, Nat.reduceMul, Nat.reduceLeDiff, List.getElem?_cons_zero, List.getElem?_cons_succ, bne_self_eq_false, Int.reduceEq, g4, g9, g10, g11, g12, g14, g16, g18, g20, g21, g26, hN, B1, B9, B10, o3, wsucc (show j < 4611686018427387904 by omega), hlt']
          exact hE
        have o4 : c.owners[j] ∈ whoseS x := by
          have hjp : j < x.table.pieces.length := by rw [xt]; omega
          have hjp' : j < h.table.pieces.length := by omega
          obtain ⟨w, h1, h2⟩ := own_woman hv hok hjp'
          have hpg := pad_get hv hok hjp'
          have hg : c.owners.getD j 0 = c.owners[j] := by rw [List.getD_eq_getElem?_getD, List.getElem?_eq_getElem o2]; rfl
          rw [hg] at h1
          rw [h1]
          refine (mem_whoseS x w).2 ⟨w, rfl, by rw [xt]; exact h2, (isWhose_iff xne w).2 ⟨c, hct, (harmedP_iff _ _ _).2 ⟨j, hjp, mis.1 q, by rw [hpg, hg, h1], ?_⟩⟩⟩
          rw [xs, hpg, hg]; exact o3
        simp only [go_sem, reduceIte, reduceCtorEq, Nat.reduceEqDiff, Nat.reduceBEq, Nat.reduceAdd, Nat.reduceMul, Nat.reduceLeDiff, List.getElem?_cons_zero, List.getElem?_cons_succ, bne_self_eq_false, Int.reduceEq, g4, g9, g10, g11, g12, g14, g16, g18, g20, g21, g26, hN, B1, B9, B10, o3, eI_get o2]
        refine pgo_call (has_c _ _ s2) ?_
        simp only [go_sem, reduceIte, reduceCtorEq, Nat.reduceEqDiff, Nat.reduceBEq, Nat.reduceAdd, Nat.reduceMul, Nat.reduceLeDiff, List.getElem?_cons_zero, List.getElem?_cons_succ, bne_self_eq_false, Int.reduceEq, g4, g9, g10, g11, g12, g14, g16, g18, g20, g21, g26, hN, B1, B9, B10, o4, wsucc (show j < 4611686018427387904 by omega), hlt']
        exact hE
    · have v1 : ¬ carryAt x j = 1 := fun h1 => by
        rw [carryAt, verdict_one] at h1
        exact q (mis.2 (h1 c hct))
      simp only [go_sem, reduceIte, reduceCtorEq, Nat.reduceEqDiff, Nat.reduceBEq, Nat.reduceAdd, Nat.reduceMul, Nat.reduceLeDiff, List.getElem?_cons_zero, List.getElem?_cons_succ, bne_self_eq_false, Int.reduceEq, g4, g9, g10, g11, g12, g14, g16, g18, g20, g21, g26, hN, B1, B9, B10, gv, q]
      refine (in_c _ _ _).go ?_
      by_cases v2 : carryAt x j = 2
      · simp only [go_sem, reduceIte, reduceCtorEq, Nat.reduceEqDiff, Nat.reduceBEq, Nat.reduceAdd, Nat.reduceMul, Nat.reduceLeDiff, List.getElem?_cons_zero, List.getElem?_cons_succ, bne_self_eq_false, Int.reduceEq, g4, g9, g10, g11, g12, g14, g16, g18, g20, g21, g26, hN, B1, B9, B10, gv, q, v2, show (1 : Int) ≤ 2 by omega, show (2 : Int) ≤ 3 by omega, show ¬ (2 : Int) = 1 by omega, wsucc (show j < 4611686018427387904 by omega), hlt']
        exact hE
      · simp only [go_sem, reduceIte, reduceCtorEq, Nat.reduceEqDiff, Nat.reduceBEq, Nat.reduceAdd, Nat.reduceMul, Nat.reduceLeDiff, List.getElem?_cons_zero, List.getElem?_cons_succ, bne_self_eq_false, Int.reduceEq, g4, g9, g10, g11, g12, g14, g16, g18, g20, g21, g26, hN, B1, B9, B10, gv, q, v1, v2, vin, wsucc (show j < 4611686018427387904 by omega), hlt']
        exact hE
  simp only [go_sem, reduceIte, reduceCtorEq, Nat.reduceEqDiff, Nat.reduceBEq, Nat.reduceAdd, Nat.reduceMul, Nat.reduceLeDiff, List.getElem?_cons_zero, List.getElem?_cons_succ, bne_self_eq_false, Int.reduceEq, g4, g9, g10, g11, g12, g14, g16, g18, g20, g21, g26, hN, lx, hlt, B1, B9, B10]
  refine pgo_call (thingsR_c h) ?_
  rw [thingsW_ok hv.ok]
  simp only [go_sem, reduceIte, reduceCtorEq, Nat.reduceEqDiff, Nat.reduceBEq, Nat.reduceAdd, Nat.reduceMul, Nat.reduceLeDiff, List.getElem?_cons_zero, List.getElem?_cons_succ, bne_self_eq_false, Int.reduceEq, g4, g9, g10, g11, g12, g14, g16, g18, g20, g21, g26, hN]
  refine pgo_call (risingR_c _ _ (by unfold Sm; omega)) ?_
  rw [rising_inc hnt bdom]
  simp only [go_sem, reduceIte, reduceCtorEq, Nat.reduceEqDiff, Nat.reduceBEq, Nat.reduceAdd, Nat.reduceMul, Nat.reduceLeDiff, List.getElem?_cons_zero, List.getElem?_cons_succ, bne_self_eq_false, Int.reduceEq, g4, g9, g10, g11, g12, g14, g16, g18, g20, g21, g26, hN, B1, B9, B10]
  refine pgo_call (atR_c _ _ (by unfold Sm; omega)) ?_
  simp only [go_sem, reduceIte, reduceCtorEq, Nat.reduceEqDiff, Nat.reduceBEq, Nat.reduceAdd, Nat.reduceMul, Nat.reduceLeDiff, List.getElem?_cons_zero, List.getElem?_cons_succ, bne_self_eq_false, Int.reduceEq]
  refine pgo_call (isSafe_c x xv c ⟨by rw [xt]; exact hcl.1, by rw [xtt]; exact hcl.2⟩ (atOf (boilOf' x (hourK h n)) (hourK h n)) (by simp [atOf]; omega)) ?_
  rw [bsafe]
  simp only [go_sem, reduceIte, reduceCtorEq, Nat.reduceEqDiff, Nat.reduceBEq, Nat.reduceAdd, Nat.reduceMul, Nat.reduceLeDiff, List.getElem?_cons_zero, List.getElem?_cons_succ, bne_self_eq_false, Int.reduceEq, g4, g9, g10, g11, g12, g14, g16, g18, g20, g21, g26, hN, B1, B9, B10]
  refine pgo_call awake_c ?_
  simp only [go_sem, reduceIte, reduceCtorEq, Nat.reduceEqDiff, Nat.reduceBEq, Nat.reduceAdd, Nat.reduceMul, Nat.reduceLeDiff, List.getElem?_cons_zero, List.getElem?_cons_succ, bne_self_eq_false, Int.reduceEq]
  exact fin_ret 8 (by simp [upd_at, hN]) ⟨_, H, Settle.refl hE, by simp [upd_at], rfl⟩
set_option maxHeartbeats 4000000 in
set_option maxRecDepth 100000 in
theorem truth_some (h : House) (n1 : Nat) (hn1 : n1 < 65536) (ws : List Nat) (hw : ∀ n ∈ ws, n < 65536) (n : Nat) (hn : n < 256) (c1 : readyH h = true) (hE : orderE (reS h (sgAll h (foundC h n1) ws)) (hourK h n) = 0) (ha : ((orderL (reS h (sgAll h (foundC h n1) ws)) (hourK h n)).any fun x => safeP (reS h (sgAll h (foundC h n1) ws)) (rowOf x (hourK h n))) = true) : Pure Tryz.prog 16 [eH h, .int .u16 (n1 : Int), .slice (eU ws), .int .u8 (n : Int)] (.bool true) := by
  obtain ⟨hm, hc⟩ := ready_ok c1
  have hv := hv_of hm.tsm hm.sk hc
  have hnt := nT_le hv.ok
  have hpl := hv.ok.pcs
  have htl := hv.ok.touches
  obtain ⟨f1, f2, f3⟩ := hourK_facts hv.ok hn
  obtain ⟨hcm, _⟩ := foundC_mem hv n1
  have hok := (mem_coursesR hv _).1 hcm
  have hcl := courseOK_len hok
  have hct := found_tru hv n1 ws
  obtain ⟨sl, sok⟩ := sgAll_ok hv.ok (foundC h n1) ws
  have xm : HSm (reS h (sgAll h (foundC h n1) ws)) := hm.signs' (by omega)
  have xc : checkHouse (reS h (sgAll h (foundC h n1) ws)) = 0 := check_reS hc sl fun s hs => (sok s hs).1
  have xv := hv_of xm.tsm xm.sk xc
  have xt : (reS h (sgAll h (foundC h n1) ws)).table = h.table := rfl
  have xtt : (reS h (sgAll h (foundC h n1) ws)).touches = h.touches := rfl
  have xs : (reS h (sgAll h (foundC h n1) ws)).sick = h.sick := rfl
  have xn : nT (reS h (sgAll h (foundC h n1) ws)) = nT h := rfl
  have hh : hourOK (reS h (sgAll h (foundC h n1) ws)) (hourK h n) = true := hourK_ok hv.ok n
  have cok : courseOK (reS h (sgAll h (foundC h n1) ws)) (foundC h n1) = true := hok
  have hfc := found_c h hm hc n1 hn1 ws hw
  generalize foundC h n1 = c at *
  generalize reS h (sgAll h c ws) = x at *
  have xne : truH x [] ≠ [] := fun h0 => by rw [h0] at hct; cases hct
  have ax := ask_zero xc xne
  have ax' : askErrH x (hourOK x (hourK h n)) = 0 := by rw [hh]; exact ax
  have ln := leave_of_tru xv xne
  have fn0 := first_none_of xne
  have lx : (carryOf x).length = nT h := by rw [carry_len, xn]
  have p1 : playE x c = 0 := by rw [playE, if_pos xc, cok]; rfl
  have p2 : truthS x c = true := by rw [truthS, decide_eq_true xc, cok, (List.mem_filter.1 hct).2]; rfl
  have s1 : Sm (truesUpto (lastOf x c []) 10).length := by have := truesUpto_len (lastOf x c []) 10; unfold Sm; omega
  have s2 : Sm (whoseS x).length := by have := whoseUpto_len x x.table.women.length; have := xm.women; unfold whoseS Sm; omega
  have bmin := boil_min xc xv.ok hh
  have bdom : Inc (nT h) (boilOf' x (hourK h n)) := by rw [← xn]; exact bmin.dom
  have blen := inc_len bdom
  have bsafe : safeR x (atOf (boilOf' x (hourK h n)) (hourK h n)) c = true := by rw [safe_eq xv cok]; exact (safeP_iff _ _).1 bmin.good c hct
  have hc10 : ¬ (10 : Int) = 0 := by omega
  intro H
  refine fn_of hmix fc16 (by simp) ?_
  rw [ienv4]
  simp only [go_sem, reduceIte, reduceCtorEq, Nat.reduceEqDiff, Nat.reduceBEq, Nat.reduceAdd, Nat.reduceMul, Nat.reduceLeDiff, List.getElem?_cons_zero, List.getElem?_cons_succ, bne_self_eq_false, Int.reduceEq, ac16, eH]
  refine v_box _ rfl fun b1 hb1 => ?_
  have e1 := (Ext.refl H).new hb1 (.box [.slice (h.table.women.map eW), .slice (h.table.pieces.map eP), i6 h.table.wrong, .slice (eI h.sick), i6 h.others, i6 h.last, .slice (h.touches.map eTo), .slice (h.boiled.map eB), .slice (h.signs.map eS)])
  simp only [go_sem, reduceIte, reduceCtorEq, Nat.reduceEqDiff, Nat.reduceBEq, Nat.reduceAdd, Nat.reduceMul, Nat.reduceLeDiff, List.getElem?_cons_zero, List.getElem?_cons_succ, bne_self_eq_false, Int.reduceEq]
  refine (ready_c h).go ?_
  simp only [go_sem, reduceIte, reduceCtorEq, Nat.reduceEqDiff, Nat.reduceBEq, Nat.reduceAdd, Nat.reduceMul, Nat.reduceLeDiff, List.getElem?_cons_zero, List.getElem?_cons_succ, bne_self_eq_false, Int.reduceEq, c1]
  refine hfc.go ?_
  simp only [go_sem, reduceIte, reduceCtorEq, Nat.reduceEqDiff, Nat.reduceBEq, Nat.reduceAdd, Nat.reduceMul, Nat.reduceLeDiff, List.getElem?_cons_zero, List.getElem?_cons_succ, bne_self_eq_false, Int.reduceEq, eC, eH]
  have B1 : updH H b1 (.box [.slice (h.table.women.map eW), .slice (h.table.pieces.map eP), i6 h.table.wrong, .slice (eI h.sick), i6 h.others, i6 h.last, .slice (h.touches.map eTo), .slice (h.boiled.map eB), .slice (h.signs.map eS)]) b1 = some (.box [.slice (h.table.women.map eW), .slice (h.table.pieces.map eP), i6 h.table.wrong, .slice (eI h.sick), i6 h.others, i6 h.last, .slice (h.touches.map eTo), .slice (h.boiled.map eB), .slice (h.signs.map eS)]) := updH_same _ _ _
  generalize updH H b1 (.box [.slice (h.table.women.map eW), .slice (h.table.pieces.map eP), i6 h.table.wrong, .slice (eI h.sick), i6 h.others, i6 h.last, .slice (h.touches.map eTo), .slice (h.boiled.map eB), .slice (h.signs.map eS)]) = H1 at e1 B1 ⊢
  refine v_alloc' fun b9 H2 hn9 B9 st => ?_
  have z9 := e1.isNone hn9
  have n19 := ne_of B1 hn9
  have B1 := st.keep b1 _ n19 B1
  have e2 := st.ext H e1 z9
  simp only [go_sem, reduceIte, reduceCtorEq, Nat.reduceEqDiff, Nat.reduceBEq, Nat.reduceAdd, Nat.reduceMul, Nat.reduceLeDiff, List.getElem?_cons_zero, List.getElem?_cons_succ, bne_self_eq_false, Int.reduceEq, B1]
  refine v_alloc' fun b10 H3 hn10 B10 st => ?_
  have z10 := e2.isNone hn10
  have n110 := ne_of B1 hn10
  have n910 := ne_of B9 hn10
  have B1 := st.keep b1 _ n110 B1
  have B9 := st.keep b9 _ n910 B9
  have e3 := st.ext H e2 z10
  simp only [go_sem, reduceIte, reduceCtorEq, Nat.reduceEqDiff, Nat.reduceBEq, Nat.reduceAdd, Nat.reduceMul, Nat.reduceLeDiff, List.getElem?_cons_zero, List.getElem?_cons_succ, bne_self_eq_false, Int.reduceEq, B1]
  refine v_store' B9 rfl rfl (by simp [AV.cells, AV.isCell]) (by simp) fun H4 B9 st => ?_
  have B1 := st.keep b1 _ n19 B1
  have B10 := st.keep b10 _ n910.symm B10
  have e4 := st.ext H e3 z9
  replace B9 : H4 b9 = some (.box [.slice (x.table.women.map eW), .slice (x.table.pieces.map eP), i6 x.table.wrong, .slice (eI x.sick), i6 x.others, i6 x.last, .slice (x.touches.map eTo), .slice (x.boiled.map eB), .slice (x.signs.map eS)]) := B9
  simp only [go_sem, reduceIte, reduceCtorEq, Nat.reduceEqDiff, Nat.reduceBEq, Nat.reduceAdd, Nat.reduceMul, Nat.reduceLeDiff, List.getElem?_cons_zero, List.getElem?_cons_succ, bne_self_eq_false, Int.reduceEq, B1]
  refine v_store' B10 rfl rfl (by simp [AV.cells, AV.isCell]) (by simp) fun H5 B10 st => ?_
  have B1 := st.keep b1 _ n110 B1
  have B9 := st.keep b9 _ n910 B9
  have e5 := st.ext H e4 z10
  replace B10 : H5 b10 = some (.box [.slice (eI c.owners), .slice (eI c.hours)]) := B10
  have om := order_min ha
  have oln := orderOf_le xv.ok hh ha
  have o1 : isOrd x (orderOf x (hourK h n)) (hourK h n) = true := by
    have h1 := orderN_val xv.ok hh
    rw [isOrd_val xv.ok hh _ (by unfold Sm; omega), (thing_of xv.ok).2 om.dom.2, decide_eq_true (show ((orderOf x (hourK h n)).length : Int) ≤ longestOf x (hourK h n) by have := om.dom.1; omega)]; rfl
  have osafe : safeR x (rowOf (orderOf x (hourK h n)) (hourK h n)) c = true := by rw [safe_eq xv cok]; exact (safeP_iff _ _).1 om.good c hct
  simp only [go_sem, reduceIte, reduceCtorEq, Nat.reduceEqDiff, Nat.reduceBEq, Nat.reduceAdd, Nat.reduceMul, Nat.reduceLeDiff, List.getElem?_cons_zero, List.getElem?_cons_succ, bne_self_eq_false, Int.reduceEq, B1, B9, B10, f1, f2, f3]
  refine (house_c x xm).go ?_
  simp only [go_sem, reduceIte, reduceCtorEq, Nat.reduceEqDiff, Nat.reduceBEq, Nat.reduceAdd, Nat.reduceMul, Nat.reduceLeDiff, List.getElem?_cons_zero, List.getElem?_cons_succ, bne_self_eq_false, Int.reduceEq]
  refine (carry_c x xm.tsm xm.sk).go ?_
  simp only [go_sem, reduceIte, reduceCtorEq, Nat.reduceEqDiff, Nat.reduceBEq, Nat.reduceAdd, Nat.reduceMul, Nat.reduceLeDiff, List.getElem?_cons_zero, List.getElem?_cons_succ, bne_self_eq_false, Int.reduceEq, listR, ax, B1, B9, B10]
  refine (house_c x xm).go ?_
  simp only [go_sem, reduceIte, reduceCtorEq, Nat.reduceEqDiff, Nat.reduceBEq, Nat.reduceAdd, Nat.reduceMul, Nat.reduceLeDiff, List.getElem?_cons_zero, List.getElem?_cons_succ, bne_self_eq_false, Int.reduceEq]
  refine (whoseS_c x xm.tsm xm.sk).go ?_
  simp only [go_sem, reduceIte, reduceCtorEq, Nat.reduceEqDiff, Nat.reduceBEq, Nat.reduceAdd, Nat.reduceMul, Nat.reduceLeDiff, List.getElem?_cons_zero, List.getElem?_cons_succ, bne_self_eq_false, Int.reduceEq, listR, ax, B1, B9, B10]
  refine pgo_call (house_c x xm) ?_
  simp only [go_sem, reduceIte, reduceCtorEq, Nat.reduceEqDiff, Nat.reduceBEq, Nat.reduceAdd, Nat.reduceMul, Nat.reduceLeDiff, List.getElem?_cons_zero, List.getElem?_cons_succ, bne_self_eq_false, Int.reduceEq, B1, B9, B10]
  refine pgo_call (course_c c (by omega) (by omega)) ?_
  simp only [go_sem, reduceIte, reduceCtorEq, Nat.reduceEqDiff, Nat.reduceBEq, Nat.reduceAdd, Nat.reduceMul, Nat.reduceLeDiff, List.getElem?_cons_zero, List.getElem?_cons_succ, bne_self_eq_false, Int.reduceEq]
  refine pgo_call (playS_c x xm.tsm xm.sk c (by unfold Sm; omega) (by unfold Sm; omega)) ?_
  simp only [go_sem, reduceIte, reduceCtorEq, Nat.reduceEqDiff, Nat.reduceBEq, Nat.reduceAdd, Nat.reduceMul, Nat.reduceLeDiff, List.getElem?_cons_zero, List.getElem?_cons_succ, bne_self_eq_false, Int.reduceEq, listR, p1, B1, B9, B10]
  refine (house_c x xm).go ?_
  simp only [go_sem, reduceIte, reduceCtorEq, Nat.reduceEqDiff, Nat.reduceBEq, Nat.reduceAdd, Nat.reduceMul, Nat.reduceLeDiff, List.getElem?_cons_zero, List.getElem?_cons_succ, bne_self_eq_false, Int.reduceEq]
  refine (boil_c x xm.tsm xm.sk (hourK h n)).go ?_
  simp only [go_sem, reduceIte, reduceCtorEq, Nat.reduceEqDiff, Nat.reduceBEq, Nat.reduceAdd, Nat.reduceMul, Nat.reduceLeDiff, List.getElem?_cons_zero, List.getElem?_cons_succ, bne_self_eq_false, Int.reduceEq, listR, ax, hh, B1, B9, B10]
  refine (house_c x xm).go ?_
  simp only [go_sem, reduceIte, reduceCtorEq, Nat.reduceEqDiff, Nat.reduceBEq, Nat.reduceAdd, Nat.reduceMul, Nat.reduceLeDiff, List.getElem?_cons_zero, List.getElem?_cons_succ, bne_self_eq_false, Int.reduceEq]
  refine (order_c x xm.tsm xm.sk (hourK h n)).go ?_
  simp only [go_sem, reduceIte, reduceCtorEq, Nat.reduceEqDiff, Nat.reduceBEq, Nat.reduceAdd, Nat.reduceMul, Nat.reduceLeDiff, List.getElem?_cons_zero, List.getElem?_cons_succ, bne_self_eq_false, Int.reduceEq, listR, hE, hc10, B1, B9, B10]
  refine (house_c x xm).go ?_
  simp only [go_sem, reduceIte, reduceCtorEq, Nat.reduceEqDiff, Nat.reduceBEq, Nat.reduceAdd, Nat.reduceMul, Nat.reduceLeDiff, List.getElem?_cons_zero, List.getElem?_cons_succ, bne_self_eq_false, Int.reduceEq]
  refine (leave_c x xm.tsm xm.sk).go ?_
  simp only [go_sem, reduceIte, reduceCtorEq, Nat.reduceEqDiff, Nat.reduceBEq, Nat.reduceAdd, Nat.reduceMul, Nat.reduceLeDiff, List.getElem?_cons_zero, List.getElem?_cons_succ, bne_self_eq_false, Int.reduceEq, listR, xc, ln, eI, List.map_nil, B1, B9, B10]
  refine (house_c x xm).go ?_
  simp only [go_sem, reduceIte, reduceCtorEq, Nat.reduceEqDiff, Nat.reduceBEq, Nat.reduceAdd, Nat.reduceMul, Nat.reduceLeDiff, List.getElem?_cons_zero, List.getElem?_cons_succ, bne_self_eq_false, Int.reduceEq]
  refine (first_c x xm.tsm xm.sk).go ?_
  simp only [go_sem, reduceIte, reduceCtorEq, Nat.reduceEqDiff, Nat.reduceBEq, Nat.reduceAdd, Nat.reduceMul, Nat.reduceLeDiff, List.getElem?_cons_zero, List.getElem?_cons_succ, bne_self_eq_false, Int.reduceEq, firstR, xc, fn0, B1, B9, B10, List.length_nil, Int.natCast_zero, bne_self_eq_false, show ¬ (7 : Int) = 0 by omega, show ¬ (10 : Int) = 0 by omega]
  refine pgo_call (thingsR_c h) ?_
  rw [thingsW_ok hv.ok]
  simp only [go_sem, reduceIte, reduceCtorEq, Nat.reduceEqDiff, Nat.reduceBEq, Nat.reduceAdd, Nat.reduceMul, Nat.reduceLeDiff, List.getElem?_cons_zero, List.getElem?_cons_succ, bne_self_eq_false, Int.reduceEq, lx, B1, B9, B10, bne_self_eq_false]
  refine pgo_call (house_c x xm) ?_
  simp only [go_sem, reduceIte, reduceCtorEq, Nat.reduceEqDiff, Nat.reduceBEq, Nat.reduceAdd, Nat.reduceMul, Nat.reduceLeDiff, List.getElem?_cons_zero, List.getElem?_cons_succ, bne_self_eq_false, Int.reduceEq, B1, B9, B10]
  refine pgo_call (course_c c (by omega) (by omega)) ?_
  simp only [go_sem, reduceIte, reduceCtorEq, Nat.reduceEqDiff, Nat.reduceBEq, Nat.reduceAdd, Nat.reduceMul, Nat.reduceLeDiff, List.getElem?_cons_zero, List.getElem?_cons_succ, bne_self_eq_false, Int.reduceEq]
  refine pgo_call (proveS_c x xm.tsm xm.sk c (by unfold Sm; omega) (by unfold Sm; omega)) ?_
  rw [p2]
  simp only [go_sem, reduceIte, reduceCtorEq, Nat.reduceEqDiff, Nat.reduceBEq, Nat.reduceAdd, Nat.reduceMul, Nat.reduceLeDiff, List.getElem?_cons_zero, List.getElem?_cons_succ, bne_self_eq_false, Int.reduceEq]
  refine x_for (nT h) (fun j env H1 => Ext H H1 ∧ H1 b1 = some (.box [.slice (h.table.women.map eW), .slice (h.table.pieces.map eP), i6 h.table.wrong, .slice (eI h.sick), i6 h.others, i6 h.last, .slice (h.touches.map eTo), .slice (h.boiled.map eB), .slice (h.signs.map eS)]) ∧ H1 b9 = some (.box [.slice (x.table.women.map eW), .slice (x.table.pieces.map eP), i6 x.table.wrong, .slice (eI x.sick), i6 x.others, i6 x.last, .slice (x.touches.map eTo), .slice (x.boiled.map eB), .slice (x.signs.map eS)]) ∧ H1 b10 = some (.box [.slice (eI c.owners), .slice (eI c.hours)]) ∧ env 4 = .ptr b1 0 ∧ env 9 = .ptr b9 0 ∧ env 10 = .ptr b10 0 ∧ env 11 = i6 (hourK h n) ∧ env 12 = .slice (eI (carryOf x)) ∧ env 14 = .slice (eI (whoseS x)) ∧ env 16 = .slice (eI (truesUpto (lastOf x c []) 10)) ∧ env 18 = .slice (eI (boilOf' x (hourK h n))) ∧ env 20 = .slice (eI (orderOf x (hourK h n))) ∧ env 21 = i6 0 ∧ env 26 = i6 j ∧ env 239 = .any)
    ⟨e5, B1, B9, B10, by simp [upd_at], by simp [upd_at], by simp [upd_at], by simp [upd_at], (by first | (simp only [upd_at, Nat.reduceEqDiff, if_false, if_true]; done) | (simp only [upd_at, Nat.reduceEqDiff, if_false, if_true]; rfl)), (by first | (simp only [upd_at, Nat.reduceEqDiff, if_false, if_true]; done) | (simp only [upd_at, Nat.reduceEqDiff, if_false, if_true]; rfl)), (by first | (simp only [upd_at, Nat.reduceEqDiff, if_false, if_true]; done) | (simp only [upd_at, Nat.reduceEqDiff, if_false, if_true]; rfl)), (by first | (simp only [upd_at, Nat.reduceEqDiff, if_false, if_true]; done) | (simp only [upd_at, Nat.reduceEqDiff, if_false, if_true]; rfl)), (by first | (simp only [upd_at, Nat.reduceEqDiff, if_false, if_true]; done) | (simp only [upd_at, Nat.reduceEqDiff, if_false, if_true]; rfl)), by simp [upd_at], by simp [upd_at], by simp [upd_at]⟩ ?_
  clear e1 e2 e3 e4 e5 B1 B9 B10 st
  rintro j env H1 hj ⟨hE, B1, B9, B10, g4, g9, g10, g11, g12, g14, g16, g18, g20, g21, g26, hN⟩
  by_cases hlt : (j : Int) < (nT h : Int)
  · have hlt' : j < nT h := by omega
    have gv : (eI (carryOf x))[j]? = some [i6 (carryAt x j)] := by rw [eI_get (by omega)]; simp [carryOf]
    have vr := verdict_range (truH x []) (carriesP x j)
    have vin : (1 : Int) ≤ carryAt x j ∧ carryAt x j ≤ 3 := vr
    have mis : (j : Int) ∈ truesUpto (lastOf x c []) 10 ↔ (lastOf x c []).getD j false = true := by rw [mem_trues]; exact ⟨fun h => h.2, fun h => ⟨by omega, h⟩⟩
    simp only [go_sem, reduceIte, reduceCtorEq, Nat.reduceEqDiff, Nat.reduceBEq, Nat.reduceAdd, Nat.reduceMul, Nat.reduceLeDiff, List.getElem?_cons_zero, List.getElem?_cons_succ, bne_self_eq_false, Int.reduceEq, g4, g9, g10, g11, g12, g14, g16, g18, g20, g21, g26, hN, lx, hlt, B1, B9, B10]
    refine (has_c _ _ s1).go ?_
    by_cases q : (j : Int) ∈ truesUpto (lastOf x c []) 10
    · have v2 : ¬ carryAt x j = 2 := fun h2 => by
        rw [carryAt, verdict_two xne] at h2
        have := h2 c hct
        rw [carriesP, mis.1 q] at this; cases this
      simp only [go_sem, reduceIte, reduceCtorEq, Nat.reduceEqDiff, Nat.reduceBEq, Nat.reduceAdd, Nat.reduceMul, Nat.reduceLeDiff, List.getElem?_cons_zero, List.getElem?_cons_succ, bne_self_eq_false, Int.reduceEq, g4, g9, g10, g11, g12, g14, g16, g18, g20, g21, g26, hN, B1, B9, B10, gv, q]
      refine (in_c _ _ _).go ?_
      by_cases v1 : carryAt x j = 1
      · simp only [go_sem, reduceIte, reduceCtorEq, Nat.reduceEqDiff, Nat.reduceBEq, Nat.reduceAdd, Nat.reduceMul, Nat.reduceLeDiff, List.getElem?_cons_zero, List.getElem?_cons_succ, bne_self_eq_false, Int.reduceEq, g4, g9, g10, g11, g12, g14, g16, g18, g20, g21, g26, hN, B1, B9, B10, gv, q, v1, show (1 : Int) ≤ 1 by omega, show (1 : Int) ≤ 3 by omega, show ¬ (1 : Int) = 2 by omega]
        by_cases o1 : (j : Int) < (c.owners.length : Int)
        rotate_left
        · simp only [go_sem, reduceIte, reduceCtorEq, Nat.reduceEqDiff, Nat.reduceBEq, Nat.reduceAdd, Nat.reduceMul, Nat.reduceLeDiff, List.getElem?_cons_zero, List.getElem?_cons_succ, bne_self_eq_false, Int.reduceEq, g4, g9, g10, g11, g12, g14, g16, g18, g20, g21, g26, hN, B1, B9, B10, q, o1, wsucc (show j < 4611686018427387904 by omega), hlt']
          exact hE
        have o2 : j < c.owners.length := by omega
        simp only [go_sem, reduceIte, reduceCtorEq, Nat.reduceEqDiff, Nat.reduceBEq, Nat.reduceAdd, Nat.reduceMul, Nat.reduceLeDiff, List.getElem?_cons_zero, List.getElem?_cons_succ, bne_self_eq_false, Int.reduceEq, g4, g9, g10, g11, g12, g14, g16, g18, g20, g21, g26, hN, B1, B9, B10, q, o1, take_f', eI_get o2]
        refine pgo_call (has_c h.sick _ hv.ok.sk) ?_
        by_cases o3 : c.owners[j] ∈ h.sick
        · simp only [go_sem, reduceIte, reduceCtorEq, Nat.reduceEqDiff, Nat.reduceBEq, Nat.reduceAdd, Nat.reduceMul, Nat.reduceLeDiff, List.getElem?_cons_zero, List.getElem?_cons_succ, bne_self_eq_false, Int.reduceEq, g4, g9, g10, g11, g12, g14, g16, g18, g20, g21, g26, hN, B1, B9, B10, o3, wsucc (show j < 4611686018427387904 by omega), hlt']
          exact hE
        have o4 : c.owners[j] ∈ whoseS x := by
          have hjp : j < x.table.pieces.length := by rw [xt]; omega
          have hjp' : j < h.table.pieces.length := by omega
          obtain ⟨w, h1, h2⟩ := own_woman hv hok hjp'
          have hpg := pad_get hv hok hjp'
          have hg : c.owners.getD j 0 = c.owners[j] := by rw [List.getD_eq_getElem?_getD, List.getElem?_eq_getElem o2]; rfl
          rw [hg] at h1
          rw [h1]
          refine (mem_whoseS x w).2 ⟨w, rfl, by rw [xt]; exact h2, (isWhose_iff xne w).2 ⟨c, hct, (harmedP_iff _ _ _).2 ⟨j, hjp, mis.1 q, by rw [hpg, hg, h1], ?_⟩⟩⟩
          rw [xs, hpg, hg]; exact o3
        simp only [go_sem, reduceIte, reduceCtorEq, Nat.reduceEqDiff, Nat.reduceBEq, Nat.reduceAdd, Nat.reduceMul, Nat.reduceLeDiff, List.getElem?_cons_zero, List.getElem?_cons_succ, bne_self_eq_false, Int.reduceEq, g4, g9, g10, g11, g12, g14, g16, g18, g20, g21, g26, hN, B1, B9, B10, o3, eI_get o2]
        refine pgo_call (has_c _ _ s2) ?_
        simp only [go_sem, reduceIte, reduceCtorEq, Nat.reduceEqDiff, Nat.reduceBEq, Nat.reduceAdd, Nat.reduceMul, Nat.reduceLeDiff, List.getElem?_cons_zero, List.getElem?_cons_succ, bne_self_eq_false, Int.reduceEq, g4, g9, g10, g11, g12, g14, g16, g18, g20, g21, g26, hN, B1, B9, B10, o4, wsucc (show j < 4611686018427387904 by omega), hlt']
        exact hE
      · simp only [go_sem, reduceIte, reduceCtorEq, Nat.reduceEqDiff, Nat.reduceBEq, Nat.reduceAdd, Nat.reduceMul, Nat.reduceLeDiff, List.getElem?_cons_zero, List.getElem?_cons_succ, bne_self_eq_false, Int.reduceEq, g4, g9, g10, g11, g12, g14, g16, g18, g20, g21, g26, hN, B1, B9, B10, gv, q, v1, v2, vin]
        by_cases o1 : (j : Int) < (c.owners.length : Int)
        rotate_left
        · simp only [go_sem, reduceIte, reduceCtorEq, Nat.reduceEqDiff, Nat.reduceBEq, Nat.reduceAdd, Nat.reduceMul, Nat.reduceLeDiff, List.getElem?_cons_zero, List.getElem?_cons_succ, bne_self_eq_false, Int.reduceEq, g4, g9, g10, g11, g12, g14, g16, g18, g20, g21, g26, hN, B1, B9, B10, q, o1, wsucc (show j < 4611686018427387904 by omega), hlt']
          exact hE
        have o2 : j < c.owners.length := by omega
        simp only [go_sem, reduceIte, reduceCtorEq, Nat.reduceEqDiff, Nat.reduceBEq, Nat.reduceAdd, Nat.reduceMul, Nat.reduceLeDiff, List.getElem?_cons_zero, List.getElem?_cons_succ, bne_self_eq_false, Int.reduceEq, g4, g9, g10, g11, g12, g14, g16, g18, g20, g21, g26, hN, B1, B9, B10, q, o1, take_f', eI_get o2]
        refine pgo_call (has_c h.sick _ hv.ok.sk) ?_
        by_cases o3 : c.owners[j] ∈ h.sick
        · simp only [go_sem, reduceIte, reduceCtorEq, Nat.reduceEqDiff, Nat.reduceBEq, Nat.reduceAdd, Nat.reduceMul, Nat.reduceLeDiff, List.getElem?_cons_zero, List.getElem?_cons_succ, bne_self_eq_false, Int.reduceEq, g4, g9, g10, g11, g12, g14, g16, g18, g20, g21, g26, hN, B1, B9, B10, o3, wsucc (show j < 4611686018427387904 by omega), hlt']
          exact hE
        have o4 : c.owners[j] ∈ whoseS x := by
          have hjp : j < x.table.pieces.length := by rw [xt]; omega
          have hjp' : j < h.table.pieces.length := by omega
          obtain ⟨w, h1, h2⟩ := own_woman hv hok hjp'
          have hpg := pad_get hv hok hjp'
          have hg : c.owners.getD j 0 = c.owners[j] := by rw [List.getD_eq_getElem?_getD, List.getElem?_eq_getElem o2]; rfl
          rw [hg] at h1
          rw [h1]
          refine (mem_whoseS x w).2 ⟨w, rfl, by rw [xt]; exact h2, (isWhose_iff xne w).2 ⟨c, hct, (harmedP_iff _ _ _).2 ⟨j, hjp, mis.1 q, by rw [hpg, hg, h1], ?_⟩⟩⟩
          rw [xs, hpg, hg]; exact o3
        simp only [go_sem, reduceIte, reduceCtorEq, Nat.reduceEqDiff, Nat.reduceBEq, Nat.reduceAdd, Nat.reduceMul, Nat.reduceLeDiff, List.getElem?_cons_zero, List.getElem?_cons_succ, bne_self_eq_false, Int.reduceEq, g4, g9, g10, g11, g12, g14, g16, g18, g20, g21, g26, hN, B1, B9, B10, o3, eI_get o2]
        refine pgo_call (has_c _ _ s2) ?_
        simp only [go_sem, reduceIte, reduceCtorEq, Nat.reduceEqDiff, Nat.reduceBEq, Nat.reduceAdd, Nat.reduceMul, Nat.reduceLeDiff, List.getElem?_cons_zero, List.getElem?_cons_succ, bne_self_eq_false, Int.reduceEq, g4, g9, g10, g11, g12, g14, g16, g18, g20, g21, g26, hN, B1, B9, B10, o4, wsucc (show j < 4611686018427387904 by omega), hlt']
        exact hE
    · have v1 : ¬ carryAt x j = 1 := fun h1 => by
        rw [carryAt, verdict_one] at h1
        exact q (mis.2 (h1 c hct))
      simp only [go_sem, reduceIte, reduceCtorEq, Nat.reduceEqDiff, Nat.reduceBEq, Nat.reduceAdd, Nat.reduceMul, Nat.reduceLeDiff, List.getElem?_cons_zero, List.getElem?_cons_succ, bne_self_eq_false, Int.reduceEq, g4, g9, g10, g11, g12, g14, g16, g18, g20, g21, g26, hN, B1, B9, B10, gv, q]
      refine (in_c _ _ _).go ?_
      by_cases v2 : carryAt x j = 2
      · simp only [go_sem, reduceIte, reduceCtorEq, Nat.reduceEqDiff, Nat.reduceBEq, Nat.reduceAdd, Nat.reduceMul, Nat.reduceLeDiff, List.getElem?_cons_zero, List.getElem?_cons_succ, bne_self_eq_false, Int.reduceEq, g4, g9, g10, g11, g12, g14, g16, g18, g20, g21, g26, hN, B1, B9, B10, gv, q, v2, show (1 : Int) ≤ 2 by omega, show (2 : Int) ≤ 3 by omega, show ¬ (2 : Int) = 1 by omega, wsucc (show j < 4611686018427387904 by omega), hlt']
        exact hE
      · simp only [go_sem, reduceIte, reduceCtorEq, Nat.reduceEqDiff, Nat.reduceBEq, Nat.reduceAdd, Nat.reduceMul, Nat.reduceLeDiff, List.getElem?_cons_zero, List.getElem?_cons_succ, bne_self_eq_false, Int.reduceEq, g4, g9, g10, g11, g12, g14, g16, g18, g20, g21, g26, hN, B1, B9, B10, gv, q, v1, v2, vin, wsucc (show j < 4611686018427387904 by omega), hlt']
        exact hE
  simp only [go_sem, reduceIte, reduceCtorEq, Nat.reduceEqDiff, Nat.reduceBEq, Nat.reduceAdd, Nat.reduceMul, Nat.reduceLeDiff, List.getElem?_cons_zero, List.getElem?_cons_succ, bne_self_eq_false, Int.reduceEq, g4, g9, g10, g11, g12, g14, g16, g18, g20, g21, g26, hN, lx, hlt, B1, B9, B10]
  refine pgo_call (thingsR_c h) ?_
  rw [thingsW_ok hv.ok]
  simp only [go_sem, reduceIte, reduceCtorEq, Nat.reduceEqDiff, Nat.reduceBEq, Nat.reduceAdd, Nat.reduceMul, Nat.reduceLeDiff, List.getElem?_cons_zero, List.getElem?_cons_succ, bne_self_eq_false, Int.reduceEq, g4, g9, g10, g11, g12, g14, g16, g18, g20, g21, g26, hN]
  refine pgo_call (risingR_c _ _ (by unfold Sm; omega)) ?_
  rw [rising_inc hnt bdom]
  simp only [go_sem, reduceIte, reduceCtorEq, Nat.reduceEqDiff, Nat.reduceBEq, Nat.reduceAdd, Nat.reduceMul, Nat.reduceLeDiff, List.getElem?_cons_zero, List.getElem?_cons_succ, bne_self_eq_false, Int.reduceEq, g4, g9, g10, g11, g12, g14, g16, g18, g20, g21, g26, hN, B1, B9, B10]
  refine pgo_call (atR_c _ _ (by unfold Sm; omega)) ?_
  simp only [go_sem, reduceIte, reduceCtorEq, Nat.reduceEqDiff, Nat.reduceBEq, Nat.reduceAdd, Nat.reduceMul, Nat.reduceLeDiff, List.getElem?_cons_zero, List.getElem?_cons_succ, bne_self_eq_false, Int.reduceEq]
  refine pgo_call (isSafe_c x xv c ⟨by rw [xt]; exact hcl.1, by rw [xtt]; exact hcl.2⟩ (atOf (boilOf' x (hourK h n)) (hourK h n)) (by simp [atOf]; omega)) ?_
  rw [bsafe]
  simp only [go_sem, reduceIte, reduceCtorEq, Nat.reduceEqDiff, Nat.reduceBEq, Nat.reduceAdd, Nat.reduceMul, Nat.reduceLeDiff, List.getElem?_cons_zero, List.getElem?_cons_succ, bne_self_eq_false, Int.reduceEq, g4, g9, g10, g11, g12, g14, g16, g18, g20, g21, g26, hN, B1, B9, B10]
  refine pgo_call (isOrd_c x _ _ (by unfold Sm; omega)) ?_
  rw [o1]
  simp only [go_sem, reduceIte, reduceCtorEq, Nat.reduceEqDiff, Nat.reduceBEq, Nat.reduceAdd, Nat.reduceMul, Nat.reduceLeDiff, List.getElem?_cons_zero, List.getElem?_cons_succ, bne_self_eq_false, Int.reduceEq, g4, g9, g10, g11, g12, g14, g16, g18, g20, g21, g26, hN, B1, B9, B10]
  refine pgo_call (rowR_c _ _ (by unfold Sm; omega)) ?_
  simp only [go_sem, reduceIte, reduceCtorEq, Nat.reduceEqDiff, Nat.reduceBEq, Nat.reduceAdd, Nat.reduceMul, Nat.reduceLeDiff, List.getElem?_cons_zero, List.getElem?_cons_succ, bne_self_eq_false, Int.reduceEq]
  refine pgo_call (isSafe_c x xv c ⟨by rw [xt]; exact hcl.1, by rw [xtt]; exact hcl.2⟩ (rowOf (orderOf x (hourK h n)) (hourK h n)) (by simp [rowOf]; omega)) ?_
  rw [osafe]
  simp only [go_sem, reduceIte, reduceCtorEq, Nat.reduceEqDiff, Nat.reduceBEq, Nat.reduceAdd, Nat.reduceMul, Nat.reduceLeDiff, List.getElem?_cons_zero, List.getElem?_cons_succ, bne_self_eq_false, Int.reduceEq]
  refine pgo_call awake_c ?_
  simp only [go_sem, reduceIte, reduceCtorEq, Nat.reduceEqDiff, Nat.reduceBEq, Nat.reduceAdd, Nat.reduceMul, Nat.reduceLeDiff, List.getElem?_cons_zero, List.getElem?_cons_succ, bne_self_eq_false, Int.reduceEq]
  exact fin_ret 8 (by simp [upd_at, hN]) ⟨_, H, Settle.refl hE, by simp [upd_at], rfl⟩
theorem truth_law (h : House) (n1 : Nat) (hn1 : n1 < 65536) (ws : List Nat) (hw : ∀ n ∈ ws, n < 65536) (n : Nat) (hn : n < 256) : Pure Tryz.prog 16 [eH h, .int .u16 (n1 : Int), .slice (eU ws), .int .u8 (n : Int)] (.bool true) := by
  cases c1 : readyH h
  · intro H
    refine fn_of hmix fc16 (by simp) ?_
    rw [ienv4]
    simp only [go_sem, reduceIte, reduceCtorEq, Nat.reduceEqDiff, Nat.reduceBEq, Nat.reduceAdd, Nat.reduceMul, Nat.reduceLeDiff, List.getElem?_cons_zero, List.getElem?_cons_succ, bne_self_eq_false, Int.reduceEq, ac16, eH]
    refine v_box _ rfl fun b1 hb1 => ?_
    have e1 := (Ext.refl H).new hb1 (.box [.slice (h.table.women.map eW), .slice (h.table.pieces.map eP), i6 h.table.wrong, .slice (eI h.sick), i6 h.others, i6 h.last, .slice (h.touches.map eTo), .slice (h.boiled.map eB), .slice (h.signs.map eS)])
    simp only [go_sem, reduceIte, reduceCtorEq, Nat.reduceEqDiff, Nat.reduceBEq, Nat.reduceAdd, Nat.reduceMul, Nat.reduceLeDiff, List.getElem?_cons_zero, List.getElem?_cons_succ, bne_self_eq_false, Int.reduceEq]
    refine (ready_c h).go ?_
    simp only [go_sem, reduceIte, reduceCtorEq, Nat.reduceEqDiff, Nat.reduceBEq, Nat.reduceAdd, Nat.reduceMul, Nat.reduceLeDiff, List.getElem?_cons_zero, List.getElem?_cons_succ, bne_self_eq_false, Int.reduceEq, c1]
    refine awake_c.go ?_
    simp only [go_sem, reduceIte, reduceCtorEq, Nat.reduceEqDiff, Nat.reduceBEq, Nat.reduceAdd, Nat.reduceMul, Nat.reduceLeDiff, List.getElem?_cons_zero, List.getElem?_cons_succ, bne_self_eq_false, Int.reduceEq]
    exact fin_ret 8 (by simp [upd_at]) ⟨_, H, Settle.refl e1, by simp [upd_at], rfl⟩
  have ht : askErrH (reS h (sgAll h (foundC h n1) ws)) (hourOK (reS h (sgAll h (foundC h n1) ws)) (hourK h n)) = 0 := by
    obtain ⟨hm, hc⟩ := ready_ok c1
    have hv := hv_of hm.tsm hm.sk hc
    obtain ⟨sl, sok⟩ := sgAll_ok hv.ok (foundC h n1) ws
    have hct := found_tru hv n1 ws
    have : hourOK (reS h (sgAll h (foundC h n1) ws)) (hourK h n) = true := hourK_ok hv.ok n
    rw [this]
    exact ask_zero (check_reS hc sl fun s hs => (sok s hs).1) (fun h0 => by rw [h0] at hct; cases hct)
  rcases orderE_ask ht with ⟨hE, ha⟩ | ⟨hE, _⟩
  · exact truth_some h n1 hn1 ws hw n hn c1 hE ha
  · exact truth_none h n1 hn1 ws hw n hn c1 hE
end Go.Lift

