/- Part 22 of the proof: the tools and contracts. Conditions: none. -/
import Derived.Test.YthnfcdkiaihfcaaGreatP21
import Derived.Test.YthnfcdkiaihfcaaGreatProg
set_option maxRecDepth 100000
set_option linter.unusedVariables false
namespace Go.Lift
open Go Go.Proofs
def cert19 : Nat → Option Cert := fun _ => none
def ac19 : ACode :=(.seq (.ops [uO 1 .box 0, oA 2 .mov [kF]]) (.seq (.ops [uO 3 lT9 1, uO 4 (.call 64) 3, uM 5 4, gO 6 lT9 1 5 true, gO 7 (.call 42) 6 5 true, oG 8 bN [.t 7, (kI 0)] 5 true, gM 9 8 5 true, gO 10 lT9 1 9 false, gO 11 (.call 25) 10 9 false, oG 12 (.bin .leq) [.t 11, (kI 7)] 9 false, oG 13 .pick [.t 9, kT, .t 12] 5 true, oA 14 .pick [.t 5, .t 13, kF], uM 2 14]) .ret))
theorem fc19 : fnC Tryz.prog 19 cert19 = some (15, [.tmp 2], ac19) := by kernel_rfl
end Go.Lift
set_option maxRecDepth 100000
set_option linter.unusedVariables false
namespace Go.Lift
open Go Go.Proofs
def cert20 : Nat → Option Cert := fun _ => none
def ac20 : ACode :=(.seq (.ops [oA 0 .mov [kF]]) (.seq (.ops [oA 18 (.call 74) [(kI 0)], oA 19 (.call 75) [(kI 1), (kI 0)], uB 20 (.call 37) 18 19, uM 17 20, uO 21 x0 17, uO 22 x1 17, uM 1 21, uM 2 22]) (.seq (.ops [oA 24 (.call 74) [(kI 0)], uO 25 (.call 21) 24, uM 23 25, uO 26 x0 23, uO 27 x1 23, uM 3 26, uM 4 27]) (.seq (.ops [oA 29 (.call 74) [(kI 0)], uO 30 (.call 23) 29, uM 28 30, uO 31 x0 28, uO 32 x1 28, uM 5 31, uM 6 32]) (.seq (.ops [oA 34 (.call 74) [(kI 0)], oA 35 (.call 44) [.t 34, (kI 1)], uM 33 35, uO 36 x0 33, uO 37 x1 33, uM 7 36, uM 8 37]) (.seq (.ops [oA 39 (.call 74) [(kI 0)], oA 40 (.call 58) [.t 39, (kI 1)], uM 38 40, uO 41 x0 38, uO 42 x1 38, uM 9 41, uM 10 42]) (.seq (.ops [oA 44 (.call 74) [(kI 1)], oA 45 (.call 44) [.t 44, (kI 1)], uM 43 45, uO 46 x0 43, uO 47 x1 43, uM 11 46, uM 12 47]) (.seq (.ops [oA 49 (.call 74) [(kI 2)], uO 50 (.call 29) 49, uM 48 50, uO 51 x0 48, uO 52 x1 48, uM 13 51, uM 14 52]) (.seq (.ops [oA 54 (.call 74) [(kI 2)], uO 55 (.call 30) 54, uM 53 55, uO 56 x0 53, uO 57 x1 53, uM 15 56, uM 16 57]) (.seq (.ops [uM 58 2, oA 59 bE [.t 58, (kI 0)], uM 60 59, gM 61 1 60 true, oG 62 (.bslice 1) [(kI 3), (kI 4)] 60 true, gB 63 (.call 28) 61 62 60 true, oA 64 .pick [.t 60, .t 63, kF], uM 65 64, gM 66 4 65 true, oG 67 bE [.t 66, (kI 0)] 65 true, oA 68 .pick [.t 65, .t 67, kF], uM 69 68, gM 70 3 69 true, oG 71 (.bslice 1) [(kI 3), (kI 3), (kI 2), (kI 1), (kI 1)] 69 true, gB 72 (.call 28) 70 71 69 true, oA 73 .pick [.t 69, .t 72, kF], uM 74 73, gM 75 6 74 true, oG 76 bE [.t 75, (kI 0)] 74 true, oA 77 .pick [.t 74, .t 76, kF], uM 78 77, gM 79 5 78 true, oG 80 (.bslice 1) [(kI 0), (kI 1)] 78 true, gB 81 (.call 28) 79 80 78 true, oA 82 .pick [.t 78, .t 81, kF], uM 83 82, gM 84 8 83 true, oG 85 bE [.t 84, (kI 0)] 83 true, oA 86 .pick [.t 83, .t 85, kF], uM 87 86, gM 88 7 87 true, oG 89 (.bslice 1) [(kI 0), (kI 3), (kI 4)] 87 true, gB 90 (.call 28) 88 89 87 true, oA 91 .pick [.t 87, .t 90, kF], uM 92 91, gM 93 10 92 true, oG 94 bE [.t 93, (kI 0)] 92 true, oA 95 .pick [.t 92, .t 94, kF], uM 96 95, gM 97 9 96 true, oG 98 (.bslice 1) [(kI 0), (kI 0)] 96 true, gB 99 (.call 28) 97 98 96 true, oA 100 .pick [.t 96, .t 99, kF], uM 101 100, gM 102 12 101 true, oG 103 bE [.t 102, (kI 0)] 101 true, oA 104 .pick [.t 101, .t 103, kF], uM 105 104, gM 106 11 105 true, gO 107 .len 106 105 true, oG 108 bE [.t 107, (kI 0)] 105 true, oA 109 .pick [.t 105, .t 108, kF], uM 110 109, gM 111 14 110 true, oG 112 bE [.t 111, (kI 0)] 110 true, oA 113 .pick [.t 110, .t 112, kF], uM 114 113, gM 115 13 114 true, oG 116 bE [.t 115, (kI 1)] 114 true, oA 117 .pick [.t 114, .t 116, kF], uM 118 117, gM 119 16 118 true, oG 120 bE [.t 119, (kI 0)] 118 true, oA 121 .pick [.t 118, .t 120, kF], uM 122 121, gM 123 15 122 true, oG 124 (.bslice 1) [(kI 0)] 122 true, gB 125 (.call 28) 123 124 122 true, oA 126 .pick [.t 122, .t 125, kF], uM 0 126]) .ret))))))))))
theorem fc20 : fnC Tryz.prog 20 cert20 = some (127, [.tmp 0], ac20) := by kernel_rfl
def cert21 : Nat → Option Cert := fun _ => none
def ac21 : ACode :=(.seq (.ops [uO 1 .box 0, oA 2 .mov [kE], oA 3 .mov [(kI 0)]]) (.seq (.ops [uO 9 lT9 1, oA 10 (.call 76) [.t 9, kT], uM 8 10, uO 11 x0 8, uO 12 x1 8, uM 4 11, uM 5 12]) (.seq (.seq (.ops [uM 13 5, oA 14 bN [.t 13, (kI 0)]]) (.cond (.t 14) (.seq (.ops [uM 15 5, oA 2 .mov [kE], uM 3 15]) .ret) .skip)) (.seq (.ops [oA 6 .mov [kE]]) (.seq (.seq (.ops [uO 16 lT9 1, uO 17 (.call 77) 16, oA 18 .mov [(kI 0)]]) (.block 0 (.loop (.seq (.ops [uB 19 bL 18 17]) (.seq (.cond (.t 19) .skip (.exit 0)) (.seq (.block 1 (.seq (.ops [uM 20 18, uM 7 20]) (.ops [uM 21 6, ⟨(some 22), (.build [.nilf] [(0, 1)]), [(.c (.func (.func 78) [] []))], none⟩, uM 23 4, uM 24 7, oA 25 (.call 79) [.t 22, .t 23, .t 24], uO 26 (.bslice 1) 25, uB 27 (.append 1 8) 21 26, uM 6 27]))) (.ops [oA 28 bA [.t 18, (kI 1)], uM 18 28]))))))) (.seq (.ops [uM 29 6, uM 2 29, oA 3 .mov [(kI 0)]]) .ret))))))
theorem fc21 : fnC Tryz.prog 21 cert21 = some (30, [.tmp 2, .tmp 3], ac21) := by kernel_rfl
def cert22 : Nat → Option Cert := fun
  | 1 => some ⟨[0, 1, 2, 3, 4, 5, 6, 7, 8, 9, 10], (.one 11 (.one 12 .done)), [[], [0], [0, 1], [], [3], [0, 1, 2, 3, 4], [], [6], [], [8], [0, 1, 2, 3, 4, 5, 6, 7, 8, 9], [], [0, 1, 2, 3, 4, 5, 6, 7, 8, 9, 10, 11]]⟩
  | 10 => some ⟨[0, 1, 2, 3, 4, 5, 6, 7, 8, 9, 10, 11, 12, 13, 14, 15], (.one 16 (.one 17 (.one 18 .done))), [[], [0], [], [2], [], [2, 3, 4], [2, 3, 4, 5], [2, 3, 4, 5, 6], [], [8], [], [8, 9, 10], [8, 9, 10, 11], [8, 9, 10, 11, 12], [2, 3, 4, 5, 6, 7, 8, 9, 10, 11, 12, 13], [2, 3, 4, 5, 6, 7, 8, 9, 10, 11, 12, 13, 14], [0, 1, 2, 3, 4, 5, 6, 7, 8, 9, 10, 11, 12, 13, 14, 15], [0, 1, 2, 3, 4, 5, 6, 7, 8, 9, 10, 11, 12, 13, 14, 15, 16], [0, 1, 2, 3, 4, 5, 6, 7, 8, 9, 10, 11, 12, 13, 14, 15, 16, 17]]⟩
  | 14 => some ⟨[0, 1, 2, 3, 4, 5, 6, 7, 8, 9, 10, 11, 12, 13, 14, 15], (.one 16 (.one 17 (.one 18 .done))), [[], [0], [], [2], [], [2, 3, 4], [2, 3, 4, 5], [2, 3, 4, 5, 6], [], [8], [], [8, 9, 10], [8, 9, 10, 11], [8, 9, 10, 11, 12], [2, 3, 4, 5, 6, 7, 8, 9, 10, 11, 12, 13], [2, 3, 4, 5, 6, 7, 8, 9, 10, 11, 12, 13, 14], [0, 1, 2, 3, 4, 5, 6, 7, 8, 9, 10, 11, 12, 13, 14, 15], [0, 1, 2, 3, 4, 5, 6, 7, 8, 9, 10, 11, 12, 13, 14, 15, 16], [0, 1, 2, 3, 4, 5, 6, 7, 8, 9, 10, 11, 12, 13, 14, 15, 16, 17]]⟩
  | _ => none
def ac22 : ACode :=(.seq (.ops [uO 1 .box 0, oA 2 (.alloc z9) []]) (.seq (.draw [(true, uO 8 fA0 1), (true, uO 9 lT3 8), (true, uO 10 (.call 46) 9), (true, uO 11 fA3 1), (true, uO 12 lF 11), (true, uO 13 (.call 39) 12), (true, uO 14 fA4 1), (true, uO 15 lF 14), (true, uO 16 fA5 1), (true, uO 17 lF 16), (true, oA 18 (.build z9 [(0, 3), (3, 1), (4, 1), (5, 1)]) [.t 10, .t 13, .t 15, .t 17])] (.one (oA 3 (.alloc z9) []) [uO 9 lT3 8, uO 12 lF 11, uO 15 lF 14, uO 17 lF 16] (.one (oZ (.store 9) [.t 3, .t 18]) [] .done))) (.seq (.seq (.ops [oA 4 .mov [(kI 0)]]) (.block 0 (.loop (.seq (.seq (.ops [uM 19 4, uO 20 fA6 1, uO 21 lF 20, uO 22 .len 21, uB 23 bL 19 22]) (.cond (.t 23) .skip (.exit 0))) (.seq (.block 1 (.seq (.ops [uO 26 fA6 1, uO 27 lF 26, uM 28 4, uB 29 (.idxaddr 4) 27 28, uO 30 lT4 29, oA 5 (.alloc [(.int .i64 0), (.int .i64 0), (.int .i64 0), (.int .i64 0)]) [], oZ (.store 4) [.t 5, .t 30]]) (.ops [uO 31 fA6 3, uO 32 lF 31, uO 33 fA0 5, uO 34 lF 33, uO 35 fA1 5, uO 36 lF 35, uO 37 fA2 5, uO 38 fA0 37, uO 39 lF 38, uO 40 fA2 5, uO 41 fA1 40, uO 42 lF 41, uB 43 (.build [(.int .i64 0), (.int .i64 0)] [(0, 1), (1, 1)]) 39 42, oA 44 (.build [(.int .i64 0), (.int .i64 0), (.int .i64 0), (.int .i64 0)] [(0, 1), (1, 1), (2, 2)]) [.t 34, .t 36, .t 43], uO 45 (.bslice 4) 44, uB 46 (.append 4 32) 32 45, uO 47 fA6 3, oZ (.store 1) [.t 47, .t 46]]))) (.ops [uM 24 4, oA 25 bA [.t 24, (kI 1)], uM 4 25])))))) (.seq (.seq (.ops [oA 6 .mov [(kI 0)]]) (.block 2 (.loop (.seq (.seq (.ops [uM 48 6, uO 49 fA7 1, uO 50 lF 49, uO 51 .len 50, uB 52 bL 48 51]) (.cond (.t 52) .skip (.exit 2))) (.seq (.block 3 (.draw [(false, uO 55 fA7 3), (false, uO 56 lF 55), (false, uO 57 fA7 1), (false, uO 58 lF 57), (false, uM 59 6), (false, uB 60 (.idxaddr 2) 58 59), (false, uO 61 fA0 60), (false, uO 62 lF 61), (false, uO 63 fA7 1), (false, uO 64 lF 63), (false, uM 65 6), (false, uB 66 (.idxaddr 2) 64 65), (false, uO 67 fA1 66), (false, uO 68 lF 67), (false, uB 69 (.build [(.int .i64 0), (.int .i64 0)] [(0, 1), (1, 1)]) 62 68), (false, uO 70 (.bslice 2) 69)] (.one (uB 71 (.append 2 16) 56 70) [] (.one (uO 72 fA7 3) [] (.one (oZ (.store 1) [.t 72, .t 71]) [] .done))))) (.ops [uM 53 6, oA 54 bA [.t 53, (kI 1)], uM 6 54])))))) (.seq (.seq (.ops [oA 7 .mov [(kI 0)]]) (.block 4 (.loop (.seq (.seq (.ops [uM 73 7, uO 74 fA8 1, uO 75 lF 74, uO 76 .len 75, uB 77 bL 73 76]) (.cond (.t 77) .skip (.exit 4))) (.seq (.block 5 (.draw [(false, uO 80 fA8 3), (false, uO 81 lF 80), (false, uO 82 fA8 1), (false, uO 83 lF 82), (false, uM 84 7), (false, uB 85 (.idxaddr 2) 83 84), (false, uO 86 fA0 85), (false, uO 87 lF 86), (false, uO 88 fA8 1), (false, uO 89 lF 88), (false, uM 90 7), (false, uB 91 (.idxaddr 2) 89 90), (false, uO 92 fA1 91), (false, uO 93 lF 92), (false, uB 94 (.build [(.int .i64 0), (.bool false)] [(0, 1), (1, 1)]) 87 93), (false, uO 95 (.bslice 2) 94)] (.one (uB 96 (.append 2 16) 81 95) [] (.one (uO 97 fA8 3) [] (.one (oZ (.store 1) [.t 97, .t 96]) [] .done))))) (.ops [uM 78 7, oA 79 bA [.t 78, (kI 1)], uM 7 79])))))) (.seq (.ops [uO 98 lT9 3, oZ (.store 9) [.t 2, .t 98]]) .ret))))))
theorem fc22 : fnC Tryz.prog 22 cert22 = some (99, [.cell 2 45], ac22) := by kernel_rfl
def cert23 : Nat → Option Cert := fun _ => none
def ac23 : ACode :=(.seq (.ops [uO 1 .box 0, oA 2 .mov [kE], oA 3 .mov [(kI 0)]]) (.seq (.ops [uO 9 lT9 1, oA 10 (.call 76) [.t 9, kT], uM 8 10, uO 11 x0 8, uO 12 x1 8, uM 4 11, uM 5 12]) (.seq (.seq (.ops [uM 13 5, oA 14 bN [.t 13, (kI 0)]]) (.cond (.t 14) (.seq (.ops [uM 15 5, oA 2 .mov [kE], uM 3 15]) .ret) .skip)) (.seq (.ops [oA 6 .mov [kE]]) (.seq (.seq (.ops [uO 16 fA0 1, uO 17 fA0 16, uO 18 lF 17, uO 19 .len 18, oA 20 .mov [(kI 0)]]) (.block 0 (.loop (.seq (.ops [uB 21 bL 20 19]) (.seq (.cond (.t 21) .skip (.exit 0)) (.seq (.block 1 (.seq (.ops [uM 22 20, uM 7 22]) (.seq (.ops [⟨(some 23), (.build [.nilf] [(0, 1)]), [(.c (.func (.func 80) [] []))], none⟩, uM 24 4, uM 25 7, oA 26 (.call 79) [.t 23, .t 24, .t 25], oA 27 bN [.t 26, (kI 2)]]) (.cond (.t 27) (.ops [uM 28 6, uM 29 7, uO 30 (.bslice 1) 29, uB 31 (.append 1 8) 28 30, uM 6 31]) .skip)))) (.ops [oA 32 bA [.t 20, (kI 1)], uM 20 32]))))))) (.seq (.ops [uM 33 6, uM 2 33, oA 3 .mov [(kI 0)]]) .ret))))))
theorem fc23 : fnC Tryz.prog 23 cert23 = some (34, [.tmp 2, .tmp 3], ac23) := by kernel_rfl
def cert25 : Nat → Option Cert := fun _ => none
def ac25 : ACode :=(.seq (.ops [uO 1 .box 0, oA 2 .mov [(kI 0)]]) (.seq (.ops [uO 3 fA0 1, uO 4 fA1 3, uO 5 lF 4, uO 6 .len 5, uO 7 fA4 1, uO 8 lF 7, uB 9 bA 6 8, uM 2 9]) .ret))
theorem fc25 : fnC Tryz.prog 25 cert25 = some (10, [.tmp 2], ac25) := by kernel_rfl
def cert28 : Nat → Option Cert := fun
  | 6 => some ⟨[0, 1, 2, 3, 4, 5, 6, 7, 8], .done, [[], [], [0, 1], [0, 1, 2], [], [], [4, 5], [4, 5, 6], [0, 1, 2, 3, 4, 5, 6, 7]]⟩
  | _ => none
def ac28 : ACode :=(.seq (.ops [oA 4 .mov [kF]]) (.seq (.seq (.ops [uM 6 0, uO 7 .len 6, uM 8 1, uO 9 .len 8, uB 10 bN 7 9]) (.cond (.t 10) (.seq (.ops [oA 4 .mov [kF]]) .ret) .skip)) (.seq (.seq (.ops [oA 5 .mov [(kI 0)]]) (.block 0 (.loop (.seq (.seq (.ops [uM 11 5, uM 12 0, uO 13 .len 12, uB 14 bL 11 13]) (.cond (.t 14) .skip (.exit 0))) (.seq (.block 1 (.seq (.draw [(false, uM 17 0), (false, uM 18 5), (false, uB 19 (.idxaddr 1) 17 18), (false, uO 20 lF 19), (false, uM 21 1), (false, uM 22 5), (false, uB 23 (.idxaddr 1) 21 22), (false, uO 24 lF 23), (false, uB 25 bN 20 24)] .done) (.cond (.t 25) (.seq (.ops [oA 4 .mov [kF]]) .ret) .skip))) (.ops [uM 15 5, oA 16 bA [.t 15, (kI 1)], uM 5 16])))))) (.seq (.ops [oA 4 .mov [kT]]) .ret))))
theorem fc28 : fnC Tryz.prog 28 cert28 = some (26, [.tmp 4], ac28) := by kernel_rfl
def cert29 : Nat → Option Cert := fun _ => none
def ac29 : ACode :=(.seq (.ops [uO 1 .box 0, oA 2 .mov [(kI 0)], oA 3 .mov [(kI 0)]]) (.seq (.seq (.ops [uO 7 lT9 1, uO 8 (.call 66) 7, uM 4 8]) (.seq (.ops [uM 9 4, oA 10 bN [.t 9, (kI 0)]]) (.cond (.t 10) (.seq (.ops [uM 11 4, oA 2 .mov [(kI 0)], uM 3 11]) .ret) .skip))) (.seq (.ops [uO 12 lT9 1, oA 5 (.alloc z9) [], oZ (.store 9) [.t 5, .t 12]]) (.seq (.seq (.ops [uO 13 fA8 1, uO 14 lF 13, uO 15 .len 14, oA 16 .mov [(kI 0)]]) (.block 0 (.loop (.seq (.ops [uB 17 bL 16 15]) (.seq (.cond (.t 17) .skip (.exit 0)) (.seq (.block 1 (.seq (.ops [uM 18 16, uM 6 18]) (.seq (.ops [uO 19 fA8 1, uO 20 lF 19, uM 21 6, oA 22 bA [.t 21, (kI 1)], uB 23 (.sub 2) 20 22, uO 24 fA8 5, oZ (.store 1) [.t 24, .t 23]]) (.seq (.ops [uO 25 lT9 5, oA 26 (.call 83) [.t 25, kE], uO 27 .not 26]) (.cond (.t 27) (.seq (.ops [uM 28 6, uM 2 28, oA 3 .mov [(kI 0)]]) .ret) .skip))))) (.ops [oA 29 bA [.t 16, (kI 1)], uM 16 29]))))))) (.seq (.ops [oA 2 .mov [(kI 0)], oA 3 .mov [(kI 7)]]) .ret)))))
theorem fc29 : fnC Tryz.prog 29 cert29 = some (30, [.tmp 2, .tmp 3], ac29) := by kernel_rfl
def cert30 : Nat → Option Cert := fun _ => none
def ac30 : ACode :=(.seq (.ops [uO 1 .box 0, oA 2 .mov [kE], oA 3 .mov [(kI 0)]]) (.seq (.seq (.ops [uO 8 lT9 1, uO 9 (.call 66) 8, uM 4 9]) (.seq (.ops [uM 10 4, oA 11 bN [.t 10, (kI 0)]]) (.cond (.t 11) (.seq (.ops [uM 12 4, oA 2 .mov [kE], uM 3 12]) .ret) .skip))) (.seq (.ops [oA 5 (.alloc [.emp]) []]) (.seq (.ops [oA 6 (.alloc [.nilf]) []]) (.seq (.ops [oA 13 (.mkfunc (.func 84) 0) [.t 5, .t 1, .t 6], oZ (.store 1) [.t 6, .t 13]]) (.seq (.seq (.ops [uO 14 fA8 1, uO 15 lF 14, uO 16 .len 15, oA 17 bA [.t 16, (kI 1)], oA 18 .mov [(kI 0)]]) (.block 0 (.loop (.seq (.ops [uB 19 bL 18 17]) (.seq (.cond (.t 19) .skip (.exit 0)) (.seq (.block 1 (.seq (.ops [uM 20 18, uM 7 20]) (.seq (.ops [uO 21 lF 6, uM 22 7, oA 23 .callv [.t 21, kE, (kI 0), .t 22]]) (.cond (.t 23) (.exit 0) .skip)))) (.ops [oA 24 bA [.t 18, (kI 1)], uM 18 24]))))))) (.seq (.ops [uO 25 lF 5, uM 2 25, oA 3 .mov [(kI 0)]]) .ret)))))))
theorem fc30 : fnC Tryz.prog 30 cert30 = some (26, [.tmp 2, .tmp 3], ac30) := by kernel_rfl
def cert31 : Nat → Option Cert := fun _ => none
def ac31 : ACode :=(.seq (.ops [uO 1 .box 0, oA 2 .mov [(kI 0)]]) (.seq (.ops [uO 3 lT9 1, uO 4 (.call 42) 3, uM 2 4]) .ret))
theorem fc31 : fnC Tryz.prog 31 cert31 = some (5, [.tmp 2], ac31) := by kernel_rfl
def cert35 : Nat → Option Cert := fun _ => none
def ac35 : ACode :=(.seq (.ops [uO 1 .box 0, oA 2 .mov [kF]]) (.seq (.ops [uO 3 lT9 1, uO 4 (.call 19) 3, uM 5 4, gO 6 lT9 1 5 true, gO 7 (.call 31) 6 5 true, oG 8 bE [.t 7, (kI 0)] 5 true, oA 9 .pick [.t 5, .t 8, kF], uM 2 9]) .ret))
theorem fc35 : fnC Tryz.prog 35 cert35 = some (10, [.tmp 2], ac35) := by kernel_rfl
def cert37 : Nat → Option Cert := fun
  | 8 => some ⟨[0, 1, 2, 3, 4, 5], .done, [[], [], [], [2], [0, 1, 2, 3], []]⟩
  | _ => none
def ac37 : ACode :=(.seq (.ops [uO 2 .box 0, uO 3 .box 1, oA 4 .mov [kE], oA 5 .mov [(kI 0)]]) (.seq (.seq (.ops [uO 12 lT9 2, uO 13 (.call 66) 12, uM 6 13]) (.seq (.ops [uM 14 6, oA 15 bN [.t 14, (kI 0)]]) (.cond (.t 15) (.seq (.ops [uM 16 6, oA 4 .mov [kE], uM 5 16]) .ret) .skip))) (.seq (.ops [uO 18 lT9 2, uO 19 lT2 3, uB 20 (.call 91) 18 19, uM 17 20, uO 21 x0 17, uO 22 x1 17, oA 7 (.alloc [(.int .i64 0), (.int .i64 0), (.int .i64 0), (.int .i64 0), (.int .i64 0), (.int .i64 0), (.int .i64 0), (.int .i64 0), (.int .i64 0), (.int .i64 0), (.int .i64 0), (.int .i64 0), (.int .i64 0)]) [], oZ (.store 13) [.t 7, .t 21], uM 8 22]) (.seq (.seq (.ops [uM 23 8, uO 24 .not 23]) (.cond (.t 24) (.seq (.ops [oA 4 .mov [kE], oA 5 .mov [(kI 2)]]) .ret) .skip)) (.seq (.ops [oA 9 .mov [kE]]) (.seq (.seq (.draw [(false, uO 25 lT9 2), (false, uO 26 (.load true 13) 7), (false, uO 27 lT9 2), (false, oA 28 (.call 93) [.t 27, kE]), (false, oA 29 (.call 92) [.t 25, .t 26, .t 28]), (false, oA 30 .mov [(kI 0)])] .done) (.block 0 (.loop (.seq (.ops [oA 31 bL [.t 30, (kI 10)]]) (.seq (.cond (.t 31) .skip (.exit 0)) (.seq (.block 1 (.seq (.ops [uM 32 30, uB 33 (.idx 10 false 1) 29 30, uM 10 32, uM 11 33]) (.seq (.ops [uM 34 11]) (.cond (.t 34) (.ops [uM 35 9, uM 36 10, uO 37 (.bslice 1) 36, uB 38 (.append 1 8) 35 37, uM 9 38]) .skip)))) (.ops [oA 39 bA [.t 30, (kI 1)], uM 30 39]))))))) (.seq (.ops [uM 40 9, uM 4 40, oA 5 .mov [(kI 0)]]) .ret)))))))
theorem fc37 : fnC Tryz.prog 37 cert37 = some (41, [.tmp 4, .tmp 5], ac37) := by kernel_rfl
def cert38 : Nat → Option Cert := fun
  | 1 => some ⟨[0, 1, 2, 3, 4, 5, 6], (.one 7 .done), [[], [0], [0, 1], [], [3], [0, 1, 2, 3, 4], [0, 1, 2, 3, 4, 5], [0, 1, 2, 3, 4, 5, 6]]⟩
  | _ => none
def ac38 : ACode :=(.seq (.ops [uO 1 .box 0, oA 2 (.alloc [.emp, .emp]) []]) (.seq (.draw [(false, uO 3 fA0 1), (false, uO 4 lF 3), (false, uO 5 (.call 39) 4), (false, uO 6 fA1 1), (false, uO 7 lF 6), (false, uO 8 (.call 39) 7), (false, uB 9 (.build [.emp, .emp] [(0, 1), (1, 1)]) 5 8)] (.one (oZ (.store 2) [.t 2, .t 9]) [] .done)) .ret))
theorem fc38 : fnC Tryz.prog 38 cert38 = some (10, [.cell 2 71], ac38) := by kernel_rfl
def cert39 : Nat → Option Cert := fun _ => none
def ac39 : ACode :=(.seq (.ops [oA 2 .mov [kE]]) (.seq (.ops [oA 3 (.bslice 1) [], uM 4 0, uB 5 (.append 1 8) 3 4, uM 2 5]) .ret))
theorem fc39 : fnC Tryz.prog 39 cert39 = some (6, [.tmp 2], ac39) := by kernel_rfl
def cert40 : Nat → Option Cert := fun _ => none
def ac40 : ACode :=(.seq (.ops [oA 4 .mov [kF]]) (.seq (.seq (.ops [oA 5 .mov [(kI 0)]]) (.block 0 (.loop (.seq (.seq (.ops [uM 6 5, uM 7 0, uO 8 .len 7, uB 9 bL 6 8]) (.cond (.t 9) .skip (.exit 0))) (.seq (.block 1 (.seq (.ops [uM 12 0, uM 13 5, uB 14 (.idxaddr 1) 12 13, uO 15 lF 14, uM 16 1, uB 17 bE 15 16]) (.cond (.t 17) (.seq (.ops [oA 4 .mov [kT]]) .ret) .skip))) (.ops [uM 10 5, oA 11 bA [.t 10, (kI 1)], uM 5 11])))))) (.seq (.ops [oA 4 .mov [kF]]) .ret)))
theorem fc40 : fnC Tryz.prog 40 cert40 = some (18, [.tmp 4], ac40) := by kernel_rfl
def cert42 : Nat → Option Cert := fun
  | 19 => some ⟨[0, 1, 2, 3, 4, 5, 6, 7, 8, 9, 10, 11, 12, 13, 14, 15, 16, 17, 18, 19], .done, [[], [], [1], [], [1, 2, 3], [1, 2, 3, 4], [1, 2, 3, 4, 5], [0, 1, 2, 3, 4, 5, 6], [0, 1, 2, 3, 4, 5, 6, 7], [0, 1, 2, 3, 4, 5, 6, 7, 8], [0, 1, 2, 3, 4, 5, 6, 7, 8, 9], [0, 1, 2, 3, 4, 5, 6, 7, 8, 9], [0, 1, 2, 3, 4, 5, 6, 7, 8, 9, 11], [0, 1, 2, 3, 4, 5, 6, 7, 8, 9], [0, 1, 2, 3, 4, 5, 6, 7, 8, 9, 11, 12, 13], [0, 1, 2, 3, 4, 5, 6, 7, 8, 9, 11, 12, 13, 14], [0, 1, 2, 3, 4, 5, 6, 7, 8, 9, 11, 12, 13, 14, 15], [0, 1, 2, 3, 4, 5, 6, 7, 8, 9, 10, 11, 12, 13, 14, 15, 16], [0, 1, 2, 3, 4, 5, 6, 7, 8, 9, 10, 11, 12, 13, 14, 15, 16, 17], [0, 1, 2, 3, 4, 5, 6, 7, 8, 9, 10, 11, 12, 13, 14, 15, 16, 17, 18]]⟩
  | 24 => some ⟨[0, 1, 2, 3, 4, 5, 6, 7, 8], .done, [[], [], [1], [], [1, 2, 3], [1, 2, 3, 4], [1, 2, 3, 4, 5], [0, 1, 2, 3, 4, 5, 6], [0, 1, 2, 3, 4, 5, 6, 7]]⟩
  | 26 => some ⟨[0, 1, 2, 3, 4, 5, 6, 7], .done, [[], [0], [0, 1], [], [0, 1, 2, 3], [0, 1, 2, 3, 4], [0, 1, 2, 3, 4, 5], [0, 1, 2, 3, 4, 5, 6]]⟩
  | _ => none
def ac42 : ACode :=(.seq (.ops [uO 1 .box 0, oA 2 .mov [(kI 0)]]) (.seq (.seq (.ops [uO 8 fA5 1, uO 9 lF 8, oA 10 (.bin .gtr) [.t 9, (kI 5)], uM 11 10, gO 12 fA4 1 11 false, gO 13 lF 12 11 false, oG 14 (.bin .gtr) [.t 13, (kI 10)] 11 false, oA 15 .pick [.t 11, kT, .t 14], uM 16 15, gO 17 fA6 1 16 false, gO 18 lF 17 16 false, gO 19 .len 18 16 false, oG 20 (.bin .gtr) [.t 19, (kI 6)] 16 false, oA 21 .pick [.t 16, kT, .t 20], uM 22 21, gO 23 fA7 1 22 false, gO 24 lF 23 22 false, gO 25 .len 24 22 false, oG 26 (.bin .gtr) [.t 25, (kI 4)] 22 false, oA 27 .pick [.t 22, kT, .t 26], uM 28 27, gO 29 fA8 1 28 false, gO 30 lF 29 28 false, gO 31 .len 30 28 false, oG 32 (.bin .gtr) [.t 31, (kI 5)] 28 false, oA 33 .pick [.t 28, kT, .t 32]]) (.cond (.t 33) (.seq (.ops [oA 2 .mov [(kI 3)]]) .ret) .skip)) (.seq (.seq (.ops [uO 34 fA0 1, uO 35 lT3 34, uO 36 (.call 95) 35, uM 3 36]) (.seq (.ops [uM 37 3, oA 38 bN [.t 37, (kI 0)]]) (.cond (.t 38) (.seq (.ops [uM 39 3, uM 2 39]) .ret) .skip))) (.seq (.seq (.ops [uO 40 fA0 1, uO 41 lT3 40, uO 42 (.call 88) 41, uO 43 .len 42, oA 44 bE [.t 43, (kI 0)]]) (.cond (.t 44) (.seq (.ops [oA 2 .mov [(kI 11)]]) .ret) .skip)) (.seq (.seq (.ops [uO 45 fA5 1, uO 46 lF 45, oA 47 bL [.t 46, (kI 0)], uM 48 47, gO 49 fA4 1 48 false, gO 50 lF 49 48 false, oG 51 bL [.t 50, (kI 0)] 48 false, oA 52 .pick [.t 48, kT, .t 51], uM 53 52, gO 54 lT9 1 53 false, gO 55 (.call 25) 54 53 false, oG 56 (.bin .gtr) [.t 55, (kI 10)] 53 false, oA 57 .pick [.t 53, kT, .t 56], uM 58 57, gO 59 fA3 1 58 false, gO 60 lF 59 58 false, gO 61 fA0 1 58 false, gO 62 fA0 61 58 false, gO 63 lF 62 58 false, gO 64 .len 63 58 false, gB 65 (.call 54) 60 64 58 false, gO 66 .not 65 58 false, oA 67 .pick [.t 58, kT, .t 66]]) (.cond (.t 67) (.seq (.ops [oA 2 .mov [(kI 1)]]) .ret) .skip)) (.seq (.seq (.ops [oA 4 .mov [(kI 0)]]) (.block 0 (.loop (.seq (.seq (.ops [uM 68 4, uO 69 fA6 1, uO 70 lF 69, uO 71 .len 70, uB 72 bL 68 71]) (.cond (.t 72) .skip (.exit 0))) (.seq (.block 1 (.seq (.ops [uO 75 fA6 1, uO 76 lF 75, uM 77 4, uB 78 (.idxaddr 4) 76 77, uO 79 lT4 78, oA 5 (.alloc [(.int .i64 0), (.int .i64 0), (.int .i64 0), (.int .i64 0)]) [], oZ (.store 4) [.t 5, .t 79]]) (.seq (.ops [uO 80 lT9 1, uO 81 fA0 5, uO 82 lF 81, uB 83 (.call 96) 80 82, uO 84 .not 83, uM 85 84, gO 86 lT9 1 85 false, gO 87 fA1 5 85 false, gO 88 lF 87 85 false, gB 89 (.call 96) 86 88 85 false, gO 90 .not 89 85 false, oA 91 .pick [.t 85, kT, .t 90], uM 92 91, gO 93 fA0 5 92 false, gO 94 lF 93 92 false, gO 95 fA1 5 92 false, gO 96 lF 95 92 false, gB 97 bE 94 96 92 false, oA 98 .pick [.t 92, kT, .t 97], uM 99 98, gO 100 lT9 1 99 false, gO 101 fA2 5 99 false, gO 102 fA0 101 99 false, gO 103 lF 102 99 false, gB 104 (.call 97) 100 103 99 false, gO 105 .not 104 99 false, oA 106 .pick [.t 99, kT, .t 105], uM 107 106, gO 108 lT9 1 107 false, gO 109 fA2 5 107 false, gO 110 fA1 109 107 false, gO 111 lF 110 107 false, gB 112 (.call 97) 108 111 107 false, gO 113 .not 112 107 false, oA 114 .pick [.t 107, kT, .t 113], uM 115 114, gO 116 fA2 5 115 false, gO 117 fA0 116 115 false, gO 118 lF 117 115 false, gO 119 fA2 5 115 false, gO 120 fA1 119 115 false, gO 121 lF 120 115 false, gB 122 (.bin .gtr) 118 121 115 false, oA 123 .pick [.t 115, kT, .t 122]]) (.cond (.t 123) (.seq (.ops [oA 2 .mov [(kI 1)]]) .ret) .skip)))) (.ops [uM 73 4, oA 74 bA [.t 73, (kI 1)], uM 4 74])))))) (.seq (.seq (.ops [oA 6 .mov [(kI 0)]]) (.block 2 (.loop (.seq (.seq (.ops [uM 124 6, uO 125 fA7 1, uO 126 lF 125, uO 127 .len 126, uB 128 bL 124 127]) (.cond (.t 128) .skip (.exit 2))) (.seq (.block 3 (.seq (.draw [(false, uO 131 lT9 1), (false, uO 132 fA7 1), (false, uO 133 lF 132), (false, uM 134 6), (false, uB 135 (.idxaddr 2) 133 134), (false, uO 136 fA0 135), (false, uO 137 lF 136), (false, uB 138 (.call 96) 131 137), (false, uO 139 .not 138), (false, uM 140 139), (false, gO 141 lT9 1 140 false), (false, gO 142 fA7 1 140 false), (false, gO 143 lF 142 140 false), (false, gM 144 6 140 false), (false, gB 145 (.idxaddr 2) 143 144 140 false), (false, gO 146 fA1 145 140 false), (false, gO 147 lF 146 140 false), (false, gB 148 (.call 97) 141 147 140 false), (false, gO 149 .not 148 140 false), (false, oA 150 .pick [.t 140, kT, .t 149])] .done) (.cond (.t 150) (.seq (.ops [oA 2 .mov [(kI 1)]]) .ret) .skip))) (.ops [uM 129 6, oA 130 bA [.t 129, (kI 1)], uM 6 130])))))) (.seq (.seq (.ops [oA 7 .mov [(kI 0)]]) (.block 4 (.loop (.seq (.seq (.ops [uM 151 7, uO 152 fA8 1, uO 153 lF 152, uO 154 .len 153, uB 155 bL 151 154]) (.cond (.t 155) .skip (.exit 4))) (.seq (.block 5 (.seq (.draw [(false, uO 158 lT9 1), (false, uO 159 fA8 1), (false, uO 160 lF 159), (false, uM 161 7), (false, uB 162 (.idxaddr 2) 160 161), (false, uO 163 fA0 162), (false, uO 164 lF 163), (false, uB 165 (.call 96) 158 164), (false, uO 166 .not 165)] .done) (.cond (.t 166) (.seq (.ops [oA 2 .mov [(kI 1)]]) .ret) .skip))) (.ops [uM 156 7, oA 157 bA [.t 156, (kI 1)], uM 7 157])))))) (.seq (.seq (.draw [(false, uO 167 fA0 1), (false, uO 168 lT3 167), (false, uO 169 (.call 98) 168), (false, uO 170 lT9 1), (false, uO 171 (.call 89) 170), (false, uB 172 (.bin .mul) 169 171), (false, oA 173 .min [(kI 3000), .t 172]), (false, oA 174 (.bin .gtr) [.t 173, (kI 2000)])] .done) (.cond (.t 174) (.seq (.ops [oA 2 .mov [(kI 3)]]) .ret) .skip)) (.seq (.ops [oA 2 .mov [(kI 0)]]) .ret))))))))))
theorem fc42 : fnC Tryz.prog 42 cert42 = some (175, [.tmp 2], ac42) := by kernel_rfl
def cert44 : Nat → Option Cert := fun
  | 1 => some ⟨[0, 1, 2, 3, 4, 5, 6, 7], (.one 8 (.one 9 (.one 10 .done))), [[], [], [], [1, 2], [0, 1, 2, 3], [0, 1, 2, 3, 4], [0, 1, 2, 3, 4, 5], [0, 1, 2, 3, 4, 5], [], [0, 1, 2, 3, 4, 5, 6, 8], [0, 1, 2, 3, 4, 5, 6, 7, 8, 9]]⟩
  | _ => none
def ac44 : ACode :=(.seq (.ops [uO 2 .box 0, uO 3 .box 1, oA 4 .mov [kE], oA 5 .mov [(kI 0)]]) (.seq (.draw [(true, uO 12 lT9 2), (true, uO 13 lT9 2), (true, uO 14 lF 3), (true, uB 15 (.call 99) 13 14), (true, uB 16 (.call 76) 12 15), (true, uM 11 16), (true, uO 17 x0 11), (true, uO 18 x1 11)] (.one (oA 6 (.alloc [.nilp]) []) [uO 12 lT9 2, uO 13 lT9 2, uO 14 lF 3] (.one (oZ (.store 1) [.t 6, .t 17]) [] (.one (uM 7 18) [] .done)))) (.seq (.seq (.ops [uM 19 7, oA 20 bN [.t 19, (kI 0)]]) (.cond (.t 20) (.seq (.ops [uM 21 7, oA 4 .mov [kE], uM 5 21]) .ret) .skip)) (.seq (.ops [oA 8 (.alloc [.emp]) []]) (.seq (.ops [oA 9 (.alloc [.nilf]) []]) (.seq (.ops [oA 22 (.mkfunc (.func 100) 0) [.t 8, .t 6, .t 3, .t 2, .t 9], oZ (.store 1) [.t 9, .t 22]]) (.seq .label (.seq (.seq (.ops [uO 23 lT9 2, uO 24 (.call 77) 23, oA 25 bA [.t 24, (kI 1)], oA 26 .mov [(kI 0)]]) (.block 0 (.loop (.seq (.ops [uB 27 bL 26 25]) (.seq (.cond (.t 27) .skip (.exit 0)) (.seq (.block 1 (.seq (.ops [uM 28 26, uM 10 28]) (.seq (.ops [uO 29 lF 9, uM 30 10, oA 31 .callv [.t 29, kE, (kI 0), .t 30]]) (.cond (.t 31) (.exit 0) .skip)))) (.ops [oA 32 bA [.t 26, (kI 1)], uM 26 32]))))))) (.seq (.ops [uO 33 lF 8, uM 4 33, oA 5 .mov [(kI 0)]]) .ret)))))))))
theorem fc44 : fnC Tryz.prog 44 cert44 = some (34, [.tmp 4, .tmp 5], ac44) := by kernel_rfl
def cert45 : Nat → Option Cert := fun _ => none
def ac45 : ACode :=(.seq (.ops [uO 1 .box 0, oA 2 .mov [kE], oA 3 .mov [(kI 0)]]) (.seq (.ops [uO 10 lT3 1, uO 11 (.call 103) 10, uM 9 11, uO 12 x0 9, uO 13 x1 9, uM 4 12, uM 5 13]) (.seq (.seq (.ops [uM 14 5, oA 15 bN [.t 14, (kI 0)]]) (.cond (.t 15) (.seq (.ops [uM 16 5, oA 2 .mov [kE], uM 3 16]) .ret) .skip)) (.seq (.ops [uO 17 fA1 1, uO 18 lF 17, uO 19 .len 18, uO 20 (.mkslice 1 24 [.emp]) 19, uM 6 20]) (.seq (.seq (.ops [uM 21 6, uO 22 .len 21, oA 23 .mov [(kI 0)]]) (.block 0 (.loop (.seq (.ops [uB 24 bL 23 22]) (.seq (.cond (.t 24) .skip (.exit 0)) (.seq (.block 1 (.seq (.ops [uM 25 23, uM 7 25]) (.seq (.ops [uO 26 fA0 1, uO 27 lF 26, uO 28 .len 27, oA 29 .mov [(kI 0)]]) (.block 2 (.loop (.seq (.ops [uB 30 bL 29 28]) (.seq (.cond (.t 30) .skip (.exit 2)) (.seq (.block 3 (.seq (.ops [uM 31 29, uM 8 31]) (.seq (.ops [uM 32 4, uO 33 .nilchk 32, uO 34 fA4 33, uO 35 lF 34, uM 36 7, uM 37 8, uB 38 (.build [(.int .i64 0), (.int .i64 0)] [(0, 1), (1, 1)]) 36 37, uB 39 (.lookup (.int .i64 0)) 35 38, oA 40 (.bin .gtr) [.t 39, (kI 0)]]) (.cond (.t 40) (.ops [uM 41 6, uM 42 7, uM 43 6, uM 44 7, uB 45 (.idxaddr 1) 43 44, uO 46 lF 45, uM 47 8, uO 48 (.bslice 1) 47, uB 49 (.append 1 8) 46 48, uB 50 (.idxaddr 1) 41 42, oZ (.store 1) [.t 50, .t 49]]) .skip)))) (.ops [oA 51 bA [.t 29, (kI 1)], uM 29 51]))))))))) (.ops [oA 52 bA [.t 23, (kI 1)], uM 23 52]))))))) (.seq (.ops [uM 53 6, uM 2 53, oA 3 .mov [(kI 0)]]) .ret))))))
theorem fc45 : fnC Tryz.prog 45 cert45 = some (54, [.tmp 2, .tmp 3], ac45) := by kernel_rfl
def cert46 : Nat → Option Cert := fun
  | 10 => some ⟨[0, 1, 2, 3, 4, 5, 6, 7, 8, 9, 10, 11, 12, 13, 14, 15, 16], (.one 17 (.one 18 (.one 19 .done))), [[], [0], [], [2], [], [2, 3, 4], [2, 3, 4, 5], [2, 3, 4, 5, 6], [2, 3, 4, 5, 6, 7], [], [9], [], [9, 10, 11], [9, 10, 11, 12], [9, 10, 11, 12, 13], [2, 3, 4, 5, 6, 7, 8, 9, 10, 11, 12, 13, 14], [2, 3, 4, 5, 6, 7, 8, 9, 10, 11, 12, 13, 14, 15], [0, 1, 2, 3, 4, 5, 6, 7, 8, 9, 10, 11, 12, 13, 14, 15, 16], [0, 1, 2, 3, 4, 5, 6, 7, 8, 9, 10, 11, 12, 13, 14, 15, 16, 17], [0, 1, 2, 3, 4, 5, 6, 7, 8, 9, 10, 11, 12, 13, 14, 15, 16, 17, 18]]⟩
  | _ => none
def ac46 : ACode :=(.seq (.ops [uO 1 .box 0, oA 2 (.alloc [.emp, .emp, (.int .i64 0)]) []]) (.seq (.ops [uO 7 fA2 1, uO 8 lF 7, uO 9 (.build [.emp, .emp, (.int .i64 0)] [(2, 1)]) 8, oA 3 (.alloc [.emp, .emp, (.int .i64 0)]) [], oZ (.store 3) [.t 3, .t 9]]) (.seq (.seq (.ops [oA 4 .mov [(kI 0)]]) (.block 0 (.loop (.seq (.seq (.ops [uM 10 4, uO 11 fA0 1, uO 12 lF 11, uO 13 .len 12, uB 14 bL 10 13]) (.cond (.t 14) .skip (.exit 0))) (.seq (.block 1 (.seq (.ops [uO 17 fA0 1, uO 18 lF 17, uM 19 4, uB 20 (.idxaddr 3) 18 19, uO 21 lT3 20, oA 5 (.alloc [(.int .i64 0), (.int .i64 0), (.int .i64 0)]) [], oZ (.store 3) [.t 5, .t 21]]) (.ops [uO 22 fA0 3, uO 23 lF 22, uO 24 fA0 5, uO 25 lF 24, uO 26 fA1 5, uO 27 fA0 26, uO 28 lF 27, uO 29 fA1 5, uO 30 fA1 29, uO 31 lF 30, uB 32 (.build [(.int .i64 0), (.int .i64 0)] [(0, 1), (1, 1)]) 28 31, uB 33 (.build [(.int .i64 0), (.int .i64 0), (.int .i64 0)] [(0, 1), (1, 2)]) 25 32, uO 34 (.bslice 3) 33, uB 35 (.append 3 24) 23 34, uO 36 fA0 3, oZ (.store 1) [.t 36, .t 35]]))) (.ops [uM 15 4, oA 16 bA [.t 15, (kI 1)], uM 4 16])))))) (.seq (.seq (.ops [oA 6 .mov [(kI 0)]]) (.block 2 (.loop (.seq (.seq (.ops [uM 37 6, uO 38 fA1 1, uO 39 lF 38, uO 40 .len 39, uB 41 bL 37 40]) (.cond (.t 41) .skip (.exit 2))) (.seq (.block 3 (.draw [(false, uO 44 fA1 3), (false, uO 45 lF 44), (false, uO 46 fA1 1), (false, uO 47 lF 46), (false, uM 48 6), (false, uB 49 (.idxaddr 2) 47 48), (false, uO 50 fA0 49), (false, uO 51 lF 50), (false, uO 52 (.call 104) 51), (false, uO 53 fA1 1), (false, uO 54 lF 53), (false, uM 55 6), (false, uB 56 (.idxaddr 2) 54 55), (false, uO 57 fA1 56), (false, uO 58 lF 57), (false, uB 59 (.build [.emp, (.int .i64 0)] [(0, 1), (1, 1)]) 52 58), (false, uO 60 (.bslice 2) 59)] (.one (uB 61 (.append 2 32) 45 60) [] (.one (uO 62 fA1 3) [] (.one (oZ (.store 1) [.t 62, .t 61]) [] .done))))) (.ops [uM 42 6, oA 43 bA [.t 42, (kI 1)], uM 6 43])))))) (.seq (.ops [uO 63 lT3 3, oZ (.store 3) [.t 2, .t 63]]) .ret)))))
theorem fc46 : fnC Tryz.prog 46 cert46 = some (64, [.cell 2 40], ac46) := by kernel_rfl
def cert47 : Nat → Option Cert := fun _ => none
def ac47 : ACode :=(.seq (.ops [oA 6 .mov [kF]]) (.seq (.ops [uM 7 0, uM 8 1, uB 9 (.bin .geq) 7 8, uM 10 9, gM 11 0 10 true, gM 12 2 10 true, gB 13 (.bin .leq) 11 12 10 true, oA 14 .pick [.t 10, .t 13, kF], uM 6 14]) .ret))
theorem fc47 : fnC Tryz.prog 47 cert47 = some (15, [.tmp 6], ac47) := by kernel_rfl
def cert51 : Nat → Option Cert := fun _ => none
def ac51 : ACode :=(.seq (.ops [oA 2 .mov [kE]]) (.seq (.ops [oA 3 .mov [kE]]) (.seq (.seq (.ops [oA 4 .mov [(kI 0)]]) (.block 0 (.loop (.seq (.seq (.ops [uM 5 0, uM 6 4, uO 7 (.conv .u64) 6, uB 8 (.bin .shr) 5 7, oA 9 (.bin .gtr) [.t 8, (kI 0)]]) (.cond (.t 9) .skip (.exit 0))) (.seq (.block 1 (.seq (.ops [uM 12 0, uM 13 4, uO 14 (.conv .u64) 13, uB 15 (.bin .shr) 12 14, oA 16 (.bin .rem) [.t 15, (kI 2)], oA 17 bE [.t 16, (kI 1)]]) (.cond (.t 17) (.ops [uM 18 3, uM 19 4, uO 20 (.bslice 1) 19, uB 21 (.append 1 8) 18 20, uM 3 21]) .skip))) (.ops [uM 10 4, oA 11 bA [.t 10, (kI 1)], uM 4 11])))))) (.seq (.ops [uM 22 3, uM 2 22]) .ret))))
theorem fc51 : fnC Tryz.prog 51 cert51 = some (23, [.tmp 2], ac51) := by kernel_rfl
def cert52 : Nat → Option Cert := fun
  | 1 => some ⟨[0, 1, 2, 3, 4, 5, 6, 7, 8, 9, 10, 11, 12, 13, 14, 15], .done, [[], [], [], [1, 2], [1, 2, 3], [1, 2, 3, 4], [1, 2, 3, 4], [1, 2, 3, 4, 6], [1, 2, 3, 4, 5, 6, 7], [1, 2, 3, 4, 5, 6, 7, 8], [0, 1, 2, 3, 4, 5, 6, 7, 8, 9], [0, 1, 2, 3, 4, 5, 6, 7, 8, 9, 10], [0, 1, 2, 3, 4, 5, 6, 7, 8, 9, 10, 11], [0, 1, 2, 3, 4, 5, 6, 7, 8, 9, 10, 11], [0, 1, 2, 3, 4, 5, 6, 7, 8, 9, 10, 11, 12], [0, 1, 2, 3, 4, 5, 6, 7, 8, 9, 10, 11, 12, 13, 14]]⟩
  | _ => none
def ac52 : ACode :=(.seq (.ops [uO 4 .box 0, oA 8 .mov [kF]]) (.seq (.draw [(false, uO 12 lT9 4), (false, uO 13 lT9 4), (false, uM 14 1), (false, uB 15 (.call 99) 13 14), (false, uM 16 15), (false, gM 17 2 16 true), (false, gO 18 lT9 4 16 true), (false, gO 19 (.call 77) 18 16 true), (false, gB 20 (.call 106) 17 19 16 true), (false, oA 21 .pick [.t 16, .t 20, kF]), (false, uB 22 (.call 76) 12 21), (false, uM 11 22), (false, uO 23 x0 11), (false, uO 24 x1 11), (false, uM 9 23), (false, uM 10 24)] .done) (.seq (.ops [uM 25 10, oA 26 bE [.t 25, (kI 0)], uM 27 26, gM 28 2 27 true, gO 29 .len 28 27 true, gM 30 3 27 true, gB 31 (.bin .leq) 29 30 27 true, oA 32 .pick [.t 27, .t 31, kF], uM 33 32, gM 34 9 33 true, gM 35 2 33 true, gM 36 1 33 true, gB 37 (.call 102) 35 36 33 true, gB 38 (.call 101) 34 37 33 true, oA 39 .pick [.t 33, .t 38, kF], uM 8 39]) .ret)))
theorem fc52 : fnC Tryz.prog 52 cert52 = some (40, [.tmp 8], ac52) := by kernel_rfl
def cert54 : Nat → Option Cert := fun
  | 4 => some ⟨[0, 1, 2, 3, 4, 5, 6, 7, 8, 9, 10, 11, 12, 13, 14, 15, 16, 17, 18, 19, 20, 21, 22, 23], .done, [[], [], [0, 1], [0, 1, 2], [], [4], [0, 1, 2, 3, 4, 5], [0, 1, 2, 3, 4, 5, 6], [0, 1, 2, 3, 4, 5, 6, 7], [0, 1, 2, 3, 4, 5, 6, 7, 8], [0, 1, 2, 3, 4, 5, 6, 7, 8, 9], [0, 1, 2, 3, 4, 5, 6, 7, 8, 9, 10], [0, 1, 2, 3, 4, 5, 6, 7, 8, 9, 10, 11], [0, 1, 2, 3, 4, 5, 6, 7, 8, 9, 10, 11], [0, 1, 2, 3, 4, 5, 6, 7, 8, 9, 10, 11, 12, 13], [0, 1, 2, 3, 4, 5, 6, 7, 8, 9, 10, 11, 12, 13, 14], [0, 1, 2, 3, 4, 5, 6, 7, 8, 9, 10, 11], [0, 1, 2, 3, 4, 5, 6, 7, 8, 9, 10, 11], [0, 1, 2, 3, 4, 5, 6, 7, 8, 9, 10, 11, 17], [0, 1, 2, 3, 4, 5, 6, 7, 8, 9, 10, 11, 16, 17, 18], [0, 1, 2, 3, 4, 5, 6, 7, 8, 9, 10, 11, 16, 17, 18, 19], [0, 1, 2, 3, 4, 5, 6, 7, 8, 9, 10, 11, 12, 13, 14, 15, 16, 17, 18, 19, 20], [0, 1, 2, 3, 4, 5, 6, 7, 8, 9, 10, 11, 12, 13, 14, 15, 16, 17, 18, 19, 20, 21], [0, 1, 2, 3, 4, 5, 6, 7, 8, 9, 10, 11, 12, 13, 14, 15, 16, 17, 18, 19, 20, 21, 22]]⟩
  | _ => none
def ac54 : ACode :=(.seq (.ops [oA 4 .mov [kF]]) (.seq (.seq (.ops [oA 5 .mov [(kI 0)]]) (.block 0 (.loop (.seq (.seq (.ops [uM 6 5, uM 7 0, uO 8 .len 7, uB 9 bL 6 8]) (.cond (.t 9) .skip (.exit 0))) (.seq (.block 1 (.seq (.draw [(false, uM 12 0), (false, uM 13 5), (false, uB 14 (.idxaddr 1) 12 13), (false, uO 15 lF 14), (false, uM 16 1), (false, oA 17 (.bin .sub) [.t 16, (kI 1)]), (false, oA 18 (.call 47) [.t 15, (kI 0), .t 17]), (false, uO 19 .not 18), (false, uM 20 19), (false, gM 21 5 20 false), (false, oG 22 (.bin .gtr) [.t 21, (kI 0)] 20 false), (false, gM 23 22 20 false), (false, gM 24 0 23 true), (false, gM 25 5 23 true), (false, gB 26 (.idxaddr 1) 24 25 23 true), (false, gO 27 lF 26 23 true), (false, gM 28 0 23 true), (false, gM 29 5 23 true), (false, oG 30 (.bin .sub) [.t 29, (kI 1)] 23 true), (false, gB 31 (.idxaddr 1) 28 30 23 true), (false, gO 32 lF 31 23 true), (false, gB 33 (.bin .leq) 27 32 23 true), (false, oG 34 .pick [.t 23, .t 33, kF] 20 false), (false, oA 35 .pick [.t 20, kT, .t 34])] .done) (.cond (.t 35) (.seq (.ops [oA 4 .mov [kF]]) .ret) .skip))) (.ops [uM 10 5, oA 11 bA [.t 10, (kI 1)], uM 5 11])))))) (.seq (.ops [oA 4 .mov [kT]]) .ret)))
theorem fc54 : fnC Tryz.prog 54 cert54 = some (36, [.tmp 4], ac54) := by kernel_rfl
def cert58 : Nat → Option Cert := fun
  | 1 => some ⟨[0, 1, 2, 3, 4, 5, 6, 7], (.one 8 (.one 9 (.one 10 .done))), [[], [], [], [1, 2], [0, 1, 2, 3], [0, 1, 2, 3, 4], [0, 1, 2, 3, 4, 5], [0, 1, 2, 3, 4, 5], [], [0, 1, 2, 3, 4, 5, 6, 8], [0, 1, 2, 3, 4, 5, 6, 7, 8, 9]]⟩
  | _ => none
def ac58 : ACode :=(.seq (.ops [uO 2 .box 0, uO 3 .box 1, oA 4 .mov [kE], oA 5 .mov [(kI 0)]]) (.seq (.draw [(true, uO 12 lT9 2), (true, uO 13 lT9 2), (true, uO 14 lF 3), (true, uB 15 (.call 99) 13 14), (true, uB 16 (.call 76) 12 15), (true, uM 11 16), (true, uO 17 x0 11), (true, uO 18 x1 11)] (.one (oA 6 (.alloc [.nilp]) []) [uO 12 lT9 2, uO 13 lT9 2, uO 14 lF 3] (.one (oZ (.store 1) [.t 6, .t 17]) [] (.one (uM 7 18) [] .done)))) (.seq (.seq (.ops [uM 19 7, oA 20 bN [.t 19, (kI 0)]]) (.cond (.t 20) (.seq (.ops [uM 21 7, oA 4 .mov [kE], uM 5 21]) .ret) .skip)) (.seq (.ops [oA 8 (.alloc [.emp]) []]) (.seq (.ops [oA 9 (.alloc [.nilf]) []]) (.seq (.ops [oA 22 (.mkfunc (.func 107) 0) [.t 8, .t 6, .t 3, .t 2, .t 9], oZ (.store 1) [.t 9, .t 22]]) (.seq (.seq (.ops [uO 23 lT9 2, uO 24 lF 3, uB 25 (.call 109) 23 24, oA 26 bA [.t 25, (kI 1)], oA 27 .mov [(kI 0)]]) (.block 0 (.loop (.seq (.ops [uB 28 bL 27 26]) (.seq (.cond (.t 28) .skip (.exit 0)) (.seq (.block 1 (.seq (.ops [uM 29 27, uM 10 29]) (.seq (.ops [uO 30 lF 9, uM 31 10, oA 32 .callv [.t 30, kE, .t 31]]) (.cond (.t 32) (.seq (.ops [uO 33 lF 8, uM 4 33, oA 5 .mov [(kI 0)]]) .ret) .skip)))) (.ops [oA 34 bA [.t 27, (kI 1)], uM 27 34]))))))) (.seq (.ops [oA 4 .mov [kE], oA 5 .mov [(kI 10)]]) .ret))))))))
theorem fc58 : fnC Tryz.prog 58 cert58 = some (35, [.tmp 4, .tmp 5], ac58) := by kernel_rfl
def cert59 : Nat → Option Cert := fun
  | 1 => some ⟨[0, 1, 2, 3, 4, 5, 6, 7, 8, 9, 10, 11, 12, 13, 14, 15], .done, [[], [], [], [1, 2], [1, 2, 3], [1, 2, 3, 4], [1, 2, 3, 4], [1, 2, 3, 4, 6], [1, 2, 3, 4, 5, 6, 7], [1, 2, 3, 4, 5, 6, 7, 8], [0, 1, 2, 3, 4, 5, 6, 7, 8, 9], [0, 1, 2, 3, 4, 5, 6, 7, 8, 9, 10], [0, 1, 2, 3, 4, 5, 6, 7, 8, 9, 10, 11], [0, 1, 2, 3, 4, 5, 6, 7, 8, 9, 10, 11], [0, 1, 2, 3, 4, 5, 6, 7, 8, 9, 10, 11, 12], [0, 1, 2, 3, 4, 5, 6, 7, 8, 9, 10, 11, 12, 13, 14]]⟩
  | _ => none
def ac59 : ACode :=(.seq (.ops [uO 4 .box 0, oA 8 .mov [kF]]) (.seq (.draw [(false, uO 12 lT9 4), (false, uO 13 lT9 4), (false, uM 14 1), (false, uB 15 (.call 99) 13 14), (false, uM 16 15), (false, gM 17 2 16 true), (false, gO 18 lT9 4 16 true), (false, gO 19 (.mkfunc (.func 111) 1) 18 16 true), (false, gB 20 (.call 110) 17 19 16 true), (false, oA 21 .pick [.t 16, .t 20, kF]), (false, uB 22 (.call 76) 12 21), (false, uM 11 22), (false, uO 23 x0 11), (false, uO 24 x1 11), (false, uM 9 23), (false, uM 10 24)] .done) (.seq (.ops [uM 25 10, oA 26 bE [.t 25, (kI 0)], uM 27 26, gM 28 2 27 true, gO 29 .len 28 27 true, gM 30 3 27 true, gB 31 (.bin .leq) 29 30 27 true, oA 32 .pick [.t 27, .t 31, kF], uM 33 32, gM 34 2 33 true, gO 35 .len 34 33 true, gO 36 lT9 4 33 true, gM 37 1 33 true, gB 38 (.call 109) 36 37 33 true, gB 39 (.bin .leq) 35 38 33 true, oA 40 .pick [.t 33, .t 39, kF], uM 41 40, gM 42 9 41 true, gM 43 2 41 true, gM 44 1 41 true, gB 45 (.call 108) 43 44 41 true, gB 46 (.call 101) 42 45 41 true, oA 47 .pick [.t 41, .t 46, kF], uM 8 47]) .ret)))
theorem fc59 : fnC Tryz.prog 59 cert59 = some (48, [.tmp 8], ac59) := by kernel_rfl
def cert64 : Nat → Option Cert := fun _ => none
def ac64 : ACode :=(.seq (.ops [uO 1 .box 0, oA 2 .mov [kF]]) (.seq (.ops [uO 3 fA0 1, uO 4 lT3 3, uO 5 (.call 113) 4, uM 6 5, gO 7 fA3 1 6 true, gO 8 lF 7 6 true, gO 9 .len 8 6 true, oG 10 (.bin .leq) [.t 9, (kI 30)] 6 true, oA 11 .pick [.t 6, .t 10, kF], uM 12 11, gO 13 fA6 1 12 true, gO 14 lF 13 12 true, gO 15 .len 14 12 true, oG 16 (.bin .leq) [.t 15, (kI 30)] 12 true, oA 17 .pick [.t 12, .t 16, kF], uM 18 17, gO 19 fA7 1 18 true, gO 20 lF 19 18 true, gO 21 .len 20 18 true, oG 22 (.bin .leq) [.t 21, (kI 30)] 18 true, oA 23 .pick [.t 18, .t 22, kF], uM 24 23, gO 25 fA8 1 24 true, gO 26 lF 25 24 true, gO 27 .len 26 24 true, oG 28 (.bin .leq) [.t 27, (kI 30)] 24 true, oA 29 .pick [.t 24, .t 28, kF], uM 2 29]) .ret))
theorem fc64 : fnC Tryz.prog 64 cert64 = some (30, [.tmp 2], ac64) := by kernel_rfl
def cert65 : Nat → Option Cert := fun
  | 4 => some ⟨[0, 1, 2, 3, 4, 5, 6, 7, 8, 9, 10], .done, [[], [0], [0, 1], [0, 1], [0, 1], [0, 1], [0, 1, 5], [0, 1, 3, 4, 5, 6], [0, 1, 2, 3, 4, 5, 6, 7], [0, 1, 2, 3, 4, 5, 6, 7, 8], [0, 1, 2, 3, 4, 5, 6, 7, 8, 9]]⟩
  | _ => none
def ac65 : ACode :=(.seq (.ops [uO 2 .box 0, uO 3 .box 1, oA 4 .mov [kF]]) (.seq (.seq (.ops [uO 7 lT9 2, uO 8 (.call 66) 7, oA 9 bN [.t 8, (kI 0)]]) (.cond (.t 9) (.seq (.ops [oA 4 .mov [kF]]) .ret) .skip)) (.seq (.ops [uO 11 lT9 2, uO 12 lT2 3, uB 13 (.call 91) 11 12, uM 10 13, uO 14 x0 10, uO 15 x1 10, oA 5 (.alloc [(.int .i64 0), (.int .i64 0), (.int .i64 0), (.int .i64 0), (.int .i64 0), (.int .i64 0), (.int .i64 0), (.int .i64 0), (.int .i64 0), (.int .i64 0), (.int .i64 0), (.int .i64 0), (.int .i64 0)]) [], oZ (.store 13) [.t 5, .t 14], uM 6 15]) (.seq (.draw [(false, uM 16 6), (false, uM 17 16), (false, gO 18 lT9 2 17 true), (false, gO 19 lT9 2 17 true), (false, gO 20 (.load true 13) 5 17 true), (false, gO 21 lT9 2 17 true), (false, oG 22 (.call 93) [.t 21, kE] 17 true), (false, oG 23 (.call 92) [.t 19, .t 20, .t 22] 17 true), (false, oG 24 (.call 114) [.t 18, .t 23, kE] 17 true), (false, oA 25 .pick [.t 17, .t 24, kF]), (false, uM 4 25)] .done) .ret))))
theorem fc65 : fnC Tryz.prog 65 cert65 = some (26, [.tmp 4], ac65) := by kernel_rfl
def cert66 : Nat → Option Cert := fun
  | 6 => some ⟨[0, 1, 2, 3, 4, 5, 6, 7, 8], .done, [[], [0], [], [2], [], [4], [0, 1], [0, 1, 2, 3, 6], [0, 1, 2, 3, 4, 5, 6, 7]]⟩
  | _ => none
def ac66 : ACode :=(.seq (.ops [uO 1 .box 0, oA 2 .mov [(kI 0)]]) (.seq (.seq (.ops [uO 8 fA5 1, uO 9 lF 8, oA 10 (.bin .gtr) [.t 9, (kI 5)], uM 11 10, gO 12 fA4 1 11 false, gO 13 lF 12 11 false, oG 14 (.bin .gtr) [.t 13, (kI 10)] 11 false, oA 15 .pick [.t 11, kT, .t 14], uM 16 15, gO 17 fA6 1 16 false, gO 18 lF 17 16 false, gO 19 .len 18 16 false, oG 20 (.bin .gtr) [.t 19, (kI 6)] 16 false, oA 21 .pick [.t 16, kT, .t 20], uM 22 21, gO 23 fA7 1 22 false, gO 24 lF 23 22 false, gO 25 .len 24 22 false, oG 26 (.bin .gtr) [.t 25, (kI 4)] 22 false, oA 27 .pick [.t 22, kT, .t 26], uM 28 27, gO 29 fA8 1 28 false, gO 30 lF 29 28 false, gO 31 .len 30 28 false, oG 32 (.bin .gtr) [.t 31, (kI 5)] 28 false, oA 33 .pick [.t 28, kT, .t 32]]) (.cond (.t 33) (.seq (.ops [oA 2 .mov [(kI 3)]]) .ret) .skip)) (.seq (.seq (.ops [uO 35 fA0 1, uO 36 lT3 35, uO 37 (.call 45) 36, uM 34 37, uO 38 x0 34, uO 39 x1 34, uM 3 38, uM 4 39]) (.seq (.ops [uM 40 4, oA 41 bN [.t 40, (kI 0)]]) (.cond (.t 41) (.seq (.ops [uM 42 4, uM 2 42]) .ret) .skip))) (.seq (.draw [(false, uO 43 lT9 1), (false, uO 44 (.mkfunc (.func 115) 1) 43), (false, uO 45 lT9 1), (false, uO 46 (.mkfunc (.func 116) 1) 45), (false, uO 47 lT9 1), (false, uO 48 (.mkfunc (.func 117) 1) 47), (false, uM 5 44), (false, uM 6 46), (false, uM 7 48)] .done) (.seq (.block 0 (.seq (.ops [uO 50 fA5 1, uO 51 lF 50, oA 52 bL [.t 51, (kI 0)], uM 53 52, gO 54 fA4 1 53 false, gO 55 lF 54 53 false, oG 56 bL [.t 55, (kI 0)] 53 false, oA 57 .pick [.t 53, kT, .t 56], uM 58 57, gO 59 lT9 1 58 false, gO 60 (.call 77) 59 58 false, oG 61 (.bin .gtr) [.t 60, (kI 10)] 58 false, oA 62 .pick [.t 58, kT, .t 61], uM 63 62, gO 64 fA3 1 63 false, gO 65 lF 64 63 false, gO 66 fA0 1 63 false, gO 67 fA0 66 63 false, gO 68 lF 67 63 false, gO 69 .len 68 63 false, gB 70 (.call 106) 65 69 63 false, gO 71 .not 70 63 false, oA 72 .pick [.t 63, kT, .t 71], uM 49 72]) (.cond (.t 49) (.seq (.ops [oA 2 .mov [(kI 1)]]) .ret) (.seq (.ops [uO 74 fA6 1, uO 75 lF 74, uM 76 5, uB 77 (.call 118) 75 76, uO 78 .not 77, uM 79 78, gO 80 fA7 1 79 false, gO 81 lF 80 79 false, gM 82 6 79 false, gB 83 (.call 119) 81 82 79 false, gO 84 .not 83 79 false, oA 85 .pick [.t 79, kT, .t 84], uM 86 85, gO 87 fA8 1 86 false, gO 88 lF 87 86 false, gM 89 7 86 false, gB 90 (.call 120) 88 89 86 false, gO 91 .not 90 86 false, oA 92 .pick [.t 86, kT, .t 91], uM 73 92]) (.cond (.t 73) (.seq (.ops [oA 2 .mov [(kI 1)]]) .ret) (.seq (.ops [uO 94 lT9 1, uO 95 (.call 121) 94, oA 96 (.bin .gtr) [.t 95, (kI 2000)], uM 93 96]) (.cond (.t 93) (.seq (.ops [oA 2 .mov [(kI 3)]]) .ret) .skip))))))) (.seq (.ops [oA 2 .mov [(kI 0)]]) .ret))))))
theorem fc66 : fnC Tryz.prog 66 cert66 = some (97, [.tmp 2], ac66) := by kernel_rfl
def cert74 : Nat → Option Cert := fun
  | 3 => some ⟨[0, 1, 2, 3, 4, 5, 6, 7, 8, 9, 10, 11, 12], (.one 13 .done), [[], [], [], [2], [2], [2, 4], [2, 4], [2, 4, 6], [2, 3, 4, 5, 6, 7], [], [], [9, 10], [0, 1, 2, 3, 4, 5, 6, 7, 8, 9, 10, 11], [0, 1, 2, 3, 4, 5, 6, 7, 8, 9, 10, 11, 12]]⟩
  | _ => none
def ac74 : ACode :=(.seq (.ops [oA 2 (.alloc z9) []]) (.seq (.ops [oA 5 (.build [(.int .i64 0), (.bool false)] [(0, 1)]) [(kI 0)], oA 6 (.build [(.int .i64 0), (.bool false)] [(0, 1), (1, 1)]) [(kI 1), kT], uB 7 (.bslice 2) 5 6, uM 3 7]) (.seq (.ops [oA 8 (.build [(.int .i64 0), (.int .i64 0)] [(0, 1), (1, 1)]) [(kI 2), (kI 2)], oA 9 (.build [(.int .i64 0), (.int .i64 0), (.int .i64 0)] [(0, 1), (1, 2)]) [(kI 1), .t 8], oA 10 (.build [(.int .i64 0), (.int .i64 0)] [(0, 1), (1, 1)]) [(kI 1), (kI 2)], oA 11 (.build [(.int .i64 0), (.int .i64 0), (.int .i64 0)] [(0, 1), (1, 2)]) [(kI 1), .t 10], oA 12 (.build [(.int .i64 0), (.int .i64 0)] [(0, 1), (1, 1)]) [(kI 1), (kI 1)], oA 13 (.build [(.int .i64 0), (.int .i64 0), (.int .i64 0)] [(0, 1), (1, 2)]) [(kI 2), .t 12], oA 14 (.bslice 3) [.t 9, .t 11, .t 13], oA 15 (.bslice 1) [(kI 1)], uO 16 (.build [.emp, (.int .i64 0)] [(0, 1)]) 15, oA 17 (.bslice 1) [(kI 1), (kI 2)], uO 18 (.build [.emp, (.int .i64 0)] [(0, 1)]) 17, oA 19 (.bslice 1) [(kI 1)], oA 20 (.build [.emp, (.int .i64 0)] [(0, 1), (1, 1)]) [.t 19, (kI 1)], oA 21 (.bslice 1) [(kI 2)], oA 22 (.build [.emp, (.int .i64 0)] [(0, 1), (1, 1)]) [.t 21, (kI 1)], oA 23 (.bslice 2) [.t 16, .t 18, .t 20, .t 22], uB 24 (.build [.emp, .emp, (.int .i64 0)] [(0, 1), (1, 1)]) 14 23, oA 4 (.alloc [.emp, .emp, (.int .i64 0)]) [], oZ (.store 3) [.t 4, .t 24]]) (.seq (.draw [(false, uO 25 lT3 4), (false, oA 26 (.bslice 1) [(kI 2)]), (false, oA 27 (.call 125) [(kI 0), (kI 1)]), (false, oA 28 (.build [(.int .i64 0), (.int .i64 0), (.int .i64 0), (.int .i64 0)] [(0, 1), (1, 1), (2, 2)]) [(kI 3), (kI 4), .t 27]), (false, oA 29 (.call 125) [(kI 0), (kI 1)]), (false, oA 30 (.build [(.int .i64 0), (.int .i64 0), (.int .i64 0), (.int .i64 0)] [(0, 1), (1, 1), (2, 2)]) [(kI 4), (kI 0), .t 29]), (false, oA 31 (.call 125) [(kI 2), (kI 2)]), (false, oA 32 (.build [(.int .i64 0), (.int .i64 0), (.int .i64 0), (.int .i64 0)] [(0, 1), (1, 1), (2, 2)]) [(kI 0), (kI 1), .t 31]), (false, oA 33 (.bslice 4) [.t 28, .t 30, .t 32]), (false, uM 34 3), (false, uM 35 0), (false, uB 36 (.sub 2) 34 35), (false, oA 37 (.build z9 [(0, 3), (3, 1), (4, 1), (5, 1), (6, 1), (8, 1)]) [.t 25, .t 26, (kI 1), (kI 2), .t 33, .t 36])] (.one (oZ (.store 9) [.t 2, .t 37]) [] .done)) .ret))))
theorem fc74 : fnC Tryz.prog 74 cert74 = some (38, [.cell 2 45], ac74) := by kernel_rfl
def cert75 : Nat → Option Cert := fun _ => none
def ac75 : ACode :=(.seq (.ops [oA 4 (.alloc [.emp, .emp]) []]) (.seq (.ops [oA 5 (.bslice 1) [(kI 0), (kI 0), (kI 1), (kI 2)], uM 6 0, uM 7 1, oA 8 (.bslice 1) [.t 6, .t 7, (kI 2)], uB 9 (.build [.emp, .emp] [(0, 1), (1, 1)]) 5 8, oZ (.store 2) [.t 4, .t 9]]) .ret))
theorem fc75 : fnC Tryz.prog 75 cert75 = some (10, [.cell 4 71], ac75) := by kernel_rfl
def cert76 : Nat → Option Cert := fun
  | 12 => some ⟨[0, 1, 2, 3, 4, 5, 6, 7, 8], (.one 9 (.one 10 (.one 11 (.one 12 .done)))), [[], [], [1], [1, 2], [1, 2, 3], [], [], [5, 6], [5, 6, 7], [1, 2, 3, 4, 5, 6, 7, 8], [0, 1, 2, 3, 4, 5, 6, 7, 8, 9], [0, 1, 2, 3, 4, 5, 6, 7, 8, 9, 10], [0, 1, 2, 3, 4, 5, 6, 7, 8, 9, 10, 11]]⟩
  | _ => none
def ac76 (ga gb : Code) : ACode :=(.seq (.ops [uO 2 .box 0, oA 4 .mov [(.c .nilp)], oA 5 .mov [(kI 0)]]) (.seq (.seq (.ops [uO 11 lT9 2, uO 12 (.call 66) 11, uM 6 12]) (.seq (.ops [uM 13 6, oA 14 bN [.t 13, (kI 0)]]) (.cond (.t 14) (.seq (.ops [uM 15 6, oA 4 .mov [(.c .nilp)], uM 5 15]) .ret) .skip))) (.seq (.seq (.ops [uM 16 1, uO 17 .not 16]) (.cond (.t 17) (.seq (.ops [oA 4 .mov [(.c .nilp)], oA 5 .mov [(kI 2)]]) .ret) .skip)) (.seq (.ops [uO 18 lT9 2, oA 19 (.build [.emp, .emp, (.int .i64 0), .emp, (.int .i64 0), (.int .i64 0), .emp, .emp, .emp, .emp] [(0, 9), (9, 1)]) [.t 18, kE], uO 20 .box 19, oA 7 (.alloc [.nilp]) [], oZ (.store 1) [.t 7, .t 20]]) (.seq (.ops [uO 21 lT9 2, oA 22 (.call 93) [.t 21, kE], oA 8 (.alloc [.any]) [], oZ (.store 1) [.t 8, .t 22]]) (.seq (.seq (.ops [uO 23 lT9 2, uO 24 (.call 126) 23]) (.block 0 (.range (.t 24) #[25] ga gb))) (.seq (.seq (.ops [uO 45 lF 7, uO 46 .nilchk 45, uO 47 fA9 46, uO 48 lF 47, uO 49 .len 48, oA 50 bE [.t 49, (kI 0)]]) (.cond (.t 50) (.seq (.ops [oA 4 .mov [(.c .nilp)], oA 5 .mov [(kI 11)]]) .ret) .skip)) (.seq (.ops [uO 51 lF 7, uM 4 51, oA 5 .mov [(kI 0)]]) .ret))))))))
theorem fc76 : fnC Tryz.prog 76 cert76 = some (52, [.tmp 4, .tmp 5], (ac76 (rangeF Tryz.f76).1 (rangeF Tryz.f76).2)) := by kernel_rfl
def aga76 : ACode :=(.ops [oA 9 (.alloc [(.int .i64 0), (.int .i64 0), (.int .i64 0), (.int .i64 0), (.int .i64 0), (.int .i64 0), (.int .i64 0), (.int .i64 0), (.int .i64 0), (.int .i64 0), (.int .i64 0), (.int .i64 0), (.int .i64 0)]) [], oZ (.store 13) [.t 9, .t 25]])
def agb76 : ACode :=(.block 1 (.seq (.ops [uO 26 lT9 2, uO 27 (.load true 13) 9, uO 28 lF 8, oA 29 (.call 92) [.t 26, .t 27, .t 28], oA 10 (.alloc [(.bool false), (.bool false), (.bool false), (.bool false), (.bool false), (.bool false), (.bool false), (.bool false), (.bool false), (.bool false)]) [], oZ (.store 10) [.t 10, .t 29]]) (.seq (.ops [uO 30 lT9 2, uO 31 (.load true 10) 10, oA 32 (.call 114) [.t 30, .t 31, kE]]) (.cond (.t 32) (.draw [(true, uO 33 lF 7), (false, uO 34 lF 7), (false, uO 35 .nilchk 34), (false, uO 36 fA9 35), (false, uO 37 lF 36), (false, uO 38 (.load true 13) 9), (false, uO 39 (.load true 10) 10), (false, uB 40 (.build [(.int .i64 0), (.int .i64 0), (.int .i64 0), (.int .i64 0), (.int .i64 0), (.int .i64 0), (.int .i64 0), (.int .i64 0), (.int .i64 0), (.int .i64 0), (.int .i64 0), (.int .i64 0), (.int .i64 0), (.bool false), (.bool false), (.bool false), (.bool false), (.bool false), (.bool false), (.bool false), (.bool false), (.bool false), (.bool false)] [(0, 13), (13, 10)]) 38 39), (false, uO 41 (.bslice 23) 40)] (.one (uB 42 (.append 23 120) 37 41) [uO 33 lF 7] (.one (uO 43 .nilchk 33) [] (.one (uO 44 fA9 43) [] (.one (oZ (.store 1) [.t 44, .t 42]) [] .done))))) .skip))))
theorem tga76 : tr Tryz.prog 52 cert76 false (rangeF Tryz.f76).1 = some aga76 := by kernel_rfl
theorem tgb76 : tr Tryz.prog 52 cert76 false (rangeF Tryz.f76).2 = some agb76 := by kernel_rfl
def cert77 : Nat → Option Cert := fun
  | 1 => some ⟨[0, 1, 2, 3, 4, 5], .done, [[], [0], [], [2], [0, 1, 2, 3], [0, 1, 2, 3, 4]]⟩
  | _ => none
def ac77 : ACode :=(.seq (.ops [uO 1 .box 0, oA 2 .mov [(kI 0)]]) (.seq (.draw [(false, uO 3 lT9 1), (false, uO 4 (.call 127) 3), (false, uO 5 fA4 1), (false, uO 6 lF 5), (false, uB 7 bA 4 6), (false, uM 2 7)] .done) .ret))
theorem fc77 : fnC Tryz.prog 77 cert77 = some (8, [.tmp 2], ac77) := by kernel_rfl
end Go.Lift
set_option maxRecDepth 100000
set_option linter.unusedVariables false
namespace Go.Lift
open Go Go.Proofs
def cert78 : Nat → Option Cert := fun _ => none
def ac78 : ACode :=(.seq (.ops [uO 4 .box 1, oA 6 .mov [kF]]) (.seq (.ops [uM 7 2, uO 8 (.fieldaddr 13) 4, uB 9 (.arraddr 10 1) 8 7, uO 10 lF 9, uM 6 10]) .ret))
theorem fc78 : fnC Tryz.prog 78 cert78 = some (11, [.tmp 6], ac78) := by kernel_rfl
def cert79 : Nat → Option Cert := fun _ => none
def ac79 : ACode :=(.seq (.ops [uO 3 .box 0, oA 6 .mov [(kI 0)]]) (.seq (.ops [oA 7 .mov [(kI 0)]]) (.seq (.seq (.ops [uM 10 1, uO 11 .nilchk 10, uO 12 fA9 11, uO 13 lF 12, uO 14 .len 13, oA 15 .mov [(kI 0)]]) (.block 0 (.loop (.seq (.ops [uB 16 bL 15 14]) (.seq (.cond (.t 16) .skip (.exit 0)) (.seq (.block 1 (.seq (.ops [uB 17 (.idxaddr 23) 13 15, uO 18 (.load true 23) 17, oA 9 (.alloc [(.int .i64 0), (.int .i64 0), (.int .i64 0), (.int .i64 0), (.int .i64 0), (.int .i64 0), (.int .i64 0), (.int .i64 0), (.int .i64 0), (.int .i64 0), (.int .i64 0), (.int .i64 0), (.int .i64 0), (.bool false), (.bool false), (.bool false), (.bool false), (.bool false), (.bool false), (.bool false), (.bool false), (.bool false), (.bool false)]) [], oZ (.store 23) [.t 9, .t 18]]) (.seq (.ops [uO 19 fA0 3, uO 20 lF 19, uM 21 1, uO 22 (.load true 23) 9, uM 23 2, oA 24 .callv [.t 20, .t 21, .t 22, .t 23]]) (.cond (.t 24) (.ops [uM 25 7, oA 26 bA [.t 25, (kI 1)], uM 7 26]) .skip)))) (.ops [oA 27 bA [.t 15, (kI 1)], uM 15 27]))))))) (.seq (.seq (.ops [uM 28 7]) (.block 2 (.seq (.ops [uM 30 1, uO 31 .nilchk 30, uO 32 fA9 31, uO 33 lF 32, uO 34 .len 33, uB 35 bE 28 34, uM 29 35]) (.cond (.t 29) (.seq (.ops [oA 6 .mov [(kI 1)]]) .ret) (.seq (.ops [oA 37 bE [.t 28, (kI 0)], uM 36 37]) (.cond (.t 36) (.seq (.ops [oA 6 .mov [(kI 2)]]) .ret) .skip)))))) (.seq (.ops [oA 6 .mov [(kI 3)]]) .ret)))))
theorem fc79 : fnC Tryz.prog 79 cert79 = some (38, [.tmp 6], ac79) := by kernel_rfl
def cert80 : Nat → Option Cert := fun
  | 4 => some ⟨[0, 1, 2, 3, 4, 5, 6, 7, 8, 9, 10, 11, 12, 13, 14, 15, 16, 17, 18, 19, 20, 21, 22, 23], .done, [[], [], [0, 1], [0, 1, 2], [0, 1, 2, 3], [0, 1, 2, 3, 4], [0, 1, 2, 3, 4], [0, 1, 2, 3, 4, 6], [0, 1, 2, 3, 4, 5, 6, 7], [0, 1, 2, 3, 4, 5, 6, 7, 8], [0, 1, 2, 3, 4], [0, 1, 2, 3, 4, 5, 6, 7, 8, 9, 10], [0, 1, 2, 3, 4, 5, 6, 7, 8, 9, 10, 11], [0, 1, 2, 3, 4, 5, 6, 7, 8, 9, 10, 11, 12], [0, 1, 2, 3, 4, 5, 6, 7, 8, 9, 10, 11, 12, 13], [0, 1, 2, 3, 4, 5, 6, 7, 8, 9, 10, 11, 12, 13, 14], [0, 1, 2, 3, 4, 5, 6, 7, 8, 9, 10, 11, 12, 13, 14, 15], [0, 1, 2, 3, 4, 5, 6, 7, 8, 9, 10, 11, 12, 13, 14, 15, 16], [0, 1, 2, 3, 4, 5, 6, 7, 8, 9, 10, 11, 12, 13], [0, 1, 2, 3, 4, 5, 6, 7, 8, 9, 10, 11, 12, 13, 18], [0, 1, 2, 3, 4, 5, 6, 7, 8, 9, 10, 11, 12, 13], [0, 1, 2, 3, 4, 5, 6, 7, 8, 9, 10, 11, 12, 13, 14, 15, 16, 17, 18, 19, 20], [0, 1, 2, 3, 4, 5, 6, 7, 8, 9, 10, 11, 12, 13, 14, 15, 16, 17, 18, 19, 20, 21], [0, 1, 2, 3, 4, 5, 6, 7, 8, 9, 10, 11, 12, 13, 14, 15, 16, 17, 18, 19, 20, 21, 22]]⟩
  | _ => none
def ac80 : ACode :=(.seq (.ops [uO 4 .box 1, oA 6 .mov [kF]]) (.seq (.seq (.ops [uM 8 0, uO 9 .nilchk 8, uO 10 fA0 9, uO 11 lT9 10, uO 12 (.call 127) 11, oA 13 .mov [(kI 0)]]) (.block 0 (.loop (.seq (.ops [uB 14 bL 13 12]) (.seq (.cond (.t 14) .skip (.exit 0)) (.seq (.block 1 (.seq (.ops [uM 15 13, uM 7 15]) (.seq (.draw [(false, uM 16 7), (false, uO 17 (.fieldaddr 13) 4), (false, uB 18 (.arraddr 10 1) 17 16), (false, uO 19 lF 18), (false, uM 20 19), (false, gM 21 7 20 true), (false, gO 22 fA0 4 20 true), (false, gO 23 fA0 22 20 true), (false, gB 24 (.arraddr 7 1) 23 21 20 true), (false, gO 25 lF 24 20 true), (false, gM 26 2 20 true), (false, gB 27 bE 25 26 20 true), (false, oA 28 .pick [.t 20, .t 27, kF]), (false, uM 29 28), (false, gM 30 0 29 true), (false, gO 31 .nilchk 30 29 true), (false, gO 32 fA0 31 29 true), (false, gO 33 lT9 32 29 true), (false, gO 34 fA0 4 29 true), (false, gO 35 (.load true 13) 34 29 true), (false, gM 36 7 29 true), (false, oG 37 (.call 128) [.t 33, .t 35, .t 36] 29 true), (false, gO 38 .not 37 29 true), (false, oA 39 .pick [.t 29, .t 38, kF])] .done) (.cond (.t 39) (.seq (.ops [oA 6 .mov [kT]]) .ret) .skip)))) (.ops [oA 40 bA [.t 13, (kI 1)], uM 13 40]))))))) (.seq (.ops [oA 6 .mov [kF]]) .ret)))
theorem fc80 : fnC Tryz.prog 80 cert80 = some (41, [.tmp 6], ac80) := by kernel_rfl
def cert83 : Nat → Option Cert := fun
  | 4 => some ⟨[0, 1, 2, 3, 4, 5, 6], .done, [[], [], [], [], [1, 2, 3], [], [0, 1, 2, 3, 4, 5]]⟩
  | _ => none
def ac83 (ga gb : Code) : ACode :=(.seq (.ops [uO 2 .box 0, uO 3 .box 1, oA 4 (.alloc [(.bool false)]) []]) (.seq (.ops [uO 7 lT9 2, oA 8 (.call 93) [.t 7, kE], oA 5 (.alloc [.any]) [], oZ (.store 1) [.t 5, .t 8]]) (.seq (.seq (.ops [uO 9 lT9 2, uO 10 (.call 126) 9]) (.block 0 (.range (.t 10) #[11] ga gb))) (.seq (.ops [oZ (.store 1) [.t 4, kF]]) .ret))))
theorem fc83 : fnC Tryz.prog 83 cert83 = some (19, [.cell 4 4], (ac83 (rangeF Tryz.f83).1 (rangeF Tryz.f83).2)) := by kernel_rfl
def aga83 : ACode :=(.ops [oA 6 (.alloc [(.int .i64 0), (.int .i64 0), (.int .i64 0), (.int .i64 0), (.int .i64 0), (.int .i64 0), (.int .i64 0), (.int .i64 0), (.int .i64 0), (.int .i64 0), (.int .i64 0), (.int .i64 0), (.int .i64 0)]) [], oZ (.store 13) [.t 6, .t 11]])
def agb83 : ACode :=(.block 1 (.seq (.draw [(false, uO 12 lT9 2), (false, uO 13 lT9 2), (false, uO 14 (.load true 13) 6), (false, uO 15 lF 5), (false, oA 16 (.call 92) [.t 13, .t 14, .t 15]), (false, uO 17 lF 3), (false, oA 18 (.call 114) [.t 12, .t 16, .t 17])] .done) (.cond (.t 18) (.seq (.ops [oZ (.store 1) [.t 4, kT]]) .ret) .skip)))
theorem tga83 : tr Tryz.prog 19 cert83 false (rangeF Tryz.f83).1 = some aga83 := by kernel_rfl
theorem tgb83 : tr Tryz.prog 19 cert83 false (rangeF Tryz.f83).2 = some agb83 := by kernel_rfl
def cert84 : Nat → Option Cert := fun
  | 7 => some ⟨[0, 1, 3, 4, 6, 7, 8, 9], (.one 2 (.one 5 (.one 10 .done))), [[], [], [1], [], [3], [1, 2, 3, 4], [], [6], [], [8], [0, 1, 2, 3, 4, 5, 6, 7, 8, 9]]⟩
  | _ => none
def ac84 : ACode :=(.seq (.ops [oA 9 .mov [kF]]) (.seq (.seq (.ops [uM 11 2, oA 12 bE [.t 11, (kI 0)]]) (.cond (.t 12) (.seq (.ops [uM 13 0, oZ (.store 1) [.t 3, .t 13]]) (.seq (.ops [uO 14 lT9 4, uM 15 0, uB 16 (.call 83) 14 15, uM 9 16]) .ret)) .skip)) (.seq (.seq (.ops [uM 17 1, uM 10 17]) (.block 0 (.loop (.seq (.seq (.ops [uM 18 10, uO 19 fA8 4, uO 20 lF 19, uO 21 .len 20, uM 22 2, uB 23 (.bin .sub) 21 22, uB 24 (.bin .leq) 18 23]) (.cond (.t 24) .skip (.exit 0))) (.seq (.block 1 (.seq (.draw [(true, uO 27 lF 5), (false, uM 28 0), (true, uM 30 10), (true, uO 31 (.bslice 1) 30), (true, uM 33 10), (true, oA 34 bA [.t 33, (kI 1)]), (true, uM 35 2), (true, oA 36 (.bin .sub) [.t 35, (kI 1)])] (.one (uO 29 (.call 85) 28) [uO 27 lF 5] (.one (uB 32 (.append 1 8) 29 31) [uO 27 lF 5] (.one (oA 37 .callv [.t 27, .t 32, .t 34, .t 36]) [] .done)))) (.cond (.t 37) (.seq (.ops [oA 9 .mov [kT]]) .ret) .skip))) (.ops [uM 25 10, oA 26 bA [.t 25, (kI 1)], uM 10 26])))))) (.seq (.ops [oA 9 .mov [kF]]) .ret))))
theorem fc84 : fnC Tryz.prog 84 cert84 = some (38, [.tmp 9], ac84) := by kernel_rfl
def cert85 : Nat → Option Cert := fun _ => none
def ac85 : ACode :=(.seq (.ops [oA 2 .mov [kE]]) (.seq (.seq (.ops [uM 3 0, uO 4 .isnil 3]) (.cond (.t 4) (.seq (.ops [oA 2 .mov [kE]]) .ret) .skip)) (.seq (.ops [oA 5 (.bslice 1) [], uM 6 0, uB 7 (.append 1 8) 5 6, uM 2 7]) .ret)))
theorem fc85 : fnC Tryz.prog 85 cert85 = some (8, [.tmp 2], ac85) := by kernel_rfl
def cert88 : Nat → Option Cert := fun _ => none
def ac88 : ACode :=(.seq (.ops [uO 1 .box 0, oA 2 .mov [kE]]) (.seq (.ops [oA 3 .mov [kE]]) (.seq (.seq (.ops [oA 4 .mov [(kI 0)]]) (.block 0 (.loop (.seq (.seq (.ops [uM 6 4, uO 7 lT3 1, uO 8 (.call 98) 7, uB 9 bL 6 8]) (.cond (.t 9) .skip (.exit 0))) (.seq (.block 1 (.seq (.ops [uO 12 lT3 1, uM 13 4, uB 14 (.call 129) 12 13, uM 5 14]) (.seq (.ops [uO 15 lT3 1, uM 16 5, uB 17 (.call 122) 15 16]) (.cond (.t 17) (.ops [uM 18 3, uM 19 5, uO 20 (.bslice 1) 19, uB 21 (.append 1 24) 18 20, uM 3 21]) .skip)))) (.ops [uM 10 4, oA 11 bA [.t 10, (kI 1)], uM 4 11])))))) (.seq (.ops [uM 22 3, uM 2 22]) .ret))))
theorem fc88 : fnC Tryz.prog 88 cert88 = some (23, [.tmp 2], ac88) := by kernel_rfl
def cert89 : Nat → Option Cert := fun
  | 5 => some ⟨[0, 1, 2, 3, 4, 5, 6, 7, 8, 9, 10, 11, 12, 13, 14, 15, 16, 17, 18], (.one 19 .done), [[], [], [1], [], [1, 2, 3], [1, 2, 3, 4], [1, 2, 3, 4, 5], [1, 2, 3, 4, 5, 6], [], [8], [], [8, 9, 10], [8, 9, 10, 11], [8, 9, 10, 11, 12], [8, 9, 10, 11, 12, 13], [1, 2, 3, 4, 5, 6, 7, 8, 9, 10, 11, 12, 13, 14], [1, 2, 3, 4, 5, 6, 7, 8, 9, 10, 11, 12, 13, 14, 15], [0, 1, 2, 3, 4, 5, 6, 7, 8, 9, 10, 11, 12, 13, 14, 15, 16], [0, 1, 2, 3, 4, 5, 6, 7, 8, 9, 10, 11, 12, 13, 14, 15, 16, 17], [0, 1, 2, 3, 4, 5, 6, 7, 8, 9, 10, 11, 12, 13, 14, 15, 16, 17, 18]]⟩
  | _ => none
def ac89 : ACode :=(.seq (.ops [uO 1 .box 0, oA 2 .mov [(kI 0)]]) (.seq (.ops [oA 3 .mov [(kI 1)]]) (.seq (.seq (.ops [oA 4 .mov [(kI 0)]]) (.block 0 (.loop (.seq (.seq (.ops [uM 5 4, uO 6 fA6 1, uO 7 lF 6, uO 8 .len 7, uB 9 bL 5 8]) (.cond (.t 9) .skip (.exit 0))) (.seq (.block 1 (.draw [(false, uM 12 3), (false, uO 13 fA6 1), (false, uO 14 lF 13), (false, uM 15 4), (false, uB 16 (.idxaddr 4) 14 15), (false, uO 17 fA2 16), (false, uO 18 fA1 17), (false, uO 19 lF 18), (false, uO 20 fA6 1), (false, uO 21 lF 20), (false, uM 22 4), (false, uB 23 (.idxaddr 4) 21 22), (false, uO 24 fA2 23), (false, uO 25 fA0 24), (false, uO 26 lF 25), (false, uB 27 (.bin .sub) 19 26), (false, oA 28 bA [.t 27, (kI 1)]), (false, uB 29 (.bin .mul) 12 28), (false, oA 30 .min [(kI 3000), .t 29])] (.one (uM 3 30) [] .done))) (.ops [uM 10 4, oA 11 bA [.t 10, (kI 1)], uM 4 11])))))) (.seq (.ops [uM 31 3, uM 2 31]) .ret))))
theorem fc89 : fnC Tryz.prog 89 cert89 = some (32, [.tmp 2], ac89) := by kernel_rfl
def cert91 : Nat → Option Cert := fun
  | 6 => some ⟨[0, 1, 2, 3, 4, 5, 6, 7, 8, 9, 10, 11, 12, 13, 14, 15, 16], .done, [[], [], [1], [], [1, 2, 3], [1, 2, 3, 4], [1, 2, 3, 4, 5], [1, 2, 3, 4, 5, 6], [], [8], [], [8, 9, 10], [8, 9, 10, 11], [8, 9, 10, 11, 12], [8, 9, 10, 11, 12, 13], [0, 1, 2, 3, 4, 5, 6, 7, 8, 9, 10, 11, 12, 13, 14], [0, 1, 2, 3, 4, 5, 6, 7, 8, 9, 10, 11, 12, 13, 14, 15]]⟩
  | 9 => some ⟨[0, 1, 2, 3], (.one 4 .done), [[], [0], [], [2], [0, 1, 2, 3]]⟩
  | 10 => some ⟨[0, 1, 2, 3], (.one 4 .done), [[], [0], [], [2], [0, 1, 2, 3]]⟩
  | _ => none
def ac91 : ACode :=(.seq (.ops [uO 2 .box 0, uO 3 .box 1, oA 4 (.alloc [(.int .i64 0), (.int .i64 0), (.int .i64 0), (.int .i64 0), (.int .i64 0), (.int .i64 0), (.int .i64 0), (.int .i64 0), (.int .i64 0), (.int .i64 0), (.int .i64 0), (.int .i64 0), (.int .i64 0)]) [], oA 5 .mov [kF]]) (.seq (.seq (.ops [uO 8 fA0 2, uO 9 lT3 8, uO 10 fA0 3, uO 11 lF 10, uB 12 (.call 130) 9 11, uO 13 .not 12, uM 14 13, gO 15 fA1 3 14 false, gO 16 lF 15 14 false, gO 17 .len 16 14 false, gO 18 fA6 2 14 false, gO 19 lF 18 14 false, gO 20 .len 19 14 false, gB 21 bN 17 20 14 false, oA 22 .pick [.t 14, kT, .t 21]]) (.cond (.t 22) (.seq (.ops [uO 23 (.load true 13) 4, oZ (.store 13) [.t 4, .t 23], oA 5 .mov [kF]]) .ret) .skip)) (.seq (.seq (.ops [uO 24 fA1 3, uO 25 lF 24, uO 26 .len 25, oA 27 .mov [(kI 0)]]) (.block 0 (.loop (.seq (.ops [uB 28 bL 27 26]) (.seq (.cond (.t 28) .skip (.exit 0)) (.seq (.block 1 (.seq (.ops [uM 29 27, uB 30 (.idxaddr 1) 25 27, uO 31 lF 30, uM 6 29, uM 7 31]) (.seq (.draw [(false, uM 32 7), (false, uO 33 fA6 2), (false, uO 34 lF 33), (false, uM 35 6), (false, uB 36 (.idxaddr 4) 34 35), (false, uO 37 fA2 36), (false, uO 38 fA0 37), (false, uO 39 lF 38), (false, uO 40 fA6 2), (false, uO 41 lF 40), (false, uM 42 6), (false, uB 43 (.idxaddr 4) 41 42), (false, uO 44 fA2 43), (false, uO 45 fA1 44), (false, uO 46 lF 45), (false, oA 47 (.call 131) [.t 32, .t 39, .t 46]), (false, uO 48 .not 47)] .done) (.cond (.t 48) (.seq (.ops [uO 49 (.load true 13) 4, oZ (.store 13) [.t 4, .t 49], oA 5 .mov [kF]]) .ret) .skip)))) (.ops [oA 50 bA [.t 27, (kI 1)], uM 27 50]))))))) (.seq (.draw [(false, uO 51 fA0 4), (false, uO 52 (.arrall 7 1) 51), (false, uO 53 fA0 3), (false, uO 54 lF 53)] (.one (uB 55 (.copy 1) 52 54) [] .done)) (.seq (.draw [(false, uO 56 fA7 4), (false, uO 57 (.arrall 6 1) 56), (false, uO 58 fA1 3), (false, uO 59 lF 58)] (.one (uB 60 (.copy 1) 57 59) [] .done)) (.seq (.ops [uO 61 (.load true 13) 4, oZ (.store 13) [.t 4, .t 61], oA 5 .mov [kT]]) .ret))))))
theorem fc91 : fnC Tryz.prog 91 cert91 = some (62, [.cell 4 144, .tmp 5], ac91) := by kernel_rfl
def cert92 : Nat → Option Cert := fun
  | 19 => some ⟨[0, 1, 2, 3, 4], (.one 5 (.one 6 (.one 7 .done))), [[], [0], [], [2], [0, 1], [0, 1, 4], [0, 1, 2, 3, 4, 5], [0, 1, 2, 3, 4, 5, 6]]⟩
  | _ => none
def ac92 : ACode :=(.seq (.ops [uO 3 .box 0, uO 4 .box 1, oA 6 (.alloc [(.bool false), (.bool false), (.bool false), (.bool false), (.bool false), (.bool false), (.bool false), (.bool false), (.bool false), (.bool false)]) []]) (.seq (.seq (.ops [uO 12 lT9 3, uO 13 (.call 127) 12, oA 14 .mov [(kI 0)]]) (.block 0 (.loop (.seq (.ops [uB 15 bL 14 13]) (.seq (.cond (.t 15) .skip (.exit 0)) (.seq (.block 1 (.seq (.ops [uM 16 14, uM 7 16]) (.ops [uM 17 7, uO 18 lT9 3, uO 19 (.load true 13) 4, uM 20 7, oA 21 (.call 128) [.t 18, .t 19, .t 20], uB 22 (.arraddr 10 1) 6 17, oZ (.store 1) [.t 22, .t 21]]))) (.ops [oA 23 bA [.t 14, (kI 1)], uM 14 23]))))))) (.seq (.seq (.ops [uO 24 fA5 3, uO 25 lF 24, oA 26 bA [.t 25, (kI 1)], oA 27 .mov [(kI 0)]]) (.block 2 (.loop (.seq (.ops [uB 28 bL 27 26]) (.seq (.cond (.t 28) .skip (.exit 2)) (.seq (.block 3 (.seq (.ops [uM 29 27, uM 8 29]) (.seq (.seq (.ops [uO 30 lT9 3, uO 31 (.call 77) 30, oA 32 .mov [(kI 0)]]) (.block 4 (.loop (.seq (.ops [uB 33 bL 32 31]) (.seq (.cond (.t 33) .skip (.exit 4)) (.seq (.block 5 (.seq (.ops [uM 34 32, uM 9 34]) (.seq (.ops [uM 35 2, uM 36 9, uM 37 8, uB 38 (.build [(.int .i64 0), (.int .i64 0)] [(0, 1), (1, 1)]) 36 37, uB 39 (.lookup (.bool false)) 35 38]) (.cond (.t 39) (.ops [uM 40 9, uB 41 (.arraddr 10 1) 6 40, oZ (.store 1) [.t 41, kF]]) .skip)))) (.ops [oA 42 bA [.t 32, (kI 1)], uM 32 42]))))))) (.seq (.ops [uO 43 fA6 3, uO 44 lF 43, uO 45 .len 44, oA 46 .mov [(kI 0)]]) (.block 6 (.loop (.seq (.ops [uB 47 bL 46 45]) (.seq (.cond (.t 47) .skip (.exit 6)) (.seq (.block 7 (.seq (.ops [uM 48 46, uB 49 (.idxaddr 4) 44 46, uO 50 lT4 49, oA 11 (.alloc [(.int .i64 0), (.int .i64 0), (.int .i64 0), (.int .i64 0)]) [], uM 10 48, oZ (.store 4) [.t 11, .t 50]]) (.seq (.ops [uM 51 10, uO 52 fA7 4, uB 53 (.arraddr 6 1) 52 51, uO 54 lF 53, uM 55 8, uB 56 bE 54 55, uM 57 56, gO 58 fA0 11 57 true, gO 59 lF 58 57 true, gB 60 (.arraddr 10 1) 6 59 57 true, gO 61 lF 60 57 true, gM 62 61 57 true, gO 63 fA1 11 62 false, gO 64 lF 63 62 false, gB 65 (.arraddr 10 1) 6 64 62 false, gO 66 lF 65 62 false, oG 67 .pick [.t 62, kT, .t 66] 57 true, oA 68 .pick [.t 57, .t 67, kF]]) (.cond (.t 68) (.draw [(false, uO 69 fA0 11), (false, uO 70 lF 69), (true, uO 71 fA1 11), (true, uO 72 lF 71), (false, uB 73 (.arraddr 10 1) 6 70)] (.one (oZ (.store 1) [.t 73, kT]) [uO 72 lF 71] (.one (uB 74 (.arraddr 10 1) 6 72) [] (.one (oZ (.store 1) [.t 74, kT]) [] .done)))) .skip)))) (.ops [oA 75 bA [.t 46, (kI 1)], uM 46 75])))))))))) (.ops [oA 76 bA [.t 27, (kI 1)], uM 27 76]))))))) (.seq (.ops [uO 77 (.load true 10) 6, oZ (.store 10) [.t 6, .t 77]]) .ret))))
theorem fc92 : fnC Tryz.prog 92 cert92 = some (78, [.cell 6 148], ac92) := by kernel_rfl
def cert93 : Nat → Option Cert := fun _ => none
def ac93 : ACode :=(.seq (.ops [uO 2 .box 0, oA 4 .mov [(.c .any)]]) (.seq (.ops [oA 10 .mkmap [], uM 5 10]) (.seq (.seq (.ops [uO 11 fA7 2, uO 12 lF 11, uO 13 .len 12, oA 14 .mov [(kI 0)]]) (.block 0 (.loop (.seq (.ops [uB 15 bL 14 13]) (.seq (.cond (.t 15) .skip (.exit 0)) (.seq (.block 1 (.seq (.ops [uB 16 (.idxaddr 2) 12 14, uO 17 lT2 16, oA 7 (.alloc [(.int .i64 0), (.int .i64 0)]) [], oZ (.store 2) [.t 7, .t 17]]) (.ops [uM 18 5, uO 19 fA0 7, uO 20 lF 19, uO 21 fA1 7, uO 22 lF 21, uB 23 (.build [(.int .i64 0), (.int .i64 0)] [(0, 1), (1, 1)]) 20 22, oZ .mapupd [.t 18, .t 23, kT]]))) (.ops [oA 24 bA [.t 14, (kI 1)], uM 14 24]))))))) (.seq (.seq (.ops [uM 25 1, uO 26 .len 25, oA 27 .mov [(kI 0)]]) (.block 2 (.loop (.seq (.ops [uB 28 bL 27 26]) (.seq (.cond (.t 28) .skip (.exit 2)) (.seq (.block 3 (.seq (.ops [uB 29 (.idxaddr 2) 25 27, uO 30 lT2 29, oA 9 (.alloc [(.int .i64 0), (.int .i64 0)]) [], oZ (.store 2) [.t 9, .t 30]]) (.ops [uM 31 5, uO 32 lT2 9, oZ .mapupd [.t 31, .t 32, kT]]))) (.ops [oA 33 bA [.t 27, (kI 1)], uM 27 33]))))))) (.seq (.ops [uM 34 5, uM 4 34]) .ret)))))
theorem fc93 : fnC Tryz.prog 93 cert93 = some (35, [.tmp 4], ac93) := by kernel_rfl
def cert95 : Nat → Option Cert := fun
  | 18 => some ⟨[0, 1, 2, 3, 4, 5, 6, 7, 8, 9, 10, 11, 12, 13, 14, 15, 16, 17, 18, 19, 20, 21, 22, 23, 24], .done, [[], [0], [], [0, 1, 2], [0, 1, 2, 3], [0, 1, 2, 3, 4], [0, 1, 2, 3, 4, 5], [0, 1, 2, 3, 4, 5, 6], [0, 1, 2, 3, 4, 5, 6, 7], [0, 1, 2, 3, 4, 5, 6, 7, 8], [0, 1, 2, 3, 4, 5, 6, 7, 8, 9], [0, 1, 2, 3, 4, 5, 6, 7, 8, 9, 10], [0, 1, 2, 3, 4, 5, 6, 7, 8, 9, 10, 11], [0, 1, 2, 3, 4, 5, 6, 7, 8, 9, 10], [0, 1, 2, 3, 4, 5, 6, 7, 8, 9, 10, 11, 12, 13], [0, 1, 2, 3, 4, 5, 6, 7, 8, 9, 10, 11, 12, 13, 14], [0, 1, 2, 3, 4, 5, 6, 7, 8, 9, 10], [0, 1, 2, 3, 4, 5, 6, 7, 8, 9, 10, 16], [0, 1, 2, 3, 4, 5, 6, 7, 8, 9, 10], [0, 1, 2, 3, 4, 5, 6, 7, 8, 9, 10, 18], [0, 1, 2, 3, 4, 5, 6, 7, 8, 9, 10, 16, 17, 18, 19], [0, 1, 2, 3, 4, 5, 6, 7, 8, 9, 10, 16, 17, 18, 19, 20], [0, 1, 2, 3, 4, 5, 6, 7, 8, 9, 10, 11, 12, 13, 14, 15, 16, 17, 18, 19, 20, 21], [0, 1, 2, 3, 4, 5, 6, 7, 8, 9, 10, 11, 12, 13, 14, 15, 16, 17, 18, 19, 20, 21, 22], [0, 1, 2, 3, 4, 5, 6, 7, 8, 9, 10, 11, 12, 13, 14, 15, 16, 17, 18, 19, 20, 21, 22, 23]]⟩
  | _ => none
def ac95 : ACode :=(.seq (.ops [uO 1 .box 0, oA 2 .mov [(kI 0)]]) (.seq (.seq (.ops [uO 8 fA0 1, uO 9 lF 8, uO 10 .len 9, oA 11 (.bin .gtr) [.t 10, (kI 5)], uM 12 11, gO 13 fA1 1 12 false, gO 14 lF 13 12 false, gO 15 .len 14 12 false, oG 16 (.bin .gtr) [.t 15, (kI 7)] 12 false, oA 17 .pick [.t 12, kT, .t 16]]) (.cond (.t 17) (.seq (.ops [oA 2 .mov [(kI 3)]]) .ret) .skip)) (.seq (.seq (.ops [uO 18 fA2 1, uO 19 lF 18, oA 20 (.call 47) [.t 19, (kI 0), (kI 5)], uO 21 .not 20]) (.cond (.t 21) (.seq (.ops [oA 2 .mov [(kI 1)]]) .ret) .skip)) (.seq (.seq (.ops [oA 3 .mov [(kI 0)]]) (.block 0 (.loop (.seq (.seq (.ops [uM 22 3, uO 23 fA0 1, uO 24 lF 23, uO 25 .len 24, uB 26 bL 22 25]) (.cond (.t 26) .skip (.exit 0))) (.seq (.block 1 (.seq (.ops [uO 29 fA0 1, uO 30 lF 29, uM 31 3, uB 32 (.idxaddr 3) 30 31, uO 33 lT3 32, oA 4 (.alloc [(.int .i64 0), (.int .i64 0), (.int .i64 0)]) [], oZ (.store 3) [.t 4, .t 33]]) (.seq (.ops [uO 34 fA0 4, uO 35 lF 34, oA 36 (.call 47) [.t 35, (kI 0), (kI 9)], uO 37 .not 36, uM 38 37, gO 39 fA1 4 38 false, gO 40 fA0 39 38 false, gO 41 lF 40 38 false, oG 42 bL [.t 41, (kI 0)] 38 false, oA 43 .pick [.t 38, kT, .t 42], uM 44 43, gO 45 fA1 4 44 false, gO 46 fA0 45 44 false, gO 47 lF 46 44 false, gO 48 fA1 4 44 false, gO 49 fA1 48 44 false, gO 50 lF 49 44 false, gB 51 (.bin .gtr) 47 50 44 false, oA 52 .pick [.t 44, kT, .t 51], uM 53 52, gO 54 fA1 4 53 false, gO 55 fA1 54 53 false, gO 56 lF 55 53 false, oG 57 (.bin .gtr) [.t 56, (kI 7)] 53 false, oA 58 .pick [.t 53, kT, .t 57]]) (.cond (.t 58) (.seq (.ops [oA 2 .mov [(kI 1)]]) .ret) .skip)))) (.ops [uM 27 3, oA 28 bA [.t 27, (kI 1)], uM 3 28])))))) (.seq (.seq (.ops [oA 5 .mov [(kI 0)]]) (.block 2 (.loop (.seq (.seq (.ops [uM 59 5, uO 60 fA1 1, uO 61 lF 60, uO 62 .len 61, uB 63 bL 59 62]) (.cond (.t 63) .skip (.exit 2))) (.seq (.block 3 (.seq (.ops [uO 66 fA1 1, uO 67 lF 66, uM 68 5, uB 69 (.idxaddr 2) 67 68, uO 70 lT2 69, oA 6 (.alloc [.emp, (.int .i64 0)]) [], oZ (.store 2) [.t 6, .t 70]]) (.seq (.seq (.ops [oA 7 .mov [(kI 0)]]) (.block 4 (.loop (.seq (.seq (.ops [uM 71 7, uO 72 fA0 6, uO 73 lF 72, uO 74 .len 73, uB 75 bL 71 74]) (.cond (.t 75) .skip (.exit 4))) (.seq (.block 5 (.seq (.draw [(false, uO 78 fA0 6), (false, uO 79 lF 78), (false, uM 80 7), (false, uB 81 (.idxaddr 1) 79 80), (false, uO 82 lF 81), (false, oA 83 (.call 47) [.t 82, (kI 0), (kI 9)]), (false, uO 84 .not 83), (false, uM 85 84), (false, gM 86 7 85 false), (false, oG 87 (.bin .gtr) [.t 86, (kI 0)] 85 false), (false, gM 88 87 85 false), (false, gO 89 fA0 6 88 true), (false, gO 90 lF 89 88 true), (false, gM 91 7 88 true), (false, gB 92 (.idxaddr 1) 90 91 88 true), (false, gO 93 lF 92 88 true), (false, gO 94 fA0 6 88 true), (false, gO 95 lF 94 88 true), (false, gM 96 7 88 true), (false, oG 97 (.bin .sub) [.t 96, (kI 1)] 88 true), (false, gB 98 (.idxaddr 1) 95 97 88 true), (false, gO 99 lF 98 88 true), (false, gB 100 (.bin .leq) 93 99 88 true), (false, oG 101 .pick [.t 88, .t 100, kF] 85 false), (false, oA 102 .pick [.t 85, kT, .t 101])] .done) (.cond (.t 102) (.seq (.ops [oA 2 .mov [(kI 1)]]) .ret) .skip))) (.ops [uM 76 7, oA 77 bA [.t 76, (kI 1)], uM 7 77])))))) (.seq (.ops [uO 103 fA1 6, uO 104 lF 103, uO 105 fA0 1, uO 106 lF 105, uO 107 .len 106, oA 108 (.bin .sub) [.t 107, (kI 1)], oA 109 (.call 47) [.t 104, (kI 0), .t 108], uO 110 .not 109, uM 111 110, gO 112 lT3 1 111 false, gM 113 5 111 false, gB 114 (.call 132) 112 113 111 false, gO 115 .len 114 111 false, oG 116 bE [.t 115, (kI 0)] 111 false, oA 117 .pick [.t 111, kT, .t 116]]) (.cond (.t 117) (.seq (.ops [oA 2 .mov [(kI 1)]]) .ret) .skip))))) (.ops [uM 64 5, oA 65 bA [.t 64, (kI 1)], uM 5 65])))))) (.seq (.seq (.ops [uO 118 lT3 1, uO 119 (.call 98) 118, oA 120 (.bin .gtr) [.t 119, (kI 2000)]]) (.cond (.t 120) (.seq (.ops [oA 2 .mov [(kI 3)]]) .ret) .skip)) (.seq (.ops [oA 2 .mov [(kI 0)]]) .ret)))))))
theorem fc95 : fnC Tryz.prog 95 cert95 = some (121, [.tmp 2], ac95) := by kernel_rfl
def cert96 : Nat → Option Cert := fun _ => none
def ac96 : ACode :=(.seq (.ops [uO 2 .box 0, oA 4 .mov [kF]]) (.seq (.ops [uM 5 1, uO 6 lT9 2, uO 7 (.call 25) 6, oA 8 (.bin .sub) [.t 7, (kI 1)], oA 9 (.call 47) [.t 5, (kI 0), .t 8], uM 4 9]) .ret))
theorem fc96 : fnC Tryz.prog 96 cert96 = some (10, [.tmp 4], ac96) := by kernel_rfl
def cert97 : Nat → Option Cert := fun _ => none
def ac97 : ACode :=(.seq (.ops [uO 2 .box 0, oA 4 .mov [kF]]) (.seq (.ops [uM 5 1, uO 6 fA5 2, uO 7 lF 6, oA 8 (.call 47) [.t 5, (kI 0), .t 7], uM 4 8]) .ret))
theorem fc97 : fnC Tryz.prog 97 cert97 = some (9, [.tmp 4], ac97) := by kernel_rfl
def cert98 : Nat → Option Cert := fun _ => none
def ac98 : ACode :=(.seq (.ops [uO 1 .box 0, oA 2 .mov [(kI 0)]]) (.seq (.ops [oA 3 .mov [(kI 1)]]) (.seq (.seq (.ops [oA 4 .mov [(kI 0)]]) (.block 0 (.loop (.seq (.seq (.ops [uM 5 4, uO 6 fA1 1, uO 7 lF 6, uO 8 .len 7, uB 9 bL 5 8]) (.cond (.t 9) .skip (.exit 0))) (.seq (.block 1 (.ops [uM 12 3, uO 13 lT3 1, uM 14 4, uB 15 (.call 132) 13 14, uO 16 .len 15, uB 17 (.bin .mul) 12 16, oA 18 .min [(kI 3000), .t 17], uM 3 18])) (.ops [uM 10 4, oA 11 bA [.t 10, (kI 1)], uM 4 11])))))) (.seq (.ops [uM 19 3, uM 2 19]) .ret))))
theorem fc98 : fnC Tryz.prog 98 cert98 = some (20, [.tmp 2], ac98) := by kernel_rfl
def cert99 : Nat → Option Cert := fun _ => none
def ac99 : ACode :=(.seq (.ops [uO 2 .box 0, oA 4 .mov [kF]]) (.seq (.ops [uM 5 1, uO 6 fA5 2, uO 7 lF 6, oA 8 (.call 131) [.t 5, (kI 0), .t 7], uM 4 8]) .ret))
theorem fc99 : fnC Tryz.prog 99 cert99 = some (9, [.tmp 4], ac99) := by kernel_rfl
def cert100 : Nat → Option Cert := fun
  | 3 => some ⟨[0, 1, 2, 3, 4, 5], .done, [[], [], [], [1, 2], [0, 1, 2, 3], [0, 1, 2, 3, 4]]⟩
  | 7 => some ⟨[0, 1, 3, 4, 6, 7, 8, 9], (.one 2 (.one 5 (.one 10 .done))), [[], [], [1], [], [3], [1, 2, 3, 4], [], [6], [], [8], [0, 1, 2, 3, 4, 5, 6, 7, 8, 9]]⟩
  | _ => none
def ac100 : ACode :=(.seq (.ops [oA 11 .mov [kF]]) (.seq (.seq (.ops [uM 13 2, oA 14 bE [.t 13, (kI 0)]]) (.cond (.t 14) (.seq (.ops [uM 15 0, oZ (.store 1) [.t 3, .t 15]]) (.seq (.draw [(false, uO 16 lF 4), (false, uM 17 0), (false, uO 18 lF 5), (false, uB 19 (.call 102) 17 18), (false, uB 20 (.call 101) 16 19), (false, uM 11 20)] .done) .ret)) .skip)) (.seq (.seq (.ops [uM 21 1, uM 12 21]) (.block 0 (.loop (.seq (.seq (.ops [uM 22 12, uO 23 lT9 6, uO 24 (.call 77) 23, uM 25 2, uB 26 (.bin .sub) 24 25, uB 27 (.bin .leq) 22 26]) (.cond (.t 27) .skip (.exit 0))) (.seq (.block 1 (.seq (.draw [(true, uO 30 lF 7), (false, uM 31 0), (true, uM 33 12), (true, uO 34 (.bslice 1) 33), (true, uM 36 12), (true, oA 37 bA [.t 36, (kI 1)]), (true, uM 38 2), (true, oA 39 (.bin .sub) [.t 38, (kI 1)])] (.one (uO 32 (.call 85) 31) [uO 30 lF 7] (.one (uB 35 (.append 1 8) 32 34) [uO 30 lF 7] (.one (oA 40 .callv [.t 30, .t 35, .t 37, .t 39]) [] .done)))) (.cond (.t 40) (.seq (.ops [oA 11 .mov [kT]]) .ret) .skip))) (.ops [uM 28 12, oA 29 bA [.t 28, (kI 1)], uM 12 29])))))) (.seq (.ops [oA 11 .mov [kF]]) .ret))))
theorem fc100 : fnC Tryz.prog 100 cert100 = some (41, [.tmp 11], ac100) := by kernel_rfl
def cert101 : Nat → Option Cert := fun _ => none
def ac101 : ACode :=(.seq (.ops [uO 2 .box 0, oA 4 .mov [kF]]) (.seq (.ops [uO 6 lF 2, uO 7 .nilchk 6, uO 8 fA0 7, uO 9 lT9 8, uM 10 1, uB 11 (.call 93) 9 10, oA 5 (.alloc [.any]) [], oZ (.store 1) [.t 5, .t 11]]) (.seq (.ops [uO 12 lF 2, uO 13 .nilchk 12, uO 14 fA9 13, uO 15 lF 14, uB 16 (.mkfunc (.func 134) 0) 2 5, uB 17 (.call 133) 15 16, uM 4 17]) .ret)))
theorem fc101 : fnC Tryz.prog 101 cert101 = some (18, [.tmp 4], ac101) := by kernel_rfl
def cert102 : Nat → Option Cert := fun _ => none
def ac102 : ACode :=(.seq (.ops [oA 4 .mov [kE]]) (.seq (.seq (.ops [uM 7 0, uO 8 .len 7, oA 9 .mov [(kI 0)]]) (.block 0 (.loop (.seq (.ops [uB 10 bL 9 8]) (.seq (.cond (.t 10) .skip (.exit 0)) (.seq (.block 1 (.seq (.ops [uB 11 (.idxaddr 1) 7 9, uO 12 lF 11, uM 6 12]) (.ops [uM 13 4, uM 14 6, uM 15 1, uB 16 (.build [(.int .i64 0), (.int .i64 0)] [(0, 1), (1, 1)]) 14 15, uO 17 (.bslice 2) 16, uB 18 (.append 2 16) 13 17, uM 4 18]))) (.ops [oA 19 bA [.t 9, (kI 1)], uM 9 19]))))))) (.seq (.ops [uM 20 4, uM 4 20]) .ret)))
theorem fc102 : fnC Tryz.prog 102 cert102 = some (21, [.tmp 4], ac102) := by kernel_rfl
def cert103 : Nat → Option Cert := fun
  | 7 => some ⟨[0, 1, 2, 3, 4, 5, 6, 7, 8, 9, 10, 11, 12, 13, 14, 15, 16, 17, 18, 19, 20, 21, 22, 23, 24, 25, 26, 27, 28, 29, 30], .done, [[], [], [0, 1], [0, 1, 2], [], [4], [0, 1, 2, 3, 4, 5], [0, 1, 2, 3, 4, 5, 6], [0, 1, 2, 3, 4, 5, 6, 7], [0, 1, 2, 3, 4, 5, 6, 7, 8], [0, 1, 2, 3, 4, 5, 6, 7, 8, 9], [0, 1, 2, 3, 4, 5, 6, 7, 8, 9, 10], [0, 1, 2, 3, 4, 5, 6, 7, 8, 9, 10, 11], [0, 1, 2, 3, 4, 5, 6, 7, 8, 9, 10, 11, 12], [0, 1, 2, 3, 4, 5, 6, 7, 8, 9, 10, 11, 12, 13], [0, 1, 2, 3, 4, 5, 6, 7, 8, 9, 10, 11, 12, 13, 14], [0, 1, 2, 3, 4, 5, 6, 7, 8, 9, 10, 11, 12, 13, 14, 15], [0, 1, 2, 3, 4, 5, 6, 7, 8, 9, 10, 11, 12, 13, 14, 15, 16], [0, 1, 2, 3, 4, 5, 6, 7, 8, 9, 10, 11, 12, 13, 14, 15, 16, 17], [0, 1, 2, 3, 4, 5, 6, 7, 8, 9, 10, 11, 12, 13, 14], [0, 1, 2, 3, 4, 5, 6, 7, 8, 9, 10, 11, 12, 13, 14, 19], [0, 1, 2, 3, 4, 5, 6, 7, 8, 9, 10, 11, 12, 13, 14, 19, 20], [0, 1, 2, 3, 4, 5, 6, 7, 8, 9, 10, 11, 12, 13, 14, 19, 20, 21], [0, 1, 2, 3, 4, 5, 6, 7, 8, 9, 10, 11, 12, 13, 14, 19, 20, 21, 22], [0, 1, 2, 3, 4, 5, 6, 7, 8, 9, 10, 11, 12, 13, 14, 19, 20, 21, 22, 23], [0, 1, 2, 3, 4, 5, 6, 7, 8, 9, 10, 11, 12, 13, 14, 15, 16, 17, 18, 19, 20, 21, 22, 23, 24], [0, 1, 2, 3, 4, 5, 6, 7, 8, 9, 10, 11, 12, 13, 14, 15, 16, 17, 18, 19, 20, 21, 22, 23, 24, 25], [0, 1, 2, 3, 4, 5, 6, 7, 8, 9, 10, 11, 12, 13, 14], [0, 1, 2, 3, 4, 5, 6, 7, 8, 9, 10, 11, 12, 13, 14, 15, 16, 17, 18, 19, 20, 21, 22, 23, 24, 25, 26, 27], [0, 1, 2, 3, 4, 5, 6, 7, 8, 9, 10, 11, 12, 13, 14, 15, 16, 17, 18, 19, 20, 21, 22, 23, 24, 25, 26, 27, 28], [0, 1, 2, 3, 4, 5, 6, 7, 8, 9, 10, 11, 12, 13, 14, 15, 16, 17, 18, 19, 20, 21, 22, 23, 24, 25, 26, 27, 28, 29]]⟩
  | 8 => some ⟨[0, 1, 2, 3, 4, 5, 6], (.one 7 (.one 8 (.one 9 (.one 10 .done)))), [[], [], [1], [1, 2], [1, 2, 3], [], [5], [1, 2, 3, 4, 5, 6], [0, 1, 2, 3, 4, 5, 6, 7], [0, 1, 2, 3, 4, 5, 6, 7, 8], [0, 1, 2, 3, 4, 5, 6, 7, 8, 9]]⟩
  | 12 => some ⟨[0, 1, 2, 3, 4, 5, 6, 7, 8, 9, 10], (.one 11 (.one 12 (.one 13 .done))), [[], [0], [0, 1], [0, 1, 2], [], [], [5], [5, 6], [4, 5, 6, 7], [0, 1, 2, 3, 4, 5, 6, 7, 8], [0, 1, 2, 3, 4, 5, 6, 7, 8, 9], [0, 1, 2, 3, 4, 5, 6, 7, 8], [0, 1, 2, 3, 4, 5, 6, 7, 8, 11], [0, 1, 2, 3, 4, 5, 6, 7, 8, 9, 10, 11, 12]]⟩
  | _ => none
def ac103 (ga gb : Code) : ACode :=(.seq (.ops [uO 1 .box 0, oA 2 .mov [(.c .nilp)], oA 3 .mov [(kI 0)]]) (.seq (.seq (.ops [uO 8 lT3 1, uO 9 (.call 135) 8, uM 4 9]) (.seq (.ops [uM 10 4, oA 11 bN [.t 10, (kI 0)]]) (.cond (.t 11) (.seq (.ops [uM 12 4, oA 2 .mov [(.c .nilp)], uM 3 12]) .ret) .skip))) (.seq (.ops [uO 13 lT3 1, oA 14 .mkmap [], oA 15 (.build [.emp, .emp, (.int .i64 0), .emp, .any] [(0, 3), (3, 1), (4, 1)]) [.t 13, kE, .t 14], uO 16 .box 15, oA 5 (.alloc [.nilp]) [], oZ (.store 1) [.t 5, .t 16]]) (.seq (.seq (.ops [uO 17 lT3 1, uO 18 (.call 136) 17]) (.block 0 (.range (.t 18) #[19] ga gb))) (.seq (.seq (.ops [uO 81 lF 5, uO 82 .nilchk 81, uO 83 fA3 82, uO 84 lF 83, uO 85 .len 84, oA 86 bE [.t 85, (kI 0)]]) (.cond (.t 86) (.seq (.ops [oA 2 .mov [(.c .nilp)], oA 3 .mov [(kI 11)]]) .ret) .skip)) (.seq (.ops [uO 87 lF 5, uM 2 87, oA 3 .mov [(kI 0)]]) .ret))))))
theorem fc103 : fnC Tryz.prog 103 cert103 = some (88, [.tmp 2, .tmp 3], (ac103 (rangeF Tryz.f103).1 (rangeF Tryz.f103).2)) := by kernel_rfl
def aga103 : ACode :=(.ops [oA 6 (.alloc [(.int .i64 0), (.int .i64 0), (.int .i64 0), (.int .i64 0), (.int .i64 0), (.int .i64 0), (.int .i64 0)]) [], oZ (.store 7) [.t 6, .t 19]])
def agb103 : ACode :=(.block 1 (.seq (.seq (.draw [(false, uO 20 lT3 1), (false, uO 21 lT7 6), (false, uB 22 (.call 137) 20 21), (false, uO 23 .len 22), (false, uO 24 fA2 1), (false, uO 25 lF 24), (false, uB 26 (.bin .gtr) 23 25), (false, uM 27 26), (false, gO 28 lF 5 27 false), (false, gO 29 .nilchk 28 27 false), (false, gO 30 fA3 29 27 false), (false, gO 31 lF 30 27 false), (false, gO 32 .len 31 27 false), (false, oG 33 (.bin .gtr) [.t 32, (kI 0)] 27 false), (false, gM 34 33 27 false), (false, gO 35 lF 5 34 true), (false, gO 36 .nilchk 35 34 true), (false, gO 37 fA3 36 34 true), (false, gO 38 lF 37 34 true), (false, gO 39 lF 5 34 true), (false, gO 40 .nilchk 39 34 true), (false, gO 41 fA3 40 34 true), (false, gO 42 lF 41 34 true), (false, gO 43 .len 42 34 true), (false, oG 44 (.bin .sub) [.t 43, (kI 1)] 34 true), (false, gB 45 (.idxaddr 7) 38 44 34 true), (false, gO 46 lT7 45 34 true), (false, gO 47 lT7 6 34 true), (false, gB 48 (.eqagg true 7) 46 47 34 true), (false, oG 49 .pick [.t 34, .t 48, kF] 27 false), (false, oA 50 .pick [.t 27, kT, .t 49])] .done) (.cond (.t 50) (.exit 1) .skip)) (.seq (.draw [(true, uO 51 lF 5), (false, uO 52 lF 5), (false, uO 53 .nilchk 52), (false, uO 54 fA3 53), (false, uO 55 lF 54), (false, uO 56 lT7 6), (false, uO 57 (.bslice 7) 56)] (.one (uB 58 (.append 7 56) 55 57) [uO 51 lF 5] (.one (uO 59 .nilchk 51) [] (.one (uO 60 fA3 59) [] (.one (oZ (.store 1) [.t 60, .t 58]) [] .done))))) (.seq (.ops [uO 61 fA1 1, uO 62 lF 61, uO 63 .len 62, oA 64 .mov [(kI 0)]]) (.block 2 (.loop (.seq (.ops [uB 65 bL 64 63]) (.seq (.cond (.t 65) .skip (.exit 2)) (.seq (.block 3 (.seq (.ops [uM 66 64, uM 7 66]) (.draw [(false, uO 67 lF 5), (false, uO 68 .nilchk 67), (false, uO 69 fA4 68), (false, uO 70 lF 69), (false, uM 71 7), (false, uM 72 7), (false, uB 73 (.arraddr 7 1) 6 72), (false, uO 74 lF 73), (false, uB 75 (.build [(.int .i64 0), (.int .i64 0)] [(0, 1), (1, 1)]) 71 74), (true, uB 76 (.lookup (.int .i64 0)) 70 75), (true, oA 77 bA [.t 76, (kI 1)])] (.one (uB 78 (.mapent (.int .i64 0)) 70 75) [uB 76 (.lookup (.int .i64 0)) 70 75] (.one (uO 79 x1 78) [uB 76 (.lookup (.int .i64 0)) 70 75] (.one (oZ .entstore [.t 70, .t 79, .t 77]) [] .done)))))) (.ops [oA 80 bA [.t 64, (kI 1)], uM 64 80]))))))))))
theorem tga103 : tr Tryz.prog 88 cert103 false (rangeF Tryz.f103).1 = some aga103 := by kernel_rfl
theorem tgb103 : tr Tryz.prog 88 cert103 false (rangeF Tryz.f103).2 = some agb103 := by kernel_rfl
def cert104 : Nat → Option Cert := fun _ => none
def ac104 : ACode :=(.seq (.ops [oA 2 .mov [kE]]) (.seq (.ops [uM 3 0, oA 4 (.append 1 8) [kE, .t 3], uM 2 4]) .ret))
theorem fc104 : fnC Tryz.prog 104 cert104 = some (5, [.tmp 2], ac104) := by kernel_rfl
def cert106 : Nat → Option Cert := fun _ => none
def ac106 : ACode :=(.seq (.ops [oA 4 .mov [kF]]) (.seq (.ops [oA 5 .mov [(.c (.int .i64 (-1)))]]) (.seq (.seq (.ops [uM 8 0, uO 9 .len 8, oA 10 .mov [(kI 0)]]) (.block 0 (.loop (.seq (.ops [uB 11 bL 10 9]) (.seq (.cond (.t 11) .skip (.exit 0)) (.seq (.block 1 (.seq (.ops [uB 12 (.idxaddr 1) 8 10, uO 13 lF 12, uM 7 13]) (.seq (.seq (.ops [uM 14 7, uM 15 5, oA 16 bA [.t 15, (kI 1)], uM 17 1, oA 18 (.bin .sub) [.t 17, (kI 1)], oA 19 (.call 131) [.t 14, .t 16, .t 18], uO 20 .not 19]) (.cond (.t 20) (.seq (.ops [oA 4 .mov [kF]]) .ret) .skip)) (.ops [uM 21 7, uM 5 21])))) (.ops [oA 22 bA [.t 10, (kI 1)], uM 10 22]))))))) (.seq (.ops [oA 4 .mov [kT]]) .ret))))
theorem fc106 : fnC Tryz.prog 106 cert106 = some (23, [.tmp 4], ac106) := by kernel_rfl
def cert107 : Nat → Option Cert := fun
  | 3 => some ⟨[0, 1, 2, 3, 4, 5], .done, [[], [], [], [1, 2], [0, 1, 2, 3], [0, 1, 2, 3, 4]]⟩
  | 7 => some ⟨[0, 1, 3, 4, 6, 7], (.one 2 (.one 5 (.one 8 .done))), [[], [], [1], [], [3], [1, 2, 3, 4], [], [6], [0, 1, 2, 3, 4, 5, 6, 7]]⟩
  | _ => none
def ac107 : ACode :=(.seq (.ops [oA 9 .mov [kF]]) (.seq (.seq (.ops [uM 11 1, oA 12 bE [.t 11, (kI 0)]]) (.cond (.t 12) (.seq (.ops [uM 13 0, oZ (.store 1) [.t 2, .t 13]]) (.seq (.draw [(false, uO 14 lF 3), (false, uM 15 0), (false, uO 16 lF 4), (false, uB 17 (.call 108) 15 16), (false, uB 18 (.call 101) 14 17), (false, uM 9 18)] .done) .ret)) .skip)) (.seq (.seq (.ops [uO 19 lT9 5, uO 20 (.call 77) 19, oA 21 .mov [(kI 0)]]) (.block 0 (.loop (.seq (.ops [uB 22 bL 21 20]) (.seq (.cond (.t 22) .skip (.exit 0)) (.seq (.block 1 (.seq (.ops [uM 23 21, uM 10 23]) (.seq (.draw [(true, uO 24 lF 6), (false, uM 25 0), (true, uM 27 10), (true, uO 28 (.bslice 1) 27), (true, uM 30 1), (true, oA 31 (.bin .sub) [.t 30, (kI 1)])] (.one (uO 26 (.call 85) 25) [uO 24 lF 6] (.one (uB 29 (.append 1 8) 26 28) [uO 24 lF 6] (.one (oA 32 .callv [.t 24, .t 29, .t 31]) [] .done)))) (.cond (.t 32) (.seq (.ops [oA 9 .mov [kT]]) .ret) .skip)))) (.ops [oA 33 bA [.t 21, (kI 1)], uM 21 33]))))))) (.seq (.ops [oA 9 .mov [kF]]) .ret))))
theorem fc107 : fnC Tryz.prog 107 cert107 = some (34, [.tmp 9], ac107) := by kernel_rfl
def cert108 : Nat → Option Cert := fun _ => none
def ac108 : ACode :=(.seq (.ops [oA 4 .mov [kE]]) (.seq (.seq (.ops [uM 7 0, uO 8 .len 7, oA 9 .mov [(kI 0)]]) (.block 0 (.loop (.seq (.ops [uB 10 bL 9 8]) (.seq (.cond (.t 10) .skip (.exit 0)) (.seq (.block 1 (.seq (.ops [uM 11 9, uB 12 (.idxaddr 1) 7 9, uO 13 lF 12, uM 5 11, uM 6 13]) (.ops [uM 14 4, uM 15 6, uM 16 1, uM 17 5, uB 18 bA 16 17, uB 19 (.build [(.int .i64 0), (.int .i64 0)] [(0, 1), (1, 1)]) 15 18, uO 20 (.bslice 2) 19, uB 21 (.append 2 16) 14 20, uM 4 21]))) (.ops [oA 22 bA [.t 9, (kI 1)], uM 9 22]))))))) (.seq (.ops [uM 23 4, uM 4 23]) .ret)))
theorem fc108 : fnC Tryz.prog 108 cert108 = some (24, [.tmp 4], ac108) := by kernel_rfl
def cert109 : Nat → Option Cert := fun _ => none
def ac109 : ACode :=(.seq (.ops [uO 2 .box 0, oA 4 .mov [(kI 0)]]) (.seq (.ops [uO 5 fA5 2, uO 6 lF 5, uM 7 1, uB 8 (.bin .sub) 6 7, oA 9 bA [.t 8, (kI 1)], oA 10 (.bslice 1) [(kI 3), .t 9], uO 11 (.call 138) 10, uM 4 11]) .ret))
theorem fc109 : fnC Tryz.prog 109 cert109 = some (12, [.tmp 4], ac109) := by kernel_rfl
def cert110 : Nat → Option Cert := fun _ => none
def ac110 : ACode :=(.seq (.ops [uO 3 .box 1, oA 4 .mov [kF]]) (.seq (.ops [uM 5 0, uO 6 (.mkfunc (.func 140) 0) 3, uB 7 (.call 139) 5 6, uO 8 .not 7, uM 4 8]) .ret))
theorem fc110 : fnC Tryz.prog 110 cert110 = some (9, [.tmp 4], ac110) := by kernel_rfl
def cert111 : Nat → Option Cert := fun _ => none
def ac111 : ACode :=(.seq (.ops [uO 2 .box 0, oA 4 .mov [kF]]) (.seq (.ops [uM 5 1, uO 6 lT9 2, uO 7 (.call 77) 6, oA 8 (.bin .sub) [.t 7, (kI 1)], oA 9 (.call 131) [.t 5, (kI 0), .t 8], uM 4 9]) .ret))
theorem fc111 : fnC Tryz.prog 111 cert111 = some (10, [.tmp 4], ac111) := by kernel_rfl
def cert113 : Nat → Option Cert := fun _ => none
def ac113 : ACode :=(.seq (.ops [uO 1 .box 0, oA 2 .mov [kF]]) (.seq (.seq (.ops [uO 4 fA0 1, uO 5 lF 4, uO 6 .len 5, oA 7 (.bin .gtr) [.t 6, (kI 30)], uM 8 7, gO 9 fA1 1 8 false, gO 10 lF 9 8 false, gO 11 .len 10 8 false, oG 12 (.bin .gtr) [.t 11, (kI 30)] 8 false, oA 13 .pick [.t 8, kT, .t 12]]) (.cond (.t 13) (.seq (.ops [oA 2 .mov [kF]]) .ret) .skip)) (.seq (.seq (.ops [oA 3 .mov [(kI 0)]]) (.block 0 (.loop (.seq (.seq (.ops [uM 14 3, uO 15 fA1 1, uO 16 lF 15, uO 17 .len 16, uB 18 bL 14 17]) (.cond (.t 18) .skip (.exit 0))) (.seq (.block 1 (.seq (.ops [uO 21 fA1 1, uO 22 lF 21, uM 23 3, uB 24 (.idxaddr 2) 22 23, uO 25 fA0 24, uO 26 lF 25, uO 27 .len 26, oA 28 (.bin .gtr) [.t 27, (kI 30)]]) (.cond (.t 28) (.seq (.ops [oA 2 .mov [kF]]) .ret) .skip))) (.ops [uM 19 3, oA 20 bA [.t 19, (kI 1)], uM 3 20])))))) (.seq (.ops [oA 2 .mov [kT]]) .ret))))
theorem fc113 : fnC Tryz.prog 113 cert113 = some (29, [.tmp 2], ac113) := by kernel_rfl
def cert114 : Nat → Option Cert := fun
  | 4 => some ⟨[0, 1, 2, 3, 4, 5, 6, 7, 8, 9, 10, 11, 12], .done, [[], [], [0, 1], [0, 1, 2], [0, 1, 2, 3], [0, 1, 2, 3, 4], [0, 1, 2, 3, 4, 5], [0, 1, 2, 3, 4, 5, 6], [0, 1, 2, 3, 4, 5, 6, 7], [0, 1, 2, 3, 4], [0, 1, 2, 3, 4, 9], [0, 1, 2, 3, 4, 5, 6, 7, 8, 9, 10], [0, 1, 2, 3, 4, 5, 6, 7, 8, 9, 10, 11]]⟩
  | _ => none
def ac114 : ACode :=(.seq (.ops [uO 3 .box 0, uO 4 .box 1, oA 6 .mov [kF]]) (.seq (.seq (.ops [uO 9 fA8 3, uO 10 lF 9, uO 11 .len 10, oA 12 .mov [(kI 0)]]) (.block 0 (.loop (.seq (.ops [uB 13 bL 12 11]) (.seq (.cond (.t 13) .skip (.exit 0)) (.seq (.block 1 (.seq (.ops [uM 14 12, uB 15 (.idxaddr 2) 10 12, uO 16 lT2 15, oA 8 (.alloc [(.int .i64 0), (.bool false)]) [], uM 7 14, oZ (.store 2) [.t 8, .t 16]]) (.seq (.draw [(false, uM 17 2), (false, uM 18 7), (false, uB 19 (.call 141) 17 18), (false, uO 20 .not 19), (false, uM 21 20), (false, gO 22 fA0 8 21 true), (false, gO 23 lF 22 21 true), (false, gB 24 (.arraddr 10 1) 4 23 21 true), (false, gO 25 lF 24 21 true), (false, gO 26 fA1 8 21 true), (false, gO 27 lF 26 21 true), (false, gB 28 (.binb .neq) 25 27 21 true), (false, oA 29 .pick [.t 21, .t 28, kF])] .done) (.cond (.t 29) (.seq (.ops [oA 6 .mov [kF]]) .ret) .skip)))) (.ops [oA 30 bA [.t 12, (kI 1)], uM 12 30]))))))) (.seq (.ops [oA 6 .mov [kT]]) .ret)))
theorem fc114 : fnC Tryz.prog 114 cert114 = some (31, [.tmp 6], ac114) := by kernel_rfl
def cert115 : Nat → Option Cert := fun _ => none
def ac115 : ACode :=(.seq (.ops [uO 2 .box 0, uO 3 .box 1, oA 4 .mov [kF]]) (.seq (.ops [uO 5 lT9 2, uO 6 fA0 3, uO 7 lF 6, uB 8 (.call 111) 5 7, uM 9 8, gO 10 lT9 2 9 true, gO 11 fA1 3 9 true, gO 12 lF 11 9 true, gB 13 (.call 111) 10 12 9 true, oA 14 .pick [.t 9, .t 13, kF], uM 15 14, gO 16 fA0 3 15 true, gO 17 lF 16 15 true, gO 18 fA1 3 15 true, gO 19 lF 18 15 true, gB 20 bN 17 19 15 true, oA 21 .pick [.t 15, .t 20, kF], uM 22 21, gO 23 lT9 2 22 true, gO 24 fA2 3 22 true, gO 25 fA0 24 22 true, gO 26 lF 25 22 true, gB 27 (.call 99) 23 26 22 true, oA 28 .pick [.t 22, .t 27, kF], uM 29 28, gO 30 lT9 2 29 true, gO 31 fA2 3 29 true, gO 32 fA1 31 29 true, gO 33 lF 32 29 true, gB 34 (.call 99) 30 33 29 true, oA 35 .pick [.t 29, .t 34, kF], uM 36 35, gO 37 fA2 3 36 true, gO 38 fA0 37 36 true, gO 39 lF 38 36 true, gO 40 fA2 3 36 true, gO 41 fA1 40 36 true, gO 42 lF 41 36 true, gB 43 (.bin .leq) 39 42 36 true, oA 44 .pick [.t 36, .t 43, kF], uM 4 44]) .ret))
theorem fc115 : fnC Tryz.prog 115 cert115 = some (45, [.tmp 4], ac115) := by kernel_rfl
def cert116 : Nat → Option Cert := fun _ => none
def ac116 : ACode :=(.seq (.ops [uO 2 .box 0, uO 3 .box 1, oA 4 .mov [kF]]) (.seq (.ops [uO 5 lT9 2, uO 6 fA0 3, uO 7 lF 6, uB 8 (.call 111) 5 7, uM 9 8, gO 10 lT9 2 9 true, gO 11 fA1 3 9 true, gO 12 lF 11 9 true, gB 13 (.call 99) 10 12 9 true, oA 14 .pick [.t 9, .t 13, kF], uM 4 14]) .ret))
theorem fc116 : fnC Tryz.prog 116 cert116 = some (15, [.tmp 4], ac116) := by kernel_rfl
def cert117 : Nat → Option Cert := fun _ => none
def ac117 : ACode :=(.seq (.ops [uO 2 .box 0, uO 3 .box 1, oA 4 .mov [kF]]) (.seq (.ops [uO 5 lT9 2, uO 6 fA0 3, uO 7 lF 6, uB 8 (.call 111) 5 7, uM 4 8]) .ret))
theorem fc117 : fnC Tryz.prog 117 cert117 = some (9, [.tmp 4], ac117) := by kernel_rfl
def cert118 : Nat → Option Cert := fun _ => none
def ac118 : ACode :=(.seq (.ops [uO 3 .box 1, oA 4 .mov [kF]]) (.seq (.ops [uM 5 0, uO 6 (.mkfunc (.func 143) 0) 3, uB 7 (.call 142) 5 6, uO 8 .not 7, uM 4 8]) .ret))
theorem fc118 : fnC Tryz.prog 118 cert118 = some (9, [.tmp 4], ac118) := by kernel_rfl
def cert119 : Nat → Option Cert := fun _ => none
def ac119 : ACode :=(.seq (.ops [uO 3 .box 1, oA 4 .mov [kF]]) (.seq (.ops [uM 5 0, uO 6 (.mkfunc (.func 145) 0) 3, uB 7 (.call 144) 5 6, uO 8 .not 7, uM 4 8]) .ret))
theorem fc119 : fnC Tryz.prog 119 cert119 = some (9, [.tmp 4], ac119) := by kernel_rfl
def cert120 : Nat → Option Cert := fun _ => none
def ac120 : ACode :=(.seq (.ops [uO 3 .box 1, oA 4 .mov [kF]]) (.seq (.ops [uM 5 0, uO 6 (.mkfunc (.func 147) 0) 3, uB 7 (.call 146) 5 6, uO 8 .not 7, uM 4 8]) .ret))
theorem fc120 : fnC Tryz.prog 120 cert120 = some (9, [.tmp 4], ac120) := by kernel_rfl
def cert121 : Nat → Option Cert := fun _ => none
def ac121 : ACode :=(.seq (.ops [uO 1 .box 0, oA 2 .mov [(kI 0)]]) (.seq (.ops [oA 3 .mov [(kI 1)]]) (.seq (.seq (.ops [uO 11 fA0 1, uO 12 fA1 11, uO 13 lF 12, uO 14 .len 13, oA 15 .mov [(kI 0)]]) (.block 0 (.loop (.seq (.ops [uB 16 bL 15 14]) (.seq (.cond (.t 16) .skip (.exit 0)) (.seq (.block 1 (.seq (.ops [uB 17 (.idxaddr 2) 13 15, uO 18 lT2 17, oA 5 (.alloc [.emp, (.int .i64 0)]) [], oZ (.store 2) [.t 5, .t 18]]) (.seq (.ops [oA 6 .mov [(kI 0)]]) (.seq (.seq (.ops [uO 19 fA0 1, uO 20 fA0 19, uO 21 lF 20, uO 22 .len 21, oA 23 .mov [(kI 0)]]) (.block 2 (.loop (.seq (.ops [uB 24 bL 23 22]) (.seq (.cond (.t 24) .skip (.exit 2)) (.seq (.block 3 (.seq (.ops [uB 25 (.idxaddr 3) 21 23, uO 26 lT3 25, oA 8 (.alloc [(.int .i64 0), (.int .i64 0), (.int .i64 0)]) [], oZ (.store 3) [.t 8, .t 26]]) (.seq (.ops [uO 27 fA0 5, uO 28 lF 27, uO 29 fA0 8, uO 30 lF 29, uB 31 (.call 141) 28 30]) (.cond (.t 31) (.ops [uM 32 6, oA 33 bA [.t 32, (kI 1)], uM 6 33]) .skip)))) (.ops [oA 34 bA [.t 23, (kI 1)], uM 23 34]))))))) (.ops [uM 35 3, uM 36 6, uB 37 (.bin .mul) 35 36, oA 38 (.bslice 1) [.t 37, (kI 2001)], uO 39 (.call 138) 38, uM 3 39]))))) (.ops [oA 40 bA [.t 15, (kI 1)], uM 15 40]))))))) (.seq (.seq (.ops [uO 41 fA6 1, uO 42 lF 41, uO 43 .len 42, oA 44 .mov [(kI 0)]]) (.block 4 (.loop (.seq (.ops [uB 45 bL 44 43]) (.seq (.cond (.t 45) .skip (.exit 4)) (.seq (.block 5 (.seq (.ops [uB 46 (.idxaddr 4) 42 44, uO 47 lT4 46, oA 10 (.alloc [(.int .i64 0), (.int .i64 0), (.int .i64 0), (.int .i64 0)]) [], oZ (.store 4) [.t 10, .t 47]]) (.ops [uM 48 3, uO 49 fA2 10, uO 50 fA1 49, uO 51 lF 50, uO 52 fA2 10, uO 53 fA0 52, uO 54 lF 53, uB 55 (.bin .sub) 51 54, oA 56 bA [.t 55, (kI 1)], uB 57 (.bin .mul) 48 56, oA 58 (.bslice 1) [.t 57, (kI 2001)], uO 59 (.call 138) 58, uM 3 59]))) (.ops [oA 60 bA [.t 44, (kI 1)], uM 44 60]))))))) (.seq (.ops [uM 61 3, uM 2 61]) .ret)))))
theorem fc121 : fnC Tryz.prog 121 cert121 = some (62, [.tmp 2], ac121) := by kernel_rfl
def cert122 : Nat → Option Cert := fun
  | 1 => some ⟨[0, 1, 2, 3, 4, 5, 6, 7, 8, 9, 10, 11, 12, 13, 14, 15, 16], .done, [[], [], [0, 1], [0, 1, 2], [0, 1, 2, 3], [0, 1, 2, 3, 4], [0, 1, 2, 3], [0, 1, 2, 3], [0, 1, 2, 3, 4, 5, 6, 7], [0, 1, 2, 3, 4, 5, 6, 7, 8], [0, 1, 2, 3, 4, 5, 6, 7, 8, 9], [0, 1, 2, 3, 4, 5, 6, 7, 8, 9, 10], [0, 1, 2, 3], [0, 1, 2, 3, 12], [0, 1, 2, 3, 4, 5, 6, 7, 8, 9, 10, 11, 12, 13], [0, 1, 2, 3, 4, 5, 6, 7, 8, 9, 10, 11, 12, 13, 14], [0, 1, 2, 3, 4, 5, 6, 7, 8, 9, 10, 11, 12, 13, 14, 15]]⟩
  | _ => none
def ac122 : ACode :=(.seq (.ops [uO 2 .box 0, oA 4 .mov [kF]]) (.seq (.draw [(false, uO 5 lT3 2), (false, uM 6 1), (false, uB 7 (.call 148) 5 6), (false, uM 8 7), (false, gO 9 lT3 2 8 true), (false, gO 10 (.call 149) 9 8 true), (false, gO 11 lT3 2 8 true), (false, gM 12 1 8 true), (false, gB 13 (.call 150) 11 12 8 true), (false, gB 14 (.bin .andNot) 10 13 8 true), (false, gO 15 (.call 51) 14 8 true), (false, gO 16 .len 15 8 true), (false, gO 17 fA2 2 8 true), (false, gO 18 lF 17 8 true), (false, gB 19 (.bin .leq) 16 18 8 true), (false, oA 20 .pick [.t 8, .t 19, kF]), (false, uM 4 20)] .done) .ret))
theorem fc122 : fnC Tryz.prog 122 cert122 = some (21, [.tmp 4], ac122) := by kernel_rfl
def cert125 : Nat → Option Cert := fun _ => none
def ac125 : ACode :=(.seq (.ops [oA 4 (.alloc [(.int .i64 0), (.int .i64 0)]) []]) (.seq (.ops [uM 5 0, uM 6 1, uB 7 (.build [(.int .i64 0), (.int .i64 0)] [(0, 1), (1, 1)]) 5 6, oZ (.store 2) [.t 4, .t 7]]) .ret))
theorem fc125 : fnC Tryz.prog 125 cert125 = some (8, [.cell 4 130], ac125) := by kernel_rfl
def cert126 : Nat → Option Cert := fun _ => none
def ac126 : ACode :=(.seq (.ops [uO 1 .box 0, oA 2 .mov [(.c .nilf)]]) (.seq (.ops [uO 3 (.mkfunc (.func 152) 0) 1, uM 2 3]) .ret))
theorem fc126 : fnC Tryz.prog 126 cert126 = some (4, [.tmp 2], ac126) := by kernel_rfl
def cert127 : Nat → Option Cert := fun _ => none
def ac127 : ACode :=(.seq (.ops [uO 1 .box 0, oA 2 .mov [(kI 0)]]) (.seq (.ops [uO 3 fA0 1, uO 4 fA1 3, uO 5 lF 4, uO 6 .len 5, uM 2 6]) .ret))
theorem fc127 : fnC Tryz.prog 127 cert127 = some (7, [.tmp 2], ac127) := by kernel_rfl
def cert128 : Nat → Option Cert := fun
  | 1 => some ⟨[0, 1, 2, 3, 4, 5, 6, 7], .done, [[], [0], [], [], [2, 3], [2, 3, 4], [0, 1, 2, 3, 4, 5], [0, 1, 2, 3, 4, 5, 6]]⟩
  | _ => none
def ac128 : ACode :=(.seq (.ops [uO 3 .box 0, uO 4 .box 1, oA 6 .mov [kF]]) (.seq (.draw [(false, uO 7 fA3 3), (false, uO 8 lF 7), (false, uM 9 2), (false, uO 10 fA0 4), (false, uB 11 (.arraddr 7 1) 10 9), (false, uO 12 lF 11), (false, uB 13 (.call 141) 8 12), (false, uM 6 13)] .done) .ret))
theorem fc128 : fnC Tryz.prog 128 cert128 = some (14, [.tmp 6], ac128) := by kernel_rfl
def cert129 : Nat → Option Cert := fun
  | 6 => some ⟨[0, 1, 2, 3, 4, 5, 6, 7, 8, 9, 10, 11, 12, 13], (.one 14 (.one 15 .done)), [[], [], [], [], [], [4], [3, 4, 5], [2, 3, 4, 5, 6], [2, 3, 4, 5, 6, 7], [], [], [10], [9, 10, 11], [0, 1, 2, 3, 4, 5, 6, 7, 8], [0, 1, 2, 3, 4, 5, 6, 7, 8, 13], [0, 1, 2, 3, 4, 5, 6, 7, 8, 9, 10, 11, 12, 13, 14]]⟩
  | _ => none
def ac129 : ACode :=(.seq (.ops [uO 2 .box 0, oA 4 .mov [kE]]) (.seq (.ops [uO 8 fA1 2, uO 9 lF 8, uO 10 .len 9, uO 11 (.mkslice 1 8 [(.int .i64 0)]) 10, uM 5 11]) (.seq (.seq (.ops [uO 12 fA1 2, uO 13 lF 12, uO 14 .len 13, oA 15 (.bin .sub) [.t 14, (kI 1)], uM 6 15]) (.block 0 (.loop (.seq (.seq (.ops [uM 16 6, oA 17 (.bin .geq) [.t 16, (kI 0)]]) (.cond (.t 17) .skip (.exit 0))) (.seq (.block 1 (.seq (.ops [uO 20 lT3 2, uM 21 6, uB 22 (.call 132) 20 21, uM 7 22]) (.draw [(false, uM 23 5), (false, uM 24 6), (false, uM 25 7), (false, uM 26 1), (false, uM 27 7), (false, uO 28 .len 27), (false, uB 29 (.bin .rem) 26 28), (false, uB 30 (.idxaddr 1) 25 29), (false, uO 31 lF 30), (true, uM 32 1), (true, uM 33 7), (true, uO 34 .len 33), (true, uB 35 (.bin .quo) 32 34), (false, uB 36 (.idxaddr 1) 23 24)] (.one (oZ (.store 1) [.t 36, .t 31]) [] (.one (uM 1 35) [] .done))))) (.ops [uM 18 6, oA 19 (.bin .sub) [.t 18, (kI 1)], uM 6 19])))))) (.seq (.ops [uM 37 5, uM 4 37]) .ret))))
theorem fc129 : fnC Tryz.prog 129 cert129 = some (38, [.tmp 4], ac129) := by kernel_rfl
def cert130 : Nat → Option Cert := fun
  | 4 => some ⟨[0, 1, 2, 3, 4, 5, 6, 7, 8, 9, 10], .done, [[], [0], [0, 1], [0, 1], [0, 1, 2, 3], [0, 1, 2, 3, 4], [0, 1], [0, 1, 6], [0, 1, 2, 3, 4, 5, 6, 7], [0, 1, 2, 3, 4, 5, 6, 7, 8], [0, 1, 2, 3, 4, 5, 6, 7, 8, 9]]⟩
  | _ => none
def ac130 : ACode :=(.seq (.ops [uO 2 .box 0, oA 4 .mov [kF]]) (.seq (.seq (.ops [uO 7 lT3 2, uO 8 (.call 135) 7, oA 9 bN [.t 8, (kI 0)]]) (.cond (.t 9) (.seq (.ops [oA 4 .mov [kF]]) .ret) .skip)) (.seq (.ops [uO 11 lT3 2, uM 12 1, uB 13 (.call 155) 11 12, uM 10 13, uO 14 x0 10, uO 15 x1 10, oA 5 (.alloc [(.int .i64 0), (.int .i64 0), (.int .i64 0), (.int .i64 0), (.int .i64 0), (.int .i64 0), (.int .i64 0)]) [], oZ (.store 7) [.t 5, .t 14], uM 6 15]) (.seq (.draw [(false, uM 16 6), (false, uM 17 16), (false, gO 18 lT3 2 17 true), (false, gO 19 lT7 5 17 true), (false, gB 20 (.call 137) 18 19 17 true), (false, gO 21 .len 20 17 true), (false, gO 22 fA2 2 17 true), (false, gO 23 lF 22 17 true), (false, gB 24 (.bin .leq) 21 23 17 true), (false, oA 25 .pick [.t 17, .t 24, kF]), (false, uM 4 25)] .done) .ret))))
theorem fc130 : fnC Tryz.prog 130 cert130 = some (26, [.tmp 4], ac130) := by kernel_rfl
def cert131 : Nat → Option Cert := fun _ => none
def ac131 : ACode :=(.seq (.ops [oA 6 .mov [kF]]) (.seq (.ops [uM 7 1, uM 8 0, uB 9 (.bin .leq) 7 8, uM 10 9, gM 11 0 10 true, gM 12 2 10 true, gB 13 (.bin .leq) 11 12 10 true, oA 14 .pick [.t 10, .t 13, kF], uM 6 14]) .ret))
theorem fc131 : fnC Tryz.prog 131 cert131 = some (15, [.tmp 6], ac131) := by kernel_rfl
def cert132 : Nat → Option Cert := fun
  | 5 => some ⟨[0, 1, 2, 3, 4, 5, 6, 7, 8, 9, 10, 11, 12], .done, [[], [0], [], [0, 1, 2], [0, 1, 2, 3], [0, 1, 2, 3, 4], [], [6], [], [6, 7, 8], [6, 7, 8, 9], [6, 7, 8, 9, 10], [0, 1, 2, 3, 4, 5, 6, 7, 8, 9, 10, 11]]⟩
  | _ => none
def ac132 : ACode :=(.seq (.ops [uO 2 .box 0, oA 4 .mov [kE]]) (.seq (.ops [oA 5 .mov [kE]]) (.seq (.seq (.ops [oA 6 .mov [(kI 0)]]) (.block 0 (.loop (.seq (.seq (.ops [uM 7 6, uO 8 fA0 2, uO 9 lF 8, uO 10 .len 9, uB 11 bL 7 10]) (.cond (.t 11) .skip (.exit 0))) (.seq (.block 1 (.seq (.draw [(false, uO 14 fA1 2), (false, uO 15 lF 14), (false, uM 16 1), (false, uB 17 (.idxaddr 2) 15 16), (false, uO 18 fA0 17), (false, uO 19 lF 18), (false, uO 20 fA0 2), (false, uO 21 lF 20), (false, uM 22 6), (false, uB 23 (.idxaddr 3) 21 22), (false, uO 24 fA0 23), (false, uO 25 lF 24), (false, uB 26 (.call 40) 19 25)] .done) (.cond (.t 26) (.ops [uM 27 5, uM 28 6, uO 29 (.bslice 1) 28, uB 30 (.append 1 8) 27 29, uM 5 30]) .skip))) (.ops [uM 12 6, oA 13 bA [.t 12, (kI 1)], uM 6 13])))))) (.seq (.ops [uM 31 5, uM 4 31]) .ret))))
theorem fc132 : fnC Tryz.prog 132 cert132 = some (32, [.tmp 4], ac132) := by kernel_rfl
def cert133 : Nat → Option Cert := fun _ => none
def ac133 : ACode :=(.seq (.ops [uO 3 .box 1, oA 4 .mov [kF]]) (.seq (.ops [uM 5 0, uO 6 (.mkfunc (.func 157) 0) 3, uB 7 (.call 156) 5 6, uO 8 .not 7, uM 4 8]) .ret))
theorem fc133 : fnC Tryz.prog 133 cert133 = some (9, [.tmp 4], ac133) := by kernel_rfl
def cert134 : Nat → Option Cert := fun
  | 1 => some ⟨[0, 1, 2, 3, 4, 5, 6, 7], (.one 8 (.one 9 .done)), [[], [0], [0, 1], [0, 1, 2], [], [4], [], [0, 1, 2, 3, 4, 5, 6], [], [0, 1, 2, 3, 4, 5, 6, 7, 8]]⟩
  | 7 => some ⟨[0, 1, 2, 3, 4, 5, 6, 7, 8, 9, 10, 11, 12, 13], .done, [[], [0], [0, 1], [0, 1, 2], [0, 1, 2, 3], [0, 1, 2, 3, 4], [0, 1, 2, 3, 4, 5], [0, 1, 2, 3, 4, 5, 6], [0, 1, 2, 3], [0, 1, 2, 3, 8], [0, 1, 2, 3], [0, 1, 2, 3, 4, 5, 6, 7, 8, 9, 10], [0, 1, 2, 3, 4, 5, 6, 7, 8, 9, 10, 11], [0, 1, 2, 3, 4, 5, 6, 7, 8, 9, 10, 11, 12]]⟩
  | _ => none
def ac134 : ACode :=(.seq (.ops [uO 3 .box 0, oA 4 .mov [kF]]) (.seq (.draw [(true, uO 7 lF 1), (true, uO 8 .nilchk 7), (true, uO 9 fA0 8), (true, uO 10 lT9 9), (true, uO 11 fA0 3), (true, uO 12 (.load true 13) 11), (true, uO 13 lF 2), (true, oA 14 (.call 92) [.t 10, .t 12, .t 13])] (.one (oA 5 (.alloc [(.bool false), (.bool false), (.bool false), (.bool false), (.bool false), (.bool false), (.bool false), (.bool false), (.bool false), (.bool false)]) []) [uO 7 lF 1, uO 10 lT9 9, uO 12 (.load true 13) 11, uO 13 lF 2] (.one (oZ (.store 10) [.t 5, .t 14]) [] .done))) (.seq (.seq (.ops [uO 15 (.load true 10) 5, oA 16 (.build [(.bool false), (.bool false), (.bool false), (.bool false), (.bool false), (.bool false), (.bool false), (.bool false), (.bool false), (.bool false)] []) [], uB 17 (.eqagg false 10) 15 16]) (.cond (.t 17) (.seq (.ops [oA 4 .mov [kT]]) .ret) .skip)) (.seq (.seq (.ops [uO 18 lF 1, uO 19 .nilchk 18, uO 20 fA0 19, uO 21 lT9 20, uO 22 (.call 127) 21, oA 23 .mov [(kI 0)]]) (.block 0 (.loop (.seq (.ops [uB 24 bL 23 22]) (.seq (.cond (.t 24) .skip (.exit 0)) (.seq (.block 1 (.seq (.ops [uM 25 23, uM 6 25]) (.seq (.draw [(false, uM 26 6), (false, uB 27 (.arraddr 10 1) 5 26), (false, uO 28 lF 27), (false, uM 29 28), (false, gO 30 lF 1 29 true), (false, gO 31 .nilchk 30 29 true), (false, gO 32 fA0 31 29 true), (false, gO 33 lT9 32 29 true), (false, gO 34 fA0 3 29 true), (false, gO 35 (.load true 13) 34 29 true), (false, gM 36 6 29 true), (false, oG 37 (.call 128) [.t 33, .t 35, .t 36] 29 true), (false, gO 38 .not 37 29 true), (false, oA 39 .pick [.t 29, .t 38, kF])] .done) (.cond (.t 39) (.seq (.ops [oA 4 .mov [kF]]) .ret) .skip)))) (.ops [oA 40 bA [.t 23, (kI 1)], uM 23 40]))))))) (.seq (.ops [oA 4 .mov [kT]]) .ret)))))
theorem fc134 : fnC Tryz.prog 134 cert134 = some (41, [.tmp 4], ac134) := by kernel_rfl
def cert135 : Nat → Option Cert := fun _ => none
def ac135 : ACode :=(.seq (.ops [uO 1 .box 0, oA 2 .mov [(kI 0)]]) (.seq (.ops [uO 7 lT3 1, uO 8 (.mkfunc (.func 158) 1) 7, uM 3 8]) (.seq (.block 0 (.seq (.ops [uO 10 fA0 1, uO 11 lF 10, uO 12 .len 11, oA 13 (.bin .gtr) [.t 12, (kI 5)], uM 14 13, gO 15 fA1 1 14 false, gO 16 lF 15 14 false, gO 17 .len 16 14 false, oG 18 (.bin .gtr) [.t 17, (kI 7)] 14 false, oA 19 .pick [.t 14, kT, .t 18], uM 9 19]) (.cond (.t 9) (.seq (.ops [oA 2 .mov [(kI 3)]]) .ret) (.seq (.ops [uO 21 fA2 1, uO 22 lF 21, oA 23 (.call 159) [.t 22, (kI 0), (kI 5)], uO 24 .not 23, uM 25 24, gO 26 fA0 1 25 false, gO 27 lF 26 25 false, ⟨(some 28), (.call 160), [.t 27, (.c (.func (.func 161) [] []))], (some (25, false))⟩, gO 29 .not 28 25 false, oA 30 .pick [.t 25, kT, .t 29], uM 31 30, gO 32 fA1 1 31 false, gO 33 lF 32 31 false, gM 34 3 31 false, gB 35 (.call 162) 33 34 31 false, gO 36 .not 35 31 false, oA 37 .pick [.t 31, kT, .t 36], uM 20 37]) (.cond (.t 20) (.seq (.ops [oA 2 .mov [(kI 1)]]) .ret) .skip))))) (.seq (.ops [oA 4 .mov [(kI 1)]]) (.seq (.seq (.ops [uO 38 fA1 1, uO 39 lF 38, uO 40 .len 39, oA 41 .mov [(kI 0)]]) (.block 1 (.loop (.seq (.ops [uB 42 bL 41 40]) (.seq (.cond (.t 42) .skip (.exit 1)) (.seq (.block 2 (.seq (.ops [uB 43 (.idxaddr 2) 39 41, uO 44 lT2 43, oA 6 (.alloc [.emp, (.int .i64 0)]) [], oZ (.store 2) [.t 6, .t 44]]) (.ops [uM 45 4, uO 46 lT3 1, uO 47 lT2 6, uB 48 (.call 164) 46 47, uO 49 .len 48, uB 50 (.bin .mul) 45 49, oA 51 (.bslice 1) [.t 50, (kI 2001)], uO 52 (.call 163) 51, uM 4 52]))) (.ops [oA 53 bA [.t 41, (kI 1)], uM 41 53]))))))) (.seq (.seq (.ops [uM 54 4, oA 55 (.bin .gtr) [.t 54, (kI 2000)]]) (.cond (.t 55) (.seq (.ops [oA 2 .mov [(kI 3)]]) .ret) .skip)) (.seq (.ops [oA 2 .mov [(kI 0)]]) .ret)))))))
theorem fc135 : fnC Tryz.prog 135 cert135 = some (56, [.tmp 2], ac135) := by kernel_rfl
def cert136 : Nat → Option Cert := fun _ => none
def ac136 : ACode :=(.seq (.ops [uO 1 .box 0, oA 2 .mov [(.c .nilf)]]) (.seq (.ops [uO 3 (.mkfunc (.func 165) 0) 1, uM 2 3]) .ret))
theorem fc136 : fnC Tryz.prog 136 cert136 = some (4, [.tmp 2], ac136) := by kernel_rfl
def cert137 : Nat → Option Cert := fun _ => none
def ac137 : ACode :=(.seq (.ops [uO 2 .box 0, uO 3 .box 1, oA 4 .mov [kE]]) (.seq (.seq (.ops [uO 7 lT3 2, uO 8 lT7 3, uB 9 (.call 167) 7 8, uO 10 .len 9, oA 11 .mov [(kI 0)]]) (.block 0 (.loop (.seq (.ops [uB 12 bL 11 10]) (.seq (.cond (.t 12) .skip (.exit 0)) (.seq (.block 1 (.seq (.ops [uM 13 11, uB 14 (.idxaddr 1) 9 11, uO 15 lF 14, uM 5 13, uM 6 15]) (.seq (.ops [uO 16 fA0 2, uO 17 lF 16, uM 18 5, uB 19 (.idxaddr 3) 17 18, uO 20 fA1 19, uO 21 lT2 20, uM 22 6, uB 23 (.call 168) 21 22, uO 24 .not 23]) (.cond (.t 24) (.ops [uM 25 4, uM 26 5, uO 27 (.bslice 1) 26, uB 28 (.append 1 8) 25 27, uM 4 28]) .skip)))) (.ops [oA 29 bA [.t 11, (kI 1)], uM 11 29]))))))) (.seq (.ops [uM 30 4, uM 4 30]) .ret)))
theorem fc137 : fnC Tryz.prog 137 cert137 = some (31, [.tmp 4], ac137) := by kernel_rfl
def cert138 : Nat → Option Cert := fun _ => none
def ac138 : ACode :=(.seq (.ops [oA 2 .mov [(kI 0)]]) (.seq (.ops [uM 3 0, uO 4 (.call 169) 3, uM 2 4]) .ret))
theorem fc138 : fnC Tryz.prog 138 cert138 = some (5, [.tmp 2], ac138) := by kernel_rfl
def cert139 : Nat → Option Cert := fun _ => none
def ac139 : ACode :=(.seq (.ops [oA 4 .mov [kF]]) (.seq (.ops [uM 5 0, uM 6 1, uB 7 (.call 170) 5 6, oA 8 (.bin .geq) [.t 7, (kI 0)], uM 4 8]) .ret))
theorem fc139 : fnC Tryz.prog 139 cert139 = some (9, [.tmp 4], ac139) := by kernel_rfl
def cert140 : Nat → Option Cert := fun _ => none
def ac140 : ACode :=(.seq (.ops [oA 3 .mov [kF]]) (.seq (.ops [uO 4 lF 1, uM 5 0, uB 6 .callv 4 5, uO 7 .not 6, uM 3 7]) .ret))
theorem fc140 : fnC Tryz.prog 140 cert140 = some (8, [.tmp 3], ac140) := by kernel_rfl
def cert141 : Nat → Option Cert := fun _ => none
def ac141 : ACode :=(.seq (.ops [oA 4 .mov [kF]]) (.seq (.ops [uM 5 0, uM 6 1, uB 7 (.call 171) 5 6, oA 8 (.bin .geq) [.t 7, (kI 0)], uM 4 8]) .ret))
theorem fc141 : fnC Tryz.prog 141 cert141 = some (9, [.tmp 4], ac141) := by kernel_rfl
def cert142 : Nat → Option Cert := fun _ => none
def ac142 : ACode :=(.seq (.ops [oA 4 .mov [kF]]) (.seq (.ops [uM 5 0, uM 6 1, uB 7 (.call 172) 5 6, oA 8 (.bin .geq) [.t 7, (kI 0)], uM 4 8]) .ret))
theorem fc142 : fnC Tryz.prog 142 cert142 = some (9, [.tmp 4], ac142) := by kernel_rfl
def cert143 : Nat → Option Cert := fun _ => none
def ac143 : ACode :=(.seq (.ops [uO 2 .box 0, oA 3 .mov [kF]]) (.seq (.ops [uO 4 lF 1, uO 5 lT4 2, uB 6 .callv 4 5, uO 7 .not 6, uM 3 7]) .ret))
theorem fc143 : fnC Tryz.prog 143 cert143 = some (8, [.tmp 3], ac143) := by kernel_rfl
def cert144 : Nat → Option Cert := fun _ => none
def ac144 : ACode :=(.seq (.ops [oA 4 .mov [kF]]) (.seq (.ops [uM 5 0, uM 6 1, uB 7 (.call 173) 5 6, oA 8 (.bin .geq) [.t 7, (kI 0)], uM 4 8]) .ret))
theorem fc144 : fnC Tryz.prog 144 cert144 = some (9, [.tmp 4], ac144) := by kernel_rfl
def cert145 : Nat → Option Cert := fun _ => none
def ac145 : ACode :=(.seq (.ops [uO 2 .box 0, oA 3 .mov [kF]]) (.seq (.ops [uO 4 lF 1, uO 5 lT2 2, uB 6 .callv 4 5, uO 7 .not 6, uM 3 7]) .ret))
theorem fc145 : fnC Tryz.prog 145 cert145 = some (8, [.tmp 3], ac145) := by kernel_rfl
def cert146 : Nat → Option Cert := fun _ => none
def ac146 : ACode :=(.seq (.ops [oA 4 .mov [kF]]) (.seq (.ops [uM 5 0, uM 6 1, uB 7 (.call 174) 5 6, oA 8 (.bin .geq) [.t 7, (kI 0)], uM 4 8]) .ret))
theorem fc146 : fnC Tryz.prog 146 cert146 = some (9, [.tmp 4], ac146) := by kernel_rfl
def cert147 : Nat → Option Cert := fun _ => none
def ac147 : ACode :=(.seq (.ops [uO 2 .box 0, oA 3 .mov [kF]]) (.seq (.ops [uO 4 lF 1, uO 5 lT2 2, uB 6 .callv 4 5, uO 7 .not 6, uM 3 7]) .ret))
theorem fc147 : fnC Tryz.prog 147 cert147 = some (8, [.tmp 3], ac147) := by kernel_rfl
def cert148 : Nat → Option Cert := fun
  | 6 => some ⟨[0, 1, 2, 3, 4, 5, 6, 7, 8], .done, [[], [], [0, 1], [], [], [3, 4], [3, 4, 5], [0, 1, 2, 3, 4, 5, 6], [0, 1, 2, 3, 4, 5, 6, 7]]⟩
  | _ => none
def ac148 : ACode :=(.seq (.ops [uO 2 .box 0, oA 4 .mov [kF]]) (.seq (.seq (.ops [uM 6 1, uO 7 .len 6, uO 8 fA1 2, uO 9 lF 8, uO 10 .len 9, uB 11 bN 7 10]) (.cond (.t 11) (.seq (.ops [oA 4 .mov [kF]]) .ret) .skip)) (.seq (.seq (.ops [oA 5 .mov [(kI 0)]]) (.block 0 (.loop (.seq (.seq (.ops [uM 12 5, uM 13 1, uO 14 .len 13, uB 15 bL 12 14]) (.cond (.t 15) .skip (.exit 0))) (.seq (.block 1 (.seq (.draw [(false, uO 18 lT3 2), (false, uM 19 5), (false, uB 20 (.call 132) 18 19), (false, uM 21 1), (false, uM 22 5), (false, uB 23 (.idxaddr 1) 21 22), (false, uO 24 lF 23), (false, uB 25 (.call 40) 20 24), (false, uO 26 .not 25)] .done) (.cond (.t 26) (.seq (.ops [oA 4 .mov [kF]]) .ret) .skip))) (.ops [uM 16 5, oA 17 bA [.t 16, (kI 1)], uM 5 17])))))) (.seq (.ops [oA 4 .mov [kT]]) .ret))))
theorem fc148 : fnC Tryz.prog 148 cert148 = some (27, [.tmp 4], ac148) := by kernel_rfl
def cert149 : Nat → Option Cert := fun _ => none
def ac149 : ACode :=(.seq (.ops [uO 1 .box 0, oA 2 .mov [(kI 0)]]) (.seq (.ops [uO 3 fA0 1, uO 4 lF 3, uO 5 .len 4, uO 6 (.conv .u64) 5, oA 7 (.bin .shl) [(kI 1), .t 6], oA 8 (.bin .sub) [.t 7, (kI 1)], uM 2 8]) .ret))
theorem fc149 : fnC Tryz.prog 149 cert149 = some (9, [.tmp 2], ac149) := by kernel_rfl
def cert150 : Nat → Option Cert := fun
  | 5 => some ⟨[0, 1, 2, 3, 4, 5, 6, 7, 8, 9, 10, 11, 12, 13, 14, 15, 16, 17], .done, [[], [], [0, 1], [], [3], [], [3, 4, 5], [3, 4, 5, 6], [3, 4, 5, 6, 7], [3, 4, 5, 6, 7, 8], [], [10], [], [10, 11, 12], [10, 11, 12, 13], [10, 11, 12, 13, 14], [10, 11, 12, 13, 14, 15], [0, 1, 2, 3, 4, 5, 6, 7, 8, 9, 10, 11, 12, 13, 14, 15, 16]]⟩
  | _ => none
def ac150 : ACode :=(.seq (.ops [uO 2 .box 0, oA 4 .mov [(kI 0)]]) (.seq (.ops [oA 5 .mov [(kI 0)]]) (.seq (.seq (.ops [oA 6 .mov [(kI 0)]]) (.block 0 (.loop (.seq (.seq (.ops [uM 7 6, uO 8 fA0 2, uO 9 lF 8, uO 10 .len 9, uB 11 bL 7 10]) (.cond (.t 11) .skip (.exit 0))) (.seq (.block 1 (.seq (.draw [(false, uM 14 1), (false, uM 15 6), (false, uB 16 (.call 175) 14 15), (false, uO 17 fA0 2), (false, uO 18 lF 17), (false, uM 19 6), (false, uB 20 (.idxaddr 3) 18 19), (false, uO 21 fA1 20), (false, uO 22 fA0 21), (false, uO 23 lF 22), (false, uO 24 fA0 2), (false, uO 25 lF 24), (false, uM 26 6), (false, uB 27 (.idxaddr 3) 25 26), (false, uO 28 fA1 27), (false, uO 29 fA1 28), (false, uO 30 lF 29), (false, oA 31 (.call 47) [.t 16, .t 23, .t 30])] .done) (.cond (.t 31) (.ops [uM 32 5, uM 33 6, uO 34 (.conv .u64) 33, oA 35 (.bin .shl) [(kI 1), .t 34], uB 36 (.bin .or) 32 35, uM 5 36]) .skip))) (.ops [uM 12 6, oA 13 bA [.t 12, (kI 1)], uM 6 13])))))) (.seq (.ops [uM 37 5, uM 4 37]) .ret))))
theorem fc150 : fnC Tryz.prog 150 cert150 = some (38, [.tmp 4], ac150) := by kernel_rfl
def cert152 : Nat → Option Cert := fun _ => none
def ac152 : ACode :=(.seq (.ops [uO 2 .box 0]) (.seq (.ops [oA 3 (.alloc [(.int .i64 0), (.int .i64 0), (.int .i64 0), (.int .i64 0), (.int .i64 0), (.int .i64 0), (.int .i64 0), (.int .i64 0), (.int .i64 0), (.int .i64 0), (.int .i64 0), (.int .i64 0), (.int .i64 0)]) []]) (.seq (.ops [uO 9 fA0 1, uO 10 lT3 9, uO 11 (.call 45) 10, uM 8 11, uO 12 x0 8, uO 13 x1 8, oA 4 (.alloc [.emp]) [], oZ (.store 1) [.t 4, .t 12], uM 5 13]) (.seq (.ops [oA 6 (.alloc [.nilf]) [], oA 7 (.alloc [.nilf]) []]) (.seq (.ops [oA 14 (.mkfunc (.func 153) 0) [.t 1, .t 3, .t 7, .t 4, .t 6], oZ (.store 1) [.t 6, .t 14]]) (.seq (.ops [oA 15 (.mkfunc (.func 154) 0) [.t 1, .t 2, .t 3, .t 7], oZ (.store 1) [.t 7, .t 15]]) (.ops [uO 16 lF 6, oA 17 .callv [.t 16, (kI 0)]])))))))
theorem fc152 : fnC Tryz.prog 152 cert152 = some (18, [], ac152) := by kernel_rfl
def cert153 : Nat → Option Cert := fun
  | 2 => some ⟨[0, 1, 2, 3, 4, 5, 6, 7, 8], (.one 9 (.one 10 (.one 11 .done))), [[], [0], [], [], [2, 3], [0, 1, 2, 3, 4], [0, 1, 2, 3, 4, 5], [0, 1, 2, 3, 4, 5, 6], [0, 1, 2, 3, 4, 5, 6, 7], [0, 1, 2, 3, 4, 5, 6, 7, 8], [0, 1, 2, 3, 4, 5, 6, 7, 8, 9], [0, 1, 2, 3, 4, 5, 6, 7, 8, 9, 10]]⟩
  | _ => none
def ac153 : ACode :=(.seq (.ops [oA 7 .mov [kF]]) (.seq (.seq (.ops [uM 10 0, uO 11 lT9 1, uO 12 (.call 127) 11, uB 13 bE 10 12]) (.cond (.t 13) (.seq (.draw [(false, uO 14 fA0 1), (false, uO 15 lT3 14), (false, uO 16 fA0 2), (false, uM 17 0), (false, uB 18 (.arrsub 7 1) 16 17), (false, uB 19 (.call 130) 15 18), (false, uO 20 .not 19), (false, uM 21 20), (false, gO 22 lF 3 21 false)] (.one (oG 23 .callv [.t 22, (kI 0)] 21 false) [] (.one (oA 24 .pick [.t 21, kT, .t 23]) [] (.one (uM 7 24) [] .done)))) .ret) .skip)) (.seq (.seq (.ops [uO 25 lF 4, uM 26 0, uB 27 (.idxaddr 1) 25 26, uO 28 lF 27, uO 29 .len 28, oA 30 .mov [(kI 0)]]) (.block 0 (.loop (.seq (.ops [uB 31 bL 30 29]) (.seq (.cond (.t 31) .skip (.exit 0)) (.seq (.block 1 (.seq (.ops [uB 32 (.idxaddr 1) 28 30, uO 33 lF 32, uM 9 33]) (.seq (.ops [uM 34 0, uM 35 9, uO 36 fA0 2, uB 37 (.arraddr 7 1) 36 34, oZ (.store 1) [.t 37, .t 35]]) (.seq (.ops [uO 38 lF 5, uM 39 0, oA 40 bA [.t 39, (kI 1)], uB 41 .callv 38 40, uO 42 .not 41]) (.cond (.t 42) (.seq (.ops [oA 7 .mov [kF]]) .ret) .skip))))) (.ops [oA 43 bA [.t 30, (kI 1)], uM 30 43]))))))) (.seq (.ops [oA 7 .mov [kT]]) .ret))))
theorem fc153 : fnC Tryz.prog 153 cert153 = some (44, [.tmp 7], ac153) := by kernel_rfl
def cert154 : Nat → Option Cert := fun _ => none
def ac154 : ACode :=(.seq (.ops [oA 6 .mov [kF]]) (.seq (.seq (.ops [uM 8 0, uO 9 fA6 1, uO 10 lF 9, uO 11 .len 10, uB 12 bE 8 11]) (.cond (.t 12) (.seq (.ops [uO 13 lF 2, uO 14 (.load true 13) 3, uB 15 .callv 13 14, uM 6 15]) .ret) .skip)) (.seq (.seq (.ops [uO 16 fA6 1, uO 17 lF 16, uM 18 0, uB 19 (.idxaddr 4) 17 18, uO 20 fA2 19, uO 21 fA0 20, uO 22 lF 21, uM 7 22]) (.block 0 (.loop (.seq (.seq (.ops [uM 23 7, uO 24 fA6 1, uO 25 lF 24, uM 26 0, uB 27 (.idxaddr 4) 25 26, uO 28 fA2 27, uO 29 fA1 28, uO 30 lF 29, uB 31 (.bin .leq) 23 30]) (.cond (.t 31) .skip (.exit 0))) (.seq (.block 1 (.seq (.ops [uM 34 0, uM 35 7, uO 36 fA7 3, uB 37 (.arraddr 6 1) 36 34, oZ (.store 1) [.t 37, .t 35]]) (.seq (.ops [uO 38 lF 4, uM 39 0, oA 40 bA [.t 39, (kI 1)], uB 41 .callv 38 40, uO 42 .not 41]) (.cond (.t 42) (.seq (.ops [oA 6 .mov [kF]]) .ret) .skip)))) (.ops [uM 32 7, oA 33 bA [.t 32, (kI 1)], uM 7 33])))))) (.seq (.ops [oA 6 .mov [kT]]) .ret))))
theorem fc154 : fnC Tryz.prog 154 cert154 = some (43, [.tmp 6], ac154) := by kernel_rfl
def cert155 : Nat → Option Cert := fun
  | 6 => some ⟨[0, 1, 2, 3, 4, 5, 6, 7, 8, 9], .done, [[], [], [1], [], [1, 2, 3], [1, 2, 3, 4], [0, 1, 2, 3, 4, 5], [], [0, 1, 2, 3, 4, 5, 6, 7], [0, 1, 2, 3, 4, 5, 6, 7, 8]]⟩
  | _ => none
def ac155 : ACode :=(.seq (.ops [uO 2 .box 0, oA 4 (.alloc [(.int .i64 0), (.int .i64 0), (.int .i64 0), (.int .i64 0), (.int .i64 0), (.int .i64 0), (.int .i64 0)]) [], oA 5 .mov [kF]]) (.seq (.seq (.ops [uM 8 1, uO 9 .len 8, uO 10 fA1 2, uO 11 lF 10, uO 12 .len 11, uB 13 bN 9 12]) (.cond (.t 13) (.seq (.ops [uO 14 lT7 4, oZ (.store 7) [.t 4, .t 14], oA 5 .mov [kF]]) .ret) .skip)) (.seq (.seq (.ops [uM 15 1, uO 16 .len 15, oA 17 .mov [(kI 0)]]) (.block 0 (.loop (.seq (.ops [uB 18 bL 17 16]) (.seq (.cond (.t 18) .skip (.exit 0)) (.seq (.block 1 (.seq (.ops [uM 19 17, uB 20 (.idxaddr 1) 15 17, uO 21 lF 20, uM 6 19, uM 7 21]) (.seq (.seq (.draw [(false, uO 22 lT3 2), (false, uO 23 fA1 2), (false, uO 24 lF 23), (false, uM 25 6), (false, uB 26 (.idxaddr 2) 24 25), (false, uO 27 lT2 26), (false, uB 28 (.call 164) 22 27), (false, uM 29 7), (false, uB 30 (.call 141) 28 29), (false, uO 31 .not 30)] .done) (.cond (.t 31) (.seq (.ops [uO 32 lT7 4, oZ (.store 7) [.t 4, .t 32], oA 5 .mov [kF]]) .ret) .skip)) (.ops [uM 33 6, uM 34 7, uB 35 (.arraddr 7 1) 4 33, oZ (.store 1) [.t 35, .t 34]])))) (.ops [oA 36 bA [.t 17, (kI 1)], uM 17 36]))))))) (.seq (.ops [uO 37 lT7 4, oZ (.store 7) [.t 4, .t 37], oA 5 .mov [kT]]) .ret))))
theorem fc155 : fnC Tryz.prog 155 cert155 = some (38, [.cell 4 205, .tmp 5], ac155) := by kernel_rfl
def cert156 : Nat → Option Cert := fun _ => none
def ac156 : ACode :=(.seq (.ops [oA 4 .mov [kF]]) (.seq (.ops [uM 5 0, uM 6 1, uB 7 (.call 176) 5 6, oA 8 (.bin .geq) [.t 7, (kI 0)], uM 4 8]) .ret))
theorem fc156 : fnC Tryz.prog 156 cert156 = some (9, [.tmp 4], ac156) := by kernel_rfl
def cert157 : Nat → Option Cert := fun _ => none
def ac157 : ACode :=(.seq (.ops [uO 2 .box 0, oA 3 .mov [kF]]) (.seq (.ops [uO 4 lF 1, uO 5 (.load true 23) 2, uB 6 .callv 4 5, uO 7 .not 6, uM 3 7]) .ret))
theorem fc157 : fnC Tryz.prog 157 cert157 = some (8, [.tmp 3], ac157) := by kernel_rfl
end Go.Lift
set_option maxRecDepth 100000
set_option linter.unusedVariables false
namespace Go.Lift
open Go Go.Proofs
def cert158 : Nat → Option Cert := fun _ => none
def ac158 : ACode :=(.seq (.ops [uO 2 .box 0, uO 3 .box 1, oA 4 .mov [kF]]) (.seq (.seq (.ops [uO 7 fA0 3, uO 8 lF 7, uO 9 .len 8, oA 10 .mov [(kI 0)]]) (.block 0 (.loop (.seq (.ops [uB 11 bL 10 9]) (.seq (.cond (.t 11) .skip (.exit 0)) (.seq (.block 1 (.seq (.ops [uM 12 10, uB 13 (.idxaddr 1) 8 10, uO 14 lF 13, uM 5 12, uM 6 14]) (.seq (.ops [uM 15 6, uO 16 (.call 177) 15, uO 17 .not 16, uM 18 17, gM 19 5 18 false, oG 20 (.bin .gtr) [.t 19, (kI 0)] 18 false, gM 21 20 18 false, gM 22 6 21 true, gO 23 fA0 3 21 true, gO 24 lF 23 21 true, gM 25 5 21 true, oG 26 (.bin .sub) [.t 25, (kI 1)] 21 true, gB 27 (.idxaddr 1) 24 26 21 true, gO 28 lF 27 21 true, gB 29 (.bin .leq) 22 28 21 true, oG 30 .pick [.t 21, .t 29, kF] 18 false, oA 31 .pick [.t 18, kT, .t 30]]) (.cond (.t 31) (.seq (.ops [oA 4 .mov [kF]]) .ret) .skip)))) (.ops [oA 32 bA [.t 10, (kI 1)], uM 10 32]))))))) (.seq (.ops [uO 33 fA1 3, uO 34 lF 33, uO 35 fA0 2, uO 36 lF 35, uO 37 .len 36, oA 38 (.bin .sub) [.t 37, (kI 1)], oA 39 (.call 159) [.t 34, (kI 0), .t 38], uM 40 39, gO 41 lT3 2 40 true, gO 42 lT2 3 40 true, gB 43 (.call 164) 41 42 40 true, gO 44 .len 43 40 true, oG 45 (.bin .gtr) [.t 44, (kI 0)] 40 true, oA 46 .pick [.t 40, .t 45, kF], uM 4 46]) .ret)))
theorem fc158 : fnC Tryz.prog 158 cert158 = some (47, [.tmp 4], ac158) := by kernel_rfl
def cert159 : Nat → Option Cert := fun _ => none
def ac159 : ACode :=(.seq (.ops [oA 6 .mov [kF]]) (.seq (.ops [uM 7 1, uM 8 0, uB 9 (.bin .leq) 7 8, uM 10 9, gM 11 0 10 true, gM 12 2 10 true, gB 13 (.bin .leq) 11 12 10 true, oA 14 .pick [.t 10, .t 13, kF], uM 6 14]) .ret))
theorem fc159 : fnC Tryz.prog 159 cert159 = some (15, [.tmp 6], ac159) := by kernel_rfl
def cert160 : Nat → Option Cert := fun _ => none
def ac160 : ACode :=(.seq (.ops [uO 3 .box 1, oA 4 .mov [kF]]) (.seq (.ops [uM 5 0, uO 6 (.mkfunc (.func 179) 0) 3, uB 7 (.call 178) 5 6, uO 8 .not 7, uM 4 8]) .ret))
theorem fc160 : fnC Tryz.prog 160 cert160 = some (9, [.tmp 4], ac160) := by kernel_rfl
def cert161 : Nat → Option Cert := fun _ => none
def ac161 : ACode :=(.seq (.ops [uO 1 .box 0, oA 2 .mov [kF]]) (.seq (.ops [uO 3 fA0 1, uO 4 lF 3, uO 5 (.call 177) 4, uM 6 5, gO 7 fA1 1 6 true, gO 8 fA0 7 6 true, gO 9 lF 8 6 true, oG 10 (.bin .leq) [(kI 0), .t 9] 6 true, oA 11 .pick [.t 6, .t 10, kF], uM 12 11, gO 13 fA1 1 12 true, gO 14 fA0 13 12 true, gO 15 lF 14 12 true, gO 16 fA1 1 12 true, gO 17 fA1 16 12 true, gO 18 lF 17 12 true, gB 19 (.bin .leq) 15 18 12 true, oA 20 .pick [.t 12, .t 19, kF], uM 21 20, gO 22 fA1 1 21 true, gO 23 fA1 22 21 true, gO 24 lF 23 21 true, oG 25 (.bin .leq) [.t 24, (kI 7)] 21 true, oA 26 .pick [.t 21, .t 25, kF], uM 2 26]) .ret))
theorem fc161 : fnC Tryz.prog 161 cert161 = some (27, [.tmp 2], ac161) := by kernel_rfl
def cert162 : Nat → Option Cert := fun _ => none
def ac162 : ACode :=(.seq (.ops [uO 3 .box 1, oA 4 .mov [kF]]) (.seq (.ops [uM 5 0, uO 6 (.mkfunc (.func 181) 0) 3, uB 7 (.call 180) 5 6, uO 8 .not 7, uM 4 8]) .ret))
theorem fc162 : fnC Tryz.prog 162 cert162 = some (9, [.tmp 4], ac162) := by kernel_rfl
def cert163 : Nat → Option Cert := fun _ => none
def ac163 : ACode :=(.seq (.ops [oA 2 .mov [(kI 0)]]) (.seq (.ops [uM 3 0, uO 4 (.call 169) 3, uM 2 4]) .ret))
theorem fc163 : fnC Tryz.prog 163 cert163 = some (5, [.tmp 2], ac163) := by kernel_rfl
def cert164 : Nat → Option Cert := fun _ => none
def ac164 : ACode :=(.seq (.ops [uO 2 .box 0, uO 3 .box 1, oA 4 .mov [kE]]) (.seq (.seq (.ops [uO 7 fA0 2, uO 8 lF 7, uO 9 .len 8, oA 10 .mov [(kI 0)]]) (.block 0 (.loop (.seq (.ops [uB 11 bL 10 9]) (.seq (.cond (.t 11) .skip (.exit 0)) (.seq (.block 1 (.seq (.ops [uM 12 10, uB 13 (.idxaddr 3) 8 10, uO 14 lT3 13, oA 6 (.alloc [(.int .i64 0), (.int .i64 0), (.int .i64 0)]) [], uM 5 12, oZ (.store 3) [.t 6, .t 14]]) (.seq (.ops [uO 15 fA0 3, uO 16 lF 15, uO 17 fA0 6, uO 18 lF 17, uB 19 (.call 141) 16 18]) (.cond (.t 19) (.ops [uM 20 4, uM 21 5, uO 22 (.bslice 1) 21, uB 23 (.append 1 8) 20 22, uM 4 23]) .skip)))) (.ops [oA 24 bA [.t 10, (kI 1)], uM 10 24]))))))) (.seq (.ops [uM 25 4, uM 4 25]) .ret)))
theorem fc164 : fnC Tryz.prog 164 cert164 = some (26, [.tmp 4], ac164) := by kernel_rfl
def cert165 : Nat → Option Cert := fun _ => none
def ac165 : ACode :=(.seq (.ops [uO 2 .box 0]) (.seq (.ops [oA 3 (.alloc [(.int .i64 0), (.int .i64 0), (.int .i64 0), (.int .i64 0), (.int .i64 0), (.int .i64 0), (.int .i64 0)]) []]) (.seq (.ops [oA 4 (.alloc [.nilf]) []]) (.seq (.ops [oA 5 (.mkfunc (.func 166) 0) [.t 1, .t 2, .t 3, .t 4], oZ (.store 1) [.t 4, .t 5]]) (.ops [uO 6 lF 4, oA 7 .callv [.t 6, (kI 0)]])))))
theorem fc165 : fnC Tryz.prog 165 cert165 = some (8, [], ac165) := by kernel_rfl
def cert166 : Nat → Option Cert := fun
  | 3 => some ⟨[0, 1, 2, 3, 4, 5, 6, 7, 8], .done, [[], [], [1], [], [1, 2, 3], [1, 2, 3, 4], [0, 1, 2, 3, 4, 5], [0, 1, 2, 3, 4, 5, 6], []]⟩
  | _ => none
def ac166 : ACode :=(.seq (.ops [oA 6 .mov [kF]]) (.seq (.seq (.ops [uM 9 0, uO 10 fA1 1, uO 11 lF 10, uO 12 .len 11, uB 13 bE 9 12]) (.cond (.t 13) (.seq (.ops [uO 14 lF 2, uO 15 lT7 3, uB 16 .callv 14 15, uM 6 16]) .ret) .skip)) (.seq (.seq (.draw [(false, uO 17 lT3 1), (false, uO 18 fA1 1), (false, uO 19 lF 18), (false, uM 20 0), (false, uB 21 (.idxaddr 2) 19 20), (false, uO 22 lT2 21), (false, uB 23 (.call 164) 17 22), (false, uO 24 .len 23), (false, oA 25 .mov [(kI 0)])] .done) (.block 0 (.loop (.seq (.ops [uB 26 bL 25 24]) (.seq (.cond (.t 26) .skip (.exit 0)) (.seq (.block 1 (.seq (.ops [uB 27 (.idxaddr 1) 23 25, uO 28 lF 27, uM 8 28]) (.seq (.ops [uM 29 0, uM 30 8, uB 31 (.arraddr 7 1) 3 29, oZ (.store 1) [.t 31, .t 30]]) (.seq (.ops [uO 32 lF 4, uM 33 0, oA 34 bA [.t 33, (kI 1)], uB 35 .callv 32 34, uO 36 .not 35]) (.cond (.t 36) (.seq (.ops [oA 6 .mov [kF]]) .ret) .skip))))) (.ops [oA 37 bA [.t 25, (kI 1)], uM 25 37]))))))) (.seq (.ops [oA 6 .mov [kT]]) .ret))))
theorem fc166 : fnC Tryz.prog 166 cert166 = some (38, [.tmp 6], ac166) := by kernel_rfl
def cert167 : Nat → Option Cert := fun _ => none
def ac167 : ACode :=(.seq (.ops [uO 2 .box 0, uO 3 .box 1, oA 4 .mov [kE]]) (.seq (.ops [uO 7 fA0 2, uO 8 lF 7, uO 9 .len 8, uO 10 (.mkslice 1 8 [(.int .i64 0)]) 9, uM 5 10]) (.seq (.seq (.ops [uO 11 fA1 2, uO 12 lF 11, uO 13 .len 12, oA 14 .mov [(kI 0)]]) (.block 0 (.loop (.seq (.ops [uB 15 bL 14 13]) (.seq (.cond (.t 15) .skip (.exit 0)) (.seq (.block 1 (.seq (.ops [uM 16 14, uM 6 16]) (.ops [uM 17 5, uM 18 6, uB 19 (.arraddr 7 1) 3 18, uO 20 lF 19, uB 21 (.idxaddr 1) 17 20, uO 22 lF 21, oA 23 bA [.t 22, (kI 1)], uB 24 (.idxaddr 1) 17 20, oZ (.store 1) [.t 24, .t 23]]))) (.ops [oA 25 bA [.t 14, (kI 1)], uM 14 25]))))))) (.seq (.ops [uM 26 5, uM 4 26]) .ret))))
theorem fc167 : fnC Tryz.prog 167 cert167 = some (27, [.tmp 4], ac167) := by kernel_rfl
def cert168 : Nat → Option Cert := fun _ => none
def ac168 : ACode :=(.seq (.ops [uO 2 .box 0, oA 4 .mov [kF]]) (.seq (.ops [uM 5 1, uO 6 fA0 2, uO 7 lF 6, uO 8 fA1 2, uO 9 lF 8, oA 10 (.call 159) [.t 5, .t 7, .t 9], uM 4 10]) .ret))
theorem fc168 : fnC Tryz.prog 168 cert168 = some (11, [.tmp 4], ac168) := by kernel_rfl
def cert169 : Nat → Option Cert := fun _ => none
def ac169 : ACode :=(.seq (.ops [oA 2 .mov [(kI 0)]]) (.seq (.seq (.ops [uM 5 0, uO 6 .len 5, oA 7 bL [.t 6, (kI 1)]]) (.cond (.t 7) (.ops [oA 8 .dead [], oZ .dead []]) .skip)) (.seq (.ops [uM 9 0, oA 10 (.idxaddr 1) [.t 9, (kI 0)], uO 11 lF 10, uM 3 11]) (.seq (.seq (.ops [oA 4 .mov [(kI 1)]]) (.block 0 (.loop (.seq (.seq (.ops [uM 12 4, uM 13 0, uO 14 .len 13, uB 15 bL 12 14]) (.cond (.t 15) .skip (.exit 0))) (.seq (.block 1 (.ops [uM 18 3, uM 19 0, uM 20 4, uB 21 (.idxaddr 1) 19 20, uO 22 lF 21, uB 23 .min 18 22, uM 3 23])) (.ops [uM 16 4, oA 17 bA [.t 16, (kI 1)], uM 4 17])))))) (.seq (.ops [uM 24 3, uM 2 24]) .ret)))))
theorem fc169 : fnC Tryz.prog 169 cert169 = some (25, [.tmp 2], ac169) := by kernel_rfl
def cert170 : Nat → Option Cert := fun _ => none
def ac170 : ACode :=(.seq (.ops [oA 4 .mov [(kI 0)]]) (.seq (.seq (.ops [uM 6 0, uO 7 .len 6, oA 8 .mov [(kI 0)]]) (.block 0 (.loop (.seq (.ops [uB 9 bL 8 7]) (.seq (.cond (.t 9) .skip (.exit 0)) (.seq (.block 1 (.seq (.ops [uM 10 8, uM 5 10]) (.seq (.ops [uM 11 1, uM 12 0, uM 13 5, uB 14 (.idxaddr 1) 12 13, uO 15 lF 14, uB 16 .callv 11 15]) (.cond (.t 16) (.seq (.ops [uM 17 5, uM 4 17]) .ret) .skip)))) (.ops [oA 18 bA [.t 8, (kI 1)], uM 8 18]))))))) (.seq (.ops [oA 4 .mov [(.c (.int .i64 (-1)))]]) .ret)))
theorem fc170 : fnC Tryz.prog 170 cert170 = some (19, [.tmp 4], ac170) := by kernel_rfl
def cert171 : Nat → Option Cert := fun _ => none
def ac171 : ACode :=(.seq (.ops [oA 4 .mov [(kI 0)]]) (.seq (.seq (.ops [uM 6 0, uO 7 .len 6, oA 8 .mov [(kI 0)]]) (.block 0 (.loop (.seq (.ops [uB 9 bL 8 7]) (.seq (.cond (.t 9) .skip (.exit 0)) (.seq (.block 1 (.seq (.ops [uM 10 8, uM 5 10]) (.seq (.ops [uM 11 1, uM 12 0, uM 13 5, uB 14 (.idxaddr 1) 12 13, uO 15 lF 14, uB 16 bE 11 15]) (.cond (.t 16) (.seq (.ops [uM 17 5, uM 4 17]) .ret) .skip)))) (.ops [oA 18 bA [.t 8, (kI 1)], uM 8 18]))))))) (.seq (.ops [oA 4 .mov [(.c (.int .i64 (-1)))]]) .ret)))
theorem fc171 : fnC Tryz.prog 171 cert171 = some (19, [.tmp 4], ac171) := by kernel_rfl
def cert172 : Nat → Option Cert := fun _ => none
def ac172 : ACode :=(.seq (.ops [oA 4 .mov [(kI 0)]]) (.seq (.seq (.ops [uM 6 0, uO 7 .len 6, oA 8 .mov [(kI 0)]]) (.block 0 (.loop (.seq (.ops [uB 9 bL 8 7]) (.seq (.cond (.t 9) .skip (.exit 0)) (.seq (.block 1 (.seq (.ops [uM 10 8, uM 5 10]) (.seq (.ops [uM 11 1, uM 12 0, uM 13 5, uB 14 (.idxaddr 4) 12 13, uO 15 lT4 14, uB 16 .callv 11 15]) (.cond (.t 16) (.seq (.ops [uM 17 5, uM 4 17]) .ret) .skip)))) (.ops [oA 18 bA [.t 8, (kI 1)], uM 8 18]))))))) (.seq (.ops [oA 4 .mov [(.c (.int .i64 (-1)))]]) .ret)))
theorem fc172 : fnC Tryz.prog 172 cert172 = some (19, [.tmp 4], ac172) := by kernel_rfl
def cert173 : Nat → Option Cert := fun _ => none
def ac173 : ACode :=(.seq (.ops [oA 4 .mov [(kI 0)]]) (.seq (.seq (.ops [uM 6 0, uO 7 .len 6, oA 8 .mov [(kI 0)]]) (.block 0 (.loop (.seq (.ops [uB 9 bL 8 7]) (.seq (.cond (.t 9) .skip (.exit 0)) (.seq (.block 1 (.seq (.ops [uM 10 8, uM 5 10]) (.seq (.ops [uM 11 1, uM 12 0, uM 13 5, uB 14 (.idxaddr 2) 12 13, uO 15 lT2 14, uB 16 .callv 11 15]) (.cond (.t 16) (.seq (.ops [uM 17 5, uM 4 17]) .ret) .skip)))) (.ops [oA 18 bA [.t 8, (kI 1)], uM 8 18]))))))) (.seq (.ops [oA 4 .mov [(.c (.int .i64 (-1)))]]) .ret)))
theorem fc173 : fnC Tryz.prog 173 cert173 = some (19, [.tmp 4], ac173) := by kernel_rfl
def cert174 : Nat → Option Cert := fun _ => none
def ac174 : ACode :=(.seq (.ops [oA 4 .mov [(kI 0)]]) (.seq (.seq (.ops [uM 6 0, uO 7 .len 6, oA 8 .mov [(kI 0)]]) (.block 0 (.loop (.seq (.ops [uB 9 bL 8 7]) (.seq (.cond (.t 9) .skip (.exit 0)) (.seq (.block 1 (.seq (.ops [uM 10 8, uM 5 10]) (.seq (.ops [uM 11 1, uM 12 0, uM 13 5, uB 14 (.idxaddr 2) 12 13, uO 15 lT2 14, uB 16 .callv 11 15]) (.cond (.t 16) (.seq (.ops [uM 17 5, uM 4 17]) .ret) .skip)))) (.ops [oA 18 bA [.t 8, (kI 1)], uM 8 18]))))))) (.seq (.ops [oA 4 .mov [(.c (.int .i64 (-1)))]]) .ret)))
theorem fc174 : fnC Tryz.prog 174 cert174 = some (19, [.tmp 4], ac174) := by kernel_rfl
def cert175 : Nat → Option Cert := fun _ => none
def ac175 : ACode :=(.seq (.ops [oA 4 .mov [(kI 0)]]) (.seq (.ops [oA 5 .mov [(kI 0)]]) (.seq (.seq (.ops [oA 6 .mov [(kI 0)]]) (.block 0 (.loop (.seq (.seq (.ops [uM 7 6, uM 8 0, uO 9 .len 8, uB 10 bL 7 9]) (.cond (.t 10) .skip (.exit 0))) (.seq (.block 1 (.seq (.ops [uM 13 0, uM 14 6, uB 15 (.idxaddr 1) 13 14, uO 16 lF 15, uM 17 1, uB 18 bE 16 17]) (.cond (.t 18) (.ops [uM 19 5, oA 20 bA [.t 19, (kI 1)], uM 5 20]) .skip))) (.ops [uM 11 6, oA 12 bA [.t 11, (kI 1)], uM 6 12])))))) (.seq (.ops [uM 21 5, uM 4 21]) .ret))))
theorem fc175 : fnC Tryz.prog 175 cert175 = some (22, [.tmp 4], ac175) := by kernel_rfl
def cert176 : Nat → Option Cert := fun _ => none
def ac176 : ACode :=(.seq (.ops [oA 4 .mov [(kI 0)]]) (.seq (.seq (.ops [uM 6 0, uO 7 .len 6, oA 8 .mov [(kI 0)]]) (.block 0 (.loop (.seq (.ops [uB 9 bL 8 7]) (.seq (.cond (.t 9) .skip (.exit 0)) (.seq (.block 1 (.seq (.ops [uM 10 8, uM 5 10]) (.seq (.ops [uM 11 1, uM 12 0, uM 13 5, uB 14 (.idxaddr 23) 12 13, uO 15 (.load true 23) 14, uB 16 .callv 11 15]) (.cond (.t 16) (.seq (.ops [uM 17 5, uM 4 17]) .ret) .skip)))) (.ops [oA 18 bA [.t 8, (kI 1)], uM 8 18]))))))) (.seq (.ops [oA 4 .mov [(.c (.int .i64 (-1)))]]) .ret)))
theorem fc176 : fnC Tryz.prog 176 cert176 = some (19, [.tmp 4], ac176) := by kernel_rfl
def cert177 : Nat → Option Cert := fun _ => none
def ac177 : ACode :=(.seq (.ops [oA 2 .mov [kF]]) (.seq (.ops [uM 3 0, oA 4 (.call 159) [.t 3, (kI 0), (kI 9)], uM 2 4]) .ret))
theorem fc177 : fnC Tryz.prog 177 cert177 = some (5, [.tmp 2], ac177) := by kernel_rfl
def cert178 : Nat → Option Cert := fun _ => none
def ac178 : ACode :=(.seq (.ops [oA 4 .mov [kF]]) (.seq (.ops [uM 5 0, uM 6 1, uB 7 (.call 182) 5 6, oA 8 (.bin .geq) [.t 7, (kI 0)], uM 4 8]) .ret))
theorem fc178 : fnC Tryz.prog 178 cert178 = some (9, [.tmp 4], ac178) := by kernel_rfl
def cert179 : Nat → Option Cert := fun _ => none
def ac179 : ACode :=(.seq (.ops [uO 2 .box 0, oA 3 .mov [kF]]) (.seq (.ops [uO 4 lF 1, uO 5 lT3 2, uB 6 .callv 4 5, uO 7 .not 6, uM 3 7]) .ret))
theorem fc179 : fnC Tryz.prog 179 cert179 = some (8, [.tmp 3], ac179) := by kernel_rfl
def cert180 : Nat → Option Cert := fun _ => none
def ac180 : ACode :=(.seq (.ops [oA 4 .mov [kF]]) (.seq (.ops [uM 5 0, uM 6 1, uB 7 (.call 183) 5 6, oA 8 (.bin .geq) [.t 7, (kI 0)], uM 4 8]) .ret))
theorem fc180 : fnC Tryz.prog 180 cert180 = some (9, [.tmp 4], ac180) := by kernel_rfl
def cert181 : Nat → Option Cert := fun _ => none
def ac181 : ACode :=(.seq (.ops [uO 2 .box 0, oA 3 .mov [kF]]) (.seq (.ops [uO 4 lF 1, uO 5 lT2 2, uB 6 .callv 4 5, uO 7 .not 6, uM 3 7]) .ret))
theorem fc181 : fnC Tryz.prog 181 cert181 = some (8, [.tmp 3], ac181) := by kernel_rfl
def cert182 : Nat → Option Cert := fun _ => none
def ac182 : ACode :=(.seq (.ops [oA 4 .mov [(kI 0)]]) (.seq (.seq (.ops [uM 6 0, uO 7 .len 6, oA 8 .mov [(kI 0)]]) (.block 0 (.loop (.seq (.ops [uB 9 bL 8 7]) (.seq (.cond (.t 9) .skip (.exit 0)) (.seq (.block 1 (.seq (.ops [uM 10 8, uM 5 10]) (.seq (.ops [uM 11 1, uM 12 0, uM 13 5, uB 14 (.idxaddr 3) 12 13, uO 15 lT3 14, uB 16 .callv 11 15]) (.cond (.t 16) (.seq (.ops [uM 17 5, uM 4 17]) .ret) .skip)))) (.ops [oA 18 bA [.t 8, (kI 1)], uM 8 18]))))))) (.seq (.ops [oA 4 .mov [(.c (.int .i64 (-1)))]]) .ret)))
theorem fc182 : fnC Tryz.prog 182 cert182 = some (19, [.tmp 4], ac182) := by kernel_rfl
def cert183 : Nat → Option Cert := fun _ => none
def ac183 : ACode :=(.seq (.ops [oA 4 .mov [(kI 0)]]) (.seq (.seq (.ops [uM 6 0, uO 7 .len 6, oA 8 .mov [(kI 0)]]) (.block 0 (.loop (.seq (.ops [uB 9 bL 8 7]) (.seq (.cond (.t 9) .skip (.exit 0)) (.seq (.block 1 (.seq (.ops [uM 10 8, uM 5 10]) (.seq (.ops [uM 11 1, uM 12 0, uM 13 5, uB 14 (.idxaddr 2) 12 13, uO 15 lT2 14, uB 16 .callv 11 15]) (.cond (.t 16) (.seq (.ops [uM 17 5, uM 4 17]) .ret) .skip)))) (.ops [oA 18 bA [.t 8, (kI 1)], uM 8 18]))))))) (.seq (.ops [oA 4 .mov [(.c (.int .i64 (-1)))]]) .ret)))
theorem fc183 : fnC Tryz.prog 183 cert183 = some (19, [.tmp 4], ac183) := by kernel_rfl
end Go.Lift
set_option linter.unusedSimpArgs false
set_option linter.unusedVariables false
namespace Go.Lift
open Go Go.Proofs
theorem hmix : Tryz.prog.follows .mixedOrders = true := by kernel_rfl

theorem within_c (a b c : Int) : Pure Tryz.prog 131 [i6 a, i6 b, i6 c] (.bool (decide (b ≤ a ∧ a ≤ c))) := by
  intro H
  refine fn_of hmix fc131 (by simp) ?_
  rw [ienv3]
  by_cases h1 : b ≤ a <;> by_cases h2 : a ≤ c <;> simp only [go_sem, reduceIte, reduceCtorEq, Nat.reduceEqDiff, Nat.reduceBEq, Nat.reduceAdd, Nat.reduceMul, Nat.reduceLeDiff, ac131, h1, h2] <;>
    (refine fin_ret' 6 (by simp [upd_at]) ?_; simp [upd_at])
theorem within3_c (a b c : Int) : Pure Tryz.prog 159 [i6 a, i6 b, i6 c] (.bool (decide (b ≤ a ∧ a ≤ c))) := by
  intro H
  refine fn_of hmix fc159 (by simp) ?_
  rw [ienv3]
  by_cases h1 : b ≤ a <;> by_cases h2 : a ≤ c <;> simp only [go_sem, reduceIte, reduceCtorEq, Nat.reduceEqDiff, Nat.reduceBEq, Nat.reduceAdd, Nat.reduceMul, Nat.reduceLeDiff, ac159, h1, h2] <;>
    (refine fin_ret' 6 (by simp [upd_at]) ?_; simp [upd_at])
theorem in_c (a b c : Int) : Pure Tryz.prog 47 [i6 a, i6 b, i6 c] (.bool (decide (b ≤ a ∧ a ≤ c))) := by
  intro H
  refine fn_of hmix fc47 (by simp) ?_
  rw [ienv3]
  by_cases h1 : b ≤ a <;> by_cases h2 : a ≤ c <;> simp only [go_sem, reduceIte, reduceCtorEq, Nat.reduceEqDiff, Nat.reduceBEq, Nat.reduceAdd, Nat.reduceMul, Nat.reduceLeDiff, ac47, ge_iff_le, h1, h2] <;>
    (refine fin_ret' 6 (by simp [upd_at]) ?_; simp [upd_at])
theorem mark_c (a : Int) : Pure Tryz.prog 177 [i6 a] (.bool (decide (0 ≤ a ∧ a ≤ 9))) := by
  intro H
  refine fn_of hmix fc177 (by simp) ?_
  rw [ienv1]
  simp only [go_sem, reduceIte, reduceCtorEq, Nat.reduceEqDiff, Nat.reduceBEq, Nat.reduceAdd, Nat.reduceMul, Nat.reduceLeDiff, ac177]
  refine (within3_c a 0 9).go ?_
  simp only [go_sem, reduceIte, reduceCtorEq, Nat.reduceEqDiff, Nat.reduceBEq, Nat.reduceAdd, Nat.reduceMul, Nat.reduceLeDiff]
  refine fin_ret' 2 (by simp [upd_at]) ?_
  simp [upd_at]
theorem has_c (l : List Int) (n : Int) (hl : Sm l.length) : Pure Tryz.prog 40 [.slice (eI l), i6 n] (.bool (decide (n ∈ l))) := by
  intro H
  unfold Sm at hl
  refine fn_of hmix fc40 (by simp) ?_
  rw [ienv2]
  simp only [go_sem, reduceIte, reduceCtorEq, Nat.reduceEqDiff, Nat.reduceBEq, Nat.reduceAdd, Nat.reduceMul, Nat.reduceLeDiff, ac40]
  refine x_for l.length (fun j env H' => H' = H ∧ env 5 = i6 j ∧ env 0 = .slice (eI l) ∧ env 1 = i6 n ∧ env 18 = .any ∧ n ∉ l.take j) (by simp [upd_at]) ?_
  rintro j env H' hj ⟨rfl, h5, h0, h1, hN, hp⟩
  by_cases hlt : (j : Int) < (l.length : Int)
  · have hlt' : j < l.length := by omega
    by_cases he : l[j] = n
    · simp only [go_sem, reduceIte, reduceCtorEq, Nat.reduceEqDiff, Nat.reduceBEq, Nat.reduceAdd, Nat.reduceMul, Nat.reduceLeDiff, h5, h0, h1, hlt, eI_get hlt', he]
      refine fin_ret' 4 (by simp [upd_at, hN]) ?_
      simp only [upd_at, if_true, and_true, AV.bool.injEq]
      symm; rw [decide_eq_true_eq, ← he]; exact List.getElem_mem _
    · simp only [go_sem, reduceIte, reduceCtorEq, Nat.reduceEqDiff, Nat.reduceBEq, Nat.reduceAdd, Nat.reduceMul, Nat.reduceLeDiff, h5, h0, h1, hlt, eI_get hlt', he, wsucc (show j < 4611686018427387904 by omega), hN, hlt']
      rw [mem_take_succ hlt']; rintro (h | h)
      · exact hp h
      · exact he h.symm
  · simp only [go_sem, reduceIte, reduceCtorEq, Nat.reduceEqDiff, Nat.reduceBEq, Nat.reduceAdd, Nat.reduceMul, Nat.reduceLeDiff, h5, h0, h1, hlt]
    refine fin_ret' 4 (by simp [upd_at, hN]) ?_
    have : j = l.length := by omega
    subst this
    simp only [List.take_length] at hp
    simp [upd_at, hp]
/-- where a number stands first -/
theorem index_c (l : List Int) (n : Int) (hl : Sm l.length) (H : AHeap) : ACalls Tryz.prog 171 [.slice (eI l), i6 n] H fun r H' => H' = H ∧ ∃ k : Int, r = i6 k ∧ (0 ≤ k ↔ n ∈ l) := by
  unfold Sm at hl
  refine fn_of hmix fc171 (by simp) ?_
  rw [ienv2]
  simp only [go_sem, reduceIte, reduceCtorEq, Nat.reduceEqDiff, Nat.reduceBEq, Nat.reduceAdd, Nat.reduceMul, Nat.reduceLeDiff, ac171]
  refine x_for l.length (fun j env H' => H' = H ∧ env 8 = i6 j ∧ env 7 = i6 l.length ∧ env 0 = .slice (eI l) ∧ env 1 = i6 n ∧ env 19 = .any ∧ n ∉ l.take j) (by simp [upd_at]) ?_
  rintro j env H' hj ⟨rfl, h5, h7, h0, h1, hN, hp⟩
  by_cases hlt : (j : Int) < (l.length : Int)
  · have hlt' : j < l.length := by omega
    by_cases he : n = l[j]
    · subst he
      simp only [go_sem, reduceIte, reduceCtorEq, Nat.reduceEqDiff, Nat.reduceBEq, Nat.reduceAdd, Nat.reduceMul, Nat.reduceLeDiff, h5, h0, h1, h7, hlt, eI_get hlt']
      refine fin_ret' 4 (by simp [upd_at, hN]) ?_
      simp only [upd_at, if_true, true_and]
      exact ⟨j, rfl, by simp⟩
    · simp only [go_sem, reduceIte, reduceCtorEq, Nat.reduceEqDiff, Nat.reduceBEq, Nat.reduceAdd, Nat.reduceMul, Nat.reduceLeDiff, h5, h0, h1, h7, hlt, eI_get hlt', he, wsucc (show j < 4611686018427387904 by omega), hN, hlt']
      rw [mem_take_succ hlt']; rintro (h | h)
      · exact hp h
      · exact he h
  · simp only [go_sem, reduceIte, reduceCtorEq, Nat.reduceEqDiff, Nat.reduceBEq, Nat.reduceAdd, Nat.reduceMul, Nat.reduceLeDiff, h5, h0, h1, h7, hlt]
    refine fin_ret' 4 (by simp [upd_at, hN]) ?_
    have : j = l.length := by omega
    subst this
    simp only [List.take_length] at hp
    simp only [upd_at, if_true, true_and]
    exact ⟨-1, rfl, by simp [hp]⟩
theorem contains_c (l : List Int) (n : Int) (hl : Sm l.length) : Pure Tryz.prog 141 [.slice (eI l), i6 n] (.bool (decide (n ∈ l))) := by
  intro H
  refine fn_of hmix fc141 (by simp) ?_
  rw [ienv2]
  simp only [go_sem, reduceIte, reduceCtorEq, Nat.reduceEqDiff, Nat.reduceBEq, Nat.reduceAdd, Nat.reduceMul, Nat.reduceLeDiff, ac141]
  refine (index_c l n hl H).mono ?_
  rintro _ H' ⟨rfl, k, rfl, hk⟩
  simp only [go_sem, reduceIte, reduceCtorEq, Nat.reduceEqDiff, Nat.reduceBEq, Nat.reduceAdd, Nat.reduceMul, Nat.reduceLeDiff]
  refine fin_ret' 4 (by simp [upd_at]) ?_
  simp [upd_at, hk]
/-- a range of numbers -/
theorem rangehas_c (lo hi n : Int) : Pure Tryz.prog 168 [.agg [i6 lo, i6 hi], i6 n] (.bool (decide (lo ≤ n ∧ n ≤ hi))) := by
  intro H
  refine fn_of hmix fc168 (by simp) ?_
  rw [ienv2]
  simp only [go_sem, reduceIte, reduceCtorEq, Nat.reduceEqDiff, Nat.reduceBEq, Nat.reduceAdd, Nat.reduceMul, Nat.reduceLeDiff, ac168]
  refine v_box _ rfl fun b hb => ?_
  simp only [go_sem, reduceIte, reduceCtorEq, Nat.reduceEqDiff, Nat.reduceBEq, Nat.reduceAdd, Nat.reduceMul, Nat.reduceLeDiff]
  refine (within3_c n lo hi).go ?_
  simp only [go_sem, reduceIte, reduceCtorEq, Nat.reduceEqDiff, Nat.reduceBEq, Nat.reduceAdd, Nat.reduceMul, Nat.reduceLeDiff]
  refine fin_ret 4 (by simp [upd_at]) ⟨_, H, Settle.refl ((Ext.refl H).new hb _), ?_⟩
  simp [upd_at]
def womanOK (w : Woman) : Bool := decide (0 ≤ w.mark ∧ w.mark ≤ 9 ∧ 0 ≤ w.lo ∧ w.lo ≤ w.hi ∧ w.hi ≤ 7)
theorem woman_c (w : Woman) : Pure Tryz.prog 161 [.agg (eW w)] (.bool (womanOK w)) := by
  intro H
  refine fn_of hmix fc161 (by simp) ?_
  rw [ienv1]
  unfold ac161
  simp only [go_sem, reduceIte, reduceCtorEq, Nat.reduceEqDiff, Nat.reduceBEq, Nat.reduceAdd, Nat.reduceMul, Nat.reduceLeDiff]
  refine v_box _ rfl fun b hb => ?_
  simp only [go_sem, reduceIte, reduceCtorEq, Nat.reduceEqDiff, Nat.reduceBEq, Nat.reduceAdd, Nat.reduceMul, Nat.reduceLeDiff, eW]
  refine (mark_c w.mark).go ?_
  by_cases h1 : 0 ≤ w.mark ∧ w.mark ≤ 9 <;> by_cases h2 : 0 ≤ w.lo <;> by_cases h3 : w.lo ≤ w.hi <;> by_cases h4 : w.hi ≤ 7 <;> simp only [go_sem, reduceIte, reduceCtorEq, Nat.reduceEqDiff, Nat.reduceBEq, Nat.reduceAdd, Nat.reduceMul, Nat.reduceLeDiff, h1, h2, h3, h4] <;>
    (refine fin_ret 2 (by simp [upd_at]) ⟨_, H, Settle.refl ((Ext.refl H).new hb _), ?_⟩) <;> simp [upd_at, womanOK, h1, h2, h3, h4] <;> simp [h1]
end Go.Lift

set_option linter.unusedSimpArgs false
set_option linter.unusedVariables false
namespace Go.Lift
open Go Go.Proofs
theorem take_len {l : List AV} {n : Nat} (h : l.length = n) : l.take n = l := List.take_of_length_le (by omega)
/-- a function value that tests an element, in each heap that holds on to this one -/
def Tests (P : Program) (g : FuncId) (fs cs : List AV) (H : AHeap) (x : AV) (b : Bool) : Prop := ∀ H1, Ext H H1 → ACalls P g (fs ++ [x] ++ cs) H1 fun r H' => r = .bool b ∧ H' = H1
theorem Tests.ext {P : Program} {g : FuncId} {fs cs : List AV} {H H' : AHeap} {x : AV} {b : Bool} (t : Tests P g fs cs H x b) (e : Ext H H') : Tests P g fs cs H' x b := fun H1 e1 => t H1 (e.trans e1)

theorem idxf_int (l : List Int) (p : Int → Bool) (g : FuncId) (fs cs : List AV) (hl : Sm l.length) (H : AHeap) (hp : ∀ x ∈ l, Tests Tryz.prog g fs cs H (i6 x) (p x)) :
    ACalls Tryz.prog 170 [.slice (eI l), .func (.func g) fs cs] H fun r H' => H' = H ∧ ∃ k : Int, r = i6 k ∧ (0 ≤ k ↔ ∃ x ∈ l, p x = true) := by
  unfold Sm at hl
  refine fn_of hmix fc170 (by simp) ?_
  rw [ienv2]
  simp only [go_sem, reduceIte, reduceCtorEq, Nat.reduceEqDiff, Nat.reduceBEq, Nat.reduceAdd, Nat.reduceMul, Nat.reduceLeDiff, ac170]
  refine x_for l.length (fun j env H' => H' = H ∧ env 8 = i6 j ∧ env 7 = i6 l.length ∧ env 0 = .slice (eI l) ∧ env 1 = .func (.func g) fs cs ∧ env 19 = .any ∧ ∀ x ∈ l.take j, p x = false) (by simp [upd_at]) ?_
  rintro j env H' hj ⟨rfl, h5, h7, h0, h1, hN, hq⟩
  by_cases hlt : (j : Int) < (l.length : Int)
  · have hlt' : j < l.length := by omega
    simp only [go_sem, reduceIte, reduceCtorEq, Nat.reduceEqDiff, Nat.reduceBEq, Nat.reduceAdd, Nat.reduceMul, Nat.reduceLeDiff, h5, h0, h1, h7, hlt, eI_get hlt']
    refine (hp l[j] (List.getElem_mem _) _ (Ext.refl _)).mono ?_
    rintro _ H' ⟨rfl, rfl⟩
    simp only [go_sem, reduceIte, reduceCtorEq, Nat.reduceEqDiff, Nat.reduceBEq, Nat.reduceAdd, Nat.reduceMul, Nat.reduceLeDiff]
    cases hpj : p l[j]
    · simp only [go_sem, reduceIte, reduceCtorEq, Nat.reduceEqDiff, Nat.reduceBEq, Nat.reduceAdd, Nat.reduceMul, Nat.reduceLeDiff, h5, h0, h1, h7, hN, hlt', wsucc (show j < 4611686018427387904 by omega)]
      intro x hx
      rcases (mem_take_succ hlt').1 hx with h | h
      · exact hq x h
      · rw [h]; exact hpj
    · simp only [go_sem, reduceIte, reduceCtorEq, Nat.reduceEqDiff, Nat.reduceBEq, Nat.reduceAdd, Nat.reduceMul, Nat.reduceLeDiff, h5, h0, h1, h7, hN]
      refine fin_ret' 4 (by simp [upd_at, hN]) ?_
      simp only [upd_at, if_true, true_and]
      exact ⟨j, rfl, by simp; exact ⟨l[j], List.getElem_mem _, hpj⟩⟩
  · simp only [go_sem, reduceIte, reduceCtorEq, Nat.reduceEqDiff, Nat.reduceBEq, Nat.reduceAdd, Nat.reduceMul, Nat.reduceLeDiff, h5, h0, h1, h7, hlt]
    refine fin_ret' 4 (by simp [upd_at, hN]) ?_
    have : j = l.length := by omega
    subst this
    simp only [List.take_length] at hq
    simp only [upd_at, if_true, true_and]
    refine ⟨-1, rfl, by simp; exact fun x hx => hq x hx⟩
theorem conf_int (l : List Int) (p : Int → Bool) (g : FuncId) (fs cs : List AV) (hl : Sm l.length) (H : AHeap) (hp : ∀ x ∈ l, Tests Tryz.prog g fs cs H (i6 x) (p x)) :
    ACalls Tryz.prog 139 [.slice (eI l), .func (.func g) fs cs] H fun r H' => r = .bool (l.any p) ∧ H' = H := by
  refine fn_of hmix fc139 (by simp) ?_
  rw [ienv2]
  simp only [go_sem, reduceIte, reduceCtorEq, Nat.reduceEqDiff, Nat.reduceBEq, Nat.reduceAdd, Nat.reduceMul, Nat.reduceLeDiff, ac139]
  refine (idxf_int l p g fs cs hl H hp).mono ?_
  rintro _ H' ⟨rfl, k, rfl, hk⟩
  simp only [go_sem, reduceIte, reduceCtorEq, Nat.reduceEqDiff, Nat.reduceBEq, Nat.reduceAdd, Nat.reduceMul, Nat.reduceLeDiff]
  refine fin_ret' 4 (by simp [upd_at]) ?_
  simp only [upd_at, if_true, and_true, AV.bool.injEq]
  rw [Bool.eq_iff_iff, decide_eq_true_eq, hk, List.any_eq_true]
theorem allc_int (x : Int) (p : Int → Bool) (g : FuncId) (fs cs : List AV) (H : AHeap) (b : Nat) (hb : H b = some (.box [.func (.func g) fs cs])) (hp : Tests Tryz.prog g fs cs H (i6 x) (p x)) :
    Tests Tryz.prog 140 [] [.ptr b 0] H (i6 x) (!p x) := by
  intro H1 e1
  refine fn_of hmix fc140 (by simp) ?_
  simp only [List.nil_append, List.cons_append]
  rw [ienv2]
  simp only [go_sem, reduceIte, reduceCtorEq, Nat.reduceEqDiff, Nat.reduceBEq, Nat.reduceAdd, Nat.reduceMul, Nat.reduceLeDiff, ac140]
  simp only [go_sem, reduceIte, reduceCtorEq, Nat.reduceEqDiff, Nat.reduceBEq, Nat.reduceAdd, Nat.reduceMul, Nat.reduceLeDiff, e1 _ _ hb]
  refine (hp _ e1).mono ?_
  rintro _ H' ⟨rfl, rfl⟩
  simp only [go_sem, reduceIte, reduceCtorEq, Nat.reduceEqDiff, Nat.reduceBEq, Nat.reduceAdd, Nat.reduceMul, Nat.reduceLeDiff]
  refine fin_ret' 3 (by simp [upd_at]) ?_
  simp [upd_at]
theorem all_int (l : List Int) (p : Int → Bool) (g : FuncId) (fs cs : List AV) (hl : Sm l.length) (H : AHeap) (hp : ∀ x ∈ l, Tests Tryz.prog g fs cs H (i6 x) (p x)) :
    ACalls Tryz.prog 110 [.slice (eI l), .func (.func g) fs cs] H fun r H' => r = .bool (l.all p) ∧ H' = H := by
  refine fn_of hmix fc110 (by simp) ?_
  rw [ienv2]
  simp only [go_sem, reduceIte, reduceCtorEq, Nat.reduceEqDiff, Nat.reduceBEq, Nat.reduceAdd, Nat.reduceMul, Nat.reduceLeDiff, ac110]
  refine v_box _ rfl fun b hb => ?_
  simp only [go_sem, reduceIte, reduceCtorEq, Nat.reduceEqDiff, Nat.reduceBEq, Nat.reduceAdd, Nat.reduceMul, Nat.reduceLeDiff, AV.cells]
  refine (conf_int l (fun x => !p x) 140 [] [.ptr b 0] hl _ (fun x hx => allc_int x p g fs cs _ b (updH_same _ _ _) ((hp x hx).ext ((Ext.refl _).new hb _)))).mono ?_
  rintro _ H' ⟨rfl, rfl⟩
  simp only [go_sem, reduceIte, reduceCtorEq, Nat.reduceEqDiff, Nat.reduceBEq, Nat.reduceAdd, Nat.reduceMul, Nat.reduceLeDiff]
  refine fin_ret 4 (by simp [upd_at]) ⟨_, H, Settle.refl ((Ext.refl H).new hb _), ?_⟩
  simp only [upd_at, if_true, and_true, AV.bool.injEq]
  rw [List.all_eq_not_any_not]

theorem idxf_woman {α : Type} (e : α → List AV) (he : ∀ x, (e x).length = 3) (l : List α) (p : α → Bool) (g : FuncId) (fs cs : List AV) (hl : Sm l.length) (H : AHeap) (hp : ∀ x ∈ l, Tests Tryz.prog g fs cs H (.agg (e x)) (p x)) :
    ACalls Tryz.prog 182 [.slice (l.map e), .func (.func g) fs cs] H fun r H' => H' = H ∧ ∃ k : Int, r = i6 k ∧ (0 ≤ k ↔ ∃ x ∈ l, p x = true) := by
  unfold Sm at hl
  refine fn_of hmix fc182 (by simp) ?_
  rw [ienv2]
  simp only [go_sem, reduceIte, reduceCtorEq, Nat.reduceEqDiff, Nat.reduceBEq, Nat.reduceAdd, Nat.reduceMul, Nat.reduceLeDiff, ac182]
  refine x_for l.length (fun j env H' => H' = H ∧ env 8 = i6 j ∧ env 7 = i6 l.length ∧ env 0 = .slice (l.map e) ∧ env 1 = .func (.func g) fs cs ∧ env 19 = .any ∧ ∀ x ∈ l.take j, p x = false) (by simp [upd_at]) ?_
  rintro j env H' hj ⟨rfl, h5, h7, h0, h1, hN, hq⟩
  by_cases hlt : (j : Int) < (l.length : Int)
  · have hlt' : j < l.length := by omega
    simp only [go_sem, reduceIte, reduceCtorEq, Nat.reduceEqDiff, Nat.reduceBEq, Nat.reduceAdd, Nat.reduceMul, Nat.reduceLeDiff, h5, h0, h1, h7, hlt, map_get (f := e) hlt', he, take_len (he _)]
    refine (hp l[j] (List.getElem_mem _) _ (Ext.refl _)).mono ?_
    rintro _ H' ⟨rfl, rfl⟩
    simp only [go_sem, reduceIte, reduceCtorEq, Nat.reduceEqDiff, Nat.reduceBEq, Nat.reduceAdd, Nat.reduceMul, Nat.reduceLeDiff]
    cases hpj : p l[j]
    · simp only [go_sem, reduceIte, reduceCtorEq, Nat.reduceEqDiff, Nat.reduceBEq, Nat.reduceAdd, Nat.reduceMul, Nat.reduceLeDiff, h5, h0, h1, h7, hN, hlt', wsucc (show j < 4611686018427387904 by omega)]
      intro x hx
      rcases (mem_take_succ hlt').1 hx with h | h
      · exact hq x h
      · rw [h]; exact hpj
    · simp only [go_sem, reduceIte, reduceCtorEq, Nat.reduceEqDiff, Nat.reduceBEq, Nat.reduceAdd, Nat.reduceMul, Nat.reduceLeDiff, h5, h0, h1, h7, hN]
      refine fin_ret' 4 (by simp [upd_at, hN]) ?_
      simp only [upd_at, if_true, true_and]
      exact ⟨j, rfl, by simp; exact ⟨l[j], List.getElem_mem _, hpj⟩⟩
  · simp only [go_sem, reduceIte, reduceCtorEq, Nat.reduceEqDiff, Nat.reduceBEq, Nat.reduceAdd, Nat.reduceMul, Nat.reduceLeDiff, h5, h0, h1, h7, hlt]
    refine fin_ret' 4 (by simp [upd_at, hN]) ?_
    have : j = l.length := by omega
    subst this
    simp only [List.take_length] at hq
    simp only [upd_at, if_true, true_and]
    refine ⟨-1, rfl, by simp; exact fun x hx => hq x hx⟩
theorem conf_woman {α : Type} (e : α → List AV) (he : ∀ x, (e x).length = 3) (l : List α) (p : α → Bool) (g : FuncId) (fs cs : List AV) (hl : Sm l.length) (H : AHeap) (hp : ∀ x ∈ l, Tests Tryz.prog g fs cs H (.agg (e x)) (p x)) :
    ACalls Tryz.prog 178 [.slice (l.map e), .func (.func g) fs cs] H fun r H' => r = .bool (l.any p) ∧ H' = H := by
  refine fn_of hmix fc178 (by simp) ?_
  rw [ienv2]
  simp only [go_sem, reduceIte, reduceCtorEq, Nat.reduceEqDiff, Nat.reduceBEq, Nat.reduceAdd, Nat.reduceMul, Nat.reduceLeDiff, ac178]
  refine (idxf_woman e he l p g fs cs hl H hp).mono ?_
  rintro _ H' ⟨rfl, k, rfl, hk⟩
  simp only [go_sem, reduceIte, reduceCtorEq, Nat.reduceEqDiff, Nat.reduceBEq, Nat.reduceAdd, Nat.reduceMul, Nat.reduceLeDiff]
  refine fin_ret' 4 (by simp [upd_at]) ?_
  simp only [upd_at, if_true, and_true, AV.bool.injEq]
  rw [Bool.eq_iff_iff, decide_eq_true_eq, hk, List.any_eq_true]
theorem allc_woman {α : Type} (e : α → List AV) (he : ∀ x, (e x).length = 3) (x : α) (p : α → Bool) (g : FuncId) (fs cs : List AV) (H : AHeap) (b : Nat) (hb : H b = some (.box [.func (.func g) fs cs])) (hp : Tests Tryz.prog g fs cs H (.agg (e x)) (p x)) :
    Tests Tryz.prog 179 [] [.ptr b 0] H (.agg (e x)) (!p x) := by
  intro H1 e1
  refine fn_of hmix fc179 (by simp) ?_
  simp only [List.nil_append, List.cons_append]
  rw [ienv2]
  simp only [go_sem, reduceIte, reduceCtorEq, Nat.reduceEqDiff, Nat.reduceBEq, Nat.reduceAdd, Nat.reduceMul, Nat.reduceLeDiff, ac179]
  refine v_box _ rfl fun b2 hb2 => ?_
  have hne : b ≠ b2 := fun h => by subst h; rw [e1 _ _ hb] at hb2; cases hb2
  simp only [go_sem, reduceIte, reduceCtorEq, Nat.reduceEqDiff, Nat.reduceBEq, Nat.reduceAdd, Nat.reduceMul, Nat.reduceLeDiff, updH_ne _ _ hne, e1 _ _ hb, he, take_len (he _)]
  refine (hp _ (e1.trans ((Ext.refl _).new hb2 _))).mono ?_
  rintro _ H' ⟨rfl, rfl⟩
  simp only [go_sem, reduceIte, reduceCtorEq, Nat.reduceEqDiff, Nat.reduceBEq, Nat.reduceAdd, Nat.reduceMul, Nat.reduceLeDiff]
  refine fin_ret 3 (by simp [upd_at]) ⟨_, H1, Settle.refl ((Ext.refl H1).new hb2 _), ?_⟩
  simp [upd_at]
theorem all_woman {α : Type} (e : α → List AV) (he : ∀ x, (e x).length = 3) (l : List α) (p : α → Bool) (g : FuncId) (fs cs : List AV) (hl : Sm l.length) (H : AHeap) (hp : ∀ x ∈ l, Tests Tryz.prog g fs cs H (.agg (e x)) (p x)) :
    ACalls Tryz.prog 160 [.slice (l.map e), .func (.func g) fs cs] H fun r H' => r = .bool (l.all p) ∧ H' = H := by
  refine fn_of hmix fc160 (by simp) ?_
  rw [ienv2]
  simp only [go_sem, reduceIte, reduceCtorEq, Nat.reduceEqDiff, Nat.reduceBEq, Nat.reduceAdd, Nat.reduceMul, Nat.reduceLeDiff, ac160]
  refine v_box _ rfl fun b hb => ?_
  simp only [go_sem, reduceIte, reduceCtorEq, Nat.reduceEqDiff, Nat.reduceBEq, Nat.reduceAdd, Nat.reduceMul, Nat.reduceLeDiff, AV.cells]
  refine (conf_woman e he l (fun x => !p x) 179 [] [.ptr b 0] hl _ (fun x hx => allc_woman e he x p g fs cs _ b (updH_same _ _ _) ((hp x hx).ext ((Ext.refl _).new hb _)))).mono ?_
  rintro _ H' ⟨rfl, rfl⟩
  simp only [go_sem, reduceIte, reduceCtorEq, Nat.reduceEqDiff, Nat.reduceBEq, Nat.reduceAdd, Nat.reduceMul, Nat.reduceLeDiff]
  refine fin_ret 4 (by simp [upd_at]) ⟨_, H, Settle.refl ((Ext.refl H).new hb _), ?_⟩
  simp only [upd_at, if_true, and_true, AV.bool.injEq]
  rw [List.all_eq_not_any_not]

theorem idxf_piece {α : Type} (e : α → List AV) (he : ∀ x, (e x).length = 2) (l : List α) (p : α → Bool) (g : FuncId) (fs cs : List AV) (hl : Sm l.length) (H : AHeap) (hp : ∀ x ∈ l, Tests Tryz.prog g fs cs H (.agg (e x)) (p x)) :
    ACalls Tryz.prog 183 [.slice (l.map e), .func (.func g) fs cs] H fun r H' => H' = H ∧ ∃ k : Int, r = i6 k ∧ (0 ≤ k ↔ ∃ x ∈ l, p x = true) := by
  unfold Sm at hl
  refine fn_of hmix fc183 (by simp) ?_
  rw [ienv2]
  simp only [go_sem, reduceIte, reduceCtorEq, Nat.reduceEqDiff, Nat.reduceBEq, Nat.reduceAdd, Nat.reduceMul, Nat.reduceLeDiff, ac183]
  refine x_for l.length (fun j env H' => H' = H ∧ env 8 = i6 j ∧ env 7 = i6 l.length ∧ env 0 = .slice (l.map e) ∧ env 1 = .func (.func g) fs cs ∧ env 19 = .any ∧ ∀ x ∈ l.take j, p x = false) (by simp [upd_at]) ?_
  rintro j env H' hj ⟨rfl, h5, h7, h0, h1, hN, hq⟩
  by_cases hlt : (j : Int) < (l.length : Int)
  · have hlt' : j < l.length := by omega
    simp only [go_sem, reduceIte, reduceCtorEq, Nat.reduceEqDiff, Nat.reduceBEq, Nat.reduceAdd, Nat.reduceMul, Nat.reduceLeDiff, h5, h0, h1, h7, hlt, map_get (f := e) hlt', he, take_len (he _)]
    refine (hp l[j] (List.getElem_mem _) _ (Ext.refl _)).mono ?_
    rintro _ H' ⟨rfl, rfl⟩
    simp only [go_sem, reduceIte, reduceCtorEq, Nat.reduceEqDiff, Nat.reduceBEq, Nat.reduceAdd, Nat.reduceMul, Nat.reduceLeDiff]
    cases hpj : p l[j]
    · simp only [go_sem, reduceIte, reduceCtorEq, Nat.reduceEqDiff, Nat.reduceBEq, Nat.reduceAdd, Nat.reduceMul, Nat.reduceLeDiff, h5, h0, h1, h7, hN, hlt', wsucc (show j < 4611686018427387904 by omega)]
      intro x hx
      rcases (mem_take_succ hlt').1 hx with h | h
      · exact hq x h
      · rw [h]; exact hpj
    · simp only [go_sem, reduceIte, reduceCtorEq, Nat.reduceEqDiff, Nat.reduceBEq, Nat.reduceAdd, Nat.reduceMul, Nat.reduceLeDiff, h5, h0, h1, h7, hN]
      refine fin_ret' 4 (by simp [upd_at, hN]) ?_
      simp only [upd_at, if_true, true_and]
      exact ⟨j, rfl, by simp; exact ⟨l[j], List.getElem_mem _, hpj⟩⟩
  · simp only [go_sem, reduceIte, reduceCtorEq, Nat.reduceEqDiff, Nat.reduceBEq, Nat.reduceAdd, Nat.reduceMul, Nat.reduceLeDiff, h5, h0, h1, h7, hlt]
    refine fin_ret' 4 (by simp [upd_at, hN]) ?_
    have : j = l.length := by omega
    subst this
    simp only [List.take_length] at hq
    simp only [upd_at, if_true, true_and]
    refine ⟨-1, rfl, by simp; exact fun x hx => hq x hx⟩
theorem conf_piece {α : Type} (e : α → List AV) (he : ∀ x, (e x).length = 2) (l : List α) (p : α → Bool) (g : FuncId) (fs cs : List AV) (hl : Sm l.length) (H : AHeap) (hp : ∀ x ∈ l, Tests Tryz.prog g fs cs H (.agg (e x)) (p x)) :
    ACalls Tryz.prog 180 [.slice (l.map e), .func (.func g) fs cs] H fun r H' => r = .bool (l.any p) ∧ H' = H := by
  refine fn_of hmix fc180 (by simp) ?_
  rw [ienv2]
  simp only [go_sem, reduceIte, reduceCtorEq, Nat.reduceEqDiff, Nat.reduceBEq, Nat.reduceAdd, Nat.reduceMul, Nat.reduceLeDiff, ac180]
  refine (idxf_piece e he l p g fs cs hl H hp).mono ?_
  rintro _ H' ⟨rfl, k, rfl, hk⟩
  simp only [go_sem, reduceIte, reduceCtorEq, Nat.reduceEqDiff, Nat.reduceBEq, Nat.reduceAdd, Nat.reduceMul, Nat.reduceLeDiff]
  refine fin_ret' 4 (by simp [upd_at]) ?_
  simp only [upd_at, if_true, and_true, AV.bool.injEq]
  rw [Bool.eq_iff_iff, decide_eq_true_eq, hk, List.any_eq_true]
theorem allc_piece {α : Type} (e : α → List AV) (he : ∀ x, (e x).length = 2) (x : α) (p : α → Bool) (g : FuncId) (fs cs : List AV) (H : AHeap) (b : Nat) (hb : H b = some (.box [.func (.func g) fs cs])) (hp : Tests Tryz.prog g fs cs H (.agg (e x)) (p x)) :
    Tests Tryz.prog 181 [] [.ptr b 0] H (.agg (e x)) (!p x) := by
  intro H1 e1
  refine fn_of hmix fc181 (by simp) ?_
  simp only [List.nil_append, List.cons_append]
  rw [ienv2]
  simp only [go_sem, reduceIte, reduceCtorEq, Nat.reduceEqDiff, Nat.reduceBEq, Nat.reduceAdd, Nat.reduceMul, Nat.reduceLeDiff, ac181]
  refine v_box _ rfl fun b2 hb2 => ?_
  have hne : b ≠ b2 := fun h => by subst h; rw [e1 _ _ hb] at hb2; cases hb2
  simp only [go_sem, reduceIte, reduceCtorEq, Nat.reduceEqDiff, Nat.reduceBEq, Nat.reduceAdd, Nat.reduceMul, Nat.reduceLeDiff, updH_ne _ _ hne, e1 _ _ hb, he, take_len (he _)]
  refine (hp _ (e1.trans ((Ext.refl _).new hb2 _))).mono ?_
  rintro _ H' ⟨rfl, rfl⟩
  simp only [go_sem, reduceIte, reduceCtorEq, Nat.reduceEqDiff, Nat.reduceBEq, Nat.reduceAdd, Nat.reduceMul, Nat.reduceLeDiff]
  refine fin_ret 3 (by simp [upd_at]) ⟨_, H1, Settle.refl ((Ext.refl H1).new hb2 _), ?_⟩
  simp [upd_at]
theorem all_piece {α : Type} (e : α → List AV) (he : ∀ x, (e x).length = 2) (l : List α) (p : α → Bool) (g : FuncId) (fs cs : List AV) (hl : Sm l.length) (H : AHeap) (hp : ∀ x ∈ l, Tests Tryz.prog g fs cs H (.agg (e x)) (p x)) :
    ACalls Tryz.prog 162 [.slice (l.map e), .func (.func g) fs cs] H fun r H' => r = .bool (l.all p) ∧ H' = H := by
  refine fn_of hmix fc162 (by simp) ?_
  rw [ienv2]
  simp only [go_sem, reduceIte, reduceCtorEq, Nat.reduceEqDiff, Nat.reduceBEq, Nat.reduceAdd, Nat.reduceMul, Nat.reduceLeDiff, ac162]
  refine v_box _ rfl fun b hb => ?_
  simp only [go_sem, reduceIte, reduceCtorEq, Nat.reduceEqDiff, Nat.reduceBEq, Nat.reduceAdd, Nat.reduceMul, Nat.reduceLeDiff, AV.cells]
  refine (conf_piece e he l (fun x => !p x) 181 [] [.ptr b 0] hl _ (fun x hx => allc_piece e he x p g fs cs _ b (updH_same _ _ _) ((hp x hx).ext ((Ext.refl _).new hb _)))).mono ?_
  rintro _ H' ⟨rfl, rfl⟩
  simp only [go_sem, reduceIte, reduceCtorEq, Nat.reduceEqDiff, Nat.reduceBEq, Nat.reduceAdd, Nat.reduceMul, Nat.reduceLeDiff]
  refine fin_ret 4 (by simp [upd_at]) ⟨_, H, Settle.refl ((Ext.refl H).new hb _), ?_⟩
  simp only [upd_at, if_true, and_true, AV.bool.injEq]
  rw [List.all_eq_not_any_not]

theorem idxf_touch {α : Type} (e : α → List AV) (he : ∀ x, (e x).length = 4) (l : List α) (p : α → Bool) (g : FuncId) (fs cs : List AV) (hl : Sm l.length) (H : AHeap) (hp : ∀ x ∈ l, Tests Tryz.prog g fs cs H (.agg (e x)) (p x)) :
    ACalls Tryz.prog 172 [.slice (l.map e), .func (.func g) fs cs] H fun r H' => H' = H ∧ ∃ k : Int, r = i6 k ∧ (0 ≤ k ↔ ∃ x ∈ l, p x = true) := by
  unfold Sm at hl
  refine fn_of hmix fc172 (by simp) ?_
  rw [ienv2]
  simp only [go_sem, reduceIte, reduceCtorEq, Nat.reduceEqDiff, Nat.reduceBEq, Nat.reduceAdd, Nat.reduceMul, Nat.reduceLeDiff, ac172]
  refine x_for l.length (fun j env H' => H' = H ∧ env 8 = i6 j ∧ env 7 = i6 l.length ∧ env 0 = .slice (l.map e) ∧ env 1 = .func (.func g) fs cs ∧ env 19 = .any ∧ ∀ x ∈ l.take j, p x = false) (by simp [upd_at]) ?_
  rintro j env H' hj ⟨rfl, h5, h7, h0, h1, hN, hq⟩
  by_cases hlt : (j : Int) < (l.length : Int)
  · have hlt' : j < l.length := by omega
    simp only [go_sem, reduceIte, reduceCtorEq, Nat.reduceEqDiff, Nat.reduceBEq, Nat.reduceAdd, Nat.reduceMul, Nat.reduceLeDiff, h5, h0, h1, h7, hlt, map_get (f := e) hlt', he, take_len (he _)]
    refine (hp l[j] (List.getElem_mem _) _ (Ext.refl _)).mono ?_
    rintro _ H' ⟨rfl, rfl⟩
    simp only [go_sem, reduceIte, reduceCtorEq, Nat.reduceEqDiff, Nat.reduceBEq, Nat.reduceAdd, Nat.reduceMul, Nat.reduceLeDiff]
    cases hpj : p l[j]
    · simp only [go_sem, reduceIte, reduceCtorEq, Nat.reduceEqDiff, Nat.reduceBEq, Nat.reduceAdd, Nat.reduceMul, Nat.reduceLeDiff, h5, h0, h1, h7, hN, hlt', wsucc (show j < 4611686018427387904 by omega)]
      intro x hx
      rcases (mem_take_succ hlt').1 hx with h | h
      · exact hq x h
      · rw [h]; exact hpj
    · simp only [go_sem, reduceIte, reduceCtorEq, Nat.reduceEqDiff, Nat.reduceBEq, Nat.reduceAdd, Nat.reduceMul, Nat.reduceLeDiff, h5, h0, h1, h7, hN]
      refine fin_ret' 4 (by simp [upd_at, hN]) ?_
      simp only [upd_at, if_true, true_and]
      exact ⟨j, rfl, by simp; exact ⟨l[j], List.getElem_mem _, hpj⟩⟩
  · simp only [go_sem, reduceIte, reduceCtorEq, Nat.reduceEqDiff, Nat.reduceBEq, Nat.reduceAdd, Nat.reduceMul, Nat.reduceLeDiff, h5, h0, h1, h7, hlt]
    refine fin_ret' 4 (by simp [upd_at, hN]) ?_
    have : j = l.length := by omega
    subst this
    simp only [List.take_length] at hq
    simp only [upd_at, if_true, true_and]
    refine ⟨-1, rfl, by simp; exact fun x hx => hq x hx⟩
theorem conf_touch {α : Type} (e : α → List AV) (he : ∀ x, (e x).length = 4) (l : List α) (p : α → Bool) (g : FuncId) (fs cs : List AV) (hl : Sm l.length) (H : AHeap) (hp : ∀ x ∈ l, Tests Tryz.prog g fs cs H (.agg (e x)) (p x)) :
    ACalls Tryz.prog 142 [.slice (l.map e), .func (.func g) fs cs] H fun r H' => r = .bool (l.any p) ∧ H' = H := by
  refine fn_of hmix fc142 (by simp) ?_
  rw [ienv2]
  simp only [go_sem, reduceIte, reduceCtorEq, Nat.reduceEqDiff, Nat.reduceBEq, Nat.reduceAdd, Nat.reduceMul, Nat.reduceLeDiff, ac142]
  refine (idxf_touch e he l p g fs cs hl H hp).mono ?_
  rintro _ H' ⟨rfl, k, rfl, hk⟩
  simp only [go_sem, reduceIte, reduceCtorEq, Nat.reduceEqDiff, Nat.reduceBEq, Nat.reduceAdd, Nat.reduceMul, Nat.reduceLeDiff]
  refine fin_ret' 4 (by simp [upd_at]) ?_
  simp only [upd_at, if_true, and_true, AV.bool.injEq]
  rw [Bool.eq_iff_iff, decide_eq_true_eq, hk, List.any_eq_true]
theorem allc_touch {α : Type} (e : α → List AV) (he : ∀ x, (e x).length = 4) (x : α) (p : α → Bool) (g : FuncId) (fs cs : List AV) (H : AHeap) (b : Nat) (hb : H b = some (.box [.func (.func g) fs cs])) (hp : Tests Tryz.prog g fs cs H (.agg (e x)) (p x)) :
    Tests Tryz.prog 143 [] [.ptr b 0] H (.agg (e x)) (!p x) := by
  intro H1 e1
  refine fn_of hmix fc143 (by simp) ?_
  simp only [List.nil_append, List.cons_append]
  rw [ienv2]
  simp only [go_sem, reduceIte, reduceCtorEq, Nat.reduceEqDiff, Nat.reduceBEq, Nat.reduceAdd, Nat.reduceMul, Nat.reduceLeDiff, ac143]
  refine v_box _ rfl fun b2 hb2 => ?_
  have hne : b ≠ b2 := fun h => by subst h; rw [e1 _ _ hb] at hb2; cases hb2
  simp only [go_sem, reduceIte, reduceCtorEq, Nat.reduceEqDiff, Nat.reduceBEq, Nat.reduceAdd, Nat.reduceMul, Nat.reduceLeDiff, updH_ne _ _ hne, e1 _ _ hb, he, take_len (he _)]
  refine (hp _ (e1.trans ((Ext.refl _).new hb2 _))).mono ?_
  rintro _ H' ⟨rfl, rfl⟩
  simp only [go_sem, reduceIte, reduceCtorEq, Nat.reduceEqDiff, Nat.reduceBEq, Nat.reduceAdd, Nat.reduceMul, Nat.reduceLeDiff]
  refine fin_ret 3 (by simp [upd_at]) ⟨_, H1, Settle.refl ((Ext.refl H1).new hb2 _), ?_⟩
  simp [upd_at]
theorem all_touch {α : Type} (e : α → List AV) (he : ∀ x, (e x).length = 4) (l : List α) (p : α → Bool) (g : FuncId) (fs cs : List AV) (hl : Sm l.length) (H : AHeap) (hp : ∀ x ∈ l, Tests Tryz.prog g fs cs H (.agg (e x)) (p x)) :
    ACalls Tryz.prog 118 [.slice (l.map e), .func (.func g) fs cs] H fun r H' => r = .bool (l.all p) ∧ H' = H := by
  refine fn_of hmix fc118 (by simp) ?_
  rw [ienv2]
  simp only [go_sem, reduceIte, reduceCtorEq, Nat.reduceEqDiff, Nat.reduceBEq, Nat.reduceAdd, Nat.reduceMul, Nat.reduceLeDiff, ac118]
  refine v_box _ rfl fun b hb => ?_
  simp only [go_sem, reduceIte, reduceCtorEq, Nat.reduceEqDiff, Nat.reduceBEq, Nat.reduceAdd, Nat.reduceMul, Nat.reduceLeDiff, AV.cells]
  refine (conf_touch e he l (fun x => !p x) 143 [] [.ptr b 0] hl _ (fun x hx => allc_touch e he x p g fs cs _ b (updH_same _ _ _) ((hp x hx).ext ((Ext.refl _).new hb _)))).mono ?_
  rintro _ H' ⟨rfl, rfl⟩
  simp only [go_sem, reduceIte, reduceCtorEq, Nat.reduceEqDiff, Nat.reduceBEq, Nat.reduceAdd, Nat.reduceMul, Nat.reduceLeDiff]
  refine fin_ret 4 (by simp [upd_at]) ⟨_, H, Settle.refl ((Ext.refl H).new hb _), ?_⟩
  simp only [upd_at, if_true, and_true, AV.bool.injEq]
  rw [List.all_eq_not_any_not]

theorem idxf_boiling {α : Type} (e : α → List AV) (he : ∀ x, (e x).length = 2) (l : List α) (p : α → Bool) (g : FuncId) (fs cs : List AV) (hl : Sm l.length) (H : AHeap) (hp : ∀ x ∈ l, Tests Tryz.prog g fs cs H (.agg (e x)) (p x)) :
    ACalls Tryz.prog 173 [.slice (l.map e), .func (.func g) fs cs] H fun r H' => H' = H ∧ ∃ k : Int, r = i6 k ∧ (0 ≤ k ↔ ∃ x ∈ l, p x = true) := by
  unfold Sm at hl
  refine fn_of hmix fc173 (by simp) ?_
  rw [ienv2]
  simp only [go_sem, reduceIte, reduceCtorEq, Nat.reduceEqDiff, Nat.reduceBEq, Nat.reduceAdd, Nat.reduceMul, Nat.reduceLeDiff, ac173]
  refine x_for l.length (fun j env H' => H' = H ∧ env 8 = i6 j ∧ env 7 = i6 l.length ∧ env 0 = .slice (l.map e) ∧ env 1 = .func (.func g) fs cs ∧ env 19 = .any ∧ ∀ x ∈ l.take j, p x = false) (by simp [upd_at]) ?_
  rintro j env H' hj ⟨rfl, h5, h7, h0, h1, hN, hq⟩
  by_cases hlt : (j : Int) < (l.length : Int)
  · have hlt' : j < l.length := by omega
    simp only [go_sem, reduceIte, reduceCtorEq, Nat.reduceEqDiff, Nat.reduceBEq, Nat.reduceAdd, Nat.reduceMul, Nat.reduceLeDiff, h5, h0, h1, h7, hlt, map_get (f := e) hlt', he, take_len (he _)]
    refine (hp l[j] (List.getElem_mem _) _ (Ext.refl _)).mono ?_
    rintro _ H' ⟨rfl, rfl⟩
    simp only [go_sem, reduceIte, reduceCtorEq, Nat.reduceEqDiff, Nat.reduceBEq, Nat.reduceAdd, Nat.reduceMul, Nat.reduceLeDiff]
    cases hpj : p l[j]
    · simp only [go_sem, reduceIte, reduceCtorEq, Nat.reduceEqDiff, Nat.reduceBEq, Nat.reduceAdd, Nat.reduceMul, Nat.reduceLeDiff, h5, h0, h1, h7, hN, hlt', wsucc (show j < 4611686018427387904 by omega)]
      intro x hx
      rcases (mem_take_succ hlt').1 hx with h | h
      · exact hq x h
      · rw [h]; exact hpj
    · simp only [go_sem, reduceIte, reduceCtorEq, Nat.reduceEqDiff, Nat.reduceBEq, Nat.reduceAdd, Nat.reduceMul, Nat.reduceLeDiff, h5, h0, h1, h7, hN]
      refine fin_ret' 4 (by simp [upd_at, hN]) ?_
      simp only [upd_at, if_true, true_and]
      exact ⟨j, rfl, by simp; exact ⟨l[j], List.getElem_mem _, hpj⟩⟩
  · simp only [go_sem, reduceIte, reduceCtorEq, Nat.reduceEqDiff, Nat.reduceBEq, Nat.reduceAdd, Nat.reduceMul, Nat.reduceLeDiff, h5, h0, h1, h7, hlt]
    refine fin_ret' 4 (by simp [upd_at, hN]) ?_
    have : j = l.length := by omega
    subst this
    simp only [List.take_length] at hq
    simp only [upd_at, if_true, true_and]
    refine ⟨-1, rfl, by simp; exact fun x hx => hq x hx⟩
theorem conf_boiling {α : Type} (e : α → List AV) (he : ∀ x, (e x).length = 2) (l : List α) (p : α → Bool) (g : FuncId) (fs cs : List AV) (hl : Sm l.length) (H : AHeap) (hp : ∀ x ∈ l, Tests Tryz.prog g fs cs H (.agg (e x)) (p x)) :
    ACalls Tryz.prog 144 [.slice (l.map e), .func (.func g) fs cs] H fun r H' => r = .bool (l.any p) ∧ H' = H := by
  refine fn_of hmix fc144 (by simp) ?_
  rw [ienv2]
  simp only [go_sem, reduceIte, reduceCtorEq, Nat.reduceEqDiff, Nat.reduceBEq, Nat.reduceAdd, Nat.reduceMul, Nat.reduceLeDiff, ac144]
  refine (idxf_boiling e he l p g fs cs hl H hp).mono ?_
  rintro _ H' ⟨rfl, k, rfl, hk⟩
  simp only [go_sem, reduceIte, reduceCtorEq, Nat.reduceEqDiff, Nat.reduceBEq, Nat.reduceAdd, Nat.reduceMul, Nat.reduceLeDiff]
  refine fin_ret' 4 (by simp [upd_at]) ?_
  simp only [upd_at, if_true, and_true, AV.bool.injEq]
  rw [Bool.eq_iff_iff, decide_eq_true_eq, hk, List.any_eq_true]
theorem allc_boiling {α : Type} (e : α → List AV) (he : ∀ x, (e x).length = 2) (x : α) (p : α → Bool) (g : FuncId) (fs cs : List AV) (H : AHeap) (b : Nat) (hb : H b = some (.box [.func (.func g) fs cs])) (hp : Tests Tryz.prog g fs cs H (.agg (e x)) (p x)) :
    Tests Tryz.prog 145 [] [.ptr b 0] H (.agg (e x)) (!p x) := by
  intro H1 e1
  refine fn_of hmix fc145 (by simp) ?_
  simp only [List.nil_append, List.cons_append]
  rw [ienv2]
  simp only [go_sem, reduceIte, reduceCtorEq, Nat.reduceEqDiff, Nat.reduceBEq, Nat.reduceAdd, Nat.reduceMul, Nat.reduceLeDiff, ac145]
  refine v_box _ rfl fun b2 hb2 => ?_
  have hne : b ≠ b2 := fun h => by subst h; rw [e1 _ _ hb] at hb2; cases hb2
  simp only [go_sem, reduceIte, reduceCtorEq, Nat.reduceEqDiff, Nat.reduceBEq, Nat.reduceAdd, Nat.reduceMul, Nat.reduceLeDiff, updH_ne _ _ hne, e1 _ _ hb, he, take_len (he _)]
  refine (hp _ (e1.trans ((Ext.refl _).new hb2 _))).mono ?_
  rintro _ H' ⟨rfl, rfl⟩
  simp only [go_sem, reduceIte, reduceCtorEq, Nat.reduceEqDiff, Nat.reduceBEq, Nat.reduceAdd, Nat.reduceMul, Nat.reduceLeDiff]
  refine fin_ret 3 (by simp [upd_at]) ⟨_, H1, Settle.refl ((Ext.refl H1).new hb2 _), ?_⟩
  simp [upd_at]
theorem all_boiling {α : Type} (e : α → List AV) (he : ∀ x, (e x).length = 2) (l : List α) (p : α → Bool) (g : FuncId) (fs cs : List AV) (hl : Sm l.length) (H : AHeap) (hp : ∀ x ∈ l, Tests Tryz.prog g fs cs H (.agg (e x)) (p x)) :
    ACalls Tryz.prog 119 [.slice (l.map e), .func (.func g) fs cs] H fun r H' => r = .bool (l.all p) ∧ H' = H := by
  refine fn_of hmix fc119 (by simp) ?_
  rw [ienv2]
  simp only [go_sem, reduceIte, reduceCtorEq, Nat.reduceEqDiff, Nat.reduceBEq, Nat.reduceAdd, Nat.reduceMul, Nat.reduceLeDiff, ac119]
  refine v_box _ rfl fun b hb => ?_
  simp only [go_sem, reduceIte, reduceCtorEq, Nat.reduceEqDiff, Nat.reduceBEq, Nat.reduceAdd, Nat.reduceMul, Nat.reduceLeDiff, AV.cells]
  refine (conf_boiling e he l (fun x => !p x) 145 [] [.ptr b 0] hl _ (fun x hx => allc_boiling e he x p g fs cs _ b (updH_same _ _ _) ((hp x hx).ext ((Ext.refl _).new hb _)))).mono ?_
  rintro _ H' ⟨rfl, rfl⟩
  simp only [go_sem, reduceIte, reduceCtorEq, Nat.reduceEqDiff, Nat.reduceBEq, Nat.reduceAdd, Nat.reduceMul, Nat.reduceLeDiff]
  refine fin_ret 4 (by simp [upd_at]) ⟨_, H, Settle.refl ((Ext.refl H).new hb _), ?_⟩
  simp only [upd_at, if_true, and_true, AV.bool.injEq]
  rw [List.all_eq_not_any_not]

theorem idxf_sign {α : Type} (e : α → List AV) (he : ∀ x, (e x).length = 2) (l : List α) (p : α → Bool) (g : FuncId) (fs cs : List AV) (hl : Sm l.length) (H : AHeap) (hp : ∀ x ∈ l, Tests Tryz.prog g fs cs H (.agg (e x)) (p x)) :
    ACalls Tryz.prog 174 [.slice (l.map e), .func (.func g) fs cs] H fun r H' => H' = H ∧ ∃ k : Int, r = i6 k ∧ (0 ≤ k ↔ ∃ x ∈ l, p x = true) := by
  unfold Sm at hl
  refine fn_of hmix fc174 (by simp) ?_
  rw [ienv2]
  simp only [go_sem, reduceIte, reduceCtorEq, Nat.reduceEqDiff, Nat.reduceBEq, Nat.reduceAdd, Nat.reduceMul, Nat.reduceLeDiff, ac174]
  refine x_for l.length (fun j env H' => H' = H ∧ env 8 = i6 j ∧ env 7 = i6 l.length ∧ env 0 = .slice (l.map e) ∧ env 1 = .func (.func g) fs cs ∧ env 19 = .any ∧ ∀ x ∈ l.take j, p x = false) (by simp [upd_at]) ?_
  rintro j env H' hj ⟨rfl, h5, h7, h0, h1, hN, hq⟩
  by_cases hlt : (j : Int) < (l.length : Int)
  · have hlt' : j < l.length := by omega
    simp only [go_sem, reduceIte, reduceCtorEq, Nat.reduceEqDiff, Nat.reduceBEq, Nat.reduceAdd, Nat.reduceMul, Nat.reduceLeDiff, h5, h0, h1, h7, hlt, map_get (f := e) hlt', he, take_len (he _)]
    refine (hp l[j] (List.getElem_mem _) _ (Ext.refl _)).mono ?_
    rintro _ H' ⟨rfl, rfl⟩
    simp only [go_sem, reduceIte, reduceCtorEq, Nat.reduceEqDiff, Nat.reduceBEq, Nat.reduceAdd, Nat.reduceMul, Nat.reduceLeDiff]
    cases hpj : p l[j]
    · simp only [go_sem, reduceIte, reduceCtorEq, Nat.reduceEqDiff, Nat.reduceBEq, Nat.reduceAdd, Nat.reduceMul, Nat.reduceLeDiff, h5, h0, h1, h7, hN, hlt', wsucc (show j < 4611686018427387904 by omega)]
      intro x hx
      rcases (mem_take_succ hlt').1 hx with h | h
      · exact hq x h
      · rw [h]; exact hpj
    · simp only [go_sem, reduceIte, reduceCtorEq, Nat.reduceEqDiff, Nat.reduceBEq, Nat.reduceAdd, Nat.reduceMul, Nat.reduceLeDiff, h5, h0, h1, h7, hN]
      refine fin_ret' 4 (by simp [upd_at, hN]) ?_
      simp only [upd_at, if_true, true_and]
      exact ⟨j, rfl, by simp; exact ⟨l[j], List.getElem_mem _, hpj⟩⟩
  · simp only [go_sem, reduceIte, reduceCtorEq, Nat.reduceEqDiff, Nat.reduceBEq, Nat.reduceAdd, Nat.reduceMul, Nat.reduceLeDiff, h5, h0, h1, h7, hlt]
    refine fin_ret' 4 (by simp [upd_at, hN]) ?_
    have : j = l.length := by omega
    subst this
    simp only [List.take_length] at hq
    simp only [upd_at, if_true, true_and]
    refine ⟨-1, rfl, by simp; exact fun x hx => hq x hx⟩
theorem conf_sign {α : Type} (e : α → List AV) (he : ∀ x, (e x).length = 2) (l : List α) (p : α → Bool) (g : FuncId) (fs cs : List AV) (hl : Sm l.length) (H : AHeap) (hp : ∀ x ∈ l, Tests Tryz.prog g fs cs H (.agg (e x)) (p x)) :
    ACalls Tryz.prog 146 [.slice (l.map e), .func (.func g) fs cs] H fun r H' => r = .bool (l.any p) ∧ H' = H := by
  refine fn_of hmix fc146 (by simp) ?_
  rw [ienv2]
  simp only [go_sem, reduceIte, reduceCtorEq, Nat.reduceEqDiff, Nat.reduceBEq, Nat.reduceAdd, Nat.reduceMul, Nat.reduceLeDiff, ac146]
  refine (idxf_sign e he l p g fs cs hl H hp).mono ?_
  rintro _ H' ⟨rfl, k, rfl, hk⟩
  simp only [go_sem, reduceIte, reduceCtorEq, Nat.reduceEqDiff, Nat.reduceBEq, Nat.reduceAdd, Nat.reduceMul, Nat.reduceLeDiff]
  refine fin_ret' 4 (by simp [upd_at]) ?_
  simp only [upd_at, if_true, and_true, AV.bool.injEq]
  rw [Bool.eq_iff_iff, decide_eq_true_eq, hk, List.any_eq_true]
theorem allc_sign {α : Type} (e : α → List AV) (he : ∀ x, (e x).length = 2) (x : α) (p : α → Bool) (g : FuncId) (fs cs : List AV) (H : AHeap) (b : Nat) (hb : H b = some (.box [.func (.func g) fs cs])) (hp : Tests Tryz.prog g fs cs H (.agg (e x)) (p x)) :
    Tests Tryz.prog 147 [] [.ptr b 0] H (.agg (e x)) (!p x) := by
  intro H1 e1
  refine fn_of hmix fc147 (by simp) ?_
  simp only [List.nil_append, List.cons_append]
  rw [ienv2]
  simp only [go_sem, reduceIte, reduceCtorEq, Nat.reduceEqDiff, Nat.reduceBEq, Nat.reduceAdd, Nat.reduceMul, Nat.reduceLeDiff, ac147]
  refine v_box _ rfl fun b2 hb2 => ?_
  have hne : b ≠ b2 := fun h => by subst h; rw [e1 _ _ hb] at hb2; cases hb2
  simp only [go_sem, reduceIte, reduceCtorEq, Nat.reduceEqDiff, Nat.reduceBEq, Nat.reduceAdd, Nat.reduceMul, Nat.reduceLeDiff, updH_ne _ _ hne, e1 _ _ hb, he, take_len (he _)]
  refine (hp _ (e1.trans ((Ext.refl _).new hb2 _))).mono ?_
  rintro _ H' ⟨rfl, rfl⟩
  simp only [go_sem, reduceIte, reduceCtorEq, Nat.reduceEqDiff, Nat.reduceBEq, Nat.reduceAdd, Nat.reduceMul, Nat.reduceLeDiff]
  refine fin_ret 3 (by simp [upd_at]) ⟨_, H1, Settle.refl ((Ext.refl H1).new hb2 _), ?_⟩
  simp [upd_at]
theorem all_sign {α : Type} (e : α → List AV) (he : ∀ x, (e x).length = 2) (l : List α) (p : α → Bool) (g : FuncId) (fs cs : List AV) (hl : Sm l.length) (H : AHeap) (hp : ∀ x ∈ l, Tests Tryz.prog g fs cs H (.agg (e x)) (p x)) :
    ACalls Tryz.prog 120 [.slice (l.map e), .func (.func g) fs cs] H fun r H' => r = .bool (l.all p) ∧ H' = H := by
  refine fn_of hmix fc120 (by simp) ?_
  rw [ienv2]
  simp only [go_sem, reduceIte, reduceCtorEq, Nat.reduceEqDiff, Nat.reduceBEq, Nat.reduceAdd, Nat.reduceMul, Nat.reduceLeDiff, ac120]
  refine v_box _ rfl fun b hb => ?_
  simp only [go_sem, reduceIte, reduceCtorEq, Nat.reduceEqDiff, Nat.reduceBEq, Nat.reduceAdd, Nat.reduceMul, Nat.reduceLeDiff, AV.cells]
  refine (conf_sign e he l (fun x => !p x) 147 [] [.ptr b 0] hl _ (fun x hx => allc_sign e he x p g fs cs _ b (updH_same _ _ _) ((hp x hx).ext ((Ext.refl _).new hb _)))).mono ?_
  rintro _ H' ⟨rfl, rfl⟩
  simp only [go_sem, reduceIte, reduceCtorEq, Nat.reduceEqDiff, Nat.reduceBEq, Nat.reduceAdd, Nat.reduceMul, Nat.reduceLeDiff]
  refine fin_ret 4 (by simp [upd_at]) ⟨_, H, Settle.refl ((Ext.refl H).new hb _), ?_⟩
  simp only [upd_at, if_true, and_true, AV.bool.injEq]
  rw [List.all_eq_not_any_not]

theorem idxf_known {α : Type} (e : α → List AV) (he : ∀ x, (e x).length = 23) (l : List α) (p : α → Bool) (g : FuncId) (fs cs : List AV) (hl : Sm l.length) (H : AHeap) (hp : ∀ x ∈ l, Tests Tryz.prog g fs cs H (.agg (e x)) (p x)) :
    ACalls Tryz.prog 176 [.slice (l.map e), .func (.func g) fs cs] H fun r H' => H' = H ∧ ∃ k : Int, r = i6 k ∧ (0 ≤ k ↔ ∃ x ∈ l, p x = true) := by
  unfold Sm at hl
  refine fn_of hmix fc176 (by simp) ?_
  rw [ienv2]
  simp only [go_sem, reduceIte, reduceCtorEq, Nat.reduceEqDiff, Nat.reduceBEq, Nat.reduceAdd, Nat.reduceMul, Nat.reduceLeDiff, ac176]
  refine x_for l.length (fun j env H' => H' = H ∧ env 8 = i6 j ∧ env 7 = i6 l.length ∧ env 0 = .slice (l.map e) ∧ env 1 = .func (.func g) fs cs ∧ env 19 = .any ∧ ∀ x ∈ l.take j, p x = false) (by simp [upd_at]) ?_
  rintro j env H' hj ⟨rfl, h5, h7, h0, h1, hN, hq⟩
  by_cases hlt : (j : Int) < (l.length : Int)
  · have hlt' : j < l.length := by omega
    simp only [go_sem, reduceIte, reduceCtorEq, Nat.reduceEqDiff, Nat.reduceBEq, Nat.reduceAdd, Nat.reduceMul, Nat.reduceLeDiff, h5, h0, h1, h7, hlt, map_get (f := e) hlt', he, take_len (he _)]
    refine (hp l[j] (List.getElem_mem _) _ (Ext.refl _)).mono ?_
    rintro _ H' ⟨rfl, rfl⟩
    simp only [go_sem, reduceIte, reduceCtorEq, Nat.reduceEqDiff, Nat.reduceBEq, Nat.reduceAdd, Nat.reduceMul, Nat.reduceLeDiff]
    cases hpj : p l[j]
    · simp only [go_sem, reduceIte, reduceCtorEq, Nat.reduceEqDiff, Nat.reduceBEq, Nat.reduceAdd, Nat.reduceMul, Nat.reduceLeDiff, h5, h0, h1, h7, hN, hlt', wsucc (show j < 4611686018427387904 by omega)]
      intro x hx
      rcases (mem_take_succ hlt').1 hx with h | h
      · exact hq x h
      · rw [h]; exact hpj
    · simp only [go_sem, reduceIte, reduceCtorEq, Nat.reduceEqDiff, Nat.reduceBEq, Nat.reduceAdd, Nat.reduceMul, Nat.reduceLeDiff, h5, h0, h1, h7, hN]
      refine fin_ret' 4 (by simp [upd_at, hN]) ?_
      simp only [upd_at, if_true, true_and]
      exact ⟨j, rfl, by simp; exact ⟨l[j], List.getElem_mem _, hpj⟩⟩
  · simp only [go_sem, reduceIte, reduceCtorEq, Nat.reduceEqDiff, Nat.reduceBEq, Nat.reduceAdd, Nat.reduceMul, Nat.reduceLeDiff, h5, h0, h1, h7, hlt]
    refine fin_ret' 4 (by simp [upd_at, hN]) ?_
    have : j = l.length := by omega
    subst this
    simp only [List.take_length] at hq
    simp only [upd_at, if_true, true_and]
    refine ⟨-1, rfl, by simp; exact fun x hx => hq x hx⟩
theorem conf_known {α : Type} (e : α → List AV) (he : ∀ x, (e x).length = 23) (l : List α) (p : α → Bool) (g : FuncId) (fs cs : List AV) (hl : Sm l.length) (H : AHeap) (hp : ∀ x ∈ l, Tests Tryz.prog g fs cs H (.agg (e x)) (p x)) :
    ACalls Tryz.prog 156 [.slice (l.map e), .func (.func g) fs cs] H fun r H' => r = .bool (l.any p) ∧ H' = H := by
  refine fn_of hmix fc156 (by simp) ?_
  rw [ienv2]
  simp only [go_sem, reduceIte, reduceCtorEq, Nat.reduceEqDiff, Nat.reduceBEq, Nat.reduceAdd, Nat.reduceMul, Nat.reduceLeDiff, ac156]
  refine (idxf_known e he l p g fs cs hl H hp).mono ?_
  rintro _ H' ⟨rfl, k, rfl, hk⟩
  simp only [go_sem, reduceIte, reduceCtorEq, Nat.reduceEqDiff, Nat.reduceBEq, Nat.reduceAdd, Nat.reduceMul, Nat.reduceLeDiff]
  refine fin_ret' 4 (by simp [upd_at]) ?_
  simp only [upd_at, if_true, and_true, AV.bool.injEq]
  rw [Bool.eq_iff_iff, decide_eq_true_eq, hk, List.any_eq_true]
theorem allc_known {α : Type} (e : α → List AV) (he : ∀ x, (e x).length = 23) (x : α) (p : α → Bool) (g : FuncId) (fs cs : List AV) (H : AHeap) (b : Nat) (hb : H b = some (.box [.func (.func g) fs cs])) (hp : Tests Tryz.prog g fs cs H (.agg (e x)) (p x)) :
    Tests Tryz.prog 157 [] [.ptr b 0] H (.agg (e x)) (!p x) := by
  intro H1 e1
  refine fn_of hmix fc157 (by simp) ?_
  simp only [List.nil_append, List.cons_append]
  rw [ienv2]
  simp only [go_sem, reduceIte, reduceCtorEq, Nat.reduceEqDiff, Nat.reduceBEq, Nat.reduceAdd, Nat.reduceMul, Nat.reduceLeDiff, ac157]
  refine v_box _ rfl fun b2 hb2 => ?_
  have hne : b ≠ b2 := fun h => by subst h; rw [e1 _ _ hb] at hb2; cases hb2
  simp only [go_sem, reduceIte, reduceCtorEq, Nat.reduceEqDiff, Nat.reduceBEq, Nat.reduceAdd, Nat.reduceMul, Nat.reduceLeDiff, updH_ne _ _ hne, e1 _ _ hb, he, take_len (he _)]
  refine (hp _ (e1.trans ((Ext.refl _).new hb2 _))).mono ?_
  rintro _ H' ⟨rfl, rfl⟩
  simp only [go_sem, reduceIte, reduceCtorEq, Nat.reduceEqDiff, Nat.reduceBEq, Nat.reduceAdd, Nat.reduceMul, Nat.reduceLeDiff]
  refine fin_ret 3 (by simp [upd_at]) ⟨_, H1, Settle.refl ((Ext.refl H1).new hb2 _), ?_⟩
  simp [upd_at]
theorem all_known {α : Type} (e : α → List AV) (he : ∀ x, (e x).length = 23) (l : List α) (p : α → Bool) (g : FuncId) (fs cs : List AV) (hl : Sm l.length) (H : AHeap) (hp : ∀ x ∈ l, Tests Tryz.prog g fs cs H (.agg (e x)) (p x)) :
    ACalls Tryz.prog 133 [.slice (l.map e), .func (.func g) fs cs] H fun r H' => r = .bool (l.all p) ∧ H' = H := by
  refine fn_of hmix fc133 (by simp) ?_
  rw [ienv2]
  simp only [go_sem, reduceIte, reduceCtorEq, Nat.reduceEqDiff, Nat.reduceBEq, Nat.reduceAdd, Nat.reduceMul, Nat.reduceLeDiff, ac133]
  refine v_box _ rfl fun b hb => ?_
  simp only [go_sem, reduceIte, reduceCtorEq, Nat.reduceEqDiff, Nat.reduceBEq, Nat.reduceAdd, Nat.reduceMul, Nat.reduceLeDiff, AV.cells]
  refine (conf_known e he l (fun x => !p x) 157 [] [.ptr b 0] hl _ (fun x hx => allc_known e he x p g fs cs _ b (updH_same _ _ _) ((hp x hx).ext ((Ext.refl _).new hb _)))).mono ?_
  rintro _ H' ⟨rfl, rfl⟩
  simp only [go_sem, reduceIte, reduceCtorEq, Nat.reduceEqDiff, Nat.reduceBEq, Nat.reduceAdd, Nat.reduceMul, Nat.reduceLeDiff]
  refine fin_ret 4 (by simp [upd_at]) ⟨_, H, Settle.refl ((Ext.refl H).new hb _), ?_⟩
  simp only [upd_at, if_true, and_true, AV.bool.injEq]
  rw [List.all_eq_not_any_not]
end Go.Lift

set_option linter.unusedSimpArgs false
set_option linter.unusedVariables false
namespace Go.Lift
open Go Go.Proofs

/-- The women, of the first so many, whose mark is one of some. -/
def womenUpto (ws : List Woman) (marks : List Int) (j : Nat) : List Int := ((List.range j).filter fun w => decide ((ws.getD w default).mark ∈ marks)).map Int.ofNat
def womenOf (ws : List Woman) (marks : List Int) : List Int := womenUpto ws marks ws.length
theorem womenUpto_succ (ws : List Woman) (marks : List Int) (j : Nat) : womenUpto ws marks (j + 1) = womenUpto ws marks j ++ (if (ws.getD j default).mark ∈ marks then [(j : Int)] else []) := by
  simp only [womenUpto, List.range_succ, List.filter_append, List.map_append]
  congr 1
  by_cases h : (ws.getD j default).mark ∈ marks
  · rw [if_pos h]; simp only [List.filter_cons, h, decide_true, if_true, List.filter_nil, List.map_cons, List.map_nil]; rfl
  · rw [if_neg h]; simp only [List.filter_cons, h, decide_false, if_false, Bool.false_eq_true, List.filter_nil, List.map_nil]
theorem womenUpto_len (ws : List Woman) (marks : List Int) (j : Nat) : (womenUpto ws marks j).length ≤ j := by
  simp only [womenUpto, List.length_map]
  exact Nat.le_trans (List.length_filter_le _ _) (by simp)
theorem one_good (n : Int) : goodEls 1 [[i6 n]] := by intro e he; simp at he; subst he; rfl
theorem one_cell (n : Int) : cellEls [[i6 n]] := by intro e he x hx; simp at he; subst he; simp at hx; subst hx; rfl

theorem of_c (t : Table) (p : Piece) (h1 : Sm t.women.length) (h2 : Sm p.marks.length) : Pure Tryz.prog 164 [eT t, .agg (eP p)] (.slice (eI (womenOf t.women p.marks))) := by
  intro H
  unfold Sm at h1
  refine fn_of hmix fc164 (by simp) ?_
  rw [ienv2]
  simp only [go_sem, reduceIte, reduceCtorEq, Nat.reduceEqDiff, Nat.reduceBEq, Nat.reduceAdd, Nat.reduceMul, Nat.reduceLeDiff, ac164, eT]
  refine v_box _ rfl fun b1 hb1 => ?_
  simp only [go_sem, reduceIte, reduceCtorEq, Nat.reduceEqDiff, Nat.reduceBEq, Nat.reduceAdd, Nat.reduceMul, Nat.reduceLeDiff, eP]
  refine v_box _ rfl fun b2 hb2 => ?_
  have hne : b1 ≠ b2 := fun h => by subst h; simp at hb2
  simp only [go_sem, reduceIte, reduceCtorEq, Nat.reduceEqDiff, Nat.reduceBEq, Nat.reduceAdd, Nat.reduceMul, Nat.reduceLeDiff, updH_ne _ _ hne]
  have e0 : Ext H (updH (updH H b1 (.box [.slice (t.women.map eW), .slice (t.pieces.map eP), i6 t.wrong])) b2 (.box [.slice (eI p.marks), i6 p.bundle])) := ((Ext.refl H).new hb1 _).new hb2 _
  refine x_for t.women.length (fun j env H' => Ext H H' ∧ Grown 1 H H' (env 4) (eI (womenUpto t.women p.marks j)) ∧ H' b2 = some (.box [.slice (eI p.marks), i6 p.bundle]) ∧ env 3 = .ptr b2 0 ∧ env 8 = .slice (t.women.map eW) ∧ env 9 = i6 t.women.length ∧ env 10 = i6 j ∧ env 26 = .any)
    ⟨e0, .inl ⟨by simp [upd_at], rfl⟩, updH_same _ _ _, by simp [upd_at], by simp [upd_at], by simp [upd_at], by simp [upd_at], by simp [upd_at]⟩ ?_
  rintro j env H' hj ⟨hE, hG, hB, h3, h8, h9, h10, hN⟩
  by_cases hlt : (j : Int) < (t.women.length : Int)
  · have hlt' : j < t.women.length := by omega
    have hlen := womenUpto_len t.women p.marks j
    have hget : t.women.getD j default = t.women[j] := by simp [hlt']
    simp only [go_sem, reduceIte, reduceCtorEq, Nat.reduceEqDiff, Nat.reduceBEq, Nat.reduceAdd, Nat.reduceMul, Nat.reduceLeDiff, h3, h8, h9, h10, hN, hlt, map_get (f := eW) hlt', eW]
    refine v_alloc fun b3 hb3 => ?_
    have hne3 : b2 ≠ b3 := fun h => by subst h; rw [hB] at hb3; cases hb3
    simp only [go_sem, reduceIte, reduceCtorEq, Nat.reduceEqDiff, Nat.reduceBEq, Nat.reduceAdd, Nat.reduceMul, Nat.reduceLeDiff, h3, h8, h9, h10, hN]
    rw [v_store]
    refine ⟨rfl, rfl, by simp [AV.cells, AV.isCell], _, updH_same _ _ _, by simp, ?_⟩
    simp only [go_sem, reduceIte, reduceCtorEq, Nat.reduceEqDiff, Nat.reduceBEq, Nat.reduceAdd, Nat.reduceMul, Nat.reduceLeDiff, h3, h8, h9, h10, hN, updH_ne _ _ hne3, hB, placeAt, List.append_nil, List.nil_append, List.drop_nil]
    refine (contains_c p.marks t.women[j].mark h2).go ?_
    simp only [go_sem, reduceIte, reduceCtorEq, Nat.reduceEqDiff, Nat.reduceBEq, Nat.reduceAdd, Nat.reduceMul, Nat.reduceLeDiff]
    have hE2 : Ext H (updH (updH H' b3 (.box [i6 0, i6 0, i6 0])) b3 (.box [i6 t.women[j].mark, i6 t.women[j].lo, i6 t.women[j].hi])) := (hE.new hb3 _).upd (hE.isNone hb3) _
    have hG2 := (hG.new hb3 (.box [i6 0, i6 0, i6 0])).store (updH_same _ _ _) (.box [i6 t.women[j].mark, i6 t.women[j].lo, i6 t.women[j].hi])
    by_cases hm : t.women[j].mark ∈ p.marks
    · simp only [go_sem, reduceIte, reduceCtorEq, Nat.reduceEqDiff, Nat.reduceBEq, Nat.reduceAdd, Nat.reduceMul, Nat.reduceLeDiff, hm, h10, h3, h8, h9, hN]
      refine v_append hG2 hE2 rfl (eI_good _) (one_good _) (one_cell _) (by simp; omega) (by simp; omega) ?_
      intro v' H2 hg' he' hk'
      simp only [go_sem, reduceIte, reduceCtorEq, Nat.reduceEqDiff, Nat.reduceBEq, Nat.reduceAdd, Nat.reduceMul, Nat.reduceLeDiff, h10, h3, h8, h9, hN, wsucc (show j < 4611686018427387904 by omega), hlt']
      refine ⟨he', ?_, hk'.box hG2 (by rw [updH_ne _ _ hne3, updH_ne _ _ hne3]; exact hB)⟩
      rw [womenUpto_succ, hget, if_pos hm, eI_app]; exact hg'
    · simp only [go_sem, reduceIte, reduceCtorEq, Nat.reduceEqDiff, Nat.reduceBEq, Nat.reduceAdd, Nat.reduceMul, Nat.reduceLeDiff, hm, h10, h3, h8, h9, hN, wsucc (show j < 4611686018427387904 by omega), hlt']
      refine ⟨hE2, ?_, by rw [updH_ne _ _ hne3, updH_ne _ _ hne3]; exact hB⟩
      rw [womenUpto_succ, hget, if_neg hm, List.append_nil]; exact hG2
  · simp only [go_sem, reduceIte, reduceCtorEq, Nat.reduceEqDiff, Nat.reduceBEq, Nat.reduceAdd, Nat.reduceMul, Nat.reduceLeDiff, h3, h8, h9, h10, hN, hlt]
    have : j = t.women.length := by omega
    subst this
    refine fin_ret 4 (by simp [upd_at, hN]) ⟨_, H, ?_, rfl, rfl⟩
    simp only [upd_at, if_true]
    exact hG.weaken hE
theorem wpred {j : Nat} (h : j < 4611686018427387904) (h0 : 0 < j) : IntKind.i64.wrap ((j : Int) - 1) = ((j - 1 : Nat) : Int) := by
  rw [w64 (by omega) (by omega)]; omega
theorem min2_c (a b : Int) : Pure Tryz.prog 169 [.slice [[i6 a], [i6 b]]] (i6 (if b < a then b else a)) := by
  intro H
  refine fn_of hmix fc169 (by simp) ?_
  rw [ienv1]
  simp only [go_sem, reduceIte, reduceCtorEq, Nat.reduceEqDiff, Nat.reduceBEq, Nat.reduceAdd, Nat.reduceMul, Nat.reduceLeDiff, ac169]
  have hc : decide (IntKind.i64.wrap 0 < (0 : Int)) = false := by decide
  simp only [show ¬ ((0 + 1 + 1 : Nat) : Int) < 1 by decide, go_sem, reduceIte, reduceCtorEq, Nat.reduceEqDiff, Nat.reduceBEq, Nat.reduceAdd, Nat.reduceMul, Nat.reduceLeDiff, Int.le_refl, show ((0 : Int).toNat) = 0 from rfl, List.getElem?_cons_zero]
  refine x_for 1 (fun j env H' => H' = H ∧ env 4 = i6 (j + 1) ∧ env 0 = .slice [[i6 a], [i6 b]] ∧ env 25 = .any ∧ env 3 = i6 (if j = 0 then a else if b < a then b else a)) (by simp [upd_at]) ?_
  rintro j env H' hj ⟨rfl, h4, h0, hN, h3⟩
  have hj' : j = 0 ∨ j = 1 := by omega
  rcases hj' with rfl | rfl
  · simp only [go_sem, reduceIte, reduceCtorEq, Nat.reduceEqDiff, Nat.reduceBEq, Nat.reduceAdd, Nat.reduceMul, Nat.reduceLeDiff, h4, h0, hN, h3, show (((0 : Nat) : Int) + 1 < ((0 + 1 + 1 : Nat) : Int)) by decide, show (0 : Int) ≤ ((0 : Nat) : Int) + 1 by decide, show ((((0 : Nat) : Int) + 1).toNat) = 1 from rfl, List.getElem?_cons_succ, List.getElem?_cons_zero, show (0 : Nat) < 1 by decide]
    rw [w64 (by decide) (by decide)]; rfl
  · simp only [go_sem, reduceIte, reduceCtorEq, Nat.reduceEqDiff, Nat.reduceBEq, Nat.reduceAdd, Nat.reduceMul, Nat.reduceLeDiff, h4, h0, hN, h3, show ¬ (((1 : Nat) : Int) + 1 < ((0 + 1 + 1 : Nat) : Int)) by decide]
    refine fin_ret' 2 (by simp [upd_at, hN]) ?_
    simp [upd_at]
theorem minimum_c (a b : Int) : Pure Tryz.prog 163 [.slice [[i6 a], [i6 b]]] (i6 (if b < a then b else a)) := by
  intro H
  refine fn_of hmix fc163 (by simp) ?_
  rw [ienv1]
  simp only [go_sem, reduceIte, reduceCtorEq, Nat.reduceEqDiff, Nat.reduceBEq, Nat.reduceAdd, Nat.reduceMul, Nat.reduceLeDiff, ac163]
  refine (min2_c a b).go ?_
  simp only [go_sem, reduceIte, reduceCtorEq, Nat.reduceEqDiff, Nat.reduceBEq, Nat.reduceAdd, Nat.reduceMul, Nat.reduceLeDiff]
  refine fin_ret' 2 (by simp [upd_at]) ?_
  simp [upd_at]

/-- Is a mark one, and greater than the one before? -/
def markAt (l : List Int) (i : Nat) : Bool := decide (0 ≤ l.getD i 0 ∧ l.getD i 0 ≤ 9) && (decide (i = 0) || !decide (l.getD i 0 ≤ l.getD (i - 1) 0))
def marksOK (l : List Int) : Bool := (List.range l.length).all (markAt l)
def pieceOK (t : Table) (p : Piece) : Bool := marksOK p.marks && decide (0 ≤ p.bundle ∧ p.bundle ≤ t.women.length - 1) && decide (0 < (womenOf t.women p.marks).length)
theorem piece_c (t : Table) (p : Piece) (h1 : Sm t.women.length) (h2 : Sm p.marks.length) : Pure Tryz.prog 158 [eT t, .agg (eP p)] (.bool (pieceOK t p)) := by
  intro H
  have h1' := h1
  unfold Sm at h1 h2
  refine fn_of hmix fc158 (by simp) ?_
  rw [ienv2]
  simp only [go_sem, reduceIte, reduceCtorEq, Nat.reduceEqDiff, Nat.reduceBEq, Nat.reduceAdd, Nat.reduceMul, Nat.reduceLeDiff, ac158, eT]
  refine v_box _ rfl fun b1 hb1 => ?_
  simp only [go_sem, reduceIte, reduceCtorEq, Nat.reduceEqDiff, Nat.reduceBEq, Nat.reduceAdd, Nat.reduceMul, Nat.reduceLeDiff, eP]
  refine v_box _ rfl fun b2 hb2 => ?_
  have hne : b1 ≠ b2 := fun h => by subst h; simp at hb2
  simp only [go_sem, reduceIte, reduceCtorEq, Nat.reduceEqDiff, Nat.reduceBEq, Nat.reduceAdd, Nat.reduceMul, Nat.reduceLeDiff, updH_ne _ _ hne]
  generalize hHH : updH (updH H b1 (.box [.slice (t.women.map eW), .slice (t.pieces.map eP), i6 t.wrong])) b2 (.box [.slice (eI p.marks), i6 p.bundle]) = HH
  have e0 : Ext H HH := by subst hHH; exact ((Ext.refl H).new hb1 _).new hb2 _
  have hB1 : HH b1 = some (.box [.slice (t.women.map eW), .slice (t.pieces.map eP), i6 t.wrong]) := by subst hHH; rw [updH_ne _ _ hne]; exact updH_same _ _ _
  have hB2 : HH b2 = some (.box [.slice (eI p.marks), i6 p.bundle]) := by subst hHH; exact updH_same _ _ _
  refine x_for p.marks.length (fun j env H' => H' = HH ∧ env 2 = .ptr b1 0 ∧ env 3 = .ptr b2 0 ∧ env 8 = .slice (eI p.marks) ∧ env 9 = i6 p.marks.length ∧ env 10 = i6 j ∧ env 47 = .any ∧ ∀ i, i < j → markAt p.marks i = true)
    (by simp [upd_at]) ?_
  rintro j env H' hj ⟨rfl, hv2, h3, h8, h9, h10, hN, hq⟩
  by_cases hlt : (j : Int) < (p.marks.length : Int)
  · have hlt' : j < p.marks.length := by omega
    have hget : p.marks.getD j 0 = p.marks[j] := by simp [hlt']
    simp only [go_sem, reduceIte, reduceCtorEq, Nat.reduceEqDiff, Nat.reduceBEq, Nat.reduceAdd, Nat.reduceMul, Nat.reduceLeDiff, hv2, h3, h8, h9, h10, hN, hlt, eI_get hlt']
    refine (mark_c p.marks[j]).go ?_
    have hnext : markAt p.marks j = true → ∀ i, i < j + 1 → markAt p.marks i = true := fun h i hi => by
      rcases Nat.lt_or_ge i j with h' | h'
      · exact hq i h'
      · have : i = j := by omega
        subst this; exact h
    have hbad : markAt p.marks j = false → pieceOK t p = false := fun h => by
      simp only [pieceOK, marksOK, Bool.and_eq_false_iff, List.all_eq_false]
      exact .inl (.inl ⟨j, by simp [hlt'], by simp [h]⟩)
    by_cases hm : 0 ≤ p.marks[j] ∧ p.marks[j] ≤ 9
    · by_cases hj0 : j = 0
      · subst hj0
        simp only [go_sem, reduceIte, reduceCtorEq, Nat.reduceEqDiff, Nat.reduceBEq, Nat.reduceAdd, Nat.reduceMul, Nat.reduceLeDiff, hv2, h3, h8, h9, h10, hN, hm, show ¬ ((0 : Int) < ((0 : Nat) : Int)) by decide, wsucc (show 0 < 4611686018427387904 by omega), hlt']
        exact hnext (by simp only [and_self, decide_true, decide_false, Bool.or_true, Bool.true_or, Bool.true_and, Bool.and_true, Bool.or_false, Bool.false_or, Bool.not_false, Bool.not_true, Bool.and_false, Bool.false_and, not_true_eq_false, not_false_eq_true, if_true, if_false, reduceIte, Bool.false_eq_true, eq_self, true_and, and_true, markAt, hget, hm])
      · have hjp : (0 : Int) < (j : Int) := by omega
        have hgp : (eI p.marks)[j - 1]? = some [i6 p.marks[j - 1]] := eI_get (by omega)
        have hget' : p.marks.getD (j - 1) 0 = p.marks[j - 1] := by simp [show j - 1 < p.marks.length by omega]
        by_cases hle : p.marks[j] ≤ p.marks[j - 1]
        · simp only [go_sem, reduceIte, reduceCtorEq, Nat.reduceEqDiff, Nat.reduceBEq, Nat.reduceAdd, Nat.reduceMul, Nat.reduceLeDiff, hv2, h3, h8, h9, h10, hN, hm, hjp, hB2, wpred (show j < 4611686018427387904 by omega) (show 0 < j by omega), hgp, hle]
          refine fin_ret 4 (by simp [upd_at, hN]) ⟨_, H, Settle.refl e0, ?_⟩
          simp [upd_at]; exact hbad (by simp only [and_self, decide_true, decide_false, Bool.or_true, Bool.true_or, Bool.true_and, Bool.and_true, Bool.or_false, Bool.false_or, Bool.not_false, Bool.not_true, Bool.and_false, Bool.false_and, not_true_eq_false, not_false_eq_true, if_true, if_false, reduceIte, Bool.false_eq_true, eq_self, true_and, and_true, markAt, hget, hm, hj0, hget', hle])
        · simp only [go_sem, reduceIte, reduceCtorEq, Nat.reduceEqDiff, Nat.reduceBEq, Nat.reduceAdd, Nat.reduceMul, Nat.reduceLeDiff, hv2, h3, h8, h9, h10, hN, hm, hjp, hB2, wpred (show j < 4611686018427387904 by omega) (show 0 < j by omega), hgp, hle, wsucc (show j < 4611686018427387904 by omega), hlt']
          exact hnext (by simp only [and_self, decide_true, decide_false, Bool.or_true, Bool.true_or, Bool.true_and, Bool.and_true, Bool.or_false, Bool.false_or, Bool.not_false, Bool.not_true, Bool.and_false, Bool.false_and, not_true_eq_false, not_false_eq_true, if_true, if_false, reduceIte, Bool.false_eq_true, eq_self, true_and, and_true, markAt, hget, hm, hj0, hget', hle])
    · simp only [go_sem, reduceIte, reduceCtorEq, Nat.reduceEqDiff, Nat.reduceBEq, Nat.reduceAdd, Nat.reduceMul, Nat.reduceLeDiff, hv2, h3, h8, h9, h10, hN, hm]
      refine fin_ret 4 (by simp [upd_at, hN]) ⟨_, H, Settle.refl e0, ?_⟩
      simp [upd_at]; exact hbad (by simp only [and_self, decide_true, decide_false, Bool.or_true, Bool.true_or, Bool.true_and, Bool.and_true, Bool.or_false, Bool.false_or, Bool.not_false, Bool.not_true, Bool.and_false, Bool.false_and, not_true_eq_false, not_false_eq_true, if_true, if_false, reduceIte, Bool.false_eq_true, eq_self, true_and, and_true, markAt, hget, hm])
  · have : j = p.marks.length := by omega
    subst this
    have hmk : marksOK p.marks = true := by simp only [marksOK, List.all_eq_true, List.mem_range]; exact hq
    simp only [go_sem, reduceIte, reduceCtorEq, Nat.reduceEqDiff, Nat.reduceBEq, Nat.reduceAdd, Nat.reduceMul, Nat.reduceLeDiff, hv2, h3, h8, h9, h10, hN, hlt, hB1, hB2]
    refine (within3_c p.bundle 0 _).go ?_
    rw [w64 (by omega) (by omega)]
    by_cases hbd : 0 ≤ p.bundle ∧ p.bundle ≤ (t.women.length : Int) - 1
    · simp only [go_sem, reduceIte, reduceCtorEq, Nat.reduceEqDiff, Nat.reduceBEq, Nat.reduceAdd, Nat.reduceMul, Nat.reduceLeDiff, hv2, h3, h8, h9, h10, hN, hlt, hB1, hB2, hbd]
      refine (of_c t p h1' (by unfold Sm; omega)).go ?_
      simp only [go_sem, reduceIte, reduceCtorEq, Nat.reduceEqDiff, Nat.reduceBEq, Nat.reduceAdd, Nat.reduceMul, Nat.reduceLeDiff]
      refine fin_ret 4 (by simp [upd_at, hN]) ⟨_, H, Settle.refl e0, ?_⟩
      simp [upd_at, pieceOK, hmk, hbd]
    · simp only [go_sem, reduceIte, reduceCtorEq, Nat.reduceEqDiff, Nat.reduceBEq, Nat.reduceAdd, Nat.reduceMul, Nat.reduceLeDiff, hv2, h3, h8, h9, h10, hN, hlt, hB1, hB2, hbd]
      refine fin_ret 4 (by simp [upd_at, hN]) ⟨_, H, Settle.refl e0, ?_⟩
      simp only [upd_at, if_true, and_true, AV.bool.injEq, pieceOK, hmk, hbd, decide_false, Bool.and_false, Bool.false_and, eq_self]
end Go.Lift

set_option linter.unusedSimpArgs false
set_option linter.unusedVariables false
namespace Go.Lift
open Go Go.Proofs

structure TSm (t : Table) : Prop where
  women : Sm t.women.length
  pieces : Sm t.pieces.length
  marks : ∀ p ∈ t.pieces, Sm p.marks.length

/-- The numbers of women of the first so many pieces, multiplied; more than 2000 are 2001. -/
def manyUpto (t : Table) : Nat → Int
  | 0 => 1
  | j + 1 => if 2001 < manyUpto t j * ((womenOf t.women (t.pieces.getD j default).marks).length : Int) then 2001 else manyUpto t j * ((womenOf t.women (t.pieces.getD j default).marks).length : Int)
def checkTable (t : Table) : Int :=
  if 5 < (t.women.length : Int) ∨ 7 < (t.pieces.length : Int) then 3
  else if ¬ (0 ≤ t.wrong ∧ t.wrong ≤ 5) ∨ t.women.all womanOK = false ∨ t.pieces.all (pieceOK t) = false then 1
  else if 2000 < manyUpto t t.pieces.length then 3 else 0
theorem many_bound (t : Table) : ∀ j, 0 ≤ manyUpto t j ∧ manyUpto t j ≤ 2001
  | 0 => by simp [manyUpto]
  | j + 1 => by
    have h1 : 0 ≤ manyUpto t j * ((womenOf t.women (t.pieces.getD j default).marks).length : Int) := Int.mul_nonneg (many_bound t j).1 (by omega)
    simp only [manyUpto]
    split <;> omega

theorem checkTable_c (t : Table) (hs : TSm t) : Pure Tryz.prog 135 [eT t] (i6 (checkTable t)) := by
  intro H
  have h1 := hs.women
  have h2 := hs.pieces
  unfold Sm at h1 h2
  refine fn_of hmix fc135 (by simp) ?_
  rw [ienv1]
  simp only [go_sem, reduceIte, reduceCtorEq, Nat.reduceEqDiff, Nat.reduceBEq, Nat.reduceAdd, Nat.reduceMul, Nat.reduceLeDiff, ac135, eT]
  refine v_box _ rfl fun b1 hb1 => ?_
  simp only [go_sem, reduceIte, reduceCtorEq, Nat.reduceEqDiff, Nat.reduceBEq, Nat.reduceAdd, Nat.reduceMul, Nat.reduceLeDiff]
  generalize hHH : updH H b1 (.box [.slice (t.women.map eW), .slice (t.pieces.map eP), i6 t.wrong]) = HH
  have e0 : Ext H HH := by subst hHH; exact (Ext.refl H).new hb1 _
  have hB1 : HH b1 = some (.box [.slice (t.women.map eW), .slice (t.pieces.map eP), i6 t.wrong]) := by subst hHH; exact updH_same _ _ _
  by_cases c1 : 5 < (t.women.length : Int)
  · simp only [go_sem, reduceIte, reduceCtorEq, Nat.reduceEqDiff, Nat.reduceBEq, Nat.reduceAdd, Nat.reduceMul, Nat.reduceLeDiff, hB1, c1]
    refine fin_ret 2 (by simp [upd_at]) ⟨_, H, Settle.refl e0, ?_⟩
    simp [upd_at, checkTable, c1]
  by_cases c2 : 7 < (t.pieces.length : Int)
  · simp only [go_sem, reduceIte, reduceCtorEq, Nat.reduceEqDiff, Nat.reduceBEq, Nat.reduceAdd, Nat.reduceMul, Nat.reduceLeDiff, hB1, c1, c2]
    refine fin_ret 2 (by simp [upd_at]) ⟨_, H, Settle.refl e0, ?_⟩
    simp [upd_at, checkTable, c2]
  simp only [go_sem, reduceIte, reduceCtorEq, Nat.reduceEqDiff, Nat.reduceBEq, Nat.reduceAdd, Nat.reduceMul, Nat.reduceLeDiff, hB1, c1, c2]
  refine (within3_c t.wrong 0 5).go ?_
  by_cases c3 : 0 ≤ t.wrong ∧ t.wrong ≤ 5
  rotate_left
  · simp only [go_sem, reduceIte, reduceCtorEq, Nat.reduceEqDiff, Nat.reduceBEq, Nat.reduceAdd, Nat.reduceMul, Nat.reduceLeDiff, hB1, c3]
    refine fin_ret 2 (by simp [upd_at]) ⟨_, H, Settle.refl e0, ?_⟩
    simp [upd_at, checkTable, c1, c2, c3]
  simp only [go_sem, reduceIte, reduceCtorEq, Nat.reduceEqDiff, Nat.reduceBEq, Nat.reduceAdd, Nat.reduceMul, Nat.reduceLeDiff, hB1, c3]
  refine (all_woman eW (fun _ => rfl) t.women womanOK 161 [] [] hs.women HH (fun x _ H1 _ => woman_c x H1)).mono ?_
  rintro _ H' ⟨rfl, rfl⟩
  cases c4 : t.women.all womanOK
  · simp only [go_sem, reduceIte, reduceCtorEq, Nat.reduceEqDiff, Nat.reduceBEq, Nat.reduceAdd, Nat.reduceMul, Nat.reduceLeDiff, hB1, c3]
    refine fin_ret 2 (by simp [upd_at]) ⟨_, H, Settle.refl e0, ?_⟩
    simp [upd_at, checkTable, c1, c2, c4]
  simp only [go_sem, reduceIte, reduceCtorEq, Nat.reduceEqDiff, Nat.reduceBEq, Nat.reduceAdd, Nat.reduceMul, Nat.reduceLeDiff, hB1, c3]
  refine (all_piece eP (fun _ => rfl) t.pieces (pieceOK t) 158 [eT t] [] hs.pieces H' (fun x hx H1 _ => piece_c t x hs.women (hs.marks x hx) H1)).mono ?_
  rintro _ H'' ⟨rfl, rfl⟩
  cases c5 : t.pieces.all (pieceOK t)
  · simp only [go_sem, reduceIte, reduceCtorEq, Nat.reduceEqDiff, Nat.reduceBEq, Nat.reduceAdd, Nat.reduceMul, Nat.reduceLeDiff, hB1, c3]
    refine fin_ret 2 (by simp [upd_at]) ⟨_, H, Settle.refl e0, ?_⟩
    simp [upd_at, checkTable, c1, c2, c5]
  simp only [go_sem, reduceIte, reduceCtorEq, Nat.reduceEqDiff, Nat.reduceBEq, Nat.reduceAdd, Nat.reduceMul, Nat.reduceLeDiff, hB1, c3]
  refine x_for t.pieces.length (fun j env H1 => Ext H H1 ∧ H1 b1 = some (.box [.slice (t.women.map eW), .slice (t.pieces.map eP), i6 t.wrong]) ∧ env 1 = .ptr b1 0 ∧ env 4 = i6 (manyUpto t j) ∧ env 39 = .slice (t.pieces.map eP) ∧ env 40 = i6 t.pieces.length ∧ env 41 = i6 j ∧ env 56 = .any)
    ⟨e0, hB1, by simp [upd_at], by simp [upd_at, manyUpto], by simp [upd_at], by simp [upd_at], by simp [upd_at], by simp [upd_at]⟩ ?_
  rintro j env H1 hj ⟨hE, hB, g1, g4, g39, g40, g41, hN⟩
  by_cases hlt : (j : Int) < (t.pieces.length : Int)
  · have hlt' : j < t.pieces.length := by omega
    have hget : t.pieces.getD j default = t.pieces[j] := by simp [hlt']
    simp only [go_sem, reduceIte, reduceCtorEq, Nat.reduceEqDiff, Nat.reduceBEq, Nat.reduceAdd, Nat.reduceMul, Nat.reduceLeDiff, g1, g4, g39, g40, g41, hN, hlt, map_get (f := eP) hlt', eP]
    refine v_alloc fun b3 hb3 => ?_
    have hne3 : b1 ≠ b3 := fun h => by subst h; rw [hB] at hb3; cases hb3
    simp only [go_sem, reduceIte, reduceCtorEq, Nat.reduceEqDiff, Nat.reduceBEq, Nat.reduceAdd, Nat.reduceMul, Nat.reduceLeDiff, g1, g4, g39, g40, g41, hN]
    rw [v_store]
    refine ⟨rfl, rfl, by simp [AV.cells, AV.isCell], _, updH_same _ _ _, by simp, ?_⟩
    simp only [go_sem, reduceIte, reduceCtorEq, Nat.reduceEqDiff, Nat.reduceBEq, Nat.reduceAdd, Nat.reduceMul, Nat.reduceLeDiff, g1, g4, g39, g40, g41, hN, updH_ne _ _ hne3, hB, placeAt, List.append_nil, List.nil_append, List.drop_nil]
    refine (of_c t t.pieces[j] hs.women (hs.marks _ (List.getElem_mem _))).go ?_
    have hwl := womenUpto_len t.women t.pieces[j].marks t.women.length
    have hmb := many_bound t j
    have hmul : 0 ≤ manyUpto t j * ((womenOf t.women t.pieces[j].marks).length : Int) ∧ manyUpto t j * ((womenOf t.women t.pieces[j].marks).length : Int) ≤ 2001 * 2147483648 := by
      constructor
      · exact Int.mul_nonneg hmb.1 (by omega)
      · refine Int.mul_le_mul hmb.2 ?_ (by omega) (by omega)
        simp only [womenOf]; omega
    have hw := w64 (x := manyUpto t j * ((womenOf t.women t.pieces[j].marks).length : Int)) (by omega) (by omega)
    simp only [go_sem, reduceIte, reduceCtorEq, Nat.reduceEqDiff, Nat.reduceBEq, Nat.reduceAdd, Nat.reduceMul, Nat.reduceLeDiff, g1, g4, g39, g40, g41, hN, hw]
    refine (minimum_c _ _).go ?_
    simp only [go_sem, reduceIte, reduceCtorEq, Nat.reduceEqDiff, Nat.reduceBEq, Nat.reduceAdd, Nat.reduceMul, Nat.reduceLeDiff, g1, g4, g39, g40, g41, hN, wsucc (show j < 4611686018427387904 by omega), hlt', updH_ne _ _ hne3, hB, manyUpto, hget]
    exact (hE.new hb3 _).upd (hE.isNone hb3) _
  · simp only [go_sem, reduceIte, reduceCtorEq, Nat.reduceEqDiff, Nat.reduceBEq, Nat.reduceAdd, Nat.reduceMul, Nat.reduceLeDiff, g1, g4, g39, g40, g41, hN, hlt]
    have : j = t.pieces.length := by omega
    subst this
    by_cases c6 : 2000 < manyUpto t t.pieces.length
    · simp only [go_sem, reduceIte, reduceCtorEq, Nat.reduceEqDiff, Nat.reduceBEq, Nat.reduceAdd, Nat.reduceMul, Nat.reduceLeDiff, c6, hN]
      refine fin_ret 2 (by simp [upd_at, hN]) ⟨_, H, Settle.refl hE, ?_⟩
      simp [upd_at, checkTable, c1, c2, c3, c4, c5, c6]
    · simp only [go_sem, reduceIte, reduceCtorEq, Nat.reduceEqDiff, Nat.reduceBEq, Nat.reduceAdd, Nat.reduceMul, Nat.reduceLeDiff, c6, hN]
      refine fin_ret 2 (by simp [upd_at, hN]) ⟨_, H, Settle.refl hE, ?_⟩
      simp [upd_at, checkTable, c1, c2, c3, c4, c5, c6]
end Go.Lift

set_option linter.unusedSimpArgs false
set_option linter.unusedVariables false
namespace Go.Lift
open Go Go.Proofs

/-- A private row of cells, handed on: it is fixed. -/
theorem settle_mslice {H1 H2 : AHeap} {b n cap : Nat} {cs : List AV} (hb : H1 b = some (.box cs)) (e : Ext H2 H1) (hn : H2 b = none) (hl : cs.length = n) (hc : n ≤ cap) :
    Settle H1 (.mslice b 0 n cap) H2 (.slice (cs.map fun x => [x])) := by
  refine ⟨e, fun w v hH hr => ?_⟩
  cases hr
  obtain ⟨b', off', hv, vs, hvs⟩ := cellsAt_rep hH (Rep.ptr (w := w) b 0) (at_ptr hb (Nat.zero_le _))
  cases hv
  have hlen : n = (cs.map fun x => [x]).length := by simp [hl]
  rw [hlen]
  refine Rep.slice b 0 cap 1 (cs.map fun x => [x]) (fun i j => vs i) (by simp [hl, hc]) (by simp) (fun i j hi hj => ?_) (fun i j e' x he hx => ?_)
  · simp only [List.length_map] at hi
    have hj0 : j = 0 := by omega
    subst hj0
    have := (hvs i cs[i] (by simp [hi])).1
    refine ⟨.inl hn, ?_⟩
    simpa using this
  · rw [List.getElem?_map] at he
    cases hci : cs[i]? with
    | none => rw [hci] at he; simp at he
    | some y =>
      rw [hci] at he
      simp only [Option.map_some, Option.some.injEq] at he
      subst he
      cases j with
      | zero =>
        simp only [List.getElem?_cons_zero, Option.some.injEq] at hx
        subst hx
        exact ((hvs i y (by simpa using hci)).2).mono (Evolve.drop e)
      | succ j => simp at hx

theorem placeAt_set : ∀ (cs : List AV) (k : Nat) (x : AV), k < cs.length → placeAt cs k [x] = cs.set k x
  | [], k, x, h => by simp at h
  | c :: cs, 0, x, h => by simp [placeAt]
  | c :: cs, k + 1, x, h => by
    have := placeAt_set cs k x (by simpa using h)
    simp only [placeAt, List.take_succ_cons, List.length_singleton, List.cons_append, List.set_cons_succ] at this ⊢
    rw [← this]
    simp [Nat.add_right_comm, List.drop_succ_cons]
theorem take_f' (n : Nat) (cs : List AV) : takeV false n cs = cs[0]? := _root_.id rfl
theorem drop_at (cs : List AV) (k : Nat) : (cs.drop k)[0]? = cs[k]? := by simp

/-- How many of the first so many owners each woman is. -/
def ownUpto (n : Nat) (o : List Int) (j : Nat) : List Int := (List.range n).map fun w : Nat => (((o.take j).count (w : Int) : Nat) : Int)
theorem ownUpto_len (n : Nat) (o : List Int) (j : Nat) : (ownUpto n o j).length = n := by simp [ownUpto]
theorem ownUpto_succ (n : Nat) (o : List Int) (j w : Nat) (hj : j < o.length) (hw : o[j] = (w : Int)) (hn : w < n) : ownUpto n o (j + 1) = (ownUpto n o j).set w (((o.take j).count (w : Int) : Int) + 1) := by
  apply List.ext_getElem
  · simp [ownUpto]
  · intro i h1 h2
    simp only [ownUpto, List.length_map, List.length_range] at h1
    rw [List.getElem_set]
    simp only [ownUpto, List.getElem_map, List.getElem_range]
    rw [List.take_add_one, List.getElem?_eq_getElem hj, Option.toList_some, List.count_append, hw]
    by_cases h : w = i
    · subst h; simp
    · have : ¬ ((w : Int) = (i : Int)) := by omega
      simp [h, this]

theorem own_c (t : Table) (o : List Int) (hs : TSm t) (ho : o.length = 7) (hp : t.pieces.length ≤ 7) (hv : ∀ i, i < t.pieces.length → ∃ w : Nat, o.getD i 0 = (w : Int) ∧ w < t.women.length) :
    Pure Tryz.prog 167 [eT t, .agg (o.map i6)] (.slice (eI (ownUpto t.women.length o t.pieces.length))) := by
  intro H
  have h1 := hs.women
  unfold Sm at h1
  refine fn_of hmix fc167 (by simp) ?_
  rw [ienv2]
  simp only [go_sem, reduceIte, reduceCtorEq, Nat.reduceEqDiff, Nat.reduceBEq, Nat.reduceAdd, Nat.reduceMul, Nat.reduceLeDiff, ac167, eT]
  refine v_box _ rfl fun b1 hb1 => ?_
  simp only [go_sem, reduceIte, reduceCtorEq, Nat.reduceEqDiff, Nat.reduceBEq, Nat.reduceAdd, Nat.reduceMul, Nat.reduceLeDiff]
  refine v_box _ rfl fun b2 hb2 => ?_
  have hne : b1 ≠ b2 := fun h => by subst h; simp at hb2
  simp only [go_sem, reduceIte, reduceCtorEq, Nat.reduceEqDiff, Nat.reduceBEq, Nat.reduceAdd, Nat.reduceMul, Nat.reduceLeDiff, updH_ne _ _ hne]
  refine ⟨by omega, by omega, by omega, fun b3 hb3 => ?_⟩
  have hn1 : b1 ≠ b3 := fun h => by subst h; simp [updH, hne] at hb3
  have hn2 : b2 ≠ b3 := fun h => by subst h; simp at hb3
  simp only [go_sem, reduceIte, reduceCtorEq, Nat.reduceEqDiff, Nat.reduceBEq, Nat.reduceAdd, Nat.reduceMul, Nat.reduceLeDiff, updH_ne _ _ hn1, updH_ne _ _ hne]
  have hz : (List.replicate t.women.length [AV.int .i64 0]).flatten = (ownUpto t.women.length o 0).map i6 := by
    simp only [ownUpto, List.take_zero, List.count_nil, List.map_map]
    generalize t.women.length = m
    induction m with
    | zero => rfl
    | succ n ih => rw [List.replicate_succ', List.flatten_append, ih, List.range_succ, List.map_append]; rfl
  rw [hz]
  have e2 : Ext H (updH (updH H b1 (.box [.slice (t.women.map eW), .slice (t.pieces.map eP), i6 t.wrong])) b2 (.box (o.map i6))) := ((Ext.refl H).new hb1 _).new hb2 _
  have hH3 : H b3 = none := e2.isNone hb3
  refine x_for t.pieces.length (fun j env H1 => Ext H H1 ∧ H1 b2 = some (.box (o.map i6)) ∧ H1 b3 = some (.box ((ownUpto t.women.length o j).map i6)) ∧ env 3 = .ptr b2 0 ∧ env 5 = .mslice b3 0 t.women.length t.women.length ∧ env 13 = i6 t.pieces.length ∧ env 14 = i6 j ∧ env 27 = .any)
    ⟨e2.new hb3 _, by rw [updH_ne _ _ hn2]; exact updH_same _ _ _, updH_same _ _ _, by simp [upd_at], by simp [upd_at], by simp [upd_at], by simp [upd_at], by simp [upd_at]⟩ ?_
  rintro j env H1 hj ⟨hE, hB2, hB3, g3, g5, g13, g14, hN⟩
  by_cases hlt : (j : Int) < (t.pieces.length : Int)
  · have hlt' : j < t.pieces.length := by omega
    have hjo : j < o.length := by omega
    obtain ⟨w, hw, hwn⟩ := hv j hlt'
    have hw' : o[j] = (w : Int) := by rw [← hw]; simp [hjo]
    have hget : (o.map i6)[j]? = some (i6 w) := by simp [hjo, hw']
    have hcnt : ((ownUpto t.women.length o j).map i6)[w]? = some (i6 ((o.take j).count (w : Int))) := by simp [ownUpto, hwn]
    have hc7 : (o.take j).count (w : Int) ≤ 7 := Nat.le_trans List.count_le_length (by simp; omega)
    simp only [go_sem, reduceIte, reduceCtorEq, Nat.reduceEqDiff, Nat.reduceBEq, Nat.reduceAdd, Nat.reduceMul, Nat.reduceLeDiff, g3, g5, g13, g14, hN, hlt, hB2, hB3, show (j : Int) < ((7 : Nat) : Int) by omega, Nat.mul_one, ho, show j ≤ 7 by omega, take_f', drop_at, hget, show (w : Int) < (t.women.length : Int) by omega, ownUpto_len, show w ≤ t.women.length by omega]
    simp only [go_sem, reduceIte, reduceCtorEq, Nat.reduceEqDiff, Nat.reduceBEq, Nat.reduceAdd, Nat.reduceMul, Nat.reduceLeDiff, hcnt, g3, g5, g13, g14, hN, w64 (x := ((o.take j).count (w : Int) : Int) + 1) (by omega) (by omega), show (w : Int) < (t.women.length : Int) by omega]
    rw [v_store]
    refine ⟨rfl, rfl, by simp [AV.cells, AV.isCell], _, hB3, by simp [ownUpto]; omega, ?_⟩
    simp only [go_sem, reduceIte, reduceCtorEq, Nat.reduceEqDiff, Nat.reduceBEq, Nat.reduceAdd, Nat.reduceMul, Nat.reduceLeDiff, g3, g5, g13, g14, hN, wsucc (show j < 4611686018427387904 by omega), hlt']
    refine ⟨hE.upd hH3 _, by rw [updH_ne _ _ hn2]; exact hB2, ?_⟩
    rw [placeAt_set _ _ _ (by simp [ownUpto]; exact hwn)]
    rw [ownUpto_succ t.women.length o j w hjo hw' hwn, List.map_set, Nat.mul_one]
  · simp only [go_sem, reduceIte, reduceCtorEq, Nat.reduceEqDiff, Nat.reduceBEq, Nat.reduceAdd, Nat.reduceMul, Nat.reduceLeDiff, g3, g5, g13, g14, hN, hlt]
    have : j = t.pieces.length := by omega
    subst this
    refine fin_ret 4 (by simp [upd_at, hN]) ⟨_, H, ?_, rfl, rfl⟩
    simp only [upd_at, if_true]
    have := settle_mslice (n := t.women.length) (cap := t.women.length) hB3 hE hH3 (by simp [ownUpto]) (Nat.le_refl _)
    simpa [eI, List.map_map, Function.comp_def] using this

/-- The women, of the first so many, who miscounted. -/
def wrongUpto (t : Table) (o : List Int) (j : Nat) : List Int := ((List.range j).filter fun w => !decide ((t.women.getD w default).lo ≤ (o.take t.pieces.length).count (w : Int) ∧ ((o.take t.pieces.length).count (w : Int) : Int) ≤ (t.women.getD w default).hi)).map Int.ofNat
def wrongOf (t : Table) (o : List Int) : List Int := wrongUpto t o t.women.length
theorem wrongUpto_succ (t : Table) (o : List Int) (j : Nat) : wrongUpto t o (j + 1) = wrongUpto t o j ++ (if ((t.women.getD j default).lo ≤ (o.take t.pieces.length).count (j : Int) ∧ ((o.take t.pieces.length).count (j : Int) : Int) ≤ (t.women.getD j default).hi) then [] else [(j : Int)]) := by
  simp only [wrongUpto, List.range_succ, List.filter_append, List.map_append]
  congr 1
  by_cases h : ((t.women.getD j default).lo ≤ (o.take t.pieces.length).count (j : Int) ∧ ((o.take t.pieces.length).count (j : Int) : Int) ≤ (t.women.getD j default).hi)
  · rw [if_pos h]; simp only [List.filter_cons, h, and_self, decide_true, Bool.not_true, Bool.false_eq_true, if_false, List.filter_nil, List.map_nil]
  · rw [if_neg h]; simp only [List.filter_cons, h, decide_false, Bool.not_false, if_true, List.filter_nil, List.map_cons, List.map_nil]; rfl
theorem wrongUpto_len (t : Table) (o : List Int) (j : Nat) : (wrongUpto t o j).length ≤ j := by
  simp only [wrongUpto, List.length_map]
  exact Nat.le_trans (List.length_filter_le _ _) (by simp)
theorem wrong_c (t : Table) (o : List Int) (hs : TSm t) (ho : o.length = 7) (hp : t.pieces.length ≤ 7) (hv : ∀ i, i < t.pieces.length → ∃ w : Nat, o.getD i 0 = (w : Int) ∧ w < t.women.length) :
    Pure Tryz.prog 137 [eT t, .agg (o.map i6)] (.slice (eI (wrongOf t o))) := by
  intro H
  have h1 := hs.women
  unfold Sm at h1
  refine fn_of hmix fc137 (by simp) ?_
  rw [ienv2]
  simp only [go_sem, reduceIte, reduceCtorEq, Nat.reduceEqDiff, Nat.reduceBEq, Nat.reduceAdd, Nat.reduceMul, Nat.reduceLeDiff, ac137, eT]
  refine v_box _ rfl fun b1 hb1 => ?_
  simp only [go_sem, reduceIte, reduceCtorEq, Nat.reduceEqDiff, Nat.reduceBEq, Nat.reduceAdd, Nat.reduceMul, Nat.reduceLeDiff]
  refine v_box _ rfl fun b2 hb2 => ?_
  have hne : b1 ≠ b2 := fun h => by subst h; simp at hb2
  simp only [go_sem, reduceIte, reduceCtorEq, Nat.reduceEqDiff, Nat.reduceBEq, Nat.reduceAdd, Nat.reduceMul, Nat.reduceLeDiff, updH_ne _ _ hne, ho, take_len (show (o.map i6).length = 7 by simp [ho])]
  have e2 : Ext H (updH (updH H b1 (.box [.slice (t.women.map eW), .slice (t.pieces.map eP), i6 t.wrong])) b2 (.box (o.map i6))) := ((Ext.refl H).new hb1 _).new hb2 _
  refine (own_c t o hs ho hp hv).go ?_
  simp only [go_sem, reduceIte, reduceCtorEq, Nat.reduceEqDiff, Nat.reduceBEq, Nat.reduceAdd, Nat.reduceMul, Nat.reduceLeDiff, show (ownUpto t.women.length o t.pieces.length).length = t.women.length by simp [ownUpto]]
  refine x_for t.women.length (fun j env H1 => Ext H H1 ∧ Grown 1 H H1 (env 4) (eI (wrongUpto t o j)) ∧ H1 b1 = some (.box [.slice (t.women.map eW), .slice (t.pieces.map eP), i6 t.wrong]) ∧ env 2 = .ptr b1 0 ∧ env 9 = .slice (eI (ownUpto t.women.length o t.pieces.length)) ∧ env 10 = i6 t.women.length ∧ env 11 = i6 j ∧ env 31 = .any)
    ⟨e2, .inl ⟨by simp [upd_at], rfl⟩, by rw [updH_ne _ _ hne]; exact updH_same _ _ _, by simp [upd_at], by simp [upd_at], by simp [upd_at], by simp [upd_at], by simp [upd_at]⟩ ?_
  rintro j env H1 hj ⟨hE, hG, hB, g2, g9, g10, g11, hN⟩
  by_cases hlt : (j : Int) < (t.women.length : Int)
  · have hlt' : j < t.women.length := by omega
    have hlen := wrongUpto_len t o j
    have hget : t.women.getD j default = t.women[j] := by simp [hlt']
    have hown : (eI (ownUpto t.women.length o t.pieces.length))[j]? = some [i6 ((o.take t.pieces.length).count (j : Int) : Nat)] := by simp [eI, ownUpto, hlt']
    simp only [go_sem, reduceIte, reduceCtorEq, Nat.reduceEqDiff, Nat.reduceBEq, Nat.reduceAdd, Nat.reduceMul, Nat.reduceLeDiff, g2, g9, g10, g11, hN, hlt, hown, hB, map_get (f := eW) hlt', eW]
    refine (rangehas_c _ _ _).go ?_
    simp only [go_sem, reduceIte, reduceCtorEq, Nat.reduceEqDiff, Nat.reduceBEq, Nat.reduceAdd, Nat.reduceMul, Nat.reduceLeDiff]
    by_cases hm : (t.women[j].lo ≤ ((o.take t.pieces.length).count (j : Int) : Nat) ∧ (((o.take t.pieces.length).count (j : Int) : Nat) : Int) ≤ t.women[j].hi)
    · simp only [go_sem, reduceIte, reduceCtorEq, Nat.reduceEqDiff, Nat.reduceBEq, Nat.reduceAdd, Nat.reduceMul, Nat.reduceLeDiff, hm, g2, g9, g10, g11, hN, wsucc (show j < 4611686018427387904 by omega), hlt']
      refine ⟨hE, ?_, hB⟩
      rw [wrongUpto_succ, hget, if_pos hm, List.append_nil]; exact hG
    · simp only [go_sem, reduceIte, reduceCtorEq, Nat.reduceEqDiff, Nat.reduceBEq, Nat.reduceAdd, Nat.reduceMul, Nat.reduceLeDiff, hm, g2, g9, g10, g11, hN]
      refine v_append hG hE rfl (eI_good _) (one_good _) (one_cell _) (by simp; omega) (by simp; omega) ?_
      intro v' H2 hg' he' hk'
      simp only [go_sem, reduceIte, reduceCtorEq, Nat.reduceEqDiff, Nat.reduceBEq, Nat.reduceAdd, Nat.reduceMul, Nat.reduceLeDiff, g2, g9, g10, g11, hN, wsucc (show j < 4611686018427387904 by omega), hlt']
      refine ⟨he', ?_, hk'.box hG hB⟩
      rw [wrongUpto_succ, hget, if_neg hm, eI_app]; exact hg'
  · simp only [go_sem, reduceIte, reduceCtorEq, Nat.reduceEqDiff, Nat.reduceBEq, Nat.reduceAdd, Nat.reduceMul, Nat.reduceLeDiff, g2, g9, g10, g11, hN, hlt]
    have : j = t.women.length := by omega
    subst this
    refine fin_ret 4 (by simp [upd_at, hN]) ⟨_, H, ?_, rfl, rfl⟩
    simp only [upd_at, if_true]
    exact hG.weaken hE
end Go.Lift

set_option linter.unusedSimpArgs false
set_option linter.unusedVariables false
namespace Go.Lift
open Go Go.Proofs

theorem fin_cell {P : Program} {N : Nat} {env : Env} {H : AHeap} (t s n b : Nat) (ty : TypeId) (cs : List AV) (hN : env N = .any) (h1 : isAggB P ty = some true) (h2 : szB P ty = some n) (ht : env t = .ptr b 0) (hb : H b = some (.box cs)) (hl : cs.length = n)
    {Rr : AV → AHeap → Prop} (h : ∃ r' H2, Settle H (.tup [.agg cs, env s]) H2 r' ∧ Rr r' H2) : fin P [.cell t ty, .tmp s] N Rr .ret env H := by
  obtain ⟨r', H2, h3, h4⟩ := h
  refine ⟨H, .inl ⟨hN, rfl⟩, .tup [.agg cs, env s], ?_, r', H2, h3, h4⟩
  have : resV P env H (.cell t ty) = some (.agg cs) := by
    simp only [resV, h1, h2, ht, at_obj, hb, obj_box, Nat.zero_le, if_true, List.drop_zero, Option.bind_some, take_tt, hl, Nat.le_refl]
    rw [take_len hl]
  have h5 : resV P env H (.tmp s) = some (env s) := rfl
  simp [aret, List.mapM_cons, List.mapM_nil, this, h5, oneOf]

def ownersOK (t : Table) (l : List Int) : Bool := decide (l.length = t.pieces.length) && (List.range l.length).all fun i => decide (l.getD i 0 ∈ womenOf t.women (t.pieces.getD i default).marks)
def padTo (l : List Int) (j : Nat) : List Int := l.take j ++ List.replicate (7 - j) 0
theorem padTo_len (l : List Int) (j : Nat) (h : j ≤ l.length) (h7 : j ≤ 7) : (padTo l j).length = 7 := by simp [padTo]; omega
theorem padTo_succ (l : List Int) (j : Nat) (h : j < l.length) (h7 : j < 7) : (padTo l j).set j l[j] = padTo l (j + 1) := by
  apply List.ext_getElem
  · rw [List.length_set, padTo_len _ _ (by omega) (by omega), padTo_len _ _ (by omega) (by omega)]
  · intro i h1 h2
    rw [List.getElem_set]
    have hl : (l.take j).length = j := by simp; omega
    have hl' : (l.take (j + 1)).length = j + 1 := by simp; omega
    by_cases hij : j = i
    · subst hij
      simp only [if_true, padTo]
      rw [List.getElem_append_left (by omega)]; simp
    · simp only [hij, if_false, padTo]
      rcases Nat.lt_or_ge i j with hlt | hge
      · rw [List.getElem_append_left (by omega), List.getElem_append_left (by omega)]; simp
      · rw [List.getElem_append_right (by omega), List.getElem_append_right (by omega)]; simp

theorem agg205 : isAggB Tryz.prog 205 = some true := by kernel_rfl
theorem sz205 : szB Tryz.prog 205 = some 7 := by kernel_rfl

theorem listed_c (t : Table) (l : List Int) (hs : TSm t) (hp : t.pieces.length ≤ 7) (hl : Sm l.length) (H : AHeap) :
    ACalls Tryz.prog 155 [eT t, .slice (eI l)] H fun r H' => H' = H ∧ ∃ o : List Int, o.length = 7 ∧ r = .tup [.agg (o.map i6), .bool (ownersOK t l)] ∧ (ownersOK t l = true → o = padTo l l.length) := by
  have hl' := hl
  unfold Sm at hl'
  refine fn_of hmix fc155 (by simp) ?_
  rw [ienv2]
  simp only [go_sem, reduceIte, reduceCtorEq, Nat.reduceEqDiff, Nat.reduceBEq, Nat.reduceAdd, Nat.reduceMul, Nat.reduceLeDiff, ac155, eT]
  refine v_box _ rfl fun b1 hb1 => ?_
  simp only [go_sem, reduceIte, reduceCtorEq, Nat.reduceEqDiff, Nat.reduceBEq, Nat.reduceAdd, Nat.reduceMul, Nat.reduceLeDiff]
  refine v_alloc fun b4 hb4 => ?_
  have hne : b1 ≠ b4 := fun h => by subst h; simp at hb4
  simp only [go_sem, reduceIte, reduceCtorEq, Nat.reduceEqDiff, Nat.reduceBEq, Nat.reduceAdd, Nat.reduceMul, Nat.reduceLeDiff, updH_ne _ _ hne]
  have hz : ([.int .i64 0, .int .i64 0, .int .i64 0, .int .i64 0, .int .i64 0, .int .i64 0, .int .i64 0] : List AV) = (padTo l 0).map i6 := rfl
  rw [hz]
  have e2 : Ext H (updH (updH H b1 (.box [.slice (t.women.map eW), .slice (t.pieces.map eP), i6 t.wrong])) b4 (.box ((padTo l 0).map i6))) := ((Ext.refl H).new hb1 _).new hb4 _
  have hH4 : H b4 = none := ((Ext.refl H).new hb1 _).isNone hb4
  by_cases c1 : (l.length : Int) = (t.pieces.length : Int)
  rotate_left
  · simp only [go_sem, reduceIte, reduceCtorEq, Nat.reduceEqDiff, Nat.reduceBEq, Nat.reduceAdd, Nat.reduceMul, Nat.reduceLeDiff, c1, updH_ne _ _ hne, take_len (show ((padTo l 0).map i6).length = 7 from rfl), show ((padTo l 0).map i6).length = 7 from rfl, show (padTo l 0).length = 7 from rfl]
    rw [v_store]
    refine ⟨rfl, rfl, by simp [AV.cells, padTo, AV.isCell], _, updH_same _ _ _, by simp [padTo], ?_⟩
    simp only [go_sem, reduceIte, reduceCtorEq, Nat.reduceEqDiff, Nat.reduceBEq, Nat.reduceAdd, Nat.reduceMul, Nat.reduceLeDiff, placeAll _ _ rfl]
    refine fin_cell 4 5 7 b4 205 _ (by simp [upd_at]) agg205 sz205 (by simp [upd_at]) (updH_same _ _ _) rfl ⟨_, H, Settle.refl (e2.upd hH4 _), rfl, padTo l 0, rfl, ?_, ?_⟩
    · simp only [upd_at, if_true, ownersOK, show ¬ l.length = t.pieces.length by omega, decide_false, Bool.false_and]
    · simp [ownersOK, show ¬ l.length = t.pieces.length by omega]
  have c1' : l.length = t.pieces.length := by omega
  simp only [go_sem, reduceIte, reduceCtorEq, Nat.reduceEqDiff, Nat.reduceBEq, Nat.reduceAdd, Nat.reduceMul, Nat.reduceLeDiff, c1]
  refine x_for l.length (fun j env H1 => Ext H H1 ∧ H1 b1 = some (.box [.slice (t.women.map eW), .slice (t.pieces.map eP), i6 t.wrong]) ∧ H1 b4 = some (.box ((padTo l j).map i6)) ∧ env 2 = .ptr b1 0 ∧ env 4 = .ptr b4 0 ∧ env 15 = .slice (eI l) ∧ env 16 = i6 l.length ∧ env 17 = i6 j ∧ env 38 = .any ∧ ∀ i, i < j → l.getD i 0 ∈ womenOf t.women (t.pieces.getD i default).marks)
    ⟨e2, by rw [updH_ne _ _ hne]; exact updH_same _ _ _, updH_same _ _ _, by simp [upd_at], by simp [upd_at], by simp [upd_at], by simp [upd_at, c1], by simp [upd_at], by simp [upd_at], by simp⟩ ?_
  rintro j env H1 hj ⟨hE, hB1, hB4, g2, g4, g15, g16, g17, hN, hq⟩
  have hpl := padTo_len l j hj (by omega)
  have hpl' : ((padTo l j).map i6).length = 7 := by simp [hpl]
  by_cases hlt : (j : Int) < (l.length : Int)
  · have hlt' : j < l.length := by omega
    have hltp : j < t.pieces.length := by omega
    have hgl : l.getD j 0 = l[j] := by simp [hlt']
    have hgp : t.pieces.getD j default = t.pieces[j] := by simp [hltp]
    simp only [go_sem, reduceIte, reduceCtorEq, Nat.reduceEqDiff, Nat.reduceBEq, Nat.reduceAdd, Nat.reduceMul, Nat.reduceLeDiff, g2, g4, g15, g16, g17, hN, hlt, eI_get hlt', hB1, map_get (f := eP) hltp, eP]
    refine pgo_call (of_c t t.pieces[j] hs.women (hs.marks _ (List.getElem_mem _))) ?_
    simp only [go_sem, reduceIte, reduceCtorEq, Nat.reduceEqDiff, Nat.reduceBEq, Nat.reduceAdd, Nat.reduceMul, Nat.reduceLeDiff]
    refine pgo_call (contains_c _ l[j] (by have := womenUpto_len t.women t.pieces[j].marks t.women.length; have := hs.women; unfold Sm at *; simp only [womenOf]; omega)) ?_
    simp only [go_sem, reduceIte, reduceCtorEq, Nat.reduceEqDiff, Nat.reduceBEq, Nat.reduceAdd, Nat.reduceMul, Nat.reduceLeDiff]
    by_cases hm : l[j] ∈ womenOf t.women t.pieces[j].marks
    · simp only [go_sem, reduceIte, reduceCtorEq, Nat.reduceEqDiff, Nat.reduceBEq, Nat.reduceAdd, Nat.reduceMul, Nat.reduceLeDiff, hm, g2, g4, g15, g16, g17, hN, show (j : Int) < ((7 : Nat) : Int) by omega, Nat.mul_one]
      rw [v_store]
      refine ⟨rfl, rfl, by simp [AV.cells, AV.isCell], _, hB4, by simp [hpl]; omega, ?_⟩
      simp only [go_sem, reduceIte, reduceCtorEq, Nat.reduceEqDiff, Nat.reduceBEq, Nat.reduceAdd, Nat.reduceMul, Nat.reduceLeDiff, g2, g4, g15, g16, g17, hN, wsucc (show j < 4611686018427387904 by omega), hlt', updH_ne _ _ hne, hB1]
      refine ⟨hE.upd hH4 _, ?_, ?_⟩
      · rw [placeAt_set _ _ _ (by omega), ← padTo_succ l j hlt' (by omega), List.map_set]
      · intro i hi
        rcases Nat.lt_or_ge i j with h | h
        · exact hq i h
        · have : i = j := by omega
          subst this; rw [hgl, hgp]; exact hm
    · simp only [go_sem, reduceIte, reduceCtorEq, Nat.reduceEqDiff, Nat.reduceBEq, Nat.reduceAdd, Nat.reduceMul, Nat.reduceLeDiff, hm, g2, g4, g15, g16, g17, hN, hB4, hpl', take_len hpl', hpl]
      rw [v_store]
      refine ⟨rfl, hpl', by simp [AV.cells, AV.isCell], _, hB4, by simp [hpl], ?_⟩
      simp only [go_sem, reduceIte, reduceCtorEq, Nat.reduceEqDiff, Nat.reduceBEq, Nat.reduceAdd, Nat.reduceMul, Nat.reduceLeDiff, placeAll _ _ rfl]
      refine fin_cell 4 5 7 b4 205 _ (by simp [upd_at, hN]) agg205 sz205 (by simp [upd_at, g4]) (updH_same _ _ _) hpl' ⟨_, H, Settle.refl (hE.upd hH4 _), rfl, padTo l j, hpl, ?_, ?_⟩
      · have : ownersOK t l = false := by
          simp only [ownersOK, Bool.and_eq_false_iff, List.all_eq_false]
          exact .inr ⟨j, by simp [hlt'], by rw [hgl, hgp]; simp [hm]⟩
        simp [upd_at, this]
      · have : ownersOK t l = false := by
          simp only [ownersOK, Bool.and_eq_false_iff, List.all_eq_false]
          exact .inr ⟨j, by simp [hlt'], by rw [hgl, hgp]; simp [hm]⟩
        simp [this]
  · have : j = l.length := by omega
    subst this
    simp only [go_sem, reduceIte, reduceCtorEq, Nat.reduceEqDiff, Nat.reduceBEq, Nat.reduceAdd, Nat.reduceMul, Nat.reduceLeDiff, g2, g4, g15, g16, g17, hN, hlt, hB4, hpl', take_len hpl', hpl]
    rw [v_store]
    refine ⟨rfl, hpl', by simp [AV.cells, AV.isCell], _, hB4, by simp [hpl], ?_⟩
    simp only [go_sem, reduceIte, reduceCtorEq, Nat.reduceEqDiff, Nat.reduceBEq, Nat.reduceAdd, Nat.reduceMul, Nat.reduceLeDiff, placeAll _ _ rfl]
    refine fin_cell 4 5 7 b4 205 _ (by simp [upd_at, hN]) agg205 sz205 (by simp [upd_at, g4]) (updH_same _ _ _) hpl' ⟨_, H, Settle.refl (hE.upd hH4 _), rfl, padTo l l.length, hpl, ?_, fun _ => rfl⟩
    have : ownersOK t l = true := by
      simp only [ownersOK, Bool.and_eq_true, decide_eq_true_eq, List.all_eq_true, List.mem_range]
      exact ⟨c1', hq⟩
    simp [upd_at, this]

theorem agg_ok_owners (t : Table) (l : List Int) (h : ownersOK t l = true) : l.length = t.pieces.length ∧ ∀ i, i < t.pieces.length → l.getD i 0 ∈ womenOf t.women (t.pieces.getD i default).marks := by
  simp only [ownersOK, Bool.and_eq_true, decide_eq_true_eq, List.all_eq_true, List.mem_range] at h
  exact ⟨h.1, fun i hi => h.2 i (by omega)⟩
theorem womenOf_mem {ws : List Woman} {marks : List Int} {x : Int} (h : x ∈ womenOf ws marks) : ∃ w : Nat, x = (w : Int) ∧ w < ws.length := by
  simp only [womenOf, womenUpto, List.mem_map, List.mem_filter, List.mem_range] at h
  obtain ⟨w, ⟨h1, _⟩, rfl⟩ := h
  exact ⟨w, rfl, h1⟩
theorem padTo_get (l : List Int) (i : Nat) (h : i < l.length) : (padTo l l.length).getD i 0 = l.getD i 0 := by
  simp only [padTo, List.take_length]
  rw [List.getD_eq_getElem?_getD, List.getElem?_append_left h, List.getD_eq_getElem?_getD]
/-- Is a list a truth of a table (that is none of the wrong ones)? -/
def isTruthT (t : Table) (l : List Int) : Bool := decide (checkTable t = 0) && (ownersOK t l && decide (((wrongOf t (padTo l l.length)).length : Int) ≤ t.wrong))
theorem checkTable_len {t : Table} (h : checkTable t = 0) : t.women.length ≤ 5 ∧ t.pieces.length ≤ 7 := by
  unfold checkTable at h
  by_cases hc : 5 < (t.women.length : Int) ∨ 7 < (t.pieces.length : Int)
  · rw [if_pos hc] at h; omega
  · omega
theorem proveTruth_c (t : Table) (l : List Int) (hs : TSm t) (hl : Sm l.length) : Pure Tryz.prog 130 [eT t, .slice (eI l)] (.bool (isTruthT t l)) := by
  intro H
  refine fn_of hmix fc130 (by simp) ?_
  rw [ienv2]
  simp only [go_sem, reduceIte, reduceCtorEq, Nat.reduceEqDiff, Nat.reduceBEq, Nat.reduceAdd, Nat.reduceMul, Nat.reduceLeDiff, ac130]
  refine v_box _ rfl fun b1 hb1 => ?_
  simp only [go_sem, reduceIte, reduceCtorEq, Nat.reduceEqDiff, Nat.reduceBEq, Nat.reduceAdd, Nat.reduceMul, Nat.reduceLeDiff, eT]
  have e1 : Ext H (updH H b1 (.box [.slice (t.women.map eW), .slice (t.pieces.map eP), i6 t.wrong])) := (Ext.refl H).new hb1 _
  refine (checkTable_c t hs).go ?_
  by_cases c1 : checkTable t = 0
  rotate_left
  · simp only [go_sem, reduceIte, reduceCtorEq, Nat.reduceEqDiff, Nat.reduceBEq, Nat.reduceAdd, Nat.reduceMul, Nat.reduceLeDiff, c1]
    refine fin_ret 4 (by simp [upd_at]) ⟨_, H, Settle.refl e1, ?_⟩
    simp [upd_at, isTruthT, c1]
  have hlen := checkTable_len c1
  simp only [go_sem, reduceIte, reduceCtorEq, Nat.reduceEqDiff, Nat.reduceBEq, Nat.reduceAdd, Nat.reduceMul, Nat.reduceLeDiff, c1]
  refine (listed_c t l hs hlen.2 hl _).mono ?_
  rintro _ _ ⟨rfl, o, ho, rfl, hpad⟩
  simp only [go_sem, reduceIte, reduceCtorEq, Nat.reduceEqDiff, Nat.reduceBEq, Nat.reduceAdd, Nat.reduceMul, Nat.reduceLeDiff, List.getElem?_cons_zero, List.getElem?_cons_succ]
  refine v_alloc fun b5 hb5 => ?_
  have hne : b1 ≠ b5 := fun h => by subst h; simp at hb5
  simp only [go_sem, reduceIte, reduceCtorEq, Nat.reduceEqDiff, Nat.reduceBEq, Nat.reduceAdd, Nat.reduceMul, Nat.reduceLeDiff]
  rw [v_store]
  have ho7 : (o.map i6).length = 7 := by simp [ho]
  refine ⟨rfl, ho7, by simp [AV.cells, AV.isCell], _, updH_same _ _ _, by simp, ?_⟩
  simp only [go_sem, reduceIte, reduceCtorEq, Nat.reduceEqDiff, Nat.reduceBEq, Nat.reduceAdd, Nat.reduceMul, Nat.reduceLeDiff, placeAll _ _ (show ([AV.int .i64 0, .int .i64 0, .int .i64 0, .int .i64 0, .int .i64 0, .int .i64 0, .int .i64 0] : List AV).length = (o.map i6).length by simp [ho])]
  have e5 : ∀ o1 o2, Ext H (updH (updH (updH H b1 (.box [.slice (t.women.map eW), .slice (t.pieces.map eP), i6 t.wrong])) b5 o1) b5 o2) := fun o1 o2 => (e1.new hb5 _).upd (e1.isNone hb5) _
  cases c2 : ownersOK t l
  · simp only [go_sem, reduceIte, reduceCtorEq, Nat.reduceEqDiff, Nat.reduceBEq, Nat.reduceAdd, Nat.reduceMul, Nat.reduceLeDiff, c2]
    refine fin_ret 4 (by simp [upd_at]) ⟨_, H, Settle.refl (e5 _ _), ?_⟩
    simp [upd_at, isTruthT, c2]
  obtain ⟨hk1, hk2⟩ := agg_ok_owners t l c2
  have hoe := hpad c2
  subst hoe
  simp only [go_sem, reduceIte, reduceCtorEq, Nat.reduceEqDiff, Nat.reduceBEq, Nat.reduceAdd, Nat.reduceMul, Nat.reduceLeDiff, c2, updH_ne _ _ hne, take_len ho7, ho7, ho]
  refine pgo_call (wrong_c t (padTo l l.length) hs ho hlen.2 (fun i hi => by
    rw [padTo_get l i (by omega)]; exact womenOf_mem (hk2 i hi))) ?_
  simp only [go_sem, reduceIte, reduceCtorEq, Nat.reduceEqDiff, Nat.reduceBEq, Nat.reduceAdd, Nat.reduceMul, Nat.reduceLeDiff, updH_ne _ _ hne]
  refine fin_ret 4 (by simp [upd_at]) ⟨_, H, Settle.refl (e5 _ _), ?_⟩
  simp [upd_at, isTruthT, c1, c2]
end Go.Lift

set_option linter.unusedSimpArgs false
set_option linter.unusedVariables false
namespace Go.Lift
open Go Go.Proofs

/-- A private box that is handed on is fixed: its pointer then reads for good. -/
theorem rep_elem {H1 H2 : AHeap} {w : World} {v : Value} {b : Nat} {cs : List AV} (hH : HRel H1 w) (hb : H1 b = some (.box cs)) (e : Ext H2 H1) (hn : H2 b = none) (hr : Rep H1 w v (.ptr b 0)) : Rep H2 w v (.elem cs) := by
  obtain ⟨b', off', hv, vs, hvs⟩ := cellsAt_rep hH hr (at_ptr hb (Nat.zero_le _))
  cases hr
  cases hv
  refine Rep.elem b 0 cs vs (fun j hj => ?_) (fun j x hx => ?_)
  · have := (hvs j cs[j] (by simp [hj])).1
    exact ⟨.inl hn, this⟩
  · exact ((hvs j x (by simpa using hx)).2).mono (Evolve.drop e)
theorem settle_func {H1 H2 : AHeap} {f : Fn} {b : Nat} {cs : List AV} (hb : H1 b = some (.box cs)) (e : Ext H2 H1) (hn : H2 b = none) : Settle H1 (.func f [] [.ptr b 0]) H2 (.func f [] [.elem cs]) := by
  refine ⟨e, fun w v hH hr => ?_⟩
  cases hr with
  | func fn first cap af ac hf hc hx hy =>
    refine .func _ _ _ _ _ hf (by simpa using hc) (fun i x hi => by simp at hi) (fun i x hi => ?_)
    cases i with
    | zero =>
      simp only [List.getElem?_cons_zero, Option.some.injEq] at hi
      subst hi
      exact rep_elem hH hb e hn (hy 0 _ rfl)
    | succ i => simp at hi

def tCells (t : Table) : List AV := [.slice (t.women.map eW), .slice (t.pieces.map eP), i6 t.wrong]
theorem lists_c (t : Table) : Pure Tryz.prog 136 [eT t] (.func (.func 165) [] [.elem (tCells t)]) := by
  intro H
  refine fn_of hmix fc136 (by simp) ?_
  rw [ienv1]
  simp only [go_sem, reduceIte, reduceCtorEq, Nat.reduceEqDiff, Nat.reduceBEq, Nat.reduceAdd, Nat.reduceMul, Nat.reduceLeDiff, ac136, eT]
  refine v_box _ rfl fun b hb => ?_
  simp only [go_sem, reduceIte, reduceCtorEq, Nat.reduceEqDiff, Nat.reduceBEq, Nat.reduceAdd, Nat.reduceMul, Nat.reduceLeDiff]
  refine fin_ret 2 (by simp [upd_at]) ⟨_, H, ?_, rfl, rfl⟩
  simp only [upd_at, if_true]
  exact settle_func (updH_same _ _ _) ((Ext.refl H).new hb _) hb

/-- A call of a function value. -/
def ACallV (P : Program) (v : AV) (xs : List AV) (H : AHeap) (R : AV → AHeap → Prop) : Prop := aopV P .callv (v :: xs) H R

/-- One who takes what is enumerated: J says what has been taken, and of which blocks it speaks; E where it has been left. -/
structure Taker (P : Program) {α : Type} (yv : AV) (enc : α → AV) (full : List α) (J E : List α → (Nat → Prop) → AHeap → Prop) : Prop where
  dom : ∀ s F H, J s F H → ∀ x, F x → ∃ o, H x = some o
  edom : ∀ s F H, E s F H → ∀ x, F x → ∃ o, H x = some o
  stable : ∀ s F H H', J s F H → (∀ x, F x → H' x = H x) → J s F H'
  estable : ∀ s F H H', E s F H → (∀ x, F x → H' x = H x) → E s F H'
  step : ∀ s F H o, s ++ [o] <+: full → J s F H → ACallV P yv [enc o] H fun r H' => ∃ F', (∀ x, F' x → F x ∨ H x = none) ∧ (∀ x, ¬ F x → (∃ o, H x = some o) → H' x = H x) ∧
    ((r = .bool true ∧ J (s ++ [o]) F' H') ∨ (r = .bool false ∧ E (s ++ [o]) F' H'))
end Go.Lift

set_option linter.unusedSimpArgs false
set_option linter.unusedVariables false
namespace Go.Lift
open Go Go.Proofs

/-- All owners of so many more pieces behind the first ones, in order. -/
def enumO (t : Table) : Nat → List Int → List (List Int)
  | 0, pre => [pre]
  | k + 1, pre => (womenOf t.women (t.pieces.getD pre.length default).marks).flatMap fun w => enumO t k (pre ++ [w])
def eO (o : List Int) : AV := .agg ((padTo o o.length).map i6)

/-- What is private to the one who enumerates stays out of the taker's. -/
structure Frame0 (F : Nat → Prop) (H : AHeap) (bo : Nat) (F' : Nat → Prop) (H' : AHeap) : Prop where
  foot : ∀ x, F' x → F x ∨ H x = none
  kept : ∀ x, ¬ F x → x ≠ bo → (∃ o, H x = some o) → H' x = H x
theorem Frame0.refl (F : Nat → Prop) (H : AHeap) (bo : Nat) : Frame0 F H bo F H := ⟨fun x h => .inl h, fun _ _ _ _ => rfl⟩
theorem Frame0.trans {F F' F'' : Nat → Prop} {H H' H'' : AHeap} {bo : Nat} (a : Frame0 F H bo F' H') (b : Frame0 F' H' bo F'' H'') (hb : ∃ o, H' bo = some o) : Frame0 F H bo F'' H'' := by
  have key : ∀ x, H' x = none → F x ∨ H x = none := fun x hx => by
    by_cases hF : F x
    · exact .inl hF
    · by_cases hxb : x = bo
      · subst hxb; obtain ⟨o, ho⟩ := hb; rw [ho] at hx; cases hx
      · cases hh : H x with
        | none => exact .inr rfl
        | some o => rw [a.kept x hF hxb ⟨o, hh⟩, hh] at hx; cases hx
  refine ⟨fun x hx => ?_, fun x hF hxb hh => ?_⟩
  · rcases b.foot x hx with h | h
    · exact a.foot x h
    · exact key x h
  · have h1 := a.kept x hF hxb hh
    have hF' : ¬ F' x := fun h => by
      rcases a.foot x h with h | h
      · exact hF h
      · obtain ⟨o, ho⟩ := hh; rw [ho] at h; cases h
    rw [b.kept x hF' hxb (by rw [h1]; exact hh), h1]
theorem Frame0.out {F F' : Nat → Prop} {H H' : AHeap} {bo x : Nat} (a : Frame0 F H bo F' H') (hx : ¬ F x) (hh : ∃ o, H x = some o) : ¬ F' x := fun h => by
  rcases a.foot x h with h | h
  · exact hx h
  · obtain ⟨o, ho⟩ := hh; rw [ho] at h; cases h

section
variable {yv : AV} {full : List (List Int)} {J E : List (List Int) → (Nat → Prop) → AHeap → Prop}

theorem choose_c (t : Table) (hs : TSm t) (hp : t.pieces.length ≤ 7) (T : Taker Tryz.prog yv eO full J E) (by_ bo bc : Nat) (h1 : by_ ≠ bo) (h2 : bc ≠ bo) :
    ∀ (k : Nat) (pre : List Int) (s : List (List Int)) (F : Nat → Prop) (H : AHeap) (o : List Int), pre.length + k = t.pieces.length → o.length = 7 → o.take pre.length = pre → o.drop t.pieces.length = List.replicate (7 - t.pieces.length) 0 →
      s ++ enumO t k pre <+: full → J s F H → ¬ F by_ → ¬ F bo → ¬ F bc → H by_ = some (.box [yv]) → H bo = some (.box (o.map i6)) → H bc = some (.box [.func (.func 166) [] [.elem (tCells t), .ptr by_ 0, .ptr bo 0, .ptr bc 0]]) →
      ACalls Tryz.prog 166 [i6 pre.length, .elem (tCells t), .ptr by_ 0, .ptr bo 0, .ptr bc 0] H fun r H' => ∃ F' o', Frame0 F H bo F' H' ∧ H' bo = some (.box (List.map i6 o')) ∧ o'.length = 7 ∧ o'.take pre.length = pre ∧ o'.drop t.pieces.length = List.replicate (7 - t.pieces.length) 0 ∧
        ((r = .bool true ∧ J (s ++ enumO t k pre) F' H') ∨ (r = .bool false ∧ ∃ l1 l2, enumO t k pre = l1 ++ l2 ∧ E (s ++ l1) F' H')) := by
  intro k
  induction k with
  | zero =>
    intro pre s F H o hk ho htake hdrop hfull hJ n1 n2 n3 hy hbo hbc
    refine fn_of hmix fc166 (by simp) ?_
    rw [ienv5]
    have hpl : pre.length = t.pieces.length := by omega
    have ho7 : (o.map i6).length = 7 := by simp [ho]
    simp only [go_sem, reduceIte, reduceCtorEq, Nat.reduceEqDiff, Nat.reduceBEq, Nat.reduceAdd, Nat.reduceMul, Nat.reduceLeDiff, ac166, tCells, hpl, hy, hbo, ho, take_len ho7]
    have hoe : AV.agg (o.map i6) = eO pre := by
      simp only [eO, padTo, List.take_length, AV.agg.injEq]
      congr 1
      conv => lhs; rw [← List.take_append_drop t.pieces.length o]
      rw [hdrop, ← hpl, htake]
    rw [hoe]
    refine aopV_mono ?_ (T.step s F H pre (by simpa [enumO] using hfull) hJ)
    rintro r H' ⟨F', hF, hK, hcase⟩
    simp only [go_sem, reduceIte, reduceCtorEq, Nat.reduceEqDiff, Nat.reduceBEq, Nat.reduceAdd, Nat.reduceMul, Nat.reduceLeDiff]
    refine fin_ret' 6 (by simp [upd_at]) ?_
    simp only [upd_at, if_true]
    refine ⟨F', o, ⟨hF, fun x hx _ hh => hK x hx hh⟩, by rw [hK bo n2 ⟨_, hbo⟩]; exact hbo, ho, by rw [← hpl]; exact htake, hdrop, ?_⟩
    rcases hcase with ⟨rfl, h⟩ | ⟨rfl, h⟩
    · exact .inl ⟨rfl, h⟩
    · exact .inr ⟨rfl, [pre], [], rfl, h⟩
  | succ k ih =>
    intro pre s F H o hk ho htake hdrop hfull hJ n1 n2 n3 hy hbo hbc
    refine fn_of hmix fc166 (by simp) ?_
    rw [ienv5]
    have hpl : pre.length < t.pieces.length := by omega
    have hne : ¬ ((pre.length : Int) = (t.pieces.length : Int)) := by omega
    have hgp : t.pieces.getD pre.length default = t.pieces[pre.length] := by simp [hpl]
    simp only [go_sem, reduceIte, reduceCtorEq, Nat.reduceEqDiff, Nat.reduceBEq, Nat.reduceAdd, Nat.reduceMul, Nat.reduceLeDiff, ac166, tCells, hne, map_get (f := eP) hpl, eP]
    refine pgo_call (of_c t t.pieces[pre.length] hs.women (hs.marks _ (List.getElem_mem _))) ?_
    simp only [go_sem, reduceIte, reduceCtorEq, Nat.reduceEqDiff, Nat.reduceBEq, Nat.reduceAdd, Nat.reduceMul, Nat.reduceLeDiff]
    generalize hwl : womenOf t.women t.pieces[pre.length].marks = wl
    have hwlen : wl.length < 2147483648 := by
      have := womenUpto_len t.women t.pieces[pre.length].marks t.women.length; have := hs.women; unfold Sm at this; rw [← hwl]; simp only [womenOf]; omega
    refine x_for wl.length (fun m env H' => ∃ F' o', Frame0 F H bo F' H' ∧ H' bo = some (.box (List.map i6 o')) ∧ o'.length = 7 ∧ o'.take pre.length = pre ∧ o'.drop t.pieces.length = List.replicate (7 - t.pieces.length) 0 ∧ J (s ++ (wl.take m).flatMap fun w => enumO t k (pre ++ [w])) F' H' ∧
        env 0 = i6 pre.length ∧ env 3 = .ptr bo 0 ∧ env 4 = .ptr bc 0 ∧ env 23 = .slice (eI wl) ∧ env 24 = i6 wl.length ∧ env 25 = i6 m ∧ env 38 = .any)
      ⟨F, o, Frame0.refl _ _ _, hbo, ho, htake, hdrop, by simpa using hJ, by simp [upd_at], by simp [upd_at], by simp [upd_at], by simp [upd_at], by simp [upd_at], by simp [upd_at], by simp [upd_at]⟩ ?_
    rintro m env H1 hm ⟨F1, o1, hfr, hbo1, ho1, htake1, hdrop1, hJ1, g0, g3, g4, g23, g24, g25, hN⟩
    have hy1 : H1 by_ = some (.box [yv]) := by rw [hfr.kept by_ n1 h1 ⟨_, hy⟩]; exact hy
    have hbc1 := (hfr.kept bc n3 h2 ⟨_, hbc⟩).trans hbc
    have m1 := hfr.out n1 ⟨_, hy⟩
    have m2 := hfr.out n2 ⟨_, hbo⟩
    have m3 := hfr.out n3 ⟨_, hbc⟩
    by_cases hlt : (m : Int) < (wl.length : Int)
    · have hlt' : m < wl.length := by omega
      have ho7 : (o1.map i6).length = 7 := by simp [ho1]
      simp only [go_sem, reduceIte, reduceCtorEq, Nat.reduceEqDiff, Nat.reduceBEq, Nat.reduceAdd, Nat.reduceMul, Nat.reduceLeDiff, g0, g3, g4, g23, g24, g25, hN, hlt, eI_get hlt', show (pre.length : Int) < ((7 : Nat) : Int) by omega, Nat.mul_one]
      rw [v_store]
      refine ⟨rfl, rfl, by simp [AV.cells, AV.isCell], _, hbo1, by simp [ho1]; omega, ?_⟩
      rw [show (i6 wl[m]).cells = [i6 wl[m]] from rfl, placeAt_set _ _ _ (by simp [ho1]; omega)]
      have hset : (o1.map i6).set pre.length (AV.int .i64 wl[m]) = (o1.set pre.length wl[m]).map i6 := by rw [List.map_set]
      simp only [go_sem, reduceIte, reduceCtorEq, Nat.reduceEqDiff, Nat.reduceBEq, Nat.reduceAdd, Nat.reduceMul, Nat.reduceLeDiff, g0, g3, g4, g23, g24, g25, hN, updH_ne _ _ h2, hbc1, wsucc (show pre.length < 4611686018427387904 by omega), List.nil_append, List.cons_append, hset]
      have hlen : (pre ++ [wl[m]]).length = pre.length + 1 := by simp
      have hJ2 : J (s ++ (wl.take m).flatMap fun w => enumO t k (pre ++ [w])) F1 (updH H1 bo (.box ((o1.set pre.length wl[m]).map i6))) :=
        T.stable _ _ _ _ hJ1 (fun x hx => by rw [updH_ne _ _ (fun e => m2 (by rw [← e]; exact hx))])
      have hcall := ih (pre ++ [wl[m]]) _ F1 _ (o1.set pre.length wl[m]) (by rw [hlen]; omega) (by simp [ho1]) (by
          rw [hlen, List.take_add_one, List.take_set_of_le (Nat.le_refl _), htake1, List.getElem?_set_self (by omega)]; rfl)
        (by rw [List.drop_set_of_lt hpl]; exact hdrop1) (by
          refine List.IsPrefix.trans ?_ hfull
          rw [List.append_assoc]
          refine List.prefix_append_right_inj _ |>.2 ?_
          simp only [enumO, hgp, hwl]
          conv => rhs; rw [← List.take_append_drop m wl, List.drop_eq_getElem_cons hlt']
          rw [List.flatMap_append, List.flatMap_cons, ← List.append_assoc]
          exact List.prefix_append _ _) hJ2 m1 m2 m3 (by rw [updH_ne _ _ h1]; exact hy1) (updH_same _ _ _) (by rw [updH_ne _ _ h2]; exact hbc1)
      rw [hlen] at hcall
      refine hcall.mono ?_
      rintro r H2 ⟨F2, o2, hfr2, hbo2, ho2, htake2, hdrop2, hcase⟩
      have hfr12 : Frame0 F1 H1 bo F1 (updH H1 bo (.box ((o1.set pre.length wl[m]).map i6))) := ⟨fun x h => .inl h, fun x _ hx _ => updH_ne _ _ hx⟩
      have hfrA := (hfr.trans hfr12 ⟨_, hbo1⟩).trans hfr2 ⟨_, updH_same _ _ _⟩
      have htk : o2.take pre.length = pre := by
        have := congrArg (List.take pre.length) htake2
        rw [List.take_take, List.take_left', Nat.min_eq_left (by simp)] at this
        · exact this
        · rfl
      rcases hcase with ⟨rfl, hJ3⟩ | ⟨rfl, l1, l2, hl, hE3⟩
      · simp only [go_sem, reduceIte, reduceCtorEq, Nat.reduceEqDiff, Nat.reduceBEq, Nat.reduceAdd, Nat.reduceMul, Nat.reduceLeDiff, g0, g3, g4, g23, g24, g25, hN, wsucc (show m < 4611686018427387904 by omega), hlt']
        refine ⟨F2, o2, hfrA, hbo2, ho2, htk, hdrop2, ?_⟩
        rw [List.take_add_one, List.getElem?_eq_getElem hlt', Option.toList_some, List.flatMap_append, ← List.append_assoc]
        simpa using hJ3
      · simp only [go_sem, reduceIte, reduceCtorEq, Nat.reduceEqDiff, Nat.reduceBEq, Nat.reduceAdd, Nat.reduceMul, Nat.reduceLeDiff, g0, g3, g4, g23, g24, g25, hN]
        refine fin_ret' 6 (by simp [upd_at, hN]) ?_
        simp only [upd_at, if_true]
        refine ⟨F2, o2, hfrA, hbo2, ho2, htk, hdrop2, .inr ⟨trivial, ((wl.take m).flatMap fun w => enumO t k (pre ++ [w])) ++ l1, l2 ++ (wl.drop (m + 1)).flatMap fun w => enumO t k (pre ++ [w]), ?_, by rw [← List.append_assoc]; exact hE3⟩⟩
        simp only [enumO, hgp, hwl]
        conv => lhs; rw [← List.take_append_drop m wl, List.drop_eq_getElem_cons hlt']
        rw [List.flatMap_append, List.flatMap_cons, hl]
        simp only [List.append_assoc]
    · simp only [go_sem, reduceIte, reduceCtorEq, Nat.reduceEqDiff, Nat.reduceBEq, Nat.reduceAdd, Nat.reduceMul, Nat.reduceLeDiff, g0, g3, g4, g23, g24, g25, hN, hlt]
      have : m = wl.length := by omega
      subst this
      refine fin_ret' 6 (by simp [upd_at, hN]) ?_
      simp only [upd_at, if_true]
      refine ⟨F1, o1, hfr, hbo1, ho1, htake1, hdrop1, .inl ⟨trivial, ?_⟩⟩
      simp only [enumO, hgp, hwl]
      rw [List.take_length] at hJ1
      exact hJ1
end
end Go.Lift

set_option linter.unusedSimpArgs false
set_option linter.unusedVariables false
namespace Go.Lift
open Go Go.Proofs

theorem fin_none {P : Program} {N : Nat} {env : Env} {H : AHeap} (hN : env N = .any) {Rr : AV → AHeap → Prop} (h : Rr (.tup []) H) : fin P [] N Rr .norm env H :=
  ⟨H, .inl ⟨hN, rfl⟩, .tup [], rfl, .tup [], H, Settle.refl (fun _ _ h => h), h⟩

theorem listsGo_c (t : Table) (hs : TSm t) (hp : t.pieces.length ≤ 7) {fn : Fn} {ff fc : List AV} {J E : List (List Int) → (Nat → Prop) → AHeap → Prop} (T : Taker Tryz.prog (.func fn ff fc) eO (enumO t t.pieces.length []) J E) (F : Nat → Prop) (H : AHeap) (hJ : J [] F H) :
    ACalls Tryz.prog 165 [.func fn ff fc, .elem (tCells t)] H fun r H' => r = .tup [] ∧ ∃ F', (∀ x, F' x → F x ∨ H x = none) ∧ (∀ x, ¬ F x → (∃ o, H x = some o) → H' x = H x) ∧
      (J (enumO t t.pieces.length []) F' H' ∨ ∃ l1 l2, enumO t t.pieces.length [] = l1 ++ l2 ∧ E l1 F' H') := by
  refine fn_of hmix fc165 (by simp) ?_
  rw [ienv2]
  simp only [go_sem, reduceIte, reduceCtorEq, Nat.reduceEqDiff, Nat.reduceBEq, Nat.reduceAdd, Nat.reduceMul, Nat.reduceLeDiff, ac165]
  refine v_box _ rfl fun b1 hb1 => ?_
  simp only [go_sem, reduceIte, reduceCtorEq, Nat.reduceEqDiff, Nat.reduceBEq, Nat.reduceAdd, Nat.reduceMul, Nat.reduceLeDiff]
  refine v_alloc fun b2 hb2 => ?_
  simp only [go_sem, reduceIte, reduceCtorEq, Nat.reduceEqDiff, Nat.reduceBEq, Nat.reduceAdd, Nat.reduceMul, Nat.reduceLeDiff]
  refine v_alloc fun b3 hb3 => ?_
  simp only [go_sem, reduceIte, reduceCtorEq, Nat.reduceEqDiff, Nat.reduceBEq, Nat.reduceAdd, Nat.reduceMul, Nat.reduceLeDiff]
  have n12 : b1 ≠ b2 := fun h => by subst h; simp at hb2
  have n13 : b1 ≠ b3 := fun h => by subst h; simp [updH, n12] at hb3
  have n23 : b2 ≠ b3 := fun h => by subst h; simp at hb3
  have e1 : Ext H (updH H b1 (.box (AV.func fn ff fc).cells)) := (Ext.refl H).new hb1 _
  have hb2' : H b2 = none := e1.isNone hb2
  have hb3' : H b3 = none := (e1.new hb2 _).isNone hb3
  rw [v_store]
  refine ⟨rfl, rfl, by simp [AV.cells, AV.isCell], _, updH_same _ _ _, by simp, ?_⟩
  simp only [go_sem, reduceIte, reduceCtorEq, Nat.reduceEqDiff, Nat.reduceBEq, Nat.reduceAdd, Nat.reduceMul, Nat.reduceLeDiff, AV.cells, placeAt, List.append_nil, List.nil_append, List.drop_nil]
  have hdom := T.dom _ _ _ hJ
  have hF : ∀ x, H x = none → ¬ F x := fun x hx h => by obtain ⟨o, ho⟩ := hdom x h; rw [ho] at hx; cases hx
  have hz : ([.int .i64 0, .int .i64 0, .int .i64 0, .int .i64 0, .int .i64 0, .int .i64 0, .int .i64 0] : List AV) = (List.replicate 7 (0 : Int)).map i6 := rfl
  rw [hz]
  generalize hHH : updH (updH (updH (updH H b1 (.box [.func fn ff fc])) b2 (.box ((List.replicate 7 (0 : Int)).map i6))) b3 (.box [.nilf])) b3 (.box [.func (.func 166) [] [.elem (tCells t), .ptr b1 0, .ptr b2 0, .ptr b3 0]]) = HH
  have hother : ∀ x, x ≠ b1 → x ≠ b2 → x ≠ b3 → HH x = H x := fun x h1 h2 h3 => by subst hHH; simp [updH, h1, h2, h3]
  have hJ' : J [] F HH := T.stable _ _ _ _ hJ (fun x hx => hother x (fun h => hF _ hb1 (h ▸ hx)) (fun h => hF _ hb2' (h ▸ hx)) (fun h => hF _ hb3' (h ▸ hx)))
  have hc := choose_c t hs hp T b1 b2 b3 n12 n23.symm t.pieces.length [] [] F HH (List.replicate 7 0) (by simp) (by simp) rfl (by rw [List.drop_replicate]) (by simp) hJ' (hF _ hb1) (hF _ hb2') (hF _ hb3')
    (by subst hHH; simp [updH, n12, n13]) (by subst hHH; simp [updH, n23]) (by subst hHH; simp [updH])
  refine hc.mono ?_
  rintro r H2 ⟨F2, o2, hfr, hbo, ho2, htk, hdr, hcase⟩
  simp only [go_sem, reduceIte, reduceCtorEq, Nat.reduceEqDiff, Nat.reduceBEq, Nat.reduceAdd, Nat.reduceMul, Nat.reduceLeDiff]
  refine fin_none (by simp [upd_at]) ⟨rfl, F2, fun x hx => ?_, fun x hx hh => ?_, ?_⟩
  · rcases hfr.foot x hx with h | h
    · exact .inl h
    · right
      by_cases h1 : x = b1
      · subst h1; exact hb1
      by_cases h2 : x = b2
      · subst h2; exact hb2'
      by_cases h3 : x = b3
      · subst h3; exact hb3'
      rw [← hother x h1 h2 h3]; exact h
  · obtain ⟨o, ho⟩ := hh
    have h1 : x ≠ b1 := fun h => by subst h; rw [hb1] at ho; cases ho
    have h2 : x ≠ b2 := fun h => by subst h; rw [hb2'] at ho; cases ho
    have h3 : x ≠ b3 := fun h => by subst h; rw [hb3'] at ho; cases ho
    rw [hfr.kept x hx h2 ⟨o, by rw [hother x h1 h2 h3]; exact ho⟩, hother x h1 h2 h3]
  · rcases hcase with ⟨_, h⟩ | ⟨_, l1, l2, hl, h⟩
    · exact .inl (by simpa using h)
    · exact .inr ⟨l1, l2, hl, by simpa using h⟩
end Go.Lift

set_option linter.unusedSimpArgs false
set_option linter.unusedVariables false
namespace Go.Lift
open Go Go.Proofs

def thingsW (h : House) : Int := IntKind.i64.wrap ((h.table.pieces.length : Int) + h.others)
def thingOK (h : House) (n : Int) : Bool := decide (0 ≤ n ∧ n ≤ IntKind.i64.wrap (thingsW h - 1))
def hourOK (h : House) (n : Int) : Bool := decide (0 ≤ n ∧ n ≤ h.last)
theorem pieces_c (h : House) : Pure Tryz.prog 127 [eH h] (i6 h.table.pieces.length) := by
  intro H
  refine fn_of hmix fc127 (by simp) ?_
  rw [ienv1]
  simp only [go_sem, reduceIte, reduceCtorEq, Nat.reduceEqDiff, Nat.reduceBEq, Nat.reduceAdd, Nat.reduceMul, Nat.reduceLeDiff, ac127, eH]
  refine v_box _ rfl fun b1 hb1 => ?_
  simp only [go_sem, reduceIte, reduceCtorEq, Nat.reduceEqDiff, Nat.reduceBEq, Nat.reduceAdd, Nat.reduceMul, Nat.reduceLeDiff]
  refine fin_ret 2 (by simp [upd_at]) ⟨_, H, Settle.refl ((Ext.refl H).new hb1 _), ?_⟩
  simp [upd_at]
theorem things_c (h : House) : Pure Tryz.prog 77 [eH h] (i6 (thingsW h)) := by
  intro H
  refine fn_of hmix fc77 (by simp) ?_
  rw [ienv1]
  simp only [go_sem, reduceIte, reduceCtorEq, Nat.reduceEqDiff, Nat.reduceBEq, Nat.reduceAdd, Nat.reduceMul, Nat.reduceLeDiff, ac77, eH]
  refine v_box _ rfl fun b1 hb1 => ?_
  simp only [go_sem, reduceIte, reduceCtorEq, Nat.reduceEqDiff, Nat.reduceBEq, Nat.reduceAdd, Nat.reduceMul, Nat.reduceLeDiff]
  refine pgo_call (pieces_c h) ?_
  simp only [go_sem, reduceIte, reduceCtorEq, Nat.reduceEqDiff, Nat.reduceBEq, Nat.reduceAdd, Nat.reduceMul, Nat.reduceLeDiff]
  refine fin_ret 2 (by simp [upd_at]) ⟨_, H, Settle.refl ((Ext.refl H).new hb1 _), ?_⟩
  simp [upd_at, thingsW]
theorem thing_c (h : House) (n : Int) : Pure Tryz.prog 111 [eH h, i6 n] (.bool (thingOK h n)) := by
  intro H
  refine fn_of hmix fc111 (by simp) ?_
  rw [ienv2]
  simp only [go_sem, reduceIte, reduceCtorEq, Nat.reduceEqDiff, Nat.reduceBEq, Nat.reduceAdd, Nat.reduceMul, Nat.reduceLeDiff, ac111, eH]
  refine v_box _ rfl fun b1 hb1 => ?_
  simp only [go_sem, reduceIte, reduceCtorEq, Nat.reduceEqDiff, Nat.reduceBEq, Nat.reduceAdd, Nat.reduceMul, Nat.reduceLeDiff]
  refine (things_c h).go ?_
  simp only [go_sem, reduceIte, reduceCtorEq, Nat.reduceEqDiff, Nat.reduceBEq, Nat.reduceAdd, Nat.reduceMul, Nat.reduceLeDiff]
  refine (within_c n 0 _).go ?_
  simp only [go_sem, reduceIte, reduceCtorEq, Nat.reduceEqDiff, Nat.reduceBEq, Nat.reduceAdd, Nat.reduceMul, Nat.reduceLeDiff]
  refine fin_ret 4 (by simp [upd_at]) ⟨_, H, Settle.refl ((Ext.refl H).new hb1 _), ?_⟩
  simp [upd_at, thingOK]
theorem hour_c (h : House) (n : Int) : Pure Tryz.prog 99 [eH h, i6 n] (.bool (hourOK h n)) := by
  intro H
  refine fn_of hmix fc99 (by simp) ?_
  rw [ienv2]
  simp only [go_sem, reduceIte, reduceCtorEq, Nat.reduceEqDiff, Nat.reduceBEq, Nat.reduceAdd, Nat.reduceMul, Nat.reduceLeDiff, ac99, eH]
  refine v_box _ rfl fun b1 hb1 => ?_
  simp only [go_sem, reduceIte, reduceCtorEq, Nat.reduceEqDiff, Nat.reduceBEq, Nat.reduceAdd, Nat.reduceMul, Nat.reduceLeDiff]
  refine (within_c n 0 _).go ?_
  simp only [go_sem, reduceIte, reduceCtorEq, Nat.reduceEqDiff, Nat.reduceBEq, Nat.reduceAdd, Nat.reduceMul, Nat.reduceLeDiff]
  refine fin_ret 4 (by simp [upd_at]) ⟨_, H, Settle.refl ((Ext.refl H).new hb1 _), ?_⟩
  simp [upd_at, hourOK]
theorem sign_c (h : House) (s : Sign) : Pure Tryz.prog 117 [eH h, .agg (eS s)] (.bool (thingOK h s.thing)) := by
  intro H
  refine fn_of hmix fc117 (by simp) ?_
  rw [ienv2]
  simp only [go_sem, reduceIte, reduceCtorEq, Nat.reduceEqDiff, Nat.reduceBEq, Nat.reduceAdd, Nat.reduceMul, Nat.reduceLeDiff, ac117, eH, eS]
  refine v_box _ rfl fun b1 hb1 => ?_
  simp only [go_sem, reduceIte, reduceCtorEq, Nat.reduceEqDiff, Nat.reduceBEq, Nat.reduceAdd, Nat.reduceMul, Nat.reduceLeDiff]
  refine v_box _ rfl fun b2 hb2 => ?_
  have hne : b1 ≠ b2 := fun h => by subst h; simp at hb2
  simp only [go_sem, reduceIte, reduceCtorEq, Nat.reduceEqDiff, Nat.reduceBEq, Nat.reduceAdd, Nat.reduceMul, Nat.reduceLeDiff, updH_ne _ _ hne]
  refine (thing_c h s.thing).go ?_
  simp only [go_sem, reduceIte, reduceCtorEq, Nat.reduceEqDiff, Nat.reduceBEq, Nat.reduceAdd, Nat.reduceMul, Nat.reduceLeDiff]
  refine fin_ret 4 (by simp [upd_at]) ⟨_, H, Settle.refl (((Ext.refl H).new hb1 _).new hb2 _), ?_⟩
  simp [upd_at]
theorem boiling_c (h : House) (x : Boiling) : Pure Tryz.prog 116 [eH h, .agg (eB x)] (.bool (thingOK h x.thing && hourOK h x.hour)) := by
  intro H
  refine fn_of hmix fc116 (by simp) ?_
  rw [ienv2]
  simp only [go_sem, reduceIte, reduceCtorEq, Nat.reduceEqDiff, Nat.reduceBEq, Nat.reduceAdd, Nat.reduceMul, Nat.reduceLeDiff, ac116, eH, eB]
  refine v_box _ rfl fun b1 hb1 => ?_
  simp only [go_sem, reduceIte, reduceCtorEq, Nat.reduceEqDiff, Nat.reduceBEq, Nat.reduceAdd, Nat.reduceMul, Nat.reduceLeDiff]
  refine v_box _ rfl fun b2 hb2 => ?_
  have hne : b1 ≠ b2 := fun h => by subst h; simp at hb2
  simp only [go_sem, reduceIte, reduceCtorEq, Nat.reduceEqDiff, Nat.reduceBEq, Nat.reduceAdd, Nat.reduceMul, Nat.reduceLeDiff, updH_ne _ _ hne]
  refine (thing_c h x.thing).go ?_
  cases c1 : thingOK h x.thing
  · simp only [go_sem, reduceIte, reduceCtorEq, Nat.reduceEqDiff, Nat.reduceBEq, Nat.reduceAdd, Nat.reduceMul, Nat.reduceLeDiff]
    refine fin_ret 4 (by simp [upd_at]) ⟨_, H, Settle.refl (((Ext.refl H).new hb1 _).new hb2 _), ?_⟩
    simp [upd_at]
  · simp only [go_sem, reduceIte, reduceCtorEq, Nat.reduceEqDiff, Nat.reduceBEq, Nat.reduceAdd, Nat.reduceMul, Nat.reduceLeDiff, updH_ne _ _ hne]
    refine (hour_c h x.hour).go ?_
    simp only [go_sem, reduceIte, reduceCtorEq, Nat.reduceEqDiff, Nat.reduceBEq, Nat.reduceAdd, Nat.reduceMul, Nat.reduceLeDiff]
    refine fin_ret 4 (by simp [upd_at]) ⟨_, H, Settle.refl (((Ext.refl H).new hb1 _).new hb2 _), ?_⟩
    simp [upd_at]
end Go.Lift

set_option linter.unusedSimpArgs false
set_option linter.unusedVariables false
namespace Go.Lift
open Go Go.Proofs

def touchOK (h : House) (x : Touch) : Bool := thingOK h x.a && thingOK h x.b && !decide (x.a = x.b) && hourOK h x.lo && hourOK h x.hi && decide (x.lo ≤ x.hi)
theorem touch_c (h : House) (x : Touch) : Pure Tryz.prog 115 [eH h, .agg (eTo x)] (.bool (touchOK h x)) := by
  intro H
  refine fn_of hmix fc115 (by simp) ?_
  rw [ienv2]
  simp only [go_sem, reduceIte, reduceCtorEq, Nat.reduceEqDiff, Nat.reduceBEq, Nat.reduceAdd, Nat.reduceMul, Nat.reduceLeDiff, ac115, eH, eTo]
  refine v_box _ rfl fun b1 hb1 => ?_
  simp only [go_sem, reduceIte, reduceCtorEq, Nat.reduceEqDiff, Nat.reduceBEq, Nat.reduceAdd, Nat.reduceMul, Nat.reduceLeDiff]
  refine v_box _ rfl fun b2 hb2 => ?_
  have hne : b1 ≠ b2 := fun h => by subst h; simp at hb2
  simp only [go_sem, reduceIte, reduceCtorEq, Nat.reduceEqDiff, Nat.reduceBEq, Nat.reduceAdd, Nat.reduceMul, Nat.reduceLeDiff, updH_ne _ _ hne]
  refine (thing_c h x.a).go ?_
  cases c1 : thingOK h x.a
  · simp only [go_sem, reduceIte, reduceCtorEq, Nat.reduceEqDiff, Nat.reduceBEq, Nat.reduceAdd, Nat.reduceMul, Nat.reduceLeDiff]
    refine fin_ret 4 (by simp [upd_at]) ⟨_, H, Settle.refl (((Ext.refl H).new hb1 _).new hb2 _), ?_⟩
    simp [upd_at, touchOK, c1]
  simp only [go_sem, reduceIte, reduceCtorEq, Nat.reduceEqDiff, Nat.reduceBEq, Nat.reduceAdd, Nat.reduceMul, Nat.reduceLeDiff, updH_ne _ _ hne]
  refine (thing_c h x.b).go ?_
  cases c2 : thingOK h x.b
  · simp only [go_sem, reduceIte, reduceCtorEq, Nat.reduceEqDiff, Nat.reduceBEq, Nat.reduceAdd, Nat.reduceMul, Nat.reduceLeDiff]
    refine fin_ret 4 (by simp [upd_at]) ⟨_, H, Settle.refl (((Ext.refl H).new hb1 _).new hb2 _), ?_⟩
    simp [upd_at, touchOK, c1, c2]
  by_cases c3 : x.a = x.b
  · simp only [go_sem, reduceIte, reduceCtorEq, Nat.reduceEqDiff, Nat.reduceBEq, Nat.reduceAdd, Nat.reduceMul, Nat.reduceLeDiff, c3]
    refine fin_ret 4 (by simp [upd_at]) ⟨_, H, Settle.refl (((Ext.refl H).new hb1 _).new hb2 _), ?_⟩
    simp [upd_at, touchOK, c3]
  simp only [go_sem, reduceIte, reduceCtorEq, Nat.reduceEqDiff, Nat.reduceBEq, Nat.reduceAdd, Nat.reduceMul, Nat.reduceLeDiff, c3, updH_ne _ _ hne]
  refine (hour_c h x.lo).go ?_
  cases c4 : hourOK h x.lo
  · simp only [go_sem, reduceIte, reduceCtorEq, Nat.reduceEqDiff, Nat.reduceBEq, Nat.reduceAdd, Nat.reduceMul, Nat.reduceLeDiff]
    refine fin_ret 4 (by simp [upd_at]) ⟨_, H, Settle.refl (((Ext.refl H).new hb1 _).new hb2 _), ?_⟩
    simp [upd_at, touchOK, c4]
  simp only [go_sem, reduceIte, reduceCtorEq, Nat.reduceEqDiff, Nat.reduceBEq, Nat.reduceAdd, Nat.reduceMul, Nat.reduceLeDiff, updH_ne _ _ hne]
  refine (hour_c h x.hi).go ?_
  cases c5 : hourOK h x.hi
  · simp only [go_sem, reduceIte, reduceCtorEq, Nat.reduceEqDiff, Nat.reduceBEq, Nat.reduceAdd, Nat.reduceMul, Nat.reduceLeDiff]
    refine fin_ret 4 (by simp [upd_at]) ⟨_, H, Settle.refl (((Ext.refl H).new hb1 _).new hb2 _), ?_⟩
    simp [upd_at, touchOK, c5]
  by_cases c6 : x.lo ≤ x.hi
  · simp only [go_sem, reduceIte, reduceCtorEq, Nat.reduceEqDiff, Nat.reduceBEq, Nat.reduceAdd, Nat.reduceMul, Nat.reduceLeDiff, c6, updH_ne _ _ hne]
    refine fin_ret 4 (by simp [upd_at]) ⟨_, H, Settle.refl (((Ext.refl H).new hb1 _).new hb2 _), ?_⟩
    simp [upd_at, touchOK, c1, c2, c3, c4, c5, c6]
  · simp only [go_sem, reduceIte, reduceCtorEq, Nat.reduceEqDiff, Nat.reduceBEq, Nat.reduceAdd, Nat.reduceMul, Nat.reduceLeDiff, c6, updH_ne _ _ hne]
    refine fin_ret 4 (by simp [upd_at]) ⟨_, H, Settle.refl (((Ext.refl H).new hb1 _).new hb2 _), ?_⟩
    simp [upd_at, touchOK, c6]

theorem sick_c (h : House) (o hs : List Int) (i : Nat) (ho : o.length = 7) (hhs : hs.length = 6) (hi : i < 7) (hk : Sm h.sick.length) : Pure Tryz.prog 128 [eH h, .agg ((o ++ hs).map i6), i6 i] (.bool (decide (o.getD i 0 ∈ h.sick))) := by
  intro H
  refine fn_of hmix fc128 (by simp) ?_
  rw [ienv3]
  simp only [go_sem, reduceIte, reduceCtorEq, Nat.reduceEqDiff, Nat.reduceBEq, Nat.reduceAdd, Nat.reduceMul, Nat.reduceLeDiff, ac128, eH]
  refine v_box _ rfl fun b1 hb1 => ?_
  simp only [go_sem, reduceIte, reduceCtorEq, Nat.reduceEqDiff, Nat.reduceBEq, Nat.reduceAdd, Nat.reduceMul, Nat.reduceLeDiff]
  refine v_box _ rfl fun b2 hb2 => ?_
  have hne : b1 ≠ b2 := fun h => by subst h; simp at hb2
  have hget : ((o ++ hs).map i6)[i]? = some (i6 (o.getD i 0)) := by
    rw [List.getElem?_map, List.getElem?_append_left (by omega), List.getElem?_eq_getElem (by omega)]
    simp [show i < o.length by omega]
  simp only [go_sem, reduceIte, reduceCtorEq, Nat.reduceEqDiff, Nat.reduceBEq, Nat.reduceAdd, Nat.reduceMul, Nat.reduceLeDiff, updH_ne _ _ hne, show (i : Int) < ((7 : Nat) : Int) by omega, Nat.mul_one, List.length_append, ho, hhs, show i ≤ 13 by omega, take_f', drop_at, hget, List.getElem?_cons_zero]
  refine pgo_call (contains_c h.sick (o.getD i 0) hk) ?_
  simp only [go_sem, reduceIte, reduceCtorEq, Nat.reduceEqDiff, Nat.reduceBEq, Nat.reduceAdd, Nat.reduceMul, Nat.reduceLeDiff]
  refine fin_ret 6 (by simp [upd_at]) ⟨_, H, Settle.refl (((Ext.refl H).new hb1 _).new hb2 _), ?_⟩
  simp [upd_at]
end Go.Lift

set_option linter.unusedSimpArgs false
set_option linter.unusedVariables false
namespace Go.Lift
open Go Go.Proofs

def signRight (c : List Bool) (out : List Int) (i : Nat) (s : Sign) : Bool := decide ((i : Int) ∈ out) || !(c.getD s.thing.toNat false != s.carries)
def rightOK (h : House) (c : List Bool) (out : List Int) : Bool := (List.range h.signs.length).all fun i => signRight c out i (h.signs.getD i default)
theorem right_c (h : House) (c : List Bool) (out : List Int) (hc : c.length = 10) (ho : Sm out.length) (hs : Sm h.signs.length) (ht : ∀ s ∈ h.signs, ∃ k : Nat, s.thing = (k : Int) ∧ k < 10) :
    Pure Tryz.prog 114 [eH h, .agg (c.map .bool), .slice (eI out)] (.bool (rightOK h c out)) := by
  intro H
  unfold Sm at hs
  refine fn_of hmix fc114 (by simp) ?_
  rw [ienv3]
  simp only [go_sem, reduceIte, reduceCtorEq, Nat.reduceEqDiff, Nat.reduceBEq, Nat.reduceAdd, Nat.reduceMul, Nat.reduceLeDiff, ac114, eH]
  refine v_box _ rfl fun b1 hb1 => ?_
  simp only [go_sem, reduceIte, reduceCtorEq, Nat.reduceEqDiff, Nat.reduceBEq, Nat.reduceAdd, Nat.reduceMul, Nat.reduceLeDiff]
  refine v_box _ rfl fun b2 hb2 => ?_
  have hne : b1 ≠ b2 := fun h => by subst h; simp at hb2
  simp only [go_sem, reduceIte, reduceCtorEq, Nat.reduceEqDiff, Nat.reduceBEq, Nat.reduceAdd, Nat.reduceMul, Nat.reduceLeDiff, updH_ne _ _ hne]
  refine x_for h.signs.length (fun j env H1 => Ext H H1 ∧ H1 b2 = some (.box (c.map .bool)) ∧ env 2 = .slice (eI out) ∧ env 4 = .ptr b2 0 ∧ env 10 = .slice (h.signs.map eS) ∧ env 11 = i6 h.signs.length ∧ env 12 = i6 j ∧ env 31 = .any ∧ ∀ i, i < j → signRight c out i (h.signs.getD i default) = true)
    ⟨((Ext.refl H).new hb1 _).new hb2 _, updH_same _ _ _, by simp [upd_at], by simp [upd_at], by simp [upd_at], by simp [upd_at], by simp [upd_at], by simp [upd_at], by simp⟩ ?_
  rintro j env H1 hj ⟨hE, hB, g2, g4, g10, g11, g12, hN, hq⟩
  by_cases hlt : (j : Int) < (h.signs.length : Int)
  · have hlt' : j < h.signs.length := by omega
    have hget : h.signs.getD j default = h.signs[j] := by simp [hlt']
    obtain ⟨k, hk, hk10⟩ := ht _ (List.getElem_mem hlt')
    have hcell : (c.map AV.bool)[k]? = some (.bool (c.getD k false)) := by
      rw [List.getElem?_map, List.getElem?_eq_getElem (by omega)]
      simp [show k < c.length by omega]
    have hnext : signRight c out j h.signs[j] = true → ∀ i, i < j + 1 → signRight c out i (h.signs.getD i default) = true := fun hh i hi => by
      rcases Nat.lt_or_ge i j with h' | h'
      · exact hq i h'
      · have : i = j := by omega
        subst this; rw [hget]; exact hh
    have hbad : signRight c out j h.signs[j] = false → rightOK h c out = false := fun hh => by
      simp only [rightOK, List.all_eq_false]
      exact ⟨j, by simp [hlt'], by rw [hget, hh]; simp⟩
    simp only [go_sem, reduceIte, reduceCtorEq, Nat.reduceEqDiff, Nat.reduceBEq, Nat.reduceAdd, Nat.reduceMul, Nat.reduceLeDiff, g2, g4, g10, g11, g12, hN, hlt, map_get (f := eS) hlt', eS]
    refine v_alloc fun b3 hb3 => ?_
    have hne3 : b2 ≠ b3 := fun h => by subst h; rw [hB] at hb3; cases hb3
    simp only [go_sem, reduceIte, reduceCtorEq, Nat.reduceEqDiff, Nat.reduceBEq, Nat.reduceAdd, Nat.reduceMul, Nat.reduceLeDiff, g2, g4, g10, g11, g12, hN]
    rw [v_store]
    refine ⟨rfl, rfl, by simp [AV.cells, AV.isCell], _, updH_same _ _ _, by simp, ?_⟩
    simp only [go_sem, reduceIte, reduceCtorEq, Nat.reduceEqDiff, Nat.reduceBEq, Nat.reduceAdd, Nat.reduceMul, Nat.reduceLeDiff, g2, g4, g10, g11, g12, hN, placeAt, List.append_nil, List.nil_append, List.drop_nil]
    have hE2 : ∀ o1 o2, Ext H (updH (updH H1 b3 o1) b3 o2) := fun o1 o2 => (hE.new hb3 _).upd (hE.isNone hb3) _
    refine pgo_call (contains_c out j ho) ?_
    by_cases hm : (j : Int) ∈ out
    · simp only [go_sem, reduceIte, reduceCtorEq, Nat.reduceEqDiff, Nat.reduceBEq, Nat.reduceAdd, Nat.reduceMul, Nat.reduceLeDiff, hm, g2, g4, g10, g11, g12, hN, wsucc (show j < 4611686018427387904 by omega), hlt']
      exact ⟨hE2 _ _, by rw [updH_ne _ _ hne3, updH_ne _ _ hne3]; exact hB, hnext (by simp [signRight, hm])⟩
    · simp only [go_sem, reduceIte, reduceCtorEq, Nat.reduceEqDiff, Nat.reduceBEq, Nat.reduceAdd, Nat.reduceMul, Nat.reduceLeDiff, hm, g2, g4, g10, g11, g12, hN, hk, show (k : Int) < ((10 : Nat) : Int) by omega, Nat.mul_one, updH_ne _ _ hne3, hB, hc, show k ≤ 10 by omega, take_f', drop_at, hcell, List.getElem?_cons_zero, List.getElem?_cons_succ]
      cases hx : (c.getD k false != h.signs[j].carries)
      · simp only [go_sem, reduceIte, reduceCtorEq, Nat.reduceEqDiff, Nat.reduceBEq, Nat.reduceAdd, Nat.reduceMul, Nat.reduceLeDiff, g2, g4, g10, g11, g12, hN, wsucc (show j < 4611686018427387904 by omega), hlt', updH_ne _ _ hne3, hB]
        exact ⟨hE2 _ _, hnext (by simp only [signRight, hk, Int.toNat_natCast, hx]; simp)⟩
      · simp only [go_sem, reduceIte, reduceCtorEq, Nat.reduceEqDiff, Nat.reduceBEq, Nat.reduceAdd, Nat.reduceMul, Nat.reduceLeDiff, hN]
        refine fin_ret 6 (by simp [upd_at, hN]) ⟨_, H, Settle.refl (hE2 _ _), ?_⟩
        simp only [upd_at, if_true, and_true, AV.bool.injEq]
        exact (hbad (by simp only [signRight, hk, Int.toNat_natCast, hx, hm]; simp)).symm
  · simp only [go_sem, reduceIte, reduceCtorEq, Nat.reduceEqDiff, Nat.reduceBEq, Nat.reduceAdd, Nat.reduceMul, Nat.reduceLeDiff, g2, g4, g10, g11, g12, hN, hlt]
    have : j = h.signs.length := by omega
    subst this
    refine fin_ret 6 (by simp [upd_at, hN]) ⟨_, H, Settle.refl hE, ?_⟩
    simp only [upd_at, if_true, and_true, AV.bool.injEq]
    symm
    simp only [rightOK, List.all_eq_true, List.mem_range]
    exact hq
end Go.Lift

set_option linter.unusedSimpArgs false
set_option linter.unusedVariables false
namespace Go.Lift
open Go Go.Proofs

theorem settle_map {H1 H2 : AHeap} {b : Nat} {es : List ((Int × Int) × AV)} (hb : H1 b = some (.map es none)) (e : Ext H2 H1) (hn : H2 b = none) : Settle H1 (.mptr b) H2 (.amap es) := by
  refine ⟨e, fun w v hH hr => ?_⟩
  cases hr
  obtain ⟨entries, clock, h1, h2, h3, _, _, _⟩ := hH b _ hb
  exact .amap b entries clock es hn h1 h2 (fun i k v hi => (h3 i k v hi).1) (fun i k v hi => ((h3 i k v hi).2).mono (Evolve.drop e))

theorem v_mkmap {P : Program} {R : AV → AHeap → Prop} {H : AHeap} (h : ∀ b, H b = none → R (.mptr b) (updH H b (.map [] none))) : aopV P .mkmap [] H R := h
theorem v_mapupd {P : Program} {R : AV → AHeap → Prop} {H : AHeap} {b : Nat} {x y : Int} {v : AV} {es : List ((Int × Int) × AV)} (hv : v.ok = true) (hv' : v.isCell = true) (hb : H b = some (.map es none)) (h : R .any (updH H b (.map (setKey (x, y) v es) none))) :
    aopV P .mapupd [.mptr b, .agg [.int .i64 x, .int .i64 y], v] H R := by
  refine ⟨hv, hv', ?_⟩
  simp only [pairOf, hb]
  exact h
def bKey (x : Boiling) : Int × Int := (x.thing, x.hour)
def bMap (l : List Boiling) : List ((Int × Int) × AV) := l.foldl (fun es x => setKey (bKey x) (.bool true) es) []
theorem findKey_set (k k' : Int × Int) (v : AV) : ∀ es, findKey' k' (setKey k v es) = if k' = k then some v else findKey' k' es
  | [] => by
    simp only [setKey, findKey']
    by_cases h : k = k'
    · rw [if_pos h, if_pos h.symm]
    · rw [if_neg h, if_neg (fun h' => h h'.symm)]
  | (k2, v2) :: es => by
    have ih := findKey_set k k' v es
    simp only [setKey]
    by_cases h : k2 = k
    · subst h
      simp only [if_true, findKey']
      by_cases h2 : k2 = k'
      · rw [if_pos h2, if_pos h2.symm]
      · rw [if_neg h2, if_neg (fun h' => h2 h'.symm), if_neg h2]
    · simp only [h, if_false, findKey', ih]
      by_cases h2 : k2 = k'
      · subst h2; simp [h]
      · simp [h2]
theorem bMap_find (l : List Boiling) (k : Int × Int) : (findKey' k (bMap l)).getD (.bool false) = .bool (decide (k ∈ l.map bKey)) := by
  have key : ∀ (l : List Boiling) es, (findKey' k (l.foldl (fun es x => setKey (bKey x) (.bool true) es) es)).getD (.bool false) = if k ∈ l.map bKey then .bool true else (findKey' k es).getD (.bool false) := by
    intro l
    induction l with
    | nil => intro es; simp
    | cons x l ih =>
      intro es
      simp only [List.foldl_cons]
      rw [ih, findKey_set]
      simp only [List.map_cons, List.mem_cons]
      by_cases hk : k = bKey x
      · simp [hk]
      · by_cases hm : k ∈ l.map bKey
        · rw [if_pos hm, if_pos (.inr hm)]
        · rw [if_neg hm, if_neg hk, if_neg (fun h => h.elim hk hm)]
  have := key l []
  rw [bMap, this]
  by_cases hm : k ∈ l.map bKey
  · rw [if_pos hm, decide_eq_true hm]
  · rw [if_neg hm, decide_eq_false hm]; rfl
end Go.Lift

set_option linter.unusedSimpArgs false
set_option linter.unusedVariables false
namespace Go.Lift
open Go Go.Proofs
theorem bMap_snoc (l : List Boiling) (x : Boiling) : bMap (l ++ [x]) = setKey (bKey x) (.bool true) (bMap l) := by simp [bMap]
theorem bc2 (x y : Int) : buildCells [.int .i64 0, .int .i64 0] [(0, 1), (1, 1)] [.int .i64 x, .int .i64 y] = some [.int .i64 x, .int .i64 y] := by
  simp [buildCells, placeAt, AV.ok, AV.cells]
theorem take_snoc {α : Type} {l : List α} {j : Nat} (h : j < l.length) : l.take (j + 1) = l.take j ++ [l[j]] := by
  rw [List.take_add_one, List.getElem?_eq_getElem h]; rfl
theorem boilings_c (h : House) (more : List Boiling) (hb : Sm h.boiled.length) (hm : Sm more.length) : Pure Tryz.prog 93 [eH h, .slice (more.map eB)] (.amap (bMap (h.boiled ++ more))) := by
  intro H
  unfold Sm at hb hm
  refine fn_of hmix fc93 (by simp) ?_
  rw [ienv2]
  simp only [go_sem, reduceIte, reduceCtorEq, Nat.reduceEqDiff, Nat.reduceBEq, Nat.reduceAdd, Nat.reduceMul, Nat.reduceLeDiff, ac93, eH]
  refine v_box _ rfl fun b1 hb1 => ?_
  simp only [go_sem, reduceIte, reduceCtorEq, Nat.reduceEqDiff, Nat.reduceBEq, Nat.reduceAdd, Nat.reduceMul, Nat.reduceLeDiff]
  refine v_mkmap fun b2 hb2 => ?_
  have hne : b1 ≠ b2 := fun h => by subst h; simp at hb2
  simp only [go_sem, reduceIte, reduceCtorEq, Nat.reduceEqDiff, Nat.reduceBEq, Nat.reduceAdd, Nat.reduceMul, Nat.reduceLeDiff, updH_ne _ _ hne]
  have hH2 : H b2 = none := ((Ext.refl H).new hb1 _).isNone hb2
  refine x_for h.boiled.length (fun j env H1 => Ext H H1 ∧ H1 b2 = some (.map (bMap (h.boiled.take j)) none) ∧ env 1 = .slice (more.map eB) ∧ env 5 = .mptr b2 ∧ env 12 = .slice (h.boiled.map eB) ∧ env 13 = i6 h.boiled.length ∧ env 14 = i6 j ∧ env 35 = .any)
    ⟨((Ext.refl H).new hb1 _).new hb2 _, updH_same _ _ _, by simp [upd_at], by simp [upd_at], by simp [upd_at], by simp [upd_at], by simp [upd_at], by simp [upd_at]⟩ ?_
  rintro j env H1 hj ⟨hE, hM, g1, g5, g12, g13, g14, hN⟩
  by_cases hlt : (j : Int) < (h.boiled.length : Int)
  · have hlt' : j < h.boiled.length := by omega
    simp only [go_sem, reduceIte, reduceCtorEq, Nat.reduceEqDiff, Nat.reduceBEq, Nat.reduceAdd, Nat.reduceMul, Nat.reduceLeDiff, g1, g5, g12, g13, g14, hN, hlt, map_get (f := eB) hlt', eB]
    refine v_alloc fun b3 hb3 => ?_
    have hne3 : b2 ≠ b3 := fun h => by subst h; rw [hM] at hb3; cases hb3
    simp only [go_sem, reduceIte, reduceCtorEq, Nat.reduceEqDiff, Nat.reduceBEq, Nat.reduceAdd, Nat.reduceMul, Nat.reduceLeDiff, g1, g5, g12, g13, g14, hN]
    rw [v_store]
    refine ⟨rfl, rfl, by simp [AV.cells, AV.isCell], _, updH_same _ _ _, by simp, ?_⟩
    simp only [go_sem, reduceIte, reduceCtorEq, Nat.reduceEqDiff, Nat.reduceBEq, Nat.reduceAdd, Nat.reduceMul, Nat.reduceLeDiff, g1, g5, g12, g13, g14, hN, placeAt, List.append_nil, List.nil_append, List.drop_nil, bc2, Option.map_some]
    refine v_mapupd rfl rfl (by rw [updH_ne _ _ hne3, updH_ne _ _ hne3]; exact hM) ?_
    simp only [go_sem, reduceIte, reduceCtorEq, Nat.reduceEqDiff, Nat.reduceBEq, Nat.reduceAdd, Nat.reduceMul, Nat.reduceLeDiff, g1, g5, g12, g13, g14, hN, wsucc (show j < 4611686018427387904 by omega), hlt']
    refine ⟨((hE.new hb3 _).upd (hE.isNone hb3) _).upd hH2 _, ?_⟩
    rw [take_snoc hlt', bMap_snoc]; rfl
  have hj' : j = h.boiled.length := by omega
  subst hj'
  simp only [go_sem, reduceIte, reduceCtorEq, Nat.reduceEqDiff, Nat.reduceBEq, Nat.reduceAdd, Nat.reduceMul, Nat.reduceLeDiff, g1, g5, g12, g13, g14, hN, hlt]
  refine x_for more.length (fun j env H1 => Ext H H1 ∧ H1 b2 = some (.map (bMap (h.boiled ++ more.take j)) none) ∧ env 5 = .mptr b2 ∧ env 25 = .slice (more.map eB) ∧ env 26 = i6 more.length ∧ env 27 = i6 j ∧ env 35 = .any)
    ⟨hE, by rw [hM]; simp, by simp [upd_at, g5], by simp [upd_at], by simp [upd_at], by simp [upd_at], by simp [upd_at, hN]⟩ ?_
  rintro j env H1 hj ⟨hE, hM, g5, g25, g26, g27, hN⟩
  by_cases hlt : (j : Int) < (more.length : Int)
  · have hlt' : j < more.length := by omega
    simp only [go_sem, reduceIte, reduceCtorEq, Nat.reduceEqDiff, Nat.reduceBEq, Nat.reduceAdd, Nat.reduceMul, Nat.reduceLeDiff, g5, g25, g26, g27, hN, hlt, map_get (f := eB) hlt', eB]
    refine v_alloc fun b3 hb3 => ?_
    have hne3 : b2 ≠ b3 := fun h => by subst h; rw [hM] at hb3; cases hb3
    simp only [go_sem, reduceIte, reduceCtorEq, Nat.reduceEqDiff, Nat.reduceBEq, Nat.reduceAdd, Nat.reduceMul, Nat.reduceLeDiff, g5, g25, g26, g27, hN]
    rw [v_store]
    refine ⟨rfl, rfl, by simp [AV.cells, AV.isCell], _, updH_same _ _ _, by simp, ?_⟩
    simp only [go_sem, reduceIte, reduceCtorEq, Nat.reduceEqDiff, Nat.reduceBEq, Nat.reduceAdd, Nat.reduceMul, Nat.reduceLeDiff, g5, g25, g26, g27, hN, placeAt, List.append_nil, List.nil_append, List.drop_nil]
    refine v_mapupd rfl rfl (by rw [updH_ne _ _ hne3, updH_ne _ _ hne3]; exact hM) ?_
    simp only [go_sem, reduceIte, reduceCtorEq, Nat.reduceEqDiff, Nat.reduceBEq, Nat.reduceAdd, Nat.reduceMul, Nat.reduceLeDiff, g5, g25, g26, g27, hN, wsucc (show j < 4611686018427387904 by omega), hlt']
    refine ⟨((hE.new hb3 _).upd (hE.isNone hb3) _).upd hH2 _, ?_⟩
    rw [take_snoc hlt', ← List.append_assoc, bMap_snoc]; rfl
  · simp only [go_sem, reduceIte, reduceCtorEq, Nat.reduceEqDiff, Nat.reduceBEq, Nat.reduceAdd, Nat.reduceMul, Nat.reduceLeDiff, g5, g25, g26, g27, hN, hlt]
    have : j = more.length := by omega
    subst this
    refine fin_ret 4 (by simp [upd_at, hN]) ⟨_, H, ?_, rfl, rfl⟩
    simp only [upd_at, if_true]
    rw [List.take_length] at hM
    exact settle_map hM hE hH2
end Go.Lift

set_option linter.unusedSimpArgs false
set_option linter.unusedVariables false
namespace Go.Lift
open Go Go.Proofs
def lastAt (l : List Int) (i : Nat) : Int := if i = 0 then -1 else l.getD (i - 1) 0
def risingAt (l : List Int) (limit : Int) (i : Nat) : Bool := decide (IntKind.i64.wrap (lastAt l i + 1) ≤ l.getD i 0 ∧ l.getD i 0 ≤ IntKind.i64.wrap (limit - 1))
def risingOK (l : List Int) (limit : Int) : Bool := (List.range l.length).all (risingAt l limit)
theorem rising_c (l : List Int) (limit : Int) (hl : Sm l.length) : Pure Tryz.prog 106 [.slice (eI l), i6 limit] (.bool (risingOK l limit)) := by
  intro H
  unfold Sm at hl
  refine fn_of hmix fc106 (by simp) ?_
  rw [ienv2]
  simp only [go_sem, reduceIte, reduceCtorEq, Nat.reduceEqDiff, Nat.reduceBEq, Nat.reduceAdd, Nat.reduceMul, Nat.reduceLeDiff, ac106]
  refine x_for l.length (fun j env H1 => H1 = H ∧ env 1 = i6 limit ∧ env 5 = i6 (lastAt l j) ∧ env 8 = .slice (eI l) ∧ env 9 = i6 l.length ∧ env 10 = i6 j ∧ env 23 = .any ∧ ∀ i, i < j → risingAt l limit i = true)
    (by simp [upd_at, lastAt]) ?_
  rintro j env H1 hj ⟨rfl, g1, g5, g8, g9, g10, hN, hq⟩
  by_cases hlt : (j : Int) < (l.length : Int)
  · have hlt' : j < l.length := by omega
    have hget : l.getD j 0 = l[j] := by simp [hlt']
    simp only [go_sem, reduceIte, reduceCtorEq, Nat.reduceEqDiff, Nat.reduceBEq, Nat.reduceAdd, Nat.reduceMul, Nat.reduceLeDiff, g1, g5, g8, g9, g10, hN, hlt, eI_get hlt']
    refine (within_c l[j] _ _).go ?_
    cases hr : risingAt l limit j
    · have hr' := hr
      simp only [risingAt, hget] at hr'
      simp only [go_sem, reduceIte, reduceCtorEq, Nat.reduceEqDiff, Nat.reduceBEq, Nat.reduceAdd, Nat.reduceMul, Nat.reduceLeDiff, hr', g1, g5, g8, g9, g10, hN]
      refine fin_ret' 4 (by simp [upd_at, hN]) ?_
      simp only [upd_at, if_true, and_true, AV.bool.injEq]
      symm
      simp only [risingOK, List.all_eq_false]
      exact ⟨j, by simp [hlt'], by simp [hr]⟩
    · have hr' := hr
      simp only [risingAt, hget] at hr'
      simp only [go_sem, reduceIte, reduceCtorEq, Nat.reduceEqDiff, Nat.reduceBEq, Nat.reduceAdd, Nat.reduceMul, Nat.reduceLeDiff, hr', g1, g5, g8, g9, g10, hN, wsucc (show j < 4611686018427387904 by omega), hlt']
      refine ⟨by simp [lastAt, hlt'], fun i hi => ?_⟩
      rcases Nat.lt_or_ge i j with h' | h'
      · exact hq i h'
      · have : i = j := by omega
        subst this; exact hr
  · simp only [go_sem, reduceIte, reduceCtorEq, Nat.reduceEqDiff, Nat.reduceBEq, Nat.reduceAdd, Nat.reduceMul, Nat.reduceLeDiff, g1, g5, g8, g9, g10, hN, hlt]
    have : j = l.length := by omega
    subst this
    refine fin_ret' 4 (by simp [upd_at, hN]) ?_
    simp only [upd_at, if_true, and_true, AV.bool.injEq]
    symm
    simp only [risingOK, List.all_eq_true, List.mem_range]
    exact hq
theorem minimumS_c (a b : Int) : Pure Tryz.prog 138 [.slice [[i6 a], [i6 b]]] (i6 (if b < a then b else a)) := by
  intro H
  refine fn_of hmix fc138 (by simp) ?_
  rw [ienv1]
  simp only [go_sem, reduceIte, reduceCtorEq, Nat.reduceEqDiff, Nat.reduceBEq, Nat.reduceAdd, Nat.reduceMul, Nat.reduceLeDiff, ac138]
  refine (min2_c a b).go ?_
  simp only [go_sem, reduceIte, reduceCtorEq, Nat.reduceEqDiff, Nat.reduceBEq, Nat.reduceAdd, Nat.reduceMul, Nat.reduceLeDiff]
  refine fin_ret' 2 (by simp [upd_at]) ?_
  simp [upd_at]
end Go.Lift

