/- Part 21 of the proof: the tools and contracts. Conditions: none. -/
import Derived.Test.YthnfcdkiaihfcaaGreatP20
import Derived.Test.YthnfcdkiaihfcaaGreatProg
set_option maxRecDepth 100000
set_option linter.unusedVariables false
namespace Go.Lift
open Go Go.Proofs
def cert4 : Nat → Option Cert := fun _ => none
def ac4 : ACode :=(.seq
 (.ops [⟨some 1, .box, [.t 0], none⟩, ⟨some 2, .mov, [.c (.bool false)], none⟩])
 (.seq
 (.seq
 (.ops [⟨some 10, .load true 9, [.t 1], none⟩, ⟨some 11, .call 19, [.t 10], none⟩, ⟨some 12, .not, [.t 11], none⟩])
 (.cond (.t 12)
 (.seq
 (.ops [⟨some 13, .call 20, [], none⟩, ⟨some 2, .mov, [.t 13], none⟩]) .ret) .skip))
 (.seq
 (.ops [⟨some 15, .load true 9, [.t 1], none⟩, ⟨some 16, .call 22, [.t 15], none⟩, ⟨some 17, .call 29, [.t 16], none⟩, ⟨some 14, .mov, [.t 17], none⟩, ⟨some 18, .extract 0, [.t 14], none⟩, ⟨some 19, .extract 1, [.t 14], none⟩, ⟨some 3, .mov, [.t 18], none⟩, ⟨some 4, .mov, [.t 19], none⟩])
 (.seq
 (.ops [⟨some 21, .load true 9, [.t 1], none⟩, ⟨some 22, .call 22, [.t 21], none⟩, ⟨some 23, .call 30, [.t 22], none⟩, ⟨some 20, .mov, [.t 23], none⟩, ⟨some 24, .extract 0, [.t 20], none⟩, ⟨some 25, .extract 1, [.t 20], none⟩, ⟨some 5, .mov, [.t 24], none⟩, ⟨some 6, .mov, [.t 25], none⟩])
 (.seq
 (.seq
 (.ops [⟨some 26, .load true 9, [.t 1], none⟩, ⟨some 27, .call 31, [.t 26], none⟩, ⟨some 7, .mov, [.t 27], none⟩])
 (.seq
 (.ops [⟨some 28, .mov, [.t 7], none⟩, ⟨some 29, .bin .neq, [.t 28, .c (.int .i64 0)], none⟩])
 (.cond (.t 29)
 (.seq
 (.ops [⟨some 30, .mov, [.t 4], none⟩, ⟨some 31, .mov, [.t 7], none⟩, ⟨some 32, .bin .eql, [.t 30, .t 31], none⟩, ⟨some 33, .mov, [.t 32], none⟩, ⟨some 34, .mov, [.t 3], some (33, true)⟩, ⟨some 35, .bin .eql, [.t 34, .c (.int .i64 0)], some (33, true)⟩, ⟨some 36, .pick, [.t 33, .t 35, .c (.bool false)], none⟩, ⟨some 37, .mov, [.t 36], none⟩, ⟨some 38, .mov, [.t 6], some (37, true)⟩, ⟨some 39, .mov, [.t 7], some (37, true)⟩, ⟨some 40, .bin .eql, [.t 38, .t 39], some (37, true)⟩, ⟨some 41, .pick, [.t 37, .t 40, .c (.bool false)], none⟩, ⟨some 42, .mov, [.t 41], none⟩, ⟨some 43, .mov, [.t 5], some (42, true)⟩, ⟨some 44, .len, [.t 43], some (42, true)⟩, ⟨some 45, .bin .eql, [.t 44, .c (.int .i64 0)], some (42, true)⟩, ⟨some 46, .pick, [.t 42, .t 45, .c (.bool false)], none⟩, ⟨some 47, .mov, [.t 46], none⟩, ⟨some 48, .call 20, [], some (47, true)⟩, ⟨some 49, .pick, [.t 47, .t 48, .c (.bool false)], none⟩, ⟨some 2, .mov, [.t 49], none⟩]) .ret) .skip)))
 (.seq
 (.ops [⟨some 50, .load true 9, [.t 1], none⟩, ⟨some 51, .call 32, [.t 50], none⟩, ⟨some 8, .mov, [.t 51], none⟩])
 (.seq
 (.seq
 (.ops [⟨some 52, .mov, [.t 6], none⟩, ⟨some 53, .bin .neq, [.t 52, .c (.int .i64 0)], none⟩, ⟨some 54, .mov, [.t 53], none⟩, ⟨some 55, .mov, [.t 5], some (54, false)⟩, ⟨some 56, .load true 9, [.t 1], some (54, false)⟩, ⟨some 57, .mov, [.t 8], some (54, false)⟩, ⟨some 58, .call 33, [.t 56, .t 57], some (54, false)⟩, ⟨some 59, .call 28, [.t 55, .t 58], some (54, false)⟩, ⟨some 60, .not, [.t 59], some (54, false)⟩, ⟨some 61, .pick, [.t 54, .c (.bool true), .t 60], none⟩])
 (.cond (.t 61)
 (.seq
 (.ops [⟨some 2, .mov, [.c (.bool false)], none⟩]) .ret) .skip))
 (.seq
 (.ops [⟨some 62, .load true 9, [.t 1], none⟩, ⟨some 63, .mov, [.t 8], none⟩, ⟨some 64, .call 34, [.t 62, .t 63], none⟩, ⟨some 9, .mov, [.t 64], none⟩])
 (.seq
 (.seq
 (.ops [⟨some 65, .mov, [.t 9], none⟩, ⟨some 66, .bin .lss, [.t 65, .c (.int .i64 0)], none⟩])
 (.cond (.t 66)
 (.seq
 (.ops [⟨some 67, .mov, [.t 4], none⟩, ⟨some 68, .bin .eql, [.t 67, .c (.int .i64 7)], none⟩, ⟨some 69, .mov, [.t 68], none⟩, ⟨some 70, .mov, [.t 3], some (69, true)⟩, ⟨some 71, .bin .eql, [.t 70, .c (.int .i64 0)], some (69, true)⟩, ⟨some 72, .pick, [.t 69, .t 71, .c (.bool false)], none⟩, ⟨some 73, .mov, [.t 72], none⟩, ⟨some 74, .call 20, [], some (73, true)⟩, ⟨some 75, .pick, [.t 73, .t 74, .c (.bool false)], none⟩, ⟨some 2, .mov, [.t 75], none⟩]) .ret) .skip))
 (.seq
 (.ops [⟨some 76, .mov, [.t 4], none⟩, ⟨some 77, .bin .eql, [.t 76, .c (.int .i64 0)], none⟩, ⟨some 78, .mov, [.t 77], none⟩, ⟨some 79, .mov, [.t 3], some (78, true)⟩, ⟨some 80, .mov, [.t 9], some (78, true)⟩, ⟨some 81, .bin .eql, [.t 79, .t 80], some (78, true)⟩, ⟨some 82, .pick, [.t 78, .t 81, .c (.bool false)], none⟩, ⟨some 83, .mov, [.t 82], none⟩, ⟨some 84, .call 20, [], some (83, true)⟩, ⟨some 85, .pick, [.t 83, .t 84, .c (.bool false)], none⟩, ⟨some 2, .mov, [.t 85], none⟩]) .ret))))))))))
theorem fc4 : fnC Tryz.prog 4 cert4 = some (86, [.tmp 2], ac4) := by kernel_rfl
def cert19 : Nat → Option Cert := fun _ => none
def ac19 : ACode :=(.seq
 (.ops [⟨some 1, .box, [.t 0], none⟩, ⟨some 2, .mov, [.c (.bool false)], none⟩])
 (.seq
 (.ops [⟨some 3, .load true 9, [.t 1], none⟩, ⟨some 4, .call 64, [.t 3], none⟩, ⟨some 5, .mov, [.t 4], none⟩, ⟨some 6, .load true 9, [.t 1], some (5, true)⟩, ⟨some 7, .call 42, [.t 6], some (5, true)⟩, ⟨some 8, .bin .neq, [.t 7, .c (.int .i64 0)], some (5, true)⟩, ⟨some 9, .mov, [.t 8], some (5, true)⟩, ⟨some 10, .load true 9, [.t 1], some (9, false)⟩, ⟨some 11, .call 25, [.t 10], some (9, false)⟩, ⟨some 12, .bin .leq, [.t 11, .c (.int .i64 7)], some (9, false)⟩, ⟨some 13, .pick, [.t 9, .c (.bool true), .t 12], some (5, true)⟩, ⟨some 14, .pick, [.t 5, .t 13, .c (.bool false)], none⟩, ⟨some 2, .mov, [.t 14], none⟩]) .ret))
theorem fc19 : fnC Tryz.prog 19 cert19 = some (15, [.tmp 2], ac19) := by kernel_rfl
end Go.Lift
set_option maxRecDepth 100000
set_option linter.unusedVariables false
namespace Go.Lift
open Go Go.Proofs
def cert20 : Nat → Option Cert := fun _ => none
def ac20 : ACode :=(.seq
 (.ops [⟨some 0, .mov, [.c (.bool false)], none⟩])
 (.seq
 (.ops [⟨some 18, .call 74, [.c (.int .i64 0)], none⟩, ⟨some 19, .call 75, [.c (.int .i64 1), .c (.int .i64 0)], none⟩, ⟨some 20, .call 37, [.t 18, .t 19], none⟩, ⟨some 17, .mov, [.t 20], none⟩, ⟨some 21, .extract 0, [.t 17], none⟩, ⟨some 22, .extract 1, [.t 17], none⟩, ⟨some 1, .mov, [.t 21], none⟩, ⟨some 2, .mov, [.t 22], none⟩])
 (.seq
 (.ops [⟨some 24, .call 74, [.c (.int .i64 0)], none⟩, ⟨some 25, .call 21, [.t 24], none⟩, ⟨some 23, .mov, [.t 25], none⟩, ⟨some 26, .extract 0, [.t 23], none⟩, ⟨some 27, .extract 1, [.t 23], none⟩, ⟨some 3, .mov, [.t 26], none⟩, ⟨some 4, .mov, [.t 27], none⟩])
 (.seq
 (.ops [⟨some 29, .call 74, [.c (.int .i64 0)], none⟩, ⟨some 30, .call 23, [.t 29], none⟩, ⟨some 28, .mov, [.t 30], none⟩, ⟨some 31, .extract 0, [.t 28], none⟩, ⟨some 32, .extract 1, [.t 28], none⟩, ⟨some 5, .mov, [.t 31], none⟩, ⟨some 6, .mov, [.t 32], none⟩])
 (.seq
 (.ops [⟨some 34, .call 74, [.c (.int .i64 0)], none⟩, ⟨some 35, .call 44, [.t 34, .c (.int .i64 1)], none⟩, ⟨some 33, .mov, [.t 35], none⟩, ⟨some 36, .extract 0, [.t 33], none⟩, ⟨some 37, .extract 1, [.t 33], none⟩, ⟨some 7, .mov, [.t 36], none⟩, ⟨some 8, .mov, [.t 37], none⟩])
 (.seq
 (.ops [⟨some 39, .call 74, [.c (.int .i64 0)], none⟩, ⟨some 40, .call 58, [.t 39, .c (.int .i64 1)], none⟩, ⟨some 38, .mov, [.t 40], none⟩, ⟨some 41, .extract 0, [.t 38], none⟩, ⟨some 42, .extract 1, [.t 38], none⟩, ⟨some 9, .mov, [.t 41], none⟩, ⟨some 10, .mov, [.t 42], none⟩])
 (.seq
 (.ops [⟨some 44, .call 74, [.c (.int .i64 1)], none⟩, ⟨some 45, .call 44, [.t 44, .c (.int .i64 1)], none⟩, ⟨some 43, .mov, [.t 45], none⟩, ⟨some 46, .extract 0, [.t 43], none⟩, ⟨some 47, .extract 1, [.t 43], none⟩, ⟨some 11, .mov, [.t 46], none⟩, ⟨some 12, .mov, [.t 47], none⟩])
 (.seq
 (.ops [⟨some 49, .call 74, [.c (.int .i64 2)], none⟩, ⟨some 50, .call 29, [.t 49], none⟩, ⟨some 48, .mov, [.t 50], none⟩, ⟨some 51, .extract 0, [.t 48], none⟩, ⟨some 52, .extract 1, [.t 48], none⟩, ⟨some 13, .mov, [.t 51], none⟩, ⟨some 14, .mov, [.t 52], none⟩])
 (.seq
 (.ops [⟨some 54, .call 74, [.c (.int .i64 2)], none⟩, ⟨some 55, .call 30, [.t 54], none⟩, ⟨some 53, .mov, [.t 55], none⟩, ⟨some 56, .extract 0, [.t 53], none⟩, ⟨some 57, .extract 1, [.t 53], none⟩, ⟨some 15, .mov, [.t 56], none⟩, ⟨some 16, .mov, [.t 57], none⟩])
 (.seq
 (.ops [⟨some 58, .mov, [.t 2], none⟩, ⟨some 59, .bin .eql, [.t 58, .c (.int .i64 0)], none⟩, ⟨some 60, .mov, [.t 59], none⟩, ⟨some 61, .mov, [.t 1], some (60, true)⟩, ⟨some 62, .bslice 1, [.c (.int .i64 3), .c (.int .i64 4)], some (60, true)⟩, ⟨some 63, .call 28, [.t 61, .t 62], some (60, true)⟩, ⟨some 64, .pick, [.t 60, .t 63, .c (.bool false)], none⟩, ⟨some 65, .mov, [.t 64], none⟩, ⟨some 66, .mov, [.t 4], some (65, true)⟩, ⟨some 67, .bin .eql, [.t 66, .c (.int .i64 0)], some (65, true)⟩, ⟨some 68, .pick, [.t 65, .t 67, .c (.bool false)], none⟩, ⟨some 69, .mov, [.t 68], none⟩, ⟨some 70, .mov, [.t 3], some (69, true)⟩, ⟨some 71, .bslice 1, [.c (.int .i64 3), .c (.int .i64 3), .c (.int .i64 2), .c (.int .i64 1), .c (.int .i64 1)], some (69, true)⟩, ⟨some 72, .call 28, [.t 70, .t 71], some (69, true)⟩, ⟨some 73, .pick, [.t 69, .t 72, .c (.bool false)], none⟩, ⟨some 74, .mov, [.t 73], none⟩, ⟨some 75, .mov, [.t 6], some (74, true)⟩, ⟨some 76, .bin .eql, [.t 75, .c (.int .i64 0)], some (74, true)⟩, ⟨some 77, .pick, [.t 74, .t 76, .c (.bool false)], none⟩, ⟨some 78, .mov, [.t 77], none⟩, ⟨some 79, .mov, [.t 5], some (78, true)⟩, ⟨some 80, .bslice 1, [.c (.int .i64 0), .c (.int .i64 1)], some (78, true)⟩, ⟨some 81, .call 28, [.t 79, .t 80], some (78, true)⟩, ⟨some 82, .pick, [.t 78, .t 81, .c (.bool false)], none⟩, ⟨some 83, .mov, [.t 82], none⟩, ⟨some 84, .mov, [.t 8], some (83, true)⟩, ⟨some 85, .bin .eql, [.t 84, .c (.int .i64 0)], some (83, true)⟩, ⟨some 86, .pick, [.t 83, .t 85, .c (.bool false)], none⟩, ⟨some 87, .mov, [.t 86], none⟩, ⟨some 88, .mov, [.t 7], some (87, true)⟩, ⟨some 89, .bslice 1, [.c (.int .i64 0), .c (.int .i64 3), .c (.int .i64 4)], some (87, true)⟩, ⟨some 90, .call 28, [.t 88, .t 89], some (87, true)⟩, ⟨some 91, .pick, [.t 87, .t 90, .c (.bool false)], none⟩, ⟨some 92, .mov, [.t 91], none⟩, ⟨some 93, .mov, [.t 10], some (92, true)⟩, ⟨some 94, .bin .eql, [.t 93, .c (.int .i64 0)], some (92, true)⟩, ⟨some 95, .pick, [.t 92, .t 94, .c (.bool false)], none⟩, ⟨some 96, .mov, [.t 95], none⟩, ⟨some 97, .mov, [.t 9], some (96, true)⟩, ⟨some 98, .bslice 1, [.c (.int .i64 0), .c (.int .i64 0)], some (96, true)⟩, ⟨some 99, .call 28, [.t 97, .t 98], some (96, true)⟩, ⟨some 100, .pick, [.t 96, .t 99, .c (.bool false)], none⟩, ⟨some 101, .mov, [.t 100], none⟩, ⟨some 102, .mov, [.t 12], some (101, true)⟩, ⟨some 103, .bin .eql, [.t 102, .c (.int .i64 0)], some (101, true)⟩, ⟨some 104, .pick, [.t 101, .t 103, .c (.bool false)], none⟩, ⟨some 105, .mov, [.t 104], none⟩, ⟨some 106, .mov, [.t 11], some (105, true)⟩, ⟨some 107, .len, [.t 106], some (105, true)⟩, ⟨some 108, .bin .eql, [.t 107, .c (.int .i64 0)], some (105, true)⟩, ⟨some 109, .pick, [.t 105, .t 108, .c (.bool false)], none⟩, ⟨some 110, .mov, [.t 109], none⟩, ⟨some 111, .mov, [.t 14], some (110, true)⟩, ⟨some 112, .bin .eql, [.t 111, .c (.int .i64 0)], some (110, true)⟩, ⟨some 113, .pick, [.t 110, .t 112, .c (.bool false)], none⟩, ⟨some 114, .mov, [.t 113], none⟩, ⟨some 115, .mov, [.t 13], some (114, true)⟩, ⟨some 116, .bin .eql, [.t 115, .c (.int .i64 1)], some (114, true)⟩, ⟨some 117, .pick, [.t 114, .t 116, .c (.bool false)], none⟩, ⟨some 118, .mov, [.t 117], none⟩, ⟨some 119, .mov, [.t 16], some (118, true)⟩, ⟨some 120, .bin .eql, [.t 119, .c (.int .i64 0)], some (118, true)⟩, ⟨some 121, .pick, [.t 118, .t 120, .c (.bool false)], none⟩, ⟨some 122, .mov, [.t 121], none⟩, ⟨some 123, .mov, [.t 15], some (122, true)⟩, ⟨some 124, .bslice 1, [.c (.int .i64 0)], some (122, true)⟩, ⟨some 125, .call 28, [.t 123, .t 124], some (122, true)⟩, ⟨some 126, .pick, [.t 122, .t 125, .c (.bool false)], none⟩, ⟨some 0, .mov, [.t 126], none⟩]) .ret))))))))))
theorem fc20 : fnC Tryz.prog 20 cert20 = some (127, [.tmp 0], ac20) := by kernel_rfl
def cert21 : Nat → Option Cert := fun _ => none
def ac21 : ACode :=(.seq
 (.ops [⟨some 1, .box, [.t 0], none⟩, ⟨some 2, .mov, [.c .emp], none⟩, ⟨some 3, .mov, [.c (.int .i64 0)], none⟩])
 (.seq
 (.ops [⟨some 9, .load true 9, [.t 1], none⟩, ⟨some 10, .call 76, [.t 9, .c (.bool true)], none⟩, ⟨some 8, .mov, [.t 10], none⟩, ⟨some 11, .extract 0, [.t 8], none⟩, ⟨some 12, .extract 1, [.t 8], none⟩, ⟨some 4, .mov, [.t 11], none⟩, ⟨some 5, .mov, [.t 12], none⟩])
 (.seq
 (.seq
 (.ops [⟨some 13, .mov, [.t 5], none⟩, ⟨some 14, .bin .neq, [.t 13, .c (.int .i64 0)], none⟩])
 (.cond (.t 14)
 (.seq
 (.ops [⟨some 15, .mov, [.t 5], none⟩, ⟨some 2, .mov, [.c .emp], none⟩, ⟨some 3, .mov, [.t 15], none⟩]) .ret) .skip))
 (.seq
 (.ops [⟨some 6, .mov, [.c .emp], none⟩])
 (.seq
 (.seq
 (.ops [⟨some 16, .load true 9, [.t 1], none⟩, ⟨some 17, .call 77, [.t 16], none⟩, ⟨some 18, .mov, [.c (.int .i64 0)], none⟩])
 (.block 0
 (.loop
 (.seq
 (.ops [⟨some 19, .bin .lss, [.t 18, .t 17], none⟩])
 (.seq
 (.cond (.t 19) .skip (.exit 0))
 (.seq
 (.block 1
 (.seq
 (.ops [⟨some 20, .mov, [.t 18], none⟩, ⟨some 7, .mov, [.t 20], none⟩])
 (.ops [⟨some 21, .mov, [.t 6], none⟩, ⟨some 22, (.build [.nilf] [(0, 1)]), [(.c (.func (.func 78) [] []))], none⟩, ⟨some 23, .mov, [.t 4], none⟩, ⟨some 24, .mov, [.t 7], none⟩, ⟨some 25, .call 79, [.t 22, .t 23, .t 24], none⟩, ⟨some 26, .bslice 1, [.t 25], none⟩, ⟨some 27, .append 1 8, [.t 21, .t 26], none⟩, ⟨some 6, .mov, [.t 27], none⟩])))
 (.ops [⟨some 28, .bin .add, [.t 18, .c (.int .i64 1)], none⟩, ⟨some 18, .mov, [.t 28], none⟩])))))))
 (.seq
 (.ops [⟨some 29, .mov, [.t 6], none⟩, ⟨some 2, .mov, [.t 29], none⟩, ⟨some 3, .mov, [.c (.int .i64 0)], none⟩]) .ret))))))
theorem fc21 : fnC Tryz.prog 21 cert21 = some (30, [.tmp 2, .tmp 3], ac21) := by kernel_rfl
def cert22 : Nat → Option Cert := fun
  | 1 => some ⟨[0, 1, 2, 3, 4, 5, 6, 7, 8, 9, 10], (.one 11 (.one 12 .done)), [[], [0], [0, 1], [], [3], [0, 1, 2, 3, 4], [], [6], [], [8], [0, 1, 2, 3, 4, 5, 6, 7, 8, 9], [], [0, 1, 2, 3, 4, 5, 6, 7, 8, 9, 10, 11]]⟩
  | 10 => some ⟨[0, 1, 2, 3, 4, 5, 6, 7, 8, 9, 10, 11, 12, 13, 14, 15], (.one 16 (.one 17 (.one 18 .done))), [[], [0], [], [2], [], [2, 3, 4], [2, 3, 4, 5], [2, 3, 4, 5, 6], [], [8], [], [8, 9, 10], [8, 9, 10, 11], [8, 9, 10, 11, 12], [2, 3, 4, 5, 6, 7, 8, 9, 10, 11, 12, 13], [2, 3, 4, 5, 6, 7, 8, 9, 10, 11, 12, 13, 14], [0, 1, 2, 3, 4, 5, 6, 7, 8, 9, 10, 11, 12, 13, 14, 15], [0, 1, 2, 3, 4, 5, 6, 7, 8, 9, 10, 11, 12, 13, 14, 15, 16], [0, 1, 2, 3, 4, 5, 6, 7, 8, 9, 10, 11, 12, 13, 14, 15, 16, 17]]⟩
  | 14 => some ⟨[0, 1, 2, 3, 4, 5, 6, 7, 8, 9, 10, 11, 12, 13, 14, 15], (.one 16 (.one 17 (.one 18 .done))), [[], [0], [], [2], [], [2, 3, 4], [2, 3, 4, 5], [2, 3, 4, 5, 6], [], [8], [], [8, 9, 10], [8, 9, 10, 11], [8, 9, 10, 11, 12], [2, 3, 4, 5, 6, 7, 8, 9, 10, 11, 12, 13], [2, 3, 4, 5, 6, 7, 8, 9, 10, 11, 12, 13, 14], [0, 1, 2, 3, 4, 5, 6, 7, 8, 9, 10, 11, 12, 13, 14, 15], [0, 1, 2, 3, 4, 5, 6, 7, 8, 9, 10, 11, 12, 13, 14, 15, 16], [0, 1, 2, 3, 4, 5, 6, 7, 8, 9, 10, 11, 12, 13, 14, 15, 16, 17]]⟩
  | _ => none
def ac22 : ACode :=(.seq
 (.ops [⟨some 1, .box, [.t 0], none⟩, ⟨some 2, (.alloc [.emp, .emp, (.int .i64 0), .emp, (.int .i64 0), (.int .i64 0), .emp, .emp, .emp]), [], none⟩])
 (.seq
 (.draw [(true, ⟨some 8, .fieldaddr 0, [.t 1], none⟩), (true, ⟨some 9, .load true 3, [.t 8], none⟩), (true, ⟨some 10, .call 46, [.t 9], none⟩), (true, ⟨some 11, .fieldaddr 3, [.t 1], none⟩), (true, ⟨some 12, .load false 1, [.t 11], none⟩), (true, ⟨some 13, .call 39, [.t 12], none⟩), (true, ⟨some 14, .fieldaddr 4, [.t 1], none⟩), (true, ⟨some 15, .load false 1, [.t 14], none⟩), (true, ⟨some 16, .fieldaddr 5, [.t 1], none⟩), (true, ⟨some 17, .load false 1, [.t 16], none⟩), (true, ⟨some 18, (.build [.emp, .emp, (.int .i64 0), .emp, (.int .i64 0), (.int .i64 0), .emp, .emp, .emp] [(0, 3), (3, 1), (4, 1), (5, 1)]), [.t 10, .t 13, .t 15, .t 17], none⟩)] (.one ⟨some 3, (.alloc [.emp, .emp, (.int .i64 0), .emp, (.int .i64 0), (.int .i64 0), .emp, .emp, .emp]), [], none⟩ [⟨some 9, .load true 3, [.t 8], none⟩, ⟨some 12, .load false 1, [.t 11], none⟩, ⟨some 15, .load false 1, [.t 14], none⟩, ⟨some 17, .load false 1, [.t 16], none⟩] (.one ⟨none, .store 9, [.t 3, .t 18], none⟩ [] .done)))
 (.seq
 (.seq
 (.ops [⟨some 4, .mov, [.c (.int .i64 0)], none⟩])
 (.block 0
 (.loop
 (.seq
 (.seq
 (.ops [⟨some 19, .mov, [.t 4], none⟩, ⟨some 20, .fieldaddr 6, [.t 1], none⟩, ⟨some 21, .load false 1, [.t 20], none⟩, ⟨some 22, .len, [.t 21], none⟩, ⟨some 23, .bin .lss, [.t 19, .t 22], none⟩])
 (.cond (.t 23) .skip (.exit 0)))
 (.seq
 (.block 1
 (.seq
 (.ops [⟨some 26, .fieldaddr 6, [.t 1], none⟩, ⟨some 27, .load false 1, [.t 26], none⟩, ⟨some 28, .mov, [.t 4], none⟩, ⟨some 29, .idxaddr 4, [.t 27, .t 28], none⟩, ⟨some 30, .load true 4, [.t 29], none⟩, ⟨some 5, (.alloc [(.int .i64 0), (.int .i64 0), (.int .i64 0), (.int .i64 0)]), [], none⟩, ⟨none, .store 4, [.t 5, .t 30], none⟩])
 (.ops [⟨some 31, .fieldaddr 6, [.t 3], none⟩, ⟨some 32, .load false 1, [.t 31], none⟩, ⟨some 33, .fieldaddr 0, [.t 5], none⟩, ⟨some 34, .load false 1, [.t 33], none⟩, ⟨some 35, .fieldaddr 1, [.t 5], none⟩, ⟨some 36, .load false 1, [.t 35], none⟩, ⟨some 37, .fieldaddr 2, [.t 5], none⟩, ⟨some 38, .fieldaddr 0, [.t 37], none⟩, ⟨some 39, .load false 1, [.t 38], none⟩, ⟨some 40, .fieldaddr 2, [.t 5], none⟩, ⟨some 41, .fieldaddr 1, [.t 40], none⟩, ⟨some 42, .load false 1, [.t 41], none⟩, ⟨some 43, (.build [(.int .i64 0), (.int .i64 0)] [(0, 1), (1, 1)]), [.t 39, .t 42], none⟩, ⟨some 44, (.build [(.int .i64 0), (.int .i64 0), (.int .i64 0), (.int .i64 0)] [(0, 1), (1, 1), (2, 2)]), [.t 34, .t 36, .t 43], none⟩, ⟨some 45, .bslice 4, [.t 44], none⟩, ⟨some 46, .append 4 32, [.t 32, .t 45], none⟩, ⟨some 47, .fieldaddr 6, [.t 3], none⟩, ⟨none, .store 1, [.t 47, .t 46], none⟩])))
 (.ops [⟨some 24, .mov, [.t 4], none⟩, ⟨some 25, .bin .add, [.t 24, .c (.int .i64 1)], none⟩, ⟨some 4, .mov, [.t 25], none⟩]))))))
 (.seq
 (.seq
 (.ops [⟨some 6, .mov, [.c (.int .i64 0)], none⟩])
 (.block 2
 (.loop
 (.seq
 (.seq
 (.ops [⟨some 48, .mov, [.t 6], none⟩, ⟨some 49, .fieldaddr 7, [.t 1], none⟩, ⟨some 50, .load false 1, [.t 49], none⟩, ⟨some 51, .len, [.t 50], none⟩, ⟨some 52, .bin .lss, [.t 48, .t 51], none⟩])
 (.cond (.t 52) .skip (.exit 2)))
 (.seq
 (.block 3
 (.draw [(false, ⟨some 55, .fieldaddr 7, [.t 3], none⟩), (false, ⟨some 56, .load false 1, [.t 55], none⟩), (false, ⟨some 57, .fieldaddr 7, [.t 1], none⟩), (false, ⟨some 58, .load false 1, [.t 57], none⟩), (false, ⟨some 59, .mov, [.t 6], none⟩), (false, ⟨some 60, .idxaddr 2, [.t 58, .t 59], none⟩), (false, ⟨some 61, .fieldaddr 0, [.t 60], none⟩), (false, ⟨some 62, .load false 1, [.t 61], none⟩), (false, ⟨some 63, .fieldaddr 7, [.t 1], none⟩), (false, ⟨some 64, .load false 1, [.t 63], none⟩), (false, ⟨some 65, .mov, [.t 6], none⟩), (false, ⟨some 66, .idxaddr 2, [.t 64, .t 65], none⟩), (false, ⟨some 67, .fieldaddr 1, [.t 66], none⟩), (false, ⟨some 68, .load false 1, [.t 67], none⟩), (false, ⟨some 69, (.build [(.int .i64 0), (.int .i64 0)] [(0, 1), (1, 1)]), [.t 62, .t 68], none⟩), (false, ⟨some 70, .bslice 2, [.t 69], none⟩)] (.one ⟨some 71, .append 2 16, [.t 56, .t 70], none⟩ [] (.one ⟨some 72, .fieldaddr 7, [.t 3], none⟩ [] (.one ⟨none, .store 1, [.t 72, .t 71], none⟩ [] .done)))))
 (.ops [⟨some 53, .mov, [.t 6], none⟩, ⟨some 54, .bin .add, [.t 53, .c (.int .i64 1)], none⟩, ⟨some 6, .mov, [.t 54], none⟩]))))))
 (.seq
 (.seq
 (.ops [⟨some 7, .mov, [.c (.int .i64 0)], none⟩])
 (.block 4
 (.loop
 (.seq
 (.seq
 (.ops [⟨some 73, .mov, [.t 7], none⟩, ⟨some 74, .fieldaddr 8, [.t 1], none⟩, ⟨some 75, .load false 1, [.t 74], none⟩, ⟨some 76, .len, [.t 75], none⟩, ⟨some 77, .bin .lss, [.t 73, .t 76], none⟩])
 (.cond (.t 77) .skip (.exit 4)))
 (.seq
 (.block 5
 (.draw [(false, ⟨some 80, .fieldaddr 8, [.t 3], none⟩), (false, ⟨some 81, .load false 1, [.t 80], none⟩), (false, ⟨some 82, .fieldaddr 8, [.t 1], none⟩), (false, ⟨some 83, .load false 1, [.t 82], none⟩), (false, ⟨some 84, .mov, [.t 7], none⟩), (false, ⟨some 85, .idxaddr 2, [.t 83, .t 84], none⟩), (false, ⟨some 86, .fieldaddr 0, [.t 85], none⟩), (false, ⟨some 87, .load false 1, [.t 86], none⟩), (false, ⟨some 88, .fieldaddr 8, [.t 1], none⟩), (false, ⟨some 89, .load false 1, [.t 88], none⟩), (false, ⟨some 90, .mov, [.t 7], none⟩), (false, ⟨some 91, .idxaddr 2, [.t 89, .t 90], none⟩), (false, ⟨some 92, .fieldaddr 1, [.t 91], none⟩), (false, ⟨some 93, .load false 1, [.t 92], none⟩), (false, ⟨some 94, (.build [(.int .i64 0), (.bool false)] [(0, 1), (1, 1)]), [.t 87, .t 93], none⟩), (false, ⟨some 95, .bslice 2, [.t 94], none⟩)] (.one ⟨some 96, .append 2 16, [.t 81, .t 95], none⟩ [] (.one ⟨some 97, .fieldaddr 8, [.t 3], none⟩ [] (.one ⟨none, .store 1, [.t 97, .t 96], none⟩ [] .done)))))
 (.ops [⟨some 78, .mov, [.t 7], none⟩, ⟨some 79, .bin .add, [.t 78, .c (.int .i64 1)], none⟩, ⟨some 7, .mov, [.t 79], none⟩]))))))
 (.seq
 (.ops [⟨some 98, .load true 9, [.t 3], none⟩, ⟨none, .store 9, [.t 2, .t 98], none⟩]) .ret))))))
theorem fc22 : fnC Tryz.prog 22 cert22 = some (99, [.cell 2 45], ac22) := by kernel_rfl
def cert23 : Nat → Option Cert := fun _ => none
def ac23 : ACode :=(.seq
 (.ops [⟨some 1, .box, [.t 0], none⟩, ⟨some 2, .mov, [.c .emp], none⟩, ⟨some 3, .mov, [.c (.int .i64 0)], none⟩])
 (.seq
 (.ops [⟨some 9, .load true 9, [.t 1], none⟩, ⟨some 10, .call 76, [.t 9, .c (.bool true)], none⟩, ⟨some 8, .mov, [.t 10], none⟩, ⟨some 11, .extract 0, [.t 8], none⟩, ⟨some 12, .extract 1, [.t 8], none⟩, ⟨some 4, .mov, [.t 11], none⟩, ⟨some 5, .mov, [.t 12], none⟩])
 (.seq
 (.seq
 (.ops [⟨some 13, .mov, [.t 5], none⟩, ⟨some 14, .bin .neq, [.t 13, .c (.int .i64 0)], none⟩])
 (.cond (.t 14)
 (.seq
 (.ops [⟨some 15, .mov, [.t 5], none⟩, ⟨some 2, .mov, [.c .emp], none⟩, ⟨some 3, .mov, [.t 15], none⟩]) .ret) .skip))
 (.seq
 (.ops [⟨some 6, .mov, [.c .emp], none⟩])
 (.seq
 (.seq
 (.ops [⟨some 16, .fieldaddr 0, [.t 1], none⟩, ⟨some 17, .fieldaddr 0, [.t 16], none⟩, ⟨some 18, .load false 1, [.t 17], none⟩, ⟨some 19, .len, [.t 18], none⟩, ⟨some 20, .mov, [.c (.int .i64 0)], none⟩])
 (.block 0
 (.loop
 (.seq
 (.ops [⟨some 21, .bin .lss, [.t 20, .t 19], none⟩])
 (.seq
 (.cond (.t 21) .skip (.exit 0))
 (.seq
 (.block 1
 (.seq
 (.ops [⟨some 22, .mov, [.t 20], none⟩, ⟨some 7, .mov, [.t 22], none⟩])
 (.seq
 (.ops [⟨some 23, (.build [.nilf] [(0, 1)]), [(.c (.func (.func 80) [] []))], none⟩, ⟨some 24, .mov, [.t 4], none⟩, ⟨some 25, .mov, [.t 7], none⟩, ⟨some 26, .call 79, [.t 23, .t 24, .t 25], none⟩, ⟨some 27, .bin .neq, [.t 26, .c (.int .i64 2)], none⟩])
 (.cond (.t 27)
 (.ops [⟨some 28, .mov, [.t 6], none⟩, ⟨some 29, .mov, [.t 7], none⟩, ⟨some 30, .bslice 1, [.t 29], none⟩, ⟨some 31, .append 1 8, [.t 28, .t 30], none⟩, ⟨some 6, .mov, [.t 31], none⟩]) .skip))))
 (.ops [⟨some 32, .bin .add, [.t 20, .c (.int .i64 1)], none⟩, ⟨some 20, .mov, [.t 32], none⟩])))))))
 (.seq
 (.ops [⟨some 33, .mov, [.t 6], none⟩, ⟨some 2, .mov, [.t 33], none⟩, ⟨some 3, .mov, [.c (.int .i64 0)], none⟩]) .ret))))))
theorem fc23 : fnC Tryz.prog 23 cert23 = some (34, [.tmp 2, .tmp 3], ac23) := by kernel_rfl
def cert25 : Nat → Option Cert := fun _ => none
def ac25 : ACode :=(.seq
 (.ops [⟨some 1, .box, [.t 0], none⟩, ⟨some 2, .mov, [.c (.int .i64 0)], none⟩])
 (.seq
 (.ops [⟨some 3, .fieldaddr 0, [.t 1], none⟩, ⟨some 4, .fieldaddr 1, [.t 3], none⟩, ⟨some 5, .load false 1, [.t 4], none⟩, ⟨some 6, .len, [.t 5], none⟩, ⟨some 7, .fieldaddr 4, [.t 1], none⟩, ⟨some 8, .load false 1, [.t 7], none⟩, ⟨some 9, .bin .add, [.t 6, .t 8], none⟩, ⟨some 2, .mov, [.t 9], none⟩]) .ret))
theorem fc25 : fnC Tryz.prog 25 cert25 = some (10, [.tmp 2], ac25) := by kernel_rfl
def cert28 : Nat → Option Cert := fun
  | 6 => some ⟨[0, 1, 2, 3, 4, 5, 6, 7, 8], .done, [[], [], [0, 1], [0, 1, 2], [], [], [4, 5], [4, 5, 6], [0, 1, 2, 3, 4, 5, 6, 7]]⟩
  | _ => none
def ac28 : ACode :=(.seq
 (.ops [⟨some 4, .mov, [.c (.bool false)], none⟩])
 (.seq
 (.seq
 (.ops [⟨some 6, .mov, [.t 0], none⟩, ⟨some 7, .len, [.t 6], none⟩, ⟨some 8, .mov, [.t 1], none⟩, ⟨some 9, .len, [.t 8], none⟩, ⟨some 10, .bin .neq, [.t 7, .t 9], none⟩])
 (.cond (.t 10)
 (.seq
 (.ops [⟨some 4, .mov, [.c (.bool false)], none⟩]) .ret) .skip))
 (.seq
 (.seq
 (.ops [⟨some 5, .mov, [.c (.int .i64 0)], none⟩])
 (.block 0
 (.loop
 (.seq
 (.seq
 (.ops [⟨some 11, .mov, [.t 5], none⟩, ⟨some 12, .mov, [.t 0], none⟩, ⟨some 13, .len, [.t 12], none⟩, ⟨some 14, .bin .lss, [.t 11, .t 13], none⟩])
 (.cond (.t 14) .skip (.exit 0)))
 (.seq
 (.block 1
 (.seq
 (.draw [(false, ⟨some 17, .mov, [.t 0], none⟩), (false, ⟨some 18, .mov, [.t 5], none⟩), (false, ⟨some 19, .idxaddr 1, [.t 17, .t 18], none⟩), (false, ⟨some 20, .load false 1, [.t 19], none⟩), (false, ⟨some 21, .mov, [.t 1], none⟩), (false, ⟨some 22, .mov, [.t 5], none⟩), (false, ⟨some 23, .idxaddr 1, [.t 21, .t 22], none⟩), (false, ⟨some 24, .load false 1, [.t 23], none⟩), (false, ⟨some 25, .bin .neq, [.t 20, .t 24], none⟩)] .done)
 (.cond (.t 25)
 (.seq
 (.ops [⟨some 4, .mov, [.c (.bool false)], none⟩]) .ret) .skip)))
 (.ops [⟨some 15, .mov, [.t 5], none⟩, ⟨some 16, .bin .add, [.t 15, .c (.int .i64 1)], none⟩, ⟨some 5, .mov, [.t 16], none⟩]))))))
 (.seq
 (.ops [⟨some 4, .mov, [.c (.bool true)], none⟩]) .ret))))
theorem fc28 : fnC Tryz.prog 28 cert28 = some (26, [.tmp 4], ac28) := by kernel_rfl
def cert29 : Nat → Option Cert := fun _ => none
def ac29 : ACode :=(.seq
 (.ops [⟨some 1, .box, [.t 0], none⟩, ⟨some 2, .mov, [.c (.int .i64 0)], none⟩, ⟨some 3, .mov, [.c (.int .i64 0)], none⟩])
 (.seq
 (.seq
 (.ops [⟨some 7, .load true 9, [.t 1], none⟩, ⟨some 8, .call 66, [.t 7], none⟩, ⟨some 4, .mov, [.t 8], none⟩])
 (.seq
 (.ops [⟨some 9, .mov, [.t 4], none⟩, ⟨some 10, .bin .neq, [.t 9, .c (.int .i64 0)], none⟩])
 (.cond (.t 10)
 (.seq
 (.ops [⟨some 11, .mov, [.t 4], none⟩, ⟨some 2, .mov, [.c (.int .i64 0)], none⟩, ⟨some 3, .mov, [.t 11], none⟩]) .ret) .skip)))
 (.seq
 (.ops [⟨some 12, .load true 9, [.t 1], none⟩, ⟨some 5, (.alloc [.emp, .emp, (.int .i64 0), .emp, (.int .i64 0), (.int .i64 0), .emp, .emp, .emp]), [], none⟩, ⟨none, .store 9, [.t 5, .t 12], none⟩])
 (.seq
 (.seq
 (.ops [⟨some 13, .fieldaddr 8, [.t 1], none⟩, ⟨some 14, .load false 1, [.t 13], none⟩, ⟨some 15, .len, [.t 14], none⟩, ⟨some 16, .mov, [.c (.int .i64 0)], none⟩])
 (.block 0
 (.loop
 (.seq
 (.ops [⟨some 17, .bin .lss, [.t 16, .t 15], none⟩])
 (.seq
 (.cond (.t 17) .skip (.exit 0))
 (.seq
 (.block 1
 (.seq
 (.ops [⟨some 18, .mov, [.t 16], none⟩, ⟨some 6, .mov, [.t 18], none⟩])
 (.seq
 (.ops [⟨some 19, .fieldaddr 8, [.t 1], none⟩, ⟨some 20, .load false 1, [.t 19], none⟩, ⟨some 21, .mov, [.t 6], none⟩, ⟨some 22, .bin .add, [.t 21, .c (.int .i64 1)], none⟩, ⟨some 23, .sub 2, [.t 20, .t 22], none⟩, ⟨some 24, .fieldaddr 8, [.t 5], none⟩, ⟨none, .store 1, [.t 24, .t 23], none⟩])
 (.seq
 (.ops [⟨some 25, .load true 9, [.t 5], none⟩, ⟨some 26, .call 83, [.t 25, .c .emp], none⟩, ⟨some 27, .not, [.t 26], none⟩])
 (.cond (.t 27)
 (.seq
 (.ops [⟨some 28, .mov, [.t 6], none⟩, ⟨some 2, .mov, [.t 28], none⟩, ⟨some 3, .mov, [.c (.int .i64 0)], none⟩]) .ret) .skip)))))
 (.ops [⟨some 29, .bin .add, [.t 16, .c (.int .i64 1)], none⟩, ⟨some 16, .mov, [.t 29], none⟩])))))))
 (.seq
 (.ops [⟨some 2, .mov, [.c (.int .i64 0)], none⟩, ⟨some 3, .mov, [.c (.int .i64 7)], none⟩]) .ret)))))
theorem fc29 : fnC Tryz.prog 29 cert29 = some (30, [.tmp 2, .tmp 3], ac29) := by kernel_rfl
def cert30 : Nat → Option Cert := fun _ => none
def ac30 : ACode :=(.seq
 (.ops [⟨some 1, .box, [.t 0], none⟩, ⟨some 2, .mov, [.c .emp], none⟩, ⟨some 3, .mov, [.c (.int .i64 0)], none⟩])
 (.seq
 (.seq
 (.ops [⟨some 8, .load true 9, [.t 1], none⟩, ⟨some 9, .call 66, [.t 8], none⟩, ⟨some 4, .mov, [.t 9], none⟩])
 (.seq
 (.ops [⟨some 10, .mov, [.t 4], none⟩, ⟨some 11, .bin .neq, [.t 10, .c (.int .i64 0)], none⟩])
 (.cond (.t 11)
 (.seq
 (.ops [⟨some 12, .mov, [.t 4], none⟩, ⟨some 2, .mov, [.c .emp], none⟩, ⟨some 3, .mov, [.t 12], none⟩]) .ret) .skip)))
 (.seq
 (.ops [⟨some 5, (.alloc [.emp]), [], none⟩])
 (.seq
 (.ops [⟨some 6, (.alloc [.nilf]), [], none⟩])
 (.seq
 (.ops [⟨some 13, (.mkfunc (.func 84) 0), [.t 5, .t 1, .t 6], none⟩, ⟨none, .store 1, [.t 6, .t 13], none⟩])
 (.seq
 (.seq
 (.ops [⟨some 14, .fieldaddr 8, [.t 1], none⟩, ⟨some 15, .load false 1, [.t 14], none⟩, ⟨some 16, .len, [.t 15], none⟩, ⟨some 17, .bin .add, [.t 16, .c (.int .i64 1)], none⟩, ⟨some 18, .mov, [.c (.int .i64 0)], none⟩])
 (.block 0
 (.loop
 (.seq
 (.ops [⟨some 19, .bin .lss, [.t 18, .t 17], none⟩])
 (.seq
 (.cond (.t 19) .skip (.exit 0))
 (.seq
 (.block 1
 (.seq
 (.ops [⟨some 20, .mov, [.t 18], none⟩, ⟨some 7, .mov, [.t 20], none⟩])
 (.seq
 (.ops [⟨some 21, .load false 1, [.t 6], none⟩, ⟨some 22, .mov, [.t 7], none⟩, ⟨some 23, .callv, [.t 21, .c .emp, .c (.int .i64 0), .t 22], none⟩])
 (.cond (.t 23) (.exit 0) .skip))))
 (.ops [⟨some 24, .bin .add, [.t 18, .c (.int .i64 1)], none⟩, ⟨some 18, .mov, [.t 24], none⟩])))))))
 (.seq
 (.ops [⟨some 25, .load false 1, [.t 5], none⟩, ⟨some 2, .mov, [.t 25], none⟩, ⟨some 3, .mov, [.c (.int .i64 0)], none⟩]) .ret)))))))
theorem fc30 : fnC Tryz.prog 30 cert30 = some (26, [.tmp 2, .tmp 3], ac30) := by kernel_rfl
def cert31 : Nat → Option Cert := fun _ => none
def ac31 : ACode :=(.seq
 (.ops [⟨some 1, .box, [.t 0], none⟩, ⟨some 2, .mov, [.c (.int .i64 0)], none⟩])
 (.seq
 (.ops [⟨some 3, .load true 9, [.t 1], none⟩, ⟨some 4, .call 42, [.t 3], none⟩, ⟨some 2, .mov, [.t 4], none⟩]) .ret))
theorem fc31 : fnC Tryz.prog 31 cert31 = some (5, [.tmp 2], ac31) := by kernel_rfl
def cert32 : Nat → Option Cert := fun
  | 6 => some ⟨[0, 1, 2, 3, 4, 5, 6, 7], (.one 8 (.one 9 .done)), [[], [], [], [], [2, 3], [2, 3, 4], [1, 2, 3, 4, 5], [1, 2, 3, 4, 5, 6], [0, 1, 2, 3, 4, 5, 6, 7], [0, 1, 2, 3, 4, 5, 6, 7, 8]]⟩
  | _ => none
def ac32 : ACode :=(.seq
 (.ops [⟨some 1, .box, [.t 0], none⟩, ⟨some 2, .mov, [.c .emp], none⟩])
 (.seq
 (.ops [⟨some 3, .mov, [.c .emp], none⟩])
 (.seq
 (.ops [⟨some 6, .load true 9, [.t 1], none⟩, ⟨some 7, .call 36, [.t 6], none⟩, ⟨some 4, .mov, [.t 7], none⟩])
 (.seq
 (.seq
 (.ops [⟨some 5, .mov, [.c (.int .i64 0)], none⟩])
 (.block 0
 (.loop
 (.seq
 (.seq
 (.ops [⟨some 8, .mov, [.t 5], none⟩, ⟨some 9, .mov, [.t 4], none⟩, ⟨some 10, .len, [.t 9], none⟩, ⟨some 11, .bin .lss, [.t 8, .t 10], none⟩])
 (.cond (.t 11) .skip (.exit 0)))
 (.seq
 (.block 1
 (.draw [(false, ⟨some 14, .mov, [.t 3], none⟩), (false, ⟨some 15, .load true 9, [.t 1], none⟩), (false, ⟨some 16, .mov, [.t 4], none⟩), (false, ⟨some 17, .mov, [.t 5], none⟩), (false, ⟨some 18, .idxaddr 2, [.t 16, .t 17], none⟩), (false, ⟨some 19, .load true 2, [.t 18], none⟩), (false, ⟨some 20, .call 86, [.t 15, .t 19], none⟩), (false, ⟨some 21, .bslice 1, [.t 20], none⟩)] (.one ⟨some 22, .append 1 8, [.t 14, .t 21], none⟩ [] (.one ⟨some 3, .mov, [.t 22], none⟩ [] .done))))
 (.ops [⟨some 12, .mov, [.t 5], none⟩, ⟨some 13, .bin .add, [.t 12, .c (.int .i64 1)], none⟩, ⟨some 5, .mov, [.t 13], none⟩]))))))
 (.seq
 (.ops [⟨some 23, .mov, [.t 3], none⟩, ⟨some 2, .mov, [.t 23], none⟩]) .ret)))))
theorem fc32 : fnC Tryz.prog 32 cert32 = some (24, [.tmp 2], ac32) := by kernel_rfl
def cert33 : Nat → Option Cert := fun _ => none
def ac33 : ACode :=(.seq
 (.ops [⟨some 2, .box, [.t 0], none⟩, ⟨some 4, .mov, [.c .emp], none⟩])
 (.seq
 (.ops [⟨some 8, .load true 9, [.t 2], none⟩, ⟨some 9, .call 49, [.t 8], none⟩, ⟨some 10, .call 51, [.t 9], none⟩, ⟨some 5, .mov, [.t 10], none⟩])
 (.seq
 (.seq
 (.ops [⟨some 6, .mov, [.c (.int .i64 0)], none⟩])
 (.block 0
 (.loop
 (.seq
 (.seq
 (.ops [⟨some 11, .mov, [.t 6], none⟩, ⟨some 12, .load true 9, [.t 2], none⟩, ⟨some 13, .call 49, [.t 12], none⟩, ⟨some 14, .bin .leq, [.t 11, .t 13], none⟩])
 (.cond (.t 14) .skip (.exit 0)))
 (.seq
 (.block 1
 (.seq
 (.ops [⟨some 17, .mov, [.t 6], none⟩, ⟨some 18, .call 51, [.t 17], none⟩, ⟨some 7, .mov, [.t 18], none⟩])
 (.seq
 (.ops [⟨some 19, .mov, [.t 7], none⟩, ⟨some 20, .mov, [.t 5], none⟩, ⟨some 21, .call 50, [.t 19, .t 20], none⟩, ⟨some 22, .mov, [.t 21], none⟩, ⟨some 23, .mov, [.t 1], some (22, true)⟩, ⟨some 24, .load true 9, [.t 2], some (22, true)⟩, ⟨some 25, .call 49, [.t 24], some (22, true)⟩, ⟨some 26, .mov, [.t 6], some (22, true)⟩, ⟨some 27, .bin .andNot, [.t 25, .t 26], some (22, true)⟩, ⟨some 28, .call 87, [.t 23, .t 27], some (22, true)⟩, ⟨some 29, .pick, [.t 22, .t 28, .c (.bool false)], none⟩])
 (.cond (.t 29)
 (.ops [⟨some 30, .mov, [.t 7], none⟩, ⟨some 5, .mov, [.t 30], none⟩]) .skip))))
 (.ops [⟨some 15, .mov, [.t 6], none⟩, ⟨some 16, .bin .add, [.t 15, .c (.int .i64 1)], none⟩, ⟨some 6, .mov, [.t 16], none⟩]))))))
 (.seq
 (.ops [⟨some 31, .mov, [.t 5], none⟩, ⟨some 4, .mov, [.t 31], none⟩]) .ret))))
theorem fc33 : fnC Tryz.prog 33 cert33 = some (32, [.tmp 4], ac33) := by kernel_rfl
def cert34 : Nat → Option Cert := fun _ => none
def ac34 : ACode :=(.seq
 (.ops [⟨some 2, .box, [.t 0], none⟩, ⟨some 4, .mov, [.c (.int .i64 0)], none⟩])
 (.seq
 (.seq
 (.ops [⟨some 5, .mov, [.c (.int .i64 0)], none⟩])
 (.block 0
 (.loop
 (.seq
 (.seq
 (.ops [⟨some 6, .mov, [.t 5], none⟩, ⟨some 7, .fieldaddr 8, [.t 2], none⟩, ⟨some 8, .load false 1, [.t 7], none⟩, ⟨some 9, .len, [.t 8], none⟩, ⟨some 10, .bin .lss, [.t 6, .t 9], none⟩])
 (.cond (.t 10) .skip (.exit 0)))
 (.seq
 (.block 1
 (.seq
 (.ops [⟨some 13, .mov, [.t 1], none⟩, ⟨some 14, .mov, [.t 5], none⟩, ⟨some 15, .conv .u64, [.t 14], none⟩, ⟨some 16, .bin .shl, [.c (.int .i64 2), .t 15], none⟩, ⟨some 17, .bin .sub, [.t 16, .c (.int .i64 1)], none⟩, ⟨some 18, .call 87, [.t 13, .t 17], none⟩, ⟨some 19, .not, [.t 18], none⟩])
 (.cond (.t 19)
 (.seq
 (.ops [⟨some 20, .mov, [.t 5], none⟩, ⟨some 4, .mov, [.t 20], none⟩]) .ret) .skip)))
 (.ops [⟨some 11, .mov, [.t 5], none⟩, ⟨some 12, .bin .add, [.t 11, .c (.int .i64 1)], none⟩, ⟨some 5, .mov, [.t 12], none⟩]))))))
 (.seq
 (.ops [⟨some 4, .mov, [(.c (.int .i64 (-1)))], none⟩]) .ret)))
theorem fc34 : fnC Tryz.prog 34 cert34 = some (21, [.tmp 4], ac34) := by kernel_rfl
def cert36 : Nat → Option Cert := fun
  | 9 => some ⟨[0, 1, 2, 3, 4, 5, 6, 7, 8, 9], (.one 10 (.one 11 .done)), [[], [], [], [1, 2], [1, 2, 3], [], [], [5, 6], [1, 2, 3, 4, 5, 6, 7], [1, 2, 3, 4, 5, 6, 7, 8], [0, 1, 2, 3, 4, 5, 6, 7, 8, 9], [0, 1, 2, 3, 4, 5, 6, 7, 8, 9, 10]]⟩
  | _ => none
def ac36 : ACode :=(.seq
 (.ops [⟨some 1, .box, [.t 0], none⟩, ⟨some 2, .mov, [.c .emp], none⟩])
 (.seq
 (.ops [⟨some 3, .mov, [.c .emp], none⟩])
 (.seq
 (.ops [⟨some 7, .fieldaddr 0, [.t 1], none⟩, ⟨some 8, .load true 3, [.t 7], none⟩, ⟨some 9, .call 88, [.t 8], none⟩, ⟨some 4, .mov, [.t 9], none⟩])
 (.seq
 (.seq
 (.ops [⟨some 5, .mov, [.c (.int .i64 0)], none⟩])
 (.block 0
 (.loop
 (.seq
 (.seq
 (.ops [⟨some 10, .mov, [.t 5], none⟩, ⟨some 11, .mov, [.t 4], none⟩, ⟨some 12, .len, [.t 11], none⟩, ⟨some 13, .bin .lss, [.t 10, .t 12], none⟩])
 (.cond (.t 13) .skip (.exit 0)))
 (.seq
 (.block 1
 (.seq
 (.ops [⟨some 6, .mov, [.c (.int .i64 0)], none⟩])
 (.block 2
 (.loop
 (.seq
 (.seq
 (.ops [⟨some 16, .mov, [.t 6], none⟩, ⟨some 17, .load true 9, [.t 1], none⟩, ⟨some 18, .call 89, [.t 17], none⟩, ⟨some 19, .bin .lss, [.t 16, .t 18], none⟩])
 (.cond (.t 19) .skip (.exit 2)))
 (.seq
 (.block 3
 (.draw [(false, ⟨some 22, .mov, [.t 3], none⟩), (false, ⟨some 23, .mov, [.t 4], none⟩), (false, ⟨some 24, .mov, [.t 5], none⟩), (false, ⟨some 25, .idxaddr 1, [.t 23, .t 24], none⟩), (false, ⟨some 26, .load false 1, [.t 25], none⟩), (false, ⟨some 27, .load true 9, [.t 1], none⟩), (false, ⟨some 28, .mov, [.t 6], none⟩), (false, ⟨some 29, .call 90, [.t 27, .t 28], none⟩), (false, ⟨some 30, (.build [.emp, .emp] [(0, 1), (1, 1)]), [.t 26, .t 29], none⟩), (false, ⟨some 31, .bslice 2, [.t 30], none⟩)] (.one ⟨some 32, .append 2 48, [.t 22, .t 31], none⟩ [] (.one ⟨some 3, .mov, [.t 32], none⟩ [] .done))))
 (.ops [⟨some 20, .mov, [.t 6], none⟩, ⟨some 21, .bin .add, [.t 20, .c (.int .i64 1)], none⟩, ⟨some 6, .mov, [.t 21], none⟩])))))))
 (.ops [⟨some 14, .mov, [.t 5], none⟩, ⟨some 15, .bin .add, [.t 14, .c (.int .i64 1)], none⟩, ⟨some 5, .mov, [.t 15], none⟩]))))))
 (.seq
 (.ops [⟨some 33, .mov, [.t 3], none⟩, ⟨some 2, .mov, [.t 33], none⟩]) .ret)))))
theorem fc36 : fnC Tryz.prog 36 cert36 = some (34, [.tmp 2], ac36) := by kernel_rfl
def cert37 : Nat → Option Cert := fun
  | 8 => some ⟨[0, 1, 2, 3, 4, 5], .done, [[], [], [], [2], [0, 1, 2, 3], []]⟩
  | _ => none
def ac37 : ACode :=(.seq
 (.ops [⟨some 2, .box, [.t 0], none⟩, ⟨some 3, .box, [.t 1], none⟩, ⟨some 4, .mov, [.c .emp], none⟩, ⟨some 5, .mov, [.c (.int .i64 0)], none⟩])
 (.seq
 (.seq
 (.ops [⟨some 12, .load true 9, [.t 2], none⟩, ⟨some 13, .call 66, [.t 12], none⟩, ⟨some 6, .mov, [.t 13], none⟩])
 (.seq
 (.ops [⟨some 14, .mov, [.t 6], none⟩, ⟨some 15, .bin .neq, [.t 14, .c (.int .i64 0)], none⟩])
 (.cond (.t 15)
 (.seq
 (.ops [⟨some 16, .mov, [.t 6], none⟩, ⟨some 4, .mov, [.c .emp], none⟩, ⟨some 5, .mov, [.t 16], none⟩]) .ret) .skip)))
 (.seq
 (.ops [⟨some 18, .load true 9, [.t 2], none⟩, ⟨some 19, .load true 2, [.t 3], none⟩, ⟨some 20, .call 91, [.t 18, .t 19], none⟩, ⟨some 17, .mov, [.t 20], none⟩, ⟨some 21, .extract 0, [.t 17], none⟩, ⟨some 22, .extract 1, [.t 17], none⟩, ⟨some 7, (.alloc [(.int .i64 0), (.int .i64 0), (.int .i64 0), (.int .i64 0), (.int .i64 0), (.int .i64 0), (.int .i64 0), (.int .i64 0), (.int .i64 0), (.int .i64 0), (.int .i64 0), (.int .i64 0), (.int .i64 0)]), [], none⟩, ⟨none, .store 13, [.t 7, .t 21], none⟩, ⟨some 8, .mov, [.t 22], none⟩])
 (.seq
 (.seq
 (.ops [⟨some 23, .mov, [.t 8], none⟩, ⟨some 24, .not, [.t 23], none⟩])
 (.cond (.t 24)
 (.seq
 (.ops [⟨some 4, .mov, [.c .emp], none⟩, ⟨some 5, .mov, [.c (.int .i64 2)], none⟩]) .ret) .skip))
 (.seq
 (.ops [⟨some 9, .mov, [.c .emp], none⟩])
 (.seq
 (.seq
 (.draw [(false, ⟨some 25, .load true 9, [.t 2], none⟩), (false, ⟨some 26, .load true 13, [.t 7], none⟩), (false, ⟨some 27, .load true 9, [.t 2], none⟩), (false, ⟨some 28, .call 93, [.t 27, .c .emp], none⟩), (false, ⟨some 29, .call 92, [.t 25, .t 26, .t 28], none⟩), (false, ⟨some 30, .mov, [.c (.int .i64 0)], none⟩)] .done)
 (.block 0
 (.loop
 (.seq
 (.ops [⟨some 31, .bin .lss, [.t 30, .c (.int .i64 10)], none⟩])
 (.seq
 (.cond (.t 31) .skip (.exit 0))
 (.seq
 (.block 1
 (.seq
 (.ops [⟨some 32, .mov, [.t 30], none⟩, ⟨some 33, .idx 10 false 1, [.t 29, .t 30], none⟩, ⟨some 10, .mov, [.t 32], none⟩, ⟨some 11, .mov, [.t 33], none⟩])
 (.seq
 (.ops [⟨some 34, .mov, [.t 11], none⟩])
 (.cond (.t 34)
 (.ops [⟨some 35, .mov, [.t 9], none⟩, ⟨some 36, .mov, [.t 10], none⟩, ⟨some 37, .bslice 1, [.t 36], none⟩, ⟨some 38, .append 1 8, [.t 35, .t 37], none⟩, ⟨some 9, .mov, [.t 38], none⟩]) .skip))))
 (.ops [⟨some 39, .bin .add, [.t 30, .c (.int .i64 1)], none⟩, ⟨some 30, .mov, [.t 39], none⟩])))))))
 (.seq
 (.ops [⟨some 40, .mov, [.t 9], none⟩, ⟨some 4, .mov, [.t 40], none⟩, ⟨some 5, .mov, [.c (.int .i64 0)], none⟩]) .ret)))))))
theorem fc37 : fnC Tryz.prog 37 cert37 = some (41, [.tmp 4, .tmp 5], ac37) := by kernel_rfl
def cert39 : Nat → Option Cert := fun _ => none
def ac39 : ACode :=(.seq
 (.ops [⟨some 2, .mov, [.c .emp], none⟩])
 (.seq
 (.ops [⟨some 3, .bslice 1, [], none⟩, ⟨some 4, .mov, [.t 0], none⟩, ⟨some 5, .append 1 8, [.t 3, .t 4], none⟩, ⟨some 2, .mov, [.t 5], none⟩]) .ret))
theorem fc39 : fnC Tryz.prog 39 cert39 = some (6, [.tmp 2], ac39) := by kernel_rfl
def cert40 : Nat → Option Cert := fun _ => none
def ac40 : ACode :=(.seq
 (.ops [⟨some 4, .mov, [.c (.bool false)], none⟩])
 (.seq
 (.seq
 (.ops [⟨some 5, .mov, [.c (.int .i64 0)], none⟩])
 (.block 0
 (.loop
 (.seq
 (.seq
 (.ops [⟨some 6, .mov, [.t 5], none⟩, ⟨some 7, .mov, [.t 0], none⟩, ⟨some 8, .len, [.t 7], none⟩, ⟨some 9, .bin .lss, [.t 6, .t 8], none⟩])
 (.cond (.t 9) .skip (.exit 0)))
 (.seq
 (.block 1
 (.seq
 (.ops [⟨some 12, .mov, [.t 0], none⟩, ⟨some 13, .mov, [.t 5], none⟩, ⟨some 14, .idxaddr 1, [.t 12, .t 13], none⟩, ⟨some 15, .load false 1, [.t 14], none⟩, ⟨some 16, .mov, [.t 1], none⟩, ⟨some 17, .bin .eql, [.t 15, .t 16], none⟩])
 (.cond (.t 17)
 (.seq
 (.ops [⟨some 4, .mov, [.c (.bool true)], none⟩]) .ret) .skip)))
 (.ops [⟨some 10, .mov, [.t 5], none⟩, ⟨some 11, .bin .add, [.t 10, .c (.int .i64 1)], none⟩, ⟨some 5, .mov, [.t 11], none⟩]))))))
 (.seq
 (.ops [⟨some 4, .mov, [.c (.bool false)], none⟩]) .ret)))
theorem fc40 : fnC Tryz.prog 40 cert40 = some (18, [.tmp 4], ac40) := by kernel_rfl
def cert42 : Nat → Option Cert := fun
  | 19 => some ⟨[0, 1, 2, 3, 4, 5, 6, 7, 8, 9, 10, 11, 12, 13, 14, 15, 16, 17, 18, 19], .done, [[], [], [1], [], [1, 2, 3], [1, 2, 3, 4], [1, 2, 3, 4, 5], [0, 1, 2, 3, 4, 5, 6], [0, 1, 2, 3, 4, 5, 6, 7], [0, 1, 2, 3, 4, 5, 6, 7, 8], [0, 1, 2, 3, 4, 5, 6, 7, 8, 9], [0, 1, 2, 3, 4, 5, 6, 7, 8, 9], [0, 1, 2, 3, 4, 5, 6, 7, 8, 9, 11], [0, 1, 2, 3, 4, 5, 6, 7, 8, 9], [0, 1, 2, 3, 4, 5, 6, 7, 8, 9, 11, 12, 13], [0, 1, 2, 3, 4, 5, 6, 7, 8, 9, 11, 12, 13, 14], [0, 1, 2, 3, 4, 5, 6, 7, 8, 9, 11, 12, 13, 14, 15], [0, 1, 2, 3, 4, 5, 6, 7, 8, 9, 10, 11, 12, 13, 14, 15, 16], [0, 1, 2, 3, 4, 5, 6, 7, 8, 9, 10, 11, 12, 13, 14, 15, 16, 17], [0, 1, 2, 3, 4, 5, 6, 7, 8, 9, 10, 11, 12, 13, 14, 15, 16, 17, 18]]⟩
  | 24 => some ⟨[0, 1, 2, 3, 4, 5, 6, 7, 8], .done, [[], [], [1], [], [1, 2, 3], [1, 2, 3, 4], [1, 2, 3, 4, 5], [0, 1, 2, 3, 4, 5, 6], [0, 1, 2, 3, 4, 5, 6, 7]]⟩
  | 26 => some ⟨[0, 1, 2, 3, 4, 5, 6, 7], .done, [[], [0], [0, 1], [], [0, 1, 2, 3], [0, 1, 2, 3, 4], [0, 1, 2, 3, 4, 5], [0, 1, 2, 3, 4, 5, 6]]⟩
  | _ => none
def ac42 : ACode :=(.seq
 (.ops [⟨some 1, .box, [.t 0], none⟩, ⟨some 2, .mov, [.c (.int .i64 0)], none⟩])
 (.seq
 (.seq
 (.ops [⟨some 8, .fieldaddr 5, [.t 1], none⟩, ⟨some 9, .load false 1, [.t 8], none⟩, ⟨some 10, .bin .gtr, [.t 9, .c (.int .i64 5)], none⟩, ⟨some 11, .mov, [.t 10], none⟩, ⟨some 12, .fieldaddr 4, [.t 1], some (11, false)⟩, ⟨some 13, .load false 1, [.t 12], some (11, false)⟩, ⟨some 14, .bin .gtr, [.t 13, .c (.int .i64 10)], some (11, false)⟩, ⟨some 15, .pick, [.t 11, .c (.bool true), .t 14], none⟩, ⟨some 16, .mov, [.t 15], none⟩, ⟨some 17, .fieldaddr 6, [.t 1], some (16, false)⟩, ⟨some 18, .load false 1, [.t 17], some (16, false)⟩, ⟨some 19, .len, [.t 18], some (16, false)⟩, ⟨some 20, .bin .gtr, [.t 19, .c (.int .i64 6)], some (16, false)⟩, ⟨some 21, .pick, [.t 16, .c (.bool true), .t 20], none⟩, ⟨some 22, .mov, [.t 21], none⟩, ⟨some 23, .fieldaddr 7, [.t 1], some (22, false)⟩, ⟨some 24, .load false 1, [.t 23], some (22, false)⟩, ⟨some 25, .len, [.t 24], some (22, false)⟩, ⟨some 26, .bin .gtr, [.t 25, .c (.int .i64 4)], some (22, false)⟩, ⟨some 27, .pick, [.t 22, .c (.bool true), .t 26], none⟩, ⟨some 28, .mov, [.t 27], none⟩, ⟨some 29, .fieldaddr 8, [.t 1], some (28, false)⟩, ⟨some 30, .load false 1, [.t 29], some (28, false)⟩, ⟨some 31, .len, [.t 30], some (28, false)⟩, ⟨some 32, .bin .gtr, [.t 31, .c (.int .i64 5)], some (28, false)⟩, ⟨some 33, .pick, [.t 28, .c (.bool true), .t 32], none⟩])
 (.cond (.t 33)
 (.seq
 (.ops [⟨some 2, .mov, [.c (.int .i64 3)], none⟩]) .ret) .skip))
 (.seq
 (.seq
 (.ops [⟨some 34, .fieldaddr 0, [.t 1], none⟩, ⟨some 35, .load true 3, [.t 34], none⟩, ⟨some 36, .call 95, [.t 35], none⟩, ⟨some 3, .mov, [.t 36], none⟩])
 (.seq
 (.ops [⟨some 37, .mov, [.t 3], none⟩, ⟨some 38, .bin .neq, [.t 37, .c (.int .i64 0)], none⟩])
 (.cond (.t 38)
 (.seq
 (.ops [⟨some 39, .mov, [.t 3], none⟩, ⟨some 2, .mov, [.t 39], none⟩]) .ret) .skip)))
 (.seq
 (.seq
 (.ops [⟨some 40, .fieldaddr 0, [.t 1], none⟩, ⟨some 41, .load true 3, [.t 40], none⟩, ⟨some 42, .call 88, [.t 41], none⟩, ⟨some 43, .len, [.t 42], none⟩, ⟨some 44, .bin .eql, [.t 43, .c (.int .i64 0)], none⟩])
 (.cond (.t 44)
 (.seq
 (.ops [⟨some 2, .mov, [.c (.int .i64 11)], none⟩]) .ret) .skip))
 (.seq
 (.seq
 (.ops [⟨some 45, .fieldaddr 5, [.t 1], none⟩, ⟨some 46, .load false 1, [.t 45], none⟩, ⟨some 47, .bin .lss, [.t 46, .c (.int .i64 0)], none⟩, ⟨some 48, .mov, [.t 47], none⟩, ⟨some 49, .fieldaddr 4, [.t 1], some (48, false)⟩, ⟨some 50, .load false 1, [.t 49], some (48, false)⟩, ⟨some 51, .bin .lss, [.t 50, .c (.int .i64 0)], some (48, false)⟩, ⟨some 52, .pick, [.t 48, .c (.bool true), .t 51], none⟩, ⟨some 53, .mov, [.t 52], none⟩, ⟨some 54, .load true 9, [.t 1], some (53, false)⟩, ⟨some 55, .call 25, [.t 54], some (53, false)⟩, ⟨some 56, .bin .gtr, [.t 55, .c (.int .i64 10)], some (53, false)⟩, ⟨some 57, .pick, [.t 53, .c (.bool true), .t 56], none⟩, ⟨some 58, .mov, [.t 57], none⟩, ⟨some 59, .fieldaddr 3, [.t 1], some (58, false)⟩, ⟨some 60, .load false 1, [.t 59], some (58, false)⟩, ⟨some 61, .fieldaddr 0, [.t 1], some (58, false)⟩, ⟨some 62, .fieldaddr 0, [.t 61], some (58, false)⟩, ⟨some 63, .load false 1, [.t 62], some (58, false)⟩, ⟨some 64, .len, [.t 63], some (58, false)⟩, ⟨some 65, .call 54, [.t 60, .t 64], some (58, false)⟩, ⟨some 66, .not, [.t 65], some (58, false)⟩, ⟨some 67, .pick, [.t 58, .c (.bool true), .t 66], none⟩])
 (.cond (.t 67)
 (.seq
 (.ops [⟨some 2, .mov, [.c (.int .i64 1)], none⟩]) .ret) .skip))
 (.seq
 (.seq
 (.ops [⟨some 4, .mov, [.c (.int .i64 0)], none⟩])
 (.block 0
 (.loop
 (.seq
 (.seq
 (.ops [⟨some 68, .mov, [.t 4], none⟩, ⟨some 69, .fieldaddr 6, [.t 1], none⟩, ⟨some 70, .load false 1, [.t 69], none⟩, ⟨some 71, .len, [.t 70], none⟩, ⟨some 72, .bin .lss, [.t 68, .t 71], none⟩])
 (.cond (.t 72) .skip (.exit 0)))
 (.seq
 (.block 1
 (.seq
 (.ops [⟨some 75, .fieldaddr 6, [.t 1], none⟩, ⟨some 76, .load false 1, [.t 75], none⟩, ⟨some 77, .mov, [.t 4], none⟩, ⟨some 78, .idxaddr 4, [.t 76, .t 77], none⟩, ⟨some 79, .load true 4, [.t 78], none⟩, ⟨some 5, (.alloc [(.int .i64 0), (.int .i64 0), (.int .i64 0), (.int .i64 0)]), [], none⟩, ⟨none, .store 4, [.t 5, .t 79], none⟩])
 (.seq
 (.ops [⟨some 80, .load true 9, [.t 1], none⟩, ⟨some 81, .fieldaddr 0, [.t 5], none⟩, ⟨some 82, .load false 1, [.t 81], none⟩, ⟨some 83, .call 96, [.t 80, .t 82], none⟩, ⟨some 84, .not, [.t 83], none⟩, ⟨some 85, .mov, [.t 84], none⟩, ⟨some 86, .load true 9, [.t 1], some (85, false)⟩, ⟨some 87, .fieldaddr 1, [.t 5], some (85, false)⟩, ⟨some 88, .load false 1, [.t 87], some (85, false)⟩, ⟨some 89, .call 96, [.t 86, .t 88], some (85, false)⟩, ⟨some 90, .not, [.t 89], some (85, false)⟩, ⟨some 91, .pick, [.t 85, .c (.bool true), .t 90], none⟩, ⟨some 92, .mov, [.t 91], none⟩, ⟨some 93, .fieldaddr 0, [.t 5], some (92, false)⟩, ⟨some 94, .load false 1, [.t 93], some (92, false)⟩, ⟨some 95, .fieldaddr 1, [.t 5], some (92, false)⟩, ⟨some 96, .load false 1, [.t 95], some (92, false)⟩, ⟨some 97, .bin .eql, [.t 94, .t 96], some (92, false)⟩, ⟨some 98, .pick, [.t 92, .c (.bool true), .t 97], none⟩, ⟨some 99, .mov, [.t 98], none⟩, ⟨some 100, .load true 9, [.t 1], some (99, false)⟩, ⟨some 101, .fieldaddr 2, [.t 5], some (99, false)⟩, ⟨some 102, .fieldaddr 0, [.t 101], some (99, false)⟩, ⟨some 103, .load false 1, [.t 102], some (99, false)⟩, ⟨some 104, .call 97, [.t 100, .t 103], some (99, false)⟩, ⟨some 105, .not, [.t 104], some (99, false)⟩, ⟨some 106, .pick, [.t 99, .c (.bool true), .t 105], none⟩, ⟨some 107, .mov, [.t 106], none⟩, ⟨some 108, .load true 9, [.t 1], some (107, false)⟩, ⟨some 109, .fieldaddr 2, [.t 5], some (107, false)⟩, ⟨some 110, .fieldaddr 1, [.t 109], some (107, false)⟩, ⟨some 111, .load false 1, [.t 110], some (107, false)⟩, ⟨some 112, .call 97, [.t 108, .t 111], some (107, false)⟩, ⟨some 113, .not, [.t 112], some (107, false)⟩, ⟨some 114, .pick, [.t 107, .c (.bool true), .t 113], none⟩, ⟨some 115, .mov, [.t 114], none⟩, ⟨some 116, .fieldaddr 2, [.t 5], some (115, false)⟩, ⟨some 117, .fieldaddr 0, [.t 116], some (115, false)⟩, ⟨some 118, .load false 1, [.t 117], some (115, false)⟩, ⟨some 119, .fieldaddr 2, [.t 5], some (115, false)⟩, ⟨some 120, .fieldaddr 1, [.t 119], some (115, false)⟩, ⟨some 121, .load false 1, [.t 120], some (115, false)⟩, ⟨some 122, .bin .gtr, [.t 118, .t 121], some (115, false)⟩, ⟨some 123, .pick, [.t 115, .c (.bool true), .t 122], none⟩])
 (.cond (.t 123)
 (.seq
 (.ops [⟨some 2, .mov, [.c (.int .i64 1)], none⟩]) .ret) .skip))))
 (.ops [⟨some 73, .mov, [.t 4], none⟩, ⟨some 74, .bin .add, [.t 73, .c (.int .i64 1)], none⟩, ⟨some 4, .mov, [.t 74], none⟩]))))))
 (.seq
 (.seq
 (.ops [⟨some 6, .mov, [.c (.int .i64 0)], none⟩])
 (.block 2
 (.loop
 (.seq
 (.seq
 (.ops [⟨some 124, .mov, [.t 6], none⟩, ⟨some 125, .fieldaddr 7, [.t 1], none⟩, ⟨some 126, .load false 1, [.t 125], none⟩, ⟨some 127, .len, [.t 126], none⟩, ⟨some 128, .bin .lss, [.t 124, .t 127], none⟩])
 (.cond (.t 128) .skip (.exit 2)))
 (.seq
 (.block 3
 (.seq
 (.draw [(false, ⟨some 131, .load true 9, [.t 1], none⟩), (false, ⟨some 132, .fieldaddr 7, [.t 1], none⟩), (false, ⟨some 133, .load false 1, [.t 132], none⟩), (false, ⟨some 134, .mov, [.t 6], none⟩), (false, ⟨some 135, .idxaddr 2, [.t 133, .t 134], none⟩), (false, ⟨some 136, .fieldaddr 0, [.t 135], none⟩), (false, ⟨some 137, .load false 1, [.t 136], none⟩), (false, ⟨some 138, .call 96, [.t 131, .t 137], none⟩), (false, ⟨some 139, .not, [.t 138], none⟩), (false, ⟨some 140, .mov, [.t 139], none⟩), (false, ⟨some 141, .load true 9, [.t 1], some (140, false)⟩), (false, ⟨some 142, .fieldaddr 7, [.t 1], some (140, false)⟩), (false, ⟨some 143, .load false 1, [.t 142], some (140, false)⟩), (false, ⟨some 144, .mov, [.t 6], some (140, false)⟩), (false, ⟨some 145, .idxaddr 2, [.t 143, .t 144], some (140, false)⟩), (false, ⟨some 146, .fieldaddr 1, [.t 145], some (140, false)⟩), (false, ⟨some 147, .load false 1, [.t 146], some (140, false)⟩), (false, ⟨some 148, .call 97, [.t 141, .t 147], some (140, false)⟩), (false, ⟨some 149, .not, [.t 148], some (140, false)⟩), (false, ⟨some 150, .pick, [.t 140, .c (.bool true), .t 149], none⟩)] .done)
 (.cond (.t 150)
 (.seq
 (.ops [⟨some 2, .mov, [.c (.int .i64 1)], none⟩]) .ret) .skip)))
 (.ops [⟨some 129, .mov, [.t 6], none⟩, ⟨some 130, .bin .add, [.t 129, .c (.int .i64 1)], none⟩, ⟨some 6, .mov, [.t 130], none⟩]))))))
 (.seq
 (.seq
 (.ops [⟨some 7, .mov, [.c (.int .i64 0)], none⟩])
 (.block 4
 (.loop
 (.seq
 (.seq
 (.ops [⟨some 151, .mov, [.t 7], none⟩, ⟨some 152, .fieldaddr 8, [.t 1], none⟩, ⟨some 153, .load false 1, [.t 152], none⟩, ⟨some 154, .len, [.t 153], none⟩, ⟨some 155, .bin .lss, [.t 151, .t 154], none⟩])
 (.cond (.t 155) .skip (.exit 4)))
 (.seq
 (.block 5
 (.seq
 (.draw [(false, ⟨some 158, .load true 9, [.t 1], none⟩), (false, ⟨some 159, .fieldaddr 8, [.t 1], none⟩), (false, ⟨some 160, .load false 1, [.t 159], none⟩), (false, ⟨some 161, .mov, [.t 7], none⟩), (false, ⟨some 162, .idxaddr 2, [.t 160, .t 161], none⟩), (false, ⟨some 163, .fieldaddr 0, [.t 162], none⟩), (false, ⟨some 164, .load false 1, [.t 163], none⟩), (false, ⟨some 165, .call 96, [.t 158, .t 164], none⟩), (false, ⟨some 166, .not, [.t 165], none⟩)] .done)
 (.cond (.t 166)
 (.seq
 (.ops [⟨some 2, .mov, [.c (.int .i64 1)], none⟩]) .ret) .skip)))
 (.ops [⟨some 156, .mov, [.t 7], none⟩, ⟨some 157, .bin .add, [.t 156, .c (.int .i64 1)], none⟩, ⟨some 7, .mov, [.t 157], none⟩]))))))
 (.seq
 (.seq
 (.draw [(false, ⟨some 167, .fieldaddr 0, [.t 1], none⟩), (false, ⟨some 168, .load true 3, [.t 167], none⟩), (false, ⟨some 169, .call 98, [.t 168], none⟩), (false, ⟨some 170, .load true 9, [.t 1], none⟩), (false, ⟨some 171, .call 89, [.t 170], none⟩), (false, ⟨some 172, .bin .mul, [.t 169, .t 171], none⟩), (false, ⟨some 173, .min, [.c (.int .i64 3000), .t 172], none⟩), (false, ⟨some 174, .bin .gtr, [.t 173, .c (.int .i64 2000)], none⟩)] .done)
 (.cond (.t 174)
 (.seq
 (.ops [⟨some 2, .mov, [.c (.int .i64 3)], none⟩]) .ret) .skip))
 (.seq
 (.ops [⟨some 2, .mov, [.c (.int .i64 0)], none⟩]) .ret))))))))))
theorem fc42 : fnC Tryz.prog 42 cert42 = some (175, [.tmp 2], ac42) := by kernel_rfl
def cert44 : Nat → Option Cert := fun
  | 1 => some ⟨[0, 1, 2, 3, 4, 5, 6, 7], (.one 8 (.one 9 (.one 10 .done))), [[], [], [], [1, 2], [0, 1, 2, 3], [0, 1, 2, 3, 4], [0, 1, 2, 3, 4, 5], [0, 1, 2, 3, 4, 5], [], [0, 1, 2, 3, 4, 5, 6, 8], [0, 1, 2, 3, 4, 5, 6, 7, 8, 9]]⟩
  | _ => none
def ac44 : ACode :=(.seq
 (.ops [⟨some 2, .box, [.t 0], none⟩, ⟨some 3, .box, [.t 1], none⟩, ⟨some 4, .mov, [.c .emp], none⟩, ⟨some 5, .mov, [.c (.int .i64 0)], none⟩])
 (.seq
 (.draw [(true, ⟨some 12, .load true 9, [.t 2], none⟩), (true, ⟨some 13, .load true 9, [.t 2], none⟩), (true, ⟨some 14, .load false 1, [.t 3], none⟩), (true, ⟨some 15, .call 99, [.t 13, .t 14], none⟩), (true, ⟨some 16, .call 76, [.t 12, .t 15], none⟩), (true, ⟨some 11, .mov, [.t 16], none⟩), (true, ⟨some 17, .extract 0, [.t 11], none⟩), (true, ⟨some 18, .extract 1, [.t 11], none⟩)] (.one ⟨some 6, (.alloc [.nilp]), [], none⟩ [⟨some 12, .load true 9, [.t 2], none⟩, ⟨some 13, .load true 9, [.t 2], none⟩, ⟨some 14, .load false 1, [.t 3], none⟩] (.one ⟨none, .store 1, [.t 6, .t 17], none⟩ [] (.one ⟨some 7, .mov, [.t 18], none⟩ [] .done))))
 (.seq
 (.seq
 (.ops [⟨some 19, .mov, [.t 7], none⟩, ⟨some 20, .bin .neq, [.t 19, .c (.int .i64 0)], none⟩])
 (.cond (.t 20)
 (.seq
 (.ops [⟨some 21, .mov, [.t 7], none⟩, ⟨some 4, .mov, [.c .emp], none⟩, ⟨some 5, .mov, [.t 21], none⟩]) .ret) .skip))
 (.seq
 (.ops [⟨some 8, (.alloc [.emp]), [], none⟩])
 (.seq
 (.ops [⟨some 9, (.alloc [.nilf]), [], none⟩])
 (.seq
 (.ops [⟨some 22, (.mkfunc (.func 100) 0), [.t 8, .t 6, .t 3, .t 2, .t 9], none⟩, ⟨none, .store 1, [.t 9, .t 22], none⟩])
 (.seq .label
 (.seq
 (.seq
 (.ops [⟨some 23, .load true 9, [.t 2], none⟩, ⟨some 24, .call 77, [.t 23], none⟩, ⟨some 25, .bin .add, [.t 24, .c (.int .i64 1)], none⟩, ⟨some 26, .mov, [.c (.int .i64 0)], none⟩])
 (.block 0
 (.loop
 (.seq
 (.ops [⟨some 27, .bin .lss, [.t 26, .t 25], none⟩])
 (.seq
 (.cond (.t 27) .skip (.exit 0))
 (.seq
 (.block 1
 (.seq
 (.ops [⟨some 28, .mov, [.t 26], none⟩, ⟨some 10, .mov, [.t 28], none⟩])
 (.seq
 (.ops [⟨some 29, .load false 1, [.t 9], none⟩, ⟨some 30, .mov, [.t 10], none⟩, ⟨some 31, .callv, [.t 29, .c .emp, .c (.int .i64 0), .t 30], none⟩])
 (.cond (.t 31) (.exit 0) .skip))))
 (.ops [⟨some 32, .bin .add, [.t 26, .c (.int .i64 1)], none⟩, ⟨some 26, .mov, [.t 32], none⟩])))))))
 (.seq
 (.ops [⟨some 33, .load false 1, [.t 8], none⟩, ⟨some 4, .mov, [.t 33], none⟩, ⟨some 5, .mov, [.c (.int .i64 0)], none⟩]) .ret)))))))))
theorem fc44 : fnC Tryz.prog 44 cert44 = some (34, [.tmp 4, .tmp 5], ac44) := by kernel_rfl
def cert45 : Nat → Option Cert := fun _ => none
def ac45 : ACode :=(.seq
 (.ops [⟨some 1, .box, [.t 0], none⟩, ⟨some 2, .mov, [.c .emp], none⟩, ⟨some 3, .mov, [.c (.int .i64 0)], none⟩])
 (.seq
 (.ops [⟨some 10, .load true 3, [.t 1], none⟩, ⟨some 11, .call 103, [.t 10], none⟩, ⟨some 9, .mov, [.t 11], none⟩, ⟨some 12, .extract 0, [.t 9], none⟩, ⟨some 13, .extract 1, [.t 9], none⟩, ⟨some 4, .mov, [.t 12], none⟩, ⟨some 5, .mov, [.t 13], none⟩])
 (.seq
 (.seq
 (.ops [⟨some 14, .mov, [.t 5], none⟩, ⟨some 15, .bin .neq, [.t 14, .c (.int .i64 0)], none⟩])
 (.cond (.t 15)
 (.seq
 (.ops [⟨some 16, .mov, [.t 5], none⟩, ⟨some 2, .mov, [.c .emp], none⟩, ⟨some 3, .mov, [.t 16], none⟩]) .ret) .skip))
 (.seq
 (.ops [⟨some 17, .fieldaddr 1, [.t 1], none⟩, ⟨some 18, .load false 1, [.t 17], none⟩, ⟨some 19, .len, [.t 18], none⟩, ⟨some 20, (.mkslice 1 24 [.emp]), [.t 19], none⟩, ⟨some 6, .mov, [.t 20], none⟩])
 (.seq
 (.seq
 (.ops [⟨some 21, .mov, [.t 6], none⟩, ⟨some 22, .len, [.t 21], none⟩, ⟨some 23, .mov, [.c (.int .i64 0)], none⟩])
 (.block 0
 (.loop
 (.seq
 (.ops [⟨some 24, .bin .lss, [.t 23, .t 22], none⟩])
 (.seq
 (.cond (.t 24) .skip (.exit 0))
 (.seq
 (.block 1
 (.seq
 (.ops [⟨some 25, .mov, [.t 23], none⟩, ⟨some 7, .mov, [.t 25], none⟩])
 (.seq
 (.ops [⟨some 26, .fieldaddr 0, [.t 1], none⟩, ⟨some 27, .load false 1, [.t 26], none⟩, ⟨some 28, .len, [.t 27], none⟩, ⟨some 29, .mov, [.c (.int .i64 0)], none⟩])
 (.block 2
 (.loop
 (.seq
 (.ops [⟨some 30, .bin .lss, [.t 29, .t 28], none⟩])
 (.seq
 (.cond (.t 30) .skip (.exit 2))
 (.seq
 (.block 3
 (.seq
 (.ops [⟨some 31, .mov, [.t 29], none⟩, ⟨some 8, .mov, [.t 31], none⟩])
 (.seq
 (.ops [⟨some 32, .mov, [.t 4], none⟩, ⟨some 33, .nilchk, [.t 32], none⟩, ⟨some 34, .fieldaddr 4, [.t 33], none⟩, ⟨some 35, .load false 1, [.t 34], none⟩, ⟨some 36, .mov, [.t 7], none⟩, ⟨some 37, .mov, [.t 8], none⟩, ⟨some 38, (.build [(.int .i64 0), (.int .i64 0)] [(0, 1), (1, 1)]), [.t 36, .t 37], none⟩, ⟨some 39, (.lookup (.int .i64 0)), [.t 35, .t 38], none⟩, ⟨some 40, .bin .gtr, [.t 39, .c (.int .i64 0)], none⟩])
 (.cond (.t 40)
 (.ops [⟨some 41, .mov, [.t 6], none⟩, ⟨some 42, .mov, [.t 7], none⟩, ⟨some 43, .mov, [.t 6], none⟩, ⟨some 44, .mov, [.t 7], none⟩, ⟨some 45, .idxaddr 1, [.t 43, .t 44], none⟩, ⟨some 46, .load false 1, [.t 45], none⟩, ⟨some 47, .mov, [.t 8], none⟩, ⟨some 48, .bslice 1, [.t 47], none⟩, ⟨some 49, .append 1 8, [.t 46, .t 48], none⟩, ⟨some 50, .idxaddr 1, [.t 41, .t 42], none⟩, ⟨none, .store 1, [.t 50, .t 49], none⟩]) .skip))))
 (.ops [⟨some 51, .bin .add, [.t 29, .c (.int .i64 1)], none⟩, ⟨some 29, .mov, [.t 51], none⟩])))))))))
 (.ops [⟨some 52, .bin .add, [.t 23, .c (.int .i64 1)], none⟩, ⟨some 23, .mov, [.t 52], none⟩])))))))
 (.seq
 (.ops [⟨some 53, .mov, [.t 6], none⟩, ⟨some 2, .mov, [.t 53], none⟩, ⟨some 3, .mov, [.c (.int .i64 0)], none⟩]) .ret))))))
theorem fc45 : fnC Tryz.prog 45 cert45 = some (54, [.tmp 2, .tmp 3], ac45) := by kernel_rfl
def cert46 : Nat → Option Cert := fun
  | 10 => some ⟨[0, 1, 2, 3, 4, 5, 6, 7, 8, 9, 10, 11, 12, 13, 14, 15, 16], (.one 17 (.one 18 (.one 19 .done))), [[], [0], [], [2], [], [2, 3, 4], [2, 3, 4, 5], [2, 3, 4, 5, 6], [2, 3, 4, 5, 6, 7], [], [9], [], [9, 10, 11], [9, 10, 11, 12], [9, 10, 11, 12, 13], [2, 3, 4, 5, 6, 7, 8, 9, 10, 11, 12, 13, 14], [2, 3, 4, 5, 6, 7, 8, 9, 10, 11, 12, 13, 14, 15], [0, 1, 2, 3, 4, 5, 6, 7, 8, 9, 10, 11, 12, 13, 14, 15, 16], [0, 1, 2, 3, 4, 5, 6, 7, 8, 9, 10, 11, 12, 13, 14, 15, 16, 17], [0, 1, 2, 3, 4, 5, 6, 7, 8, 9, 10, 11, 12, 13, 14, 15, 16, 17, 18]]⟩
  | _ => none
def ac46 : ACode :=(.seq
 (.ops [⟨some 1, .box, [.t 0], none⟩, ⟨some 2, (.alloc [.emp, .emp, (.int .i64 0)]), [], none⟩])
 (.seq
 (.ops [⟨some 7, .fieldaddr 2, [.t 1], none⟩, ⟨some 8, .load false 1, [.t 7], none⟩, ⟨some 9, (.build [.emp, .emp, (.int .i64 0)] [(2, 1)]), [.t 8], none⟩, ⟨some 3, (.alloc [.emp, .emp, (.int .i64 0)]), [], none⟩, ⟨none, .store 3, [.t 3, .t 9], none⟩])
 (.seq
 (.seq
 (.ops [⟨some 4, .mov, [.c (.int .i64 0)], none⟩])
 (.block 0
 (.loop
 (.seq
 (.seq
 (.ops [⟨some 10, .mov, [.t 4], none⟩, ⟨some 11, .fieldaddr 0, [.t 1], none⟩, ⟨some 12, .load false 1, [.t 11], none⟩, ⟨some 13, .len, [.t 12], none⟩, ⟨some 14, .bin .lss, [.t 10, .t 13], none⟩])
 (.cond (.t 14) .skip (.exit 0)))
 (.seq
 (.block 1
 (.seq
 (.ops [⟨some 17, .fieldaddr 0, [.t 1], none⟩, ⟨some 18, .load false 1, [.t 17], none⟩, ⟨some 19, .mov, [.t 4], none⟩, ⟨some 20, .idxaddr 3, [.t 18, .t 19], none⟩, ⟨some 21, .load true 3, [.t 20], none⟩, ⟨some 5, (.alloc [(.int .i64 0), (.int .i64 0), (.int .i64 0)]), [], none⟩, ⟨none, .store 3, [.t 5, .t 21], none⟩])
 (.ops [⟨some 22, .fieldaddr 0, [.t 3], none⟩, ⟨some 23, .load false 1, [.t 22], none⟩, ⟨some 24, .fieldaddr 0, [.t 5], none⟩, ⟨some 25, .load false 1, [.t 24], none⟩, ⟨some 26, .fieldaddr 1, [.t 5], none⟩, ⟨some 27, .fieldaddr 0, [.t 26], none⟩, ⟨some 28, .load false 1, [.t 27], none⟩, ⟨some 29, .fieldaddr 1, [.t 5], none⟩, ⟨some 30, .fieldaddr 1, [.t 29], none⟩, ⟨some 31, .load false 1, [.t 30], none⟩, ⟨some 32, (.build [(.int .i64 0), (.int .i64 0)] [(0, 1), (1, 1)]), [.t 28, .t 31], none⟩, ⟨some 33, (.build [(.int .i64 0), (.int .i64 0), (.int .i64 0)] [(0, 1), (1, 2)]), [.t 25, .t 32], none⟩, ⟨some 34, .bslice 3, [.t 33], none⟩, ⟨some 35, .append 3 24, [.t 23, .t 34], none⟩, ⟨some 36, .fieldaddr 0, [.t 3], none⟩, ⟨none, .store 1, [.t 36, .t 35], none⟩])))
 (.ops [⟨some 15, .mov, [.t 4], none⟩, ⟨some 16, .bin .add, [.t 15, .c (.int .i64 1)], none⟩, ⟨some 4, .mov, [.t 16], none⟩]))))))
 (.seq
 (.seq
 (.ops [⟨some 6, .mov, [.c (.int .i64 0)], none⟩])
 (.block 2
 (.loop
 (.seq
 (.seq
 (.ops [⟨some 37, .mov, [.t 6], none⟩, ⟨some 38, .fieldaddr 1, [.t 1], none⟩, ⟨some 39, .load false 1, [.t 38], none⟩, ⟨some 40, .len, [.t 39], none⟩, ⟨some 41, .bin .lss, [.t 37, .t 40], none⟩])
 (.cond (.t 41) .skip (.exit 2)))
 (.seq
 (.block 3
 (.draw [(false, ⟨some 44, .fieldaddr 1, [.t 3], none⟩), (false, ⟨some 45, .load false 1, [.t 44], none⟩), (false, ⟨some 46, .fieldaddr 1, [.t 1], none⟩), (false, ⟨some 47, .load false 1, [.t 46], none⟩), (false, ⟨some 48, .mov, [.t 6], none⟩), (false, ⟨some 49, .idxaddr 2, [.t 47, .t 48], none⟩), (false, ⟨some 50, .fieldaddr 0, [.t 49], none⟩), (false, ⟨some 51, .load false 1, [.t 50], none⟩), (false, ⟨some 52, .call 104, [.t 51], none⟩), (false, ⟨some 53, .fieldaddr 1, [.t 1], none⟩), (false, ⟨some 54, .load false 1, [.t 53], none⟩), (false, ⟨some 55, .mov, [.t 6], none⟩), (false, ⟨some 56, .idxaddr 2, [.t 54, .t 55], none⟩), (false, ⟨some 57, .fieldaddr 1, [.t 56], none⟩), (false, ⟨some 58, .load false 1, [.t 57], none⟩), (false, ⟨some 59, (.build [.emp, (.int .i64 0)] [(0, 1), (1, 1)]), [.t 52, .t 58], none⟩), (false, ⟨some 60, .bslice 2, [.t 59], none⟩)] (.one ⟨some 61, .append 2 32, [.t 45, .t 60], none⟩ [] (.one ⟨some 62, .fieldaddr 1, [.t 3], none⟩ [] (.one ⟨none, .store 1, [.t 62, .t 61], none⟩ [] .done)))))
 (.ops [⟨some 42, .mov, [.t 6], none⟩, ⟨some 43, .bin .add, [.t 42, .c (.int .i64 1)], none⟩, ⟨some 6, .mov, [.t 43], none⟩]))))))
 (.seq
 (.ops [⟨some 63, .load true 3, [.t 3], none⟩, ⟨none, .store 3, [.t 2, .t 63], none⟩]) .ret)))))
theorem fc46 : fnC Tryz.prog 46 cert46 = some (64, [.cell 2 40], ac46) := by kernel_rfl
def cert47 : Nat → Option Cert := fun _ => none
def ac47 : ACode :=(.seq
 (.ops [⟨some 6, .mov, [.c (.bool false)], none⟩])
 (.seq
 (.ops [⟨some 7, .mov, [.t 0], none⟩, ⟨some 8, .mov, [.t 1], none⟩, ⟨some 9, .bin .geq, [.t 7, .t 8], none⟩, ⟨some 10, .mov, [.t 9], none⟩, ⟨some 11, .mov, [.t 0], some (10, true)⟩, ⟨some 12, .mov, [.t 2], some (10, true)⟩, ⟨some 13, .bin .leq, [.t 11, .t 12], some (10, true)⟩, ⟨some 14, .pick, [.t 10, .t 13, .c (.bool false)], none⟩, ⟨some 6, .mov, [.t 14], none⟩]) .ret))
theorem fc47 : fnC Tryz.prog 47 cert47 = some (15, [.tmp 6], ac47) := by kernel_rfl
def cert49 : Nat → Option Cert := fun _ => none
def ac49 : ACode :=(.seq
 (.ops [⟨some 1, .box, [.t 0], none⟩, ⟨some 2, .mov, [.c (.int .i64 0)], none⟩])
 (.seq
 (.ops [⟨some 3, .fieldaddr 8, [.t 1], none⟩, ⟨some 4, .load false 1, [.t 3], none⟩, ⟨some 5, .len, [.t 4], none⟩, ⟨some 6, .conv .u64, [.t 5], none⟩, ⟨some 7, .bin .shl, [.c (.int .i64 1), .t 6], none⟩, ⟨some 8, .bin .sub, [.t 7, .c (.int .i64 1)], none⟩, ⟨some 2, .mov, [.t 8], none⟩]) .ret))
theorem fc49 : fnC Tryz.prog 49 cert49 = some (9, [.tmp 2], ac49) := by kernel_rfl
def cert50 : Nat → Option Cert := fun _ => none
def ac50 : ACode :=(.seq
 (.ops [⟨some 4, .mov, [.c (.bool false)], none⟩])
 (.seq
 (.ops [⟨some 5, .mov, [.t 0], none⟩, ⟨some 6, .len, [.t 5], none⟩, ⟨some 7, .mov, [.t 1], none⟩, ⟨some 8, .len, [.t 7], none⟩, ⟨some 9, .bin .lss, [.t 6, .t 8], none⟩, ⟨some 10, .mov, [.t 9], none⟩, ⟨some 11, .mov, [.t 0], some (10, false)⟩, ⟨some 12, .len, [.t 11], some (10, false)⟩, ⟨some 13, .mov, [.t 1], some (10, false)⟩, ⟨some 14, .len, [.t 13], some (10, false)⟩, ⟨some 15, .bin .eql, [.t 12, .t 14], some (10, false)⟩, ⟨some 16, .mov, [.t 15], some (10, false)⟩, ⟨some 17, .mov, [.t 0], some (16, true)⟩, ⟨some 18, .mov, [.t 1], some (16, true)⟩, ⟨some 19, .call 105, [.t 17, .t 18], some (16, true)⟩, ⟨some 20, .pick, [.t 16, .t 19, .c (.bool false)], some (10, false)⟩, ⟨some 21, .pick, [.t 10, .c (.bool true), .t 20], none⟩, ⟨some 4, .mov, [.t 21], none⟩]) .ret))
theorem fc50 : fnC Tryz.prog 50 cert50 = some (22, [.tmp 4], ac50) := by kernel_rfl
def cert51 : Nat → Option Cert := fun _ => none
def ac51 : ACode :=(.seq
 (.ops [⟨some 2, .mov, [.c .emp], none⟩])
 (.seq
 (.ops [⟨some 3, .mov, [.c .emp], none⟩])
 (.seq
 (.seq
 (.ops [⟨some 4, .mov, [.c (.int .i64 0)], none⟩])
 (.block 0
 (.loop
 (.seq
 (.seq
 (.ops [⟨some 5, .mov, [.t 0], none⟩, ⟨some 6, .mov, [.t 4], none⟩, ⟨some 7, .conv .u64, [.t 6], none⟩, ⟨some 8, .bin .shr, [.t 5, .t 7], none⟩, ⟨some 9, .bin .gtr, [.t 8, .c (.int .i64 0)], none⟩])
 (.cond (.t 9) .skip (.exit 0)))
 (.seq
 (.block 1
 (.seq
 (.ops [⟨some 12, .mov, [.t 0], none⟩, ⟨some 13, .mov, [.t 4], none⟩, ⟨some 14, .conv .u64, [.t 13], none⟩, ⟨some 15, .bin .shr, [.t 12, .t 14], none⟩, ⟨some 16, .bin .rem, [.t 15, .c (.int .i64 2)], none⟩, ⟨some 17, .bin .eql, [.t 16, .c (.int .i64 1)], none⟩])
 (.cond (.t 17)
 (.ops [⟨some 18, .mov, [.t 3], none⟩, ⟨some 19, .mov, [.t 4], none⟩, ⟨some 20, .bslice 1, [.t 19], none⟩, ⟨some 21, .append 1 8, [.t 18, .t 20], none⟩, ⟨some 3, .mov, [.t 21], none⟩]) .skip)))
 (.ops [⟨some 10, .mov, [.t 4], none⟩, ⟨some 11, .bin .add, [.t 10, .c (.int .i64 1)], none⟩, ⟨some 4, .mov, [.t 11], none⟩]))))))
 (.seq
 (.ops [⟨some 22, .mov, [.t 3], none⟩, ⟨some 2, .mov, [.t 22], none⟩]) .ret))))
theorem fc51 : fnC Tryz.prog 51 cert51 = some (23, [.tmp 2], ac51) := by kernel_rfl
def cert54 : Nat → Option Cert := fun
  | 4 => some ⟨[0, 1, 2, 3, 4, 5, 6, 7, 8, 9, 10, 11, 12, 13, 14, 15, 16, 17, 18, 19, 20, 21, 22, 23], .done, [[], [], [0, 1], [0, 1, 2], [], [4], [0, 1, 2, 3, 4, 5], [0, 1, 2, 3, 4, 5, 6], [0, 1, 2, 3, 4, 5, 6, 7], [0, 1, 2, 3, 4, 5, 6, 7, 8], [0, 1, 2, 3, 4, 5, 6, 7, 8, 9], [0, 1, 2, 3, 4, 5, 6, 7, 8, 9, 10], [0, 1, 2, 3, 4, 5, 6, 7, 8, 9, 10, 11], [0, 1, 2, 3, 4, 5, 6, 7, 8, 9, 10, 11], [0, 1, 2, 3, 4, 5, 6, 7, 8, 9, 10, 11, 12, 13], [0, 1, 2, 3, 4, 5, 6, 7, 8, 9, 10, 11, 12, 13, 14], [0, 1, 2, 3, 4, 5, 6, 7, 8, 9, 10, 11], [0, 1, 2, 3, 4, 5, 6, 7, 8, 9, 10, 11], [0, 1, 2, 3, 4, 5, 6, 7, 8, 9, 10, 11, 17], [0, 1, 2, 3, 4, 5, 6, 7, 8, 9, 10, 11, 16, 17, 18], [0, 1, 2, 3, 4, 5, 6, 7, 8, 9, 10, 11, 16, 17, 18, 19], [0, 1, 2, 3, 4, 5, 6, 7, 8, 9, 10, 11, 12, 13, 14, 15, 16, 17, 18, 19, 20], [0, 1, 2, 3, 4, 5, 6, 7, 8, 9, 10, 11, 12, 13, 14, 15, 16, 17, 18, 19, 20, 21], [0, 1, 2, 3, 4, 5, 6, 7, 8, 9, 10, 11, 12, 13, 14, 15, 16, 17, 18, 19, 20, 21, 22]]⟩
  | _ => none
def ac54 : ACode :=(.seq
 (.ops [⟨some 4, .mov, [.c (.bool false)], none⟩])
 (.seq
 (.seq
 (.ops [⟨some 5, .mov, [.c (.int .i64 0)], none⟩])
 (.block 0
 (.loop
 (.seq
 (.seq
 (.ops [⟨some 6, .mov, [.t 5], none⟩, ⟨some 7, .mov, [.t 0], none⟩, ⟨some 8, .len, [.t 7], none⟩, ⟨some 9, .bin .lss, [.t 6, .t 8], none⟩])
 (.cond (.t 9) .skip (.exit 0)))
 (.seq
 (.block 1
 (.seq
 (.draw [(false, ⟨some 12, .mov, [.t 0], none⟩), (false, ⟨some 13, .mov, [.t 5], none⟩), (false, ⟨some 14, .idxaddr 1, [.t 12, .t 13], none⟩), (false, ⟨some 15, .load false 1, [.t 14], none⟩), (false, ⟨some 16, .mov, [.t 1], none⟩), (false, ⟨some 17, .bin .sub, [.t 16, .c (.int .i64 1)], none⟩), (false, ⟨some 18, .call 47, [.t 15, .c (.int .i64 0), .t 17], none⟩), (false, ⟨some 19, .not, [.t 18], none⟩), (false, ⟨some 20, .mov, [.t 19], none⟩), (false, ⟨some 21, .mov, [.t 5], some (20, false)⟩), (false, ⟨some 22, .bin .gtr, [.t 21, .c (.int .i64 0)], some (20, false)⟩), (false, ⟨some 23, .mov, [.t 22], some (20, false)⟩), (false, ⟨some 24, .mov, [.t 0], some (23, true)⟩), (false, ⟨some 25, .mov, [.t 5], some (23, true)⟩), (false, ⟨some 26, .idxaddr 1, [.t 24, .t 25], some (23, true)⟩), (false, ⟨some 27, .load false 1, [.t 26], some (23, true)⟩), (false, ⟨some 28, .mov, [.t 0], some (23, true)⟩), (false, ⟨some 29, .mov, [.t 5], some (23, true)⟩), (false, ⟨some 30, .bin .sub, [.t 29, .c (.int .i64 1)], some (23, true)⟩), (false, ⟨some 31, .idxaddr 1, [.t 28, .t 30], some (23, true)⟩), (false, ⟨some 32, .load false 1, [.t 31], some (23, true)⟩), (false, ⟨some 33, .bin .leq, [.t 27, .t 32], some (23, true)⟩), (false, ⟨some 34, .pick, [.t 23, .t 33, .c (.bool false)], some (20, false)⟩), (false, ⟨some 35, .pick, [.t 20, .c (.bool true), .t 34], none⟩)] .done)
 (.cond (.t 35)
 (.seq
 (.ops [⟨some 4, .mov, [.c (.bool false)], none⟩]) .ret) .skip)))
 (.ops [⟨some 10, .mov, [.t 5], none⟩, ⟨some 11, .bin .add, [.t 10, .c (.int .i64 1)], none⟩, ⟨some 5, .mov, [.t 11], none⟩]))))))
 (.seq
 (.ops [⟨some 4, .mov, [.c (.bool true)], none⟩]) .ret)))
theorem fc54 : fnC Tryz.prog 54 cert54 = some (36, [.tmp 4], ac54) := by kernel_rfl
def cert58 : Nat → Option Cert := fun
  | 1 => some ⟨[0, 1, 2, 3, 4, 5, 6, 7], (.one 8 (.one 9 (.one 10 .done))), [[], [], [], [1, 2], [0, 1, 2, 3], [0, 1, 2, 3, 4], [0, 1, 2, 3, 4, 5], [0, 1, 2, 3, 4, 5], [], [0, 1, 2, 3, 4, 5, 6, 8], [0, 1, 2, 3, 4, 5, 6, 7, 8, 9]]⟩
  | _ => none
def ac58 : ACode :=(.seq
 (.ops [⟨some 2, .box, [.t 0], none⟩, ⟨some 3, .box, [.t 1], none⟩, ⟨some 4, .mov, [.c .emp], none⟩, ⟨some 5, .mov, [.c (.int .i64 0)], none⟩])
 (.seq
 (.draw [(true, ⟨some 12, .load true 9, [.t 2], none⟩), (true, ⟨some 13, .load true 9, [.t 2], none⟩), (true, ⟨some 14, .load false 1, [.t 3], none⟩), (true, ⟨some 15, .call 99, [.t 13, .t 14], none⟩), (true, ⟨some 16, .call 76, [.t 12, .t 15], none⟩), (true, ⟨some 11, .mov, [.t 16], none⟩), (true, ⟨some 17, .extract 0, [.t 11], none⟩), (true, ⟨some 18, .extract 1, [.t 11], none⟩)] (.one ⟨some 6, (.alloc [.nilp]), [], none⟩ [⟨some 12, .load true 9, [.t 2], none⟩, ⟨some 13, .load true 9, [.t 2], none⟩, ⟨some 14, .load false 1, [.t 3], none⟩] (.one ⟨none, .store 1, [.t 6, .t 17], none⟩ [] (.one ⟨some 7, .mov, [.t 18], none⟩ [] .done))))
 (.seq
 (.seq
 (.ops [⟨some 19, .mov, [.t 7], none⟩, ⟨some 20, .bin .neq, [.t 19, .c (.int .i64 0)], none⟩])
 (.cond (.t 20)
 (.seq
 (.ops [⟨some 21, .mov, [.t 7], none⟩, ⟨some 4, .mov, [.c .emp], none⟩, ⟨some 5, .mov, [.t 21], none⟩]) .ret) .skip))
 (.seq
 (.ops [⟨some 8, (.alloc [.emp]), [], none⟩])
 (.seq
 (.ops [⟨some 9, (.alloc [.nilf]), [], none⟩])
 (.seq
 (.ops [⟨some 22, (.mkfunc (.func 107) 0), [.t 8, .t 6, .t 3, .t 2, .t 9], none⟩, ⟨none, .store 1, [.t 9, .t 22], none⟩])
 (.seq
 (.seq
 (.ops [⟨some 23, .load true 9, [.t 2], none⟩, ⟨some 24, .load false 1, [.t 3], none⟩, ⟨some 25, .call 109, [.t 23, .t 24], none⟩, ⟨some 26, .bin .add, [.t 25, .c (.int .i64 1)], none⟩, ⟨some 27, .mov, [.c (.int .i64 0)], none⟩])
 (.block 0
 (.loop
 (.seq
 (.ops [⟨some 28, .bin .lss, [.t 27, .t 26], none⟩])
 (.seq
 (.cond (.t 28) .skip (.exit 0))
 (.seq
 (.block 1
 (.seq
 (.ops [⟨some 29, .mov, [.t 27], none⟩, ⟨some 10, .mov, [.t 29], none⟩])
 (.seq
 (.ops [⟨some 30, .load false 1, [.t 9], none⟩, ⟨some 31, .mov, [.t 10], none⟩, ⟨some 32, .callv, [.t 30, .c .emp, .t 31], none⟩])
 (.cond (.t 32)
 (.seq
 (.ops [⟨some 33, .load false 1, [.t 8], none⟩, ⟨some 4, .mov, [.t 33], none⟩, ⟨some 5, .mov, [.c (.int .i64 0)], none⟩]) .ret) .skip))))
 (.ops [⟨some 34, .bin .add, [.t 27, .c (.int .i64 1)], none⟩, ⟨some 27, .mov, [.t 34], none⟩])))))))
 (.seq
 (.ops [⟨some 4, .mov, [.c .emp], none⟩, ⟨some 5, .mov, [.c (.int .i64 10)], none⟩]) .ret))))))))
theorem fc58 : fnC Tryz.prog 58 cert58 = some (35, [.tmp 4, .tmp 5], ac58) := by kernel_rfl
def cert64 : Nat → Option Cert := fun _ => none
def ac64 : ACode :=(.seq
 (.ops [⟨some 1, .box, [.t 0], none⟩, ⟨some 2, .mov, [.c (.bool false)], none⟩])
 (.seq
 (.ops [⟨some 3, .fieldaddr 0, [.t 1], none⟩, ⟨some 4, .load true 3, [.t 3], none⟩, ⟨some 5, .call 113, [.t 4], none⟩, ⟨some 6, .mov, [.t 5], none⟩, ⟨some 7, .fieldaddr 3, [.t 1], some (6, true)⟩, ⟨some 8, .load false 1, [.t 7], some (6, true)⟩, ⟨some 9, .len, [.t 8], some (6, true)⟩, ⟨some 10, .bin .leq, [.t 9, .c (.int .i64 30)], some (6, true)⟩, ⟨some 11, .pick, [.t 6, .t 10, .c (.bool false)], none⟩, ⟨some 12, .mov, [.t 11], none⟩, ⟨some 13, .fieldaddr 6, [.t 1], some (12, true)⟩, ⟨some 14, .load false 1, [.t 13], some (12, true)⟩, ⟨some 15, .len, [.t 14], some (12, true)⟩, ⟨some 16, .bin .leq, [.t 15, .c (.int .i64 30)], some (12, true)⟩, ⟨some 17, .pick, [.t 12, .t 16, .c (.bool false)], none⟩, ⟨some 18, .mov, [.t 17], none⟩, ⟨some 19, .fieldaddr 7, [.t 1], some (18, true)⟩, ⟨some 20, .load false 1, [.t 19], some (18, true)⟩, ⟨some 21, .len, [.t 20], some (18, true)⟩, ⟨some 22, .bin .leq, [.t 21, .c (.int .i64 30)], some (18, true)⟩, ⟨some 23, .pick, [.t 18, .t 22, .c (.bool false)], none⟩, ⟨some 24, .mov, [.t 23], none⟩, ⟨some 25, .fieldaddr 8, [.t 1], some (24, true)⟩, ⟨some 26, .load false 1, [.t 25], some (24, true)⟩, ⟨some 27, .len, [.t 26], some (24, true)⟩, ⟨some 28, .bin .leq, [.t 27, .c (.int .i64 30)], some (24, true)⟩, ⟨some 29, .pick, [.t 24, .t 28, .c (.bool false)], none⟩, ⟨some 2, .mov, [.t 29], none⟩]) .ret))
theorem fc64 : fnC Tryz.prog 64 cert64 = some (30, [.tmp 2], ac64) := by kernel_rfl
def cert66 : Nat → Option Cert := fun
  | 6 => some ⟨[0, 1, 2, 3, 4, 5, 6, 7, 8], .done, [[], [0], [], [2], [], [4], [0, 1], [0, 1, 2, 3, 6], [0, 1, 2, 3, 4, 5, 6, 7]]⟩
  | _ => none
def ac66 : ACode :=(.seq
 (.ops [⟨some 1, .box, [.t 0], none⟩, ⟨some 2, .mov, [.c (.int .i64 0)], none⟩])
 (.seq
 (.seq
 (.ops [⟨some 8, .fieldaddr 5, [.t 1], none⟩, ⟨some 9, .load false 1, [.t 8], none⟩, ⟨some 10, .bin .gtr, [.t 9, .c (.int .i64 5)], none⟩, ⟨some 11, .mov, [.t 10], none⟩, ⟨some 12, .fieldaddr 4, [.t 1], some (11, false)⟩, ⟨some 13, .load false 1, [.t 12], some (11, false)⟩, ⟨some 14, .bin .gtr, [.t 13, .c (.int .i64 10)], some (11, false)⟩, ⟨some 15, .pick, [.t 11, .c (.bool true), .t 14], none⟩, ⟨some 16, .mov, [.t 15], none⟩, ⟨some 17, .fieldaddr 6, [.t 1], some (16, false)⟩, ⟨some 18, .load false 1, [.t 17], some (16, false)⟩, ⟨some 19, .len, [.t 18], some (16, false)⟩, ⟨some 20, .bin .gtr, [.t 19, .c (.int .i64 6)], some (16, false)⟩, ⟨some 21, .pick, [.t 16, .c (.bool true), .t 20], none⟩, ⟨some 22, .mov, [.t 21], none⟩, ⟨some 23, .fieldaddr 7, [.t 1], some (22, false)⟩, ⟨some 24, .load false 1, [.t 23], some (22, false)⟩, ⟨some 25, .len, [.t 24], some (22, false)⟩, ⟨some 26, .bin .gtr, [.t 25, .c (.int .i64 4)], some (22, false)⟩, ⟨some 27, .pick, [.t 22, .c (.bool true), .t 26], none⟩, ⟨some 28, .mov, [.t 27], none⟩, ⟨some 29, .fieldaddr 8, [.t 1], some (28, false)⟩, ⟨some 30, .load false 1, [.t 29], some (28, false)⟩, ⟨some 31, .len, [.t 30], some (28, false)⟩, ⟨some 32, .bin .gtr, [.t 31, .c (.int .i64 5)], some (28, false)⟩, ⟨some 33, .pick, [.t 28, .c (.bool true), .t 32], none⟩])
 (.cond (.t 33)
 (.seq
 (.ops [⟨some 2, .mov, [.c (.int .i64 3)], none⟩]) .ret) .skip))
 (.seq
 (.seq
 (.ops [⟨some 35, .fieldaddr 0, [.t 1], none⟩, ⟨some 36, .load true 3, [.t 35], none⟩, ⟨some 37, .call 45, [.t 36], none⟩, ⟨some 34, .mov, [.t 37], none⟩, ⟨some 38, .extract 0, [.t 34], none⟩, ⟨some 39, .extract 1, [.t 34], none⟩, ⟨some 3, .mov, [.t 38], none⟩, ⟨some 4, .mov, [.t 39], none⟩])
 (.seq
 (.ops [⟨some 40, .mov, [.t 4], none⟩, ⟨some 41, .bin .neq, [.t 40, .c (.int .i64 0)], none⟩])
 (.cond (.t 41)
 (.seq
 (.ops [⟨some 42, .mov, [.t 4], none⟩, ⟨some 2, .mov, [.t 42], none⟩]) .ret) .skip)))
 (.seq
 (.draw [(false, ⟨some 43, .load true 9, [.t 1], none⟩), (false, ⟨some 44, (.mkfunc (.func 115) 1), [.t 43], none⟩), (false, ⟨some 45, .load true 9, [.t 1], none⟩), (false, ⟨some 46, (.mkfunc (.func 116) 1), [.t 45], none⟩), (false, ⟨some 47, .load true 9, [.t 1], none⟩), (false, ⟨some 48, (.mkfunc (.func 117) 1), [.t 47], none⟩), (false, ⟨some 5, .mov, [.t 44], none⟩), (false, ⟨some 6, .mov, [.t 46], none⟩), (false, ⟨some 7, .mov, [.t 48], none⟩)] .done)
 (.seq
 (.block 0
 (.seq
 (.ops [⟨some 50, .fieldaddr 5, [.t 1], none⟩, ⟨some 51, .load false 1, [.t 50], none⟩, ⟨some 52, .bin .lss, [.t 51, .c (.int .i64 0)], none⟩, ⟨some 53, .mov, [.t 52], none⟩, ⟨some 54, .fieldaddr 4, [.t 1], some (53, false)⟩, ⟨some 55, .load false 1, [.t 54], some (53, false)⟩, ⟨some 56, .bin .lss, [.t 55, .c (.int .i64 0)], some (53, false)⟩, ⟨some 57, .pick, [.t 53, .c (.bool true), .t 56], none⟩, ⟨some 58, .mov, [.t 57], none⟩, ⟨some 59, .load true 9, [.t 1], some (58, false)⟩, ⟨some 60, .call 77, [.t 59], some (58, false)⟩, ⟨some 61, .bin .gtr, [.t 60, .c (.int .i64 10)], some (58, false)⟩, ⟨some 62, .pick, [.t 58, .c (.bool true), .t 61], none⟩, ⟨some 63, .mov, [.t 62], none⟩, ⟨some 64, .fieldaddr 3, [.t 1], some (63, false)⟩, ⟨some 65, .load false 1, [.t 64], some (63, false)⟩, ⟨some 66, .fieldaddr 0, [.t 1], some (63, false)⟩, ⟨some 67, .fieldaddr 0, [.t 66], some (63, false)⟩, ⟨some 68, .load false 1, [.t 67], some (63, false)⟩, ⟨some 69, .len, [.t 68], some (63, false)⟩, ⟨some 70, .call 106, [.t 65, .t 69], some (63, false)⟩, ⟨some 71, .not, [.t 70], some (63, false)⟩, ⟨some 72, .pick, [.t 63, .c (.bool true), .t 71], none⟩, ⟨some 49, .mov, [.t 72], none⟩])
 (.cond (.t 49)
 (.seq
 (.ops [⟨some 2, .mov, [.c (.int .i64 1)], none⟩]) .ret)
 (.seq
 (.ops [⟨some 74, .fieldaddr 6, [.t 1], none⟩, ⟨some 75, .load false 1, [.t 74], none⟩, ⟨some 76, .mov, [.t 5], none⟩, ⟨some 77, .call 118, [.t 75, .t 76], none⟩, ⟨some 78, .not, [.t 77], none⟩, ⟨some 79, .mov, [.t 78], none⟩, ⟨some 80, .fieldaddr 7, [.t 1], some (79, false)⟩, ⟨some 81, .load false 1, [.t 80], some (79, false)⟩, ⟨some 82, .mov, [.t 6], some (79, false)⟩, ⟨some 83, .call 119, [.t 81, .t 82], some (79, false)⟩, ⟨some 84, .not, [.t 83], some (79, false)⟩, ⟨some 85, .pick, [.t 79, .c (.bool true), .t 84], none⟩, ⟨some 86, .mov, [.t 85], none⟩, ⟨some 87, .fieldaddr 8, [.t 1], some (86, false)⟩, ⟨some 88, .load false 1, [.t 87], some (86, false)⟩, ⟨some 89, .mov, [.t 7], some (86, false)⟩, ⟨some 90, .call 120, [.t 88, .t 89], some (86, false)⟩, ⟨some 91, .not, [.t 90], some (86, false)⟩, ⟨some 92, .pick, [.t 86, .c (.bool true), .t 91], none⟩, ⟨some 73, .mov, [.t 92], none⟩])
 (.cond (.t 73)
 (.seq
 (.ops [⟨some 2, .mov, [.c (.int .i64 1)], none⟩]) .ret)
 (.seq
 (.ops [⟨some 94, .load true 9, [.t 1], none⟩, ⟨some 95, .call 121, [.t 94], none⟩, ⟨some 96, .bin .gtr, [.t 95, .c (.int .i64 2000)], none⟩, ⟨some 93, .mov, [.t 96], none⟩])
 (.cond (.t 93)
 (.seq
 (.ops [⟨some 2, .mov, [.c (.int .i64 3)], none⟩]) .ret) .skip)))))))
 (.seq
 (.ops [⟨some 2, .mov, [.c (.int .i64 0)], none⟩]) .ret))))))
theorem fc66 : fnC Tryz.prog 66 cert66 = some (97, [.tmp 2], ac66) := by kernel_rfl
def cert69 : Nat → Option Cert := fun
  | 1 => some ⟨[0, 1, 2, 3, 4, 6, 8, 9], (.one 5 (.one 7 (.one 10 (.one 11 .done)))), [[], [], [], [], [3], [2, 3, 4], [], [2, 3, 4, 5, 6], [], [8], [0, 1, 2, 3, 4, 5, 6, 7, 8, 9], [0, 1, 2, 3, 4, 5, 6, 7, 8, 9, 10]]⟩
  | _ => none
def ac69 : ACode :=(.seq
 (.ops [⟨some 3, .box, [.t 0], none⟩, ⟨some 4, .box, [.t 1], none⟩, ⟨some 6, .mov, [.c (.int .i64 0)], none⟩])
 (.seq
 (.draw [(true, ⟨some 7, .load true 9, [.t 3], none⟩), (true, ⟨some 8, .load true 2, [.t 4], none⟩), (false, ⟨some 9, .bslice 2, [], none⟩), (false, ⟨some 10, .fieldaddr 7, [.t 3], none⟩), (false, ⟨some 11, .load false 1, [.t 10], none⟩), (true, ⟨some 13, .mov, [.t 2], none⟩), (true, ⟨some 15, .fieldaddr 5, [.t 3], none⟩), (true, ⟨some 16, .load false 1, [.t 15], none⟩)] (.one ⟨some 12, .append 2 16, [.t 9, .t 11], none⟩ [⟨some 7, .load true 9, [.t 3], none⟩, ⟨some 8, .load true 2, [.t 4], none⟩, ⟨some 16, .load false 1, [.t 15], none⟩] (.one ⟨some 14, .append 2 16, [.t 12, .t 13], none⟩ [⟨some 7, .load true 9, [.t 3], none⟩, ⟨some 8, .load true 2, [.t 4], none⟩, ⟨some 16, .load false 1, [.t 15], none⟩] (.one ⟨some 17, .call 123, [.t 7, .t 8, .t 14, .t 16], none⟩ [] (.one ⟨some 6, .mov, [.t 17], none⟩ [] .done))))) .ret))
theorem fc69 : fnC Tryz.prog 69 cert69 = some (18, [.tmp 6], ac69) := by kernel_rfl
def cert74 : Nat → Option Cert := fun
  | 3 => some ⟨[0, 1, 2, 3, 4, 5, 6, 7, 8, 9, 10, 11, 12], .one 13 .done, [[], [], [], [2], [2], [2, 4], [2, 4], [2, 4, 6], [2, 3, 4, 5, 6, 7], [], [], [9, 10], [0, 1, 2, 3, 4, 5, 6, 7, 8, 9, 10, 11], [0, 1, 2, 3, 4, 5, 6, 7, 8, 9, 10, 11, 12]]⟩
  | _ => none
def ac74 : ACode :=(.seq
 (.ops [⟨some 2, (.alloc [.emp, .emp, (.int .i64 0), .emp, (.int .i64 0), (.int .i64 0), .emp, .emp, .emp]), [], none⟩])
 (.seq
 (.ops [⟨some 5, (.build [(.int .i64 0), (.bool false)] [(0, 1)]), [.c (.int .i64 0)], none⟩, ⟨some 6, (.build [(.int .i64 0), (.bool false)] [(0, 1), (1, 1)]), [.c (.int .i64 1), .c (.bool true)], none⟩, ⟨some 7, .bslice 2, [.t 5, .t 6], none⟩, ⟨some 3, .mov, [.t 7], none⟩])
 (.seq
 (.ops [⟨some 8, (.build [(.int .i64 0), (.int .i64 0)] [(0, 1), (1, 1)]), [.c (.int .i64 2), .c (.int .i64 2)], none⟩, ⟨some 9, (.build [(.int .i64 0), (.int .i64 0), (.int .i64 0)] [(0, 1), (1, 2)]), [.c (.int .i64 1), .t 8], none⟩, ⟨some 10, (.build [(.int .i64 0), (.int .i64 0)] [(0, 1), (1, 1)]), [.c (.int .i64 1), .c (.int .i64 2)], none⟩, ⟨some 11, (.build [(.int .i64 0), (.int .i64 0), (.int .i64 0)] [(0, 1), (1, 2)]), [.c (.int .i64 1), .t 10], none⟩, ⟨some 12, (.build [(.int .i64 0), (.int .i64 0)] [(0, 1), (1, 1)]), [.c (.int .i64 1), .c (.int .i64 1)], none⟩, ⟨some 13, (.build [(.int .i64 0), (.int .i64 0), (.int .i64 0)] [(0, 1), (1, 2)]), [.c (.int .i64 2), .t 12], none⟩, ⟨some 14, .bslice 3, [.t 9, .t 11, .t 13], none⟩, ⟨some 15, .bslice 1, [.c (.int .i64 1)], none⟩, ⟨some 16, (.build [.emp, (.int .i64 0)] [(0, 1)]), [.t 15], none⟩, ⟨some 17, .bslice 1, [.c (.int .i64 1), .c (.int .i64 2)], none⟩, ⟨some 18, (.build [.emp, (.int .i64 0)] [(0, 1)]), [.t 17], none⟩, ⟨some 19, .bslice 1, [.c (.int .i64 1)], none⟩, ⟨some 20, (.build [.emp, (.int .i64 0)] [(0, 1), (1, 1)]), [.t 19, .c (.int .i64 1)], none⟩, ⟨some 21, .bslice 1, [.c (.int .i64 2)], none⟩, ⟨some 22, (.build [.emp, (.int .i64 0)] [(0, 1), (1, 1)]), [.t 21, .c (.int .i64 1)], none⟩, ⟨some 23, .bslice 2, [.t 16, .t 18, .t 20, .t 22], none⟩, ⟨some 24, (.build [.emp, .emp, (.int .i64 0)] [(0, 1), (1, 1)]), [.t 14, .t 23], none⟩, ⟨some 4, (.alloc [.emp, .emp, (.int .i64 0)]), [], none⟩, ⟨none, .store 3, [.t 4, .t 24], none⟩])
 (.seq
 (.draw [(false, ⟨some 25, .load true 3, [.t 4], none⟩), (false, ⟨some 26, .bslice 1, [.c (.int .i64 2)], none⟩), (false, ⟨some 27, .call 125, [.c (.int .i64 0), .c (.int .i64 1)], none⟩), (false, ⟨some 28, (.build [(.int .i64 0), (.int .i64 0), (.int .i64 0), (.int .i64 0)] [(0, 1), (1, 1), (2, 2)]), [.c (.int .i64 3), .c (.int .i64 4), .t 27], none⟩), (false, ⟨some 29, .call 125, [.c (.int .i64 0), .c (.int .i64 1)], none⟩), (false, ⟨some 30, (.build [(.int .i64 0), (.int .i64 0), (.int .i64 0), (.int .i64 0)] [(0, 1), (1, 1), (2, 2)]), [.c (.int .i64 4), .c (.int .i64 0), .t 29], none⟩), (false, ⟨some 31, .call 125, [.c (.int .i64 2), .c (.int .i64 2)], none⟩), (false, ⟨some 32, (.build [(.int .i64 0), (.int .i64 0), (.int .i64 0), (.int .i64 0)] [(0, 1), (1, 1), (2, 2)]), [.c (.int .i64 0), .c (.int .i64 1), .t 31], none⟩), (false, ⟨some 33, .bslice 4, [.t 28, .t 30, .t 32], none⟩), (false, ⟨some 34, .mov, [.t 3], none⟩), (false, ⟨some 35, .mov, [.t 0], none⟩), (false, ⟨some 36, .sub 2, [.t 34, .t 35], none⟩), (false, ⟨some 37, (.build [.emp, .emp, (.int .i64 0), .emp, (.int .i64 0), (.int .i64 0), .emp, .emp, .emp] [(0, 3), (3, 1), (4, 1), (5, 1), (6, 1), (8, 1)]), [.t 25, .t 26, .c (.int .i64 1), .c (.int .i64 2), .t 33, .t 36], none⟩)] (.one ⟨none, .store 9, [.t 2, .t 37], none⟩ [] .done)) .ret))))
theorem fc74 : fnC Tryz.prog 74 cert74 = some (38, [.cell 2 45], ac74) := by kernel_rfl
def cert75 : Nat → Option Cert := fun _ => none
def ac75 : ACode :=(.seq
 (.ops [⟨some 4, (.alloc [.emp, .emp]), [], none⟩])
 (.seq
 (.ops [⟨some 5, .bslice 1, [.c (.int .i64 0), .c (.int .i64 0), .c (.int .i64 1), .c (.int .i64 2)], none⟩, ⟨some 6, .mov, [.t 0], none⟩, ⟨some 7, .mov, [.t 1], none⟩, ⟨some 8, .bslice 1, [.t 6, .t 7, .c (.int .i64 2)], none⟩, ⟨some 9, (.build [.emp, .emp] [(0, 1), (1, 1)]), [.t 5, .t 8], none⟩, ⟨none, .store 2, [.t 4, .t 9], none⟩]) .ret))
theorem fc75 : fnC Tryz.prog 75 cert75 = some (10, [.cell 4 71], ac75) := by kernel_rfl
def cert76 : Nat → Option Cert := fun
  | 12 => some ⟨[0, 1, 2, 3, 4, 5, 6, 7, 8], (.one 9 (.one 10 (.one 11 (.one 12 .done)))), [[], [], [1], [1, 2], [1, 2, 3], [], [], [5, 6], [5, 6, 7], [1, 2, 3, 4, 5, 6, 7, 8], [0, 1, 2, 3, 4, 5, 6, 7, 8, 9], [0, 1, 2, 3, 4, 5, 6, 7, 8, 9, 10], [0, 1, 2, 3, 4, 5, 6, 7, 8, 9, 10, 11]]⟩
  | _ => none
def ac76 (ga gb : Code) : ACode :=(.seq
 (.ops [⟨some 2, .box, [.t 0], none⟩, ⟨some 4, .mov, [.c .nilp], none⟩, ⟨some 5, .mov, [.c (.int .i64 0)], none⟩])
 (.seq
 (.seq
 (.ops [⟨some 11, .load true 9, [.t 2], none⟩, ⟨some 12, .call 66, [.t 11], none⟩, ⟨some 6, .mov, [.t 12], none⟩])
 (.seq
 (.ops [⟨some 13, .mov, [.t 6], none⟩, ⟨some 14, .bin .neq, [.t 13, .c (.int .i64 0)], none⟩])
 (.cond (.t 14)
 (.seq
 (.ops [⟨some 15, .mov, [.t 6], none⟩, ⟨some 4, .mov, [.c .nilp], none⟩, ⟨some 5, .mov, [.t 15], none⟩]) .ret) .skip)))
 (.seq
 (.seq
 (.ops [⟨some 16, .mov, [.t 1], none⟩, ⟨some 17, .not, [.t 16], none⟩])
 (.cond (.t 17)
 (.seq
 (.ops [⟨some 4, .mov, [.c .nilp], none⟩, ⟨some 5, .mov, [.c (.int .i64 2)], none⟩]) .ret) .skip))
 (.seq
 (.ops [⟨some 18, .load true 9, [.t 2], none⟩, ⟨some 19, (.build [.emp, .emp, (.int .i64 0), .emp, (.int .i64 0), (.int .i64 0), .emp, .emp, .emp, .emp] [(0, 9), (9, 1)]), [.t 18, .c .emp], none⟩, ⟨some 20, .box, [.t 19], none⟩, ⟨some 7, (.alloc [.nilp]), [], none⟩, ⟨none, .store 1, [.t 7, .t 20], none⟩])
 (.seq
 (.ops [⟨some 21, .load true 9, [.t 2], none⟩, ⟨some 22, .call 93, [.t 21, .c .emp], none⟩, ⟨some 8, (.alloc [.any]), [], none⟩, ⟨none, .store 1, [.t 8, .t 22], none⟩])
 (.seq
 (.seq
 (.ops [⟨some 23, .load true 9, [.t 2], none⟩, ⟨some 24, .call 126, [.t 23], none⟩])
 (.block 0 (.range (.t 24) #[25] ga gb)))
 (.seq
 (.seq
 (.ops [⟨some 45, .load false 1, [.t 7], none⟩, ⟨some 46, .nilchk, [.t 45], none⟩, ⟨some 47, .fieldaddr 9, [.t 46], none⟩, ⟨some 48, .load false 1, [.t 47], none⟩, ⟨some 49, .len, [.t 48], none⟩, ⟨some 50, .bin .eql, [.t 49, .c (.int .i64 0)], none⟩])
 (.cond (.t 50)
 (.seq
 (.ops [⟨some 4, .mov, [.c .nilp], none⟩, ⟨some 5, .mov, [.c (.int .i64 11)], none⟩]) .ret) .skip))
 (.seq
 (.ops [⟨some 51, .load false 1, [.t 7], none⟩, ⟨some 4, .mov, [.t 51], none⟩, ⟨some 5, .mov, [.c (.int .i64 0)], none⟩]) .ret))))))))
theorem fc76 : fnC Tryz.prog 76 cert76 = some (52, [.tmp 4, .tmp 5], (ac76 (rangeF Tryz.f76).1 (rangeF Tryz.f76).2)) := by kernel_rfl
def aga76 : ACode :=(.ops [⟨some 9, (.alloc [(.int .i64 0), (.int .i64 0), (.int .i64 0), (.int .i64 0), (.int .i64 0), (.int .i64 0), (.int .i64 0), (.int .i64 0), (.int .i64 0), (.int .i64 0), (.int .i64 0), (.int .i64 0), (.int .i64 0)]), [], none⟩, ⟨none, .store 13, [.t 9, .t 25], none⟩])
def agb76 : ACode :=(.block 1
 (.seq
 (.ops [⟨some 26, .load true 9, [.t 2], none⟩, ⟨some 27, .load true 13, [.t 9], none⟩, ⟨some 28, .load false 1, [.t 8], none⟩, ⟨some 29, .call 92, [.t 26, .t 27, .t 28], none⟩, ⟨some 10, (.alloc [(.bool false), (.bool false), (.bool false), (.bool false), (.bool false), (.bool false), (.bool false), (.bool false), (.bool false), (.bool false)]), [], none⟩, ⟨none, .store 10, [.t 10, .t 29], none⟩])
 (.seq
 (.ops [⟨some 30, .load true 9, [.t 2], none⟩, ⟨some 31, .load true 10, [.t 10], none⟩, ⟨some 32, .call 114, [.t 30, .t 31, .c .emp], none⟩])
 (.cond (.t 32)
 (.draw [(true, ⟨some 33, .load false 1, [.t 7], none⟩), (false, ⟨some 34, .load false 1, [.t 7], none⟩), (false, ⟨some 35, .nilchk, [.t 34], none⟩), (false, ⟨some 36, .fieldaddr 9, [.t 35], none⟩), (false, ⟨some 37, .load false 1, [.t 36], none⟩), (false, ⟨some 38, .load true 13, [.t 9], none⟩), (false, ⟨some 39, .load true 10, [.t 10], none⟩), (false, ⟨some 40, (.build [(.int .i64 0), (.int .i64 0), (.int .i64 0), (.int .i64 0), (.int .i64 0), (.int .i64 0), (.int .i64 0), (.int .i64 0), (.int .i64 0), (.int .i64 0), (.int .i64 0), (.int .i64 0), (.int .i64 0), (.bool false), (.bool false), (.bool false), (.bool false), (.bool false), (.bool false), (.bool false), (.bool false), (.bool false), (.bool false)] [(0, 13), (13, 10)]), [.t 38, .t 39], none⟩), (false, ⟨some 41, .bslice 23, [.t 40], none⟩)] (.one ⟨some 42, .append 23 120, [.t 37, .t 41], none⟩ [⟨some 33, .load false 1, [.t 7], none⟩] (.one ⟨some 43, .nilchk, [.t 33], none⟩ [] (.one ⟨some 44, .fieldaddr 9, [.t 43], none⟩ [] (.one ⟨none, .store 1, [.t 44, .t 42], none⟩ [] .done))))) .skip))))
theorem tga76 : tr Tryz.prog 52 cert76 false (rangeF Tryz.f76).1 = some aga76 := by kernel_rfl
theorem tgb76 : tr Tryz.prog 52 cert76 false (rangeF Tryz.f76).2 = some agb76 := by kernel_rfl
def cert77 : Nat → Option Cert := fun
  | 1 => some ⟨[0, 1, 2, 3, 4, 5], .done, [[], [0], [], [2], [0, 1, 2, 3], [0, 1, 2, 3, 4]]⟩
  | _ => none
def ac77 : ACode :=(.seq
 (.ops [⟨some 1, .box, [.t 0], none⟩, ⟨some 2, .mov, [.c (.int .i64 0)], none⟩])
 (.seq
 (.draw [(false, ⟨some 3, .load true 9, [.t 1], none⟩), (false, ⟨some 4, .call 127, [.t 3], none⟩), (false, ⟨some 5, .fieldaddr 4, [.t 1], none⟩), (false, ⟨some 6, .load false 1, [.t 5], none⟩), (false, ⟨some 7, .bin .add, [.t 4, .t 6], none⟩), (false, ⟨some 2, .mov, [.t 7], none⟩)] .done) .ret))
theorem fc77 : fnC Tryz.prog 77 cert77 = some (8, [.tmp 2], ac77) := by kernel_rfl
end Go.Lift
set_option maxRecDepth 100000
set_option linter.unusedVariables false
namespace Go.Lift
open Go Go.Proofs
def cert78 : Nat → Option Cert := fun _ => none
def ac78 : ACode :=(.seq
 (.ops [⟨some 4, .box, [.t 1], none⟩, ⟨some 6, .mov, [.c (.bool false)], none⟩])
 (.seq
 (.ops [⟨some 7, .mov, [.t 2], none⟩, ⟨some 8, .fieldaddr 13, [.t 4], none⟩, ⟨some 9, .arraddr 10 1, [.t 8, .t 7], none⟩, ⟨some 10, .load false 1, [.t 9], none⟩, ⟨some 6, .mov, [.t 10], none⟩]) .ret))
theorem fc78 : fnC Tryz.prog 78 cert78 = some (11, [.tmp 6], ac78) := by kernel_rfl
def cert79 : Nat → Option Cert := fun _ => none
def ac79 : ACode :=(.seq
 (.ops [⟨some 3, .box, [.t 0], none⟩, ⟨some 6, .mov, [.c (.int .i64 0)], none⟩])
 (.seq
 (.ops [⟨some 7, .mov, [.c (.int .i64 0)], none⟩])
 (.seq
 (.seq
 (.ops [⟨some 10, .mov, [.t 1], none⟩, ⟨some 11, .nilchk, [.t 10], none⟩, ⟨some 12, .fieldaddr 9, [.t 11], none⟩, ⟨some 13, .load false 1, [.t 12], none⟩, ⟨some 14, .len, [.t 13], none⟩, ⟨some 15, .mov, [.c (.int .i64 0)], none⟩])
 (.block 0
 (.loop
 (.seq
 (.ops [⟨some 16, .bin .lss, [.t 15, .t 14], none⟩])
 (.seq
 (.cond (.t 16) .skip (.exit 0))
 (.seq
 (.block 1
 (.seq
 (.ops [⟨some 17, .idxaddr 23, [.t 13, .t 15], none⟩, ⟨some 18, .load true 23, [.t 17], none⟩, ⟨some 9, (.alloc [(.int .i64 0), (.int .i64 0), (.int .i64 0), (.int .i64 0), (.int .i64 0), (.int .i64 0), (.int .i64 0), (.int .i64 0), (.int .i64 0), (.int .i64 0), (.int .i64 0), (.int .i64 0), (.int .i64 0), (.bool false), (.bool false), (.bool false), (.bool false), (.bool false), (.bool false), (.bool false), (.bool false), (.bool false), (.bool false)]), [], none⟩, ⟨none, .store 23, [.t 9, .t 18], none⟩])
 (.seq
 (.ops [⟨some 19, .fieldaddr 0, [.t 3], none⟩, ⟨some 20, .load false 1, [.t 19], none⟩, ⟨some 21, .mov, [.t 1], none⟩, ⟨some 22, .load true 23, [.t 9], none⟩, ⟨some 23, .mov, [.t 2], none⟩, ⟨some 24, .callv, [.t 20, .t 21, .t 22, .t 23], none⟩])
 (.cond (.t 24)
 (.ops [⟨some 25, .mov, [.t 7], none⟩, ⟨some 26, .bin .add, [.t 25, .c (.int .i64 1)], none⟩, ⟨some 7, .mov, [.t 26], none⟩]) .skip))))
 (.ops [⟨some 27, .bin .add, [.t 15, .c (.int .i64 1)], none⟩, ⟨some 15, .mov, [.t 27], none⟩])))))))
 (.seq
 (.seq
 (.ops [⟨some 28, .mov, [.t 7], none⟩])
 (.block 2
 (.seq
 (.ops [⟨some 30, .mov, [.t 1], none⟩, ⟨some 31, .nilchk, [.t 30], none⟩, ⟨some 32, .fieldaddr 9, [.t 31], none⟩, ⟨some 33, .load false 1, [.t 32], none⟩, ⟨some 34, .len, [.t 33], none⟩, ⟨some 35, .bin .eql, [.t 28, .t 34], none⟩, ⟨some 29, .mov, [.t 35], none⟩])
 (.cond (.t 29)
 (.seq
 (.ops [⟨some 6, .mov, [.c (.int .i64 1)], none⟩]) .ret)
 (.seq
 (.ops [⟨some 37, .bin .eql, [.t 28, .c (.int .i64 0)], none⟩, ⟨some 36, .mov, [.t 37], none⟩])
 (.cond (.t 36)
 (.seq
 (.ops [⟨some 6, .mov, [.c (.int .i64 2)], none⟩]) .ret) .skip))))))
 (.seq
 (.ops [⟨some 6, .mov, [.c (.int .i64 3)], none⟩]) .ret)))))
theorem fc79 : fnC Tryz.prog 79 cert79 = some (38, [.tmp 6], ac79) := by kernel_rfl
def cert80 : Nat → Option Cert := fun
  | 4 => some ⟨[0, 1, 2, 3, 4, 5, 6, 7, 8, 9, 10, 11, 12, 13, 14, 15, 16, 17, 18, 19, 20, 21, 22, 23], .done, [[], [], [0, 1], [0, 1, 2], [0, 1, 2, 3], [0, 1, 2, 3, 4], [0, 1, 2, 3, 4], [0, 1, 2, 3, 4, 6], [0, 1, 2, 3, 4, 5, 6, 7], [0, 1, 2, 3, 4, 5, 6, 7, 8], [0, 1, 2, 3, 4], [0, 1, 2, 3, 4, 5, 6, 7, 8, 9, 10], [0, 1, 2, 3, 4, 5, 6, 7, 8, 9, 10, 11], [0, 1, 2, 3, 4, 5, 6, 7, 8, 9, 10, 11, 12], [0, 1, 2, 3, 4, 5, 6, 7, 8, 9, 10, 11, 12, 13], [0, 1, 2, 3, 4, 5, 6, 7, 8, 9, 10, 11, 12, 13, 14], [0, 1, 2, 3, 4, 5, 6, 7, 8, 9, 10, 11, 12, 13, 14, 15], [0, 1, 2, 3, 4, 5, 6, 7, 8, 9, 10, 11, 12, 13, 14, 15, 16], [0, 1, 2, 3, 4, 5, 6, 7, 8, 9, 10, 11, 12, 13], [0, 1, 2, 3, 4, 5, 6, 7, 8, 9, 10, 11, 12, 13, 18], [0, 1, 2, 3, 4, 5, 6, 7, 8, 9, 10, 11, 12, 13], [0, 1, 2, 3, 4, 5, 6, 7, 8, 9, 10, 11, 12, 13, 14, 15, 16, 17, 18, 19, 20], [0, 1, 2, 3, 4, 5, 6, 7, 8, 9, 10, 11, 12, 13, 14, 15, 16, 17, 18, 19, 20, 21], [0, 1, 2, 3, 4, 5, 6, 7, 8, 9, 10, 11, 12, 13, 14, 15, 16, 17, 18, 19, 20, 21, 22]]⟩
  | _ => none
def ac80 : ACode :=(.seq
 (.ops [⟨some 4, .box, [.t 1], none⟩, ⟨some 6, .mov, [.c (.bool false)], none⟩])
 (.seq
 (.seq
 (.ops [⟨some 8, .mov, [.t 0], none⟩, ⟨some 9, .nilchk, [.t 8], none⟩, ⟨some 10, .fieldaddr 0, [.t 9], none⟩, ⟨some 11, .load true 9, [.t 10], none⟩, ⟨some 12, .call 127, [.t 11], none⟩, ⟨some 13, .mov, [.c (.int .i64 0)], none⟩])
 (.block 0
 (.loop
 (.seq
 (.ops [⟨some 14, .bin .lss, [.t 13, .t 12], none⟩])
 (.seq
 (.cond (.t 14) .skip (.exit 0))
 (.seq
 (.block 1
 (.seq
 (.ops [⟨some 15, .mov, [.t 13], none⟩, ⟨some 7, .mov, [.t 15], none⟩])
 (.seq
 (.draw [(false, ⟨some 16, .mov, [.t 7], none⟩), (false, ⟨some 17, .fieldaddr 13, [.t 4], none⟩), (false, ⟨some 18, .arraddr 10 1, [.t 17, .t 16], none⟩), (false, ⟨some 19, .load false 1, [.t 18], none⟩), (false, ⟨some 20, .mov, [.t 19], none⟩), (false, ⟨some 21, .mov, [.t 7], some (20, true)⟩), (false, ⟨some 22, .fieldaddr 0, [.t 4], some (20, true)⟩), (false, ⟨some 23, .fieldaddr 0, [.t 22], some (20, true)⟩), (false, ⟨some 24, .arraddr 7 1, [.t 23, .t 21], some (20, true)⟩), (false, ⟨some 25, .load false 1, [.t 24], some (20, true)⟩), (false, ⟨some 26, .mov, [.t 2], some (20, true)⟩), (false, ⟨some 27, .bin .eql, [.t 25, .t 26], some (20, true)⟩), (false, ⟨some 28, .pick, [.t 20, .t 27, .c (.bool false)], none⟩), (false, ⟨some 29, .mov, [.t 28], none⟩), (false, ⟨some 30, .mov, [.t 0], some (29, true)⟩), (false, ⟨some 31, .nilchk, [.t 30], some (29, true)⟩), (false, ⟨some 32, .fieldaddr 0, [.t 31], some (29, true)⟩), (false, ⟨some 33, .load true 9, [.t 32], some (29, true)⟩), (false, ⟨some 34, .fieldaddr 0, [.t 4], some (29, true)⟩), (false, ⟨some 35, .load true 13, [.t 34], some (29, true)⟩), (false, ⟨some 36, .mov, [.t 7], some (29, true)⟩), (false, ⟨some 37, .call 128, [.t 33, .t 35, .t 36], some (29, true)⟩), (false, ⟨some 38, .not, [.t 37], some (29, true)⟩), (false, ⟨some 39, .pick, [.t 29, .t 38, .c (.bool false)], none⟩)] .done)
 (.cond (.t 39)
 (.seq
 (.ops [⟨some 6, .mov, [.c (.bool true)], none⟩]) .ret) .skip))))
 (.ops [⟨some 40, .bin .add, [.t 13, .c (.int .i64 1)], none⟩, ⟨some 13, .mov, [.t 40], none⟩])))))))
 (.seq
 (.ops [⟨some 6, .mov, [.c (.bool false)], none⟩]) .ret)))
theorem fc80 : fnC Tryz.prog 80 cert80 = some (41, [.tmp 6], ac80) := by kernel_rfl
def cert83 : Nat → Option Cert := fun
  | 4 => some ⟨[0, 1, 2, 3, 4, 5, 6], .done, [[], [], [], [], [1, 2, 3], [], [0, 1, 2, 3, 4, 5]]⟩
  | _ => none
def ac83 (ga gb : Code) : ACode :=(.seq
 (.ops [⟨some 2, .box, [.t 0], none⟩, ⟨some 3, .box, [.t 1], none⟩, ⟨some 4, (.alloc [(.bool false)]), [], none⟩])
 (.seq
 (.ops [⟨some 7, .load true 9, [.t 2], none⟩, ⟨some 8, .call 93, [.t 7, .c .emp], none⟩, ⟨some 5, (.alloc [.any]), [], none⟩, ⟨none, .store 1, [.t 5, .t 8], none⟩])
 (.seq
 (.seq
 (.ops [⟨some 9, .load true 9, [.t 2], none⟩, ⟨some 10, .call 126, [.t 9], none⟩])
 (.block 0 (.range (.t 10) #[11] ga gb)))
 (.seq
 (.ops [⟨none, .store 1, [.t 4, .c (.bool false)], none⟩]) .ret))))
theorem fc83 : fnC Tryz.prog 83 cert83 = some (19, [.cell 4 4], (ac83 (rangeF Tryz.f83).1 (rangeF Tryz.f83).2)) := by kernel_rfl
def aga83 : ACode :=(.ops [⟨some 6, (.alloc [(.int .i64 0), (.int .i64 0), (.int .i64 0), (.int .i64 0), (.int .i64 0), (.int .i64 0), (.int .i64 0), (.int .i64 0), (.int .i64 0), (.int .i64 0), (.int .i64 0), (.int .i64 0), (.int .i64 0)]), [], none⟩, ⟨none, .store 13, [.t 6, .t 11], none⟩])
def agb83 : ACode :=(.block 1
 (.seq
 (.draw [(false, ⟨some 12, .load true 9, [.t 2], none⟩), (false, ⟨some 13, .load true 9, [.t 2], none⟩), (false, ⟨some 14, .load true 13, [.t 6], none⟩), (false, ⟨some 15, .load false 1, [.t 5], none⟩), (false, ⟨some 16, .call 92, [.t 13, .t 14, .t 15], none⟩), (false, ⟨some 17, .load false 1, [.t 3], none⟩), (false, ⟨some 18, .call 114, [.t 12, .t 16, .t 17], none⟩)] .done)
 (.cond (.t 18)
 (.seq
 (.ops [⟨none, .store 1, [.t 4, .c (.bool true)], none⟩]) .ret) .skip)))
theorem tga83 : tr Tryz.prog 19 cert83 false (rangeF Tryz.f83).1 = some aga83 := by kernel_rfl
theorem tgb83 : tr Tryz.prog 19 cert83 false (rangeF Tryz.f83).2 = some agb83 := by kernel_rfl
def cert84 : Nat → Option Cert := fun
  | 7 => some ⟨[0, 1, 3, 4, 6, 7, 8, 9], (.one 2 (.one 5 (.one 10 .done))), [[], [], [1], [], [3], [1, 2, 3, 4], [], [6], [], [8], [0, 1, 2, 3, 4, 5, 6, 7, 8, 9]]⟩
  | _ => none
def ac84 : ACode :=(.seq
 (.ops [⟨some 9, .mov, [.c (.bool false)], none⟩])
 (.seq
 (.seq
 (.ops [⟨some 11, .mov, [.t 2], none⟩, ⟨some 12, .bin .eql, [.t 11, .c (.int .i64 0)], none⟩])
 (.cond (.t 12)
 (.seq
 (.ops [⟨some 13, .mov, [.t 0], none⟩, ⟨none, .store 1, [.t 3, .t 13], none⟩])
 (.seq
 (.ops [⟨some 14, .load true 9, [.t 4], none⟩, ⟨some 15, .mov, [.t 0], none⟩, ⟨some 16, .call 83, [.t 14, .t 15], none⟩, ⟨some 9, .mov, [.t 16], none⟩]) .ret)) .skip))
 (.seq
 (.seq
 (.ops [⟨some 17, .mov, [.t 1], none⟩, ⟨some 10, .mov, [.t 17], none⟩])
 (.block 0
 (.loop
 (.seq
 (.seq
 (.ops [⟨some 18, .mov, [.t 10], none⟩, ⟨some 19, .fieldaddr 8, [.t 4], none⟩, ⟨some 20, .load false 1, [.t 19], none⟩, ⟨some 21, .len, [.t 20], none⟩, ⟨some 22, .mov, [.t 2], none⟩, ⟨some 23, .bin .sub, [.t 21, .t 22], none⟩, ⟨some 24, .bin .leq, [.t 18, .t 23], none⟩])
 (.cond (.t 24) .skip (.exit 0)))
 (.seq
 (.block 1
 (.seq
 (.draw [(true, ⟨some 27, .load false 1, [.t 5], none⟩), (false, ⟨some 28, .mov, [.t 0], none⟩), (true, ⟨some 30, .mov, [.t 10], none⟩), (true, ⟨some 31, .bslice 1, [.t 30], none⟩), (true, ⟨some 33, .mov, [.t 10], none⟩), (true, ⟨some 34, .bin .add, [.t 33, .c (.int .i64 1)], none⟩), (true, ⟨some 35, .mov, [.t 2], none⟩), (true, ⟨some 36, .bin .sub, [.t 35, .c (.int .i64 1)], none⟩)] (.one ⟨some 29, .call 85, [.t 28], none⟩ [⟨some 27, .load false 1, [.t 5], none⟩] (.one ⟨some 32, .append 1 8, [.t 29, .t 31], none⟩ [⟨some 27, .load false 1, [.t 5], none⟩] (.one ⟨some 37, .callv, [.t 27, .t 32, .t 34, .t 36], none⟩ [] .done))))
 (.cond (.t 37)
 (.seq
 (.ops [⟨some 9, .mov, [.c (.bool true)], none⟩]) .ret) .skip)))
 (.ops [⟨some 25, .mov, [.t 10], none⟩, ⟨some 26, .bin .add, [.t 25, .c (.int .i64 1)], none⟩, ⟨some 10, .mov, [.t 26], none⟩]))))))
 (.seq
 (.ops [⟨some 9, .mov, [.c (.bool false)], none⟩]) .ret))))
theorem fc84 : fnC Tryz.prog 84 cert84 = some (38, [.tmp 9], ac84) := by kernel_rfl
def cert85 : Nat → Option Cert := fun _ => none
def ac85 : ACode :=(.seq
 (.ops [⟨some 2, .mov, [.c .emp], none⟩])
 (.seq
 (.seq
 (.ops [⟨some 3, .mov, [.t 0], none⟩, ⟨some 4, .isnil, [.t 3], none⟩])
 (.cond (.t 4)
 (.seq
 (.ops [⟨some 2, .mov, [.c .emp], none⟩]) .ret) .skip))
 (.seq
 (.ops [⟨some 5, .bslice 1, [], none⟩, ⟨some 6, .mov, [.t 0], none⟩, ⟨some 7, .append 1 8, [.t 5, .t 6], none⟩, ⟨some 2, .mov, [.t 7], none⟩]) .ret)))
theorem fc85 : fnC Tryz.prog 85 cert85 = some (8, [.tmp 2], ac85) := by kernel_rfl
def cert86 : Nat → Option Cert := fun
  | 5 => some ⟨[0, 1, 2, 3, 4, 5, 6, 7, 8, 9, 10, 11, 12, 13, 14, 15, 16, 17], .done, [[], [], [1], [], [1, 2, 3], [1, 2, 3, 4], [1, 2, 3, 4, 5], [1, 2, 3, 4, 5, 6], [1, 2, 3, 4, 5, 6, 7], [0, 1, 2, 3, 4, 5, 6, 7, 8], [0, 1, 2, 3, 4, 5, 6, 7, 8, 9], [], [11], [], [11, 12, 13], [11, 12, 13, 14], [11, 12, 13, 14, 15], [0, 1, 2, 3, 4, 5, 6, 7, 8, 9, 10, 11, 12, 13, 14, 15, 16]]⟩
  | _ => none
def ac86 : ACode :=(.seq
 (.ops [⟨some 2, .box, [.t 0], none⟩, ⟨some 3, .box, [.t 1], none⟩, ⟨some 4, .mov, [.c (.int .i64 0)], none⟩])
 (.seq
 (.ops [⟨some 8, .load true 9, [.t 2], none⟩, ⟨some 9, .load true 2, [.t 3], none⟩, ⟨some 10, .call 69, [.t 8, .t 9, .c .emp], none⟩, ⟨some 5, .mov, [.c (.int .i64 0)], none⟩, ⟨some 6, .mov, [.t 10], none⟩])
 (.seq
 (.seq
 (.ops [⟨some 7, .mov, [.c (.int .i64 0)], none⟩])
 (.block 0
 (.loop
 (.seq
 (.seq
 (.ops [⟨some 11, .mov, [.t 7], none⟩, ⟨some 12, .fieldaddr 8, [.t 2], none⟩, ⟨some 13, .load false 1, [.t 12], none⟩, ⟨some 14, .len, [.t 13], none⟩, ⟨some 15, .bin .lss, [.t 11, .t 14], none⟩])
 (.cond (.t 15) .skip (.exit 0)))
 (.seq
 (.block 1
 (.seq
 (.draw [(false, ⟨some 18, .mov, [.t 6], none⟩), (false, ⟨some 19, .fieldaddr 8, [.t 2], none⟩), (false, ⟨some 20, .load false 1, [.t 19], none⟩), (false, ⟨some 21, .mov, [.t 7], none⟩), (false, ⟨some 22, .idxaddr 2, [.t 20, .t 21], none⟩), (false, ⟨some 23, .fieldaddr 0, [.t 22], none⟩), (false, ⟨some 24, .load false 1, [.t 23], none⟩), (false, ⟨some 25, .conv .u64, [.t 24], none⟩), (false, ⟨some 26, .bin .shl, [.c (.int .i64 1), .t 25], none⟩), (false, ⟨some 27, .bin .and, [.t 18, .t 26], none⟩), (false, ⟨some 28, .bin .neq, [.t 27, .c (.int .i64 0)], none⟩), (false, ⟨some 29, .fieldaddr 8, [.t 2], none⟩), (false, ⟨some 30, .load false 1, [.t 29], none⟩), (false, ⟨some 31, .mov, [.t 7], none⟩), (false, ⟨some 32, .idxaddr 2, [.t 30, .t 31], none⟩), (false, ⟨some 33, .fieldaddr 1, [.t 32], none⟩), (false, ⟨some 34, .load false 1, [.t 33], none⟩), (false, ⟨some 35, .binb .eql, [.t 28, .t 34], none⟩)] .done)
 (.cond (.t 35)
 (.ops [⟨some 36, .mov, [.t 5], none⟩, ⟨some 37, .mov, [.t 7], none⟩, ⟨some 38, .conv .u64, [.t 37], none⟩, ⟨some 39, .bin .shl, [.c (.int .i64 1), .t 38], none⟩, ⟨some 40, .bin .or, [.t 36, .t 39], none⟩, ⟨some 5, .mov, [.t 40], none⟩]) .skip)))
 (.ops [⟨some 16, .mov, [.t 7], none⟩, ⟨some 17, .bin .add, [.t 16, .c (.int .i64 1)], none⟩, ⟨some 7, .mov, [.t 17], none⟩]))))))
 (.seq
 (.ops [⟨some 41, .mov, [.t 5], none⟩, ⟨some 4, .mov, [.t 41], none⟩]) .ret))))
theorem fc86 : fnC Tryz.prog 86 cert86 = some (42, [.tmp 4], ac86) := by kernel_rfl
def cert87 : Nat → Option Cert := fun _ => none
def ac87 : ACode :=(.seq
 (.ops [⟨some 4, .mov, [.c (.bool false)], none⟩])
 (.seq
 (.seq
 (.ops [⟨some 5, .mov, [.c (.int .i64 0)], none⟩])
 (.block 0
 (.loop
 (.seq
 (.seq
 (.ops [⟨some 6, .mov, [.t 5], none⟩, ⟨some 7, .mov, [.t 0], none⟩, ⟨some 8, .len, [.t 7], none⟩, ⟨some 9, .bin .lss, [.t 6, .t 8], none⟩])
 (.cond (.t 9) .skip (.exit 0)))
 (.seq
 (.block 1
 (.seq
 (.ops [⟨some 12, .mov, [.t 0], none⟩, ⟨some 13, .mov, [.t 5], none⟩, ⟨some 14, .idxaddr 1, [.t 12, .t 13], none⟩, ⟨some 15, .load false 1, [.t 14], none⟩, ⟨some 16, .mov, [.t 1], none⟩, ⟨some 17, .bin .and, [.t 15, .t 16], none⟩, ⟨some 18, .mov, [.t 1], none⟩, ⟨some 19, .bin .eql, [.t 17, .t 18], none⟩])
 (.cond (.t 19)
 (.seq
 (.ops [⟨some 4, .mov, [.c (.bool true)], none⟩]) .ret) .skip)))
 (.ops [⟨some 10, .mov, [.t 5], none⟩, ⟨some 11, .bin .add, [.t 10, .c (.int .i64 1)], none⟩, ⟨some 5, .mov, [.t 11], none⟩]))))))
 (.seq
 (.ops [⟨some 4, .mov, [.c (.bool false)], none⟩]) .ret)))
theorem fc87 : fnC Tryz.prog 87 cert87 = some (20, [.tmp 4], ac87) := by kernel_rfl
def cert88 : Nat → Option Cert := fun _ => none
def ac88 : ACode :=(.seq
 (.ops [⟨some 1, .box, [.t 0], none⟩, ⟨some 2, .mov, [.c .emp], none⟩])
 (.seq
 (.ops [⟨some 3, .mov, [.c .emp], none⟩])
 (.seq
 (.seq
 (.ops [⟨some 4, .mov, [.c (.int .i64 0)], none⟩])
 (.block 0
 (.loop
 (.seq
 (.seq
 (.ops [⟨some 6, .mov, [.t 4], none⟩, ⟨some 7, .load true 3, [.t 1], none⟩, ⟨some 8, .call 98, [.t 7], none⟩, ⟨some 9, .bin .lss, [.t 6, .t 8], none⟩])
 (.cond (.t 9) .skip (.exit 0)))
 (.seq
 (.block 1
 (.seq
 (.ops [⟨some 12, .load true 3, [.t 1], none⟩, ⟨some 13, .mov, [.t 4], none⟩, ⟨some 14, .call 129, [.t 12, .t 13], none⟩, ⟨some 5, .mov, [.t 14], none⟩])
 (.seq
 (.ops [⟨some 15, .load true 3, [.t 1], none⟩, ⟨some 16, .mov, [.t 5], none⟩, ⟨some 17, .call 122, [.t 15, .t 16], none⟩])
 (.cond (.t 17)
 (.ops [⟨some 18, .mov, [.t 3], none⟩, ⟨some 19, .mov, [.t 5], none⟩, ⟨some 20, .bslice 1, [.t 19], none⟩, ⟨some 21, .append 1 24, [.t 18, .t 20], none⟩, ⟨some 3, .mov, [.t 21], none⟩]) .skip))))
 (.ops [⟨some 10, .mov, [.t 4], none⟩, ⟨some 11, .bin .add, [.t 10, .c (.int .i64 1)], none⟩, ⟨some 4, .mov, [.t 11], none⟩]))))))
 (.seq
 (.ops [⟨some 22, .mov, [.t 3], none⟩, ⟨some 2, .mov, [.t 22], none⟩]) .ret))))
theorem fc88 : fnC Tryz.prog 88 cert88 = some (23, [.tmp 2], ac88) := by kernel_rfl
def cert89 : Nat → Option Cert := fun
  | 5 => some ⟨[0, 1, 2, 3, 4, 5, 6, 7, 8, 9, 10, 11, 12, 13, 14, 15, 16, 17, 18], .one 19 .done, [[], [], [1], [], [1, 2, 3], [1, 2, 3, 4], [1, 2, 3, 4, 5], [1, 2, 3, 4, 5, 6], [], [8], [], [8, 9, 10], [8, 9, 10, 11], [8, 9, 10, 11, 12], [8, 9, 10, 11, 12, 13], [1, 2, 3, 4, 5, 6, 7, 8, 9, 10, 11, 12, 13, 14], [1, 2, 3, 4, 5, 6, 7, 8, 9, 10, 11, 12, 13, 14, 15], [0, 1, 2, 3, 4, 5, 6, 7, 8, 9, 10, 11, 12, 13, 14, 15, 16], [0, 1, 2, 3, 4, 5, 6, 7, 8, 9, 10, 11, 12, 13, 14, 15, 16, 17], [0, 1, 2, 3, 4, 5, 6, 7, 8, 9, 10, 11, 12, 13, 14, 15, 16, 17, 18]]⟩
  | _ => none
def ac89 : ACode :=(.seq
 (.ops [⟨some 1, .box, [.t 0], none⟩, ⟨some 2, .mov, [.c (.int .i64 0)], none⟩])
 (.seq
 (.ops [⟨some 3, .mov, [.c (.int .i64 1)], none⟩])
 (.seq
 (.seq
 (.ops [⟨some 4, .mov, [.c (.int .i64 0)], none⟩])
 (.block 0
 (.loop
 (.seq
 (.seq
 (.ops [⟨some 5, .mov, [.t 4], none⟩, ⟨some 6, .fieldaddr 6, [.t 1], none⟩, ⟨some 7, .load false 1, [.t 6], none⟩, ⟨some 8, .len, [.t 7], none⟩, ⟨some 9, .bin .lss, [.t 5, .t 8], none⟩])
 (.cond (.t 9) .skip (.exit 0)))
 (.seq
 (.block 1
 (.draw [(false, ⟨some 12, .mov, [.t 3], none⟩), (false, ⟨some 13, .fieldaddr 6, [.t 1], none⟩), (false, ⟨some 14, .load false 1, [.t 13], none⟩), (false, ⟨some 15, .mov, [.t 4], none⟩), (false, ⟨some 16, .idxaddr 4, [.t 14, .t 15], none⟩), (false, ⟨some 17, .fieldaddr 2, [.t 16], none⟩), (false, ⟨some 18, .fieldaddr 1, [.t 17], none⟩), (false, ⟨some 19, .load false 1, [.t 18], none⟩), (false, ⟨some 20, .fieldaddr 6, [.t 1], none⟩), (false, ⟨some 21, .load false 1, [.t 20], none⟩), (false, ⟨some 22, .mov, [.t 4], none⟩), (false, ⟨some 23, .idxaddr 4, [.t 21, .t 22], none⟩), (false, ⟨some 24, .fieldaddr 2, [.t 23], none⟩), (false, ⟨some 25, .fieldaddr 0, [.t 24], none⟩), (false, ⟨some 26, .load false 1, [.t 25], none⟩), (false, ⟨some 27, .bin .sub, [.t 19, .t 26], none⟩), (false, ⟨some 28, .bin .add, [.t 27, .c (.int .i64 1)], none⟩), (false, ⟨some 29, .bin .mul, [.t 12, .t 28], none⟩), (false, ⟨some 30, .min, [.c (.int .i64 3000), .t 29], none⟩)] (.one ⟨some 3, .mov, [.t 30], none⟩ [] .done)))
 (.ops [⟨some 10, .mov, [.t 4], none⟩, ⟨some 11, .bin .add, [.t 10, .c (.int .i64 1)], none⟩, ⟨some 4, .mov, [.t 11], none⟩]))))))
 (.seq
 (.ops [⟨some 31, .mov, [.t 3], none⟩, ⟨some 2, .mov, [.t 31], none⟩]) .ret))))
theorem fc89 : fnC Tryz.prog 89 cert89 = some (32, [.tmp 2], ac89) := by kernel_rfl
def cert90 : Nat → Option Cert := fun
  | 7 => some ⟨[0, 1, 2, 3, 4, 5, 6, 7], (.one 8 (.one 9 .done)), [[], [], [1], [], [], [3, 4], [1, 2, 3, 4, 5], [1, 2, 3, 4, 5, 6], [0, 1, 2, 3, 4, 5, 6, 7], [0, 1, 2, 3, 4, 5, 6, 7, 8]]⟩
  | _ => none
def ac90 : ACode :=(.seq
 (.ops [⟨some 2, .box, [.t 0], none⟩, ⟨some 4, .mov, [.c .emp], none⟩])
 (.seq
 (.ops [⟨some 5, .mov, [.c .emp], none⟩])
 (.seq
 (.seq
 (.ops [⟨some 6, .mov, [.c (.int .i64 0)], none⟩])
 (.block 0
 (.loop
 (.seq
 (.seq
 (.ops [⟨some 9, .mov, [.t 6], none⟩, ⟨some 10, .fieldaddr 6, [.t 2], none⟩, ⟨some 11, .load false 1, [.t 10], none⟩, ⟨some 12, .len, [.t 11], none⟩, ⟨some 13, .bin .lss, [.t 9, .t 12], none⟩])
 (.cond (.t 13) .skip (.exit 0)))
 (.seq
 (.block 1
 (.seq
 (.ops [⟨some 16, .fieldaddr 6, [.t 2], none⟩, ⟨some 17, .load false 1, [.t 16], none⟩, ⟨some 18, .mov, [.t 6], none⟩, ⟨some 19, .idxaddr 4, [.t 17, .t 18], none⟩, ⟨some 20, .fieldaddr 2, [.t 19], none⟩, ⟨some 21, .load true 2, [.t 20], none⟩, ⟨some 7, (.alloc [(.int .i64 0), (.int .i64 0)]), [], none⟩, ⟨none, .store 2, [.t 7, .t 21], none⟩])
 (.seq
 (.ops [⟨some 22, .fieldaddr 1, [.t 7], none⟩, ⟨some 23, .load false 1, [.t 22], none⟩, ⟨some 24, .fieldaddr 0, [.t 7], none⟩, ⟨some 25, .load false 1, [.t 24], none⟩, ⟨some 26, .bin .sub, [.t 23, .t 25], none⟩, ⟨some 27, .bin .add, [.t 26, .c (.int .i64 1)], none⟩, ⟨some 8, .mov, [.t 27], none⟩])
 (.seq
 (.draw [(false, ⟨some 28, .mov, [.t 5], none⟩), (false, ⟨some 29, .fieldaddr 0, [.t 7], none⟩), (false, ⟨some 30, .load false 1, [.t 29], none⟩), (false, ⟨some 31, .mov, [.t 1], none⟩), (false, ⟨some 32, .mov, [.t 8], none⟩), (false, ⟨some 33, .bin .rem, [.t 31, .t 32], none⟩), (false, ⟨some 34, .bin .add, [.t 30, .t 33], none⟩), (false, ⟨some 35, .bslice 1, [.t 34], none⟩)] (.one ⟨some 36, .append 1 8, [.t 28, .t 35], none⟩ [] (.one ⟨some 5, .mov, [.t 36], none⟩ [] .done)))
 (.ops [⟨some 37, .mov, [.t 1], none⟩, ⟨some 38, .mov, [.t 8], none⟩, ⟨some 39, .bin .quo, [.t 37, .t 38], none⟩, ⟨some 1, .mov, [.t 39], none⟩])))))
 (.ops [⟨some 14, .mov, [.t 6], none⟩, ⟨some 15, .bin .add, [.t 14, .c (.int .i64 1)], none⟩, ⟨some 6, .mov, [.t 15], none⟩]))))))
 (.seq
 (.ops [⟨some 40, .mov, [.t 5], none⟩, ⟨some 4, .mov, [.t 40], none⟩]) .ret))))
theorem fc90 : fnC Tryz.prog 90 cert90 = some (41, [.tmp 4], ac90) := by kernel_rfl
def cert91 : Nat → Option Cert := fun
  | 6 => some ⟨[0, 1, 2, 3, 4, 5, 6, 7, 8, 9, 10, 11, 12, 13, 14, 15, 16], .done, [[], [], [1], [], [1, 2, 3], [1, 2, 3, 4], [1, 2, 3, 4, 5], [1, 2, 3, 4, 5, 6], [], [8], [], [8, 9, 10], [8, 9, 10, 11], [8, 9, 10, 11, 12], [8, 9, 10, 11, 12, 13], [0, 1, 2, 3, 4, 5, 6, 7, 8, 9, 10, 11, 12, 13, 14], [0, 1, 2, 3, 4, 5, 6, 7, 8, 9, 10, 11, 12, 13, 14, 15]]⟩
  | 9 => some ⟨[0, 1, 2, 3], .one 4 .done, [[], [0], [], [2], [0, 1, 2, 3]]⟩
  | 10 => some ⟨[0, 1, 2, 3], .one 4 .done, [[], [0], [], [2], [0, 1, 2, 3]]⟩
  | _ => none
def ac91 : ACode :=(.seq
 (.ops [⟨some 2, .box, [.t 0], none⟩, ⟨some 3, .box, [.t 1], none⟩, ⟨some 4, (.alloc [(.int .i64 0), (.int .i64 0), (.int .i64 0), (.int .i64 0), (.int .i64 0), (.int .i64 0), (.int .i64 0), (.int .i64 0), (.int .i64 0), (.int .i64 0), (.int .i64 0), (.int .i64 0), (.int .i64 0)]), [], none⟩, ⟨some 5, .mov, [.c (.bool false)], none⟩])
 (.seq
 (.seq
 (.ops [⟨some 8, .fieldaddr 0, [.t 2], none⟩, ⟨some 9, .load true 3, [.t 8], none⟩, ⟨some 10, .fieldaddr 0, [.t 3], none⟩, ⟨some 11, .load false 1, [.t 10], none⟩, ⟨some 12, .call 130, [.t 9, .t 11], none⟩, ⟨some 13, .not, [.t 12], none⟩, ⟨some 14, .mov, [.t 13], none⟩, ⟨some 15, .fieldaddr 1, [.t 3], some (14, false)⟩, ⟨some 16, .load false 1, [.t 15], some (14, false)⟩, ⟨some 17, .len, [.t 16], some (14, false)⟩, ⟨some 18, .fieldaddr 6, [.t 2], some (14, false)⟩, ⟨some 19, .load false 1, [.t 18], some (14, false)⟩, ⟨some 20, .len, [.t 19], some (14, false)⟩, ⟨some 21, .bin .neq, [.t 17, .t 20], some (14, false)⟩, ⟨some 22, .pick, [.t 14, .c (.bool true), .t 21], none⟩])
 (.cond (.t 22)
 (.seq
 (.ops [⟨some 23, .load true 13, [.t 4], none⟩, ⟨none, .store 13, [.t 4, .t 23], none⟩, ⟨some 5, .mov, [.c (.bool false)], none⟩]) .ret) .skip))
 (.seq
 (.seq
 (.ops [⟨some 24, .fieldaddr 1, [.t 3], none⟩, ⟨some 25, .load false 1, [.t 24], none⟩, ⟨some 26, .len, [.t 25], none⟩, ⟨some 27, .mov, [.c (.int .i64 0)], none⟩])
 (.block 0
 (.loop
 (.seq
 (.ops [⟨some 28, .bin .lss, [.t 27, .t 26], none⟩])
 (.seq
 (.cond (.t 28) .skip (.exit 0))
 (.seq
 (.block 1
 (.seq
 (.ops [⟨some 29, .mov, [.t 27], none⟩, ⟨some 30, .idxaddr 1, [.t 25, .t 27], none⟩, ⟨some 31, .load false 1, [.t 30], none⟩, ⟨some 6, .mov, [.t 29], none⟩, ⟨some 7, .mov, [.t 31], none⟩])
 (.seq
 (.draw [(false, ⟨some 32, .mov, [.t 7], none⟩), (false, ⟨some 33, .fieldaddr 6, [.t 2], none⟩), (false, ⟨some 34, .load false 1, [.t 33], none⟩), (false, ⟨some 35, .mov, [.t 6], none⟩), (false, ⟨some 36, .idxaddr 4, [.t 34, .t 35], none⟩), (false, ⟨some 37, .fieldaddr 2, [.t 36], none⟩), (false, ⟨some 38, .fieldaddr 0, [.t 37], none⟩), (false, ⟨some 39, .load false 1, [.t 38], none⟩), (false, ⟨some 40, .fieldaddr 6, [.t 2], none⟩), (false, ⟨some 41, .load false 1, [.t 40], none⟩), (false, ⟨some 42, .mov, [.t 6], none⟩), (false, ⟨some 43, .idxaddr 4, [.t 41, .t 42], none⟩), (false, ⟨some 44, .fieldaddr 2, [.t 43], none⟩), (false, ⟨some 45, .fieldaddr 1, [.t 44], none⟩), (false, ⟨some 46, .load false 1, [.t 45], none⟩), (false, ⟨some 47, .call 131, [.t 32, .t 39, .t 46], none⟩), (false, ⟨some 48, .not, [.t 47], none⟩)] .done)
 (.cond (.t 48)
 (.seq
 (.ops [⟨some 49, .load true 13, [.t 4], none⟩, ⟨none, .store 13, [.t 4, .t 49], none⟩, ⟨some 5, .mov, [.c (.bool false)], none⟩]) .ret) .skip))))
 (.ops [⟨some 50, .bin .add, [.t 27, .c (.int .i64 1)], none⟩, ⟨some 27, .mov, [.t 50], none⟩])))))))
 (.seq
 (.draw [(false, ⟨some 51, .fieldaddr 0, [.t 4], none⟩), (false, ⟨some 52, .arrall 7 1, [.t 51], none⟩), (false, ⟨some 53, .fieldaddr 0, [.t 3], none⟩), (false, ⟨some 54, .load false 1, [.t 53], none⟩)] (.one ⟨some 55, .copy 1, [.t 52, .t 54], none⟩ [] .done))
 (.seq
 (.draw [(false, ⟨some 56, .fieldaddr 7, [.t 4], none⟩), (false, ⟨some 57, .arrall 6 1, [.t 56], none⟩), (false, ⟨some 58, .fieldaddr 1, [.t 3], none⟩), (false, ⟨some 59, .load false 1, [.t 58], none⟩)] (.one ⟨some 60, .copy 1, [.t 57, .t 59], none⟩ [] .done))
 (.seq
 (.ops [⟨some 61, .load true 13, [.t 4], none⟩, ⟨none, .store 13, [.t 4, .t 61], none⟩, ⟨some 5, .mov, [.c (.bool true)], none⟩]) .ret))))))
theorem fc91 : fnC Tryz.prog 91 cert91 = some (62, [.cell 4 144, .tmp 5], ac91) := by kernel_rfl
def cert92 : Nat → Option Cert := fun
  | 19 => some ⟨[0, 1, 2, 3, 4], (.one 5 (.one 6 (.one 7 .done))), [[], [0], [], [2], [0, 1], [0, 1, 4], [0, 1, 2, 3, 4, 5], [0, 1, 2, 3, 4, 5, 6]]⟩
  | _ => none
def ac92 : ACode :=(.seq
 (.ops [⟨some 3, .box, [.t 0], none⟩, ⟨some 4, .box, [.t 1], none⟩, ⟨some 6, (.alloc [(.bool false), (.bool false), (.bool false), (.bool false), (.bool false), (.bool false), (.bool false), (.bool false), (.bool false), (.bool false)]), [], none⟩])
 (.seq
 (.seq
 (.ops [⟨some 12, .load true 9, [.t 3], none⟩, ⟨some 13, .call 127, [.t 12], none⟩, ⟨some 14, .mov, [.c (.int .i64 0)], none⟩])
 (.block 0
 (.loop
 (.seq
 (.ops [⟨some 15, .bin .lss, [.t 14, .t 13], none⟩])
 (.seq
 (.cond (.t 15) .skip (.exit 0))
 (.seq
 (.block 1
 (.seq
 (.ops [⟨some 16, .mov, [.t 14], none⟩, ⟨some 7, .mov, [.t 16], none⟩])
 (.ops [⟨some 17, .mov, [.t 7], none⟩, ⟨some 18, .load true 9, [.t 3], none⟩, ⟨some 19, .load true 13, [.t 4], none⟩, ⟨some 20, .mov, [.t 7], none⟩, ⟨some 21, .call 128, [.t 18, .t 19, .t 20], none⟩, ⟨some 22, .arraddr 10 1, [.t 6, .t 17], none⟩, ⟨none, .store 1, [.t 22, .t 21], none⟩])))
 (.ops [⟨some 23, .bin .add, [.t 14, .c (.int .i64 1)], none⟩, ⟨some 14, .mov, [.t 23], none⟩])))))))
 (.seq
 (.seq
 (.ops [⟨some 24, .fieldaddr 5, [.t 3], none⟩, ⟨some 25, .load false 1, [.t 24], none⟩, ⟨some 26, .bin .add, [.t 25, .c (.int .i64 1)], none⟩, ⟨some 27, .mov, [.c (.int .i64 0)], none⟩])
 (.block 2
 (.loop
 (.seq
 (.ops [⟨some 28, .bin .lss, [.t 27, .t 26], none⟩])
 (.seq
 (.cond (.t 28) .skip (.exit 2))
 (.seq
 (.block 3
 (.seq
 (.ops [⟨some 29, .mov, [.t 27], none⟩, ⟨some 8, .mov, [.t 29], none⟩])
 (.seq
 (.seq
 (.ops [⟨some 30, .load true 9, [.t 3], none⟩, ⟨some 31, .call 77, [.t 30], none⟩, ⟨some 32, .mov, [.c (.int .i64 0)], none⟩])
 (.block 4
 (.loop
 (.seq
 (.ops [⟨some 33, .bin .lss, [.t 32, .t 31], none⟩])
 (.seq
 (.cond (.t 33) .skip (.exit 4))
 (.seq
 (.block 5
 (.seq
 (.ops [⟨some 34, .mov, [.t 32], none⟩, ⟨some 9, .mov, [.t 34], none⟩])
 (.seq
 (.ops [⟨some 35, .mov, [.t 2], none⟩, ⟨some 36, .mov, [.t 9], none⟩, ⟨some 37, .mov, [.t 8], none⟩, ⟨some 38, (.build [(.int .i64 0), (.int .i64 0)] [(0, 1), (1, 1)]), [.t 36, .t 37], none⟩, ⟨some 39, (.lookup (.bool false)), [.t 35, .t 38], none⟩])
 (.cond (.t 39)
 (.ops [⟨some 40, .mov, [.t 9], none⟩, ⟨some 41, .arraddr 10 1, [.t 6, .t 40], none⟩, ⟨none, .store 1, [.t 41, .c (.bool false)], none⟩]) .skip))))
 (.ops [⟨some 42, .bin .add, [.t 32, .c (.int .i64 1)], none⟩, ⟨some 32, .mov, [.t 42], none⟩])))))))
 (.seq
 (.ops [⟨some 43, .fieldaddr 6, [.t 3], none⟩, ⟨some 44, .load false 1, [.t 43], none⟩, ⟨some 45, .len, [.t 44], none⟩, ⟨some 46, .mov, [.c (.int .i64 0)], none⟩])
 (.block 6
 (.loop
 (.seq
 (.ops [⟨some 47, .bin .lss, [.t 46, .t 45], none⟩])
 (.seq
 (.cond (.t 47) .skip (.exit 6))
 (.seq
 (.block 7
 (.seq
 (.ops [⟨some 48, .mov, [.t 46], none⟩, ⟨some 49, .idxaddr 4, [.t 44, .t 46], none⟩, ⟨some 50, .load true 4, [.t 49], none⟩, ⟨some 11, (.alloc [(.int .i64 0), (.int .i64 0), (.int .i64 0), (.int .i64 0)]), [], none⟩, ⟨some 10, .mov, [.t 48], none⟩, ⟨none, .store 4, [.t 11, .t 50], none⟩])
 (.seq
 (.ops [⟨some 51, .mov, [.t 10], none⟩, ⟨some 52, .fieldaddr 7, [.t 4], none⟩, ⟨some 53, .arraddr 6 1, [.t 52, .t 51], none⟩, ⟨some 54, .load false 1, [.t 53], none⟩, ⟨some 55, .mov, [.t 8], none⟩, ⟨some 56, .bin .eql, [.t 54, .t 55], none⟩, ⟨some 57, .mov, [.t 56], none⟩, ⟨some 58, .fieldaddr 0, [.t 11], some (57, true)⟩, ⟨some 59, .load false 1, [.t 58], some (57, true)⟩, ⟨some 60, .arraddr 10 1, [.t 6, .t 59], some (57, true)⟩, ⟨some 61, .load false 1, [.t 60], some (57, true)⟩, ⟨some 62, .mov, [.t 61], some (57, true)⟩, ⟨some 63, .fieldaddr 1, [.t 11], some (62, false)⟩, ⟨some 64, .load false 1, [.t 63], some (62, false)⟩, ⟨some 65, .arraddr 10 1, [.t 6, .t 64], some (62, false)⟩, ⟨some 66, .load false 1, [.t 65], some (62, false)⟩, ⟨some 67, .pick, [.t 62, .c (.bool true), .t 66], some (57, true)⟩, ⟨some 68, .pick, [.t 57, .t 67, .c (.bool false)], none⟩])
 (.cond (.t 68)
 (.draw [(false, ⟨some 69, .fieldaddr 0, [.t 11], none⟩), (false, ⟨some 70, .load false 1, [.t 69], none⟩), (true, ⟨some 71, .fieldaddr 1, [.t 11], none⟩), (true, ⟨some 72, .load false 1, [.t 71], none⟩), (false, ⟨some 73, .arraddr 10 1, [.t 6, .t 70], none⟩)] (.one ⟨none, .store 1, [.t 73, .c (.bool true)], none⟩ [⟨some 72, .load false 1, [.t 71], none⟩] (.one ⟨some 74, .arraddr 10 1, [.t 6, .t 72], none⟩ [] (.one ⟨none, .store 1, [.t 74, .c (.bool true)], none⟩ [] .done)))) .skip))))
 (.ops [⟨some 75, .bin .add, [.t 46, .c (.int .i64 1)], none⟩, ⟨some 46, .mov, [.t 75], none⟩]))))))))))
 (.ops [⟨some 76, .bin .add, [.t 27, .c (.int .i64 1)], none⟩, ⟨some 27, .mov, [.t 76], none⟩])))))))
 (.seq
 (.ops [⟨some 77, .load true 10, [.t 6], none⟩, ⟨none, .store 10, [.t 6, .t 77], none⟩]) .ret))))
theorem fc92 : fnC Tryz.prog 92 cert92 = some (78, [.cell 6 148], ac92) := by kernel_rfl
def cert93 : Nat → Option Cert := fun _ => none
def ac93 : ACode :=(.seq
 (.ops [⟨some 2, .box, [.t 0], none⟩, ⟨some 4, .mov, [.c .any], none⟩])
 (.seq
 (.ops [⟨some 10, .mkmap, [], none⟩, ⟨some 5, .mov, [.t 10], none⟩])
 (.seq
 (.seq
 (.ops [⟨some 11, .fieldaddr 7, [.t 2], none⟩, ⟨some 12, .load false 1, [.t 11], none⟩, ⟨some 13, .len, [.t 12], none⟩, ⟨some 14, .mov, [.c (.int .i64 0)], none⟩])
 (.block 0
 (.loop
 (.seq
 (.ops [⟨some 15, .bin .lss, [.t 14, .t 13], none⟩])
 (.seq
 (.cond (.t 15) .skip (.exit 0))
 (.seq
 (.block 1
 (.seq
 (.ops [⟨some 16, .idxaddr 2, [.t 12, .t 14], none⟩, ⟨some 17, .load true 2, [.t 16], none⟩, ⟨some 7, (.alloc [(.int .i64 0), (.int .i64 0)]), [], none⟩, ⟨none, .store 2, [.t 7, .t 17], none⟩])
 (.ops [⟨some 18, .mov, [.t 5], none⟩, ⟨some 19, .fieldaddr 0, [.t 7], none⟩, ⟨some 20, .load false 1, [.t 19], none⟩, ⟨some 21, .fieldaddr 1, [.t 7], none⟩, ⟨some 22, .load false 1, [.t 21], none⟩, ⟨some 23, (.build [(.int .i64 0), (.int .i64 0)] [(0, 1), (1, 1)]), [.t 20, .t 22], none⟩, ⟨none, .mapupd, [.t 18, .t 23, .c (.bool true)], none⟩])))
 (.ops [⟨some 24, .bin .add, [.t 14, .c (.int .i64 1)], none⟩, ⟨some 14, .mov, [.t 24], none⟩])))))))
 (.seq
 (.seq
 (.ops [⟨some 25, .mov, [.t 1], none⟩, ⟨some 26, .len, [.t 25], none⟩, ⟨some 27, .mov, [.c (.int .i64 0)], none⟩])
 (.block 2
 (.loop
 (.seq
 (.ops [⟨some 28, .bin .lss, [.t 27, .t 26], none⟩])
 (.seq
 (.cond (.t 28) .skip (.exit 2))
 (.seq
 (.block 3
 (.seq
 (.ops [⟨some 29, .idxaddr 2, [.t 25, .t 27], none⟩, ⟨some 30, .load true 2, [.t 29], none⟩, ⟨some 9, (.alloc [(.int .i64 0), (.int .i64 0)]), [], none⟩, ⟨none, .store 2, [.t 9, .t 30], none⟩])
 (.ops [⟨some 31, .mov, [.t 5], none⟩, ⟨some 32, .load true 2, [.t 9], none⟩, ⟨none, .mapupd, [.t 31, .t 32, .c (.bool true)], none⟩])))
 (.ops [⟨some 33, .bin .add, [.t 27, .c (.int .i64 1)], none⟩, ⟨some 27, .mov, [.t 33], none⟩])))))))
 (.seq
 (.ops [⟨some 34, .mov, [.t 5], none⟩, ⟨some 4, .mov, [.t 34], none⟩]) .ret)))))
theorem fc93 : fnC Tryz.prog 93 cert93 = some (35, [.tmp 4], ac93) := by kernel_rfl
def cert95 : Nat → Option Cert := fun
  | 18 => some ⟨[0, 1, 2, 3, 4, 5, 6, 7, 8, 9, 10, 11, 12, 13, 14, 15, 16, 17, 18, 19, 20, 21, 22, 23, 24], .done, [[], [0], [], [0, 1, 2], [0, 1, 2, 3], [0, 1, 2, 3, 4], [0, 1, 2, 3, 4, 5], [0, 1, 2, 3, 4, 5, 6], [0, 1, 2, 3, 4, 5, 6, 7], [0, 1, 2, 3, 4, 5, 6, 7, 8], [0, 1, 2, 3, 4, 5, 6, 7, 8, 9], [0, 1, 2, 3, 4, 5, 6, 7, 8, 9, 10], [0, 1, 2, 3, 4, 5, 6, 7, 8, 9, 10, 11], [0, 1, 2, 3, 4, 5, 6, 7, 8, 9, 10], [0, 1, 2, 3, 4, 5, 6, 7, 8, 9, 10, 11, 12, 13], [0, 1, 2, 3, 4, 5, 6, 7, 8, 9, 10, 11, 12, 13, 14], [0, 1, 2, 3, 4, 5, 6, 7, 8, 9, 10], [0, 1, 2, 3, 4, 5, 6, 7, 8, 9, 10, 16], [0, 1, 2, 3, 4, 5, 6, 7, 8, 9, 10], [0, 1, 2, 3, 4, 5, 6, 7, 8, 9, 10, 18], [0, 1, 2, 3, 4, 5, 6, 7, 8, 9, 10, 16, 17, 18, 19], [0, 1, 2, 3, 4, 5, 6, 7, 8, 9, 10, 16, 17, 18, 19, 20], [0, 1, 2, 3, 4, 5, 6, 7, 8, 9, 10, 11, 12, 13, 14, 15, 16, 17, 18, 19, 20, 21], [0, 1, 2, 3, 4, 5, 6, 7, 8, 9, 10, 11, 12, 13, 14, 15, 16, 17, 18, 19, 20, 21, 22], [0, 1, 2, 3, 4, 5, 6, 7, 8, 9, 10, 11, 12, 13, 14, 15, 16, 17, 18, 19, 20, 21, 22, 23]]⟩
  | _ => none
def ac95 : ACode :=(.seq
 (.ops [⟨some 1, .box, [.t 0], none⟩, ⟨some 2, .mov, [.c (.int .i64 0)], none⟩])
 (.seq
 (.seq
 (.ops [⟨some 8, .fieldaddr 0, [.t 1], none⟩, ⟨some 9, .load false 1, [.t 8], none⟩, ⟨some 10, .len, [.t 9], none⟩, ⟨some 11, .bin .gtr, [.t 10, .c (.int .i64 5)], none⟩, ⟨some 12, .mov, [.t 11], none⟩, ⟨some 13, .fieldaddr 1, [.t 1], some (12, false)⟩, ⟨some 14, .load false 1, [.t 13], some (12, false)⟩, ⟨some 15, .len, [.t 14], some (12, false)⟩, ⟨some 16, .bin .gtr, [.t 15, .c (.int .i64 7)], some (12, false)⟩, ⟨some 17, .pick, [.t 12, .c (.bool true), .t 16], none⟩])
 (.cond (.t 17)
 (.seq
 (.ops [⟨some 2, .mov, [.c (.int .i64 3)], none⟩]) .ret) .skip))
 (.seq
 (.seq
 (.ops [⟨some 18, .fieldaddr 2, [.t 1], none⟩, ⟨some 19, .load false 1, [.t 18], none⟩, ⟨some 20, .call 47, [.t 19, .c (.int .i64 0), .c (.int .i64 5)], none⟩, ⟨some 21, .not, [.t 20], none⟩])
 (.cond (.t 21)
 (.seq
 (.ops [⟨some 2, .mov, [.c (.int .i64 1)], none⟩]) .ret) .skip))
 (.seq
 (.seq
 (.ops [⟨some 3, .mov, [.c (.int .i64 0)], none⟩])
 (.block 0
 (.loop
 (.seq
 (.seq
 (.ops [⟨some 22, .mov, [.t 3], none⟩, ⟨some 23, .fieldaddr 0, [.t 1], none⟩, ⟨some 24, .load false 1, [.t 23], none⟩, ⟨some 25, .len, [.t 24], none⟩, ⟨some 26, .bin .lss, [.t 22, .t 25], none⟩])
 (.cond (.t 26) .skip (.exit 0)))
 (.seq
 (.block 1
 (.seq
 (.ops [⟨some 29, .fieldaddr 0, [.t 1], none⟩, ⟨some 30, .load false 1, [.t 29], none⟩, ⟨some 31, .mov, [.t 3], none⟩, ⟨some 32, .idxaddr 3, [.t 30, .t 31], none⟩, ⟨some 33, .load true 3, [.t 32], none⟩, ⟨some 4, (.alloc [(.int .i64 0), (.int .i64 0), (.int .i64 0)]), [], none⟩, ⟨none, .store 3, [.t 4, .t 33], none⟩])
 (.seq
 (.ops [⟨some 34, .fieldaddr 0, [.t 4], none⟩, ⟨some 35, .load false 1, [.t 34], none⟩, ⟨some 36, .call 47, [.t 35, .c (.int .i64 0), .c (.int .i64 9)], none⟩, ⟨some 37, .not, [.t 36], none⟩, ⟨some 38, .mov, [.t 37], none⟩, ⟨some 39, .fieldaddr 1, [.t 4], some (38, false)⟩, ⟨some 40, .fieldaddr 0, [.t 39], some (38, false)⟩, ⟨some 41, .load false 1, [.t 40], some (38, false)⟩, ⟨some 42, .bin .lss, [.t 41, .c (.int .i64 0)], some (38, false)⟩, ⟨some 43, .pick, [.t 38, .c (.bool true), .t 42], none⟩, ⟨some 44, .mov, [.t 43], none⟩, ⟨some 45, .fieldaddr 1, [.t 4], some (44, false)⟩, ⟨some 46, .fieldaddr 0, [.t 45], some (44, false)⟩, ⟨some 47, .load false 1, [.t 46], some (44, false)⟩, ⟨some 48, .fieldaddr 1, [.t 4], some (44, false)⟩, ⟨some 49, .fieldaddr 1, [.t 48], some (44, false)⟩, ⟨some 50, .load false 1, [.t 49], some (44, false)⟩, ⟨some 51, .bin .gtr, [.t 47, .t 50], some (44, false)⟩, ⟨some 52, .pick, [.t 44, .c (.bool true), .t 51], none⟩, ⟨some 53, .mov, [.t 52], none⟩, ⟨some 54, .fieldaddr 1, [.t 4], some (53, false)⟩, ⟨some 55, .fieldaddr 1, [.t 54], some (53, false)⟩, ⟨some 56, .load false 1, [.t 55], some (53, false)⟩, ⟨some 57, .bin .gtr, [.t 56, .c (.int .i64 7)], some (53, false)⟩, ⟨some 58, .pick, [.t 53, .c (.bool true), .t 57], none⟩])
 (.cond (.t 58)
 (.seq
 (.ops [⟨some 2, .mov, [.c (.int .i64 1)], none⟩]) .ret) .skip))))
 (.ops [⟨some 27, .mov, [.t 3], none⟩, ⟨some 28, .bin .add, [.t 27, .c (.int .i64 1)], none⟩, ⟨some 3, .mov, [.t 28], none⟩]))))))
 (.seq
 (.seq
 (.ops [⟨some 5, .mov, [.c (.int .i64 0)], none⟩])
 (.block 2
 (.loop
 (.seq
 (.seq
 (.ops [⟨some 59, .mov, [.t 5], none⟩, ⟨some 60, .fieldaddr 1, [.t 1], none⟩, ⟨some 61, .load false 1, [.t 60], none⟩, ⟨some 62, .len, [.t 61], none⟩, ⟨some 63, .bin .lss, [.t 59, .t 62], none⟩])
 (.cond (.t 63) .skip (.exit 2)))
 (.seq
 (.block 3
 (.seq
 (.ops [⟨some 66, .fieldaddr 1, [.t 1], none⟩, ⟨some 67, .load false 1, [.t 66], none⟩, ⟨some 68, .mov, [.t 5], none⟩, ⟨some 69, .idxaddr 2, [.t 67, .t 68], none⟩, ⟨some 70, .load true 2, [.t 69], none⟩, ⟨some 6, (.alloc [.emp, (.int .i64 0)]), [], none⟩, ⟨none, .store 2, [.t 6, .t 70], none⟩])
 (.seq
 (.seq
 (.ops [⟨some 7, .mov, [.c (.int .i64 0)], none⟩])
 (.block 4
 (.loop
 (.seq
 (.seq
 (.ops [⟨some 71, .mov, [.t 7], none⟩, ⟨some 72, .fieldaddr 0, [.t 6], none⟩, ⟨some 73, .load false 1, [.t 72], none⟩, ⟨some 74, .len, [.t 73], none⟩, ⟨some 75, .bin .lss, [.t 71, .t 74], none⟩])
 (.cond (.t 75) .skip (.exit 4)))
 (.seq
 (.block 5
 (.seq
 (.draw [(false, ⟨some 78, .fieldaddr 0, [.t 6], none⟩), (false, ⟨some 79, .load false 1, [.t 78], none⟩), (false, ⟨some 80, .mov, [.t 7], none⟩), (false, ⟨some 81, .idxaddr 1, [.t 79, .t 80], none⟩), (false, ⟨some 82, .load false 1, [.t 81], none⟩), (false, ⟨some 83, .call 47, [.t 82, .c (.int .i64 0), .c (.int .i64 9)], none⟩), (false, ⟨some 84, .not, [.t 83], none⟩), (false, ⟨some 85, .mov, [.t 84], none⟩), (false, ⟨some 86, .mov, [.t 7], some (85, false)⟩), (false, ⟨some 87, .bin .gtr, [.t 86, .c (.int .i64 0)], some (85, false)⟩), (false, ⟨some 88, .mov, [.t 87], some (85, false)⟩), (false, ⟨some 89, .fieldaddr 0, [.t 6], some (88, true)⟩), (false, ⟨some 90, .load false 1, [.t 89], some (88, true)⟩), (false, ⟨some 91, .mov, [.t 7], some (88, true)⟩), (false, ⟨some 92, .idxaddr 1, [.t 90, .t 91], some (88, true)⟩), (false, ⟨some 93, .load false 1, [.t 92], some (88, true)⟩), (false, ⟨some 94, .fieldaddr 0, [.t 6], some (88, true)⟩), (false, ⟨some 95, .load false 1, [.t 94], some (88, true)⟩), (false, ⟨some 96, .mov, [.t 7], some (88, true)⟩), (false, ⟨some 97, .bin .sub, [.t 96, .c (.int .i64 1)], some (88, true)⟩), (false, ⟨some 98, .idxaddr 1, [.t 95, .t 97], some (88, true)⟩), (false, ⟨some 99, .load false 1, [.t 98], some (88, true)⟩), (false, ⟨some 100, .bin .leq, [.t 93, .t 99], some (88, true)⟩), (false, ⟨some 101, .pick, [.t 88, .t 100, .c (.bool false)], some (85, false)⟩), (false, ⟨some 102, .pick, [.t 85, .c (.bool true), .t 101], none⟩)] .done)
 (.cond (.t 102)
 (.seq
 (.ops [⟨some 2, .mov, [.c (.int .i64 1)], none⟩]) .ret) .skip)))
 (.ops [⟨some 76, .mov, [.t 7], none⟩, ⟨some 77, .bin .add, [.t 76, .c (.int .i64 1)], none⟩, ⟨some 7, .mov, [.t 77], none⟩]))))))
 (.seq
 (.ops [⟨some 103, .fieldaddr 1, [.t 6], none⟩, ⟨some 104, .load false 1, [.t 103], none⟩, ⟨some 105, .fieldaddr 0, [.t 1], none⟩, ⟨some 106, .load false 1, [.t 105], none⟩, ⟨some 107, .len, [.t 106], none⟩, ⟨some 108, .bin .sub, [.t 107, .c (.int .i64 1)], none⟩, ⟨some 109, .call 47, [.t 104, .c (.int .i64 0), .t 108], none⟩, ⟨some 110, .not, [.t 109], none⟩, ⟨some 111, .mov, [.t 110], none⟩, ⟨some 112, .load true 3, [.t 1], some (111, false)⟩, ⟨some 113, .mov, [.t 5], some (111, false)⟩, ⟨some 114, .call 132, [.t 112, .t 113], some (111, false)⟩, ⟨some 115, .len, [.t 114], some (111, false)⟩, ⟨some 116, .bin .eql, [.t 115, .c (.int .i64 0)], some (111, false)⟩, ⟨some 117, .pick, [.t 111, .c (.bool true), .t 116], none⟩])
 (.cond (.t 117)
 (.seq
 (.ops [⟨some 2, .mov, [.c (.int .i64 1)], none⟩]) .ret) .skip)))))
 (.ops [⟨some 64, .mov, [.t 5], none⟩, ⟨some 65, .bin .add, [.t 64, .c (.int .i64 1)], none⟩, ⟨some 5, .mov, [.t 65], none⟩]))))))
 (.seq
 (.seq
 (.ops [⟨some 118, .load true 3, [.t 1], none⟩, ⟨some 119, .call 98, [.t 118], none⟩, ⟨some 120, .bin .gtr, [.t 119, .c (.int .i64 2000)], none⟩])
 (.cond (.t 120)
 (.seq
 (.ops [⟨some 2, .mov, [.c (.int .i64 3)], none⟩]) .ret) .skip))
 (.seq
 (.ops [⟨some 2, .mov, [.c (.int .i64 0)], none⟩]) .ret)))))))
theorem fc95 : fnC Tryz.prog 95 cert95 = some (121, [.tmp 2], ac95) := by kernel_rfl
def cert96 : Nat → Option Cert := fun _ => none
def ac96 : ACode :=(.seq
 (.ops [⟨some 2, .box, [.t 0], none⟩, ⟨some 4, .mov, [.c (.bool false)], none⟩])
 (.seq
 (.ops [⟨some 5, .mov, [.t 1], none⟩, ⟨some 6, .load true 9, [.t 2], none⟩, ⟨some 7, .call 25, [.t 6], none⟩, ⟨some 8, .bin .sub, [.t 7, .c (.int .i64 1)], none⟩, ⟨some 9, .call 47, [.t 5, .c (.int .i64 0), .t 8], none⟩, ⟨some 4, .mov, [.t 9], none⟩]) .ret))
theorem fc96 : fnC Tryz.prog 96 cert96 = some (10, [.tmp 4], ac96) := by kernel_rfl
def cert97 : Nat → Option Cert := fun _ => none
def ac97 : ACode :=(.seq
 (.ops [⟨some 2, .box, [.t 0], none⟩, ⟨some 4, .mov, [.c (.bool false)], none⟩])
 (.seq
 (.ops [⟨some 5, .mov, [.t 1], none⟩, ⟨some 6, .fieldaddr 5, [.t 2], none⟩, ⟨some 7, .load false 1, [.t 6], none⟩, ⟨some 8, .call 47, [.t 5, .c (.int .i64 0), .t 7], none⟩, ⟨some 4, .mov, [.t 8], none⟩]) .ret))
theorem fc97 : fnC Tryz.prog 97 cert97 = some (9, [.tmp 4], ac97) := by kernel_rfl
def cert98 : Nat → Option Cert := fun _ => none
def ac98 : ACode :=(.seq
 (.ops [⟨some 1, .box, [.t 0], none⟩, ⟨some 2, .mov, [.c (.int .i64 0)], none⟩])
 (.seq
 (.ops [⟨some 3, .mov, [.c (.int .i64 1)], none⟩])
 (.seq
 (.seq
 (.ops [⟨some 4, .mov, [.c (.int .i64 0)], none⟩])
 (.block 0
 (.loop
 (.seq
 (.seq
 (.ops [⟨some 5, .mov, [.t 4], none⟩, ⟨some 6, .fieldaddr 1, [.t 1], none⟩, ⟨some 7, .load false 1, [.t 6], none⟩, ⟨some 8, .len, [.t 7], none⟩, ⟨some 9, .bin .lss, [.t 5, .t 8], none⟩])
 (.cond (.t 9) .skip (.exit 0)))
 (.seq
 (.block 1
 (.ops [⟨some 12, .mov, [.t 3], none⟩, ⟨some 13, .load true 3, [.t 1], none⟩, ⟨some 14, .mov, [.t 4], none⟩, ⟨some 15, .call 132, [.t 13, .t 14], none⟩, ⟨some 16, .len, [.t 15], none⟩, ⟨some 17, .bin .mul, [.t 12, .t 16], none⟩, ⟨some 18, .min, [.c (.int .i64 3000), .t 17], none⟩, ⟨some 3, .mov, [.t 18], none⟩]))
 (.ops [⟨some 10, .mov, [.t 4], none⟩, ⟨some 11, .bin .add, [.t 10, .c (.int .i64 1)], none⟩, ⟨some 4, .mov, [.t 11], none⟩]))))))
 (.seq
 (.ops [⟨some 19, .mov, [.t 3], none⟩, ⟨some 2, .mov, [.t 19], none⟩]) .ret))))
theorem fc98 : fnC Tryz.prog 98 cert98 = some (20, [.tmp 2], ac98) := by kernel_rfl
def cert99 : Nat → Option Cert := fun _ => none
def ac99 : ACode :=(.seq
 (.ops [⟨some 2, .box, [.t 0], none⟩, ⟨some 4, .mov, [.c (.bool false)], none⟩])
 (.seq
 (.ops [⟨some 5, .mov, [.t 1], none⟩, ⟨some 6, .fieldaddr 5, [.t 2], none⟩, ⟨some 7, .load false 1, [.t 6], none⟩, ⟨some 8, .call 131, [.t 5, .c (.int .i64 0), .t 7], none⟩, ⟨some 4, .mov, [.t 8], none⟩]) .ret))
theorem fc99 : fnC Tryz.prog 99 cert99 = some (9, [.tmp 4], ac99) := by kernel_rfl
def cert100 : Nat → Option Cert := fun
  | 3 => some ⟨[0, 1, 2, 3, 4, 5], .done, [[], [], [], [1, 2], [0, 1, 2, 3], [0, 1, 2, 3, 4]]⟩
  | 7 => some ⟨[0, 1, 3, 4, 6, 7, 8, 9], (.one 2 (.one 5 (.one 10 .done))), [[], [], [1], [], [3], [1, 2, 3, 4], [], [6], [], [8], [0, 1, 2, 3, 4, 5, 6, 7, 8, 9]]⟩
  | _ => none
def ac100 : ACode :=(.seq
 (.ops [⟨some 11, .mov, [.c (.bool false)], none⟩])
 (.seq
 (.seq
 (.ops [⟨some 13, .mov, [.t 2], none⟩, ⟨some 14, .bin .eql, [.t 13, .c (.int .i64 0)], none⟩])
 (.cond (.t 14)
 (.seq
 (.ops [⟨some 15, .mov, [.t 0], none⟩, ⟨none, .store 1, [.t 3, .t 15], none⟩])
 (.seq
 (.draw [(false, ⟨some 16, .load false 1, [.t 4], none⟩), (false, ⟨some 17, .mov, [.t 0], none⟩), (false, ⟨some 18, .load false 1, [.t 5], none⟩), (false, ⟨some 19, .call 102, [.t 17, .t 18], none⟩), (false, ⟨some 20, .call 101, [.t 16, .t 19], none⟩), (false, ⟨some 11, .mov, [.t 20], none⟩)] .done) .ret)) .skip))
 (.seq
 (.seq
 (.ops [⟨some 21, .mov, [.t 1], none⟩, ⟨some 12, .mov, [.t 21], none⟩])
 (.block 0
 (.loop
 (.seq
 (.seq
 (.ops [⟨some 22, .mov, [.t 12], none⟩, ⟨some 23, .load true 9, [.t 6], none⟩, ⟨some 24, .call 77, [.t 23], none⟩, ⟨some 25, .mov, [.t 2], none⟩, ⟨some 26, .bin .sub, [.t 24, .t 25], none⟩, ⟨some 27, .bin .leq, [.t 22, .t 26], none⟩])
 (.cond (.t 27) .skip (.exit 0)))
 (.seq
 (.block 1
 (.seq
 (.draw [(true, ⟨some 30, .load false 1, [.t 7], none⟩), (false, ⟨some 31, .mov, [.t 0], none⟩), (true, ⟨some 33, .mov, [.t 12], none⟩), (true, ⟨some 34, .bslice 1, [.t 33], none⟩), (true, ⟨some 36, .mov, [.t 12], none⟩), (true, ⟨some 37, .bin .add, [.t 36, .c (.int .i64 1)], none⟩), (true, ⟨some 38, .mov, [.t 2], none⟩), (true, ⟨some 39, .bin .sub, [.t 38, .c (.int .i64 1)], none⟩)] (.one ⟨some 32, .call 85, [.t 31], none⟩ [⟨some 30, .load false 1, [.t 7], none⟩] (.one ⟨some 35, .append 1 8, [.t 32, .t 34], none⟩ [⟨some 30, .load false 1, [.t 7], none⟩] (.one ⟨some 40, .callv, [.t 30, .t 35, .t 37, .t 39], none⟩ [] .done))))
 (.cond (.t 40)
 (.seq
 (.ops [⟨some 11, .mov, [.c (.bool true)], none⟩]) .ret) .skip)))
 (.ops [⟨some 28, .mov, [.t 12], none⟩, ⟨some 29, .bin .add, [.t 28, .c (.int .i64 1)], none⟩, ⟨some 12, .mov, [.t 29], none⟩]))))))
 (.seq
 (.ops [⟨some 11, .mov, [.c (.bool false)], none⟩]) .ret))))
theorem fc100 : fnC Tryz.prog 100 cert100 = some (41, [.tmp 11], ac100) := by kernel_rfl
def cert101 : Nat → Option Cert := fun _ => none
def ac101 : ACode :=(.seq
 (.ops [⟨some 2, .box, [.t 0], none⟩, ⟨some 4, .mov, [.c (.bool false)], none⟩])
 (.seq
 (.ops [⟨some 6, .load false 1, [.t 2], none⟩, ⟨some 7, .nilchk, [.t 6], none⟩, ⟨some 8, .fieldaddr 0, [.t 7], none⟩, ⟨some 9, .load true 9, [.t 8], none⟩, ⟨some 10, .mov, [.t 1], none⟩, ⟨some 11, .call 93, [.t 9, .t 10], none⟩, ⟨some 5, (.alloc [.any]), [], none⟩, ⟨none, .store 1, [.t 5, .t 11], none⟩])
 (.seq
 (.ops [⟨some 12, .load false 1, [.t 2], none⟩, ⟨some 13, .nilchk, [.t 12], none⟩, ⟨some 14, .fieldaddr 9, [.t 13], none⟩, ⟨some 15, .load false 1, [.t 14], none⟩, ⟨some 16, (.mkfunc (.func 134) 0), [.t 2, .t 5], none⟩, ⟨some 17, .call 133, [.t 15, .t 16], none⟩, ⟨some 4, .mov, [.t 17], none⟩]) .ret)))
theorem fc101 : fnC Tryz.prog 101 cert101 = some (18, [.tmp 4], ac101) := by kernel_rfl
def cert102 : Nat → Option Cert := fun _ => none
def ac102 : ACode :=(.seq
 (.ops [⟨some 4, .mov, [.c .emp], none⟩])
 (.seq
 (.seq
 (.ops [⟨some 7, .mov, [.t 0], none⟩, ⟨some 8, .len, [.t 7], none⟩, ⟨some 9, .mov, [.c (.int .i64 0)], none⟩])
 (.block 0
 (.loop
 (.seq
 (.ops [⟨some 10, .bin .lss, [.t 9, .t 8], none⟩])
 (.seq
 (.cond (.t 10) .skip (.exit 0))
 (.seq
 (.block 1
 (.seq
 (.ops [⟨some 11, .idxaddr 1, [.t 7, .t 9], none⟩, ⟨some 12, .load false 1, [.t 11], none⟩, ⟨some 6, .mov, [.t 12], none⟩])
 (.ops [⟨some 13, .mov, [.t 4], none⟩, ⟨some 14, .mov, [.t 6], none⟩, ⟨some 15, .mov, [.t 1], none⟩, ⟨some 16, (.build [(.int .i64 0), (.int .i64 0)] [(0, 1), (1, 1)]), [.t 14, .t 15], none⟩, ⟨some 17, .bslice 2, [.t 16], none⟩, ⟨some 18, .append 2 16, [.t 13, .t 17], none⟩, ⟨some 4, .mov, [.t 18], none⟩])))
 (.ops [⟨some 19, .bin .add, [.t 9, .c (.int .i64 1)], none⟩, ⟨some 9, .mov, [.t 19], none⟩])))))))
 (.seq
 (.ops [⟨some 20, .mov, [.t 4], none⟩, ⟨some 4, .mov, [.t 20], none⟩]) .ret)))
theorem fc102 : fnC Tryz.prog 102 cert102 = some (21, [.tmp 4], ac102) := by kernel_rfl
def cert103 : Nat → Option Cert := fun
  | 7 => some ⟨[0, 1, 2, 3, 4, 5, 6, 7, 8, 9, 10, 11, 12, 13, 14, 15, 16, 17, 18, 19, 20, 21, 22, 23, 24, 25, 26, 27, 28, 29, 30], .done, [[], [], [0, 1], [0, 1, 2], [], [4], [0, 1, 2, 3, 4, 5], [0, 1, 2, 3, 4, 5, 6], [0, 1, 2, 3, 4, 5, 6, 7], [0, 1, 2, 3, 4, 5, 6, 7, 8], [0, 1, 2, 3, 4, 5, 6, 7, 8, 9], [0, 1, 2, 3, 4, 5, 6, 7, 8, 9, 10], [0, 1, 2, 3, 4, 5, 6, 7, 8, 9, 10, 11], [0, 1, 2, 3, 4, 5, 6, 7, 8, 9, 10, 11, 12], [0, 1, 2, 3, 4, 5, 6, 7, 8, 9, 10, 11, 12, 13], [0, 1, 2, 3, 4, 5, 6, 7, 8, 9, 10, 11, 12, 13, 14], [0, 1, 2, 3, 4, 5, 6, 7, 8, 9, 10, 11, 12, 13, 14, 15], [0, 1, 2, 3, 4, 5, 6, 7, 8, 9, 10, 11, 12, 13, 14, 15, 16], [0, 1, 2, 3, 4, 5, 6, 7, 8, 9, 10, 11, 12, 13, 14, 15, 16, 17], [0, 1, 2, 3, 4, 5, 6, 7, 8, 9, 10, 11, 12, 13, 14], [0, 1, 2, 3, 4, 5, 6, 7, 8, 9, 10, 11, 12, 13, 14, 19], [0, 1, 2, 3, 4, 5, 6, 7, 8, 9, 10, 11, 12, 13, 14, 19, 20], [0, 1, 2, 3, 4, 5, 6, 7, 8, 9, 10, 11, 12, 13, 14, 19, 20, 21], [0, 1, 2, 3, 4, 5, 6, 7, 8, 9, 10, 11, 12, 13, 14, 19, 20, 21, 22], [0, 1, 2, 3, 4, 5, 6, 7, 8, 9, 10, 11, 12, 13, 14, 19, 20, 21, 22, 23], [0, 1, 2, 3, 4, 5, 6, 7, 8, 9, 10, 11, 12, 13, 14, 15, 16, 17, 18, 19, 20, 21, 22, 23, 24], [0, 1, 2, 3, 4, 5, 6, 7, 8, 9, 10, 11, 12, 13, 14, 15, 16, 17, 18, 19, 20, 21, 22, 23, 24, 25], [0, 1, 2, 3, 4, 5, 6, 7, 8, 9, 10, 11, 12, 13, 14], [0, 1, 2, 3, 4, 5, 6, 7, 8, 9, 10, 11, 12, 13, 14, 15, 16, 17, 18, 19, 20, 21, 22, 23, 24, 25, 26, 27], [0, 1, 2, 3, 4, 5, 6, 7, 8, 9, 10, 11, 12, 13, 14, 15, 16, 17, 18, 19, 20, 21, 22, 23, 24, 25, 26, 27, 28], [0, 1, 2, 3, 4, 5, 6, 7, 8, 9, 10, 11, 12, 13, 14, 15, 16, 17, 18, 19, 20, 21, 22, 23, 24, 25, 26, 27, 28, 29]]⟩
  | 8 => some ⟨[0, 1, 2, 3, 4, 5, 6], (.one 7 (.one 8 (.one 9 (.one 10 .done)))), [[], [], [1], [1, 2], [1, 2, 3], [], [5], [1, 2, 3, 4, 5, 6], [0, 1, 2, 3, 4, 5, 6, 7], [0, 1, 2, 3, 4, 5, 6, 7, 8], [0, 1, 2, 3, 4, 5, 6, 7, 8, 9]]⟩
  | 12 => some ⟨[0, 1, 2, 3, 4, 5, 6, 7, 8, 9, 10], (.one 11 (.one 12 (.one 13 .done))), [[], [0], [0, 1], [0, 1, 2], [], [], [5], [5, 6], [4, 5, 6, 7], [0, 1, 2, 3, 4, 5, 6, 7, 8], [0, 1, 2, 3, 4, 5, 6, 7, 8, 9], [0, 1, 2, 3, 4, 5, 6, 7, 8], [0, 1, 2, 3, 4, 5, 6, 7, 8, 11], [0, 1, 2, 3, 4, 5, 6, 7, 8, 9, 10, 11, 12]]⟩
  | _ => none
def ac103 (ga gb : Code) : ACode :=(.seq
 (.ops [⟨some 1, .box, [.t 0], none⟩, ⟨some 2, .mov, [.c .nilp], none⟩, ⟨some 3, .mov, [.c (.int .i64 0)], none⟩])
 (.seq
 (.seq
 (.ops [⟨some 8, .load true 3, [.t 1], none⟩, ⟨some 9, .call 135, [.t 8], none⟩, ⟨some 4, .mov, [.t 9], none⟩])
 (.seq
 (.ops [⟨some 10, .mov, [.t 4], none⟩, ⟨some 11, .bin .neq, [.t 10, .c (.int .i64 0)], none⟩])
 (.cond (.t 11)
 (.seq
 (.ops [⟨some 12, .mov, [.t 4], none⟩, ⟨some 2, .mov, [.c .nilp], none⟩, ⟨some 3, .mov, [.t 12], none⟩]) .ret) .skip)))
 (.seq
 (.ops [⟨some 13, .load true 3, [.t 1], none⟩, ⟨some 14, .mkmap, [], none⟩, ⟨some 15, (.build [.emp, .emp, (.int .i64 0), .emp, .any] [(0, 3), (3, 1), (4, 1)]), [.t 13, .c .emp, .t 14], none⟩, ⟨some 16, .box, [.t 15], none⟩, ⟨some 5, (.alloc [.nilp]), [], none⟩, ⟨none, .store 1, [.t 5, .t 16], none⟩])
 (.seq
 (.seq
 (.ops [⟨some 17, .load true 3, [.t 1], none⟩, ⟨some 18, .call 136, [.t 17], none⟩])
 (.block 0 (.range (.t 18) #[19] ga gb)))
 (.seq
 (.seq
 (.ops [⟨some 81, .load false 1, [.t 5], none⟩, ⟨some 82, .nilchk, [.t 81], none⟩, ⟨some 83, .fieldaddr 3, [.t 82], none⟩, ⟨some 84, .load false 1, [.t 83], none⟩, ⟨some 85, .len, [.t 84], none⟩, ⟨some 86, .bin .eql, [.t 85, .c (.int .i64 0)], none⟩])
 (.cond (.t 86)
 (.seq
 (.ops [⟨some 2, .mov, [.c .nilp], none⟩, ⟨some 3, .mov, [.c (.int .i64 11)], none⟩]) .ret) .skip))
 (.seq
 (.ops [⟨some 87, .load false 1, [.t 5], none⟩, ⟨some 2, .mov, [.t 87], none⟩, ⟨some 3, .mov, [.c (.int .i64 0)], none⟩]) .ret))))))
theorem fc103 : fnC Tryz.prog 103 cert103 = some (88, [.tmp 2, .tmp 3], (ac103 (rangeF Tryz.f103).1 (rangeF Tryz.f103).2)) := by kernel_rfl
def aga103 : ACode :=(.ops [⟨some 6, (.alloc [(.int .i64 0), (.int .i64 0), (.int .i64 0), (.int .i64 0), (.int .i64 0), (.int .i64 0), (.int .i64 0)]), [], none⟩, ⟨none, .store 7, [.t 6, .t 19], none⟩])
def agb103 : ACode :=(.block 1
 (.seq
 (.seq
 (.draw [(false, ⟨some 20, .load true 3, [.t 1], none⟩), (false, ⟨some 21, .load true 7, [.t 6], none⟩), (false, ⟨some 22, .call 137, [.t 20, .t 21], none⟩), (false, ⟨some 23, .len, [.t 22], none⟩), (false, ⟨some 24, .fieldaddr 2, [.t 1], none⟩), (false, ⟨some 25, .load false 1, [.t 24], none⟩), (false, ⟨some 26, .bin .gtr, [.t 23, .t 25], none⟩), (false, ⟨some 27, .mov, [.t 26], none⟩), (false, ⟨some 28, .load false 1, [.t 5], some (27, false)⟩), (false, ⟨some 29, .nilchk, [.t 28], some (27, false)⟩), (false, ⟨some 30, .fieldaddr 3, [.t 29], some (27, false)⟩), (false, ⟨some 31, .load false 1, [.t 30], some (27, false)⟩), (false, ⟨some 32, .len, [.t 31], some (27, false)⟩), (false, ⟨some 33, .bin .gtr, [.t 32, .c (.int .i64 0)], some (27, false)⟩), (false, ⟨some 34, .mov, [.t 33], some (27, false)⟩), (false, ⟨some 35, .load false 1, [.t 5], some (34, true)⟩), (false, ⟨some 36, .nilchk, [.t 35], some (34, true)⟩), (false, ⟨some 37, .fieldaddr 3, [.t 36], some (34, true)⟩), (false, ⟨some 38, .load false 1, [.t 37], some (34, true)⟩), (false, ⟨some 39, .load false 1, [.t 5], some (34, true)⟩), (false, ⟨some 40, .nilchk, [.t 39], some (34, true)⟩), (false, ⟨some 41, .fieldaddr 3, [.t 40], some (34, true)⟩), (false, ⟨some 42, .load false 1, [.t 41], some (34, true)⟩), (false, ⟨some 43, .len, [.t 42], some (34, true)⟩), (false, ⟨some 44, .bin .sub, [.t 43, .c (.int .i64 1)], some (34, true)⟩), (false, ⟨some 45, .idxaddr 7, [.t 38, .t 44], some (34, true)⟩), (false, ⟨some 46, .load true 7, [.t 45], some (34, true)⟩), (false, ⟨some 47, .load true 7, [.t 6], some (34, true)⟩), (false, ⟨some 48, .eqagg true 7, [.t 46, .t 47], some (34, true)⟩), (false, ⟨some 49, .pick, [.t 34, .t 48, .c (.bool false)], some (27, false)⟩), (false, ⟨some 50, .pick, [.t 27, .c (.bool true), .t 49], none⟩)] .done)
 (.cond (.t 50) (.exit 1) .skip))
 (.seq
 (.draw [(true, ⟨some 51, .load false 1, [.t 5], none⟩), (false, ⟨some 52, .load false 1, [.t 5], none⟩), (false, ⟨some 53, .nilchk, [.t 52], none⟩), (false, ⟨some 54, .fieldaddr 3, [.t 53], none⟩), (false, ⟨some 55, .load false 1, [.t 54], none⟩), (false, ⟨some 56, .load true 7, [.t 6], none⟩), (false, ⟨some 57, .bslice 7, [.t 56], none⟩)] (.one ⟨some 58, .append 7 56, [.t 55, .t 57], none⟩ [⟨some 51, .load false 1, [.t 5], none⟩] (.one ⟨some 59, .nilchk, [.t 51], none⟩ [] (.one ⟨some 60, .fieldaddr 3, [.t 59], none⟩ [] (.one ⟨none, .store 1, [.t 60, .t 58], none⟩ [] .done)))))
 (.seq
 (.ops [⟨some 61, .fieldaddr 1, [.t 1], none⟩, ⟨some 62, .load false 1, [.t 61], none⟩, ⟨some 63, .len, [.t 62], none⟩, ⟨some 64, .mov, [.c (.int .i64 0)], none⟩])
 (.block 2
 (.loop
 (.seq
 (.ops [⟨some 65, .bin .lss, [.t 64, .t 63], none⟩])
 (.seq
 (.cond (.t 65) .skip (.exit 2))
 (.seq
 (.block 3
 (.seq
 (.ops [⟨some 66, .mov, [.t 64], none⟩, ⟨some 7, .mov, [.t 66], none⟩])
 (.draw [(false, ⟨some 67, .load false 1, [.t 5], none⟩), (false, ⟨some 68, .nilchk, [.t 67], none⟩), (false, ⟨some 69, .fieldaddr 4, [.t 68], none⟩), (false, ⟨some 70, .load false 1, [.t 69], none⟩), (false, ⟨some 71, .mov, [.t 7], none⟩), (false, ⟨some 72, .mov, [.t 7], none⟩), (false, ⟨some 73, .arraddr 7 1, [.t 6, .t 72], none⟩), (false, ⟨some 74, .load false 1, [.t 73], none⟩), (false, ⟨some 75, (.build [(.int .i64 0), (.int .i64 0)] [(0, 1), (1, 1)]), [.t 71, .t 74], none⟩), (true, ⟨some 76, (.lookup (.int .i64 0)), [.t 70, .t 75], none⟩), (true, ⟨some 77, .bin .add, [.t 76, .c (.int .i64 1)], none⟩)] (.one ⟨some 78, (.mapent (.int .i64 0)), [.t 70, .t 75], none⟩ [⟨some 76, (.lookup (.int .i64 0)), [.t 70, .t 75], none⟩] (.one ⟨some 79, .extract 1, [.t 78], none⟩ [⟨some 76, (.lookup (.int .i64 0)), [.t 70, .t 75], none⟩] (.one ⟨none, .entstore, [.t 70, .t 79, .t 77], none⟩ [] .done))))))
 (.ops [⟨some 80, .bin .add, [.t 64, .c (.int .i64 1)], none⟩, ⟨some 64, .mov, [.t 80], none⟩]))))))))))
theorem tga103 : tr Tryz.prog 88 cert103 false (rangeF Tryz.f103).1 = some aga103 := by kernel_rfl
theorem tgb103 : tr Tryz.prog 88 cert103 false (rangeF Tryz.f103).2 = some agb103 := by kernel_rfl
def cert104 : Nat → Option Cert := fun _ => none
def ac104 : ACode :=(.seq
 (.ops [⟨some 2, .mov, [.c .emp], none⟩])
 (.seq
 (.ops [⟨some 3, .mov, [.t 0], none⟩, ⟨some 4, .append 1 8, [.c .emp, .t 3], none⟩, ⟨some 2, .mov, [.t 4], none⟩]) .ret))
theorem fc104 : fnC Tryz.prog 104 cert104 = some (5, [.tmp 2], ac104) := by kernel_rfl
def cert105 : Nat → Option Cert := fun
  | 4 => some ⟨[0, 1, 2, 3, 4, 5, 6, 7, 8], .done, [[], [], [0, 1], [0, 1, 2], [], [], [4, 5], [4, 5, 6], [0, 1, 2, 3, 4, 5, 6, 7]]⟩
  | 5 => some ⟨[0, 1, 2, 3, 4, 5, 6, 7, 8, 9], .done, [[], [], [0, 1], [0, 1, 2], [], [], [4, 5], [4, 5, 6], [0, 1, 2, 3, 4, 5, 6, 7], [0, 1, 2, 3, 4, 5, 6, 7, 8]]⟩
  | _ => none
def ac105 : ACode :=(.seq
 (.ops [⟨some 4, .mov, [.c (.bool false)], none⟩])
 (.seq
 (.seq
 (.ops [⟨some 5, .mov, [.c (.int .i64 0)], none⟩])
 (.block 0
 (.loop
 (.seq
 (.seq
 (.ops [⟨some 6, .mov, [.t 5], none⟩, ⟨some 7, .mov, [.t 0], none⟩, ⟨some 8, .len, [.t 7], none⟩, ⟨some 9, .bin .lss, [.t 6, .t 8], none⟩, ⟨some 10, .mov, [.t 9], none⟩, ⟨some 11, .mov, [.t 5], some (10, true)⟩, ⟨some 12, .mov, [.t 1], some (10, true)⟩, ⟨some 13, .len, [.t 12], some (10, true)⟩, ⟨some 14, .bin .lss, [.t 11, .t 13], some (10, true)⟩, ⟨some 15, .pick, [.t 10, .t 14, .c (.bool false)], none⟩])
 (.cond (.t 15) .skip (.exit 0)))
 (.seq
 (.block 1
 (.seq
 (.draw [(false, ⟨some 18, .mov, [.t 0], none⟩), (false, ⟨some 19, .mov, [.t 5], none⟩), (false, ⟨some 20, .idxaddr 1, [.t 18, .t 19], none⟩), (false, ⟨some 21, .load false 1, [.t 20], none⟩), (false, ⟨some 22, .mov, [.t 1], none⟩), (false, ⟨some 23, .mov, [.t 5], none⟩), (false, ⟨some 24, .idxaddr 1, [.t 22, .t 23], none⟩), (false, ⟨some 25, .load false 1, [.t 24], none⟩), (false, ⟨some 26, .bin .neq, [.t 21, .t 25], none⟩)] .done)
 (.cond (.t 26)
 (.seq
 (.draw [(false, ⟨some 27, .mov, [.t 0], none⟩), (false, ⟨some 28, .mov, [.t 5], none⟩), (false, ⟨some 29, .idxaddr 1, [.t 27, .t 28], none⟩), (false, ⟨some 30, .load false 1, [.t 29], none⟩), (false, ⟨some 31, .mov, [.t 1], none⟩), (false, ⟨some 32, .mov, [.t 5], none⟩), (false, ⟨some 33, .idxaddr 1, [.t 31, .t 32], none⟩), (false, ⟨some 34, .load false 1, [.t 33], none⟩), (false, ⟨some 35, .bin .lss, [.t 30, .t 34], none⟩), (false, ⟨some 4, .mov, [.t 35], none⟩)] .done) .ret) .skip)))
 (.ops [⟨some 16, .mov, [.t 5], none⟩, ⟨some 17, .bin .add, [.t 16, .c (.int .i64 1)], none⟩, ⟨some 5, .mov, [.t 17], none⟩]))))))
 (.seq
 (.ops [⟨some 36, .mov, [.t 0], none⟩, ⟨some 37, .len, [.t 36], none⟩, ⟨some 38, .mov, [.t 1], none⟩, ⟨some 39, .len, [.t 38], none⟩, ⟨some 40, .bin .lss, [.t 37, .t 39], none⟩, ⟨some 4, .mov, [.t 40], none⟩]) .ret)))
theorem fc105 : fnC Tryz.prog 105 cert105 = some (41, [.tmp 4], ac105) := by kernel_rfl
def cert106 : Nat → Option Cert := fun _ => none
def ac106 : ACode :=(.seq
 (.ops [⟨some 4, .mov, [.c (.bool false)], none⟩])
 (.seq
 (.ops [⟨some 5, .mov, [(.c (.int .i64 (-1)))], none⟩])
 (.seq
 (.seq
 (.ops [⟨some 8, .mov, [.t 0], none⟩, ⟨some 9, .len, [.t 8], none⟩, ⟨some 10, .mov, [.c (.int .i64 0)], none⟩])
 (.block 0
 (.loop
 (.seq
 (.ops [⟨some 11, .bin .lss, [.t 10, .t 9], none⟩])
 (.seq
 (.cond (.t 11) .skip (.exit 0))
 (.seq
 (.block 1
 (.seq
 (.ops [⟨some 12, .idxaddr 1, [.t 8, .t 10], none⟩, ⟨some 13, .load false 1, [.t 12], none⟩, ⟨some 7, .mov, [.t 13], none⟩])
 (.seq
 (.seq
 (.ops [⟨some 14, .mov, [.t 7], none⟩, ⟨some 15, .mov, [.t 5], none⟩, ⟨some 16, .bin .add, [.t 15, .c (.int .i64 1)], none⟩, ⟨some 17, .mov, [.t 1], none⟩, ⟨some 18, .bin .sub, [.t 17, .c (.int .i64 1)], none⟩, ⟨some 19, .call 131, [.t 14, .t 16, .t 18], none⟩, ⟨some 20, .not, [.t 19], none⟩])
 (.cond (.t 20)
 (.seq
 (.ops [⟨some 4, .mov, [.c (.bool false)], none⟩]) .ret) .skip))
 (.ops [⟨some 21, .mov, [.t 7], none⟩, ⟨some 5, .mov, [.t 21], none⟩]))))
 (.ops [⟨some 22, .bin .add, [.t 10, .c (.int .i64 1)], none⟩, ⟨some 10, .mov, [.t 22], none⟩])))))))
 (.seq
 (.ops [⟨some 4, .mov, [.c (.bool true)], none⟩]) .ret))))
theorem fc106 : fnC Tryz.prog 106 cert106 = some (23, [.tmp 4], ac106) := by kernel_rfl
def cert107 : Nat → Option Cert := fun
  | 3 => some ⟨[0, 1, 2, 3, 4, 5], .done, [[], [], [], [1, 2], [0, 1, 2, 3], [0, 1, 2, 3, 4]]⟩
  | 7 => some ⟨[0, 1, 3, 4, 6, 7], (.one 2 (.one 5 (.one 8 .done))), [[], [], [1], [], [3], [1, 2, 3, 4], [], [6], [0, 1, 2, 3, 4, 5, 6, 7]]⟩
  | _ => none
def ac107 : ACode :=(.seq
 (.ops [⟨some 9, .mov, [.c (.bool false)], none⟩])
 (.seq
 (.seq
 (.ops [⟨some 11, .mov, [.t 1], none⟩, ⟨some 12, .bin .eql, [.t 11, .c (.int .i64 0)], none⟩])
 (.cond (.t 12)
 (.seq
 (.ops [⟨some 13, .mov, [.t 0], none⟩, ⟨none, .store 1, [.t 2, .t 13], none⟩])
 (.seq
 (.draw [(false, ⟨some 14, .load false 1, [.t 3], none⟩), (false, ⟨some 15, .mov, [.t 0], none⟩), (false, ⟨some 16, .load false 1, [.t 4], none⟩), (false, ⟨some 17, .call 108, [.t 15, .t 16], none⟩), (false, ⟨some 18, .call 101, [.t 14, .t 17], none⟩), (false, ⟨some 9, .mov, [.t 18], none⟩)] .done) .ret)) .skip))
 (.seq
 (.seq
 (.ops [⟨some 19, .load true 9, [.t 5], none⟩, ⟨some 20, .call 77, [.t 19], none⟩, ⟨some 21, .mov, [.c (.int .i64 0)], none⟩])
 (.block 0
 (.loop
 (.seq
 (.ops [⟨some 22, .bin .lss, [.t 21, .t 20], none⟩])
 (.seq
 (.cond (.t 22) .skip (.exit 0))
 (.seq
 (.block 1
 (.seq
 (.ops [⟨some 23, .mov, [.t 21], none⟩, ⟨some 10, .mov, [.t 23], none⟩])
 (.seq
 (.draw [(true, ⟨some 24, .load false 1, [.t 6], none⟩), (false, ⟨some 25, .mov, [.t 0], none⟩), (true, ⟨some 27, .mov, [.t 10], none⟩), (true, ⟨some 28, .bslice 1, [.t 27], none⟩), (true, ⟨some 30, .mov, [.t 1], none⟩), (true, ⟨some 31, .bin .sub, [.t 30, .c (.int .i64 1)], none⟩)] (.one ⟨some 26, .call 85, [.t 25], none⟩ [⟨some 24, .load false 1, [.t 6], none⟩] (.one ⟨some 29, .append 1 8, [.t 26, .t 28], none⟩ [⟨some 24, .load false 1, [.t 6], none⟩] (.one ⟨some 32, .callv, [.t 24, .t 29, .t 31], none⟩ [] .done))))
 (.cond (.t 32)
 (.seq
 (.ops [⟨some 9, .mov, [.c (.bool true)], none⟩]) .ret) .skip))))
 (.ops [⟨some 33, .bin .add, [.t 21, .c (.int .i64 1)], none⟩, ⟨some 21, .mov, [.t 33], none⟩])))))))
 (.seq
 (.ops [⟨some 9, .mov, [.c (.bool false)], none⟩]) .ret))))
theorem fc107 : fnC Tryz.prog 107 cert107 = some (34, [.tmp 9], ac107) := by kernel_rfl
def cert108 : Nat → Option Cert := fun _ => none
def ac108 : ACode :=(.seq
 (.ops [⟨some 4, .mov, [.c .emp], none⟩])
 (.seq
 (.seq
 (.ops [⟨some 7, .mov, [.t 0], none⟩, ⟨some 8, .len, [.t 7], none⟩, ⟨some 9, .mov, [.c (.int .i64 0)], none⟩])
 (.block 0
 (.loop
 (.seq
 (.ops [⟨some 10, .bin .lss, [.t 9, .t 8], none⟩])
 (.seq
 (.cond (.t 10) .skip (.exit 0))
 (.seq
 (.block 1
 (.seq
 (.ops [⟨some 11, .mov, [.t 9], none⟩, ⟨some 12, .idxaddr 1, [.t 7, .t 9], none⟩, ⟨some 13, .load false 1, [.t 12], none⟩, ⟨some 5, .mov, [.t 11], none⟩, ⟨some 6, .mov, [.t 13], none⟩])
 (.ops [⟨some 14, .mov, [.t 4], none⟩, ⟨some 15, .mov, [.t 6], none⟩, ⟨some 16, .mov, [.t 1], none⟩, ⟨some 17, .mov, [.t 5], none⟩, ⟨some 18, .bin .add, [.t 16, .t 17], none⟩, ⟨some 19, (.build [(.int .i64 0), (.int .i64 0)] [(0, 1), (1, 1)]), [.t 15, .t 18], none⟩, ⟨some 20, .bslice 2, [.t 19], none⟩, ⟨some 21, .append 2 16, [.t 14, .t 20], none⟩, ⟨some 4, .mov, [.t 21], none⟩])))
 (.ops [⟨some 22, .bin .add, [.t 9, .c (.int .i64 1)], none⟩, ⟨some 9, .mov, [.t 22], none⟩])))))))
 (.seq
 (.ops [⟨some 23, .mov, [.t 4], none⟩, ⟨some 4, .mov, [.t 23], none⟩]) .ret)))
theorem fc108 : fnC Tryz.prog 108 cert108 = some (24, [.tmp 4], ac108) := by kernel_rfl
def cert109 : Nat → Option Cert := fun _ => none
def ac109 : ACode :=(.seq
 (.ops [⟨some 2, .box, [.t 0], none⟩, ⟨some 4, .mov, [.c (.int .i64 0)], none⟩])
 (.seq
 (.ops [⟨some 5, .fieldaddr 5, [.t 2], none⟩, ⟨some 6, .load false 1, [.t 5], none⟩, ⟨some 7, .mov, [.t 1], none⟩, ⟨some 8, .bin .sub, [.t 6, .t 7], none⟩, ⟨some 9, .bin .add, [.t 8, .c (.int .i64 1)], none⟩, ⟨some 10, .bslice 1, [.c (.int .i64 3), .t 9], none⟩, ⟨some 11, .call 138, [.t 10], none⟩, ⟨some 4, .mov, [.t 11], none⟩]) .ret))
theorem fc109 : fnC Tryz.prog 109 cert109 = some (12, [.tmp 4], ac109) := by kernel_rfl
def cert111 : Nat → Option Cert := fun _ => none
def ac111 : ACode :=(.seq
 (.ops [⟨some 2, .box, [.t 0], none⟩, ⟨some 4, .mov, [.c (.bool false)], none⟩])
 (.seq
 (.ops [⟨some 5, .mov, [.t 1], none⟩, ⟨some 6, .load true 9, [.t 2], none⟩, ⟨some 7, .call 77, [.t 6], none⟩, ⟨some 8, .bin .sub, [.t 7, .c (.int .i64 1)], none⟩, ⟨some 9, .call 131, [.t 5, .c (.int .i64 0), .t 8], none⟩, ⟨some 4, .mov, [.t 9], none⟩]) .ret))
theorem fc111 : fnC Tryz.prog 111 cert111 = some (10, [.tmp 4], ac111) := by kernel_rfl
def cert113 : Nat → Option Cert := fun _ => none
def ac113 : ACode :=(.seq
 (.ops [⟨some 1, .box, [.t 0], none⟩, ⟨some 2, .mov, [.c (.bool false)], none⟩])
 (.seq
 (.seq
 (.ops [⟨some 4, .fieldaddr 0, [.t 1], none⟩, ⟨some 5, .load false 1, [.t 4], none⟩, ⟨some 6, .len, [.t 5], none⟩, ⟨some 7, .bin .gtr, [.t 6, .c (.int .i64 30)], none⟩, ⟨some 8, .mov, [.t 7], none⟩, ⟨some 9, .fieldaddr 1, [.t 1], some (8, false)⟩, ⟨some 10, .load false 1, [.t 9], some (8, false)⟩, ⟨some 11, .len, [.t 10], some (8, false)⟩, ⟨some 12, .bin .gtr, [.t 11, .c (.int .i64 30)], some (8, false)⟩, ⟨some 13, .pick, [.t 8, .c (.bool true), .t 12], none⟩])
 (.cond (.t 13)
 (.seq
 (.ops [⟨some 2, .mov, [.c (.bool false)], none⟩]) .ret) .skip))
 (.seq
 (.seq
 (.ops [⟨some 3, .mov, [.c (.int .i64 0)], none⟩])
 (.block 0
 (.loop
 (.seq
 (.seq
 (.ops [⟨some 14, .mov, [.t 3], none⟩, ⟨some 15, .fieldaddr 1, [.t 1], none⟩, ⟨some 16, .load false 1, [.t 15], none⟩, ⟨some 17, .len, [.t 16], none⟩, ⟨some 18, .bin .lss, [.t 14, .t 17], none⟩])
 (.cond (.t 18) .skip (.exit 0)))
 (.seq
 (.block 1
 (.seq
 (.ops [⟨some 21, .fieldaddr 1, [.t 1], none⟩, ⟨some 22, .load false 1, [.t 21], none⟩, ⟨some 23, .mov, [.t 3], none⟩, ⟨some 24, .idxaddr 2, [.t 22, .t 23], none⟩, ⟨some 25, .fieldaddr 0, [.t 24], none⟩, ⟨some 26, .load false 1, [.t 25], none⟩, ⟨some 27, .len, [.t 26], none⟩, ⟨some 28, .bin .gtr, [.t 27, .c (.int .i64 30)], none⟩])
 (.cond (.t 28)
 (.seq
 (.ops [⟨some 2, .mov, [.c (.bool false)], none⟩]) .ret) .skip)))
 (.ops [⟨some 19, .mov, [.t 3], none⟩, ⟨some 20, .bin .add, [.t 19, .c (.int .i64 1)], none⟩, ⟨some 3, .mov, [.t 20], none⟩]))))))
 (.seq
 (.ops [⟨some 2, .mov, [.c (.bool true)], none⟩]) .ret))))
theorem fc113 : fnC Tryz.prog 113 cert113 = some (29, [.tmp 2], ac113) := by kernel_rfl
def cert114 : Nat → Option Cert := fun
  | 4 => some ⟨[0, 1, 2, 3, 4, 5, 6, 7, 8, 9, 10, 11, 12], .done, [[], [], [0, 1], [0, 1, 2], [0, 1, 2, 3], [0, 1, 2, 3, 4], [0, 1, 2, 3, 4, 5], [0, 1, 2, 3, 4, 5, 6], [0, 1, 2, 3, 4, 5, 6, 7], [0, 1, 2, 3, 4], [0, 1, 2, 3, 4, 9], [0, 1, 2, 3, 4, 5, 6, 7, 8, 9, 10], [0, 1, 2, 3, 4, 5, 6, 7, 8, 9, 10, 11]]⟩
  | _ => none
def ac114 : ACode :=(.seq
 (.ops [⟨some 3, .box, [.t 0], none⟩, ⟨some 4, .box, [.t 1], none⟩, ⟨some 6, .mov, [.c (.bool false)], none⟩])
 (.seq
 (.seq
 (.ops [⟨some 9, .fieldaddr 8, [.t 3], none⟩, ⟨some 10, .load false 1, [.t 9], none⟩, ⟨some 11, .len, [.t 10], none⟩, ⟨some 12, .mov, [.c (.int .i64 0)], none⟩])
 (.block 0
 (.loop
 (.seq
 (.ops [⟨some 13, .bin .lss, [.t 12, .t 11], none⟩])
 (.seq
 (.cond (.t 13) .skip (.exit 0))
 (.seq
 (.block 1
 (.seq
 (.ops [⟨some 14, .mov, [.t 12], none⟩, ⟨some 15, .idxaddr 2, [.t 10, .t 12], none⟩, ⟨some 16, .load true 2, [.t 15], none⟩, ⟨some 8, (.alloc [(.int .i64 0), (.bool false)]), [], none⟩, ⟨some 7, .mov, [.t 14], none⟩, ⟨none, .store 2, [.t 8, .t 16], none⟩])
 (.seq
 (.draw [(false, ⟨some 17, .mov, [.t 2], none⟩), (false, ⟨some 18, .mov, [.t 7], none⟩), (false, ⟨some 19, .call 141, [.t 17, .t 18], none⟩), (false, ⟨some 20, .not, [.t 19], none⟩), (false, ⟨some 21, .mov, [.t 20], none⟩), (false, ⟨some 22, .fieldaddr 0, [.t 8], some (21, true)⟩), (false, ⟨some 23, .load false 1, [.t 22], some (21, true)⟩), (false, ⟨some 24, .arraddr 10 1, [.t 4, .t 23], some (21, true)⟩), (false, ⟨some 25, .load false 1, [.t 24], some (21, true)⟩), (false, ⟨some 26, .fieldaddr 1, [.t 8], some (21, true)⟩), (false, ⟨some 27, .load false 1, [.t 26], some (21, true)⟩), (false, ⟨some 28, .binb .neq, [.t 25, .t 27], some (21, true)⟩), (false, ⟨some 29, .pick, [.t 21, .t 28, .c (.bool false)], none⟩)] .done)
 (.cond (.t 29)
 (.seq
 (.ops [⟨some 6, .mov, [.c (.bool false)], none⟩]) .ret) .skip))))
 (.ops [⟨some 30, .bin .add, [.t 12, .c (.int .i64 1)], none⟩, ⟨some 12, .mov, [.t 30], none⟩])))))))
 (.seq
 (.ops [⟨some 6, .mov, [.c (.bool true)], none⟩]) .ret)))
theorem fc114 : fnC Tryz.prog 114 cert114 = some (31, [.tmp 6], ac114) := by kernel_rfl
def cert115 : Nat → Option Cert := fun _ => none
def ac115 : ACode :=(.seq
 (.ops [⟨some 2, .box, [.t 0], none⟩, ⟨some 3, .box, [.t 1], none⟩, ⟨some 4, .mov, [.c (.bool false)], none⟩])
 (.seq
 (.ops [⟨some 5, .load true 9, [.t 2], none⟩, ⟨some 6, .fieldaddr 0, [.t 3], none⟩, ⟨some 7, .load false 1, [.t 6], none⟩, ⟨some 8, .call 111, [.t 5, .t 7], none⟩, ⟨some 9, .mov, [.t 8], none⟩, ⟨some 10, .load true 9, [.t 2], some (9, true)⟩, ⟨some 11, .fieldaddr 1, [.t 3], some (9, true)⟩, ⟨some 12, .load false 1, [.t 11], some (9, true)⟩, ⟨some 13, .call 111, [.t 10, .t 12], some (9, true)⟩, ⟨some 14, .pick, [.t 9, .t 13, .c (.bool false)], none⟩, ⟨some 15, .mov, [.t 14], none⟩, ⟨some 16, .fieldaddr 0, [.t 3], some (15, true)⟩, ⟨some 17, .load false 1, [.t 16], some (15, true)⟩, ⟨some 18, .fieldaddr 1, [.t 3], some (15, true)⟩, ⟨some 19, .load false 1, [.t 18], some (15, true)⟩, ⟨some 20, .bin .neq, [.t 17, .t 19], some (15, true)⟩, ⟨some 21, .pick, [.t 15, .t 20, .c (.bool false)], none⟩, ⟨some 22, .mov, [.t 21], none⟩, ⟨some 23, .load true 9, [.t 2], some (22, true)⟩, ⟨some 24, .fieldaddr 2, [.t 3], some (22, true)⟩, ⟨some 25, .fieldaddr 0, [.t 24], some (22, true)⟩, ⟨some 26, .load false 1, [.t 25], some (22, true)⟩, ⟨some 27, .call 99, [.t 23, .t 26], some (22, true)⟩, ⟨some 28, .pick, [.t 22, .t 27, .c (.bool false)], none⟩, ⟨some 29, .mov, [.t 28], none⟩, ⟨some 30, .load true 9, [.t 2], some (29, true)⟩, ⟨some 31, .fieldaddr 2, [.t 3], some (29, true)⟩, ⟨some 32, .fieldaddr 1, [.t 31], some (29, true)⟩, ⟨some 33, .load false 1, [.t 32], some (29, true)⟩, ⟨some 34, .call 99, [.t 30, .t 33], some (29, true)⟩, ⟨some 35, .pick, [.t 29, .t 34, .c (.bool false)], none⟩, ⟨some 36, .mov, [.t 35], none⟩, ⟨some 37, .fieldaddr 2, [.t 3], some (36, true)⟩, ⟨some 38, .fieldaddr 0, [.t 37], some (36, true)⟩, ⟨some 39, .load false 1, [.t 38], some (36, true)⟩, ⟨some 40, .fieldaddr 2, [.t 3], some (36, true)⟩, ⟨some 41, .fieldaddr 1, [.t 40], some (36, true)⟩, ⟨some 42, .load false 1, [.t 41], some (36, true)⟩, ⟨some 43, .bin .leq, [.t 39, .t 42], some (36, true)⟩, ⟨some 44, .pick, [.t 36, .t 43, .c (.bool false)], none⟩, ⟨some 4, .mov, [.t 44], none⟩]) .ret))
theorem fc115 : fnC Tryz.prog 115 cert115 = some (45, [.tmp 4], ac115) := by kernel_rfl
def cert116 : Nat → Option Cert := fun _ => none
def ac116 : ACode :=(.seq
 (.ops [⟨some 2, .box, [.t 0], none⟩, ⟨some 3, .box, [.t 1], none⟩, ⟨some 4, .mov, [.c (.bool false)], none⟩])
 (.seq
 (.ops [⟨some 5, .load true 9, [.t 2], none⟩, ⟨some 6, .fieldaddr 0, [.t 3], none⟩, ⟨some 7, .load false 1, [.t 6], none⟩, ⟨some 8, .call 111, [.t 5, .t 7], none⟩, ⟨some 9, .mov, [.t 8], none⟩, ⟨some 10, .load true 9, [.t 2], some (9, true)⟩, ⟨some 11, .fieldaddr 1, [.t 3], some (9, true)⟩, ⟨some 12, .load false 1, [.t 11], some (9, true)⟩, ⟨some 13, .call 99, [.t 10, .t 12], some (9, true)⟩, ⟨some 14, .pick, [.t 9, .t 13, .c (.bool false)], none⟩, ⟨some 4, .mov, [.t 14], none⟩]) .ret))
theorem fc116 : fnC Tryz.prog 116 cert116 = some (15, [.tmp 4], ac116) := by kernel_rfl
def cert117 : Nat → Option Cert := fun _ => none
def ac117 : ACode :=(.seq
 (.ops [⟨some 2, .box, [.t 0], none⟩, ⟨some 3, .box, [.t 1], none⟩, ⟨some 4, .mov, [.c (.bool false)], none⟩])
 (.seq
 (.ops [⟨some 5, .load true 9, [.t 2], none⟩, ⟨some 6, .fieldaddr 0, [.t 3], none⟩, ⟨some 7, .load false 1, [.t 6], none⟩, ⟨some 8, .call 111, [.t 5, .t 7], none⟩, ⟨some 4, .mov, [.t 8], none⟩]) .ret))
theorem fc117 : fnC Tryz.prog 117 cert117 = some (9, [.tmp 4], ac117) := by kernel_rfl
def cert118 : Nat → Option Cert := fun _ => none
def ac118 : ACode :=(.seq
 (.ops [⟨some 3, .box, [.t 1], none⟩, ⟨some 4, .mov, [.c (.bool false)], none⟩])
 (.seq
 (.ops [⟨some 5, .mov, [.t 0], none⟩, ⟨some 6, (.mkfunc (.func 143) 0), [.t 3], none⟩, ⟨some 7, .call 142, [.t 5, .t 6], none⟩, ⟨some 8, .not, [.t 7], none⟩, ⟨some 4, .mov, [.t 8], none⟩]) .ret))
theorem fc118 : fnC Tryz.prog 118 cert118 = some (9, [.tmp 4], ac118) := by kernel_rfl
def cert119 : Nat → Option Cert := fun _ => none
def ac119 : ACode :=(.seq
 (.ops [⟨some 3, .box, [.t 1], none⟩, ⟨some 4, .mov, [.c (.bool false)], none⟩])
 (.seq
 (.ops [⟨some 5, .mov, [.t 0], none⟩, ⟨some 6, (.mkfunc (.func 145) 0), [.t 3], none⟩, ⟨some 7, .call 144, [.t 5, .t 6], none⟩, ⟨some 8, .not, [.t 7], none⟩, ⟨some 4, .mov, [.t 8], none⟩]) .ret))
theorem fc119 : fnC Tryz.prog 119 cert119 = some (9, [.tmp 4], ac119) := by kernel_rfl
def cert120 : Nat → Option Cert := fun _ => none
def ac120 : ACode :=(.seq
 (.ops [⟨some 3, .box, [.t 1], none⟩, ⟨some 4, .mov, [.c (.bool false)], none⟩])
 (.seq
 (.ops [⟨some 5, .mov, [.t 0], none⟩, ⟨some 6, (.mkfunc (.func 147) 0), [.t 3], none⟩, ⟨some 7, .call 146, [.t 5, .t 6], none⟩, ⟨some 8, .not, [.t 7], none⟩, ⟨some 4, .mov, [.t 8], none⟩]) .ret))
theorem fc120 : fnC Tryz.prog 120 cert120 = some (9, [.tmp 4], ac120) := by kernel_rfl
def cert121 : Nat → Option Cert := fun _ => none
def ac121 : ACode :=(.seq
 (.ops [⟨some 1, .box, [.t 0], none⟩, ⟨some 2, .mov, [.c (.int .i64 0)], none⟩])
 (.seq
 (.ops [⟨some 3, .mov, [.c (.int .i64 1)], none⟩])
 (.seq
 (.seq
 (.ops [⟨some 11, .fieldaddr 0, [.t 1], none⟩, ⟨some 12, .fieldaddr 1, [.t 11], none⟩, ⟨some 13, .load false 1, [.t 12], none⟩, ⟨some 14, .len, [.t 13], none⟩, ⟨some 15, .mov, [.c (.int .i64 0)], none⟩])
 (.block 0
 (.loop
 (.seq
 (.ops [⟨some 16, .bin .lss, [.t 15, .t 14], none⟩])
 (.seq
 (.cond (.t 16) .skip (.exit 0))
 (.seq
 (.block 1
 (.seq
 (.ops [⟨some 17, .idxaddr 2, [.t 13, .t 15], none⟩, ⟨some 18, .load true 2, [.t 17], none⟩, ⟨some 5, (.alloc [.emp, (.int .i64 0)]), [], none⟩, ⟨none, .store 2, [.t 5, .t 18], none⟩])
 (.seq
 (.ops [⟨some 6, .mov, [.c (.int .i64 0)], none⟩])
 (.seq
 (.seq
 (.ops [⟨some 19, .fieldaddr 0, [.t 1], none⟩, ⟨some 20, .fieldaddr 0, [.t 19], none⟩, ⟨some 21, .load false 1, [.t 20], none⟩, ⟨some 22, .len, [.t 21], none⟩, ⟨some 23, .mov, [.c (.int .i64 0)], none⟩])
 (.block 2
 (.loop
 (.seq
 (.ops [⟨some 24, .bin .lss, [.t 23, .t 22], none⟩])
 (.seq
 (.cond (.t 24) .skip (.exit 2))
 (.seq
 (.block 3
 (.seq
 (.ops [⟨some 25, .idxaddr 3, [.t 21, .t 23], none⟩, ⟨some 26, .load true 3, [.t 25], none⟩, ⟨some 8, (.alloc [(.int .i64 0), (.int .i64 0), (.int .i64 0)]), [], none⟩, ⟨none, .store 3, [.t 8, .t 26], none⟩])
 (.seq
 (.ops [⟨some 27, .fieldaddr 0, [.t 5], none⟩, ⟨some 28, .load false 1, [.t 27], none⟩, ⟨some 29, .fieldaddr 0, [.t 8], none⟩, ⟨some 30, .load false 1, [.t 29], none⟩, ⟨some 31, .call 141, [.t 28, .t 30], none⟩])
 (.cond (.t 31)
 (.ops [⟨some 32, .mov, [.t 6], none⟩, ⟨some 33, .bin .add, [.t 32, .c (.int .i64 1)], none⟩, ⟨some 6, .mov, [.t 33], none⟩]) .skip))))
 (.ops [⟨some 34, .bin .add, [.t 23, .c (.int .i64 1)], none⟩, ⟨some 23, .mov, [.t 34], none⟩])))))))
 (.ops [⟨some 35, .mov, [.t 3], none⟩, ⟨some 36, .mov, [.t 6], none⟩, ⟨some 37, .bin .mul, [.t 35, .t 36], none⟩, ⟨some 38, .bslice 1, [.t 37, .c (.int .i64 2001)], none⟩, ⟨some 39, .call 138, [.t 38], none⟩, ⟨some 3, .mov, [.t 39], none⟩])))))
 (.ops [⟨some 40, .bin .add, [.t 15, .c (.int .i64 1)], none⟩, ⟨some 15, .mov, [.t 40], none⟩])))))))
 (.seq
 (.seq
 (.ops [⟨some 41, .fieldaddr 6, [.t 1], none⟩, ⟨some 42, .load false 1, [.t 41], none⟩, ⟨some 43, .len, [.t 42], none⟩, ⟨some 44, .mov, [.c (.int .i64 0)], none⟩])
 (.block 4
 (.loop
 (.seq
 (.ops [⟨some 45, .bin .lss, [.t 44, .t 43], none⟩])
 (.seq
 (.cond (.t 45) .skip (.exit 4))
 (.seq
 (.block 5
 (.seq
 (.ops [⟨some 46, .idxaddr 4, [.t 42, .t 44], none⟩, ⟨some 47, .load true 4, [.t 46], none⟩, ⟨some 10, (.alloc [(.int .i64 0), (.int .i64 0), (.int .i64 0), (.int .i64 0)]), [], none⟩, ⟨none, .store 4, [.t 10, .t 47], none⟩])
 (.ops [⟨some 48, .mov, [.t 3], none⟩, ⟨some 49, .fieldaddr 2, [.t 10], none⟩, ⟨some 50, .fieldaddr 1, [.t 49], none⟩, ⟨some 51, .load false 1, [.t 50], none⟩, ⟨some 52, .fieldaddr 2, [.t 10], none⟩, ⟨some 53, .fieldaddr 0, [.t 52], none⟩, ⟨some 54, .load false 1, [.t 53], none⟩, ⟨some 55, .bin .sub, [.t 51, .t 54], none⟩, ⟨some 56, .bin .add, [.t 55, .c (.int .i64 1)], none⟩, ⟨some 57, .bin .mul, [.t 48, .t 56], none⟩, ⟨some 58, .bslice 1, [.t 57, .c (.int .i64 2001)], none⟩, ⟨some 59, .call 138, [.t 58], none⟩, ⟨some 3, .mov, [.t 59], none⟩])))
 (.ops [⟨some 60, .bin .add, [.t 44, .c (.int .i64 1)], none⟩, ⟨some 44, .mov, [.t 60], none⟩])))))))
 (.seq
 (.ops [⟨some 61, .mov, [.t 3], none⟩, ⟨some 2, .mov, [.t 61], none⟩]) .ret)))))
theorem fc121 : fnC Tryz.prog 121 cert121 = some (62, [.tmp 2], ac121) := by kernel_rfl
def cert122 : Nat → Option Cert := fun
  | 1 => some ⟨[0, 1, 2, 3, 4, 5, 6, 7, 8, 9, 10, 11, 12, 13, 14, 15, 16], .done, [[], [], [0, 1], [0, 1, 2], [0, 1, 2, 3], [0, 1, 2, 3, 4], [0, 1, 2, 3], [0, 1, 2, 3], [0, 1, 2, 3, 4, 5, 6, 7], [0, 1, 2, 3, 4, 5, 6, 7, 8], [0, 1, 2, 3, 4, 5, 6, 7, 8, 9], [0, 1, 2, 3, 4, 5, 6, 7, 8, 9, 10], [0, 1, 2, 3], [0, 1, 2, 3, 12], [0, 1, 2, 3, 4, 5, 6, 7, 8, 9, 10, 11, 12, 13], [0, 1, 2, 3, 4, 5, 6, 7, 8, 9, 10, 11, 12, 13, 14], [0, 1, 2, 3, 4, 5, 6, 7, 8, 9, 10, 11, 12, 13, 14, 15]]⟩
  | _ => none
def ac122 : ACode :=(.seq
 (.ops [⟨some 2, .box, [.t 0], none⟩, ⟨some 4, .mov, [.c (.bool false)], none⟩])
 (.seq
 (.draw [(false, ⟨some 5, .load true 3, [.t 2], none⟩), (false, ⟨some 6, .mov, [.t 1], none⟩), (false, ⟨some 7, .call 148, [.t 5, .t 6], none⟩), (false, ⟨some 8, .mov, [.t 7], none⟩), (false, ⟨some 9, .load true 3, [.t 2], some (8, true)⟩), (false, ⟨some 10, .call 149, [.t 9], some (8, true)⟩), (false, ⟨some 11, .load true 3, [.t 2], some (8, true)⟩), (false, ⟨some 12, .mov, [.t 1], some (8, true)⟩), (false, ⟨some 13, .call 150, [.t 11, .t 12], some (8, true)⟩), (false, ⟨some 14, .bin .andNot, [.t 10, .t 13], some (8, true)⟩), (false, ⟨some 15, .call 51, [.t 14], some (8, true)⟩), (false, ⟨some 16, .len, [.t 15], some (8, true)⟩), (false, ⟨some 17, .fieldaddr 2, [.t 2], some (8, true)⟩), (false, ⟨some 18, .load false 1, [.t 17], some (8, true)⟩), (false, ⟨some 19, .bin .leq, [.t 16, .t 18], some (8, true)⟩), (false, ⟨some 20, .pick, [.t 8, .t 19, .c (.bool false)], none⟩), (false, ⟨some 4, .mov, [.t 20], none⟩)] .done) .ret))
theorem fc122 : fnC Tryz.prog 122 cert122 = some (21, [.tmp 4], ac122) := by kernel_rfl
def cert123 : Nat → Option Cert := fun
  | 6 => some ⟨[0, 1, 2, 3, 4, 5, 6, 7], .done, [[], [0], [], [2], [], [2, 3, 4], [2, 3, 4, 5], [0, 1, 2, 3, 4, 5, 6]]⟩
  | 18 => some ⟨[0, 1, 2, 3, 4, 5, 6, 7, 8, 9, 10, 11, 12, 13, 14, 15, 16, 17], .done, [[], [0], [], [0, 1, 2], [0, 1, 2, 3], [0, 1, 2, 3, 4], [0, 1, 2, 3, 4, 5], [0, 1, 2, 3, 4, 5, 6], [], [8], [], [8, 9, 10], [8, 9, 10, 11], [8, 9, 10, 11, 12], [8, 9, 10, 11, 12, 13], [8, 9, 10, 11, 12, 13, 14], [0, 1, 2, 3, 4, 5, 6, 7, 8, 9, 10, 11, 12, 13, 14, 15], [0, 1, 2, 3, 4, 5, 6, 7, 8, 9, 10, 11, 12, 13, 14, 15, 16]]⟩
  | _ => none
def ac123 : ACode :=(.seq
 (.ops [⟨some 4, .box, [.t 0], none⟩, ⟨some 5, .box, [.t 1], none⟩, ⟨some 8, .mov, [.c (.int .i64 0)], none⟩])
 (.seq
 (.ops [⟨some 9, .mov, [.c (.int .i64 0)], none⟩])
 (.seq
 (.seq
 (.ops [⟨some 14, .mov, [.t 3], none⟩, ⟨some 15, .bin .lss, [.t 14, .c (.int .i64 0)], none⟩])
 (.cond (.t 15)
 (.seq
 (.seq
 (.ops [⟨some 10, .mov, [.c (.int .i64 0)], none⟩])
 (.block 0
 (.loop
 (.seq
 (.seq
 (.ops [⟨some 16, .mov, [.t 10], none⟩, ⟨some 17, .fieldaddr 0, [.t 5], none⟩, ⟨some 18, .load false 1, [.t 17], none⟩, ⟨some 19, .len, [.t 18], none⟩, ⟨some 20, .bin .lss, [.t 16, .t 19], none⟩])
 (.cond (.t 20) .skip (.exit 0)))
 (.seq
 (.block 1
 (.seq
 (.draw [(false, ⟨some 23, .fieldaddr 3, [.t 4], none⟩), (false, ⟨some 24, .load false 1, [.t 23], none⟩), (false, ⟨some 25, .fieldaddr 0, [.t 5], none⟩), (false, ⟨some 26, .load false 1, [.t 25], none⟩), (false, ⟨some 27, .mov, [.t 10], none⟩), (false, ⟨some 28, .idxaddr 1, [.t 26, .t 27], none⟩), (false, ⟨some 29, .load false 1, [.t 28], none⟩), (false, ⟨some 30, .call 40, [.t 24, .t 29], none⟩)] .done)
 (.cond (.t 30)
 (.ops [⟨some 31, .mov, [.t 9], none⟩, ⟨some 32, .mov, [.t 10], none⟩, ⟨some 33, .conv .u64, [.t 32], none⟩, ⟨some 34, .bin .shl, [.c (.int .i64 1), .t 33], none⟩, ⟨some 35, .bin .or, [.t 31, .t 34], none⟩, ⟨some 9, .mov, [.t 35], none⟩]) .skip)))
 (.ops [⟨some 21, .mov, [.t 10], none⟩, ⟨some 22, .bin .add, [.t 21, .c (.int .i64 1)], none⟩, ⟨some 10, .mov, [.t 22], none⟩]))))))
 (.seq
 (.ops [⟨some 36, .mov, [.t 9], none⟩, ⟨some 8, .mov, [.t 36], none⟩]) .ret)) .skip))
 (.seq
 (.ops [⟨some 37, .load true 9, [.t 4], none⟩, ⟨some 38, .load true 2, [.t 5], none⟩, ⟨some 39, .mov, [.t 2], none⟩, ⟨some 40, .mov, [.t 3], none⟩, ⟨some 41, .bin .sub, [.t 40, .c (.int .i64 1)], none⟩, ⟨some 42, .call 123, [.t 37, .t 38, .t 39, .t 41], none⟩, ⟨some 9, .mov, [.t 42], none⟩])
 (.seq
 (.seq
 (.ops [⟨some 11, .mov, [.c (.int .i64 0)], none⟩])
 (.block 2
 (.loop
 (.seq
 (.seq
 (.ops [⟨some 43, .mov, [.t 11], none⟩, ⟨some 44, .load true 9, [.t 4], none⟩, ⟨some 45, .call 25, [.t 44], none⟩, ⟨some 46, .bin .lss, [.t 43, .t 45], none⟩])
 (.cond (.t 46) .skip (.exit 2)))
 (.seq
 (.block 3
 (.seq
 (.ops [⟨some 49, .mov, [.t 2], none⟩, ⟨some 50, .mov, [.t 11], none⟩, ⟨some 51, .mov, [.t 3], none⟩, ⟨some 52, .call 151, [.t 49, .t 50, .t 51], none⟩])
 (.cond (.t 52)
 (.ops [⟨some 53, .mov, [.t 9], none⟩, ⟨some 54, .mov, [.t 11], none⟩, ⟨some 55, .conv .u64, [.t 54], none⟩, ⟨some 56, .bin .shl, [.c (.int .i64 1), .t 55], none⟩, ⟨some 57, .bin .andNot, [.t 53, .t 56], none⟩, ⟨some 9, .mov, [.t 57], none⟩]) .skip)))
 (.ops [⟨some 47, .mov, [.t 11], none⟩, ⟨some 48, .bin .add, [.t 47, .c (.int .i64 1)], none⟩, ⟨some 11, .mov, [.t 48], none⟩]))))))
 (.seq
 (.seq
 (.ops [⟨some 12, .mov, [.c (.int .i64 0)], none⟩])
 (.block 4
 (.loop
 (.seq
 (.seq
 (.ops [⟨some 58, .mov, [.t 12], none⟩, ⟨some 59, .fieldaddr 6, [.t 4], none⟩, ⟨some 60, .load false 1, [.t 59], none⟩, ⟨some 61, .len, [.t 60], none⟩, ⟨some 62, .bin .lss, [.t 58, .t 61], none⟩])
 (.cond (.t 62) .skip (.exit 4)))
 (.seq
 (.block 5
 (.seq
 (.draw [(false, ⟨some 65, .fieldaddr 6, [.t 4], none⟩), (false, ⟨some 66, .load false 1, [.t 65], none⟩), (false, ⟨some 67, .mov, [.t 12], none⟩), (false, ⟨some 68, .idxaddr 4, [.t 66, .t 67], none⟩), (false, ⟨some 69, .fieldaddr 0, [.t 68], none⟩), (false, ⟨some 70, .load false 1, [.t 69], none⟩), (false, ⟨some 71, .conv .u64, [.t 70], none⟩), (false, ⟨some 72, .bin .shl, [.c (.int .i64 1), .t 71], none⟩), (false, ⟨some 73, .fieldaddr 6, [.t 4], none⟩), (false, ⟨some 74, .load false 1, [.t 73], none⟩), (false, ⟨some 75, .mov, [.t 12], none⟩), (false, ⟨some 76, .idxaddr 4, [.t 74, .t 75], none⟩), (false, ⟨some 77, .fieldaddr 1, [.t 76], none⟩), (false, ⟨some 78, .load false 1, [.t 77], none⟩), (false, ⟨some 79, .conv .u64, [.t 78], none⟩), (false, ⟨some 80, .bin .shl, [.c (.int .i64 1), .t 79], none⟩), (false, ⟨some 81, .bin .or, [.t 72, .t 80], none⟩), (false, ⟨some 13, .mov, [.t 81], none⟩)] .done)
 (.seq
 (.ops [⟨some 82, .fieldaddr 1, [.t 5], none⟩, ⟨some 83, .load false 1, [.t 82], none⟩, ⟨some 84, .mov, [.t 12], none⟩, ⟨some 85, .idxaddr 1, [.t 83, .t 84], none⟩, ⟨some 86, .load false 1, [.t 85], none⟩, ⟨some 87, .mov, [.t 3], none⟩, ⟨some 88, .bin .eql, [.t 86, .t 87], none⟩, ⟨some 89, .mov, [.t 88], none⟩, ⟨some 90, .mov, [.t 9], some (89, true)⟩, ⟨some 91, .mov, [.t 13], some (89, true)⟩, ⟨some 92, .bin .and, [.t 90, .t 91], some (89, true)⟩, ⟨some 93, .bin .neq, [.t 92, .c (.int .i64 0)], some (89, true)⟩, ⟨some 94, .pick, [.t 89, .t 93, .c (.bool false)], none⟩])
 (.cond (.t 94)
 (.ops [⟨some 95, .mov, [.t 9], none⟩, ⟨some 96, .mov, [.t 13], none⟩, ⟨some 97, .bin .or, [.t 95, .t 96], none⟩, ⟨some 9, .mov, [.t 97], none⟩]) .skip))))
 (.ops [⟨some 63, .mov, [.t 12], none⟩, ⟨some 64, .bin .add, [.t 63, .c (.int .i64 1)], none⟩, ⟨some 12, .mov, [.t 64], none⟩]))))))
 (.seq
 (.ops [⟨some 98, .mov, [.t 9], none⟩, ⟨some 8, .mov, [.t 98], none⟩]) .ret)))))))
theorem fc123 : fnC Tryz.prog 123 cert123 = some (99, [.tmp 8], ac123) := by kernel_rfl
def cert125 : Nat → Option Cert := fun _ => none
def ac125 : ACode :=(.seq
 (.ops [⟨some 4, (.alloc [(.int .i64 0), (.int .i64 0)]), [], none⟩])
 (.seq
 (.ops [⟨some 5, .mov, [.t 0], none⟩, ⟨some 6, .mov, [.t 1], none⟩, ⟨some 7, (.build [(.int .i64 0), (.int .i64 0)] [(0, 1), (1, 1)]), [.t 5, .t 6], none⟩, ⟨none, .store 2, [.t 4, .t 7], none⟩]) .ret))
theorem fc125 : fnC Tryz.prog 125 cert125 = some (8, [.cell 4 130], ac125) := by kernel_rfl
def cert126 : Nat → Option Cert := fun _ => none
def ac126 : ACode :=(.seq
 (.ops [⟨some 1, .box, [.t 0], none⟩, ⟨some 2, .mov, [.c .nilf], none⟩])
 (.seq
 (.ops [⟨some 3, (.mkfunc (.func 152) 0), [.t 1], none⟩, ⟨some 2, .mov, [.t 3], none⟩]) .ret))
theorem fc126 : fnC Tryz.prog 126 cert126 = some (4, [.tmp 2], ac126) := by kernel_rfl
def cert127 : Nat → Option Cert := fun _ => none
def ac127 : ACode :=(.seq
 (.ops [⟨some 1, .box, [.t 0], none⟩, ⟨some 2, .mov, [.c (.int .i64 0)], none⟩])
 (.seq
 (.ops [⟨some 3, .fieldaddr 0, [.t 1], none⟩, ⟨some 4, .fieldaddr 1, [.t 3], none⟩, ⟨some 5, .load false 1, [.t 4], none⟩, ⟨some 6, .len, [.t 5], none⟩, ⟨some 2, .mov, [.t 6], none⟩]) .ret))
theorem fc127 : fnC Tryz.prog 127 cert127 = some (7, [.tmp 2], ac127) := by kernel_rfl
def cert128 : Nat → Option Cert := fun
  | 1 => some ⟨[0, 1, 2, 3, 4, 5, 6, 7], .done, [[], [0], [], [], [2, 3], [2, 3, 4], [0, 1, 2, 3, 4, 5], [0, 1, 2, 3, 4, 5, 6]]⟩
  | _ => none
def ac128 : ACode :=(.seq
 (.ops [⟨some 3, .box, [.t 0], none⟩, ⟨some 4, .box, [.t 1], none⟩, ⟨some 6, .mov, [.c (.bool false)], none⟩])
 (.seq
 (.draw [(false, ⟨some 7, .fieldaddr 3, [.t 3], none⟩), (false, ⟨some 8, .load false 1, [.t 7], none⟩), (false, ⟨some 9, .mov, [.t 2], none⟩), (false, ⟨some 10, .fieldaddr 0, [.t 4], none⟩), (false, ⟨some 11, .arraddr 7 1, [.t 10, .t 9], none⟩), (false, ⟨some 12, .load false 1, [.t 11], none⟩), (false, ⟨some 13, .call 141, [.t 8, .t 12], none⟩), (false, ⟨some 6, .mov, [.t 13], none⟩)] .done) .ret))
theorem fc128 : fnC Tryz.prog 128 cert128 = some (14, [.tmp 6], ac128) := by kernel_rfl
def cert129 : Nat → Option Cert := fun
  | 6 => some ⟨[0, 1, 2, 3, 4, 5, 6, 7, 8, 9, 10, 11, 12, 13], (.one 14 (.one 15 .done)), [[], [], [], [], [], [4], [3, 4, 5], [2, 3, 4, 5, 6], [2, 3, 4, 5, 6, 7], [], [], [10], [9, 10, 11], [0, 1, 2, 3, 4, 5, 6, 7, 8], [0, 1, 2, 3, 4, 5, 6, 7, 8, 13], [0, 1, 2, 3, 4, 5, 6, 7, 8, 9, 10, 11, 12, 13, 14]]⟩
  | _ => none
def ac129 : ACode :=(.seq
 (.ops [⟨some 2, .box, [.t 0], none⟩, ⟨some 4, .mov, [.c .emp], none⟩])
 (.seq
 (.ops [⟨some 8, .fieldaddr 1, [.t 2], none⟩, ⟨some 9, .load false 1, [.t 8], none⟩, ⟨some 10, .len, [.t 9], none⟩, ⟨some 11, (.mkslice 1 8 [(.int .i64 0)]), [.t 10], none⟩, ⟨some 5, .mov, [.t 11], none⟩])
 (.seq
 (.seq
 (.ops [⟨some 12, .fieldaddr 1, [.t 2], none⟩, ⟨some 13, .load false 1, [.t 12], none⟩, ⟨some 14, .len, [.t 13], none⟩, ⟨some 15, .bin .sub, [.t 14, .c (.int .i64 1)], none⟩, ⟨some 6, .mov, [.t 15], none⟩])
 (.block 0
 (.loop
 (.seq
 (.seq
 (.ops [⟨some 16, .mov, [.t 6], none⟩, ⟨some 17, .bin .geq, [.t 16, .c (.int .i64 0)], none⟩])
 (.cond (.t 17) .skip (.exit 0)))
 (.seq
 (.block 1
 (.seq
 (.ops [⟨some 20, .load true 3, [.t 2], none⟩, ⟨some 21, .mov, [.t 6], none⟩, ⟨some 22, .call 132, [.t 20, .t 21], none⟩, ⟨some 7, .mov, [.t 22], none⟩])
 (.draw [(false, ⟨some 23, .mov, [.t 5], none⟩), (false, ⟨some 24, .mov, [.t 6], none⟩), (false, ⟨some 25, .mov, [.t 7], none⟩), (false, ⟨some 26, .mov, [.t 1], none⟩), (false, ⟨some 27, .mov, [.t 7], none⟩), (false, ⟨some 28, .len, [.t 27], none⟩), (false, ⟨some 29, .bin .rem, [.t 26, .t 28], none⟩), (false, ⟨some 30, .idxaddr 1, [.t 25, .t 29], none⟩), (false, ⟨some 31, .load false 1, [.t 30], none⟩), (true, ⟨some 32, .mov, [.t 1], none⟩), (true, ⟨some 33, .mov, [.t 7], none⟩), (true, ⟨some 34, .len, [.t 33], none⟩), (true, ⟨some 35, .bin .quo, [.t 32, .t 34], none⟩), (false, ⟨some 36, .idxaddr 1, [.t 23, .t 24], none⟩)] (.one ⟨none, .store 1, [.t 36, .t 31], none⟩ [] (.one ⟨some 1, .mov, [.t 35], none⟩ [] .done)))))
 (.ops [⟨some 18, .mov, [.t 6], none⟩, ⟨some 19, .bin .sub, [.t 18, .c (.int .i64 1)], none⟩, ⟨some 6, .mov, [.t 19], none⟩]))))))
 (.seq
 (.ops [⟨some 37, .mov, [.t 5], none⟩, ⟨some 4, .mov, [.t 37], none⟩]) .ret))))
theorem fc129 : fnC Tryz.prog 129 cert129 = some (38, [.tmp 4], ac129) := by kernel_rfl
def cert130 : Nat → Option Cert := fun
  | 4 => some ⟨[0, 1, 2, 3, 4, 5, 6, 7, 8, 9, 10], .done, [[], [0], [0, 1], [0, 1], [0, 1, 2, 3], [0, 1, 2, 3, 4], [0, 1], [0, 1, 6], [0, 1, 2, 3, 4, 5, 6, 7], [0, 1, 2, 3, 4, 5, 6, 7, 8], [0, 1, 2, 3, 4, 5, 6, 7, 8, 9]]⟩
  | _ => none
def ac130 : ACode :=(.seq
 (.ops [⟨some 2, .box, [.t 0], none⟩, ⟨some 4, .mov, [.c (.bool false)], none⟩])
 (.seq
 (.seq
 (.ops [⟨some 7, .load true 3, [.t 2], none⟩, ⟨some 8, .call 135, [.t 7], none⟩, ⟨some 9, .bin .neq, [.t 8, .c (.int .i64 0)], none⟩])
 (.cond (.t 9)
 (.seq
 (.ops [⟨some 4, .mov, [.c (.bool false)], none⟩]) .ret) .skip))
 (.seq
 (.ops [⟨some 11, .load true 3, [.t 2], none⟩, ⟨some 12, .mov, [.t 1], none⟩, ⟨some 13, .call 155, [.t 11, .t 12], none⟩, ⟨some 10, .mov, [.t 13], none⟩, ⟨some 14, .extract 0, [.t 10], none⟩, ⟨some 15, .extract 1, [.t 10], none⟩, ⟨some 5, (.alloc [(.int .i64 0), (.int .i64 0), (.int .i64 0), (.int .i64 0), (.int .i64 0), (.int .i64 0), (.int .i64 0)]), [], none⟩, ⟨none, .store 7, [.t 5, .t 14], none⟩, ⟨some 6, .mov, [.t 15], none⟩])
 (.seq
 (.draw [(false, ⟨some 16, .mov, [.t 6], none⟩), (false, ⟨some 17, .mov, [.t 16], none⟩), (false, ⟨some 18, .load true 3, [.t 2], some (17, true)⟩), (false, ⟨some 19, .load true 7, [.t 5], some (17, true)⟩), (false, ⟨some 20, .call 137, [.t 18, .t 19], some (17, true)⟩), (false, ⟨some 21, .len, [.t 20], some (17, true)⟩), (false, ⟨some 22, .fieldaddr 2, [.t 2], some (17, true)⟩), (false, ⟨some 23, .load false 1, [.t 22], some (17, true)⟩), (false, ⟨some 24, .bin .leq, [.t 21, .t 23], some (17, true)⟩), (false, ⟨some 25, .pick, [.t 17, .t 24, .c (.bool false)], none⟩), (false, ⟨some 4, .mov, [.t 25], none⟩)] .done) .ret))))
theorem fc130 : fnC Tryz.prog 130 cert130 = some (26, [.tmp 4], ac130) := by kernel_rfl
def cert131 : Nat → Option Cert := fun _ => none
def ac131 : ACode :=(.seq
 (.ops [⟨some 6, .mov, [.c (.bool false)], none⟩])
 (.seq
 (.ops [⟨some 7, .mov, [.t 1], none⟩, ⟨some 8, .mov, [.t 0], none⟩, ⟨some 9, .bin .leq, [.t 7, .t 8], none⟩, ⟨some 10, .mov, [.t 9], none⟩, ⟨some 11, .mov, [.t 0], some (10, true)⟩, ⟨some 12, .mov, [.t 2], some (10, true)⟩, ⟨some 13, .bin .leq, [.t 11, .t 12], some (10, true)⟩, ⟨some 14, .pick, [.t 10, .t 13, .c (.bool false)], none⟩, ⟨some 6, .mov, [.t 14], none⟩]) .ret))
theorem fc131 : fnC Tryz.prog 131 cert131 = some (15, [.tmp 6], ac131) := by kernel_rfl
def cert132 : Nat → Option Cert := fun
  | 5 => some ⟨[0, 1, 2, 3, 4, 5, 6, 7, 8, 9, 10, 11, 12], .done, [[], [0], [], [0, 1, 2], [0, 1, 2, 3], [0, 1, 2, 3, 4], [], [6], [], [6, 7, 8], [6, 7, 8, 9], [6, 7, 8, 9, 10], [0, 1, 2, 3, 4, 5, 6, 7, 8, 9, 10, 11]]⟩
  | _ => none
def ac132 : ACode :=(.seq
 (.ops [⟨some 2, .box, [.t 0], none⟩, ⟨some 4, .mov, [.c .emp], none⟩])
 (.seq
 (.ops [⟨some 5, .mov, [.c .emp], none⟩])
 (.seq
 (.seq
 (.ops [⟨some 6, .mov, [.c (.int .i64 0)], none⟩])
 (.block 0
 (.loop
 (.seq
 (.seq
 (.ops [⟨some 7, .mov, [.t 6], none⟩, ⟨some 8, .fieldaddr 0, [.t 2], none⟩, ⟨some 9, .load false 1, [.t 8], none⟩, ⟨some 10, .len, [.t 9], none⟩, ⟨some 11, .bin .lss, [.t 7, .t 10], none⟩])
 (.cond (.t 11) .skip (.exit 0)))
 (.seq
 (.block 1
 (.seq
 (.draw [(false, ⟨some 14, .fieldaddr 1, [.t 2], none⟩), (false, ⟨some 15, .load false 1, [.t 14], none⟩), (false, ⟨some 16, .mov, [.t 1], none⟩), (false, ⟨some 17, .idxaddr 2, [.t 15, .t 16], none⟩), (false, ⟨some 18, .fieldaddr 0, [.t 17], none⟩), (false, ⟨some 19, .load false 1, [.t 18], none⟩), (false, ⟨some 20, .fieldaddr 0, [.t 2], none⟩), (false, ⟨some 21, .load false 1, [.t 20], none⟩), (false, ⟨some 22, .mov, [.t 6], none⟩), (false, ⟨some 23, .idxaddr 3, [.t 21, .t 22], none⟩), (false, ⟨some 24, .fieldaddr 0, [.t 23], none⟩), (false, ⟨some 25, .load false 1, [.t 24], none⟩), (false, ⟨some 26, .call 40, [.t 19, .t 25], none⟩)] .done)
 (.cond (.t 26)
 (.ops [⟨some 27, .mov, [.t 5], none⟩, ⟨some 28, .mov, [.t 6], none⟩, ⟨some 29, .bslice 1, [.t 28], none⟩, ⟨some 30, .append 1 8, [.t 27, .t 29], none⟩, ⟨some 5, .mov, [.t 30], none⟩]) .skip)))
 (.ops [⟨some 12, .mov, [.t 6], none⟩, ⟨some 13, .bin .add, [.t 12, .c (.int .i64 1)], none⟩, ⟨some 6, .mov, [.t 13], none⟩]))))))
 (.seq
 (.ops [⟨some 31, .mov, [.t 5], none⟩, ⟨some 4, .mov, [.t 31], none⟩]) .ret))))
theorem fc132 : fnC Tryz.prog 132 cert132 = some (32, [.tmp 4], ac132) := by kernel_rfl
def cert133 : Nat → Option Cert := fun _ => none
def ac133 : ACode :=(.seq
 (.ops [⟨some 3, .box, [.t 1], none⟩, ⟨some 4, .mov, [.c (.bool false)], none⟩])
 (.seq
 (.ops [⟨some 5, .mov, [.t 0], none⟩, ⟨some 6, (.mkfunc (.func 157) 0), [.t 3], none⟩, ⟨some 7, .call 156, [.t 5, .t 6], none⟩, ⟨some 8, .not, [.t 7], none⟩, ⟨some 4, .mov, [.t 8], none⟩]) .ret))
theorem fc133 : fnC Tryz.prog 133 cert133 = some (9, [.tmp 4], ac133) := by kernel_rfl
def cert134 : Nat → Option Cert := fun
  | 1 => some ⟨[0, 1, 2, 3, 4, 5, 6, 7], (.one 8 (.one 9 .done)), [[], [0], [0, 1], [0, 1, 2], [], [4], [], [0, 1, 2, 3, 4, 5, 6], [], [0, 1, 2, 3, 4, 5, 6, 7, 8]]⟩
  | 7 => some ⟨[0, 1, 2, 3, 4, 5, 6, 7, 8, 9, 10, 11, 12, 13], .done, [[], [0], [0, 1], [0, 1, 2], [0, 1, 2, 3], [0, 1, 2, 3, 4], [0, 1, 2, 3, 4, 5], [0, 1, 2, 3, 4, 5, 6], [0, 1, 2, 3], [0, 1, 2, 3, 8], [0, 1, 2, 3], [0, 1, 2, 3, 4, 5, 6, 7, 8, 9, 10], [0, 1, 2, 3, 4, 5, 6, 7, 8, 9, 10, 11], [0, 1, 2, 3, 4, 5, 6, 7, 8, 9, 10, 11, 12]]⟩
  | _ => none
def ac134 : ACode :=(.seq
 (.ops [⟨some 3, .box, [.t 0], none⟩, ⟨some 4, .mov, [.c (.bool false)], none⟩])
 (.seq
 (.draw [(true, ⟨some 7, .load false 1, [.t 1], none⟩), (true, ⟨some 8, .nilchk, [.t 7], none⟩), (true, ⟨some 9, .fieldaddr 0, [.t 8], none⟩), (true, ⟨some 10, .load true 9, [.t 9], none⟩), (true, ⟨some 11, .fieldaddr 0, [.t 3], none⟩), (true, ⟨some 12, .load true 13, [.t 11], none⟩), (true, ⟨some 13, .load false 1, [.t 2], none⟩), (true, ⟨some 14, .call 92, [.t 10, .t 12, .t 13], none⟩)] (.one ⟨some 5, (.alloc [(.bool false), (.bool false), (.bool false), (.bool false), (.bool false), (.bool false), (.bool false), (.bool false), (.bool false), (.bool false)]), [], none⟩ [⟨some 7, .load false 1, [.t 1], none⟩, ⟨some 10, .load true 9, [.t 9], none⟩, ⟨some 12, .load true 13, [.t 11], none⟩, ⟨some 13, .load false 1, [.t 2], none⟩] (.one ⟨none, .store 10, [.t 5, .t 14], none⟩ [] .done)))
 (.seq
 (.seq
 (.ops [⟨some 15, .load true 10, [.t 5], none⟩, ⟨some 16, (.build [(.bool false), (.bool false), (.bool false), (.bool false), (.bool false), (.bool false), (.bool false), (.bool false), (.bool false), (.bool false)] []), [], none⟩, ⟨some 17, .eqagg false 10, [.t 15, .t 16], none⟩])
 (.cond (.t 17)
 (.seq
 (.ops [⟨some 4, .mov, [.c (.bool true)], none⟩]) .ret) .skip))
 (.seq
 (.seq
 (.ops [⟨some 18, .load false 1, [.t 1], none⟩, ⟨some 19, .nilchk, [.t 18], none⟩, ⟨some 20, .fieldaddr 0, [.t 19], none⟩, ⟨some 21, .load true 9, [.t 20], none⟩, ⟨some 22, .call 127, [.t 21], none⟩, ⟨some 23, .mov, [.c (.int .i64 0)], none⟩])
 (.block 0
 (.loop
 (.seq
 (.ops [⟨some 24, .bin .lss, [.t 23, .t 22], none⟩])
 (.seq
 (.cond (.t 24) .skip (.exit 0))
 (.seq
 (.block 1
 (.seq
 (.ops [⟨some 25, .mov, [.t 23], none⟩, ⟨some 6, .mov, [.t 25], none⟩])
 (.seq
 (.draw [(false, ⟨some 26, .mov, [.t 6], none⟩), (false, ⟨some 27, .arraddr 10 1, [.t 5, .t 26], none⟩), (false, ⟨some 28, .load false 1, [.t 27], none⟩), (false, ⟨some 29, .mov, [.t 28], none⟩), (false, ⟨some 30, .load false 1, [.t 1], some (29, true)⟩), (false, ⟨some 31, .nilchk, [.t 30], some (29, true)⟩), (false, ⟨some 32, .fieldaddr 0, [.t 31], some (29, true)⟩), (false, ⟨some 33, .load true 9, [.t 32], some (29, true)⟩), (false, ⟨some 34, .fieldaddr 0, [.t 3], some (29, true)⟩), (false, ⟨some 35, .load true 13, [.t 34], some (29, true)⟩), (false, ⟨some 36, .mov, [.t 6], some (29, true)⟩), (false, ⟨some 37, .call 128, [.t 33, .t 35, .t 36], some (29, true)⟩), (false, ⟨some 38, .not, [.t 37], some (29, true)⟩), (false, ⟨some 39, .pick, [.t 29, .t 38, .c (.bool false)], none⟩)] .done)
 (.cond (.t 39)
 (.seq
 (.ops [⟨some 4, .mov, [.c (.bool false)], none⟩]) .ret) .skip))))
 (.ops [⟨some 40, .bin .add, [.t 23, .c (.int .i64 1)], none⟩, ⟨some 23, .mov, [.t 40], none⟩])))))))
 (.seq
 (.ops [⟨some 4, .mov, [.c (.bool true)], none⟩]) .ret)))))
theorem fc134 : fnC Tryz.prog 134 cert134 = some (41, [.tmp 4], ac134) := by kernel_rfl
def cert135 : Nat → Option Cert := fun _ => none
def ac135 : ACode :=(.seq
 (.ops [⟨some 1, .box, [.t 0], none⟩, ⟨some 2, .mov, [.c (.int .i64 0)], none⟩])
 (.seq
 (.ops [⟨some 7, .load true 3, [.t 1], none⟩, ⟨some 8, (.mkfunc (.func 158) 1), [.t 7], none⟩, ⟨some 3, .mov, [.t 8], none⟩])
 (.seq
 (.block 0
 (.seq
 (.ops [⟨some 10, .fieldaddr 0, [.t 1], none⟩, ⟨some 11, .load false 1, [.t 10], none⟩, ⟨some 12, .len, [.t 11], none⟩, ⟨some 13, .bin .gtr, [.t 12, .c (.int .i64 5)], none⟩, ⟨some 14, .mov, [.t 13], none⟩, ⟨some 15, .fieldaddr 1, [.t 1], some (14, false)⟩, ⟨some 16, .load false 1, [.t 15], some (14, false)⟩, ⟨some 17, .len, [.t 16], some (14, false)⟩, ⟨some 18, .bin .gtr, [.t 17, .c (.int .i64 7)], some (14, false)⟩, ⟨some 19, .pick, [.t 14, .c (.bool true), .t 18], none⟩, ⟨some 9, .mov, [.t 19], none⟩])
 (.cond (.t 9)
 (.seq
 (.ops [⟨some 2, .mov, [.c (.int .i64 3)], none⟩]) .ret)
 (.seq
 (.ops [⟨some 21, .fieldaddr 2, [.t 1], none⟩, ⟨some 22, .load false 1, [.t 21], none⟩, ⟨some 23, .call 159, [.t 22, .c (.int .i64 0), .c (.int .i64 5)], none⟩, ⟨some 24, .not, [.t 23], none⟩, ⟨some 25, .mov, [.t 24], none⟩, ⟨some 26, .fieldaddr 0, [.t 1], some (25, false)⟩, ⟨some 27, .load false 1, [.t 26], some (25, false)⟩, ⟨some 28, .call 160, [.t 27, (.c (.func (.func 161) [] []))], some (25, false)⟩, ⟨some 29, .not, [.t 28], some (25, false)⟩, ⟨some 30, .pick, [.t 25, .c (.bool true), .t 29], none⟩, ⟨some 31, .mov, [.t 30], none⟩, ⟨some 32, .fieldaddr 1, [.t 1], some (31, false)⟩, ⟨some 33, .load false 1, [.t 32], some (31, false)⟩, ⟨some 34, .mov, [.t 3], some (31, false)⟩, ⟨some 35, .call 162, [.t 33, .t 34], some (31, false)⟩, ⟨some 36, .not, [.t 35], some (31, false)⟩, ⟨some 37, .pick, [.t 31, .c (.bool true), .t 36], none⟩, ⟨some 20, .mov, [.t 37], none⟩])
 (.cond (.t 20)
 (.seq
 (.ops [⟨some 2, .mov, [.c (.int .i64 1)], none⟩]) .ret) .skip)))))
 (.seq
 (.ops [⟨some 4, .mov, [.c (.int .i64 1)], none⟩])
 (.seq
 (.seq
 (.ops [⟨some 38, .fieldaddr 1, [.t 1], none⟩, ⟨some 39, .load false 1, [.t 38], none⟩, ⟨some 40, .len, [.t 39], none⟩, ⟨some 41, .mov, [.c (.int .i64 0)], none⟩])
 (.block 1
 (.loop
 (.seq
 (.ops [⟨some 42, .bin .lss, [.t 41, .t 40], none⟩])
 (.seq
 (.cond (.t 42) .skip (.exit 1))
 (.seq
 (.block 2
 (.seq
 (.ops [⟨some 43, .idxaddr 2, [.t 39, .t 41], none⟩, ⟨some 44, .load true 2, [.t 43], none⟩, ⟨some 6, (.alloc [.emp, (.int .i64 0)]), [], none⟩, ⟨none, .store 2, [.t 6, .t 44], none⟩])
 (.ops [⟨some 45, .mov, [.t 4], none⟩, ⟨some 46, .load true 3, [.t 1], none⟩, ⟨some 47, .load true 2, [.t 6], none⟩, ⟨some 48, .call 164, [.t 46, .t 47], none⟩, ⟨some 49, .len, [.t 48], none⟩, ⟨some 50, .bin .mul, [.t 45, .t 49], none⟩, ⟨some 51, .bslice 1, [.t 50, .c (.int .i64 2001)], none⟩, ⟨some 52, .call 163, [.t 51], none⟩, ⟨some 4, .mov, [.t 52], none⟩])))
 (.ops [⟨some 53, .bin .add, [.t 41, .c (.int .i64 1)], none⟩, ⟨some 41, .mov, [.t 53], none⟩])))))))
 (.seq
 (.seq
 (.ops [⟨some 54, .mov, [.t 4], none⟩, ⟨some 55, .bin .gtr, [.t 54, .c (.int .i64 2000)], none⟩])
 (.cond (.t 55)
 (.seq
 (.ops [⟨some 2, .mov, [.c (.int .i64 3)], none⟩]) .ret) .skip))
 (.seq
 (.ops [⟨some 2, .mov, [.c (.int .i64 0)], none⟩]) .ret)))))))
theorem fc135 : fnC Tryz.prog 135 cert135 = some (56, [.tmp 2], ac135) := by kernel_rfl
def cert136 : Nat → Option Cert := fun _ => none
def ac136 : ACode :=(.seq
 (.ops [⟨some 1, .box, [.t 0], none⟩, ⟨some 2, .mov, [.c .nilf], none⟩])
 (.seq
 (.ops [⟨some 3, (.mkfunc (.func 165) 0), [.t 1], none⟩, ⟨some 2, .mov, [.t 3], none⟩]) .ret))
theorem fc136 : fnC Tryz.prog 136 cert136 = some (4, [.tmp 2], ac136) := by kernel_rfl
def cert137 : Nat → Option Cert := fun _ => none
def ac137 : ACode :=(.seq
 (.ops [⟨some 2, .box, [.t 0], none⟩, ⟨some 3, .box, [.t 1], none⟩, ⟨some 4, .mov, [.c .emp], none⟩])
 (.seq
 (.seq
 (.ops [⟨some 7, .load true 3, [.t 2], none⟩, ⟨some 8, .load true 7, [.t 3], none⟩, ⟨some 9, .call 167, [.t 7, .t 8], none⟩, ⟨some 10, .len, [.t 9], none⟩, ⟨some 11, .mov, [.c (.int .i64 0)], none⟩])
 (.block 0
 (.loop
 (.seq
 (.ops [⟨some 12, .bin .lss, [.t 11, .t 10], none⟩])
 (.seq
 (.cond (.t 12) .skip (.exit 0))
 (.seq
 (.block 1
 (.seq
 (.ops [⟨some 13, .mov, [.t 11], none⟩, ⟨some 14, .idxaddr 1, [.t 9, .t 11], none⟩, ⟨some 15, .load false 1, [.t 14], none⟩, ⟨some 5, .mov, [.t 13], none⟩, ⟨some 6, .mov, [.t 15], none⟩])
 (.seq
 (.ops [⟨some 16, .fieldaddr 0, [.t 2], none⟩, ⟨some 17, .load false 1, [.t 16], none⟩, ⟨some 18, .mov, [.t 5], none⟩, ⟨some 19, .idxaddr 3, [.t 17, .t 18], none⟩, ⟨some 20, .fieldaddr 1, [.t 19], none⟩, ⟨some 21, .load true 2, [.t 20], none⟩, ⟨some 22, .mov, [.t 6], none⟩, ⟨some 23, .call 168, [.t 21, .t 22], none⟩, ⟨some 24, .not, [.t 23], none⟩])
 (.cond (.t 24)
 (.ops [⟨some 25, .mov, [.t 4], none⟩, ⟨some 26, .mov, [.t 5], none⟩, ⟨some 27, .bslice 1, [.t 26], none⟩, ⟨some 28, .append 1 8, [.t 25, .t 27], none⟩, ⟨some 4, .mov, [.t 28], none⟩]) .skip))))
 (.ops [⟨some 29, .bin .add, [.t 11, .c (.int .i64 1)], none⟩, ⟨some 11, .mov, [.t 29], none⟩])))))))
 (.seq
 (.ops [⟨some 30, .mov, [.t 4], none⟩, ⟨some 4, .mov, [.t 30], none⟩]) .ret)))
theorem fc137 : fnC Tryz.prog 137 cert137 = some (31, [.tmp 4], ac137) := by kernel_rfl
def cert138 : Nat → Option Cert := fun _ => none
def ac138 : ACode :=(.seq
 (.ops [⟨some 2, .mov, [.c (.int .i64 0)], none⟩])
 (.seq
 (.ops [⟨some 3, .mov, [.t 0], none⟩, ⟨some 4, .call 169, [.t 3], none⟩, ⟨some 2, .mov, [.t 4], none⟩]) .ret))
theorem fc138 : fnC Tryz.prog 138 cert138 = some (5, [.tmp 2], ac138) := by kernel_rfl
def cert141 : Nat → Option Cert := fun _ => none
def ac141 : ACode :=(.seq
 (.ops [⟨some 4, .mov, [.c (.bool false)], none⟩])
 (.seq
 (.ops [⟨some 5, .mov, [.t 0], none⟩, ⟨some 6, .mov, [.t 1], none⟩, ⟨some 7, .call 171, [.t 5, .t 6], none⟩, ⟨some 8, .bin .geq, [.t 7, .c (.int .i64 0)], none⟩, ⟨some 4, .mov, [.t 8], none⟩]) .ret))
theorem fc141 : fnC Tryz.prog 141 cert141 = some (9, [.tmp 4], ac141) := by kernel_rfl
def cert142 : Nat → Option Cert := fun _ => none
def ac142 : ACode :=(.seq
 (.ops [⟨some 4, .mov, [.c (.bool false)], none⟩])
 (.seq
 (.ops [⟨some 5, .mov, [.t 0], none⟩, ⟨some 6, .mov, [.t 1], none⟩, ⟨some 7, .call 172, [.t 5, .t 6], none⟩, ⟨some 8, .bin .geq, [.t 7, .c (.int .i64 0)], none⟩, ⟨some 4, .mov, [.t 8], none⟩]) .ret))
theorem fc142 : fnC Tryz.prog 142 cert142 = some (9, [.tmp 4], ac142) := by kernel_rfl
def cert143 : Nat → Option Cert := fun _ => none
def ac143 : ACode :=(.seq
 (.ops [⟨some 2, .box, [.t 0], none⟩, ⟨some 3, .mov, [.c (.bool false)], none⟩])
 (.seq
 (.ops [⟨some 4, .load false 1, [.t 1], none⟩, ⟨some 5, .load true 4, [.t 2], none⟩, ⟨some 6, .callv, [.t 4, .t 5], none⟩, ⟨some 7, .not, [.t 6], none⟩, ⟨some 3, .mov, [.t 7], none⟩]) .ret))
theorem fc143 : fnC Tryz.prog 143 cert143 = some (8, [.tmp 3], ac143) := by kernel_rfl
def cert144 : Nat → Option Cert := fun _ => none
def ac144 : ACode :=(.seq
 (.ops [⟨some 4, .mov, [.c (.bool false)], none⟩])
 (.seq
 (.ops [⟨some 5, .mov, [.t 0], none⟩, ⟨some 6, .mov, [.t 1], none⟩, ⟨some 7, .call 173, [.t 5, .t 6], none⟩, ⟨some 8, .bin .geq, [.t 7, .c (.int .i64 0)], none⟩, ⟨some 4, .mov, [.t 8], none⟩]) .ret))
theorem fc144 : fnC Tryz.prog 144 cert144 = some (9, [.tmp 4], ac144) := by kernel_rfl
def cert145 : Nat → Option Cert := fun _ => none
def ac145 : ACode :=(.seq
 (.ops [⟨some 2, .box, [.t 0], none⟩, ⟨some 3, .mov, [.c (.bool false)], none⟩])
 (.seq
 (.ops [⟨some 4, .load false 1, [.t 1], none⟩, ⟨some 5, .load true 2, [.t 2], none⟩, ⟨some 6, .callv, [.t 4, .t 5], none⟩, ⟨some 7, .not, [.t 6], none⟩, ⟨some 3, .mov, [.t 7], none⟩]) .ret))
theorem fc145 : fnC Tryz.prog 145 cert145 = some (8, [.tmp 3], ac145) := by kernel_rfl
def cert146 : Nat → Option Cert := fun _ => none
def ac146 : ACode :=(.seq
 (.ops [⟨some 4, .mov, [.c (.bool false)], none⟩])
 (.seq
 (.ops [⟨some 5, .mov, [.t 0], none⟩, ⟨some 6, .mov, [.t 1], none⟩, ⟨some 7, .call 174, [.t 5, .t 6], none⟩, ⟨some 8, .bin .geq, [.t 7, .c (.int .i64 0)], none⟩, ⟨some 4, .mov, [.t 8], none⟩]) .ret))
theorem fc146 : fnC Tryz.prog 146 cert146 = some (9, [.tmp 4], ac146) := by kernel_rfl
def cert147 : Nat → Option Cert := fun _ => none
def ac147 : ACode :=(.seq
 (.ops [⟨some 2, .box, [.t 0], none⟩, ⟨some 3, .mov, [.c (.bool false)], none⟩])
 (.seq
 (.ops [⟨some 4, .load false 1, [.t 1], none⟩, ⟨some 5, .load true 2, [.t 2], none⟩, ⟨some 6, .callv, [.t 4, .t 5], none⟩, ⟨some 7, .not, [.t 6], none⟩, ⟨some 3, .mov, [.t 7], none⟩]) .ret))
theorem fc147 : fnC Tryz.prog 147 cert147 = some (8, [.tmp 3], ac147) := by kernel_rfl
def cert148 : Nat → Option Cert := fun
  | 6 => some ⟨[0, 1, 2, 3, 4, 5, 6, 7, 8], .done, [[], [], [0, 1], [], [], [3, 4], [3, 4, 5], [0, 1, 2, 3, 4, 5, 6], [0, 1, 2, 3, 4, 5, 6, 7]]⟩
  | _ => none
def ac148 : ACode :=(.seq
 (.ops [⟨some 2, .box, [.t 0], none⟩, ⟨some 4, .mov, [.c (.bool false)], none⟩])
 (.seq
 (.seq
 (.ops [⟨some 6, .mov, [.t 1], none⟩, ⟨some 7, .len, [.t 6], none⟩, ⟨some 8, .fieldaddr 1, [.t 2], none⟩, ⟨some 9, .load false 1, [.t 8], none⟩, ⟨some 10, .len, [.t 9], none⟩, ⟨some 11, .bin .neq, [.t 7, .t 10], none⟩])
 (.cond (.t 11)
 (.seq
 (.ops [⟨some 4, .mov, [.c (.bool false)], none⟩]) .ret) .skip))
 (.seq
 (.seq
 (.ops [⟨some 5, .mov, [.c (.int .i64 0)], none⟩])
 (.block 0
 (.loop
 (.seq
 (.seq
 (.ops [⟨some 12, .mov, [.t 5], none⟩, ⟨some 13, .mov, [.t 1], none⟩, ⟨some 14, .len, [.t 13], none⟩, ⟨some 15, .bin .lss, [.t 12, .t 14], none⟩])
 (.cond (.t 15) .skip (.exit 0)))
 (.seq
 (.block 1
 (.seq
 (.draw [(false, ⟨some 18, .load true 3, [.t 2], none⟩), (false, ⟨some 19, .mov, [.t 5], none⟩), (false, ⟨some 20, .call 132, [.t 18, .t 19], none⟩), (false, ⟨some 21, .mov, [.t 1], none⟩), (false, ⟨some 22, .mov, [.t 5], none⟩), (false, ⟨some 23, .idxaddr 1, [.t 21, .t 22], none⟩), (false, ⟨some 24, .load false 1, [.t 23], none⟩), (false, ⟨some 25, .call 40, [.t 20, .t 24], none⟩), (false, ⟨some 26, .not, [.t 25], none⟩)] .done)
 (.cond (.t 26)
 (.seq
 (.ops [⟨some 4, .mov, [.c (.bool false)], none⟩]) .ret) .skip)))
 (.ops [⟨some 16, .mov, [.t 5], none⟩, ⟨some 17, .bin .add, [.t 16, .c (.int .i64 1)], none⟩, ⟨some 5, .mov, [.t 17], none⟩]))))))
 (.seq
 (.ops [⟨some 4, .mov, [.c (.bool true)], none⟩]) .ret))))
theorem fc148 : fnC Tryz.prog 148 cert148 = some (27, [.tmp 4], ac148) := by kernel_rfl
def cert149 : Nat → Option Cert := fun _ => none
def ac149 : ACode :=(.seq
 (.ops [⟨some 1, .box, [.t 0], none⟩, ⟨some 2, .mov, [.c (.int .i64 0)], none⟩])
 (.seq
 (.ops [⟨some 3, .fieldaddr 0, [.t 1], none⟩, ⟨some 4, .load false 1, [.t 3], none⟩, ⟨some 5, .len, [.t 4], none⟩, ⟨some 6, .conv .u64, [.t 5], none⟩, ⟨some 7, .bin .shl, [.c (.int .i64 1), .t 6], none⟩, ⟨some 8, .bin .sub, [.t 7, .c (.int .i64 1)], none⟩, ⟨some 2, .mov, [.t 8], none⟩]) .ret))
theorem fc149 : fnC Tryz.prog 149 cert149 = some (9, [.tmp 2], ac149) := by kernel_rfl
def cert150 : Nat → Option Cert := fun
  | 5 => some ⟨[0, 1, 2, 3, 4, 5, 6, 7, 8, 9, 10, 11, 12, 13, 14, 15, 16, 17], .done, [[], [], [0, 1], [], [3], [], [3, 4, 5], [3, 4, 5, 6], [3, 4, 5, 6, 7], [3, 4, 5, 6, 7, 8], [], [10], [], [10, 11, 12], [10, 11, 12, 13], [10, 11, 12, 13, 14], [10, 11, 12, 13, 14, 15], [0, 1, 2, 3, 4, 5, 6, 7, 8, 9, 10, 11, 12, 13, 14, 15, 16]]⟩
  | _ => none
def ac150 : ACode :=(.seq
 (.ops [⟨some 2, .box, [.t 0], none⟩, ⟨some 4, .mov, [.c (.int .i64 0)], none⟩])
 (.seq
 (.ops [⟨some 5, .mov, [.c (.int .i64 0)], none⟩])
 (.seq
 (.seq
 (.ops [⟨some 6, .mov, [.c (.int .i64 0)], none⟩])
 (.block 0
 (.loop
 (.seq
 (.seq
 (.ops [⟨some 7, .mov, [.t 6], none⟩, ⟨some 8, .fieldaddr 0, [.t 2], none⟩, ⟨some 9, .load false 1, [.t 8], none⟩, ⟨some 10, .len, [.t 9], none⟩, ⟨some 11, .bin .lss, [.t 7, .t 10], none⟩])
 (.cond (.t 11) .skip (.exit 0)))
 (.seq
 (.block 1
 (.seq
 (.draw [(false, ⟨some 14, .mov, [.t 1], none⟩), (false, ⟨some 15, .mov, [.t 6], none⟩), (false, ⟨some 16, .call 175, [.t 14, .t 15], none⟩), (false, ⟨some 17, .fieldaddr 0, [.t 2], none⟩), (false, ⟨some 18, .load false 1, [.t 17], none⟩), (false, ⟨some 19, .mov, [.t 6], none⟩), (false, ⟨some 20, .idxaddr 3, [.t 18, .t 19], none⟩), (false, ⟨some 21, .fieldaddr 1, [.t 20], none⟩), (false, ⟨some 22, .fieldaddr 0, [.t 21], none⟩), (false, ⟨some 23, .load false 1, [.t 22], none⟩), (false, ⟨some 24, .fieldaddr 0, [.t 2], none⟩), (false, ⟨some 25, .load false 1, [.t 24], none⟩), (false, ⟨some 26, .mov, [.t 6], none⟩), (false, ⟨some 27, .idxaddr 3, [.t 25, .t 26], none⟩), (false, ⟨some 28, .fieldaddr 1, [.t 27], none⟩), (false, ⟨some 29, .fieldaddr 1, [.t 28], none⟩), (false, ⟨some 30, .load false 1, [.t 29], none⟩), (false, ⟨some 31, .call 47, [.t 16, .t 23, .t 30], none⟩)] .done)
 (.cond (.t 31)
 (.ops [⟨some 32, .mov, [.t 5], none⟩, ⟨some 33, .mov, [.t 6], none⟩, ⟨some 34, .conv .u64, [.t 33], none⟩, ⟨some 35, .bin .shl, [.c (.int .i64 1), .t 34], none⟩, ⟨some 36, .bin .or, [.t 32, .t 35], none⟩, ⟨some 5, .mov, [.t 36], none⟩]) .skip)))
 (.ops [⟨some 12, .mov, [.t 6], none⟩, ⟨some 13, .bin .add, [.t 12, .c (.int .i64 1)], none⟩, ⟨some 6, .mov, [.t 13], none⟩]))))))
 (.seq
 (.ops [⟨some 37, .mov, [.t 5], none⟩, ⟨some 4, .mov, [.t 37], none⟩]) .ret))))
theorem fc150 : fnC Tryz.prog 150 cert150 = some (38, [.tmp 4], ac150) := by kernel_rfl
def cert151 : Nat → Option Cert := fun _ => none
def ac151 : ACode :=(.seq
 (.ops [⟨some 6, .mov, [.c (.bool false)], none⟩])
 (.seq
 (.seq
 (.ops [⟨some 7, .mov, [.c (.int .i64 0)], none⟩])
 (.block 0
 (.loop
 (.seq
 (.seq
 (.ops [⟨some 8, .mov, [.t 7], none⟩, ⟨some 9, .mov, [.t 0], none⟩, ⟨some 10, .len, [.t 9], none⟩, ⟨some 11, .bin .lss, [.t 8, .t 10], none⟩])
 (.cond (.t 11) .skip (.exit 0)))
 (.seq
 (.block 1
 (.seq
 (.ops [⟨some 14, .mov, [.t 0], none⟩, ⟨some 15, .mov, [.t 7], none⟩, ⟨some 16, .idxaddr 2, [.t 14, .t 15], none⟩, ⟨some 17, .fieldaddr 0, [.t 16], none⟩, ⟨some 18, .load false 1, [.t 17], none⟩, ⟨some 19, .mov, [.t 1], none⟩, ⟨some 20, .bin .eql, [.t 18, .t 19], none⟩, ⟨some 21, .mov, [.t 20], none⟩, ⟨some 22, .mov, [.t 0], some (21, true)⟩, ⟨some 23, .mov, [.t 7], some (21, true)⟩, ⟨some 24, .idxaddr 2, [.t 22, .t 23], some (21, true)⟩, ⟨some 25, .fieldaddr 1, [.t 24], some (21, true)⟩, ⟨some 26, .load false 1, [.t 25], some (21, true)⟩, ⟨some 27, .mov, [.t 2], some (21, true)⟩, ⟨some 28, .bin .eql, [.t 26, .t 27], some (21, true)⟩, ⟨some 29, .pick, [.t 21, .t 28, .c (.bool false)], none⟩])
 (.cond (.t 29)
 (.seq
 (.ops [⟨some 6, .mov, [.c (.bool true)], none⟩]) .ret) .skip)))
 (.ops [⟨some 12, .mov, [.t 7], none⟩, ⟨some 13, .bin .add, [.t 12, .c (.int .i64 1)], none⟩, ⟨some 7, .mov, [.t 13], none⟩]))))))
 (.seq
 (.ops [⟨some 6, .mov, [.c (.bool false)], none⟩]) .ret)))
theorem fc151 : fnC Tryz.prog 151 cert151 = some (30, [.tmp 6], ac151) := by kernel_rfl
def cert152 : Nat → Option Cert := fun _ => none
def ac152 : ACode :=(.seq
 (.ops [⟨some 2, .box, [.t 0], none⟩])
 (.seq
 (.ops [⟨some 3, (.alloc [(.int .i64 0), (.int .i64 0), (.int .i64 0), (.int .i64 0), (.int .i64 0), (.int .i64 0), (.int .i64 0), (.int .i64 0), (.int .i64 0), (.int .i64 0), (.int .i64 0), (.int .i64 0), (.int .i64 0)]), [], none⟩])
 (.seq
 (.ops [⟨some 9, .fieldaddr 0, [.t 1], none⟩, ⟨some 10, .load true 3, [.t 9], none⟩, ⟨some 11, .call 45, [.t 10], none⟩, ⟨some 8, .mov, [.t 11], none⟩, ⟨some 12, .extract 0, [.t 8], none⟩, ⟨some 13, .extract 1, [.t 8], none⟩, ⟨some 4, (.alloc [.emp]), [], none⟩, ⟨none, .store 1, [.t 4, .t 12], none⟩, ⟨some 5, .mov, [.t 13], none⟩])
 (.seq
 (.ops [⟨some 6, (.alloc [.nilf]), [], none⟩, ⟨some 7, (.alloc [.nilf]), [], none⟩])
 (.seq
 (.ops [⟨some 14, (.mkfunc (.func 153) 0), [.t 1, .t 3, .t 7, .t 4, .t 6], none⟩, ⟨none, .store 1, [.t 6, .t 14], none⟩])
 (.seq
 (.ops [⟨some 15, (.mkfunc (.func 154) 0), [.t 1, .t 2, .t 3, .t 7], none⟩, ⟨none, .store 1, [.t 7, .t 15], none⟩])
 (.ops [⟨some 16, .load false 1, [.t 6], none⟩, ⟨some 17, .callv, [.t 16, .c (.int .i64 0)], none⟩])))))))
theorem fc152 : fnC Tryz.prog 152 cert152 = some (18, [], ac152) := by kernel_rfl
def cert153 : Nat → Option Cert := fun
  | 2 => some ⟨[0, 1, 2, 3, 4, 5, 6, 7, 8], (.one 9 (.one 10 (.one 11 .done))), [[], [0], [], [], [2, 3], [0, 1, 2, 3, 4], [0, 1, 2, 3, 4, 5], [0, 1, 2, 3, 4, 5, 6], [0, 1, 2, 3, 4, 5, 6, 7], [0, 1, 2, 3, 4, 5, 6, 7, 8], [0, 1, 2, 3, 4, 5, 6, 7, 8, 9], [0, 1, 2, 3, 4, 5, 6, 7, 8, 9, 10]]⟩
  | _ => none
def ac153 : ACode :=(.seq
 (.ops [⟨some 7, .mov, [.c (.bool false)], none⟩])
 (.seq
 (.seq
 (.ops [⟨some 10, .mov, [.t 0], none⟩, ⟨some 11, .load true 9, [.t 1], none⟩, ⟨some 12, .call 127, [.t 11], none⟩, ⟨some 13, .bin .eql, [.t 10, .t 12], none⟩])
 (.cond (.t 13)
 (.seq
 (.draw [(false, ⟨some 14, .fieldaddr 0, [.t 1], none⟩), (false, ⟨some 15, .load true 3, [.t 14], none⟩), (false, ⟨some 16, .fieldaddr 0, [.t 2], none⟩), (false, ⟨some 17, .mov, [.t 0], none⟩), (false, ⟨some 18, .arrsub 7 1, [.t 16, .t 17], none⟩), (false, ⟨some 19, .call 130, [.t 15, .t 18], none⟩), (false, ⟨some 20, .not, [.t 19], none⟩), (false, ⟨some 21, .mov, [.t 20], none⟩), (false, ⟨some 22, .load false 1, [.t 3], some (21, false)⟩)] (.one ⟨some 23, .callv, [.t 22, .c (.int .i64 0)], some (21, false)⟩ [] (.one ⟨some 24, .pick, [.t 21, .c (.bool true), .t 23], none⟩ [] (.one ⟨some 7, .mov, [.t 24], none⟩ [] .done)))) .ret) .skip))
 (.seq
 (.seq
 (.ops [⟨some 25, .load false 1, [.t 4], none⟩, ⟨some 26, .mov, [.t 0], none⟩, ⟨some 27, .idxaddr 1, [.t 25, .t 26], none⟩, ⟨some 28, .load false 1, [.t 27], none⟩, ⟨some 29, .len, [.t 28], none⟩, ⟨some 30, .mov, [.c (.int .i64 0)], none⟩])
 (.block 0
 (.loop
 (.seq
 (.ops [⟨some 31, .bin .lss, [.t 30, .t 29], none⟩])
 (.seq
 (.cond (.t 31) .skip (.exit 0))
 (.seq
 (.block 1
 (.seq
 (.ops [⟨some 32, .idxaddr 1, [.t 28, .t 30], none⟩, ⟨some 33, .load false 1, [.t 32], none⟩, ⟨some 9, .mov, [.t 33], none⟩])
 (.seq
 (.ops [⟨some 34, .mov, [.t 0], none⟩, ⟨some 35, .mov, [.t 9], none⟩, ⟨some 36, .fieldaddr 0, [.t 2], none⟩, ⟨some 37, .arraddr 7 1, [.t 36, .t 34], none⟩, ⟨none, .store 1, [.t 37, .t 35], none⟩])
 (.seq
 (.ops [⟨some 38, .load false 1, [.t 5], none⟩, ⟨some 39, .mov, [.t 0], none⟩, ⟨some 40, .bin .add, [.t 39, .c (.int .i64 1)], none⟩, ⟨some 41, .callv, [.t 38, .t 40], none⟩, ⟨some 42, .not, [.t 41], none⟩])
 (.cond (.t 42)
 (.seq
 (.ops [⟨some 7, .mov, [.c (.bool false)], none⟩]) .ret) .skip)))))
 (.ops [⟨some 43, .bin .add, [.t 30, .c (.int .i64 1)], none⟩, ⟨some 30, .mov, [.t 43], none⟩])))))))
 (.seq
 (.ops [⟨some 7, .mov, [.c (.bool true)], none⟩]) .ret))))
theorem fc153 : fnC Tryz.prog 153 cert153 = some (44, [.tmp 7], ac153) := by kernel_rfl
def cert154 : Nat → Option Cert := fun _ => none
def ac154 : ACode :=(.seq
 (.ops [⟨some 6, .mov, [.c (.bool false)], none⟩])
 (.seq
 (.seq
 (.ops [⟨some 8, .mov, [.t 0], none⟩, ⟨some 9, .fieldaddr 6, [.t 1], none⟩, ⟨some 10, .load false 1, [.t 9], none⟩, ⟨some 11, .len, [.t 10], none⟩, ⟨some 12, .bin .eql, [.t 8, .t 11], none⟩])
 (.cond (.t 12)
 (.seq
 (.ops [⟨some 13, .load false 1, [.t 2], none⟩, ⟨some 14, .load true 13, [.t 3], none⟩, ⟨some 15, .callv, [.t 13, .t 14], none⟩, ⟨some 6, .mov, [.t 15], none⟩]) .ret) .skip))
 (.seq
 (.seq
 (.ops [⟨some 16, .fieldaddr 6, [.t 1], none⟩, ⟨some 17, .load false 1, [.t 16], none⟩, ⟨some 18, .mov, [.t 0], none⟩, ⟨some 19, .idxaddr 4, [.t 17, .t 18], none⟩, ⟨some 20, .fieldaddr 2, [.t 19], none⟩, ⟨some 21, .fieldaddr 0, [.t 20], none⟩, ⟨some 22, .load false 1, [.t 21], none⟩, ⟨some 7, .mov, [.t 22], none⟩])
 (.block 0
 (.loop
 (.seq
 (.seq
 (.ops [⟨some 23, .mov, [.t 7], none⟩, ⟨some 24, .fieldaddr 6, [.t 1], none⟩, ⟨some 25, .load false 1, [.t 24], none⟩, ⟨some 26, .mov, [.t 0], none⟩, ⟨some 27, .idxaddr 4, [.t 25, .t 26], none⟩, ⟨some 28, .fieldaddr 2, [.t 27], none⟩, ⟨some 29, .fieldaddr 1, [.t 28], none⟩, ⟨some 30, .load false 1, [.t 29], none⟩, ⟨some 31, .bin .leq, [.t 23, .t 30], none⟩])
 (.cond (.t 31) .skip (.exit 0)))
 (.seq
 (.block 1
 (.seq
 (.ops [⟨some 34, .mov, [.t 0], none⟩, ⟨some 35, .mov, [.t 7], none⟩, ⟨some 36, .fieldaddr 7, [.t 3], none⟩, ⟨some 37, .arraddr 6 1, [.t 36, .t 34], none⟩, ⟨none, .store 1, [.t 37, .t 35], none⟩])
 (.seq
 (.ops [⟨some 38, .load false 1, [.t 4], none⟩, ⟨some 39, .mov, [.t 0], none⟩, ⟨some 40, .bin .add, [.t 39, .c (.int .i64 1)], none⟩, ⟨some 41, .callv, [.t 38, .t 40], none⟩, ⟨some 42, .not, [.t 41], none⟩])
 (.cond (.t 42)
 (.seq
 (.ops [⟨some 6, .mov, [.c (.bool false)], none⟩]) .ret) .skip))))
 (.ops [⟨some 32, .mov, [.t 7], none⟩, ⟨some 33, .bin .add, [.t 32, .c (.int .i64 1)], none⟩, ⟨some 7, .mov, [.t 33], none⟩]))))))
 (.seq
 (.ops [⟨some 6, .mov, [.c (.bool true)], none⟩]) .ret))))
theorem fc154 : fnC Tryz.prog 154 cert154 = some (43, [.tmp 6], ac154) := by kernel_rfl
def cert155 : Nat → Option Cert := fun
  | 6 => some ⟨[0, 1, 2, 3, 4, 5, 6, 7, 8, 9], .done, [[], [], [1], [], [1, 2, 3], [1, 2, 3, 4], [0, 1, 2, 3, 4, 5], [], [0, 1, 2, 3, 4, 5, 6, 7], [0, 1, 2, 3, 4, 5, 6, 7, 8]]⟩
  | _ => none
def ac155 : ACode :=(.seq
 (.ops [⟨some 2, .box, [.t 0], none⟩, ⟨some 4, (.alloc [(.int .i64 0), (.int .i64 0), (.int .i64 0), (.int .i64 0), (.int .i64 0), (.int .i64 0), (.int .i64 0)]), [], none⟩, ⟨some 5, .mov, [.c (.bool false)], none⟩])
 (.seq
 (.seq
 (.ops [⟨some 8, .mov, [.t 1], none⟩, ⟨some 9, .len, [.t 8], none⟩, ⟨some 10, .fieldaddr 1, [.t 2], none⟩, ⟨some 11, .load false 1, [.t 10], none⟩, ⟨some 12, .len, [.t 11], none⟩, ⟨some 13, .bin .neq, [.t 9, .t 12], none⟩])
 (.cond (.t 13)
 (.seq
 (.ops [⟨some 14, .load true 7, [.t 4], none⟩, ⟨none, .store 7, [.t 4, .t 14], none⟩, ⟨some 5, .mov, [.c (.bool false)], none⟩]) .ret) .skip))
 (.seq
 (.seq
 (.ops [⟨some 15, .mov, [.t 1], none⟩, ⟨some 16, .len, [.t 15], none⟩, ⟨some 17, .mov, [.c (.int .i64 0)], none⟩])
 (.block 0
 (.loop
 (.seq
 (.ops [⟨some 18, .bin .lss, [.t 17, .t 16], none⟩])
 (.seq
 (.cond (.t 18) .skip (.exit 0))
 (.seq
 (.block 1
 (.seq
 (.ops [⟨some 19, .mov, [.t 17], none⟩, ⟨some 20, .idxaddr 1, [.t 15, .t 17], none⟩, ⟨some 21, .load false 1, [.t 20], none⟩, ⟨some 6, .mov, [.t 19], none⟩, ⟨some 7, .mov, [.t 21], none⟩])
 (.seq
 (.seq
 (.draw [(false, ⟨some 22, .load true 3, [.t 2], none⟩), (false, ⟨some 23, .fieldaddr 1, [.t 2], none⟩), (false, ⟨some 24, .load false 1, [.t 23], none⟩), (false, ⟨some 25, .mov, [.t 6], none⟩), (false, ⟨some 26, .idxaddr 2, [.t 24, .t 25], none⟩), (false, ⟨some 27, .load true 2, [.t 26], none⟩), (false, ⟨some 28, .call 164, [.t 22, .t 27], none⟩), (false, ⟨some 29, .mov, [.t 7], none⟩), (false, ⟨some 30, .call 141, [.t 28, .t 29], none⟩), (false, ⟨some 31, .not, [.t 30], none⟩)] .done)
 (.cond (.t 31)
 (.seq
 (.ops [⟨some 32, .load true 7, [.t 4], none⟩, ⟨none, .store 7, [.t 4, .t 32], none⟩, ⟨some 5, .mov, [.c (.bool false)], none⟩]) .ret) .skip))
 (.ops [⟨some 33, .mov, [.t 6], none⟩, ⟨some 34, .mov, [.t 7], none⟩, ⟨some 35, .arraddr 7 1, [.t 4, .t 33], none⟩, ⟨none, .store 1, [.t 35, .t 34], none⟩]))))
 (.ops [⟨some 36, .bin .add, [.t 17, .c (.int .i64 1)], none⟩, ⟨some 17, .mov, [.t 36], none⟩])))))))
 (.seq
 (.ops [⟨some 37, .load true 7, [.t 4], none⟩, ⟨none, .store 7, [.t 4, .t 37], none⟩, ⟨some 5, .mov, [.c (.bool true)], none⟩]) .ret))))
theorem fc155 : fnC Tryz.prog 155 cert155 = some (38, [.cell 4 205, .tmp 5], ac155) := by kernel_rfl
def cert156 : Nat → Option Cert := fun _ => none
def ac156 : ACode :=(.seq
 (.ops [⟨some 4, .mov, [.c (.bool false)], none⟩])
 (.seq
 (.ops [⟨some 5, .mov, [.t 0], none⟩, ⟨some 6, .mov, [.t 1], none⟩, ⟨some 7, .call 176, [.t 5, .t 6], none⟩, ⟨some 8, .bin .geq, [.t 7, .c (.int .i64 0)], none⟩, ⟨some 4, .mov, [.t 8], none⟩]) .ret))
theorem fc156 : fnC Tryz.prog 156 cert156 = some (9, [.tmp 4], ac156) := by kernel_rfl
def cert157 : Nat → Option Cert := fun _ => none
def ac157 : ACode :=(.seq
 (.ops [⟨some 2, .box, [.t 0], none⟩, ⟨some 3, .mov, [.c (.bool false)], none⟩])
 (.seq
 (.ops [⟨some 4, .load false 1, [.t 1], none⟩, ⟨some 5, .load true 23, [.t 2], none⟩, ⟨some 6, .callv, [.t 4, .t 5], none⟩, ⟨some 7, .not, [.t 6], none⟩, ⟨some 3, .mov, [.t 7], none⟩]) .ret))
theorem fc157 : fnC Tryz.prog 157 cert157 = some (8, [.tmp 3], ac157) := by kernel_rfl
end Go.Lift
set_option maxRecDepth 100000
set_option linter.unusedVariables false
namespace Go.Lift
open Go Go.Proofs
def cert158 : Nat → Option Cert := fun _ => none
def ac158 : ACode :=(.seq
 (.ops [⟨some 2, .box, [.t 0], none⟩, ⟨some 3, .box, [.t 1], none⟩, ⟨some 4, .mov, [.c (.bool false)], none⟩])
 (.seq
 (.seq
 (.ops [⟨some 7, .fieldaddr 0, [.t 3], none⟩, ⟨some 8, .load false 1, [.t 7], none⟩, ⟨some 9, .len, [.t 8], none⟩, ⟨some 10, .mov, [.c (.int .i64 0)], none⟩])
 (.block 0
 (.loop
 (.seq
 (.ops [⟨some 11, .bin .lss, [.t 10, .t 9], none⟩])
 (.seq
 (.cond (.t 11) .skip (.exit 0))
 (.seq
 (.block 1
 (.seq
 (.ops [⟨some 12, .mov, [.t 10], none⟩, ⟨some 13, .idxaddr 1, [.t 8, .t 10], none⟩, ⟨some 14, .load false 1, [.t 13], none⟩, ⟨some 5, .mov, [.t 12], none⟩, ⟨some 6, .mov, [.t 14], none⟩])
 (.seq
 (.ops [⟨some 15, .mov, [.t 6], none⟩, ⟨some 16, .call 177, [.t 15], none⟩, ⟨some 17, .not, [.t 16], none⟩, ⟨some 18, .mov, [.t 17], none⟩, ⟨some 19, .mov, [.t 5], some (18, false)⟩, ⟨some 20, .bin .gtr, [.t 19, .c (.int .i64 0)], some (18, false)⟩, ⟨some 21, .mov, [.t 20], some (18, false)⟩, ⟨some 22, .mov, [.t 6], some (21, true)⟩, ⟨some 23, .fieldaddr 0, [.t 3], some (21, true)⟩, ⟨some 24, .load false 1, [.t 23], some (21, true)⟩, ⟨some 25, .mov, [.t 5], some (21, true)⟩, ⟨some 26, .bin .sub, [.t 25, .c (.int .i64 1)], some (21, true)⟩, ⟨some 27, .idxaddr 1, [.t 24, .t 26], some (21, true)⟩, ⟨some 28, .load false 1, [.t 27], some (21, true)⟩, ⟨some 29, .bin .leq, [.t 22, .t 28], some (21, true)⟩, ⟨some 30, .pick, [.t 21, .t 29, .c (.bool false)], some (18, false)⟩, ⟨some 31, .pick, [.t 18, .c (.bool true), .t 30], none⟩])
 (.cond (.t 31)
 (.seq
 (.ops [⟨some 4, .mov, [.c (.bool false)], none⟩]) .ret) .skip))))
 (.ops [⟨some 32, .bin .add, [.t 10, .c (.int .i64 1)], none⟩, ⟨some 10, .mov, [.t 32], none⟩])))))))
 (.seq
 (.ops [⟨some 33, .fieldaddr 1, [.t 3], none⟩, ⟨some 34, .load false 1, [.t 33], none⟩, ⟨some 35, .fieldaddr 0, [.t 2], none⟩, ⟨some 36, .load false 1, [.t 35], none⟩, ⟨some 37, .len, [.t 36], none⟩, ⟨some 38, .bin .sub, [.t 37, .c (.int .i64 1)], none⟩, ⟨some 39, .call 159, [.t 34, .c (.int .i64 0), .t 38], none⟩, ⟨some 40, .mov, [.t 39], none⟩, ⟨some 41, .load true 3, [.t 2], some (40, true)⟩, ⟨some 42, .load true 2, [.t 3], some (40, true)⟩, ⟨some 43, .call 164, [.t 41, .t 42], some (40, true)⟩, ⟨some 44, .len, [.t 43], some (40, true)⟩, ⟨some 45, .bin .gtr, [.t 44, .c (.int .i64 0)], some (40, true)⟩, ⟨some 46, .pick, [.t 40, .t 45, .c (.bool false)], none⟩, ⟨some 4, .mov, [.t 46], none⟩]) .ret)))
theorem fc158 : fnC Tryz.prog 158 cert158 = some (47, [.tmp 4], ac158) := by kernel_rfl
def cert159 : Nat → Option Cert := fun _ => none
def ac159 : ACode :=(.seq
 (.ops [⟨some 6, .mov, [.c (.bool false)], none⟩])
 (.seq
 (.ops [⟨some 7, .mov, [.t 1], none⟩, ⟨some 8, .mov, [.t 0], none⟩, ⟨some 9, .bin .leq, [.t 7, .t 8], none⟩, ⟨some 10, .mov, [.t 9], none⟩, ⟨some 11, .mov, [.t 0], some (10, true)⟩, ⟨some 12, .mov, [.t 2], some (10, true)⟩, ⟨some 13, .bin .leq, [.t 11, .t 12], some (10, true)⟩, ⟨some 14, .pick, [.t 10, .t 13, .c (.bool false)], none⟩, ⟨some 6, .mov, [.t 14], none⟩]) .ret))
theorem fc159 : fnC Tryz.prog 159 cert159 = some (15, [.tmp 6], ac159) := by kernel_rfl
def cert160 : Nat → Option Cert := fun _ => none
def ac160 : ACode :=(.seq
 (.ops [⟨some 3, .box, [.t 1], none⟩, ⟨some 4, .mov, [.c (.bool false)], none⟩])
 (.seq
 (.ops [⟨some 5, .mov, [.t 0], none⟩, ⟨some 6, (.mkfunc (.func 179) 0), [.t 3], none⟩, ⟨some 7, .call 178, [.t 5, .t 6], none⟩, ⟨some 8, .not, [.t 7], none⟩, ⟨some 4, .mov, [.t 8], none⟩]) .ret))
theorem fc160 : fnC Tryz.prog 160 cert160 = some (9, [.tmp 4], ac160) := by kernel_rfl
def cert161 : Nat → Option Cert := fun _ => none
def ac161 : ACode :=(.seq
 (.ops [⟨some 1, .box, [.t 0], none⟩, ⟨some 2, .mov, [.c (.bool false)], none⟩])
 (.seq
 (.ops [⟨some 3, .fieldaddr 0, [.t 1], none⟩, ⟨some 4, .load false 1, [.t 3], none⟩, ⟨some 5, .call 177, [.t 4], none⟩, ⟨some 6, .mov, [.t 5], none⟩, ⟨some 7, .fieldaddr 1, [.t 1], some (6, true)⟩, ⟨some 8, .fieldaddr 0, [.t 7], some (6, true)⟩, ⟨some 9, .load false 1, [.t 8], some (6, true)⟩, ⟨some 10, .bin .leq, [.c (.int .i64 0), .t 9], some (6, true)⟩, ⟨some 11, .pick, [.t 6, .t 10, .c (.bool false)], none⟩, ⟨some 12, .mov, [.t 11], none⟩, ⟨some 13, .fieldaddr 1, [.t 1], some (12, true)⟩, ⟨some 14, .fieldaddr 0, [.t 13], some (12, true)⟩, ⟨some 15, .load false 1, [.t 14], some (12, true)⟩, ⟨some 16, .fieldaddr 1, [.t 1], some (12, true)⟩, ⟨some 17, .fieldaddr 1, [.t 16], some (12, true)⟩, ⟨some 18, .load false 1, [.t 17], some (12, true)⟩, ⟨some 19, .bin .leq, [.t 15, .t 18], some (12, true)⟩, ⟨some 20, .pick, [.t 12, .t 19, .c (.bool false)], none⟩, ⟨some 21, .mov, [.t 20], none⟩, ⟨some 22, .fieldaddr 1, [.t 1], some (21, true)⟩, ⟨some 23, .fieldaddr 1, [.t 22], some (21, true)⟩, ⟨some 24, .load false 1, [.t 23], some (21, true)⟩, ⟨some 25, .bin .leq, [.t 24, .c (.int .i64 7)], some (21, true)⟩, ⟨some 26, .pick, [.t 21, .t 25, .c (.bool false)], none⟩, ⟨some 2, .mov, [.t 26], none⟩]) .ret))
theorem fc161 : fnC Tryz.prog 161 cert161 = some (27, [.tmp 2], ac161) := by kernel_rfl
def cert162 : Nat → Option Cert := fun _ => none
def ac162 : ACode :=(.seq
 (.ops [⟨some 3, .box, [.t 1], none⟩, ⟨some 4, .mov, [.c (.bool false)], none⟩])
 (.seq
 (.ops [⟨some 5, .mov, [.t 0], none⟩, ⟨some 6, (.mkfunc (.func 181) 0), [.t 3], none⟩, ⟨some 7, .call 180, [.t 5, .t 6], none⟩, ⟨some 8, .not, [.t 7], none⟩, ⟨some 4, .mov, [.t 8], none⟩]) .ret))
theorem fc162 : fnC Tryz.prog 162 cert162 = some (9, [.tmp 4], ac162) := by kernel_rfl
def cert163 : Nat → Option Cert := fun _ => none
def ac163 : ACode :=(.seq
 (.ops [⟨some 2, .mov, [.c (.int .i64 0)], none⟩])
 (.seq
 (.ops [⟨some 3, .mov, [.t 0], none⟩, ⟨some 4, .call 169, [.t 3], none⟩, ⟨some 2, .mov, [.t 4], none⟩]) .ret))
theorem fc163 : fnC Tryz.prog 163 cert163 = some (5, [.tmp 2], ac163) := by kernel_rfl
def cert164 : Nat → Option Cert := fun _ => none
def ac164 : ACode :=(.seq
 (.ops [⟨some 2, .box, [.t 0], none⟩, ⟨some 3, .box, [.t 1], none⟩, ⟨some 4, .mov, [.c .emp], none⟩])
 (.seq
 (.seq
 (.ops [⟨some 7, .fieldaddr 0, [.t 2], none⟩, ⟨some 8, .load false 1, [.t 7], none⟩, ⟨some 9, .len, [.t 8], none⟩, ⟨some 10, .mov, [.c (.int .i64 0)], none⟩])
 (.block 0
 (.loop
 (.seq
 (.ops [⟨some 11, .bin .lss, [.t 10, .t 9], none⟩])
 (.seq
 (.cond (.t 11) .skip (.exit 0))
 (.seq
 (.block 1
 (.seq
 (.ops [⟨some 12, .mov, [.t 10], none⟩, ⟨some 13, .idxaddr 3, [.t 8, .t 10], none⟩, ⟨some 14, .load true 3, [.t 13], none⟩, ⟨some 6, (.alloc [(.int .i64 0), (.int .i64 0), (.int .i64 0)]), [], none⟩, ⟨some 5, .mov, [.t 12], none⟩, ⟨none, .store 3, [.t 6, .t 14], none⟩])
 (.seq
 (.ops [⟨some 15, .fieldaddr 0, [.t 3], none⟩, ⟨some 16, .load false 1, [.t 15], none⟩, ⟨some 17, .fieldaddr 0, [.t 6], none⟩, ⟨some 18, .load false 1, [.t 17], none⟩, ⟨some 19, .call 141, [.t 16, .t 18], none⟩])
 (.cond (.t 19)
 (.ops [⟨some 20, .mov, [.t 4], none⟩, ⟨some 21, .mov, [.t 5], none⟩, ⟨some 22, .bslice 1, [.t 21], none⟩, ⟨some 23, .append 1 8, [.t 20, .t 22], none⟩, ⟨some 4, .mov, [.t 23], none⟩]) .skip))))
 (.ops [⟨some 24, .bin .add, [.t 10, .c (.int .i64 1)], none⟩, ⟨some 10, .mov, [.t 24], none⟩])))))))
 (.seq
 (.ops [⟨some 25, .mov, [.t 4], none⟩, ⟨some 4, .mov, [.t 25], none⟩]) .ret)))
theorem fc164 : fnC Tryz.prog 164 cert164 = some (26, [.tmp 4], ac164) := by kernel_rfl
def cert165 : Nat → Option Cert := fun _ => none
def ac165 : ACode :=(.seq
 (.ops [⟨some 2, .box, [.t 0], none⟩])
 (.seq
 (.ops [⟨some 3, (.alloc [(.int .i64 0), (.int .i64 0), (.int .i64 0), (.int .i64 0), (.int .i64 0), (.int .i64 0), (.int .i64 0)]), [], none⟩])
 (.seq
 (.ops [⟨some 4, (.alloc [.nilf]), [], none⟩])
 (.seq
 (.ops [⟨some 5, (.mkfunc (.func 166) 0), [.t 1, .t 2, .t 3, .t 4], none⟩, ⟨none, .store 1, [.t 4, .t 5], none⟩])
 (.ops [⟨some 6, .load false 1, [.t 4], none⟩, ⟨some 7, .callv, [.t 6, .c (.int .i64 0)], none⟩])))))
theorem fc165 : fnC Tryz.prog 165 cert165 = some (8, [], ac165) := by kernel_rfl
def cert166 : Nat → Option Cert := fun
  | 3 => some ⟨[0, 1, 2, 3, 4, 5, 6, 7, 8], .done, [[], [], [1], [], [1, 2, 3], [1, 2, 3, 4], [0, 1, 2, 3, 4, 5], [0, 1, 2, 3, 4, 5, 6], []]⟩
  | _ => none
def ac166 : ACode :=(.seq
 (.ops [⟨some 6, .mov, [.c (.bool false)], none⟩])
 (.seq
 (.seq
 (.ops [⟨some 9, .mov, [.t 0], none⟩, ⟨some 10, .fieldaddr 1, [.t 1], none⟩, ⟨some 11, .load false 1, [.t 10], none⟩, ⟨some 12, .len, [.t 11], none⟩, ⟨some 13, .bin .eql, [.t 9, .t 12], none⟩])
 (.cond (.t 13)
 (.seq
 (.ops [⟨some 14, .load false 1, [.t 2], none⟩, ⟨some 15, .load true 7, [.t 3], none⟩, ⟨some 16, .callv, [.t 14, .t 15], none⟩, ⟨some 6, .mov, [.t 16], none⟩]) .ret) .skip))
 (.seq
 (.seq
 (.draw [(false, ⟨some 17, .load true 3, [.t 1], none⟩), (false, ⟨some 18, .fieldaddr 1, [.t 1], none⟩), (false, ⟨some 19, .load false 1, [.t 18], none⟩), (false, ⟨some 20, .mov, [.t 0], none⟩), (false, ⟨some 21, .idxaddr 2, [.t 19, .t 20], none⟩), (false, ⟨some 22, .load true 2, [.t 21], none⟩), (false, ⟨some 23, .call 164, [.t 17, .t 22], none⟩), (false, ⟨some 24, .len, [.t 23], none⟩), (false, ⟨some 25, .mov, [.c (.int .i64 0)], none⟩)] .done)
 (.block 0
 (.loop
 (.seq
 (.ops [⟨some 26, .bin .lss, [.t 25, .t 24], none⟩])
 (.seq
 (.cond (.t 26) .skip (.exit 0))
 (.seq
 (.block 1
 (.seq
 (.ops [⟨some 27, .idxaddr 1, [.t 23, .t 25], none⟩, ⟨some 28, .load false 1, [.t 27], none⟩, ⟨some 8, .mov, [.t 28], none⟩])
 (.seq
 (.ops [⟨some 29, .mov, [.t 0], none⟩, ⟨some 30, .mov, [.t 8], none⟩, ⟨some 31, .arraddr 7 1, [.t 3, .t 29], none⟩, ⟨none, .store 1, [.t 31, .t 30], none⟩])
 (.seq
 (.ops [⟨some 32, .load false 1, [.t 4], none⟩, ⟨some 33, .mov, [.t 0], none⟩, ⟨some 34, .bin .add, [.t 33, .c (.int .i64 1)], none⟩, ⟨some 35, .callv, [.t 32, .t 34], none⟩, ⟨some 36, .not, [.t 35], none⟩])
 (.cond (.t 36)
 (.seq
 (.ops [⟨some 6, .mov, [.c (.bool false)], none⟩]) .ret) .skip)))))
 (.ops [⟨some 37, .bin .add, [.t 25, .c (.int .i64 1)], none⟩, ⟨some 25, .mov, [.t 37], none⟩])))))))
 (.seq
 (.ops [⟨some 6, .mov, [.c (.bool true)], none⟩]) .ret))))
theorem fc166 : fnC Tryz.prog 166 cert166 = some (38, [.tmp 6], ac166) := by kernel_rfl
def cert167 : Nat → Option Cert := fun _ => none
def ac167 : ACode :=(.seq
 (.ops [⟨some 2, .box, [.t 0], none⟩, ⟨some 3, .box, [.t 1], none⟩, ⟨some 4, .mov, [.c .emp], none⟩])
 (.seq
 (.ops [⟨some 7, .fieldaddr 0, [.t 2], none⟩, ⟨some 8, .load false 1, [.t 7], none⟩, ⟨some 9, .len, [.t 8], none⟩, ⟨some 10, (.mkslice 1 8 [(.int .i64 0)]), [.t 9], none⟩, ⟨some 5, .mov, [.t 10], none⟩])
 (.seq
 (.seq
 (.ops [⟨some 11, .fieldaddr 1, [.t 2], none⟩, ⟨some 12, .load false 1, [.t 11], none⟩, ⟨some 13, .len, [.t 12], none⟩, ⟨some 14, .mov, [.c (.int .i64 0)], none⟩])
 (.block 0
 (.loop
 (.seq
 (.ops [⟨some 15, .bin .lss, [.t 14, .t 13], none⟩])
 (.seq
 (.cond (.t 15) .skip (.exit 0))
 (.seq
 (.block 1
 (.seq
 (.ops [⟨some 16, .mov, [.t 14], none⟩, ⟨some 6, .mov, [.t 16], none⟩])
 (.ops [⟨some 17, .mov, [.t 5], none⟩, ⟨some 18, .mov, [.t 6], none⟩, ⟨some 19, .arraddr 7 1, [.t 3, .t 18], none⟩, ⟨some 20, .load false 1, [.t 19], none⟩, ⟨some 21, .idxaddr 1, [.t 17, .t 20], none⟩, ⟨some 22, .load false 1, [.t 21], none⟩, ⟨some 23, .bin .add, [.t 22, .c (.int .i64 1)], none⟩, ⟨some 24, .idxaddr 1, [.t 17, .t 20], none⟩, ⟨none, .store 1, [.t 24, .t 23], none⟩])))
 (.ops [⟨some 25, .bin .add, [.t 14, .c (.int .i64 1)], none⟩, ⟨some 14, .mov, [.t 25], none⟩])))))))
 (.seq
 (.ops [⟨some 26, .mov, [.t 5], none⟩, ⟨some 4, .mov, [.t 26], none⟩]) .ret))))
theorem fc167 : fnC Tryz.prog 167 cert167 = some (27, [.tmp 4], ac167) := by kernel_rfl
def cert168 : Nat → Option Cert := fun _ => none
def ac168 : ACode :=(.seq
 (.ops [⟨some 2, .box, [.t 0], none⟩, ⟨some 4, .mov, [.c (.bool false)], none⟩])
 (.seq
 (.ops [⟨some 5, .mov, [.t 1], none⟩, ⟨some 6, .fieldaddr 0, [.t 2], none⟩, ⟨some 7, .load false 1, [.t 6], none⟩, ⟨some 8, .fieldaddr 1, [.t 2], none⟩, ⟨some 9, .load false 1, [.t 8], none⟩, ⟨some 10, .call 159, [.t 5, .t 7, .t 9], none⟩, ⟨some 4, .mov, [.t 10], none⟩]) .ret))
theorem fc168 : fnC Tryz.prog 168 cert168 = some (11, [.tmp 4], ac168) := by kernel_rfl
def cert169 : Nat → Option Cert := fun _ => none
def ac169 : ACode :=(.seq
 (.ops [⟨some 2, .mov, [.c (.int .i64 0)], none⟩])
 (.seq
 (.seq
 (.ops [⟨some 5, .mov, [.t 0], none⟩, ⟨some 6, .len, [.t 5], none⟩, ⟨some 7, .bin .lss, [.t 6, .c (.int .i64 1)], none⟩])
 (.cond (.t 7)
 (.ops [⟨some 8, .dead, [], none⟩, ⟨none, .dead, [], none⟩]) .skip))
 (.seq
 (.ops [⟨some 9, .mov, [.t 0], none⟩, ⟨some 10, .idxaddr 1, [.t 9, .c (.int .i64 0)], none⟩, ⟨some 11, .load false 1, [.t 10], none⟩, ⟨some 3, .mov, [.t 11], none⟩])
 (.seq
 (.seq
 (.ops [⟨some 4, .mov, [.c (.int .i64 1)], none⟩])
 (.block 0
 (.loop
 (.seq
 (.seq
 (.ops [⟨some 12, .mov, [.t 4], none⟩, ⟨some 13, .mov, [.t 0], none⟩, ⟨some 14, .len, [.t 13], none⟩, ⟨some 15, .bin .lss, [.t 12, .t 14], none⟩])
 (.cond (.t 15) .skip (.exit 0)))
 (.seq
 (.block 1
 (.ops [⟨some 18, .mov, [.t 3], none⟩, ⟨some 19, .mov, [.t 0], none⟩, ⟨some 20, .mov, [.t 4], none⟩, ⟨some 21, .idxaddr 1, [.t 19, .t 20], none⟩, ⟨some 22, .load false 1, [.t 21], none⟩, ⟨some 23, .min, [.t 18, .t 22], none⟩, ⟨some 3, .mov, [.t 23], none⟩]))
 (.ops [⟨some 16, .mov, [.t 4], none⟩, ⟨some 17, .bin .add, [.t 16, .c (.int .i64 1)], none⟩, ⟨some 4, .mov, [.t 17], none⟩]))))))
 (.seq
 (.ops [⟨some 24, .mov, [.t 3], none⟩, ⟨some 2, .mov, [.t 24], none⟩]) .ret)))))
theorem fc169 : fnC Tryz.prog 169 cert169 = some (25, [.tmp 2], ac169) := by kernel_rfl
def cert171 : Nat → Option Cert := fun _ => none
def ac171 : ACode :=(.seq
 (.ops [⟨some 4, .mov, [.c (.int .i64 0)], none⟩])
 (.seq
 (.seq
 (.ops [⟨some 6, .mov, [.t 0], none⟩, ⟨some 7, .len, [.t 6], none⟩, ⟨some 8, .mov, [.c (.int .i64 0)], none⟩])
 (.block 0
 (.loop
 (.seq
 (.ops [⟨some 9, .bin .lss, [.t 8, .t 7], none⟩])
 (.seq
 (.cond (.t 9) .skip (.exit 0))
 (.seq
 (.block 1
 (.seq
 (.ops [⟨some 10, .mov, [.t 8], none⟩, ⟨some 5, .mov, [.t 10], none⟩])
 (.seq
 (.ops [⟨some 11, .mov, [.t 1], none⟩, ⟨some 12, .mov, [.t 0], none⟩, ⟨some 13, .mov, [.t 5], none⟩, ⟨some 14, .idxaddr 1, [.t 12, .t 13], none⟩, ⟨some 15, .load false 1, [.t 14], none⟩, ⟨some 16, .bin .eql, [.t 11, .t 15], none⟩])
 (.cond (.t 16)
 (.seq
 (.ops [⟨some 17, .mov, [.t 5], none⟩, ⟨some 4, .mov, [.t 17], none⟩]) .ret) .skip))))
 (.ops [⟨some 18, .bin .add, [.t 8, .c (.int .i64 1)], none⟩, ⟨some 8, .mov, [.t 18], none⟩])))))))
 (.seq
 (.ops [⟨some 4, .mov, [(.c (.int .i64 (-1)))], none⟩]) .ret)))
theorem fc171 : fnC Tryz.prog 171 cert171 = some (19, [.tmp 4], ac171) := by kernel_rfl
def cert172 : Nat → Option Cert := fun _ => none
def ac172 : ACode :=(.seq
 (.ops [⟨some 4, .mov, [.c (.int .i64 0)], none⟩])
 (.seq
 (.seq
 (.ops [⟨some 6, .mov, [.t 0], none⟩, ⟨some 7, .len, [.t 6], none⟩, ⟨some 8, .mov, [.c (.int .i64 0)], none⟩])
 (.block 0
 (.loop
 (.seq
 (.ops [⟨some 9, .bin .lss, [.t 8, .t 7], none⟩])
 (.seq
 (.cond (.t 9) .skip (.exit 0))
 (.seq
 (.block 1
 (.seq
 (.ops [⟨some 10, .mov, [.t 8], none⟩, ⟨some 5, .mov, [.t 10], none⟩])
 (.seq
 (.ops [⟨some 11, .mov, [.t 1], none⟩, ⟨some 12, .mov, [.t 0], none⟩, ⟨some 13, .mov, [.t 5], none⟩, ⟨some 14, .idxaddr 4, [.t 12, .t 13], none⟩, ⟨some 15, .load true 4, [.t 14], none⟩, ⟨some 16, .callv, [.t 11, .t 15], none⟩])
 (.cond (.t 16)
 (.seq
 (.ops [⟨some 17, .mov, [.t 5], none⟩, ⟨some 4, .mov, [.t 17], none⟩]) .ret) .skip))))
 (.ops [⟨some 18, .bin .add, [.t 8, .c (.int .i64 1)], none⟩, ⟨some 8, .mov, [.t 18], none⟩])))))))
 (.seq
 (.ops [⟨some 4, .mov, [(.c (.int .i64 (-1)))], none⟩]) .ret)))
theorem fc172 : fnC Tryz.prog 172 cert172 = some (19, [.tmp 4], ac172) := by kernel_rfl
def cert173 : Nat → Option Cert := fun _ => none
def ac173 : ACode :=(.seq
 (.ops [⟨some 4, .mov, [.c (.int .i64 0)], none⟩])
 (.seq
 (.seq
 (.ops [⟨some 6, .mov, [.t 0], none⟩, ⟨some 7, .len, [.t 6], none⟩, ⟨some 8, .mov, [.c (.int .i64 0)], none⟩])
 (.block 0
 (.loop
 (.seq
 (.ops [⟨some 9, .bin .lss, [.t 8, .t 7], none⟩])
 (.seq
 (.cond (.t 9) .skip (.exit 0))
 (.seq
 (.block 1
 (.seq
 (.ops [⟨some 10, .mov, [.t 8], none⟩, ⟨some 5, .mov, [.t 10], none⟩])
 (.seq
 (.ops [⟨some 11, .mov, [.t 1], none⟩, ⟨some 12, .mov, [.t 0], none⟩, ⟨some 13, .mov, [.t 5], none⟩, ⟨some 14, .idxaddr 2, [.t 12, .t 13], none⟩, ⟨some 15, .load true 2, [.t 14], none⟩, ⟨some 16, .callv, [.t 11, .t 15], none⟩])
 (.cond (.t 16)
 (.seq
 (.ops [⟨some 17, .mov, [.t 5], none⟩, ⟨some 4, .mov, [.t 17], none⟩]) .ret) .skip))))
 (.ops [⟨some 18, .bin .add, [.t 8, .c (.int .i64 1)], none⟩, ⟨some 8, .mov, [.t 18], none⟩])))))))
 (.seq
 (.ops [⟨some 4, .mov, [(.c (.int .i64 (-1)))], none⟩]) .ret)))
theorem fc173 : fnC Tryz.prog 173 cert173 = some (19, [.tmp 4], ac173) := by kernel_rfl
def cert174 : Nat → Option Cert := fun _ => none
def ac174 : ACode :=(.seq
 (.ops [⟨some 4, .mov, [.c (.int .i64 0)], none⟩])
 (.seq
 (.seq
 (.ops [⟨some 6, .mov, [.t 0], none⟩, ⟨some 7, .len, [.t 6], none⟩, ⟨some 8, .mov, [.c (.int .i64 0)], none⟩])
 (.block 0
 (.loop
 (.seq
 (.ops [⟨some 9, .bin .lss, [.t 8, .t 7], none⟩])
 (.seq
 (.cond (.t 9) .skip (.exit 0))
 (.seq
 (.block 1
 (.seq
 (.ops [⟨some 10, .mov, [.t 8], none⟩, ⟨some 5, .mov, [.t 10], none⟩])
 (.seq
 (.ops [⟨some 11, .mov, [.t 1], none⟩, ⟨some 12, .mov, [.t 0], none⟩, ⟨some 13, .mov, [.t 5], none⟩, ⟨some 14, .idxaddr 2, [.t 12, .t 13], none⟩, ⟨some 15, .load true 2, [.t 14], none⟩, ⟨some 16, .callv, [.t 11, .t 15], none⟩])
 (.cond (.t 16)
 (.seq
 (.ops [⟨some 17, .mov, [.t 5], none⟩, ⟨some 4, .mov, [.t 17], none⟩]) .ret) .skip))))
 (.ops [⟨some 18, .bin .add, [.t 8, .c (.int .i64 1)], none⟩, ⟨some 8, .mov, [.t 18], none⟩])))))))
 (.seq
 (.ops [⟨some 4, .mov, [(.c (.int .i64 (-1)))], none⟩]) .ret)))
theorem fc174 : fnC Tryz.prog 174 cert174 = some (19, [.tmp 4], ac174) := by kernel_rfl
def cert175 : Nat → Option Cert := fun _ => none
def ac175 : ACode :=(.seq
 (.ops [⟨some 4, .mov, [.c (.int .i64 0)], none⟩])
 (.seq
 (.ops [⟨some 5, .mov, [.c (.int .i64 0)], none⟩])
 (.seq
 (.seq
 (.ops [⟨some 6, .mov, [.c (.int .i64 0)], none⟩])
 (.block 0
 (.loop
 (.seq
 (.seq
 (.ops [⟨some 7, .mov, [.t 6], none⟩, ⟨some 8, .mov, [.t 0], none⟩, ⟨some 9, .len, [.t 8], none⟩, ⟨some 10, .bin .lss, [.t 7, .t 9], none⟩])
 (.cond (.t 10) .skip (.exit 0)))
 (.seq
 (.block 1
 (.seq
 (.ops [⟨some 13, .mov, [.t 0], none⟩, ⟨some 14, .mov, [.t 6], none⟩, ⟨some 15, .idxaddr 1, [.t 13, .t 14], none⟩, ⟨some 16, .load false 1, [.t 15], none⟩, ⟨some 17, .mov, [.t 1], none⟩, ⟨some 18, .bin .eql, [.t 16, .t 17], none⟩])
 (.cond (.t 18)
 (.ops [⟨some 19, .mov, [.t 5], none⟩, ⟨some 20, .bin .add, [.t 19, .c (.int .i64 1)], none⟩, ⟨some 5, .mov, [.t 20], none⟩]) .skip)))
 (.ops [⟨some 11, .mov, [.t 6], none⟩, ⟨some 12, .bin .add, [.t 11, .c (.int .i64 1)], none⟩, ⟨some 6, .mov, [.t 12], none⟩]))))))
 (.seq
 (.ops [⟨some 21, .mov, [.t 5], none⟩, ⟨some 4, .mov, [.t 21], none⟩]) .ret))))
theorem fc175 : fnC Tryz.prog 175 cert175 = some (22, [.tmp 4], ac175) := by kernel_rfl
def cert176 : Nat → Option Cert := fun _ => none
def ac176 : ACode :=(.seq
 (.ops [⟨some 4, .mov, [.c (.int .i64 0)], none⟩])
 (.seq
 (.seq
 (.ops [⟨some 6, .mov, [.t 0], none⟩, ⟨some 7, .len, [.t 6], none⟩, ⟨some 8, .mov, [.c (.int .i64 0)], none⟩])
 (.block 0
 (.loop
 (.seq
 (.ops [⟨some 9, .bin .lss, [.t 8, .t 7], none⟩])
 (.seq
 (.cond (.t 9) .skip (.exit 0))
 (.seq
 (.block 1
 (.seq
 (.ops [⟨some 10, .mov, [.t 8], none⟩, ⟨some 5, .mov, [.t 10], none⟩])
 (.seq
 (.ops [⟨some 11, .mov, [.t 1], none⟩, ⟨some 12, .mov, [.t 0], none⟩, ⟨some 13, .mov, [.t 5], none⟩, ⟨some 14, .idxaddr 23, [.t 12, .t 13], none⟩, ⟨some 15, .load true 23, [.t 14], none⟩, ⟨some 16, .callv, [.t 11, .t 15], none⟩])
 (.cond (.t 16)
 (.seq
 (.ops [⟨some 17, .mov, [.t 5], none⟩, ⟨some 4, .mov, [.t 17], none⟩]) .ret) .skip))))
 (.ops [⟨some 18, .bin .add, [.t 8, .c (.int .i64 1)], none⟩, ⟨some 8, .mov, [.t 18], none⟩])))))))
 (.seq
 (.ops [⟨some 4, .mov, [(.c (.int .i64 (-1)))], none⟩]) .ret)))
theorem fc176 : fnC Tryz.prog 176 cert176 = some (19, [.tmp 4], ac176) := by kernel_rfl
def cert177 : Nat → Option Cert := fun _ => none
def ac177 : ACode :=(.seq
 (.ops [⟨some 2, .mov, [.c (.bool false)], none⟩])
 (.seq
 (.ops [⟨some 3, .mov, [.t 0], none⟩, ⟨some 4, .call 159, [.t 3, .c (.int .i64 0), .c (.int .i64 9)], none⟩, ⟨some 2, .mov, [.t 4], none⟩]) .ret))
theorem fc177 : fnC Tryz.prog 177 cert177 = some (5, [.tmp 2], ac177) := by kernel_rfl
def cert178 : Nat → Option Cert := fun _ => none
def ac178 : ACode :=(.seq
 (.ops [⟨some 4, .mov, [.c (.bool false)], none⟩])
 (.seq
 (.ops [⟨some 5, .mov, [.t 0], none⟩, ⟨some 6, .mov, [.t 1], none⟩, ⟨some 7, .call 182, [.t 5, .t 6], none⟩, ⟨some 8, .bin .geq, [.t 7, .c (.int .i64 0)], none⟩, ⟨some 4, .mov, [.t 8], none⟩]) .ret))
theorem fc178 : fnC Tryz.prog 178 cert178 = some (9, [.tmp 4], ac178) := by kernel_rfl
def cert179 : Nat → Option Cert := fun _ => none
def ac179 : ACode :=(.seq
 (.ops [⟨some 2, .box, [.t 0], none⟩, ⟨some 3, .mov, [.c (.bool false)], none⟩])
 (.seq
 (.ops [⟨some 4, .load false 1, [.t 1], none⟩, ⟨some 5, .load true 3, [.t 2], none⟩, ⟨some 6, .callv, [.t 4, .t 5], none⟩, ⟨some 7, .not, [.t 6], none⟩, ⟨some 3, .mov, [.t 7], none⟩]) .ret))
theorem fc179 : fnC Tryz.prog 179 cert179 = some (8, [.tmp 3], ac179) := by kernel_rfl
def cert180 : Nat → Option Cert := fun _ => none
def ac180 : ACode :=(.seq
 (.ops [⟨some 4, .mov, [.c (.bool false)], none⟩])
 (.seq
 (.ops [⟨some 5, .mov, [.t 0], none⟩, ⟨some 6, .mov, [.t 1], none⟩, ⟨some 7, .call 183, [.t 5, .t 6], none⟩, ⟨some 8, .bin .geq, [.t 7, .c (.int .i64 0)], none⟩, ⟨some 4, .mov, [.t 8], none⟩]) .ret))
theorem fc180 : fnC Tryz.prog 180 cert180 = some (9, [.tmp 4], ac180) := by kernel_rfl
def cert181 : Nat → Option Cert := fun _ => none
def ac181 : ACode :=(.seq
 (.ops [⟨some 2, .box, [.t 0], none⟩, ⟨some 3, .mov, [.c (.bool false)], none⟩])
 (.seq
 (.ops [⟨some 4, .load false 1, [.t 1], none⟩, ⟨some 5, .load true 2, [.t 2], none⟩, ⟨some 6, .callv, [.t 4, .t 5], none⟩, ⟨some 7, .not, [.t 6], none⟩, ⟨some 3, .mov, [.t 7], none⟩]) .ret))
theorem fc181 : fnC Tryz.prog 181 cert181 = some (8, [.tmp 3], ac181) := by kernel_rfl
def cert182 : Nat → Option Cert := fun _ => none
def ac182 : ACode :=(.seq
 (.ops [⟨some 4, .mov, [.c (.int .i64 0)], none⟩])
 (.seq
 (.seq
 (.ops [⟨some 6, .mov, [.t 0], none⟩, ⟨some 7, .len, [.t 6], none⟩, ⟨some 8, .mov, [.c (.int .i64 0)], none⟩])
 (.block 0
 (.loop
 (.seq
 (.ops [⟨some 9, .bin .lss, [.t 8, .t 7], none⟩])
 (.seq
 (.cond (.t 9) .skip (.exit 0))
 (.seq
 (.block 1
 (.seq
 (.ops [⟨some 10, .mov, [.t 8], none⟩, ⟨some 5, .mov, [.t 10], none⟩])
 (.seq
 (.ops [⟨some 11, .mov, [.t 1], none⟩, ⟨some 12, .mov, [.t 0], none⟩, ⟨some 13, .mov, [.t 5], none⟩, ⟨some 14, .idxaddr 3, [.t 12, .t 13], none⟩, ⟨some 15, .load true 3, [.t 14], none⟩, ⟨some 16, .callv, [.t 11, .t 15], none⟩])
 (.cond (.t 16)
 (.seq
 (.ops [⟨some 17, .mov, [.t 5], none⟩, ⟨some 4, .mov, [.t 17], none⟩]) .ret) .skip))))
 (.ops [⟨some 18, .bin .add, [.t 8, .c (.int .i64 1)], none⟩, ⟨some 8, .mov, [.t 18], none⟩])))))))
 (.seq
 (.ops [⟨some 4, .mov, [(.c (.int .i64 (-1)))], none⟩]) .ret)))
theorem fc182 : fnC Tryz.prog 182 cert182 = some (19, [.tmp 4], ac182) := by kernel_rfl
def cert183 : Nat → Option Cert := fun _ => none
def ac183 : ACode :=(.seq
 (.ops [⟨some 4, .mov, [.c (.int .i64 0)], none⟩])
 (.seq
 (.seq
 (.ops [⟨some 6, .mov, [.t 0], none⟩, ⟨some 7, .len, [.t 6], none⟩, ⟨some 8, .mov, [.c (.int .i64 0)], none⟩])
 (.block 0
 (.loop
 (.seq
 (.ops [⟨some 9, .bin .lss, [.t 8, .t 7], none⟩])
 (.seq
 (.cond (.t 9) .skip (.exit 0))
 (.seq
 (.block 1
 (.seq
 (.ops [⟨some 10, .mov, [.t 8], none⟩, ⟨some 5, .mov, [.t 10], none⟩])
 (.seq
 (.ops [⟨some 11, .mov, [.t 1], none⟩, ⟨some 12, .mov, [.t 0], none⟩, ⟨some 13, .mov, [.t 5], none⟩, ⟨some 14, .idxaddr 2, [.t 12, .t 13], none⟩, ⟨some 15, .load true 2, [.t 14], none⟩, ⟨some 16, .callv, [.t 11, .t 15], none⟩])
 (.cond (.t 16)
 (.seq
 (.ops [⟨some 17, .mov, [.t 5], none⟩, ⟨some 4, .mov, [.t 17], none⟩]) .ret) .skip))))
 (.ops [⟨some 18, .bin .add, [.t 8, .c (.int .i64 1)], none⟩, ⟨some 8, .mov, [.t 18], none⟩])))))))
 (.seq
 (.ops [⟨some 4, .mov, [(.c (.int .i64 (-1)))], none⟩]) .ret)))
theorem fc183 : fnC Tryz.prog 183 cert183 = some (19, [.tmp 4], ac183) := by kernel_rfl
end Go.Lift
set_option linter.unusedSimpArgs false
set_option linter.unusedVariables false
namespace Go.Lift
open Go Go.Proofs
theorem hmix : Tryz.prog.follows .mixedOrders = true := by kernel_rfl

theorem within_c (a b c : Int) : Pure Tryz.prog 131 [i6 a, i6 b, i6 c] (.bool (decide (b ≤ a ∧ a ≤ c))) := by
  intro H
  refine fn_of hmix fc131 (by simp) ?_
  rw [ienv3]
  by_cases h1 : b ≤ a <;> by_cases h2 : a ≤ c <;> simp only [go_sem, reduceIte, reduceCtorEq, Nat.reduceEqDiff, Nat.reduceBEq, Nat.reduceAdd, Nat.reduceMul, Nat.reduceLeDiff, ac131, h1, h2] <;>
    (refine fin_ret' 6 (by simp [upd_at]) ?_; simp [upd_at])
theorem within3_c (a b c : Int) : Pure Tryz.prog 159 [i6 a, i6 b, i6 c] (.bool (decide (b ≤ a ∧ a ≤ c))) := by
  intro H
  refine fn_of hmix fc159 (by simp) ?_
  rw [ienv3]
  by_cases h1 : b ≤ a <;> by_cases h2 : a ≤ c <;> simp only [go_sem, reduceIte, reduceCtorEq, Nat.reduceEqDiff, Nat.reduceBEq, Nat.reduceAdd, Nat.reduceMul, Nat.reduceLeDiff, ac159, h1, h2] <;>
    (refine fin_ret' 6 (by simp [upd_at]) ?_; simp [upd_at])
theorem in_c (a b c : Int) : Pure Tryz.prog 47 [i6 a, i6 b, i6 c] (.bool (decide (b ≤ a ∧ a ≤ c))) := by
  intro H
  refine fn_of hmix fc47 (by simp) ?_
  rw [ienv3]
  by_cases h1 : b ≤ a <;> by_cases h2 : a ≤ c <;> simp only [go_sem, reduceIte, reduceCtorEq, Nat.reduceEqDiff, Nat.reduceBEq, Nat.reduceAdd, Nat.reduceMul, Nat.reduceLeDiff, ac47, ge_iff_le, h1, h2] <;>
    (refine fin_ret' 6 (by simp [upd_at]) ?_; simp [upd_at])
theorem mark_c (a : Int) : Pure Tryz.prog 177 [i6 a] (.bool (decide (0 ≤ a ∧ a ≤ 9))) := by
  intro H
  refine fn_of hmix fc177 (by simp) ?_
  rw [ienv1]
  simp only [go_sem, reduceIte, reduceCtorEq, Nat.reduceEqDiff, Nat.reduceBEq, Nat.reduceAdd, Nat.reduceMul, Nat.reduceLeDiff, ac177]
  refine (within3_c a 0 9).go ?_
  simp only [go_sem, reduceIte, reduceCtorEq, Nat.reduceEqDiff, Nat.reduceBEq, Nat.reduceAdd, Nat.reduceMul, Nat.reduceLeDiff]
  refine fin_ret' 2 (by simp [upd_at]) ?_
  simp [upd_at]
theorem has_c (l : List Int) (n : Int) (hl : Sm l.length) : Pure Tryz.prog 40 [.slice (eI l), i6 n] (.bool (decide (n ∈ l))) := by
  intro H
  unfold Sm at hl
  refine fn_of hmix fc40 (by simp) ?_
  rw [ienv2]
  simp only [go_sem, reduceIte, reduceCtorEq, Nat.reduceEqDiff, Nat.reduceBEq, Nat.reduceAdd, Nat.reduceMul, Nat.reduceLeDiff, ac40]
  refine x_for l.length (fun j env H' => H' = H ∧ env 5 = i6 j ∧ env 0 = .slice (eI l) ∧ env 1 = i6 n ∧ env 18 = .any ∧ n ∉ l.take j) (by simp [upd_at]) ?_
  rintro j env H' hj ⟨rfl, h5, h0, h1, hN, hp⟩
  by_cases hlt : (j : Int) < (l.length : Int)
  · have hlt' : j < l.length := by omega
    by_cases he : l[j] = n
    · simp only [go_sem, reduceIte, reduceCtorEq, Nat.reduceEqDiff, Nat.reduceBEq, Nat.reduceAdd, Nat.reduceMul, Nat.reduceLeDiff, h5, h0, h1, hlt, eI_get hlt', he]
      refine fin_ret' 4 (by simp [upd_at, hN]) ?_
      simp only [upd_at, if_true, and_true, AV.bool.injEq]
      symm; rw [decide_eq_true_eq, ← he]; exact List.getElem_mem _
    · simp only [go_sem, reduceIte, reduceCtorEq, Nat.reduceEqDiff, Nat.reduceBEq, Nat.reduceAdd, Nat.reduceMul, Nat.reduceLeDiff, h5, h0, h1, hlt, eI_get hlt', he, wsucc (show j < 4611686018427387904 by omega), hN, hlt']
      rw [mem_take_succ hlt']; rintro (h | h)
      · exact hp h
      · exact he h.symm
  · simp only [go_sem, reduceIte, reduceCtorEq, Nat.reduceEqDiff, Nat.reduceBEq, Nat.reduceAdd, Nat.reduceMul, Nat.reduceLeDiff, h5, h0, h1, hlt]
    refine fin_ret' 4 (by simp [upd_at, hN]) ?_
    have : j = l.length := by omega
    subst this
    simp only [List.take_length] at hp
    simp [upd_at, hp]
/-- where a number stands first -/
theorem index_c (l : List Int) (n : Int) (hl : Sm l.length) (H : AHeap) : ACalls Tryz.prog 171 [.slice (eI l), i6 n] H fun r H' => H' = H ∧ ∃ k : Int, r = i6 k ∧ (0 ≤ k ↔ n ∈ l) := by
  unfold Sm at hl
  refine fn_of hmix fc171 (by simp) ?_
  rw [ienv2]
  simp only [go_sem, reduceIte, reduceCtorEq, Nat.reduceEqDiff, Nat.reduceBEq, Nat.reduceAdd, Nat.reduceMul, Nat.reduceLeDiff, ac171]
  refine x_for l.length (fun j env H' => H' = H ∧ env 8 = i6 j ∧ env 7 = i6 l.length ∧ env 0 = .slice (eI l) ∧ env 1 = i6 n ∧ env 19 = .any ∧ n ∉ l.take j) (by simp [upd_at]) ?_
  rintro j env H' hj ⟨rfl, h5, h7, h0, h1, hN, hp⟩
  by_cases hlt : (j : Int) < (l.length : Int)
  · have hlt' : j < l.length := by omega
    by_cases he : n = l[j]
    · subst he
      simp only [go_sem, reduceIte, reduceCtorEq, Nat.reduceEqDiff, Nat.reduceBEq, Nat.reduceAdd, Nat.reduceMul, Nat.reduceLeDiff, h5, h0, h1, h7, hlt, eI_get hlt']
      refine fin_ret' 4 (by simp [upd_at, hN]) ?_
      simp only [upd_at, if_true, true_and]
      exact ⟨j, rfl, by simp⟩
    · simp only [go_sem, reduceIte, reduceCtorEq, Nat.reduceEqDiff, Nat.reduceBEq, Nat.reduceAdd, Nat.reduceMul, Nat.reduceLeDiff, h5, h0, h1, h7, hlt, eI_get hlt', he, wsucc (show j < 4611686018427387904 by omega), hN, hlt']
      rw [mem_take_succ hlt']; rintro (h | h)
      · exact hp h
      · exact he h
  · simp only [go_sem, reduceIte, reduceCtorEq, Nat.reduceEqDiff, Nat.reduceBEq, Nat.reduceAdd, Nat.reduceMul, Nat.reduceLeDiff, h5, h0, h1, h7, hlt]
    refine fin_ret' 4 (by simp [upd_at, hN]) ?_
    have : j = l.length := by omega
    subst this
    simp only [List.take_length] at hp
    simp only [upd_at, if_true, true_and]
    exact ⟨-1, rfl, by simp [hp]⟩
theorem contains_c (l : List Int) (n : Int) (hl : Sm l.length) : Pure Tryz.prog 141 [.slice (eI l), i6 n] (.bool (decide (n ∈ l))) := by
  intro H
  refine fn_of hmix fc141 (by simp) ?_
  rw [ienv2]
  simp only [go_sem, reduceIte, reduceCtorEq, Nat.reduceEqDiff, Nat.reduceBEq, Nat.reduceAdd, Nat.reduceMul, Nat.reduceLeDiff, ac141]
  refine (index_c l n hl H).mono ?_
  rintro _ H' ⟨rfl, k, rfl, hk⟩
  simp only [go_sem, reduceIte, reduceCtorEq, Nat.reduceEqDiff, Nat.reduceBEq, Nat.reduceAdd, Nat.reduceMul, Nat.reduceLeDiff]
  refine fin_ret' 4 (by simp [upd_at]) ?_
  simp [upd_at, hk]
/-- a range of numbers -/
theorem rangehas_c (lo hi n : Int) : Pure Tryz.prog 168 [.agg [i6 lo, i6 hi], i6 n] (.bool (decide (lo ≤ n ∧ n ≤ hi))) := by
  intro H
  refine fn_of hmix fc168 (by simp) ?_
  rw [ienv2]
  simp only [go_sem, reduceIte, reduceCtorEq, Nat.reduceEqDiff, Nat.reduceBEq, Nat.reduceAdd, Nat.reduceMul, Nat.reduceLeDiff, ac168]
  refine v_box _ rfl fun b hb => ?_
  simp only [go_sem, reduceIte, reduceCtorEq, Nat.reduceEqDiff, Nat.reduceBEq, Nat.reduceAdd, Nat.reduceMul, Nat.reduceLeDiff]
  refine (within3_c n lo hi).go ?_
  simp only [go_sem, reduceIte, reduceCtorEq, Nat.reduceEqDiff, Nat.reduceBEq, Nat.reduceAdd, Nat.reduceMul, Nat.reduceLeDiff]
  refine fin_ret 4 (by simp [upd_at]) ⟨_, H, Settle.refl ((Ext.refl H).new hb _), ?_⟩
  simp [upd_at]
def womanOK (w : Woman) : Bool := decide (0 ≤ w.mark ∧ w.mark ≤ 9 ∧ 0 ≤ w.lo ∧ w.lo ≤ w.hi ∧ w.hi ≤ 7)
theorem woman_c (w : Woman) : Pure Tryz.prog 161 [.agg (eW w)] (.bool (womanOK w)) := by
  intro H
  refine fn_of hmix fc161 (by simp) ?_
  rw [ienv1]
  unfold ac161
  simp only [go_sem, reduceIte, reduceCtorEq, Nat.reduceEqDiff, Nat.reduceBEq, Nat.reduceAdd, Nat.reduceMul, Nat.reduceLeDiff]
  refine v_box _ rfl fun b hb => ?_
  simp only [go_sem, reduceIte, reduceCtorEq, Nat.reduceEqDiff, Nat.reduceBEq, Nat.reduceAdd, Nat.reduceMul, Nat.reduceLeDiff, eW]
  refine (mark_c w.mark).go ?_
  by_cases h1 : 0 ≤ w.mark ∧ w.mark ≤ 9 <;> by_cases h2 : 0 ≤ w.lo <;> by_cases h3 : w.lo ≤ w.hi <;> by_cases h4 : w.hi ≤ 7 <;> simp only [go_sem, reduceIte, reduceCtorEq, Nat.reduceEqDiff, Nat.reduceBEq, Nat.reduceAdd, Nat.reduceMul, Nat.reduceLeDiff, h1, h2, h3, h4] <;>
    (refine fin_ret 2 (by simp [upd_at]) ⟨_, H, Settle.refl ((Ext.refl H).new hb _), ?_⟩) <;> simp [upd_at, womanOK, h1, h2, h3, h4] <;> simp [h1]
end Go.Lift

