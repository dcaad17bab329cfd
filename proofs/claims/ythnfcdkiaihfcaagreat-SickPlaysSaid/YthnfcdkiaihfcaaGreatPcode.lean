/- The abstract code of the law. Conditions: none. -/
import Derived.Test.YthnfcdkiaihfcaaGreatP24
set_option maxRecDepth 100000
set_option linter.unusedVariables false
namespace Go.Lift
open Go Go.Proofs
/- 15 -/
def cert15 : Nat → Option Cert := fun
  | 3 => some ⟨[0, 1, 2, 3, 4, 5, 6, 7, 8, 9], .done, [[], [0], [], [0, 1, 2], [0, 1, 2, 3], [0, 1, 2, 3, 4], [0, 1, 2, 3, 4, 5], [0, 1, 2, 3, 4, 5], [0, 1, 2, 3, 4, 5, 6], [0, 1, 2, 3, 4, 5, 6, 7, 8]]⟩
  | 4 => some ⟨[0, 1, 2, 3, 4, 5], .done, [[], [0], [], [0, 1, 2], [0, 1, 2, 3], [0, 1, 2, 3, 4]]⟩
  | _ => none
def ac15 : ACode :=(.seq
 (.ops [⟨some 2, .box, [.t 0], none⟩, ⟨some 3, .box, [.t 1], none⟩, ⟨some 4, .mov, [.c (.bool false)], none⟩])
 (.seq
 (.seq
 (.ops [⟨some 9, .load true 9, [.t 2], none⟩, ⟨some 10, .call 64, [.t 9], none⟩, ⟨some 11, .not, [.t 10], none⟩, ⟨some 12, .mov, [.t 11], none⟩, ⟨some 13, .fieldaddr 0, [.t 3], some (12, false)⟩, ⟨some 14, .load false 1, [.t 13], some (12, false)⟩, ⟨some 15, .len, [.t 14], some (12, false)⟩, ⟨some 16, .bin .gtr, [.t 15, .c (.int .i64 30)], some (12, false)⟩, ⟨some 17, .pick, [.t 12, .c (.bool true), .t 16], none⟩, ⟨some 18, .mov, [.t 17], none⟩, ⟨some 19, .fieldaddr 1, [.t 3], some (18, false)⟩, ⟨some 20, .load false 1, [.t 19], some (18, false)⟩, ⟨some 21, .len, [.t 20], some (18, false)⟩, ⟨some 22, .bin .gtr, [.t 21, .c (.int .i64 30)], some (18, false)⟩, ⟨some 23, .pick, [.t 18, .c (.bool true), .t 22], none⟩])
 (.cond (.t 23)
 (.seq
 (.ops [⟨some 24, .call 20, [], none⟩, ⟨some 4, .mov, [.t 24], none⟩]) .ret) .skip))
 (.seq
 (.draw [(false, ⟨some 26, .load true 9, [.t 2], none⟩), (false, ⟨some 27, .call 22, [.t 26], none⟩), (false, ⟨some 28, .load true 2, [.t 3], none⟩), (false, ⟨some 29, .call 38, [.t 28], none⟩), (false, ⟨some 30, .call 37, [.t 27, .t 29], none⟩), (false, ⟨some 25, .mov, [.t 30], none⟩), (false, ⟨some 31, .extract 0, [.t 25], none⟩), (false, ⟨some 32, .extract 1, [.t 25], none⟩), (false, ⟨some 5, .mov, [.t 31], none⟩), (false, ⟨some 6, .mov, [.t 32], none⟩)] .done)
 (.seq
 (.draw [(false, ⟨some 33, .load true 9, [.t 2], none⟩), (false, ⟨some 34, .call 22, [.t 33], none⟩), (false, ⟨some 35, .load true 2, [.t 3], none⟩), (false, ⟨some 36, .call 38, [.t 35], none⟩), (false, ⟨some 37, .call 65, [.t 34, .t 36], none⟩), (false, ⟨some 7, .mov, [.t 37], none⟩)] .done)
 (.seq
 (.ops [⟨some 38, .load true 9, [.t 2], none⟩, ⟨some 39, .call 31, [.t 38], none⟩, ⟨some 8, .mov, [.t 39], none⟩])
 (.seq
 (.seq
 (.ops [⟨some 40, .load true 9, [.t 2], none⟩, ⟨some 41, .call 22, [.t 40], none⟩, ⟨some 42, .call 66, [.t 41], none⟩, ⟨some 43, .mov, [.t 8], none⟩, ⟨some 44, .bin .neq, [.t 42, .t 43], none⟩, ⟨some 45, .mov, [.t 44], none⟩, ⟨some 46, .mov, [.t 7], some (45, false)⟩, ⟨some 47, .mov, [.t 8], some (45, false)⟩, ⟨some 48, .bin .eql, [.t 47, .c (.int .i64 0)], some (45, false)⟩, ⟨some 49, .mov, [.t 48], some (45, false)⟩, ⟨some 50, .load true 9, [.t 2], some (49, true)⟩, ⟨some 51, .load true 2, [.t 3], some (49, true)⟩, ⟨some 52, .call 67, [.t 50, .t 51], some (49, true)⟩, ⟨some 53, .pick, [.t 49, .t 52, .c (.bool false)], some (45, false)⟩, ⟨some 54, .binb .neq, [.t 46, .t 53], some (45, false)⟩, ⟨some 55, .pick, [.t 45, .c (.bool true), .t 54], none⟩])
 (.cond (.t 55)
 (.seq
 (.ops [⟨some 4, .mov, [.c (.bool false)], none⟩]) .ret) .skip))
 (.seq
 (.seq
 (.ops [⟨some 56, .mov, [.t 8], none⟩, ⟨some 57, .bin .eql, [.t 56, .c (.int .i64 0)], none⟩, ⟨some 58, .mov, [.t 57], none⟩, ⟨some 59, .load true 9, [.t 2], some (58, true)⟩, ⟨some 60, .load true 2, [.t 3], some (58, true)⟩, ⟨some 61, .call 68, [.t 59, .t 60], some (58, true)⟩, ⟨some 62, .not, [.t 61], some (58, true)⟩, ⟨some 63, .pick, [.t 58, .t 62, .c (.bool false)], none⟩])
 (.cond (.t 63)
 (.ops [⟨some 8, .mov, [.c (.int .i64 2)], none⟩]) .skip))
 (.seq
 (.seq
 (.ops [⟨some 64, .mov, [.t 8], none⟩, ⟨some 65, .bin .neq, [.t 64, .c (.int .i64 0)], none⟩])
 (.cond (.t 65)
 (.seq
 (.ops [⟨some 66, .mov, [.t 6], none⟩, ⟨some 67, .mov, [.t 8], none⟩, ⟨some 68, .bin .eql, [.t 66, .t 67], none⟩, ⟨some 69, .mov, [.t 68], none⟩, ⟨some 70, .mov, [.t 5], some (69, true)⟩, ⟨some 71, .len, [.t 70], some (69, true)⟩, ⟨some 72, .bin .eql, [.t 71, .c (.int .i64 0)], some (69, true)⟩, ⟨some 73, .pick, [.t 69, .t 72, .c (.bool false)], none⟩, ⟨some 74, .mov, [.t 73], none⟩, ⟨some 75, .call 20, [], some (74, true)⟩, ⟨some 76, .pick, [.t 74, .t 75, .c (.bool false)], none⟩, ⟨some 4, .mov, [.t 76], none⟩]) .ret) .skip))
 (.seq
 (.ops [⟨some 77, .mov, [.t 6], none⟩, ⟨some 78, .bin .eql, [.t 77, .c (.int .i64 0)], none⟩, ⟨some 79, .mov, [.t 78], none⟩, ⟨some 80, .mov, [.t 5], some (79, true)⟩, ⟨some 81, .load true 9, [.t 2], some (79, true)⟩, ⟨some 82, .load true 2, [.t 3], some (79, true)⟩, ⟨some 83, .call 69, [.t 81, .t 82, .c .emp], some (79, true)⟩, ⟨some 84, .call 51, [.t 83], some (79, true)⟩, ⟨some 85, .call 28, [.t 80, .t 84], some (79, true)⟩, ⟨some 86, .pick, [.t 79, .t 85, .c (.bool false)], none⟩, ⟨some 87, .mov, [.t 86], none⟩, ⟨some 88, .call 20, [], some (87, true)⟩, ⟨some 89, .pick, [.t 87, .t 88, .c (.bool false)], none⟩, ⟨some 4, .mov, [.t 89], none⟩]) .ret)))))))))
theorem fc15 : fnC Tryz.prog 15 cert15 = some (90, [.tmp 4], ac15) := by kernel_rfl
end Go.Lift
