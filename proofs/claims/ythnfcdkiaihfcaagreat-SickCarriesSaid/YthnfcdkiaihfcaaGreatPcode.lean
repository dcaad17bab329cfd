/- The abstract code of the law. Conditions: none. -/
import Derived.Test.YthnfcdkiaihfcaaGreatP24
set_option maxRecDepth 100000
set_option linter.unusedVariables false
namespace Go.Lift
open Go Go.Proofs
/- 3 -/
def cert3 : Nat → Option Cert := fun
  | 13 => some ⟨[0, 1, 2, 3, 4, 5, 6, 7, 8], .done, [[], [], [0, 1], [0, 1, 2], [], [], [], [4, 5, 6], [0, 1, 2, 3, 4, 5, 6, 7]]⟩
  | _ => none
def ac3 : ACode :=(.seq
 (.ops [⟨some 1, .box, [.t 0], none⟩, ⟨some 2, .mov, [.c (.bool false)], none⟩])
 (.seq
 (.seq
 (.ops [⟨some 12, .load true 9, [.t 1], none⟩, ⟨some 13, .call 19, [.t 12], none⟩, ⟨some 14, .not, [.t 13], none⟩])
 (.cond (.t 14)
 (.seq
 (.ops [⟨some 15, .call 20, [], none⟩, ⟨some 2, .mov, [.t 15], none⟩]) .ret) .skip))
 (.seq
 (.ops [⟨some 17, .load true 9, [.t 1], none⟩, ⟨some 18, .call 22, [.t 17], none⟩, ⟨some 19, .call 21, [.t 18], none⟩, ⟨some 16, .mov, [.t 19], none⟩, ⟨some 20, .extract 0, [.t 16], none⟩, ⟨some 21, .extract 1, [.t 16], none⟩, ⟨some 3, .mov, [.t 20], none⟩, ⟨some 4, .mov, [.t 21], none⟩])
 (.seq
 (.ops [⟨some 23, .load true 9, [.t 1], none⟩, ⟨some 24, .call 22, [.t 23], none⟩, ⟨some 25, .call 23, [.t 24], none⟩, ⟨some 22, .mov, [.t 25], none⟩, ⟨some 26, .extract 0, [.t 22], none⟩, ⟨some 27, .extract 1, [.t 22], none⟩, ⟨some 5, .mov, [.t 26], none⟩, ⟨some 6, .mov, [.t 27], none⟩])
 (.seq
 (.ops [⟨some 29, .load true 9, [.t 1], none⟩, ⟨some 30, .call 24, [.t 29], none⟩, ⟨some 28, .mov, [.t 30], none⟩, ⟨some 31, .extract 0, [.t 28], none⟩, ⟨some 32, .extract 1, [.t 28], none⟩, ⟨some 7, .mov, [.t 31], none⟩, ⟨some 8, .mov, [.t 32], none⟩])
 (.seq
 (.seq
 (.ops [⟨some 33, .mov, [.t 8], none⟩, ⟨some 34, .bin .neq, [.t 33, .c (.int .i64 0)], none⟩])
 (.cond (.t 34)
 (.seq
 (.ops [⟨some 35, .mov, [.t 4], none⟩, ⟨some 36, .mov, [.t 8], none⟩, ⟨some 37, .bin .eql, [.t 35, .t 36], none⟩, ⟨some 38, .mov, [.t 37], none⟩, ⟨some 39, .mov, [.t 6], some (38, true)⟩, ⟨some 40, .mov, [.t 8], some (38, true)⟩, ⟨some 41, .bin .eql, [.t 39, .t 40], some (38, true)⟩, ⟨some 42, .pick, [.t 38, .t 41, .c (.bool false)], none⟩, ⟨some 43, .mov, [.t 42], none⟩, ⟨some 44, .mov, [.t 3], some (43, true)⟩, ⟨some 45, .len, [.t 44], some (43, true)⟩, ⟨some 46, .mov, [.t 5], some (43, true)⟩, ⟨some 47, .len, [.t 46], some (43, true)⟩, ⟨some 48, .bin .add, [.t 45, .t 47], some (43, true)⟩, ⟨some 49, .bin .eql, [.t 48, .c (.int .i64 0)], some (43, true)⟩, ⟨some 50, .pick, [.t 43, .t 49, .c (.bool false)], none⟩, ⟨some 51, .mov, [.t 50], none⟩, ⟨some 52, .call 20, [], some (51, true)⟩, ⟨some 53, .pick, [.t 51, .t 52, .c (.bool false)], none⟩, ⟨some 2, .mov, [.t 53], none⟩]) .ret) .skip))
 (.seq
 (.seq
 (.ops [⟨some 54, .mov, [.t 4], none⟩, ⟨some 55, .bin .neq, [.t 54, .c (.int .i64 0)], none⟩, ⟨some 56, .mov, [.t 55], none⟩, ⟨some 57, .mov, [.t 6], some (56, false)⟩, ⟨some 58, .bin .neq, [.t 57, .c (.int .i64 0)], some (56, false)⟩, ⟨some 59, .pick, [.t 56, .c (.bool true), .t 58], none⟩, ⟨some 60, .mov, [.t 59], none⟩, ⟨some 61, .mov, [.t 3], some (60, false)⟩, ⟨some 62, .len, [.t 61], some (60, false)⟩, ⟨some 63, .load true 9, [.t 1], some (60, false)⟩, ⟨some 64, .call 25, [.t 63], some (60, false)⟩, ⟨some 65, .bin .neq, [.t 62, .t 64], some (60, false)⟩, ⟨some 66, .pick, [.t 60, .c (.bool true), .t 65], none⟩])
 (.cond (.t 66)
 (.seq
 (.ops [⟨some 2, .mov, [.c (.bool false)], none⟩]) .ret) .skip))
 (.seq
 (.seq
 (.ops [⟨some 9, .mov, [.c (.int .i64 0)], none⟩])
 (.block 0
 (.loop
 (.seq
 (.seq
 (.ops [⟨some 67, .mov, [.t 9], none⟩, ⟨some 68, .mov, [.t 3], none⟩, ⟨some 69, .len, [.t 68], none⟩, ⟨some 70, .bin .lss, [.t 67, .t 69], none⟩])
 (.cond (.t 70) .skip (.exit 0)))
 (.seq
 (.block 1
 (.seq
 (.draw [(false, ⟨some 73, .mov, [.t 3], none⟩), (false, ⟨some 74, .mov, [.t 9], none⟩), (false, ⟨some 75, .idxaddr 1, [.t 73, .t 74], none⟩), (false, ⟨some 76, .load false 1, [.t 75], none⟩), (false, ⟨some 77, .load true 9, [.t 1], none⟩), (false, ⟨some 78, .mov, [.t 7], none⟩), (false, ⟨some 79, .mov, [.t 9], none⟩), (false, ⟨some 80, .call 26, [.t 77, .t 78, .t 79], none⟩), (false, ⟨some 81, .bin .neq, [.t 76, .t 80], none⟩)] .done)
 (.cond (.t 81)
 (.seq
 (.ops [⟨some 2, .mov, [.c (.bool false)], none⟩]) .ret) .skip)))
 (.ops [⟨some 71, .mov, [.t 9], none⟩, ⟨some 72, .bin .add, [.t 71, .c (.int .i64 1)], none⟩, ⟨some 9, .mov, [.t 72], none⟩]))))))
 (.seq
 (.ops [⟨some 10, .mov, [.c .emp], none⟩])
 (.seq
 (.seq
 (.ops [⟨some 11, .mov, [.c (.int .i64 0)], none⟩])
 (.block 2
 (.loop
 (.seq
 (.seq
 (.ops [⟨some 82, .mov, [.t 11], none⟩, ⟨some 83, .fieldaddr 0, [.t 1], none⟩, ⟨some 84, .fieldaddr 0, [.t 83], none⟩, ⟨some 85, .load false 1, [.t 84], none⟩, ⟨some 86, .len, [.t 85], none⟩, ⟨some 87, .bin .lss, [.t 82, .t 86], none⟩])
 (.cond (.t 87) .skip (.exit 2)))
 (.seq
 (.block 3
 (.seq
 (.ops [⟨some 90, .load true 9, [.t 1], none⟩, ⟨some 91, .mov, [.t 7], none⟩, ⟨some 92, .mov, [.t 11], none⟩, ⟨some 93, .call 27, [.t 90, .t 91, .t 92], none⟩])
 (.cond (.t 93)
 (.ops [⟨some 94, .mov, [.t 10], none⟩, ⟨some 95, .mov, [.t 11], none⟩, ⟨some 96, .bslice 1, [.t 95], none⟩, ⟨some 97, .append 1 8, [.t 94, .t 96], none⟩, ⟨some 10, .mov, [.t 97], none⟩]) .skip)))
 (.ops [⟨some 88, .mov, [.t 11], none⟩, ⟨some 89, .bin .add, [.t 88, .c (.int .i64 1)], none⟩, ⟨some 11, .mov, [.t 89], none⟩]))))))
 (.seq
 (.ops [⟨some 98, .mov, [.t 5], none⟩, ⟨some 99, .mov, [.t 10], none⟩, ⟨some 100, .call 28, [.t 98, .t 99], none⟩, ⟨some 101, .mov, [.t 100], none⟩, ⟨some 102, .call 20, [], some (101, true)⟩, ⟨some 103, .pick, [.t 101, .t 102, .c (.bool false)], none⟩, ⟨some 2, .mov, [.t 103], none⟩]) .ret)))))))))))
theorem fc3 : fnC Tryz.prog 3 cert3 = some (104, [.tmp 2], ac3) := by kernel_rfl
/- 24 -/
def cert24 : Nat → Option Cert := fun _ => none
def ac24 : ACode :=(.seq
 (.ops [⟨some 1, .box, [.t 0], none⟩, ⟨some 2, .mov, [.c .emp], none⟩, ⟨some 3, .mov, [.c (.int .i64 0)], none⟩])
 (.seq
 (.ops [⟨some 4, .load true 9, [.t 1], none⟩, ⟨some 5, .call 53, [.t 4, .c (.int .i64 0)], none⟩, ⟨some 6, .extract 0, [.t 5], none⟩, ⟨some 7, .extract 1, [.t 5], none⟩, ⟨some 2, .mov, [.t 6], none⟩, ⟨some 3, .mov, [.t 7], none⟩]) .ret))
theorem fc24 : fnC Tryz.prog 24 cert24 = some (8, [.tmp 2, .tmp 3], ac24) := by kernel_rfl
/- 26 -/
def cert26 : Nat → Option Cert := fun
  | 5 => some ⟨[0, 1, 2, 3, 4, 5, 6, 7, 8, 9, 10], .done, [[], [], [], [1, 2], [1, 2, 3], [0, 1, 2, 3, 4], [], [6], [6, 7], [0, 1, 2, 3, 4, 5, 6, 7, 8], [0, 1, 2, 3, 4, 5, 6, 7, 8, 9]]⟩
  | _ => none
def ac26 : ACode :=(.seq
 (.ops [⟨some 3, .box, [.t 0], none⟩, ⟨some 6, .mov, [.c (.int .i64 0)], none⟩])
 (.seq
 (.ops [⟨some 7, .mov, [.c (.int .i64 0)], none⟩])
 (.seq
 (.seq
 (.ops [⟨some 8, .mov, [.c (.int .i64 0)], none⟩])
 (.block 0
 (.loop
 (.seq
 (.seq
 (.ops [⟨some 9, .mov, [.t 8], none⟩, ⟨some 10, .mov, [.t 1], none⟩, ⟨some 11, .len, [.t 10], none⟩, ⟨some 12, .bin .lss, [.t 9, .t 11], none⟩])
 (.cond (.t 12) .skip (.exit 0)))
 (.seq
 (.block 1
 (.seq
 (.draw [(false, ⟨some 15, .load true 9, [.t 3], none⟩), (false, ⟨some 16, .mov, [.t 1], none⟩), (false, ⟨some 17, .mov, [.t 8], none⟩), (false, ⟨some 18, .idxaddr 2, [.t 16, .t 17], none⟩), (false, ⟨some 19, .load true 2, [.t 18], none⟩), (false, ⟨some 20, .call 69, [.t 15, .t 19, .c .emp], none⟩), (false, ⟨some 21, .mov, [.t 2], none⟩), (false, ⟨some 22, .conv .u64, [.t 21], none⟩), (false, ⟨some 23, .bin .shl, [.c (.int .i64 1), .t 22], none⟩), (false, ⟨some 24, .bin .and, [.t 20, .t 23], none⟩), (false, ⟨some 25, .bin .neq, [.t 24, .c (.int .i64 0)], none⟩)] .done)
 (.cond (.t 25)
 (.ops [⟨some 26, .mov, [.t 7], none⟩, ⟨some 27, .bin .add, [.t 26, .c (.int .i64 1)], none⟩, ⟨some 7, .mov, [.t 27], none⟩]) .skip)))
 (.ops [⟨some 13, .mov, [.t 8], none⟩, ⟨some 14, .bin .add, [.t 13, .c (.int .i64 1)], none⟩, ⟨some 8, .mov, [.t 14], none⟩]))))))
 (.seq
 (.ops [⟨some 28, .mov, [.t 7], none⟩, ⟨some 29, .mov, [.t 1], none⟩, ⟨some 30, .len, [.t 29], none⟩, ⟨some 31, .call 81, [.t 28, .t 30], none⟩, ⟨some 6, .mov, [.t 31], none⟩]) .ret))))
theorem fc26 : fnC Tryz.prog 26 cert26 = some (32, [.tmp 6], ac26) := by kernel_rfl
/- 27 -/
def cert27 : Nat → Option Cert := fun
  | 4 => some ⟨[0, 1, 2, 3, 4, 5, 6, 7, 8, 9, 10, 11, 12], .done, [[], [], [], [1, 2], [1, 2, 3], [], [], [], [6, 7], [6, 7, 8], [5, 6, 7, 8, 9], [], [0, 1, 2, 3, 4, 5, 6, 7, 8, 9, 10, 11]]⟩
  | _ => none
def ac27 : ACode :=(.seq
 (.ops [⟨some 3, .box, [.t 0], none⟩, ⟨some 6, .mov, [.c (.bool false)], none⟩])
 (.seq
 (.seq
 (.ops [⟨some 7, .mov, [.c (.int .i64 0)], none⟩])
 (.block 0
 (.loop
 (.seq
 (.seq
 (.ops [⟨some 8, .mov, [.t 7], none⟩, ⟨some 9, .mov, [.t 1], none⟩, ⟨some 10, .len, [.t 9], none⟩, ⟨some 11, .bin .lss, [.t 8, .t 10], none⟩])
 (.cond (.t 11) .skip (.exit 0)))
 (.seq
 (.block 1
 (.seq
 (.draw [(false, ⟨some 14, .load true 9, [.t 3], none⟩), (false, ⟨some 15, .mov, [.t 1], none⟩), (false, ⟨some 16, .mov, [.t 7], none⟩), (false, ⟨some 17, .idxaddr 2, [.t 15, .t 16], none⟩), (false, ⟨some 18, .load true 2, [.t 17], none⟩), (false, ⟨some 19, .load true 9, [.t 3], none⟩), (false, ⟨some 20, .mov, [.t 1], none⟩), (false, ⟨some 21, .mov, [.t 7], none⟩), (false, ⟨some 22, .idxaddr 2, [.t 20, .t 21], none⟩), (false, ⟨some 23, .load true 2, [.t 22], none⟩), (false, ⟨some 24, .call 69, [.t 19, .t 23, .c .emp], none⟩), (false, ⟨some 25, .mov, [.t 2], none⟩), (false, ⟨some 26, .call 82, [.t 14, .t 18, .t 24, .t 25], none⟩)] .done)
 (.cond (.t 26)
 (.seq
 (.ops [⟨some 6, .mov, [.c (.bool true)], none⟩]) .ret) .skip)))
 (.ops [⟨some 12, .mov, [.t 7], none⟩, ⟨some 13, .bin .add, [.t 12, .c (.int .i64 1)], none⟩, ⟨some 7, .mov, [.t 13], none⟩]))))))
 (.seq
 (.ops [⟨some 6, .mov, [.c (.bool false)], none⟩]) .ret)))
theorem fc27 : fnC Tryz.prog 27 cert27 = some (27, [.tmp 6], ac27) := by kernel_rfl
/- 53 -/
def cert53 : Nat → Option Cert := fun _ => none
def ac53 : ACode :=(.seq
 (.ops [⟨some 2, .box, [.t 0], none⟩, ⟨some 4, .mov, [.c .emp], none⟩, ⟨some 5, .mov, [.c (.int .i64 0)], none⟩])
 (.seq
 (.seq
 (.ops [⟨some 8, .load true 9, [.t 2], none⟩, ⟨some 9, .call 31, [.t 8], none⟩, ⟨some 6, .mov, [.t 9], none⟩])
 (.seq
 (.ops [⟨some 10, .mov, [.t 6], none⟩, ⟨some 11, .bin .neq, [.t 10, .c (.int .i64 0)], none⟩])
 (.cond (.t 11)
 (.seq
 (.ops [⟨some 12, .mov, [.t 6], none⟩, ⟨some 4, .mov, [.c .emp], none⟩, ⟨some 5, .mov, [.t 12], none⟩]) .ret) .skip)))
 (.seq
 (.seq
 (.ops [⟨some 13, .load true 9, [.t 2], none⟩, ⟨some 14, .mov, [.t 1], none⟩, ⟨some 15, .call 97, [.t 13, .t 14], none⟩, ⟨some 16, .not, [.t 15], none⟩])
 (.cond (.t 16)
 (.seq
 (.ops [⟨some 4, .mov, [.c .emp], none⟩, ⟨some 5, .mov, [.c (.int .i64 2)], none⟩]) .ret) .skip))
 (.seq
 (.ops [⟨some 17, .load true 9, [.t 2], none⟩, ⟨some 18, .call 63, [.t 17], none⟩, ⟨some 7, .mov, [.t 18], none⟩])
 (.seq
 (.seq
 (.ops [⟨some 19, .mov, [.t 7], none⟩, ⟨some 20, .len, [.t 19], none⟩, ⟨some 21, .bin .eql, [.t 20, .c (.int .i64 0)], none⟩])
 (.cond (.t 21)
 (.seq
 (.ops [⟨some 4, .mov, [.c .emp], none⟩, ⟨some 5, .mov, [.c (.int .i64 11)], none⟩]) .ret) .skip))
 (.seq
 (.ops [⟨some 22, .mov, [.t 7], none⟩, ⟨some 4, .mov, [.t 22], none⟩, ⟨some 5, .mov, [.c (.int .i64 0)], none⟩]) .ret))))))
theorem fc53 : fnC Tryz.prog 53 cert53 = some (23, [.tmp 4, .tmp 5], ac53) := by kernel_rfl
/- 56 -/
def cert56 : Nat → Option Cert := fun _ => none
def ac56 : ACode :=(.seq
 (.ops [⟨some 4, .mov, [.c .emp], none⟩])
 (.seq
 (.ops [⟨some 5, .mov, [.c .emp], none⟩])
 (.seq
 (.seq
 (.ops [⟨some 6, .mov, [.c (.int .i64 0)], none⟩])
 (.block 0
 (.loop
 (.seq
 (.seq
 (.ops [⟨some 7, .mov, [.t 6], none⟩, ⟨some 8, .mov, [.t 0], none⟩, ⟨some 9, .len, [.t 8], none⟩, ⟨some 10, .bin .lss, [.t 7, .t 9], none⟩])
 (.cond (.t 10) .skip (.exit 0)))
 (.seq
 (.block 1
 (.ops [⟨some 13, .mov, [.t 5], none⟩, ⟨some 14, .mov, [.t 0], none⟩, ⟨some 15, .mov, [.t 6], none⟩, ⟨some 16, .idxaddr 1, [.t 14, .t 15], none⟩, ⟨some 17, .load false 1, [.t 16], none⟩, ⟨some 18, .mov, [.t 1], none⟩, ⟨some 19, (.build [(.int .i64 0), (.int .i64 0)] [(0, 1), (1, 1)]), [.t 17, .t 18], none⟩, ⟨some 20, .bslice 2, [.t 19], none⟩, ⟨some 21, .append 2 16, [.t 13, .t 20], none⟩, ⟨some 5, .mov, [.t 21], none⟩]))
 (.ops [⟨some 11, .mov, [.t 6], none⟩, ⟨some 12, .bin .add, [.t 11, .c (.int .i64 1)], none⟩, ⟨some 6, .mov, [.t 12], none⟩]))))))
 (.seq
 (.ops [⟨some 22, .mov, [.t 5], none⟩, ⟨some 4, .mov, [.t 22], none⟩]) .ret))))
theorem fc56 : fnC Tryz.prog 56 cert56 = some (23, [.tmp 4], ac56) := by kernel_rfl
/- 60 -/
def cert60 : Nat → Option Cert := fun
  | 4 => some ⟨[0, 1, 2, 3, 4, 5, 6], .done, [[], [], [], [1, 2], [1, 2, 3], [0, 1, 2, 3, 4], [0, 1, 2, 3, 4, 5]]⟩
  | _ => none
def ac60 : ACode :=(.seq
 (.ops [⟨some 3, .box, [.t 0], none⟩, ⟨some 6, .mov, [.c (.bool false)], none⟩])
 (.seq
 (.seq
 (.ops [⟨some 7, .mov, [.c (.int .i64 0)], none⟩])
 (.block 0
 (.loop
 (.seq
 (.seq
 (.ops [⟨some 8, .mov, [.t 7], none⟩, ⟨some 9, .mov, [.t 1], none⟩, ⟨some 10, .len, [.t 9], none⟩, ⟨some 11, .bin .lss, [.t 8, .t 10], none⟩])
 (.cond (.t 11) .skip (.exit 0)))
 (.seq
 (.block 1
 (.seq
 (.draw [(false, ⟨some 14, .load true 9, [.t 3], none⟩), (false, ⟨some 15, .mov, [.t 1], none⟩), (false, ⟨some 16, .mov, [.t 7], none⟩), (false, ⟨some 17, .idxaddr 1, [.t 15, .t 16], none⟩), (false, ⟨some 18, .load false 1, [.t 17], none⟩), (false, ⟨some 19, .call 96, [.t 14, .t 18], none⟩), (false, ⟨some 20, .not, [.t 19], none⟩)] .done)
 (.cond (.t 20)
 (.seq
 (.ops [⟨some 6, .mov, [.c (.bool false)], none⟩]) .ret) .skip)))
 (.ops [⟨some 12, .mov, [.t 7], none⟩, ⟨some 13, .bin .add, [.t 12, .c (.int .i64 1)], none⟩, ⟨some 7, .mov, [.t 13], none⟩]))))))
 (.seq
 (.ops [⟨some 21, .mov, [.t 1], none⟩, ⟨some 22, .len, [.t 21], none⟩, ⟨some 23, .bin .leq, [.t 22, .c (.int .i64 3)], none⟩, ⟨some 24, .mov, [.t 23], none⟩, ⟨some 25, .mov, [.t 2], some (24, true)⟩, ⟨some 26, .mov, [.t 1], some (24, true)⟩, ⟨some 27, .len, [.t 26], some (24, true)⟩, ⟨some 28, .bin .add, [.t 25, .t 27], some (24, true)⟩, ⟨some 29, .bin .sub, [.t 28, .c (.int .i64 1)], some (24, true)⟩, ⟨some 30, .fieldaddr 5, [.t 3], some (24, true)⟩, ⟨some 31, .load false 1, [.t 30], some (24, true)⟩, ⟨some 32, .bin .leq, [.t 29, .t 31], some (24, true)⟩, ⟨some 33, .pick, [.t 24, .t 32, .c (.bool false)], none⟩, ⟨some 6, .mov, [.t 33], none⟩]) .ret)))
theorem fc60 : fnC Tryz.prog 60 cert60 = some (34, [.tmp 6], ac60) := by kernel_rfl
/- 61 -/
def cert61 : Nat → Option Cert := fun _ => none
def ac61 : ACode :=(.seq
 (.ops [⟨some 4, .mov, [.c .emp], none⟩])
 (.seq
 (.ops [⟨some 5, .mov, [.c .emp], none⟩])
 (.seq
 (.seq
 (.ops [⟨some 6, .mov, [.c (.int .i64 0)], none⟩])
 (.block 0
 (.loop
 (.seq
 (.seq
 (.ops [⟨some 7, .mov, [.t 6], none⟩, ⟨some 8, .mov, [.t 0], none⟩, ⟨some 9, .len, [.t 8], none⟩, ⟨some 10, .bin .lss, [.t 7, .t 9], none⟩])
 (.cond (.t 10) .skip (.exit 0)))
 (.seq
 (.block 1
 (.ops [⟨some 13, .mov, [.t 5], none⟩, ⟨some 14, .mov, [.t 0], none⟩, ⟨some 15, .mov, [.t 6], none⟩, ⟨some 16, .idxaddr 1, [.t 14, .t 15], none⟩, ⟨some 17, .load false 1, [.t 16], none⟩, ⟨some 18, .mov, [.t 1], none⟩, ⟨some 19, .mov, [.t 6], none⟩, ⟨some 20, .bin .add, [.t 18, .t 19], none⟩, ⟨some 21, (.build [(.int .i64 0), (.int .i64 0)] [(0, 1), (1, 1)]), [.t 17, .t 20], none⟩, ⟨some 22, .bslice 2, [.t 21], none⟩, ⟨some 23, .append 2 16, [.t 13, .t 22], none⟩, ⟨some 5, .mov, [.t 23], none⟩]))
 (.ops [⟨some 11, .mov, [.t 6], none⟩, ⟨some 12, .bin .add, [.t 11, .c (.int .i64 1)], none⟩, ⟨some 6, .mov, [.t 12], none⟩]))))))
 (.seq
 (.ops [⟨some 24, .mov, [.t 5], none⟩, ⟨some 4, .mov, [.t 24], none⟩]) .ret))))
theorem fc61 : fnC Tryz.prog 61 cert61 = some (25, [.tmp 4], ac61) := by kernel_rfl
/- 81 -/
def cert81 : Nat → Option Cert := fun _ => none
def ac81 : ACode :=(.seq
 (.ops [⟨some 4, .mov, [.c (.int .i64 0)], none⟩])
 (.seq
 (.seq
 (.ops [⟨some 5, .mov, [.t 0], none⟩, ⟨some 6, .mov, [.t 1], none⟩, ⟨some 7, .bin .eql, [.t 5, .t 6], none⟩])
 (.cond (.t 7)
 (.seq
 (.ops [⟨some 4, .mov, [.c (.int .i64 1)], none⟩]) .ret) .skip))
 (.seq
 (.seq
 (.ops [⟨some 8, .mov, [.t 0], none⟩, ⟨some 9, .bin .eql, [.t 8, .c (.int .i64 0)], none⟩])
 (.cond (.t 9)
 (.seq
 (.ops [⟨some 4, .mov, [.c (.int .i64 2)], none⟩]) .ret) .skip))
 (.seq
 (.ops [⟨some 4, .mov, [.c (.int .i64 3)], none⟩]) .ret))))
theorem fc81 : fnC Tryz.prog 81 cert81 = some (10, [.tmp 4], ac81) := by kernel_rfl
end Go.Lift
