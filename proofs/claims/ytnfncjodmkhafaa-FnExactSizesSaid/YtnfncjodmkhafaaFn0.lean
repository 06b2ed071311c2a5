/-
  Stripped functions of the program, part 0: written by wip/tools/gen.py.
-/
import Derived.Test.YtnfncjodmkhafaaProg
import Derived.Test.YtnfncjodmkhafaaAm12
import Derived.KernelRfl
set_option linter.all false
set_option linter.unusedVariables false
namespace Go.AM
noncomputable section
/-- laws.szIntS -/
def A35 : AFn := ⟨12, [.tmp 4],
 (.seq (.ops [⟨some 4, none, .mov (.const (.int .i64 0))⟩])
 (.seq (.ops [⟨some 5, none, .mov (.tmp 1)⟩, ⟨some 6, none, .mov (.tmp 0)⟩, ⟨some 7, none, .lenSl (.tmp 6)⟩, ⟨some 8, none, .bin .sub 3 (.tmp 5) (.tmp 7)⟩, ⟨some 1, none, .mov (.tmp 8)⟩])
 (.seq (.seq (.ops [⟨some 9, none, .mov (.tmp 1)⟩, ⟨some 10, none, .bin .lss 3 (.tmp 9) (.const (.int .i64 0))⟩])
 (.cond (.tmp 10) (.seq (.ops [⟨some 4, none, .mov (.const (.int .i64 (-1)))⟩])
 .ret) .skip))
 (.seq (.ops [⟨some 11, none, .mov (.tmp 1)⟩, ⟨some 4, none, .mov (.tmp 11)⟩])
 .ret))))⟩
theorem s35 : stripF Go.Proofs.Try.prog [] Go.Proofs.Try.f35 = some A35 := by kernel_rfl
theorem en35 : enters Go.Proofs.Try.prog 35 = true := by kernel_rfl
/-- laws.szNode -/
def A76 : AFn := ⟨19, [.tmp 4],
 (.seq (.ops [⟨some 2, none, .box false (.tmp 0)⟩, ⟨some 4, none, .mov (.const (.int .i64 0))⟩])
 (.seq (.ops [⟨some 5, none, .mov (.tmp 1)⟩, ⟨some 6, none, .fieldAddr (.tmp 2) 1⟩, ⟨some 7, none, .load (.tmp 6)⟩, ⟨some 8, none, .lenStr (.tmp 7)⟩, ⟨some 9, none, .bin .sub 3 (.tmp 5) (.tmp 8)⟩, ⟨some 1, none, .mov (.tmp 9)⟩])
 (.seq (.seq (.ops [⟨some 10, none, .mov (.tmp 1)⟩, ⟨some 11, none, .bin .lss 3 (.tmp 10) (.const (.int .i64 0))⟩])
 (.cond (.tmp 11) (.seq (.ops [⟨some 4, none, .mov (.const (.int .i64 (-1)))⟩])
 .ret) .skip))
 (.seq (.ops [⟨some 12, none, .fieldAddr (.tmp 2) 3⟩, ⟨some 13, none, .load (.tmp 12)⟩, ⟨some 14, none, .mov (.tmp 1)⟩, ⟨some 15, none, .call (.func 35) [.tmp 13, .tmp 14]⟩, ⟨some 1, none, .mov (.tmp 15)⟩])
 (.seq (.seq (.ops [⟨some 16, none, .mov (.tmp 1)⟩, ⟨some 17, none, .bin .lss 3 (.tmp 16) (.const (.int .i64 0))⟩])
 (.cond (.tmp 17) (.seq (.ops [⟨some 4, none, .mov (.const (.int .i64 (-1)))⟩])
 .ret) .skip))
 (.seq (.ops [⟨some 18, none, .mov (.tmp 1)⟩, ⟨some 4, none, .mov (.tmp 18)⟩])
 .ret))))))⟩
theorem s76 : stripF Go.Proofs.Try.prog [] Go.Proofs.Try.f76 = some A76 := by kernel_rfl
theorem en76 : enters Go.Proofs.Try.prog 76 = true := by kernel_rfl
/-- laws.szNodeS -/
def A34 : AFn := ⟨27, [.tmp 4],
 (.seq (.ops [⟨some 4, none, .mov (.const (.int .i64 0))⟩])
 (.seq (.ops [⟨some 6, none, .mov (.tmp 1)⟩, ⟨some 7, none, .mov (.tmp 0)⟩, ⟨some 8, none, .lenSl (.tmp 7)⟩, ⟨some 9, none, .bin .sub 3 (.tmp 6) (.tmp 8)⟩, ⟨some 1, none, .mov (.tmp 9)⟩])
 (.seq (.seq (.ops [⟨some 10, none, .mov (.tmp 1)⟩, ⟨some 11, none, .bin .lss 3 (.tmp 10) (.const (.int .i64 0))⟩])
 (.cond (.tmp 11) (.seq (.ops [⟨some 4, none, .mov (.const (.int .i64 (-1)))⟩])
 .ret) .skip))
 (.seq (.seq (.ops [⟨some 5, none, .mov (.const (.int .i64 0))⟩])
 (.block 0 (.loop (.seq (.seq (.ops [⟨some 12, none, .mov (.tmp 5)⟩, ⟨some 13, none, .mov (.tmp 0)⟩, ⟨some 14, none, .lenSl (.tmp 13)⟩, ⟨some 15, none, .bin .lss 3 (.tmp 12) (.tmp 14)⟩])
 (.cond (.tmp 15) .skip (.exit 0)))
 (.seq (.block 1 (.seq (.ops [⟨some 18, none, .mov (.tmp 0)⟩, ⟨some 19, none, .mov (.tmp 5)⟩, ⟨some 20, none, .idxSl (.tmp 18) (.tmp 19) 4⟩, ⟨some 21, none, .loadN (.tmp 20) 4⟩, ⟨some 22, none, .mov (.tmp 1)⟩, ⟨some 23, none, .call (.func 76) [.tmp 21, .tmp 22]⟩, ⟨some 1, none, .mov (.tmp 23)⟩])
 (.seq (.ops [⟨some 24, none, .mov (.tmp 1)⟩, ⟨some 25, none, .bin .lss 3 (.tmp 24) (.const (.int .i64 0))⟩])
 (.cond (.tmp 25) (.seq (.ops [⟨some 4, none, .mov (.const (.int .i64 (-1)))⟩])
 .ret) .skip))))
 (.ops [⟨some 16, none, .mov (.tmp 5)⟩, ⟨some 17, none, .bin .add 3 (.tmp 16) (.const (.int .i64 1))⟩, ⟨some 5, none, .mov (.tmp 17)⟩]))))))
 (.seq (.ops [⟨some 26, none, .mov (.tmp 1)⟩, ⟨some 4, none, .mov (.tmp 26)⟩])
 .ret)))))⟩
theorem s34 : stripF Go.Proofs.Try.prog [] Go.Proofs.Try.f34 = some A34 := by kernel_rfl
theorem en34 : enters Go.Proofs.Try.prog 34 = true := by kernel_rfl
def E34_0 (x0 x1 x5 : Value) (g : Nat → Value) : List Value := [x0, x1, g 2, g 3, g 4, x5, g 6, g 7, g 8, g 9, g 10, g 11, g 12, g 13, g 14, g 15, g 16, g 17, g 18, g 19, g 20, g 21, g 22, g 23, g 24, g 25, g 26]
/-- laws.szTree -/
def A11 : AFn := ⟨18, [.tmp 4],
 (.seq (.ops [⟨some 2, none, .box false (.tmp 0)⟩, ⟨some 4, none, .mov (.const (.int .i64 0))⟩])
 (.seq (.ops [⟨some 5, none, .fieldAddr (.tmp 2) 0⟩, ⟨some 6, none, .load (.tmp 5)⟩, ⟨some 7, none, .mov (.tmp 1)⟩, ⟨some 8, none, .call (.func 34) [.tmp 6, .tmp 7]⟩, ⟨some 1, none, .mov (.tmp 8)⟩])
 (.seq (.seq (.ops [⟨some 9, none, .mov (.tmp 1)⟩, ⟨some 10, none, .bin .lss 3 (.tmp 9) (.const (.int .i64 0))⟩])
 (.cond (.tmp 10) (.seq (.ops [⟨some 4, none, .mov (.const (.int .i64 (-1)))⟩])
 .ret) .skip))
 (.seq (.ops [⟨some 11, none, .fieldAddr (.tmp 2) 1⟩, ⟨some 12, none, .load (.tmp 11)⟩, ⟨some 13, none, .mov (.tmp 1)⟩, ⟨some 14, none, .call (.func 35) [.tmp 12, .tmp 13]⟩, ⟨some 1, none, .mov (.tmp 14)⟩])
 (.seq (.seq (.ops [⟨some 15, none, .mov (.tmp 1)⟩, ⟨some 16, none, .bin .lss 3 (.tmp 15) (.const (.int .i64 0))⟩])
 (.cond (.tmp 16) (.seq (.ops [⟨some 4, none, .mov (.const (.int .i64 (-1)))⟩])
 .ret) .skip))
 (.seq (.ops [⟨some 17, none, .mov (.tmp 1)⟩, ⟨some 4, none, .mov (.tmp 17)⟩])
 .ret))))))⟩
theorem s11 : stripF Go.Proofs.Try.prog [] Go.Proofs.Try.f11 = some A11 := by kernel_rfl
theorem en11 : enters Go.Proofs.Try.prog 11 = true := by kernel_rfl
/-- spec.l1In -/
def A60 : AFn := ⟨15, [.tmp 6],
 (.seq (.ops [⟨some 6, none, .mov (.const (.bool false))⟩])
 (.seq (.ops [⟨some 7, none, .mov (.tmp 0)⟩, ⟨some 8, none, .mov (.tmp 1)⟩, ⟨some 9, none, .bin .geq 3 (.tmp 7) (.tmp 8)⟩, ⟨some 10, none, .mov (.tmp 9)⟩, ⟨some 11, some (10, true), .mov (.tmp 0)⟩, ⟨some 12, some (10, true), .mov (.tmp 2)⟩, ⟨some 13, some (10, true), .bin .leq 3 (.tmp 11) (.tmp 12)⟩, ⟨some 14, none, .pick (.tmp 10) (.tmp 13) (.const (.bool false))⟩, ⟨some 6, none, .mov (.tmp 14)⟩])
 .ret))⟩
theorem s60 : stripF Go.Proofs.Try.prog [] Go.Proofs.Try.f60 = some A60 := by kernel_rfl
theorem en60 : enters Go.Proofs.Try.prog 60 = true := by kernel_rfl
/-- spec.l8Class -/
def A115 : AFn := ⟨42, [.tmp 2],
 (.seq (.ops [⟨some 2, none, .mov (.const (.int .i64 0))⟩])
 (.seq (.block 0 (.seq (.ops [⟨some 4, none, .mov (.tmp 0)⟩, ⟨some 5, none, .bin .geq 3 (.tmp 4) (.const (.int .i64 1))⟩, ⟨some 6, none, .mov (.tmp 5)⟩, ⟨some 7, some (6, true), .mov (.tmp 0)⟩, ⟨some 8, some (6, true), .bin .leq 3 (.tmp 7) (.const (.int .i64 11))⟩, ⟨some 9, none, .pick (.tmp 6) (.tmp 8) (.const (.bool false))⟩, ⟨some 3, none, .mov (.tmp 9)⟩])
 (.cond (.tmp 3) (.seq (.ops [⟨some 2, none, .mov (.const (.int .i64 1))⟩])
 .ret) (.seq (.ops [⟨some 11, none, .mov (.tmp 0)⟩, ⟨some 12, none, .bin .geq 3 (.tmp 11) (.const (.int .i64 12))⟩, ⟨some 13, none, .mov (.tmp 12)⟩, ⟨some 14, some (13, true), .mov (.tmp 0)⟩, ⟨some 15, some (13, true), .bin .leq 3 (.tmp 14) (.const (.int .i64 26))⟩, ⟨some 16, none, .pick (.tmp 13) (.tmp 15) (.const (.bool false))⟩, ⟨some 10, none, .mov (.tmp 16)⟩])
 (.cond (.tmp 10) (.seq (.ops [⟨some 2, none, .mov (.const (.int .i64 2))⟩])
 .ret) (.seq (.ops [⟨some 18, none, .mov (.tmp 0)⟩, ⟨some 19, none, .bin .eql 3 (.tmp 18) (.const (.int .i64 27))⟩, ⟨some 17, none, .mov (.tmp 19)⟩])
 (.cond (.tmp 17) (.seq (.ops [⟨some 2, none, .mov (.const (.int .i64 3))⟩])
 .ret) (.seq (.ops [⟨some 21, none, .mov (.tmp 0)⟩, ⟨some 22, none, .bin .eql 3 (.tmp 21) (.const (.int .i64 29))⟩, ⟨some 20, none, .mov (.tmp 22)⟩])
 (.cond (.tmp 20) (.seq (.ops [⟨some 2, none, .mov (.const (.int .i64 4))⟩])
 .ret) (.seq (.ops [⟨some 24, none, .mov (.tmp 0)⟩, ⟨some 25, none, .bin .eql 3 (.tmp 24) (.const (.int .i64 30))⟩, ⟨some 23, none, .mov (.tmp 25)⟩])
 (.cond (.tmp 23) (.seq (.ops [⟨some 2, none, .mov (.const (.int .i64 5))⟩])
 .ret) (.seq (.ops [⟨some 27, none, .mov (.tmp 0)⟩, ⟨some 28, none, .bin .eql 3 (.tmp 27) (.const (.int .i64 31))⟩, ⟨some 26, none, .mov (.tmp 28)⟩])
 (.cond (.tmp 26) (.seq (.ops [⟨some 2, none, .mov (.const (.int .i64 6))⟩])
 .ret) (.seq (.ops [⟨some 30, none, .mov (.tmp 0)⟩, ⟨some 31, none, .bin .eql 3 (.tmp 30) (.const (.int .i64 32))⟩, ⟨some 29, none, .mov (.tmp 31)⟩])
 (.cond (.tmp 29) (.seq (.ops [⟨some 2, none, .mov (.const (.int .i64 7))⟩])
 .ret) (.seq (.ops [⟨some 33, none, .mov (.tmp 0)⟩, ⟨some 34, none, .bin .eql 3 (.tmp 33) (.const (.int .i64 28))⟩, ⟨some 32, none, .mov (.tmp 34)⟩])
 (.cond (.tmp 32) (.seq (.ops [⟨some 2, none, .mov (.const (.int .i64 8))⟩])
 .ret) (.seq (.ops [⟨some 36, none, .mov (.tmp 0)⟩, ⟨some 37, none, .bin .eql 3 (.tmp 36) (.const (.int .i64 33))⟩, ⟨some 38, none, .mov (.tmp 37)⟩, ⟨some 39, some (38, false), .mov (.tmp 0)⟩, ⟨some 40, some (38, false), .bin .eql 3 (.tmp 39) (.const (.int .i64 34))⟩, ⟨some 41, none, .pick (.tmp 38) (.const (.bool true)) (.tmp 40)⟩, ⟨some 35, none, .mov (.tmp 41)⟩])
 (.cond (.tmp 35) (.seq (.ops [⟨some 2, none, .mov (.const (.int .i64 9))⟩])
 .ret) .skip)))))))))))))))))))
 (.seq (.ops [⟨some 2, none, .mov (.const (.int .i64 0))⟩])
 .ret)))⟩
theorem s115 : stripF Go.Proofs.Try.prog [] Go.Proofs.Try.f115 = some A115 := by kernel_rfl
theorem en115 : enters Go.Proofs.Try.prog 115 = true := by kernel_rfl
/-- spec.l8Shape -/
def A116 : AFn := ⟨118, [.tmp 2, .tmp 3],
 (.seq (.ops [⟨some 1, none, .box false (.tmp 0)⟩, ⟨some 2, none, .mov (.const (.slice none 0 0))⟩, ⟨some 3, none, .mov (.const (.bool false))⟩])
 (.seq (.ops [⟨some 8, none, .fieldAddr (.tmp 1) 3⟩, ⟨some 9, none, .load (.tmp 8)⟩, ⟨some 10, none, .lenSl (.tmp 9)⟩, ⟨some 4, none, .mov (.tmp 10)⟩])
 (.seq (.ops [⟨some 11, none, .mkSlice 1 0 [] []⟩, ⟨some 5, none, .mov (.tmp 11)⟩])
 (.seq (.ops [⟨some 6, none, .mov (.const (.int .i64 0))⟩])
 (.seq (.seq (.ops [⟨some 12, none, .fieldAddr (.tmp 1) 0⟩, ⟨some 13, none, .load (.tmp 12)⟩])
 (.block 0 (.seq (.seq (.ops [⟨some 15, none, .bin .eql 3 (.tmp 13) (.const (.int .i64 1))⟩, ⟨some 14, none, .mov (.tmp 15)⟩])
 (.cond (.tmp 14) .skip (.seq (.ops [⟨some 16, none, .bin .eql 3 (.tmp 13) (.const (.int .i64 2))⟩, ⟨some 14, none, .mov (.tmp 16)⟩])
 (.cond (.tmp 14) .skip (.seq (.ops [⟨some 17, none, .bin .eql 3 (.tmp 13) (.const (.int .i64 3))⟩, ⟨some 14, none, .mov (.tmp 17)⟩])
 (.cond (.tmp 14) .skip (.seq (.ops [⟨some 18, none, .bin .eql 3 (.tmp 13) (.const (.int .i64 4))⟩, ⟨some 14, none, .mov (.tmp 18)⟩])
 (.cond (.tmp 14) .skip (.seq (.ops [⟨some 19, none, .bin .eql 3 (.tmp 13) (.const (.int .i64 5))⟩, ⟨some 14, none, .mov (.tmp 19)⟩])
 (.cond (.tmp 14) .skip (.seq (.ops [⟨some 20, none, .bin .eql 3 (.tmp 13) (.const (.int .i64 6))⟩, ⟨some 14, none, .mov (.tmp 20)⟩])
 (.cond (.tmp 14) .skip (.seq (.ops [⟨some 21, none, .bin .eql 3 (.tmp 13) (.const (.int .i64 22))⟩, ⟨some 14, none, .mov (.tmp 21)⟩])
 (.cond (.tmp 14) .skip (.seq (.ops [⟨some 22, none, .bin .eql 3 (.tmp 13) (.const (.int .i64 24))⟩, ⟨some 14, none, .mov (.tmp 22)⟩])
 (.cond (.tmp 14) .skip (.seq (.ops [⟨some 23, none, .bin .eql 3 (.tmp 13) (.const (.int .i64 31))⟩, ⟨some 14, none, .mov (.tmp 23)⟩])
 (.cond (.tmp 14) .skip (.ops [⟨some 24, none, .bin .eql 3 (.tmp 13) (.const (.int .i64 32))⟩, ⟨some 14, none, .mov (.tmp 24)⟩])))))))))))))))))))
 (.cond (.tmp 14) .skip (.seq (.ops [⟨some 26, none, .bin .eql 3 (.tmp 13) (.const (.int .i64 7))⟩, ⟨some 25, none, .mov (.tmp 26)⟩])
 (.cond (.tmp 25) (.ops [⟨some 6, none, .mov (.const (.int .i64 1))⟩]) (.seq (.seq (.ops [⟨some 28, none, .bin .eql 3 (.tmp 13) (.const (.int .i64 8))⟩, ⟨some 27, none, .mov (.tmp 28)⟩])
 (.cond (.tmp 27) .skip (.ops [⟨some 29, none, .bin .eql 3 (.tmp 13) (.const (.int .i64 10))⟩, ⟨some 27, none, .mov (.tmp 29)⟩])))
 (.cond (.tmp 27) (.ops [⟨some 30, none, .mkSlice 1 2 [.int .i64 0] [(0, 1, .const (.int .i64 1)), (1, 1, .const (.int .i64 1))]⟩, ⟨some 5, none, .mov (.tmp 30)⟩]) (.seq (.seq (.ops [⟨some 32, none, .bin .eql 3 (.tmp 13) (.const (.int .i64 9))⟩, ⟨some 31, none, .mov (.tmp 32)⟩])
 (.cond (.tmp 31) .skip (.seq (.ops [⟨some 33, none, .bin .eql 3 (.tmp 13) (.const (.int .i64 12))⟩, ⟨some 31, none, .mov (.tmp 33)⟩])
 (.cond (.tmp 31) .skip (.seq (.ops [⟨some 34, none, .bin .eql 3 (.tmp 13) (.const (.int .i64 13))⟩, ⟨some 31, none, .mov (.tmp 34)⟩])
 (.cond (.tmp 31) .skip (.seq (.ops [⟨some 35, none, .bin .eql 3 (.tmp 13) (.const (.int .i64 14))⟩, ⟨some 31, none, .mov (.tmp 35)⟩])
 (.cond (.tmp 31) .skip (.seq (.ops [⟨some 36, none, .bin .eql 3 (.tmp 13) (.const (.int .i64 15))⟩, ⟨some 31, none, .mov (.tmp 36)⟩])
 (.cond (.tmp 31) .skip (.seq (.ops [⟨some 37, none, .bin .eql 3 (.tmp 13) (.const (.int .i64 19))⟩, ⟨some 31, none, .mov (.tmp 37)⟩])
 (.cond (.tmp 31) .skip (.seq (.ops [⟨some 38, none, .bin .eql 3 (.tmp 13) (.const (.int .i64 23))⟩, ⟨some 31, none, .mov (.tmp 38)⟩])
 (.cond (.tmp 31) .skip (.seq (.ops [⟨some 39, none, .bin .eql 3 (.tmp 13) (.const (.int .i64 26))⟩, ⟨some 31, none, .mov (.tmp 39)⟩])
 (.cond (.tmp 31) .skip (.ops [⟨some 40, none, .bin .eql 3 (.tmp 13) (.const (.int .i64 28))⟩, ⟨some 31, none, .mov (.tmp 40)⟩])))))))))))))))))
 (.cond (.tmp 31) (.ops [⟨some 41, none, .mkSlice 1 1 [.int .i64 0] [(0, 1, .const (.int .i64 1))]⟩, ⟨some 5, none, .mov (.tmp 41)⟩]) (.seq (.ops [⟨some 43, none, .bin .eql 3 (.tmp 13) (.const (.int .i64 11))⟩, ⟨some 42, none, .mov (.tmp 43)⟩])
 (.cond (.tmp 42) (.seq (.ops [⟨some 44, none, .mkSlice 1 2 [.int .i64 0] [(0, 1, .const (.int .i64 1)), (1, 1, .const (.int .i64 6))]⟩, ⟨some 5, none, .mov (.tmp 44)⟩])
 (.block 1 (.loop (.seq (.seq (.ops [⟨some 45, none, .mov (.tmp 5)⟩, ⟨some 46, none, .lenSl (.tmp 45)⟩, ⟨some 47, none, .mov (.tmp 4)⟩, ⟨some 48, none, .bin .lss 3 (.tmp 46) (.tmp 47)⟩])
 (.cond (.tmp 48) .skip (.exit 1)))
 (.block 2 (.ops [⟨some 49, none, .mov (.tmp 5)⟩, ⟨some 50, none, .mkSlice 1 1 [.int .i64 0] [(0, 1, .const (.int .i64 6))]⟩, ⟨some 51, none, .append 1 8 (.tmp 49) (.tmp 50)⟩, ⟨some 5, none, .mov (.tmp 51)⟩])))))) (.seq (.ops [⟨some 53, none, .bin .eql 3 (.tmp 13) (.const (.int .i64 16))⟩, ⟨some 52, none, .mov (.tmp 53)⟩])
 (.cond (.tmp 52) (.seq (.ops [⟨some 54, none, .mkSlice 1 2 [.int .i64 0] [(0, 1, .const (.int .i64 1)), (1, 1, .const (.int .i64 3))]⟩, ⟨some 5, none, .mov (.tmp 54)⟩])
 (.seq (.ops [⟨some 55, none, .mov (.tmp 4)⟩, ⟨some 56, none, .bin .eql 3 (.tmp 55) (.const (.int .i64 3))⟩])
 (.cond (.tmp 56) (.ops [⟨some 57, none, .mkSlice 1 3 [.int .i64 0] [(0, 1, .const (.int .i64 1)), (1, 1, .const (.int .i64 3)), (2, 1, .const (.int .i64 3))]⟩, ⟨some 5, none, .mov (.tmp 57)⟩]) .skip))) (.seq (.ops [⟨some 59, none, .bin .eql 3 (.tmp 13) (.const (.int .i64 17))⟩, ⟨some 58, none, .mov (.tmp 59)⟩])
 (.cond (.tmp 58) (.ops [⟨some 60, none, .mkSlice 1 2 [.int .i64 0] [(0, 1, .const (.int .i64 1)), (1, 1, .const (.int .i64 3))]⟩, ⟨some 5, none, .mov (.tmp 60)⟩]) (.seq (.ops [⟨some 62, none, .bin .eql 3 (.tmp 13) (.const (.int .i64 18))⟩, ⟨some 61, none, .mov (.tmp 62)⟩])
 (.cond (.tmp 61) (.ops [⟨some 63, none, .mkSlice 1 3 [.int .i64 0] [(0, 1, .const (.int .i64 4)), (1, 1, .const (.int .i64 5)), (2, 1, .const (.int .i64 3))]⟩, ⟨some 5, none, .mov (.tmp 63)⟩]) (.seq (.ops [⟨some 65, none, .bin .eql 3 (.tmp 13) (.const (.int .i64 20))⟩, ⟨some 64, none, .mov (.tmp 65)⟩])
 (.cond (.tmp 64) (.ops [⟨some 66, none, .mkSlice 1 2 [.int .i64 0] [(0, 1, .const (.int .i64 6)), (1, 1, .const (.int .i64 3))]⟩, ⟨some 5, none, .mov (.tmp 66)⟩]) (.seq (.ops [⟨some 68, none, .bin .eql 3 (.tmp 13) (.const (.int .i64 21))⟩, ⟨some 67, none, .mov (.tmp 68)⟩])
 (.cond (.tmp 67) (.ops [⟨some 6, none, .mov (.const (.int .i64 8))⟩]) (.seq (.ops [⟨some 70, none, .bin .eql 3 (.tmp 13) (.const (.int .i64 25))⟩, ⟨some 69, none, .mov (.tmp 70)⟩])
 (.cond (.tmp 69) (.ops [⟨some 71, none, .mkSlice 1 1 [.int .i64 0] [(0, 1, .const (.int .i64 10))]⟩, ⟨some 5, none, .mov (.tmp 71)⟩]) (.seq (.ops [⟨some 73, none, .bin .eql 3 (.tmp 13) (.const (.int .i64 27))⟩, ⟨some 72, none, .mov (.tmp 73)⟩])
 (.cond (.tmp 72) (.ops [⟨some 6, none, .mov (.const (.int .i64 2))⟩]) (.seq (.ops [⟨some 75, none, .bin .eql 3 (.tmp 13) (.const (.int .i64 29))⟩, ⟨some 74, none, .mov (.tmp 75)⟩])
 (.cond (.tmp 74) (.seq (.ops [⟨some 76, none, .mkSlice 1 1 [.int .i64 0] [(0, 1, .const (.int .i64 6))]⟩, ⟨some 5, none, .mov (.tmp 76)⟩])
 (.block 3 (.loop (.seq (.seq (.ops [⟨some 77, none, .mov (.tmp 5)⟩, ⟨some 78, none, .lenSl (.tmp 77)⟩, ⟨some 79, none, .mov (.tmp 4)⟩, ⟨some 80, none, .bin .lss 3 (.tmp 78) (.tmp 79)⟩])
 (.cond (.tmp 80) .skip (.exit 3)))
 (.block 4 (.ops [⟨some 81, none, .mov (.tmp 5)⟩, ⟨some 82, none, .mkSlice 1 1 [.int .i64 0] [(0, 1, .const (.int .i64 6))]⟩, ⟨some 83, none, .append 1 8 (.tmp 81) (.tmp 82)⟩, ⟨some 5, none, .mov (.tmp 83)⟩])))))) (.seq (.ops [⟨some 85, none, .bin .eql 3 (.tmp 13) (.const (.int .i64 30))⟩, ⟨some 84, none, .mov (.tmp 85)⟩])
 (.cond (.tmp 84) (.ops [⟨some 6, none, .mov (.const (.int .i64 6))⟩]) (.seq (.ops [⟨some 87, none, .bin .eql 3 (.tmp 13) (.const (.int .i64 33))⟩, ⟨some 86, none, .mov (.tmp 87)⟩])
 (.cond (.tmp 86) (.seq (.block 5 (.loop (.seq (.seq (.ops [⟨some 88, none, .mov (.tmp 5)⟩, ⟨some 89, none, .lenSl (.tmp 88)⟩, ⟨some 90, none, .bin .add 3 (.tmp 89) (.const (.int .i64 1))⟩, ⟨some 91, none, .mov (.tmp 4)⟩, ⟨some 92, none, .bin .lss 3 (.tmp 90) (.tmp 91)⟩])
 (.cond (.tmp 92) .skip (.exit 5)))
 (.block 6 (.ops [⟨some 93, none, .mov (.tmp 5)⟩, ⟨some 94, none, .mkSlice 1 1 [.int .i64 0] [(0, 1, .const (.int .i64 7))]⟩, ⟨some 95, none, .append 1 8 (.tmp 93) (.tmp 94)⟩, ⟨some 5, none, .mov (.tmp 95)⟩])))))
 (.ops [⟨some 96, none, .mov (.tmp 5)⟩, ⟨some 97, none, .mkSlice 1 1 [.int .i64 0] [(0, 1, .const (.int .i64 3))]⟩, ⟨some 98, none, .append 1 8 (.tmp 96) (.tmp 97)⟩, ⟨some 5, none, .mov (.tmp 98)⟩])) (.seq (.ops [⟨some 100, none, .bin .eql 3 (.tmp 13) (.const (.int .i64 34))⟩, ⟨some 99, none, .mov (.tmp 100)⟩])
 (.cond (.tmp 99) (.ops [⟨some 101, none, .mkSlice 1 1 [.int .i64 0] [(0, 1, .const (.int .i64 3))]⟩, ⟨some 5, none, .mov (.tmp 101)⟩]) .skip))))))))))))))))))))))))))))))))))
 (.seq (.seq (.ops [⟨some 102, none, .mov (.tmp 6)⟩, ⟨some 103, none, .bin .neq 3 (.tmp 102) (.const (.int .i64 0))⟩])
 (.cond (.tmp 103) (.seq (.ops [⟨some 7, none, .mov (.const (.int .i64 0))⟩])
 (.block 7 (.loop (.seq (.seq (.ops [⟨some 104, none, .mov (.tmp 7)⟩, ⟨some 105, none, .mov (.tmp 4)⟩, ⟨some 106, none, .bin .lss 3 (.tmp 104) (.tmp 105)⟩])
 (.cond (.tmp 106) .skip (.exit 7)))
 (.seq (.block 8 (.ops [⟨some 109, none, .mov (.tmp 5)⟩, ⟨some 110, none, .mov (.tmp 6)⟩, ⟨some 111, none, .mkSlice 1 1 [.int .i64 0] [(0, 1, .tmp 110)]⟩, ⟨some 112, none, .append 1 8 (.tmp 109) (.tmp 111)⟩, ⟨some 5, none, .mov (.tmp 112)⟩]))
 (.ops [⟨some 107, none, .mov (.tmp 7)⟩, ⟨some 108, none, .bin .add 3 (.tmp 107) (.const (.int .i64 1))⟩, ⟨some 7, none, .mov (.tmp 108)⟩])))))) .skip))
 (.seq (.ops [⟨some 113, none, .mov (.tmp 5)⟩, ⟨some 114, none, .mov (.tmp 5)⟩, ⟨some 115, none, .lenSl (.tmp 114)⟩, ⟨some 116, none, .mov (.tmp 4)⟩, ⟨some 117, none, .bin .eql 3 (.tmp 115) (.tmp 116)⟩, ⟨some 2, none, .mov (.tmp 113)⟩, ⟨some 3, none, .mov (.tmp 117)⟩])
 .ret)))))))⟩
theorem s116 : stripF Go.Proofs.Try.prog [] Go.Proofs.Try.f116 = some A116 := by kernel_rfl
theorem en116 : enters Go.Proofs.Try.prog 116 = true := by kernel_rfl
def E116_0 (x4 x5 x6 : Value) (g : Nat → Value) : List Value := [g 0, g 1, g 2, g 3, x4, x5, x6, g 7, g 8, g 9, g 10, g 11, g 12, g 13, g 14, g 15, g 16, g 17, g 18, g 19, g 20, g 21, g 22, g 23, g 24, g 25, g 26, g 27, g 28, g 29, g 30, g 31, g 32, g 33, g 34, g 35, g 36, g 37, g 38, g 39, g 40, g 41, g 42, g 43, g 44, g 45, g 46, g 47, g 48, g 49, g 50, g 51, g 52, g 53, g 54, g 55, g 56, g 57, g 58, g 59, g 60, g 61, g 62, g 63, g 64, g 65, g 66, g 67, g 68, g 69, g 70, g 71, g 72, g 73, g 74, g 75, g 76, g 77, g 78, g 79, g 80, g 81, g 82, g 83, g 84, g 85, g 86, g 87, g 88, g 89, g 90, g 91, g 92, g 93, g 94, g 95, g 96, g 97, g 98, g 99, g 100, g 101, g 102, g 103, g 104, g 105, g 106, g 107, g 108, g 109, g 110, g 111, g 112, g 113, g 114, g 115, g 116, g 117]
def E116_1 (x4 x5 x6 : Value) (g : Nat → Value) : List Value := [g 0, g 1, g 2, g 3, x4, x5, x6, g 7, g 8, g 9, g 10, g 11, g 12, g 13, g 14, g 15, g 16, g 17, g 18, g 19, g 20, g 21, g 22, g 23, g 24, g 25, g 26, g 27, g 28, g 29, g 30, g 31, g 32, g 33, g 34, g 35, g 36, g 37, g 38, g 39, g 40, g 41, g 42, g 43, g 44, g 45, g 46, g 47, g 48, g 49, g 50, g 51, g 52, g 53, g 54, g 55, g 56, g 57, g 58, g 59, g 60, g 61, g 62, g 63, g 64, g 65, g 66, g 67, g 68, g 69, g 70, g 71, g 72, g 73, g 74, g 75, g 76, g 77, g 78, g 79, g 80, g 81, g 82, g 83, g 84, g 85, g 86, g 87, g 88, g 89, g 90, g 91, g 92, g 93, g 94, g 95, g 96, g 97, g 98, g 99, g 100, g 101, g 102, g 103, g 104, g 105, g 106, g 107, g 108, g 109, g 110, g 111, g 112, g 113, g 114, g 115, g 116, g 117]
def E116_2 (x4 x5 x6 : Value) (g : Nat → Value) : List Value := [g 0, g 1, g 2, g 3, x4, x5, x6, g 7, g 8, g 9, g 10, g 11, g 12, g 13, g 14, g 15, g 16, g 17, g 18, g 19, g 20, g 21, g 22, g 23, g 24, g 25, g 26, g 27, g 28, g 29, g 30, g 31, g 32, g 33, g 34, g 35, g 36, g 37, g 38, g 39, g 40, g 41, g 42, g 43, g 44, g 45, g 46, g 47, g 48, g 49, g 50, g 51, g 52, g 53, g 54, g 55, g 56, g 57, g 58, g 59, g 60, g 61, g 62, g 63, g 64, g 65, g 66, g 67, g 68, g 69, g 70, g 71, g 72, g 73, g 74, g 75, g 76, g 77, g 78, g 79, g 80, g 81, g 82, g 83, g 84, g 85, g 86, g 87, g 88, g 89, g 90, g 91, g 92, g 93, g 94, g 95, g 96, g 97, g 98, g 99, g 100, g 101, g 102, g 103, g 104, g 105, g 106, g 107, g 108, g 109, g 110, g 111, g 112, g 113, g 114, g 115, g 116, g 117]
def E116_3 (x4 x5 x6 x7 : Value) (g : Nat → Value) : List Value := [g 0, g 1, g 2, g 3, x4, x5, x6, x7, g 8, g 9, g 10, g 11, g 12, g 13, g 14, g 15, g 16, g 17, g 18, g 19, g 20, g 21, g 22, g 23, g 24, g 25, g 26, g 27, g 28, g 29, g 30, g 31, g 32, g 33, g 34, g 35, g 36, g 37, g 38, g 39, g 40, g 41, g 42, g 43, g 44, g 45, g 46, g 47, g 48, g 49, g 50, g 51, g 52, g 53, g 54, g 55, g 56, g 57, g 58, g 59, g 60, g 61, g 62, g 63, g 64, g 65, g 66, g 67, g 68, g 69, g 70, g 71, g 72, g 73, g 74, g 75, g 76, g 77, g 78, g 79, g 80, g 81, g 82, g 83, g 84, g 85, g 86, g 87, g 88, g 89, g 90, g 91, g 92, g 93, g 94, g 95, g 96, g 97, g 98, g 99, g 100, g 101, g 102, g 103, g 104, g 105, g 106, g 107, g 108, g 109, g 110, g 111, g 112, g 113, g 114, g 115, g 116, g 117]
/-- spec.l7Digit -/
def A94 : AFn := ⟨9, [.tmp 2],
 (.seq (.ops [⟨some 2, none, .mov (.const (.bool false))⟩])
 (.seq (.ops [⟨some 3, none, .mov (.tmp 0)⟩, ⟨some 4, none, .bin .geq 5 (.tmp 3) (.const (.int .u8 48))⟩, ⟨some 5, none, .mov (.tmp 4)⟩, ⟨some 6, some (5, true), .mov (.tmp 0)⟩, ⟨some 7, some (5, true), .bin .leq 5 (.tmp 6) (.const (.int .u8 57))⟩, ⟨some 8, none, .pick (.tmp 5) (.tmp 7) (.const (.bool false))⟩, ⟨some 2, none, .mov (.tmp 8)⟩])
 .ret))⟩
theorem s94 : stripF Go.Proofs.Try.prog [] Go.Proofs.Try.f94 = some A94 := by kernel_rfl
theorem en94 : enters Go.Proofs.Try.prog 94 = true := by kernel_rfl
/-- spec.l7Run -/
def A95 : AFn := ⟨18, [.tmp 4],
 (.seq (.ops [⟨some 4, none, .mov (.const (.int .i64 0))⟩])
 (.seq (.block 0 (.loop (.seq (.seq (.ops [⟨some 5, none, .mov (.tmp 1)⟩, ⟨some 6, none, .mov (.tmp 0)⟩, ⟨some 7, none, .lenStr (.tmp 6)⟩, ⟨some 8, none, .bin .lss 3 (.tmp 5) (.tmp 7)⟩, ⟨some 9, none, .mov (.tmp 8)⟩, ⟨some 10, some (9, true), .mov (.tmp 0)⟩, ⟨some 11, some (9, true), .mov (.tmp 1)⟩, ⟨some 12, some (9, true), .idxStr (.tmp 10) (.tmp 11)⟩, ⟨some 13, some (9, true), .call (.func 94) [.tmp 12]⟩, ⟨some 14, none, .pick (.tmp 9) (.tmp 13) (.const (.bool false))⟩])
 (.cond (.tmp 14) .skip (.exit 0)))
 (.block 1 (.ops [⟨some 15, none, .mov (.tmp 1)⟩, ⟨some 16, none, .bin .add 3 (.tmp 15) (.const (.int .i64 1))⟩, ⟨some 1, none, .mov (.tmp 16)⟩])))))
 (.seq (.ops [⟨some 17, none, .mov (.tmp 1)⟩, ⟨some 4, none, .mov (.tmp 17)⟩])
 .ret)))⟩
theorem s95 : stripF Go.Proofs.Try.prog [] Go.Proofs.Try.f95 = some A95 := by kernel_rfl
theorem en95 : enters Go.Proofs.Try.prog 95 = true := by kernel_rfl
def E95_0 (x0 x1 : Value) (g : Nat → Value) : List Value := [x0, x1, g 2, g 3, g 4, g 5, g 6, g 7, g 8, g 9, g 10, g 11, g 12, g 13, g 14, g 15, g 16, g 17]
/-- spec.l7Number -/
def A97 : AFn := ⟨20, [.tmp 2],
 (.seq (.ops [⟨some 2, none, .mov (.const (.int .i64 0))⟩])
 (.seq (.ops [⟨some 3, none, .mov (.const (.int .i64 0))⟩])
 (.seq (.seq (.ops [⟨some 4, none, .mov (.const (.int .i64 0))⟩])
 (.block 0 (.loop (.seq (.seq (.ops [⟨some 5, none, .mov (.tmp 4)⟩, ⟨some 6, none, .mov (.tmp 0)⟩, ⟨some 7, none, .lenStr (.tmp 6)⟩, ⟨some 8, none, .bin .lss 3 (.tmp 5) (.tmp 7)⟩])
 (.cond (.tmp 8) .skip (.exit 0)))
 (.seq (.block 1 (.ops [⟨some 11, none, .mov (.tmp 3)⟩, ⟨some 12, none, .bin .mul 3 (.tmp 11) (.const (.int .i64 10))⟩, ⟨some 13, none, .mov (.tmp 0)⟩, ⟨some 14, none, .mov (.tmp 4)⟩, ⟨some 15, none, .idxStr (.tmp 13) (.tmp 14)⟩, ⟨some 16, none, .bin .sub 5 (.tmp 15) (.const (.int .u8 48))⟩, ⟨some 17, none, .convI .i64 (.tmp 16)⟩, ⟨some 18, none, .bin .add 3 (.tmp 12) (.tmp 17)⟩, ⟨some 3, none, .mov (.tmp 18)⟩]))
 (.ops [⟨some 9, none, .mov (.tmp 4)⟩, ⟨some 10, none, .bin .add 3 (.tmp 9) (.const (.int .i64 1))⟩, ⟨some 4, none, .mov (.tmp 10)⟩]))))))
 (.seq (.ops [⟨some 19, none, .mov (.tmp 3)⟩, ⟨some 2, none, .mov (.tmp 19)⟩])
 .ret))))⟩
theorem s97 : stripF Go.Proofs.Try.prog [] Go.Proofs.Try.f97 = some A97 := by kernel_rfl
theorem en97 : enters Go.Proofs.Try.prog 97 = true := by kernel_rfl
def E97_0 (x0 x3 x4 : Value) (g : Nat → Value) : List Value := [x0, g 1, g 2, x3, x4, g 5, g 6, g 7, g 8, g 9, g 10, g 11, g 12, g 13, g 14, g 15, g 16, g 17, g 18, g 19]
/-- spec.RealOf -/
def A96 : AFn := ⟨75, [.tmp 2, .tmp 3],
 (.seq (.ops [⟨some 2, none, .mov (.const (.float .f64 0))⟩, ⟨some 3, none, .mov (.const (.bool false))⟩])
 (.seq (.ops [⟨some 9, none, .mov (.tmp 0)⟩, ⟨some 10, none, .call (.func 95) [.tmp 9, .const (.int .i64 0)]⟩, ⟨some 4, none, .mov (.tmp 10)⟩])
 (.seq (.seq (.ops [⟨some 11, none, .mov (.tmp 4)⟩, ⟨some 12, none, .call (.func 60) [.tmp 11, .const (.int .i64 1), .const (.int .i64 9)]⟩, ⟨some 13, none, .un .not (.tmp 12)⟩, ⟨some 14, none, .mov (.tmp 13)⟩, ⟨some 15, some (14, false), .mov (.tmp 4)⟩, ⟨some 16, some (14, false), .bin .gtr 3 (.tmp 15) (.const (.int .i64 1))⟩, ⟨some 17, some (14, false), .mov (.tmp 16)⟩, ⟨some 18, some (17, true), .mov (.tmp 0)⟩, ⟨some 19, some (17, true), .idxStr (.tmp 18) (.const (.int .i64 0))⟩, ⟨some 20, some (17, true), .bin .eql 5 (.tmp 19) (.const (.int .u8 48))⟩, ⟨some 21, some (14, false), .pick (.tmp 17) (.tmp 20) (.const (.bool false))⟩, ⟨some 22, none, .pick (.tmp 14) (.const (.bool true)) (.tmp 21)⟩, ⟨some 23, none, .mov (.tmp 22)⟩, ⟨some 24, some (23, false), .mov (.tmp 4)⟩, ⟨some 25, some (23, false), .mov (.tmp 0)⟩, ⟨some 26, some (23, false), .lenStr (.tmp 25)⟩, ⟨some 27, some (23, false), .bin .geq 3 (.tmp 24) (.tmp 26)⟩, ⟨some 28, none, .pick (.tmp 23) (.const (.bool true)) (.tmp 27)⟩, ⟨some 29, none, .mov (.tmp 28)⟩, ⟨some 30, some (29, false), .mov (.tmp 0)⟩, ⟨some 31, some (29, false), .mov (.tmp 4)⟩, ⟨some 32, some (29, false), .idxStr (.tmp 30) (.tmp 31)⟩, ⟨some 33, some (29, false), .bin .neq 5 (.tmp 32) (.const (.int .u8 46))⟩, ⟨some 34, none, .pick (.tmp 29) (.const (.bool true)) (.tmp 33)⟩])
 (.cond (.tmp 34) (.seq (.ops [⟨some 2, none, .mov (.const (.float .f64 0))⟩, ⟨some 3, none, .mov (.const (.bool false))⟩])
 .ret) .skip))
 (.seq (.ops [⟨some 35, none, .mov (.tmp 0)⟩, ⟨some 36, none, .mov (.tmp 4)⟩, ⟨some 37, none, .bin .add 3 (.tmp 36) (.const (.int .i64 1))⟩, ⟨some 38, none, .call (.func 95) [.tmp 35, .tmp 37]⟩, ⟨some 5, none, .mov (.tmp 38)⟩])
 (.seq (.ops [⟨some 39, none, .mov (.tmp 5)⟩, ⟨some 40, none, .mov (.tmp 4)⟩, ⟨some 41, none, .bin .sub 3 (.tmp 39) (.tmp 40)⟩, ⟨some 42, none, .bin .sub 3 (.tmp 41) (.const (.int .i64 1))⟩, ⟨some 6, none, .mov (.tmp 42)⟩])
 (.seq (.seq (.ops [⟨some 43, none, .mov (.tmp 5)⟩, ⟨some 44, none, .mov (.tmp 0)⟩, ⟨some 45, none, .lenStr (.tmp 44)⟩, ⟨some 46, none, .bin .neq 3 (.tmp 43) (.tmp 45)⟩, ⟨some 47, none, .mov (.tmp 46)⟩, ⟨some 48, some (47, false), .mov (.tmp 6)⟩, ⟨some 49, some (47, false), .call (.func 60) [.tmp 48, .const (.int .i64 1), .const (.int .i64 6)]⟩, ⟨some 50, some (47, false), .un .not (.tmp 49)⟩, ⟨some 51, none, .pick (.tmp 47) (.const (.bool true)) (.tmp 50)⟩])
 (.cond (.tmp 51) (.seq (.ops [⟨some 2, none, .mov (.const (.float .f64 0))⟩, ⟨some 3, none, .mov (.const (.bool false))⟩])
 .ret) .skip))
 (.seq (.ops [⟨some 7, none, .mov (.const (.int .i64 1))⟩])
 (.seq (.seq (.ops [⟨some 8, none, .mov (.const (.int .i64 0))⟩])
 (.block 0 (.loop (.seq (.seq (.ops [⟨some 52, none, .mov (.tmp 8)⟩, ⟨some 53, none, .mov (.tmp 6)⟩, ⟨some 54, none, .bin .lss 3 (.tmp 52) (.tmp 53)⟩])
 (.cond (.tmp 54) .skip (.exit 0)))
 (.seq (.block 1 (.ops [⟨some 57, none, .mov (.tmp 7)⟩, ⟨some 58, none, .bin .mul 3 (.tmp 57) (.const (.int .i64 10))⟩, ⟨some 7, none, .mov (.tmp 58)⟩]))
 (.ops [⟨some 55, none, .mov (.tmp 8)⟩, ⟨some 56, none, .bin .add 3 (.tmp 55) (.const (.int .i64 1))⟩, ⟨some 8, none, .mov (.tmp 56)⟩]))))))
 (.seq (.ops [⟨some 59, none, .mov (.tmp 0)⟩, ⟨some 60, none, .mov (.tmp 4)⟩, ⟨some 61, none, .slStr (.tmp 59) none (some (.tmp 60))⟩, ⟨some 63, none, .mov (.tmp 7)⟩, ⟨some 65, none, .mov (.tmp 0)⟩, ⟨some 66, none, .mov (.tmp 4)⟩, ⟨some 67, none, .bin .add 3 (.tmp 66) (.const (.int .i64 1))⟩, ⟨some 68, none, .slStr (.tmp 65) (some (.tmp 67)) none⟩, ⟨some 72, none, .mov (.tmp 7)⟩, ⟨some 73, none, .convP 3 46 (.tmp 72)⟩, ⟨some 62, none, .call (.func 97) [.tmp 61]⟩, ⟨some 64, none, .bin .mul 3 (.tmp 62) (.tmp 63)⟩, ⟨some 69, none, .call (.func 97) [.tmp 68]⟩, ⟨some 70, none, .bin .add 3 (.tmp 64) (.tmp 69)⟩, ⟨some 71, none, .convP 3 46 (.tmp 70)⟩, ⟨some 74, none, .bin .quo 46 (.tmp 71) (.tmp 73)⟩, ⟨some 2, none, .mov (.tmp 74)⟩, ⟨some 3, none, .mov (.const (.bool true))⟩])
 .ret)))))))))⟩
theorem s96 : stripF Go.Proofs.Try.prog [] Go.Proofs.Try.f96 = some A96 := by kernel_rfl
theorem en96 : enters Go.Proofs.Try.prog 96 = true := by kernel_rfl
def E96_0 (x0 x4 x6 x7 x8 : Value) (g : Nat → Value) : List Value := [x0, g 1, g 2, g 3, x4, g 5, x6, x7, x8, g 9, g 10, g 11, g 12, g 13, g 14, g 15, g 16, g 17, g 18, g 19, g 20, g 21, g 22, g 23, g 24, g 25, g 26, g 27, g 28, g 29, g 30, g 31, g 32, g 33, g 34, g 35, g 36, g 37, g 38, g 39, g 40, g 41, g 42, g 43, g 44, g 45, g 46, g 47, g 48, g 49, g 50, g 51, g 52, g 53, g 54, g 55, g 56, g 57, g 58, g 59, g 60, g 61, g 62, g 63, g 64, g 65, g 66, g 67, g 68, g 69, g 70, g 71, g 72, g 73, g 74]
/-- spec.l3Letter -/
def A92 : AFn := ⟨17, [.tmp 2],
 (.seq (.ops [⟨some 2, none, .mov (.const (.bool false))⟩])
 (.seq (.ops [⟨some 3, none, .mov (.tmp 0)⟩, ⟨some 4, none, .bin .geq 5 (.tmp 3) (.const (.int .u8 97))⟩, ⟨some 5, none, .mov (.tmp 4)⟩, ⟨some 6, some (5, true), .mov (.tmp 0)⟩, ⟨some 7, some (5, true), .bin .leq 5 (.tmp 6) (.const (.int .u8 122))⟩, ⟨some 8, none, .pick (.tmp 5) (.tmp 7) (.const (.bool false))⟩, ⟨some 9, none, .mov (.tmp 8)⟩, ⟨some 10, some (9, false), .mov (.tmp 0)⟩, ⟨some 11, some (9, false), .bin .geq 5 (.tmp 10) (.const (.int .u8 65))⟩, ⟨some 12, some (9, false), .mov (.tmp 11)⟩, ⟨some 13, some (12, true), .mov (.tmp 0)⟩, ⟨some 14, some (12, true), .bin .leq 5 (.tmp 13) (.const (.int .u8 90))⟩, ⟨some 15, some (9, false), .pick (.tmp 12) (.tmp 14) (.const (.bool false))⟩, ⟨some 16, none, .pick (.tmp 9) (.const (.bool true)) (.tmp 15)⟩, ⟨some 2, none, .mov (.tmp 16)⟩])
 .ret))⟩
theorem s92 : stripF Go.Proofs.Try.prog [] Go.Proofs.Try.f92 = some A92 := by kernel_rfl
theorem en92 : enters Go.Proofs.Try.prog 92 = true := by kernel_rfl
/-- spec.l3Words -/
def A131 : AFn := ⟨2, [.tmp 0],
 (.seq (.ops [⟨some 0, none, .mov (.const (.slice none 0 0))⟩])
 (.seq (.ops [⟨some 1, none, .mkSlice 1 32 [.string ⟨#[]⟩] [(0, 1, .const (.string ⟨#[115, 121, 115, 116, 101, 109]⟩)), (1, 1, .const (.string ⟨#[102, 110]⟩)), (2, 1, .const (.string ⟨#[108, 101, 116]⟩)), (3, 1, .const (.string ⟨#[105, 102]⟩)), (4, 1, .const (.string ⟨#[101, 108, 115, 101]⟩)), (5, 1, .const (.string ⟨#[108, 111, 111, 112]⟩)), (6, 1, .const (.string ⟨#[101, 97, 99, 104]⟩)), (7, 1, .const (.string ⟨#[119, 105, 116, 104]⟩)), (8, 1, .const (.string ⟨#[119, 105, 116, 104, 111, 117, 116]⟩)), (9, 1, .const (.string ⟨#[101, 109, 105, 116]⟩)), (10, 1, .const (.string ⟨#[104, 101, 97, 114]⟩)), (11, 1, .const (.string ⟨#[97, 115]⟩)), (12, 1, .const (.string ⟨#[115, 112, 97, 119, 110]⟩)), (13, 1, .const (.string ⟨#[107, 105, 108, 108]⟩)), (14, 1, .const (.string ⟨#[112, 117, 116]⟩)), (15, 1, .const (.string ⟨#[100, 114, 111, 112]⟩)), (16, 1, .const (.string ⟨#[100, 111]⟩)), (17, 1, .const (.string ⟨#[114, 101, 116, 117, 114, 110]⟩)), (18, 1, .const (.string ⟨#[112, 105, 99, 107]⟩)), (19, 1, .const (.string ⟨#[111, 102]⟩)), (20, 1, .const (.string ⟨#[121, 101, 115]⟩)), (21, 1, .const (.string ⟨#[110, 111]⟩)), (22, 1, .const (.string ⟨#[97, 110, 100]⟩)), (23, 1, .const (.string ⟨#[111, 114]⟩)), (24, 1, .const (.string ⟨#[110, 111, 116]⟩)), (25, 1, .const (.string ⟨#[105, 110, 116]⟩)), (26, 1, .const (.string ⟨#[114, 101, 97, 108]⟩)), (27, 1, .const (.string ⟨#[112, 97, 105, 114]⟩)), (28, 1, .const (.string ⟨#[98, 111, 111, 108]⟩)), (29, 1, .const (.string ⟨#[114, 101]⟩)), (30, 1, .const (.string ⟨#[105, 109]⟩)), (31, 1, .const (.string ⟨#[115, 105, 122, 101]⟩))]⟩, ⟨some 0, none, .mov (.tmp 1)⟩])
 .ret))⟩
theorem s131 : stripF Go.Proofs.Try.prog [] Go.Proofs.Try.f131 = some A131 := by kernel_rfl
theorem en131 : enters Go.Proofs.Try.prog 131 = true := by kernel_rfl
/-- spec.IsWord -/
def A93 : AFn := ⟨18, [.tmp 2],
 (.seq (.ops [⟨some 2, none, .mov (.const (.bool false))⟩])
 (.seq (.ops [⟨some 5, none, .call (.func 131) []⟩, ⟨some 3, none, .mov (.tmp 5)⟩])
 (.seq (.seq (.ops [⟨some 4, none, .mov (.const (.int .i64 0))⟩])
 (.block 0 (.loop (.seq (.seq (.ops [⟨some 6, none, .mov (.tmp 4)⟩, ⟨some 7, none, .mov (.tmp 3)⟩, ⟨some 8, none, .lenSl (.tmp 7)⟩, ⟨some 9, none, .bin .lss 3 (.tmp 6) (.tmp 8)⟩])
 (.cond (.tmp 9) .skip (.exit 0)))
 (.seq (.block 1 (.seq (.ops [⟨some 12, none, .mov (.tmp 3)⟩, ⟨some 13, none, .mov (.tmp 4)⟩, ⟨some 14, none, .idxSl (.tmp 12) (.tmp 13) 1⟩, ⟨some 15, none, .load (.tmp 14)⟩, ⟨some 16, none, .mov (.tmp 0)⟩, ⟨some 17, none, .bin .eql 9 (.tmp 15) (.tmp 16)⟩])
 (.cond (.tmp 17) (.seq (.ops [⟨some 2, none, .mov (.const (.bool true))⟩])
 .ret) .skip)))
 (.ops [⟨some 10, none, .mov (.tmp 4)⟩, ⟨some 11, none, .bin .add 3 (.tmp 10) (.const (.int .i64 1))⟩, ⟨some 4, none, .mov (.tmp 11)⟩]))))))
 (.seq (.ops [⟨some 2, none, .mov (.const (.bool false))⟩])
 .ret))))⟩
theorem s93 : stripF Go.Proofs.Try.prog [] Go.Proofs.Try.f93 = some A93 := by kernel_rfl
theorem en93 : enters Go.Proofs.Try.prog 93 = true := by kernel_rfl
def E93_0 (x0 x3 x4 : Value) (g : Nat → Value) : List Value := [x0, g 1, g 2, x3, x4, g 5, g 6, g 7, g 8, g 9, g 10, g 11, g 12, g 13, g 14, g 15, g 16, g 17]
/-- spec.NameOk -/
def A142 : AFn := ⟨22, [.tmp 2],
 (.seq (.ops [⟨some 2, none, .mov (.const (.bool false))⟩])
 (.seq (.seq (.ops [⟨some 4, none, .mov (.tmp 0)⟩, ⟨some 5, none, .lenStr (.tmp 4)⟩, ⟨some 6, none, .call (.func 60) [.tmp 5, .const (.int .i64 1), .const (.int .i64 12)]⟩, ⟨some 7, none, .un .not (.tmp 6)⟩])
 (.cond (.tmp 7) (.seq (.ops [⟨some 2, none, .mov (.const (.bool false))⟩])
 .ret) .skip))
 (.seq (.seq (.ops [⟨some 3, none, .mov (.const (.int .i64 0))⟩])
 (.block 0 (.loop (.seq (.seq (.ops [⟨some 8, none, .mov (.tmp 3)⟩, ⟨some 9, none, .mov (.tmp 0)⟩, ⟨some 10, none, .lenStr (.tmp 9)⟩, ⟨some 11, none, .bin .lss 3 (.tmp 8) (.tmp 10)⟩])
 (.cond (.tmp 11) .skip (.exit 0)))
 (.seq (.block 1 (.seq (.ops [⟨some 14, none, .mov (.tmp 0)⟩, ⟨some 15, none, .mov (.tmp 3)⟩, ⟨some 16, none, .idxStr (.tmp 14) (.tmp 15)⟩, ⟨some 17, none, .call (.func 92) [.tmp 16]⟩, ⟨some 18, none, .un .not (.tmp 17)⟩])
 (.cond (.tmp 18) (.seq (.ops [⟨some 2, none, .mov (.const (.bool false))⟩])
 .ret) .skip)))
 (.ops [⟨some 12, none, .mov (.tmp 3)⟩, ⟨some 13, none, .bin .add 3 (.tmp 12) (.const (.int .i64 1))⟩, ⟨some 3, none, .mov (.tmp 13)⟩]))))))
 (.seq (.ops [⟨some 19, none, .mov (.tmp 0)⟩, ⟨some 20, none, .call (.func 93) [.tmp 19]⟩, ⟨some 21, none, .un .not (.tmp 20)⟩, ⟨some 2, none, .mov (.tmp 21)⟩])
 .ret))))⟩
theorem s142 : stripF Go.Proofs.Try.prog [] Go.Proofs.Try.f142 = some A142 := by kernel_rfl
theorem en142 : enters Go.Proofs.Try.prog 142 = true := by kernel_rfl
def E142_0 (x0 x3 : Value) (g : Nat → Value) : List Value := [x0, g 1, g 2, x3, g 4, g 5, g 6, g 7, g 8, g 9, g 10, g 11, g 12, g 13, g 14, g 15, g 16, g 17, g 18, g 19, g 20, g 21]
/-- spec.l8Has -/
def A117 : AFn := ⟨91, [.tmp 2],
 (.seq (.ops [⟨some 1, none, .box false (.tmp 0)⟩, ⟨some 2, none, .mov (.const (.bool false))⟩])
 (.seq (.ops [⟨some 3, none, .mov (.const (.bool false))⟩])
 (.seq (.seq (.ops [⟨some 6, none, .fieldAddr (.tmp 1) 0⟩, ⟨some 7, none, .load (.tmp 6)⟩])
 (.block 0 (.seq (.seq (.ops [⟨some 9, none, .bin .eql 3 (.tmp 7) (.const (.int .i64 4))⟩, ⟨some 8, none, .mov (.tmp 9)⟩])
 (.cond (.tmp 8) .skip (.seq (.ops [⟨some 10, none, .bin .eql 3 (.tmp 7) (.const (.int .i64 5))⟩, ⟨some 8, none, .mov (.tmp 10)⟩])
 (.cond (.tmp 8) .skip (.seq (.ops [⟨some 11, none, .bin .eql 3 (.tmp 7) (.const (.int .i64 6))⟩, ⟨some 8, none, .mov (.tmp 11)⟩])
 (.cond (.tmp 8) .skip (.seq (.ops [⟨some 12, none, .bin .eql 3 (.tmp 7) (.const (.int .i64 7))⟩, ⟨some 8, none, .mov (.tmp 12)⟩])
 (.cond (.tmp 8) .skip (.seq (.ops [⟨some 13, none, .bin .eql 3 (.tmp 7) (.const (.int .i64 12))⟩, ⟨some 8, none, .mov (.tmp 13)⟩])
 (.cond (.tmp 8) .skip (.seq (.ops [⟨some 14, none, .bin .eql 3 (.tmp 7) (.const (.int .i64 13))⟩, ⟨some 8, none, .mov (.tmp 14)⟩])
 (.cond (.tmp 8) .skip (.seq (.ops [⟨some 15, none, .bin .eql 3 (.tmp 7) (.const (.int .i64 14))⟩, ⟨some 8, none, .mov (.tmp 15)⟩])
 (.cond (.tmp 8) .skip (.seq (.ops [⟨some 16, none, .bin .eql 3 (.tmp 7) (.const (.int .i64 15))⟩, ⟨some 8, none, .mov (.tmp 16)⟩])
 (.cond (.tmp 8) .skip (.seq (.ops [⟨some 17, none, .bin .eql 3 (.tmp 7) (.const (.int .i64 19))⟩, ⟨some 8, none, .mov (.tmp 17)⟩])
 (.cond (.tmp 8) .skip (.seq (.ops [⟨some 18, none, .bin .eql 3 (.tmp 7) (.const (.int .i64 20))⟩, ⟨some 8, none, .mov (.tmp 18)⟩])
 (.cond (.tmp 8) .skip (.seq (.ops [⟨some 19, none, .bin .eql 3 (.tmp 7) (.const (.int .i64 23))⟩, ⟨some 8, none, .mov (.tmp 19)⟩])
 (.cond (.tmp 8) .skip (.seq (.ops [⟨some 20, none, .bin .eql 3 (.tmp 7) (.const (.int .i64 24))⟩, ⟨some 8, none, .mov (.tmp 20)⟩])
 (.cond (.tmp 8) .skip (.seq (.ops [⟨some 21, none, .bin .eql 3 (.tmp 7) (.const (.int .i64 28))⟩, ⟨some 8, none, .mov (.tmp 21)⟩])
 (.cond (.tmp 8) .skip (.seq (.ops [⟨some 22, none, .bin .eql 3 (.tmp 7) (.const (.int .i64 31))⟩, ⟨some 8, none, .mov (.tmp 22)⟩])
 (.cond (.tmp 8) .skip (.seq (.ops [⟨some 23, none, .bin .eql 3 (.tmp 7) (.const (.int .i64 32))⟩, ⟨some 8, none, .mov (.tmp 23)⟩])
 (.cond (.tmp 8) .skip (.seq (.ops [⟨some 24, none, .bin .eql 3 (.tmp 7) (.const (.int .i64 33))⟩, ⟨some 8, none, .mov (.tmp 24)⟩])
 (.cond (.tmp 8) .skip (.ops [⟨some 25, none, .bin .eql 3 (.tmp 7) (.const (.int .i64 34))⟩, ⟨some 8, none, .mov (.tmp 25)⟩])))))))))))))))))))))))))))))))))
 (.cond (.tmp 8) (.ops [⟨some 3, none, .mov (.const (.bool true))⟩]) .skip))))
 (.seq (.seq (.ops [⟨some 26, none, .mov (.tmp 3)⟩, ⟨some 27, none, .mov (.tmp 26)⟩, ⟨some 28, some (27, true), .fieldAddr (.tmp 1) 1⟩, ⟨some 29, some (27, true), .load (.tmp 28)⟩, ⟨some 30, some (27, true), .call (.func 142) [.tmp 29]⟩, ⟨some 31, some (27, true), .un .not (.tmp 30)⟩, ⟨some 32, none, .pick (.tmp 27) (.tmp 31) (.const (.bool false))⟩])
 (.cond (.tmp 32) (.seq (.ops [⟨some 2, none, .mov (.const (.bool false))⟩])
 .ret) .skip))
 (.seq (.seq (.ops [⟨some 33, none, .fieldAddr (.tmp 1) 0⟩, ⟨some 34, none, .load (.tmp 33)⟩, ⟨some 35, none, .bin .eql 3 (.tmp 34) (.const (.int .i64 2))⟩])
 (.cond (.tmp 35) (.seq (.ops [⟨some 37, none, .fieldAddr (.tmp 1) 1⟩, ⟨some 38, none, .load (.tmp 37)⟩, ⟨some 39, none, .call (.func 96) [.tmp 38]⟩, ⟨some 36, none, .mov (.tmp 39)⟩, ⟨some 40, none, .extract (.tmp 36) 0⟩, ⟨some 41, none, .extract (.tmp 36) 1⟩, ⟨some 4, none, .mov (.tmp 40)⟩, ⟨some 5, none, .mov (.tmp 41)⟩])
 (.seq (.ops [⟨some 42, none, .mov (.tmp 5)⟩, ⟨some 43, none, .mov (.tmp 42)⟩, ⟨some 44, some (43, true), .fieldAddr (.tmp 1) 2⟩, ⟨some 45, some (43, true), .load (.tmp 44)⟩, ⟨some 46, some (43, true), .bin .eql 3 (.tmp 45) (.const (.int .i64 0))⟩, ⟨some 47, none, .pick (.tmp 43) (.tmp 46) (.const (.bool false))⟩, ⟨some 2, none, .mov (.tmp 47)⟩])
 .ret)) .skip))
 (.seq (.seq (.ops [⟨some 48, none, .mov (.tmp 3)⟩, ⟨some 49, none, .un .not (.tmp 48)⟩, ⟨some 50, none, .mov (.tmp 49)⟩, ⟨some 51, some (50, true), .fieldAddr (.tmp 1) 1⟩, ⟨some 52, some (50, true), .load (.tmp 51)⟩, ⟨some 53, some (50, true), .bin .neq 9 (.tmp 52) (.const (.string ⟨#[]⟩))⟩, ⟨some 54, none, .pick (.tmp 50) (.tmp 53) (.const (.bool false))⟩])
 (.cond (.tmp 54) (.seq (.ops [⟨some 2, none, .mov (.const (.bool false))⟩])
 .ret) .skip))
 (.seq (.seq (.ops [⟨some 55, none, .fieldAddr (.tmp 1) 0⟩, ⟨some 56, none, .load (.tmp 55)⟩])
 (.block 1 (.seq (.ops [⟨some 58, none, .bin .eql 3 (.tmp 56) (.const (.int .i64 1))⟩, ⟨some 57, none, .mov (.tmp 58)⟩])
 (.cond (.tmp 57) (.seq (.ops [⟨some 59, none, .fieldAddr (.tmp 1) 2⟩, ⟨some 60, none, .load (.tmp 59)⟩, ⟨some 61, none, .call (.func 60) [.tmp 60, .const (.int .i64 0), .const (.int .i64 999999999999999)]⟩, ⟨some 2, none, .mov (.tmp 61)⟩])
 .ret) (.seq (.ops [⟨some 63, none, .bin .eql 3 (.tmp 56) (.const (.int .i64 3))⟩, ⟨some 62, none, .mov (.tmp 63)⟩])
 (.cond (.tmp 62) (.seq (.ops [⟨some 64, none, .fieldAddr (.tmp 1) 2⟩, ⟨some 65, none, .load (.tmp 64)⟩, ⟨some 66, none, .bin .eql 3 (.tmp 65) (.const (.int .i64 0))⟩, ⟨some 67, none, .mov (.tmp 66)⟩, ⟨some 68, some (67, false), .fieldAddr (.tmp 1) 2⟩, ⟨some 69, some (67, false), .load (.tmp 68)⟩, ⟨some 70, some (67, false), .bin .eql 3 (.tmp 69) (.const (.int .i64 1))⟩, ⟨some 71, none, .pick (.tmp 67) (.const (.bool true)) (.tmp 70)⟩, ⟨some 2, none, .mov (.tmp 71)⟩])
 .ret) (.seq (.ops [⟨some 73, none, .bin .eql 3 (.tmp 56) (.const (.int .i64 8))⟩, ⟨some 72, none, .mov (.tmp 73)⟩])
 (.cond (.tmp 72) (.seq (.ops [⟨some 74, none, .fieldAddr (.tmp 1) 2⟩, ⟨some 75, none, .load (.tmp 74)⟩, ⟨some 76, none, .call (.func 60) [.tmp 75, .const (.int .i64 1), .const (.int .i64 9)]⟩, ⟨some 2, none, .mov (.tmp 76)⟩])
 .ret) (.seq (.ops [⟨some 78, none, .bin .eql 3 (.tmp 56) (.const (.int .i64 9))⟩, ⟨some 77, none, .mov (.tmp 78)⟩])
 (.cond (.tmp 77) (.seq (.ops [⟨some 79, none, .fieldAddr (.tmp 1) 2⟩, ⟨some 80, none, .load (.tmp 79)⟩, ⟨some 81, none, .call (.func 60) [.tmp 80, .const (.int .i64 1), .const (.int .i64 6)]⟩, ⟨some 2, none, .mov (.tmp 81)⟩])
 .ret) (.seq (.seq (.ops [⟨some 83, none, .bin .eql 3 (.tmp 56) (.const (.int .i64 32))⟩, ⟨some 82, none, .mov (.tmp 83)⟩])
 (.cond (.tmp 82) .skip (.ops [⟨some 84, none, .bin .eql 3 (.tmp 56) (.const (.int .i64 33))⟩, ⟨some 82, none, .mov (.tmp 84)⟩])))
 (.cond (.tmp 82) (.seq (.ops [⟨some 85, none, .fieldAddr (.tmp 1) 2⟩, ⟨some 86, none, .load (.tmp 85)⟩, ⟨some 87, none, .call (.func 60) [.tmp 86, .const (.int .i64 1), .const (.int .i64 4)]⟩, ⟨some 2, none, .mov (.tmp 87)⟩])
 .ret) .skip))))))))))))
 (.seq (.ops [⟨some 88, none, .fieldAddr (.tmp 1) 2⟩, ⟨some 89, none, .load (.tmp 88)⟩, ⟨some 90, none, .bin .eql 3 (.tmp 89) (.const (.int .i64 0))⟩, ⟨some 2, none, .mov (.tmp 90)⟩])
 .ret))))))))⟩
theorem s117 : stripF Go.Proofs.Try.prog [] Go.Proofs.Try.f117 = some A117 := by kernel_rfl
theorem en117 : enters Go.Proofs.Try.prog 117 = true := by kernel_rfl
/-- spec.l8Fits -/
def A77 : AFn := ⟨108, [.tmp 10, .tmp 11],
 (.seq (.ops [⟨some 5, none, .box false (.tmp 0)⟩, ⟨some 10, none, .mov (.const (.int .i64 0))⟩, ⟨some 11, none, .mov (.const (.bool false))⟩])
 (.seq (.seq (.ops [⟨some 19, none, .mov (.tmp 1)⟩, ⟨some 20, none, .fieldAddr (.tmp 5) 0⟩, ⟨some 21, none, .load (.tmp 20)⟩, ⟨some 22, none, .lenSl (.tmp 21)⟩, ⟨some 23, none, .bin .sub 3 (.tmp 22) (.const (.int .i64 1))⟩, ⟨some 24, none, .call (.func 60) [.tmp 19, .const (.int .i64 0), .tmp 23]⟩, ⟨some 25, none, .un .not (.tmp 24)⟩, ⟨some 26, none, .mov (.tmp 25)⟩, ⟨some 27, some (26, false), .mov (.tmp 4)⟩, ⟨some 28, some (26, false), .mov (.tmp 1)⟩, ⟨some 29, some (26, false), .idxSl (.tmp 27) (.tmp 28) 1⟩, ⟨some 30, some (26, false), .load (.tmp 29)⟩, ⟨some 31, none, .pick (.tmp 26) (.const (.bool true)) (.tmp 30)⟩])
 (.cond (.tmp 31) (.seq (.ops [⟨some 10, none, .mov (.const (.int .i64 0))⟩, ⟨some 11, none, .mov (.const (.bool false))⟩])
 .ret) .skip))
 (.seq (.ops [⟨some 32, none, .mov (.tmp 4)⟩, ⟨some 33, none, .mov (.tmp 1)⟩, ⟨some 34, none, .idxSl (.tmp 32) (.tmp 33) 1⟩, ⟨none, none, .store 1 (.tmp 34) (.const (.bool true))⟩])
 (.seq (.ops [⟨some 35, none, .fieldAddr (.tmp 5) 0⟩, ⟨some 36, none, .load (.tmp 35)⟩, ⟨some 37, none, .mov (.tmp 1)⟩, ⟨some 38, none, .idxSl (.tmp 36) (.tmp 37) 4⟩, ⟨some 39, none, .loadN (.tmp 38) 4⟩, ⟨some 12, none, .new false [.int .i64 0, .string ⟨#[]⟩, .int .i64 0, .slice none 0 0]⟩, ⟨none, none, .store 4 (.tmp 12) (.tmp 39)⟩])
 (.seq (.ops [⟨some 40, none, .fieldAddr (.tmp 12) 0⟩, ⟨some 41, none, .load (.tmp 40)⟩, ⟨some 42, none, .call (.func 115) [.tmp 41]⟩, ⟨some 43, none, .mov (.tmp 2)⟩, ⟨some 44, none, .bin .eql 3 (.tmp 42) (.tmp 43)⟩, ⟨some 45, none, .mov (.tmp 44)⟩, ⟨some 46, some (45, true), .mov (.tmp 2)⟩, ⟨some 47, some (45, true), .bin .neq 3 (.tmp 46) (.const (.int .i64 0))⟩, ⟨some 48, none, .pick (.tmp 45) (.tmp 47) (.const (.bool false))⟩, ⟨some 13, none, .mov (.tmp 48)⟩])
 (.seq (.seq (.ops [⟨some 49, none, .mov (.tmp 2)⟩, ⟨some 50, none, .bin .eql 3 (.tmp 49) (.const (.int .i64 10))⟩])
 (.cond (.tmp 50) (.ops [⟨some 51, none, .fieldAddr (.tmp 12) 0⟩, ⟨some 52, none, .load (.tmp 51)⟩, ⟨some 53, none, .bin .eql 3 (.tmp 52) (.const (.int .i64 7))⟩, ⟨some 13, none, .mov (.tmp 53)⟩]) .skip))
 (.seq (.ops [⟨some 55, none, .loadN (.tmp 12) 4⟩, ⟨some 56, none, .call (.func 116) [.tmp 55]⟩, ⟨some 54, none, .mov (.tmp 56)⟩, ⟨some 57, none, .extract (.tmp 54) 0⟩, ⟨some 58, none, .extract (.tmp 54) 1⟩, ⟨some 14, none, .mov (.tmp 57)⟩, ⟨some 15, none, .mov (.tmp 58)⟩])
 (.seq (.seq (.ops [⟨some 59, none, .mov (.tmp 13)⟩, ⟨some 60, none, .un .not (.tmp 59)⟩, ⟨some 61, none, .mov (.tmp 60)⟩, ⟨some 62, some (61, false), .mov (.tmp 15)⟩, ⟨some 63, some (61, false), .un .not (.tmp 62)⟩, ⟨some 64, none, .pick (.tmp 61) (.const (.bool true)) (.tmp 63)⟩, ⟨some 65, none, .mov (.tmp 64)⟩, ⟨some 66, some (65, false), .loadN (.tmp 12) 4⟩, ⟨some 67, some (65, false), .call (.func 117) [.tmp 66]⟩, ⟨some 68, some (65, false), .un .not (.tmp 67)⟩, ⟨some 69, none, .pick (.tmp 65) (.const (.bool true)) (.tmp 68)⟩])
 (.cond (.tmp 69) (.seq (.ops [⟨some 10, none, .mov (.const (.int .i64 0))⟩, ⟨some 11, none, .mov (.const (.bool false))⟩])
 .ret) .skip))
 (.seq (.seq (.ops [⟨some 16, none, .mov (.const (.int .i64 0))⟩])
 (.block 0 (.loop (.seq (.seq (.ops [⟨some 70, none, .mov (.tmp 16)⟩, ⟨some 71, none, .fieldAddr (.tmp 12) 3⟩, ⟨some 72, none, .load (.tmp 71)⟩, ⟨some 73, none, .lenSl (.tmp 72)⟩, ⟨some 74, none, .bin .lss 3 (.tmp 70) (.tmp 73)⟩])
 (.cond (.tmp 74) .skip (.exit 0)))
 (.seq (.block 1 (.seq (.seq (.ops [⟨some 77, none, .fieldAddr (.tmp 12) 3⟩, ⟨some 78, none, .load (.tmp 77)⟩, ⟨some 79, none, .mov (.tmp 16)⟩, ⟨some 80, none, .idxSl (.tmp 78) (.tmp 79) 1⟩, ⟨some 81, none, .load (.tmp 80)⟩, ⟨some 82, none, .mov (.tmp 1)⟩, ⟨some 83, none, .bin .geq 3 (.tmp 81) (.tmp 82)⟩])
 (.cond (.tmp 83) (.seq (.ops [⟨some 10, none, .mov (.const (.int .i64 0))⟩, ⟨some 11, none, .mov (.const (.bool false))⟩])
 .ret) .skip))
 (.seq (.ops [⟨some 85, none, .loadN (.tmp 5) 2⟩, ⟨some 86, none, .fieldAddr (.tmp 12) 3⟩, ⟨some 87, none, .load (.tmp 86)⟩, ⟨some 88, none, .mov (.tmp 16)⟩, ⟨some 89, none, .idxSl (.tmp 87) (.tmp 88) 1⟩, ⟨some 90, none, .load (.tmp 89)⟩, ⟨some 91, none, .mov (.tmp 14)⟩, ⟨some 92, none, .mov (.tmp 16)⟩, ⟨some 93, none, .idxSl (.tmp 91) (.tmp 92) 1⟩, ⟨some 94, none, .load (.tmp 93)⟩, ⟨some 95, none, .mov (.tmp 3)⟩, ⟨some 96, none, .mov (.tmp 4)⟩, ⟨some 97, none, .call (.func 77) [.tmp 85, .tmp 90, .tmp 94, .tmp 95, .tmp 96]⟩, ⟨some 84, none, .mov (.tmp 97)⟩, ⟨some 98, none, .extract (.tmp 84) 0⟩, ⟨some 99, none, .extract (.tmp 84) 1⟩, ⟨some 17, none, .mov (.tmp 98)⟩, ⟨some 18, none, .mov (.tmp 99)⟩])
 (.seq (.seq (.ops [⟨some 100, none, .mov (.tmp 18)⟩, ⟨some 101, none, .un .not (.tmp 100)⟩])
 (.cond (.tmp 101) (.seq (.ops [⟨some 10, none, .mov (.const (.int .i64 0))⟩, ⟨some 11, none, .mov (.const (.bool false))⟩])
 .ret) .skip))
 (.ops [⟨some 102, none, .mov (.tmp 17)⟩, ⟨some 3, none, .mov (.tmp 102)⟩])))))
 (.ops [⟨some 75, none, .mov (.tmp 16)⟩, ⟨some 76, none, .bin .add 3 (.tmp 75) (.const (.int .i64 1))⟩, ⟨some 16, none, .mov (.tmp 76)⟩]))))))
 (.seq (.ops [⟨some 103, none, .mov (.tmp 3)⟩, ⟨some 104, none, .bin .add 3 (.tmp 103) (.const (.int .i64 1))⟩, ⟨some 105, none, .mov (.tmp 3)⟩, ⟨some 106, none, .mov (.tmp 1)⟩, ⟨some 107, none, .bin .eql 3 (.tmp 105) (.tmp 106)⟩, ⟨some 10, none, .mov (.tmp 104)⟩, ⟨some 11, none, .mov (.tmp 107)⟩])
 .ret))))))))))⟩
theorem s77 : stripF Go.Proofs.Try.prog [] Go.Proofs.Try.f77 = some A77 := by kernel_rfl
theorem en77 : enters Go.Proofs.Try.prog 77 = true := by kernel_rfl
def E77_0 (x1 x3 x4 x5 x12 x14 x16 : Value) (g : Nat → Value) : List Value := [g 0, x1, g 2, x3, x4, x5, g 6, g 7, g 8, g 9, g 10, g 11, x12, g 13, x14, g 15, x16, g 17, g 18, g 19, g 20, g 21, g 22, g 23, g 24, g 25, g 26, g 27, g 28, g 29, g 30, g 31, g 32, g 33, g 34, g 35, g 36, g 37, g 38, g 39, g 40, g 41, g 42, g 43, g 44, g 45, g 46, g 47, g 48, g 49, g 50, g 51, g 52, g 53, g 54, g 55, g 56, g 57, g 58, g 59, g 60, g 61, g 62, g 63, g 64, g 65, g 66, g 67, g 68, g 69, g 70, g 71, g 72, g 73, g 74, g 75, g 76, g 77, g 78, g 79, g 80, g 81, g 82, g 83, g 84, g 85, g 86, g 87, g 88, g 89, g 90, g 91, g 92, g 93, g 94, g 95, g 96, g 97, g 98, g 99, g 100, g 101, g 102, g 103, g 104, g 105, g 106, g 107]
/-- spec.TreeOk -/
def A36 : AFn := ⟨49, [.tmp 2],
 (.seq (.ops [⟨some 1, none, .box false (.tmp 0)⟩, ⟨some 2, none, .mov (.const (.bool false))⟩])
 (.seq (.seq (.ops [⟨some 8, none, .fieldAddr (.tmp 1) 0⟩, ⟨some 9, none, .load (.tmp 8)⟩, ⟨some 10, none, .lenSl (.tmp 9)⟩, ⟨some 11, none, .bin .gtr 3 (.tmp 10) (.const (.int .i64 4000))⟩, ⟨some 12, none, .mov (.tmp 11)⟩, ⟨some 13, some (12, false), .fieldAddr (.tmp 1) 1⟩, ⟨some 14, some (12, false), .load (.tmp 13)⟩, ⟨some 15, some (12, false), .lenSl (.tmp 14)⟩, ⟨some 16, some (12, false), .bin .gtr 3 (.tmp 15) (.const (.int .i64 4000))⟩, ⟨some 17, none, .pick (.tmp 12) (.const (.bool true)) (.tmp 16)⟩])
 (.cond (.tmp 17) (.seq (.ops [⟨some 2, none, .mov (.const (.bool false))⟩])
 .ret) .skip))
 (.seq (.ops [⟨some 18, none, .fieldAddr (.tmp 1) 0⟩, ⟨some 19, none, .load (.tmp 18)⟩, ⟨some 20, none, .lenSl (.tmp 19)⟩, ⟨some 21, none, .make 1 1 [.bool false] (.tmp 20) (.tmp 20)⟩, ⟨some 3, none, .mov (.tmp 21)⟩])
 (.seq (.ops [⟨some 4, none, .mov (.const (.int .i64 0))⟩])
 (.seq (.seq (.ops [⟨some 5, none, .mov (.const (.int .i64 0))⟩])
 (.block 0 (.loop (.seq (.seq (.ops [⟨some 22, none, .mov (.tmp 5)⟩, ⟨some 23, none, .fieldAddr (.tmp 1) 1⟩, ⟨some 24, none, .load (.tmp 23)⟩, ⟨some 25, none, .lenSl (.tmp 24)⟩, ⟨some 26, none, .bin .lss 3 (.tmp 22) (.tmp 25)⟩])
 (.cond (.tmp 26) .skip (.exit 0)))
 (.seq (.block 1 (.seq (.ops [⟨some 30, none, .loadN (.tmp 1) 2⟩, ⟨some 31, none, .fieldAddr (.tmp 1) 1⟩, ⟨some 32, none, .load (.tmp 31)⟩, ⟨some 33, none, .mov (.tmp 5)⟩, ⟨some 34, none, .idxSl (.tmp 32) (.tmp 33) 1⟩, ⟨some 35, none, .load (.tmp 34)⟩, ⟨some 36, none, .mov (.tmp 4)⟩, ⟨some 37, none, .mov (.tmp 3)⟩, ⟨some 38, none, .call (.func 77) [.tmp 30, .tmp 35, .const (.int .i64 9), .tmp 36, .tmp 37]⟩, ⟨some 29, none, .mov (.tmp 38)⟩, ⟨some 39, none, .extract (.tmp 29) 0⟩, ⟨some 40, none, .extract (.tmp 29) 1⟩, ⟨some 6, none, .mov (.tmp 39)⟩, ⟨some 7, none, .mov (.tmp 40)⟩])
 (.seq (.seq (.ops [⟨some 41, none, .mov (.tmp 7)⟩, ⟨some 42, none, .un .not (.tmp 41)⟩])
 (.cond (.tmp 42) (.seq (.ops [⟨some 2, none, .mov (.const (.bool false))⟩])
 .ret) .skip))
 (.ops [⟨some 43, none, .mov (.tmp 6)⟩, ⟨some 4, none, .mov (.tmp 43)⟩]))))
 (.ops [⟨some 27, none, .mov (.tmp 5)⟩, ⟨some 28, none, .bin .add 3 (.tmp 27) (.const (.int .i64 1))⟩, ⟨some 5, none, .mov (.tmp 28)⟩]))))))
 (.seq (.ops [⟨some 44, none, .mov (.tmp 4)⟩, ⟨some 45, none, .fieldAddr (.tmp 1) 0⟩, ⟨some 46, none, .load (.tmp 45)⟩, ⟨some 47, none, .lenSl (.tmp 46)⟩, ⟨some 48, none, .bin .eql 3 (.tmp 44) (.tmp 47)⟩, ⟨some 2, none, .mov (.tmp 48)⟩])
 .ret))))))⟩
theorem s36 : stripF Go.Proofs.Try.prog [] Go.Proofs.Try.f36 = some A36 := by kernel_rfl
theorem en36 : enters Go.Proofs.Try.prog 36 = true := by kernel_rfl
def E36_0 (x1 x3 x4 x5 : Value) (g : Nat → Value) : List Value := [g 0, x1, g 2, x3, x4, x5, g 6, g 7, g 8, g 9, g 10, g 11, g 12, g 13, g 14, g 15, g 16, g 17, g 18, g 19, g 20, g 21, g 22, g 23, g 24, g 25, g 26, g 27, g 28, g 29, g 30, g 31, g 32, g 33, g 34, g 35, g 36, g 37, g 38, g 39, g 40, g 41, g 42, g 43, g 44, g 45, g 46, g 47, g 48]
/-- spec.Sizes -/
def A12 : AFn := ⟨33, [.tmp 2],
 (.seq (.ops [⟨some 1, none, .box false (.tmp 0)⟩, ⟨some 2, none, .mov (.const (.slice none 0 0))⟩])
 (.seq (.seq (.ops [⟨some 6, none, .loadN (.tmp 1) 2⟩, ⟨some 7, none, .call (.func 36) [.tmp 6]⟩, ⟨some 8, none, .un .not (.tmp 7)⟩])
 (.cond (.tmp 8) (.seq (.ops [⟨some 2, none, .mov (.const (.slice none 0 0))⟩])
 .ret) .skip))
 (.seq (.ops [⟨some 9, none, .mkSlice 1 0 [] []⟩, ⟨some 3, none, .mov (.tmp 9)⟩])
 (.seq (.ops [⟨some 4, none, .mov (.const (.int .i64 (-1)))⟩])
 (.seq (.seq (.ops [⟨some 5, none, .mov (.const (.int .i64 0))⟩])
 (.block 0 (.loop (.seq (.seq (.ops [⟨some 10, none, .mov (.tmp 5)⟩, ⟨some 11, none, .fieldAddr (.tmp 1) 1⟩, ⟨some 12, none, .load (.tmp 11)⟩, ⟨some 13, none, .lenSl (.tmp 12)⟩, ⟨some 14, none, .bin .lss 3 (.tmp 10) (.tmp 13)⟩])
 (.cond (.tmp 14) .skip (.exit 0)))
 (.seq (.block 1 (.seq (.ops [⟨some 17, none, .mov (.tmp 3)⟩, ⟨some 18, none, .fieldAddr (.tmp 1) 1⟩, ⟨some 19, none, .load (.tmp 18)⟩, ⟨some 20, none, .mov (.tmp 5)⟩, ⟨some 21, none, .idxSl (.tmp 19) (.tmp 20) 1⟩, ⟨some 22, none, .load (.tmp 21)⟩, ⟨some 23, none, .mov (.tmp 4)⟩, ⟨some 24, none, .bin .sub 3 (.tmp 22) (.tmp 23)⟩, ⟨some 25, none, .mkSlice 1 1 [.int .i64 0] [(0, 1, .tmp 24)]⟩, ⟨some 26, none, .append 1 8 (.tmp 17) (.tmp 25)⟩, ⟨some 3, none, .mov (.tmp 26)⟩])
 (.ops [⟨some 27, none, .fieldAddr (.tmp 1) 1⟩, ⟨some 28, none, .load (.tmp 27)⟩, ⟨some 29, none, .mov (.tmp 5)⟩, ⟨some 30, none, .idxSl (.tmp 28) (.tmp 29) 1⟩, ⟨some 31, none, .load (.tmp 30)⟩, ⟨some 4, none, .mov (.tmp 31)⟩])))
 (.ops [⟨some 15, none, .mov (.tmp 5)⟩, ⟨some 16, none, .bin .add 3 (.tmp 15) (.const (.int .i64 1))⟩, ⟨some 5, none, .mov (.tmp 16)⟩]))))))
 (.seq (.ops [⟨some 32, none, .mov (.tmp 3)⟩, ⟨some 2, none, .mov (.tmp 32)⟩])
 .ret))))))⟩
theorem s12 : stripF Go.Proofs.Try.prog [] Go.Proofs.Try.f12 = some A12 := by kernel_rfl
theorem en12 : enters Go.Proofs.Try.prog 12 = true := by kernel_rfl
def E12_0 (x1 x3 x4 x5 : Value) (g : Nat → Value) : List Value := [g 0, x1, g 2, x3, x4, x5, g 6, g 7, g 8, g 9, g 10, g 11, g 12, g 13, g 14, g 15, g 16, g 17, g 18, g 19, g 20, g 21, g 22, g 23, g 24, g 25, g 26, g 27, g 28, g 29, g 30, g 31, g 32]
/-- laws.toIntS -/
def A38 : AFn := ⟨22, [.tmp 2],
 (.seq (.ops [⟨some 2, none, .mov (.const (.slice none 0 0))⟩])
 (.seq (.ops [⟨some 5, none, .mov (.tmp 0)⟩, ⟨some 6, none, .lenSl (.tmp 5)⟩, ⟨some 7, none, .make 1 8 [.int .i64 0] (.tmp 6) (.tmp 6)⟩, ⟨some 3, none, .mov (.tmp 7)⟩])
 (.seq (.seq (.ops [⟨some 4, none, .mov (.const (.int .i64 0))⟩])
 (.block 0 (.loop (.seq (.seq (.ops [⟨some 8, none, .mov (.tmp 4)⟩, ⟨some 9, none, .mov (.tmp 0)⟩, ⟨some 10, none, .lenSl (.tmp 9)⟩, ⟨some 11, none, .bin .lss 3 (.tmp 8) (.tmp 10)⟩])
 (.cond (.tmp 11) .skip (.exit 0)))
 (.seq (.block 1 (.ops [⟨some 14, none, .mov (.tmp 3)⟩, ⟨some 15, none, .mov (.tmp 4)⟩, ⟨some 16, none, .mov (.tmp 0)⟩, ⟨some 17, none, .mov (.tmp 4)⟩, ⟨some 18, none, .idxSl (.tmp 16) (.tmp 17) 1⟩, ⟨some 19, none, .load (.tmp 18)⟩, ⟨some 20, none, .idxSl (.tmp 14) (.tmp 15) 1⟩, ⟨none, none, .store 1 (.tmp 20) (.tmp 19)⟩]))
 (.ops [⟨some 12, none, .mov (.tmp 4)⟩, ⟨some 13, none, .bin .add 3 (.tmp 12) (.const (.int .i64 1))⟩, ⟨some 4, none, .mov (.tmp 13)⟩]))))))
 (.seq (.ops [⟨some 21, none, .mov (.tmp 3)⟩, ⟨some 2, none, .mov (.tmp 21)⟩])
 .ret))))⟩
theorem s38 : stripF Go.Proofs.Try.prog [] Go.Proofs.Try.f38 = some A38 := by kernel_rfl
theorem en38 : enters Go.Proofs.Try.prog 38 = true := by kernel_rfl
def E38_0 (x0 x3 x4 : Value) (g : Nat → Value) : List Value := [x0, g 1, g 2, x3, x4, g 5, g 6, g 7, g 8, g 9, g 10, g 11, g 12, g 13, g 14, g 15, g 16, g 17, g 18, g 19, g 20, g 21]
theorem rt73a : resOne.aggB Go.Proofs.Try.prog 73 = true := by kernel_rfl
theorem rt73s : resOne.sizeB Go.Proofs.Try.prog 73 = 4 := by kernel_rfl
/-- laws.toNode -/
def A78 : AFn := ⟨18, [.cell 2 73],
 (.seq (.ops [⟨some 1, none, .box false (.tmp 0)⟩, ⟨some 2, none, .new false [.int .i64 0, .string ⟨#[]⟩, .int .i64 0, .slice none 0 0]⟩])
 (.seq (.ops [⟨some 3, none, .new false [.int .i64 0, .string ⟨#[]⟩, .int .i64 0, .slice none 0 0]⟩])
 (.seq (.ops [⟨some 4, none, .fieldAddr (.tmp 1) 0⟩, ⟨some 5, none, .load (.tmp 4)⟩, ⟨some 6, none, .fieldAddr (.tmp 3) 0⟩, ⟨none, none, .store 1 (.tmp 6) (.tmp 5)⟩])
 (.seq (.ops [⟨some 7, none, .fieldAddr (.tmp 1) 1⟩, ⟨some 8, none, .load (.tmp 7)⟩, ⟨some 9, none, .fieldAddr (.tmp 3) 1⟩, ⟨none, none, .store 1 (.tmp 9) (.tmp 8)⟩])
 (.seq (.ops [⟨some 10, none, .fieldAddr (.tmp 1) 2⟩, ⟨some 11, none, .load (.tmp 10)⟩, ⟨some 12, none, .fieldAddr (.tmp 3) 2⟩, ⟨none, none, .store 1 (.tmp 12) (.tmp 11)⟩])
 (.seq (.ops [⟨some 13, none, .fieldAddr (.tmp 1) 3⟩, ⟨some 14, none, .load (.tmp 13)⟩, ⟨some 15, none, .call (.func 38) [.tmp 14]⟩, ⟨some 16, none, .fieldAddr (.tmp 3) 3⟩, ⟨none, none, .store 1 (.tmp 16) (.tmp 15)⟩])
 (.seq (.ops [⟨some 17, none, .loadN (.tmp 3) 4⟩, ⟨none, none, .store 4 (.tmp 2) (.tmp 17)⟩])
 .ret)))))))⟩
theorem s78 : stripF Go.Proofs.Try.prog [] Go.Proofs.Try.f78 = some A78 := by kernel_rfl
theorem en78 : enters Go.Proofs.Try.prog 78 = true := by kernel_rfl
/-- laws.toNodeS -/
def A37 : AFn := ⟨23, [.tmp 2],
 (.seq (.ops [⟨some 2, none, .mov (.const (.slice none 0 0))⟩])
 (.seq (.ops [⟨some 5, none, .mov (.tmp 0)⟩, ⟨some 6, none, .lenSl (.tmp 5)⟩, ⟨some 7, none, .make 4 56 [.int .i64 0, .string ⟨#[]⟩, .int .i64 0, .slice none 0 0] (.tmp 6) (.tmp 6)⟩, ⟨some 3, none, .mov (.tmp 7)⟩])
 (.seq (.seq (.ops [⟨some 4, none, .mov (.const (.int .i64 0))⟩])
 (.block 0 (.loop (.seq (.seq (.ops [⟨some 8, none, .mov (.tmp 4)⟩, ⟨some 9, none, .mov (.tmp 0)⟩, ⟨some 10, none, .lenSl (.tmp 9)⟩, ⟨some 11, none, .bin .lss 3 (.tmp 8) (.tmp 10)⟩])
 (.cond (.tmp 11) .skip (.exit 0)))
 (.seq (.block 1 (.ops [⟨some 14, none, .mov (.tmp 3)⟩, ⟨some 15, none, .mov (.tmp 4)⟩, ⟨some 16, none, .mov (.tmp 0)⟩, ⟨some 17, none, .mov (.tmp 4)⟩, ⟨some 18, none, .idxSl (.tmp 16) (.tmp 17) 4⟩, ⟨some 19, none, .loadN (.tmp 18) 4⟩, ⟨some 20, none, .call (.func 78) [.tmp 19]⟩, ⟨some 21, none, .idxSl (.tmp 14) (.tmp 15) 4⟩, ⟨none, none, .store 4 (.tmp 21) (.tmp 20)⟩]))
 (.ops [⟨some 12, none, .mov (.tmp 4)⟩, ⟨some 13, none, .bin .add 3 (.tmp 12) (.const (.int .i64 1))⟩, ⟨some 4, none, .mov (.tmp 13)⟩]))))))
 (.seq (.ops [⟨some 22, none, .mov (.tmp 3)⟩, ⟨some 2, none, .mov (.tmp 22)⟩])
 .ret))))⟩
theorem s37 : stripF Go.Proofs.Try.prog [] Go.Proofs.Try.f37 = some A37 := by kernel_rfl
theorem en37 : enters Go.Proofs.Try.prog 37 = true := by kernel_rfl
def E37_0 (x0 x3 x4 : Value) (g : Nat → Value) : List Value := [x0, g 1, g 2, x3, x4, g 5, g 6, g 7, g 8, g 9, g 10, g 11, g 12, g 13, g 14, g 15, g 16, g 17, g 18, g 19, g 20, g 21, g 22]
theorem rt27a : resOne.aggB Go.Proofs.Try.prog 27 = true := by kernel_rfl
theorem rt27s : resOne.sizeB Go.Proofs.Try.prog 27 = 2 := by kernel_rfl
/-- laws.toTree -/
def A13 : AFn := ⟨13, [.cell 2 27],
 (.seq (.ops [⟨some 1, none, .box false (.tmp 0)⟩, ⟨some 2, none, .new false [.slice none 0 0, .slice none 0 0]⟩])
 (.seq (.ops [⟨some 3, none, .new false [.slice none 0 0, .slice none 0 0]⟩])
 (.seq (.ops [⟨some 4, none, .fieldAddr (.tmp 1) 0⟩, ⟨some 5, none, .load (.tmp 4)⟩, ⟨some 6, none, .call (.func 37) [.tmp 5]⟩, ⟨some 7, none, .fieldAddr (.tmp 3) 0⟩, ⟨none, none, .store 1 (.tmp 7) (.tmp 6)⟩])
 (.seq (.ops [⟨some 8, none, .fieldAddr (.tmp 1) 1⟩, ⟨some 9, none, .load (.tmp 8)⟩, ⟨some 10, none, .call (.func 38) [.tmp 9]⟩, ⟨some 11, none, .fieldAddr (.tmp 3) 1⟩, ⟨none, none, .store 1 (.tmp 11) (.tmp 10)⟩])
 (.seq (.ops [⟨some 12, none, .loadN (.tmp 3) 2⟩, ⟨none, none, .store 2 (.tmp 2) (.tmp 12)⟩])
 .ret)))))⟩
theorem s13 : stripF Go.Proofs.Try.prog [] Go.Proofs.Try.f13 = some A13 := by kernel_rfl
theorem en13 : enters Go.Proofs.Try.prog 13 = true := by kernel_rfl
/-- impl.within -/
def A80 : AFn := ⟨15, [.tmp 6],
 (.seq (.ops [⟨some 6, none, .mov (.const (.bool false))⟩])
 (.seq (.ops [⟨some 7, none, .mov (.tmp 0)⟩, ⟨some 8, none, .mov (.tmp 1)⟩, ⟨some 9, none, .bin .geq 3 (.tmp 7) (.tmp 8)⟩, ⟨some 10, none, .mov (.tmp 9)⟩, ⟨some 11, some (10, true), .mov (.tmp 0)⟩, ⟨some 12, some (10, true), .mov (.tmp 2)⟩, ⟨some 13, some (10, true), .bin .leq 3 (.tmp 11) (.tmp 12)⟩, ⟨some 14, none, .pick (.tmp 10) (.tmp 13) (.const (.bool false))⟩, ⟨some 6, none, .mov (.tmp 14)⟩])
 .ret))⟩
theorem s80 : stripF Go.Proofs.Try.prog [] Go.Proofs.Try.f80 = some A80 := by kernel_rfl
theorem en80 : enters Go.Proofs.Try.prog 80 = true := by kernel_rfl
/-- impl.run -/
def A48 : AFn := ⟨21, [.tmp 6],
 (.seq (.ops [⟨some 6, none, .mov (.const (.int .i64 0))⟩])
 (.seq (.block 0 (.loop (.seq (.seq (.ops [⟨some 7, none, .mov (.tmp 1)⟩, ⟨some 8, none, .mov (.tmp 0)⟩, ⟨some 9, none, .lenStr (.tmp 8)⟩, ⟨some 10, none, .bin .lss 3 (.tmp 7) (.tmp 9)⟩, ⟨some 11, none, .mov (.tmp 10)⟩, ⟨some 12, some (11, true), .mov (.tmp 2)⟩, ⟨some 13, some (11, true), .mov (.tmp 0)⟩, ⟨some 14, some (11, true), .mov (.tmp 1)⟩, ⟨some 15, some (11, true), .idxStr (.tmp 13) (.tmp 14)⟩, ⟨some 16, some (11, true), .call (.tmp 12) [.tmp 15]⟩, ⟨some 17, none, .pick (.tmp 11) (.tmp 16) (.const (.bool false))⟩])
 (.cond (.tmp 17) .skip (.exit 0)))
 (.block 1 (.ops [⟨some 18, none, .mov (.tmp 1)⟩, ⟨some 19, none, .bin .add 3 (.tmp 18) (.const (.int .i64 1))⟩, ⟨some 1, none, .mov (.tmp 19)⟩])))))
 (.seq (.ops [⟨some 20, none, .mov (.tmp 1)⟩, ⟨some 6, none, .mov (.tmp 20)⟩])
 .ret)))⟩
theorem s48 : stripF Go.Proofs.Try.prog [] Go.Proofs.Try.f48 = some A48 := by kernel_rfl
theorem en48 : enters Go.Proofs.Try.prog 48 = true := by kernel_rfl
def E48_0 (x0 x1 x2 : Value) (g : Nat → Value) : List Value := [x0, x1, x2, g 3, g 4, g 5, g 6, g 7, g 8, g 9, g 10, g 11, g 12, g 13, g 14, g 15, g 16, g 17, g 18, g 19, g 20]
/-- impl.isDigit -/
def A90 : AFn := ⟨9, [.tmp 2],
 (.seq (.ops [⟨some 2, none, .mov (.const (.bool false))⟩])
 (.seq (.ops [⟨some 3, none, .mov (.tmp 0)⟩, ⟨some 4, none, .bin .geq 5 (.tmp 3) (.const (.int .u8 48))⟩, ⟨some 5, none, .mov (.tmp 4)⟩, ⟨some 6, some (5, true), .mov (.tmp 0)⟩, ⟨some 7, some (5, true), .bin .leq 5 (.tmp 6) (.const (.int .u8 57))⟩, ⟨some 8, none, .pick (.tmp 5) (.tmp 7) (.const (.bool false))⟩, ⟨some 2, none, .mov (.tmp 8)⟩])
 .ret))⟩
theorem s90 : stripF Go.Proofs.Try.prog [] Go.Proofs.Try.f90 = some A90 := by kernel_rfl
theorem en90 : enters Go.Proofs.Try.prog 90 = true := by kernel_rfl
/-- impl.plain -/
def A129 : AFn := ⟨26, [.tmp 4],
 (.seq (.ops [⟨some 4, none, .mov (.const (.bool false))⟩])
 (.seq (.ops [⟨some 5, none, .mov (.tmp 0)⟩, ⟨some 6, none, .lenStr (.tmp 5)⟩, ⟨some 7, none, .mov (.tmp 1)⟩, ⟨some 8, none, .call (.func 80) [.tmp 6, .const (.int .i64 1), .tmp 7]⟩, ⟨some 9, none, .mov (.tmp 8)⟩, ⟨some 10, some (9, true), .mov (.tmp 0)⟩, ⟨some 11, some (9, true), .call (.func 48) [.tmp 10, .const (.int .i64 0), .func 90]⟩, ⟨some 12, some (9, true), .mov (.tmp 0)⟩, ⟨some 13, some (9, true), .lenStr (.tmp 12)⟩, ⟨some 14, some (9, true), .bin .eql 3 (.tmp 11) (.tmp 13)⟩, ⟨some 15, none, .pick (.tmp 9) (.tmp 14) (.const (.bool false))⟩, ⟨some 16, none, .mov (.tmp 15)⟩, ⟨some 17, some (16, true), .mov (.tmp 0)⟩, ⟨some 18, some (16, true), .lenStr (.tmp 17)⟩, ⟨some 19, some (16, true), .bin .eql 3 (.tmp 18) (.const (.int .i64 1))⟩, ⟨some 20, some (16, true), .mov (.tmp 19)⟩, ⟨some 21, some (20, false), .mov (.tmp 0)⟩, ⟨some 22, some (20, false), .idxStr (.tmp 21) (.const (.int .i64 0))⟩, ⟨some 23, some (20, false), .bin .neq 5 (.tmp 22) (.const (.int .u8 48))⟩, ⟨some 24, some (16, true), .pick (.tmp 20) (.const (.bool true)) (.tmp 23)⟩, ⟨some 25, none, .pick (.tmp 16) (.tmp 24) (.const (.bool false))⟩, ⟨some 4, none, .mov (.tmp 25)⟩])
 .ret))⟩
theorem s129 : stripF Go.Proofs.Try.prog [] Go.Proofs.Try.f129 = some A129 := by kernel_rfl
theorem en129 : enters Go.Proofs.Try.prog 129 = true := by kernel_rfl
/-- impl.number -/
def A130 : AFn := ⟨20, [.tmp 2],
 (.seq (.ops [⟨some 2, none, .mov (.const (.int .i64 0))⟩])
 (.seq (.ops [⟨some 3, none, .mov (.const (.int .i64 0))⟩])
 (.seq (.seq (.ops [⟨some 4, none, .mov (.const (.int .i64 0))⟩])
 (.block 0 (.loop (.seq (.seq (.ops [⟨some 5, none, .mov (.tmp 4)⟩, ⟨some 6, none, .mov (.tmp 0)⟩, ⟨some 7, none, .lenStr (.tmp 6)⟩, ⟨some 8, none, .bin .lss 3 (.tmp 5) (.tmp 7)⟩])
 (.cond (.tmp 8) .skip (.exit 0)))
 (.seq (.block 1 (.ops [⟨some 11, none, .mov (.tmp 3)⟩, ⟨some 12, none, .bin .mul 3 (.const (.int .i64 10)) (.tmp 11)⟩, ⟨some 13, none, .mov (.tmp 0)⟩, ⟨some 14, none, .mov (.tmp 4)⟩, ⟨some 15, none, .idxStr (.tmp 13) (.tmp 14)⟩, ⟨some 16, none, .bin .sub 5 (.tmp 15) (.const (.int .u8 48))⟩, ⟨some 17, none, .convI .i64 (.tmp 16)⟩, ⟨some 18, none, .bin .add 3 (.tmp 12) (.tmp 17)⟩, ⟨some 3, none, .mov (.tmp 18)⟩]))
 (.ops [⟨some 9, none, .mov (.tmp 4)⟩, ⟨some 10, none, .bin .add 3 (.tmp 9) (.const (.int .i64 1))⟩, ⟨some 4, none, .mov (.tmp 10)⟩]))))))
 (.seq (.ops [⟨some 19, none, .mov (.tmp 3)⟩, ⟨some 2, none, .mov (.tmp 19)⟩])
 .ret))))⟩
theorem s130 : stripF Go.Proofs.Try.prog [] Go.Proofs.Try.f130 = some A130 := by kernel_rfl
theorem en130 : enters Go.Proofs.Try.prog 130 = true := by kernel_rfl
def E130_0 (x0 x3 x4 : Value) (g : Nat → Value) : List Value := [x0, g 1, g 2, x3, x4, g 5, g 6, g 7, g 8, g 9, g 10, g 11, g 12, g 13, g 14, g 15, g 16, g 17, g 18, g 19]
/-- impl.RealOf -/
def A128 : AFn := ⟨57, [.tmp 2, .tmp 3],
 (.seq (.ops [⟨some 2, none, .mov (.const (.float .f64 0))⟩, ⟨some 3, none, .mov (.const (.bool false))⟩])
 (.seq (.ops [⟨some 8, none, .mov (.tmp 0)⟩, ⟨some 9, none, .call (.func 48) [.tmp 8, .const (.int .i64 0), .func 90]⟩, ⟨some 4, none, .mov (.tmp 9)⟩])
 (.seq (.seq (.ops [⟨some 10, none, .mov (.tmp 4)⟩, ⟨some 11, none, .mov (.tmp 0)⟩, ⟨some 12, none, .lenStr (.tmp 11)⟩, ⟨some 13, none, .bin .geq 3 (.tmp 10) (.tmp 12)⟩, ⟨some 14, none, .mov (.tmp 13)⟩, ⟨some 15, some (14, false), .mov (.tmp 0)⟩, ⟨some 16, some (14, false), .mov (.tmp 4)⟩, ⟨some 17, some (14, false), .idxStr (.tmp 15) (.tmp 16)⟩, ⟨some 18, some (14, false), .bin .neq 5 (.tmp 17) (.const (.int .u8 46))⟩, ⟨some 19, none, .pick (.tmp 14) (.const (.bool true)) (.tmp 18)⟩])
 (.cond (.tmp 19) (.seq (.ops [⟨some 2, none, .mov (.const (.float .f64 0))⟩, ⟨some 3, none, .mov (.const (.bool false))⟩])
 .ret) .skip))
 (.seq (.ops [⟨some 20, none, .mov (.tmp 0)⟩, ⟨some 21, none, .mov (.tmp 4)⟩, ⟨some 22, none, .slStr (.tmp 20) none (some (.tmp 21))⟩, ⟨some 23, none, .mov (.tmp 0)⟩, ⟨some 24, none, .mov (.tmp 4)⟩, ⟨some 25, none, .bin .add 3 (.tmp 24) (.const (.int .i64 1))⟩, ⟨some 26, none, .slStr (.tmp 23) (some (.tmp 25)) none⟩, ⟨some 5, none, .mov (.tmp 22)⟩, ⟨some 6, none, .mov (.tmp 26)⟩])
 (.seq (.seq (.ops [⟨some 27, none, .mov (.tmp 5)⟩, ⟨some 28, none, .call (.func 129) [.tmp 27, .const (.int .i64 9)]⟩, ⟨some 29, none, .un .not (.tmp 28)⟩, ⟨some 30, none, .mov (.tmp 29)⟩, ⟨some 31, some (30, false), .mov (.tmp 6)⟩, ⟨some 32, some (30, false), .lenStr (.tmp 31)⟩, ⟨some 33, some (30, false), .call (.func 80) [.tmp 32, .const (.int .i64 1), .const (.int .i64 6)]⟩, ⟨some 34, some (30, false), .un .not (.tmp 33)⟩, ⟨some 35, none, .pick (.tmp 30) (.const (.bool true)) (.tmp 34)⟩, ⟨some 36, none, .mov (.tmp 35)⟩, ⟨some 37, some (36, false), .mov (.tmp 6)⟩, ⟨some 38, some (36, false), .call (.func 48) [.tmp 37, .const (.int .i64 0), .func 90]⟩, ⟨some 39, some (36, false), .mov (.tmp 6)⟩, ⟨some 40, some (36, false), .lenStr (.tmp 39)⟩, ⟨some 41, some (36, false), .bin .neq 3 (.tmp 38) (.tmp 40)⟩, ⟨some 42, none, .pick (.tmp 36) (.const (.bool true)) (.tmp 41)⟩])
 (.cond (.tmp 42) (.seq (.ops [⟨some 2, none, .mov (.const (.float .f64 0))⟩, ⟨some 3, none, .mov (.const (.bool false))⟩])
 .ret) .skip))
 (.seq (.ops [⟨some 7, none, .mov (.const (.float .f64 4607182418800017408))⟩])
 (.seq (.seq (.ops [⟨some 43, none, .mov (.tmp 6)⟩, ⟨some 44, none, .lenStr (.tmp 43)⟩, ⟨some 45, none, .mov (.const (.int .i64 0))⟩])
 (.block 0 (.loop (.seq (.ops [⟨some 46, none, .bin .lss 3 (.tmp 45) (.tmp 44)⟩])
 (.seq (.cond (.tmp 46) .skip (.exit 0))
 (.seq (.block 1 (.ops [⟨some 47, none, .mov (.tmp 7)⟩, ⟨some 48, none, .bin .mul 46 (.const (.float .f64 4621819117588971520)) (.tmp 47)⟩, ⟨some 7, none, .mov (.tmp 48)⟩]))
 (.ops [⟨some 49, none, .bin .add 3 (.tmp 45) (.const (.int .i64 1))⟩, ⟨some 45, none, .mov (.tmp 49)⟩])))))))
 (.seq (.ops [⟨some 50, none, .mov (.tmp 5)⟩, ⟨some 51, none, .mov (.tmp 6)⟩, ⟨some 52, none, .bin .add 9 (.tmp 50) (.tmp 51)⟩, ⟨some 53, none, .call (.func 130) [.tmp 52]⟩, ⟨some 54, none, .convP 3 46 (.tmp 53)⟩, ⟨some 55, none, .mov (.tmp 7)⟩, ⟨some 56, none, .bin .quo 46 (.tmp 54) (.tmp 55)⟩, ⟨some 2, none, .mov (.tmp 56)⟩, ⟨some 3, none, .mov (.const (.bool true))⟩])
 .ret))))))))⟩
theorem s128 : stripF Go.Proofs.Try.prog [] Go.Proofs.Try.f128 = some A128 := by kernel_rfl
theorem en128 : enters Go.Proofs.Try.prog 128 = true := by kernel_rfl
def E128_0 (x5 x6 x7 x44 x45 : Value) (g : Nat → Value) : List Value := [g 0, g 1, g 2, g 3, g 4, x5, x6, x7, g 8, g 9, g 10, g 11, g 12, g 13, g 14, g 15, g 16, g 17, g 18, g 19, g 20, g 21, g 22, g 23, g 24, g 25, g 26, g 27, g 28, g 29, g 30, g 31, g 32, g 33, g 34, g 35, g 36, g 37, g 38, g 39, g 40, g 41, g 42, g 43, x44, x45, g 46, g 47, g 48, g 49, g 50, g 51, g 52, g 53, g 54, g 55, g 56]
/-- impl.isLetter -/
def A88 : AFn := ⟨17, [.tmp 2],
 (.seq (.ops [⟨some 2, none, .mov (.const (.bool false))⟩])
 (.seq (.ops [⟨some 3, none, .mov (.tmp 0)⟩, ⟨some 4, none, .bin .geq 5 (.tmp 3) (.const (.int .u8 97))⟩, ⟨some 5, none, .mov (.tmp 4)⟩, ⟨some 6, some (5, true), .mov (.tmp 0)⟩, ⟨some 7, some (5, true), .bin .leq 5 (.tmp 6) (.const (.int .u8 122))⟩, ⟨some 8, none, .pick (.tmp 5) (.tmp 7) (.const (.bool false))⟩, ⟨some 9, none, .mov (.tmp 8)⟩, ⟨some 10, some (9, false), .mov (.tmp 0)⟩, ⟨some 11, some (9, false), .bin .geq 5 (.tmp 10) (.const (.int .u8 65))⟩, ⟨some 12, some (9, false), .mov (.tmp 11)⟩, ⟨some 13, some (12, true), .mov (.tmp 0)⟩, ⟨some 14, some (12, true), .bin .leq 5 (.tmp 13) (.const (.int .u8 90))⟩, ⟨some 15, some (9, false), .pick (.tmp 12) (.tmp 14) (.const (.bool false))⟩, ⟨some 16, none, .pick (.tmp 9) (.const (.bool true)) (.tmp 15)⟩, ⟨some 2, none, .mov (.tmp 16)⟩])
 .ret))⟩
theorem s88 : stripF Go.Proofs.Try.prog [] Go.Proofs.Try.f88 = some A88 := by kernel_rfl
theorem en88 : enters Go.Proofs.Try.prog 88 = true := by kernel_rfl
/-- impl.IsWord -/
def A89 : AFn := ⟨37, [.tmp 2],
 (.seq (.ops [⟨some 2, none, .mov (.const (.bool false))⟩])
 (.seq (.seq (.ops [⟨some 3, none, .mov (.tmp 0)⟩])
 (.block 0 (.seq (.seq (.ops [⟨some 5, none, .bin .eql 9 (.tmp 3) (.const (.string ⟨#[115, 121, 115, 116, 101, 109]⟩))⟩, ⟨some 4, none, .mov (.tmp 5)⟩])
 (.cond (.tmp 4) .skip (.seq (.ops [⟨some 6, none, .bin .eql 9 (.tmp 3) (.const (.string ⟨#[102, 110]⟩))⟩, ⟨some 4, none, .mov (.tmp 6)⟩])
 (.cond (.tmp 4) .skip (.seq (.ops [⟨some 7, none, .bin .eql 9 (.tmp 3) (.const (.string ⟨#[108, 101, 116]⟩))⟩, ⟨some 4, none, .mov (.tmp 7)⟩])
 (.cond (.tmp 4) .skip (.seq (.ops [⟨some 8, none, .bin .eql 9 (.tmp 3) (.const (.string ⟨#[105, 102]⟩))⟩, ⟨some 4, none, .mov (.tmp 8)⟩])
 (.cond (.tmp 4) .skip (.seq (.ops [⟨some 9, none, .bin .eql 9 (.tmp 3) (.const (.string ⟨#[101, 108, 115, 101]⟩))⟩, ⟨some 4, none, .mov (.tmp 9)⟩])
 (.cond (.tmp 4) .skip (.seq (.ops [⟨some 10, none, .bin .eql 9 (.tmp 3) (.const (.string ⟨#[108, 111, 111, 112]⟩))⟩, ⟨some 4, none, .mov (.tmp 10)⟩])
 (.cond (.tmp 4) .skip (.seq (.ops [⟨some 11, none, .bin .eql 9 (.tmp 3) (.const (.string ⟨#[101, 97, 99, 104]⟩))⟩, ⟨some 4, none, .mov (.tmp 11)⟩])
 (.cond (.tmp 4) .skip (.seq (.ops [⟨some 12, none, .bin .eql 9 (.tmp 3) (.const (.string ⟨#[119, 105, 116, 104]⟩))⟩, ⟨some 4, none, .mov (.tmp 12)⟩])
 (.cond (.tmp 4) .skip (.seq (.ops [⟨some 13, none, .bin .eql 9 (.tmp 3) (.const (.string ⟨#[119, 105, 116, 104, 111, 117, 116]⟩))⟩, ⟨some 4, none, .mov (.tmp 13)⟩])
 (.cond (.tmp 4) .skip (.seq (.ops [⟨some 14, none, .bin .eql 9 (.tmp 3) (.const (.string ⟨#[101, 109, 105, 116]⟩))⟩, ⟨some 4, none, .mov (.tmp 14)⟩])
 (.cond (.tmp 4) .skip (.seq (.ops [⟨some 15, none, .bin .eql 9 (.tmp 3) (.const (.string ⟨#[104, 101, 97, 114]⟩))⟩, ⟨some 4, none, .mov (.tmp 15)⟩])
 (.cond (.tmp 4) .skip (.seq (.ops [⟨some 16, none, .bin .eql 9 (.tmp 3) (.const (.string ⟨#[97, 115]⟩))⟩, ⟨some 4, none, .mov (.tmp 16)⟩])
 (.cond (.tmp 4) .skip (.seq (.ops [⟨some 17, none, .bin .eql 9 (.tmp 3) (.const (.string ⟨#[115, 112, 97, 119, 110]⟩))⟩, ⟨some 4, none, .mov (.tmp 17)⟩])
 (.cond (.tmp 4) .skip (.seq (.ops [⟨some 18, none, .bin .eql 9 (.tmp 3) (.const (.string ⟨#[107, 105, 108, 108]⟩))⟩, ⟨some 4, none, .mov (.tmp 18)⟩])
 (.cond (.tmp 4) .skip (.seq (.ops [⟨some 19, none, .bin .eql 9 (.tmp 3) (.const (.string ⟨#[112, 117, 116]⟩))⟩, ⟨some 4, none, .mov (.tmp 19)⟩])
 (.cond (.tmp 4) .skip (.seq (.ops [⟨some 20, none, .bin .eql 9 (.tmp 3) (.const (.string ⟨#[100, 114, 111, 112]⟩))⟩, ⟨some 4, none, .mov (.tmp 20)⟩])
 (.cond (.tmp 4) .skip (.seq (.ops [⟨some 21, none, .bin .eql 9 (.tmp 3) (.const (.string ⟨#[100, 111]⟩))⟩, ⟨some 4, none, .mov (.tmp 21)⟩])
 (.cond (.tmp 4) .skip (.seq (.ops [⟨some 22, none, .bin .eql 9 (.tmp 3) (.const (.string ⟨#[114, 101, 116, 117, 114, 110]⟩))⟩, ⟨some 4, none, .mov (.tmp 22)⟩])
 (.cond (.tmp 4) .skip (.seq (.ops [⟨some 23, none, .bin .eql 9 (.tmp 3) (.const (.string ⟨#[112, 105, 99, 107]⟩))⟩, ⟨some 4, none, .mov (.tmp 23)⟩])
 (.cond (.tmp 4) .skip (.seq (.ops [⟨some 24, none, .bin .eql 9 (.tmp 3) (.const (.string ⟨#[111, 102]⟩))⟩, ⟨some 4, none, .mov (.tmp 24)⟩])
 (.cond (.tmp 4) .skip (.seq (.ops [⟨some 25, none, .bin .eql 9 (.tmp 3) (.const (.string ⟨#[121, 101, 115]⟩))⟩, ⟨some 4, none, .mov (.tmp 25)⟩])
 (.cond (.tmp 4) .skip (.seq (.ops [⟨some 26, none, .bin .eql 9 (.tmp 3) (.const (.string ⟨#[110, 111]⟩))⟩, ⟨some 4, none, .mov (.tmp 26)⟩])
 (.cond (.tmp 4) .skip (.seq (.ops [⟨some 27, none, .bin .eql 9 (.tmp 3) (.const (.string ⟨#[97, 110, 100]⟩))⟩, ⟨some 4, none, .mov (.tmp 27)⟩])
 (.cond (.tmp 4) .skip (.seq (.ops [⟨some 28, none, .bin .eql 9 (.tmp 3) (.const (.string ⟨#[111, 114]⟩))⟩, ⟨some 4, none, .mov (.tmp 28)⟩])
 (.cond (.tmp 4) .skip (.seq (.ops [⟨some 29, none, .bin .eql 9 (.tmp 3) (.const (.string ⟨#[110, 111, 116]⟩))⟩, ⟨some 4, none, .mov (.tmp 29)⟩])
 (.cond (.tmp 4) .skip (.seq (.ops [⟨some 30, none, .bin .eql 9 (.tmp 3) (.const (.string ⟨#[105, 110, 116]⟩))⟩, ⟨some 4, none, .mov (.tmp 30)⟩])
 (.cond (.tmp 4) .skip (.seq (.ops [⟨some 31, none, .bin .eql 9 (.tmp 3) (.const (.string ⟨#[114, 101, 97, 108]⟩))⟩, ⟨some 4, none, .mov (.tmp 31)⟩])
 (.cond (.tmp 4) .skip (.seq (.ops [⟨some 32, none, .bin .eql 9 (.tmp 3) (.const (.string ⟨#[112, 97, 105, 114]⟩))⟩, ⟨some 4, none, .mov (.tmp 32)⟩])
 (.cond (.tmp 4) .skip (.seq (.ops [⟨some 33, none, .bin .eql 9 (.tmp 3) (.const (.string ⟨#[98, 111, 111, 108]⟩))⟩, ⟨some 4, none, .mov (.tmp 33)⟩])
 (.cond (.tmp 4) .skip (.seq (.ops [⟨some 34, none, .bin .eql 9 (.tmp 3) (.const (.string ⟨#[114, 101]⟩))⟩, ⟨some 4, none, .mov (.tmp 34)⟩])
 (.cond (.tmp 4) .skip (.seq (.ops [⟨some 35, none, .bin .eql 9 (.tmp 3) (.const (.string ⟨#[105, 109]⟩))⟩, ⟨some 4, none, .mov (.tmp 35)⟩])
 (.cond (.tmp 4) .skip (.ops [⟨some 36, none, .bin .eql 9 (.tmp 3) (.const (.string ⟨#[115, 105, 122, 101]⟩))⟩, ⟨some 4, none, .mov (.tmp 36)⟩])))))))))))))))))))))))))))))))))))))))))))))))))))))))))))))))
 (.cond (.tmp 4) (.seq (.ops [⟨some 2, none, .mov (.const (.bool true))⟩])
 .ret) .skip))))
 (.seq (.ops [⟨some 2, none, .mov (.const (.bool false))⟩])
 .ret)))⟩
theorem s89 : stripF Go.Proofs.Try.prog [] Go.Proofs.Try.f89 = some A89 := by kernel_rfl
theorem en89 : enters Go.Proofs.Try.prog 89 = true := by kernel_rfl
/-- impl.NameOk -/
def A143 : AFn := ⟨23, [.tmp 2],
 (.seq (.ops [⟨some 2, none, .mov (.const (.bool false))⟩])
 (.seq (.seq (.ops [⟨some 3, none, .mov (.const (.int .i64 0))⟩])
 (.block 0 (.loop (.seq (.seq (.ops [⟨some 4, none, .mov (.tmp 3)⟩, ⟨some 5, none, .mov (.tmp 0)⟩, ⟨some 6, none, .lenStr (.tmp 5)⟩, ⟨some 7, none, .bin .lss 3 (.tmp 4) (.tmp 6)⟩])
 (.cond (.tmp 7) .skip (.exit 0)))
 (.seq (.block 1 (.seq (.ops [⟨some 10, none, .mov (.tmp 0)⟩, ⟨some 11, none, .mov (.tmp 3)⟩, ⟨some 12, none, .idxStr (.tmp 10) (.tmp 11)⟩, ⟨some 13, none, .call (.func 88) [.tmp 12]⟩, ⟨some 14, none, .un .not (.tmp 13)⟩])
 (.cond (.tmp 14) (.seq (.ops [⟨some 2, none, .mov (.const (.bool false))⟩])
 .ret) .skip)))
 (.ops [⟨some 8, none, .mov (.tmp 3)⟩, ⟨some 9, none, .bin .add 3 (.tmp 8) (.const (.int .i64 1))⟩, ⟨some 3, none, .mov (.tmp 9)⟩]))))))
 (.seq (.ops [⟨some 15, none, .mov (.tmp 0)⟩, ⟨some 16, none, .lenStr (.tmp 15)⟩, ⟨some 17, none, .call (.func 80) [.tmp 16, .const (.int .i64 1), .const (.int .i64 12)]⟩, ⟨some 18, none, .mov (.tmp 17)⟩, ⟨some 19, some (18, true), .mov (.tmp 0)⟩, ⟨some 20, some (18, true), .call (.func 89) [.tmp 19]⟩, ⟨some 21, some (18, true), .un .not (.tmp 20)⟩, ⟨some 22, none, .pick (.tmp 18) (.tmp 21) (.const (.bool false))⟩, ⟨some 2, none, .mov (.tmp 22)⟩])
 .ret)))⟩
theorem s143 : stripF Go.Proofs.Try.prog [] Go.Proofs.Try.f143 = some A143 := by kernel_rfl
theorem en143 : enters Go.Proofs.Try.prog 143 = true := by kernel_rfl
def E143_0 (x0 x3 : Value) (g : Nat → Value) : List Value := [x0, g 1, g 2, x3, g 4, g 5, g 6, g 7, g 8, g 9, g 10, g 11, g 12, g 13, g 14, g 15, g 16, g 17, g 18, g 19, g 20, g 21, g 22]
/-- impl.textOk -/
def A118 : AFn := ⟨40, [.tmp 2],
 (.seq (.ops [⟨some 1, none, .box false (.tmp 0)⟩, ⟨some 2, none, .mov (.const (.bool false))⟩])
 (.seq (.seq (.ops [⟨some 5, none, .fieldAddr (.tmp 1) 0⟩, ⟨some 6, none, .load (.tmp 5)⟩])
 (.block 0 (.seq (.ops [⟨some 8, none, .bin .eql 3 (.tmp 6) (.const (.int .i64 2))⟩, ⟨some 7, none, .mov (.tmp 8)⟩])
 (.cond (.tmp 7) (.seq (.ops [⟨some 10, none, .fieldAddr (.tmp 1) 1⟩, ⟨some 11, none, .load (.tmp 10)⟩, ⟨some 12, none, .call (.func 128) [.tmp 11]⟩, ⟨some 9, none, .mov (.tmp 12)⟩, ⟨some 13, none, .extract (.tmp 9) 0⟩, ⟨some 14, none, .extract (.tmp 9) 1⟩, ⟨some 3, none, .mov (.tmp 13)⟩, ⟨some 4, none, .mov (.tmp 14)⟩])
 (.seq (.ops [⟨some 15, none, .mov (.tmp 4)⟩, ⟨some 2, none, .mov (.tmp 15)⟩])
 .ret)) (.seq (.seq (.ops [⟨some 17, none, .bin .eql 3 (.tmp 6) (.const (.int .i64 4))⟩, ⟨some 16, none, .mov (.tmp 17)⟩])
 (.cond (.tmp 16) .skip (.seq (.ops [⟨some 18, none, .bin .eql 3 (.tmp 6) (.const (.int .i64 5))⟩, ⟨some 16, none, .mov (.tmp 18)⟩])
 (.cond (.tmp 16) .skip (.seq (.ops [⟨some 19, none, .bin .eql 3 (.tmp 6) (.const (.int .i64 6))⟩, ⟨some 16, none, .mov (.tmp 19)⟩])
 (.cond (.tmp 16) .skip (.seq (.ops [⟨some 20, none, .bin .eql 3 (.tmp 6) (.const (.int .i64 7))⟩, ⟨some 16, none, .mov (.tmp 20)⟩])
 (.cond (.tmp 16) .skip (.seq (.ops [⟨some 21, none, .bin .eql 3 (.tmp 6) (.const (.int .i64 12))⟩, ⟨some 16, none, .mov (.tmp 21)⟩])
 (.cond (.tmp 16) .skip (.seq (.ops [⟨some 22, none, .bin .eql 3 (.tmp 6) (.const (.int .i64 13))⟩, ⟨some 16, none, .mov (.tmp 22)⟩])
 (.cond (.tmp 16) .skip (.seq (.ops [⟨some 23, none, .bin .eql 3 (.tmp 6) (.const (.int .i64 14))⟩, ⟨some 16, none, .mov (.tmp 23)⟩])
 (.cond (.tmp 16) .skip (.seq (.ops [⟨some 24, none, .bin .eql 3 (.tmp 6) (.const (.int .i64 15))⟩, ⟨some 16, none, .mov (.tmp 24)⟩])
 (.cond (.tmp 16) .skip (.seq (.ops [⟨some 25, none, .bin .eql 3 (.tmp 6) (.const (.int .i64 19))⟩, ⟨some 16, none, .mov (.tmp 25)⟩])
 (.cond (.tmp 16) .skip (.seq (.ops [⟨some 26, none, .bin .eql 3 (.tmp 6) (.const (.int .i64 20))⟩, ⟨some 16, none, .mov (.tmp 26)⟩])
 (.cond (.tmp 16) .skip (.seq (.ops [⟨some 27, none, .bin .eql 3 (.tmp 6) (.const (.int .i64 23))⟩, ⟨some 16, none, .mov (.tmp 27)⟩])
 (.cond (.tmp 16) .skip (.seq (.ops [⟨some 28, none, .bin .eql 3 (.tmp 6) (.const (.int .i64 24))⟩, ⟨some 16, none, .mov (.tmp 28)⟩])
 (.cond (.tmp 16) .skip (.seq (.ops [⟨some 29, none, .bin .eql 3 (.tmp 6) (.const (.int .i64 28))⟩, ⟨some 16, none, .mov (.tmp 29)⟩])
 (.cond (.tmp 16) .skip (.seq (.ops [⟨some 30, none, .bin .eql 3 (.tmp 6) (.const (.int .i64 31))⟩, ⟨some 16, none, .mov (.tmp 30)⟩])
 (.cond (.tmp 16) .skip (.seq (.ops [⟨some 31, none, .bin .eql 3 (.tmp 6) (.const (.int .i64 32))⟩, ⟨some 16, none, .mov (.tmp 31)⟩])
 (.cond (.tmp 16) .skip (.seq (.ops [⟨some 32, none, .bin .eql 3 (.tmp 6) (.const (.int .i64 33))⟩, ⟨some 16, none, .mov (.tmp 32)⟩])
 (.cond (.tmp 16) .skip (.ops [⟨some 33, none, .bin .eql 3 (.tmp 6) (.const (.int .i64 34))⟩, ⟨some 16, none, .mov (.tmp 33)⟩])))))))))))))))))))))))))))))))))
 (.cond (.tmp 16) (.seq (.ops [⟨some 34, none, .fieldAddr (.tmp 1) 1⟩, ⟨some 35, none, .load (.tmp 34)⟩, ⟨some 36, none, .call (.func 143) [.tmp 35]⟩, ⟨some 2, none, .mov (.tmp 36)⟩])
 .ret) .skip))))))
 (.seq (.ops [⟨some 37, none, .fieldAddr (.tmp 1) 1⟩, ⟨some 38, none, .load (.tmp 37)⟩, ⟨some 39, none, .bin .eql 9 (.tmp 38) (.const (.string ⟨#[]⟩))⟩, ⟨some 2, none, .mov (.tmp 39)⟩])
 .ret)))⟩
theorem s118 : stripF Go.Proofs.Try.prog [] Go.Proofs.Try.f118 = some A118 := by kernel_rfl
theorem en118 : enters Go.Proofs.Try.prog 118 = true := by kernel_rfl
/-- impl.isKind -/
def A144 : AFn := ⟨5, [.tmp 2],
 (.seq (.ops [⟨some 2, none, .mov (.const (.bool false))⟩])
 (.seq (.ops [⟨some 3, none, .mov (.tmp 0)⟩, ⟨some 4, none, .call (.func 80) [.tmp 3, .const (.int .i64 1), .const (.int .i64 4)]⟩, ⟨some 2, none, .mov (.tmp 4)⟩])
 .ret))⟩
theorem s144 : stripF Go.Proofs.Try.prog [] Go.Proofs.Try.f144 = some A144 := by kernel_rfl
theorem en144 : enters Go.Proofs.Try.prog 144 = true := by kernel_rfl
/-- impl.numberOk -/
def A119 : AFn := ⟨34, [.tmp 2],
 (.seq (.ops [⟨some 1, none, .box false (.tmp 0)⟩, ⟨some 2, none, .mov (.const (.bool false))⟩])
 (.seq (.seq (.ops [⟨some 3, none, .fieldAddr (.tmp 1) 0⟩, ⟨some 4, none, .load (.tmp 3)⟩])
 (.block 0 (.seq (.ops [⟨some 6, none, .bin .eql 3 (.tmp 4) (.const (.int .i64 1))⟩, ⟨some 5, none, .mov (.tmp 6)⟩])
 (.cond (.tmp 5) (.seq (.ops [⟨some 7, none, .fieldAddr (.tmp 1) 2⟩, ⟨some 8, none, .load (.tmp 7)⟩, ⟨some 9, none, .call (.func 80) [.tmp 8, .const (.int .i64 0), .const (.int .i64 999999999999999)]⟩, ⟨some 2, none, .mov (.tmp 9)⟩])
 .ret) (.seq (.ops [⟨some 11, none, .bin .eql 3 (.tmp 4) (.const (.int .i64 3))⟩, ⟨some 10, none, .mov (.tmp 11)⟩])
 (.cond (.tmp 10) (.seq (.ops [⟨some 12, none, .fieldAddr (.tmp 1) 2⟩, ⟨some 13, none, .load (.tmp 12)⟩, ⟨some 14, none, .call (.func 80) [.tmp 13, .const (.int .i64 0), .const (.int .i64 1)]⟩, ⟨some 2, none, .mov (.tmp 14)⟩])
 .ret) (.seq (.ops [⟨some 16, none, .bin .eql 3 (.tmp 4) (.const (.int .i64 8))⟩, ⟨some 15, none, .mov (.tmp 16)⟩])
 (.cond (.tmp 15) (.seq (.ops [⟨some 17, none, .fieldAddr (.tmp 1) 2⟩, ⟨some 18, none, .load (.tmp 17)⟩, ⟨some 19, none, .call (.func 80) [.tmp 18, .const (.int .i64 1), .const (.int .i64 9)]⟩, ⟨some 2, none, .mov (.tmp 19)⟩])
 .ret) (.seq (.ops [⟨some 21, none, .bin .eql 3 (.tmp 4) (.const (.int .i64 9))⟩, ⟨some 20, none, .mov (.tmp 21)⟩])
 (.cond (.tmp 20) (.seq (.ops [⟨some 22, none, .fieldAddr (.tmp 1) 2⟩, ⟨some 23, none, .load (.tmp 22)⟩, ⟨some 24, none, .call (.func 80) [.tmp 23, .const (.int .i64 1), .const (.int .i64 6)]⟩, ⟨some 2, none, .mov (.tmp 24)⟩])
 .ret) (.seq (.seq (.ops [⟨some 26, none, .bin .eql 3 (.tmp 4) (.const (.int .i64 32))⟩, ⟨some 25, none, .mov (.tmp 26)⟩])
 (.cond (.tmp 25) .skip (.ops [⟨some 27, none, .bin .eql 3 (.tmp 4) (.const (.int .i64 33))⟩, ⟨some 25, none, .mov (.tmp 27)⟩])))
 (.cond (.tmp 25) (.seq (.ops [⟨some 28, none, .fieldAddr (.tmp 1) 2⟩, ⟨some 29, none, .load (.tmp 28)⟩, ⟨some 30, none, .call (.func 144) [.tmp 29]⟩, ⟨some 2, none, .mov (.tmp 30)⟩])
 .ret) .skip))))))))))))
 (.seq (.ops [⟨some 31, none, .fieldAddr (.tmp 1) 2⟩, ⟨some 32, none, .load (.tmp 31)⟩, ⟨some 33, none, .bin .eql 3 (.tmp 32) (.const (.int .i64 0))⟩, ⟨some 2, none, .mov (.tmp 33)⟩])
 .ret)))⟩
theorem s119 : stripF Go.Proofs.Try.prog [] Go.Proofs.Try.f119 = some A119 := by kernel_rfl
theorem en119 : enters Go.Proofs.Try.prog 119 = true := by kernel_rfl
/-- impl.isExpr -/
def A120 : AFn := ⟨5, [.tmp 2],
 (.seq (.ops [⟨some 2, none, .mov (.const (.bool false))⟩])
 (.seq (.ops [⟨some 3, none, .mov (.tmp 0)⟩, ⟨some 4, none, .call (.func 80) [.tmp 3, .const (.int .i64 1), .const (.int .i64 11)]⟩, ⟨some 2, none, .mov (.tmp 4)⟩])
 .ret))⟩
theorem s120 : stripF Go.Proofs.Try.prog [] Go.Proofs.Try.f120 = some A120 := by kernel_rfl
theorem en120 : enters Go.Proofs.Try.prog 120 = true := by kernel_rfl
/-- (*impl.Tree).are -/
def A145 : AFn := ⟨27, [.tmp 6],
 (.seq (.ops [⟨some 6, none, .mov (.const (.bool false))⟩])
 (.seq (.seq (.ops [⟨some 9, none, .mov (.tmp 1)⟩, ⟨some 10, none, .lenSl (.tmp 9)⟩, ⟨some 11, none, .mov (.const (.int .i64 0))⟩])
 (.block 0 (.loop (.seq (.ops [⟨some 12, none, .bin .lss 3 (.tmp 11) (.tmp 10)⟩])
 (.seq (.cond (.tmp 12) .skip (.exit 0))
 (.seq (.block 1 (.seq (.ops [⟨some 13, none, .idxSl (.tmp 9) (.tmp 11) 1⟩, ⟨some 14, none, .load (.tmp 13)⟩, ⟨some 8, none, .mov (.tmp 14)⟩])
 (.seq (.ops [⟨some 15, none, .mov (.tmp 2)⟩, ⟨some 16, none, .mov (.tmp 0)⟩, ⟨some 17, none, .nilCheck (.tmp 16)⟩, ⟨some 18, none, .fieldAddr (.tmp 17) 0⟩, ⟨some 19, none, .load (.tmp 18)⟩, ⟨some 20, none, .mov (.tmp 8)⟩, ⟨some 21, none, .idxSl (.tmp 19) (.tmp 20) 4⟩, ⟨some 22, none, .fieldAddr (.tmp 21) 0⟩, ⟨some 23, none, .load (.tmp 22)⟩, ⟨some 24, none, .call (.tmp 15) [.tmp 23]⟩, ⟨some 25, none, .un .not (.tmp 24)⟩])
 (.cond (.tmp 25) (.seq (.ops [⟨some 6, none, .mov (.const (.bool false))⟩])
 .ret) .skip))))
 (.ops [⟨some 26, none, .bin .add 3 (.tmp 11) (.const (.int .i64 1))⟩, ⟨some 11, none, .mov (.tmp 26)⟩])))))))
 (.seq (.ops [⟨some 6, none, .mov (.const (.bool true))⟩])
 .ret)))⟩
theorem s145 : stripF Go.Proofs.Try.prog [] Go.Proofs.Try.f145 = some A145 := by kernel_rfl
theorem en145 : enters Go.Proofs.Try.prog 145 = true := by kernel_rfl
def E145_0 (x0 x2 x9 x10 x11 : Value) (g : Nat → Value) : List Value := [x0, g 1, x2, g 3, g 4, g 5, g 6, g 7, g 8, x9, x10, x11, g 12, g 13, g 14, g 15, g 16, g 17, g 18, g 19, g 20, g 21, g 22, g 23, g 24, g 25, g 26]
/-- (*impl.Tree).kidsAre -/
def A146 : AFn := ⟨38, [.tmp 6],
 (.seq (.ops [⟨some 4, none, .box false (.tmp 1)⟩, ⟨some 6, none, .mov (.const (.bool false))⟩])
 (.seq (.seq (.ops [⟨some 9, none, .fieldAddr (.tmp 4) 3⟩, ⟨some 10, none, .load (.tmp 9)⟩, ⟨some 11, none, .lenSl (.tmp 10)⟩, ⟨some 12, none, .mov (.tmp 2)⟩, ⟨some 13, none, .lenSl (.tmp 12)⟩, ⟨some 14, none, .bin .neq 3 (.tmp 11) (.tmp 13)⟩])
 (.cond (.tmp 14) (.seq (.ops [⟨some 6, none, .mov (.const (.bool false))⟩])
 .ret) .skip))
 (.seq (.seq (.ops [⟨some 15, none, .mov (.tmp 2)⟩, ⟨some 16, none, .lenSl (.tmp 15)⟩, ⟨some 17, none, .mov (.const (.int .i64 0))⟩])
 (.block 0 (.loop (.seq (.ops [⟨some 18, none, .bin .lss 3 (.tmp 17) (.tmp 16)⟩])
 (.seq (.cond (.tmp 18) .skip (.exit 0))
 (.seq (.block 1 (.seq (.ops [⟨some 19, none, .mov (.tmp 17)⟩, ⟨some 20, none, .idxSl (.tmp 15) (.tmp 17) 1⟩, ⟨some 21, none, .load (.tmp 20)⟩, ⟨some 7, none, .mov (.tmp 19)⟩, ⟨some 8, none, .mov (.tmp 21)⟩])
 (.seq (.ops [⟨some 22, none, .mov (.tmp 8)⟩, ⟨some 23, none, .mov (.tmp 0)⟩, ⟨some 24, none, .nilCheck (.tmp 23)⟩, ⟨some 25, none, .fieldAddr (.tmp 24) 0⟩, ⟨some 26, none, .load (.tmp 25)⟩, ⟨some 27, none, .fieldAddr (.tmp 4) 3⟩, ⟨some 28, none, .load (.tmp 27)⟩, ⟨some 29, none, .mov (.tmp 7)⟩, ⟨some 30, none, .idxSl (.tmp 28) (.tmp 29) 1⟩, ⟨some 31, none, .load (.tmp 30)⟩, ⟨some 32, none, .idxSl (.tmp 26) (.tmp 31) 4⟩, ⟨some 33, none, .fieldAddr (.tmp 32) 0⟩, ⟨some 34, none, .load (.tmp 33)⟩, ⟨some 35, none, .call (.tmp 22) [.tmp 34]⟩, ⟨some 36, none, .un .not (.tmp 35)⟩])
 (.cond (.tmp 36) (.seq (.ops [⟨some 6, none, .mov (.const (.bool false))⟩])
 .ret) .skip))))
 (.ops [⟨some 37, none, .bin .add 3 (.tmp 17) (.const (.int .i64 1))⟩, ⟨some 17, none, .mov (.tmp 37)⟩])))))))
 (.seq (.ops [⟨some 6, none, .mov (.const (.bool true))⟩])
 .ret))))⟩
theorem s146 : stripF Go.Proofs.Try.prog [] Go.Proofs.Try.f146 = some A146 := by kernel_rfl
theorem en146 : enters Go.Proofs.Try.prog 146 = true := by kernel_rfl
def E146_0 (x0 x4 x15 x16 x17 : Value) (g : Nat → Value) : List Value := [x0, g 1, g 2, g 3, x4, g 5, g 6, g 7, g 8, g 9, g 10, g 11, g 12, g 13, g 14, x15, x16, x17, g 18, g 19, g 20, g 21, g 22, g 23, g 24, g 25, g 26, g 27, g 28, g 29, g 30, g 31, g 32, g 33, g 34, g 35, g 36, g 37]
/-- impl.just$1 -/
def A162 : AFn := ⟨7, [.tmp 3],
 (.seq (.ops [⟨some 3, none, .mov (.const (.bool false))⟩])
 (.seq (.ops [⟨some 4, none, .mov (.tmp 0)⟩, ⟨some 5, none, .load (.tmp 1)⟩, ⟨some 6, none, .bin .eql 3 (.tmp 4) (.tmp 5)⟩, ⟨some 3, none, .mov (.tmp 6)⟩])
 .ret))⟩
theorem s162 : stripF Go.Proofs.Try.prog [] Go.Proofs.Try.f162 = some A162 := by kernel_rfl
theorem en162 : enters Go.Proofs.Try.prog 162 = true := by kernel_rfl
/-- impl.just -/
def A147 : AFn := ⟨4, [.tmp 2],
 (.seq (.ops [⟨some 1, none, .box true (.tmp 0)⟩, ⟨some 2, none, .mov (.const (.nilFunc))⟩])
 (.seq (.ops [⟨some 3, none, .fn 162 [] [.tmp 1]⟩, ⟨some 2, none, .mov (.tmp 3)⟩])
 .ret))⟩
theorem s147 : stripF Go.Proofs.Try.prog [1] Go.Proofs.Try.f147 = some A147 := by kernel_rfl
theorem en147 : enters Go.Proofs.Try.prog 147 = true := by kernel_rfl
/-- (*impl.Tree).exprOk -/
def A121 : AFn := ⟨63, [.tmp 4],
 (.seq (.ops [⟨some 3, none, .box false (.tmp 1)⟩, ⟨some 4, none, .mov (.const (.bool false))⟩])
 (.seq (.seq (.ops [⟨some 5, none, .fieldAddr (.tmp 3) 0⟩, ⟨some 6, none, .load (.tmp 5)⟩])
 (.block 0 (.seq (.seq (.ops [⟨some 8, none, .bin .eql 3 (.tmp 6) (.const (.int .i64 1))⟩, ⟨some 7, none, .mov (.tmp 8)⟩])
 (.cond (.tmp 7) .skip (.seq (.ops [⟨some 9, none, .bin .eql 3 (.tmp 6) (.const (.int .i64 2))⟩, ⟨some 7, none, .mov (.tmp 9)⟩])
 (.cond (.tmp 7) .skip (.seq (.ops [⟨some 10, none, .bin .eql 3 (.tmp 6) (.const (.int .i64 3))⟩, ⟨some 7, none, .mov (.tmp 10)⟩])
 (.cond (.tmp 7) .skip (.seq (.ops [⟨some 11, none, .bin .eql 3 (.tmp 6) (.const (.int .i64 4))⟩, ⟨some 7, none, .mov (.tmp 11)⟩])
 (.cond (.tmp 7) .skip (.seq (.ops [⟨some 12, none, .bin .eql 3 (.tmp 6) (.const (.int .i64 5))⟩, ⟨some 7, none, .mov (.tmp 12)⟩])
 (.cond (.tmp 7) .skip (.ops [⟨some 13, none, .bin .eql 3 (.tmp 6) (.const (.int .i64 6))⟩, ⟨some 7, none, .mov (.tmp 13)⟩])))))))))))
 (.cond (.tmp 7) (.seq (.ops [⟨some 14, none, .fieldAddr (.tmp 3) 3⟩, ⟨some 15, none, .load (.tmp 14)⟩, ⟨some 16, none, .lenSl (.tmp 15)⟩, ⟨some 17, none, .bin .eql 3 (.tmp 16) (.const (.int .i64 0))⟩, ⟨some 4, none, .mov (.tmp 17)⟩])
 .ret) (.seq (.ops [⟨some 19, none, .bin .eql 3 (.tmp 6) (.const (.int .i64 7))⟩, ⟨some 18, none, .mov (.tmp 19)⟩])
 (.cond (.tmp 18) (.seq (.ops [⟨some 20, none, .mov (.tmp 0)⟩, ⟨some 21, none, .fieldAddr (.tmp 3) 3⟩, ⟨some 22, none, .load (.tmp 21)⟩, ⟨some 23, none, .call (.func 145) [.tmp 20, .tmp 22, .func 120]⟩, ⟨some 4, none, .mov (.tmp 23)⟩])
 .ret) (.seq (.seq (.ops [⟨some 25, none, .bin .eql 3 (.tmp 6) (.const (.int .i64 8))⟩, ⟨some 24, none, .mov (.tmp 25)⟩])
 (.cond (.tmp 24) .skip (.ops [⟨some 26, none, .bin .eql 3 (.tmp 6) (.const (.int .i64 10))⟩, ⟨some 24, none, .mov (.tmp 26)⟩])))
 (.cond (.tmp 24) (.seq (.ops [⟨some 27, none, .mov (.tmp 0)⟩, ⟨some 28, none, .loadN (.tmp 3) 4⟩, ⟨some 29, none, .mkSlice 1 2 [.nilFunc] [(0, 1, .func 120), (1, 1, .func 120)]⟩, ⟨some 30, none, .call (.func 146) [.tmp 27, .tmp 28, .tmp 29]⟩, ⟨some 4, none, .mov (.tmp 30)⟩])
 .ret) (.seq (.ops [⟨some 32, none, .bin .eql 3 (.tmp 6) (.const (.int .i64 9))⟩, ⟨some 31, none, .mov (.tmp 32)⟩])
 (.cond (.tmp 31) (.seq (.ops [⟨some 33, none, .mov (.tmp 0)⟩, ⟨some 34, none, .loadN (.tmp 3) 4⟩, ⟨some 35, none, .mkSlice 1 1 [.nilFunc] [(0, 1, .func 120)]⟩, ⟨some 36, none, .call (.func 146) [.tmp 33, .tmp 34, .tmp 35]⟩, ⟨some 4, none, .mov (.tmp 36)⟩])
 .ret) .skip))))))))))
 (.seq (.draw (.step ⟨some 37, none, .fieldAddr (.tmp 3) 3⟩ (.step ⟨some 38, none, .load (.tmp 37)⟩ (.step ⟨some 39, none, .lenSl (.tmp 38)⟩ (.step ⟨some 40, none, .bin .gtr 3 (.tmp 39) (.const (.int .i64 1))⟩ (.step ⟨some 41, none, .mov (.tmp 40)⟩ (.step ⟨some 42, some (41, true), .mov (.tmp 0)⟩ (.step ⟨some 43, some (41, true), .nilCheck (.tmp 42)⟩ (.step ⟨some 44, some (41, true), .fieldAddr (.tmp 43) 0⟩ (.step ⟨some 45, some (41, true), .load (.tmp 44)⟩ (.step ⟨some 46, some (41, true), .fieldAddr (.tmp 3) 3⟩ (.step ⟨some 47, some (41, true), .load (.tmp 46)⟩ (.step ⟨some 48, some (41, true), .idxSl (.tmp 47) (.const (.int .i64 0)) 1⟩ (.step ⟨some 49, some (41, true), .load (.tmp 48)⟩ (.step ⟨some 50, some (41, true), .idxSl (.tmp 45) (.tmp 49) 4⟩ (.step ⟨some 51, some (41, true), .fieldAddr (.tmp 50) 0⟩ (.step ⟨some 52, some (41, true), .load (.tmp 51)⟩ (.step ⟨some 53, some (41, true), .call (.func 120) [.tmp 52]⟩ (.step ⟨some 54, none, .pick (.tmp 41) (.tmp 53) (.const (.bool false))⟩ (.step ⟨some 55, none, .mov (.tmp 54)⟩ (.step ⟨some 56, some (55, true), .mov (.tmp 0)⟩ (.step ⟨some 57, some (55, true), .fieldAddr (.tmp 3) 3⟩ (.alt (.step ⟨some 58, some (55, true), .load (.tmp 57)⟩ (.step ⟨some 59, some (55, true), .slSl (.tmp 58) (some (.const (.int .i64 1))) none 1⟩ (.step ⟨some 60, some (55, true), .call (.func 147) [.const (.int .i64 31)]⟩ (.step ⟨some 61, some (55, true), .call (.func 145) [.tmp 56, .tmp 59, .tmp 60]⟩ (.step ⟨some 62, none, .pick (.tmp 55) (.tmp 61) (.const (.bool false))⟩ (.step ⟨some 4, none, .mov (.tmp 62)⟩ .done)))))) (.step ⟨some 60, some (55, true), .call (.func 147) [.const (.int .i64 31)]⟩ (.step ⟨some 58, some (55, true), .load (.tmp 57)⟩ (.step ⟨some 59, some (55, true), .slSl (.tmp 58) (some (.const (.int .i64 1))) none 1⟩ (.step ⟨some 61, some (55, true), .call (.func 145) [.tmp 56, .tmp 59, .tmp 60]⟩ (.step ⟨some 62, none, .pick (.tmp 55) (.tmp 61) (.const (.bool false))⟩ (.step ⟨some 4, none, .mov (.tmp 62)⟩ .done)))))))))))))))))))))))))))))
 .ret)))⟩
theorem s121 : stripF Go.Proofs.Try.prog [] Go.Proofs.Try.f121 = some A121 := by kernel_rfl
theorem en121 : enters Go.Proofs.Try.prog 121 = true := by kernel_rfl
/-- impl.isStatement -/
def A122 : AFn := ⟨5, [.tmp 2],
 (.seq (.ops [⟨some 2, none, .mov (.const (.bool false))⟩])
 (.seq (.ops [⟨some 3, none, .mov (.tmp 0)⟩, ⟨some 4, none, .call (.func 80) [.tmp 3, .const (.int .i64 12), .const (.int .i64 26)]⟩, ⟨some 2, none, .mov (.tmp 4)⟩])
 .ret))⟩
theorem s122 : stripF Go.Proofs.Try.prog [] Go.Proofs.Try.f122 = some A122 := by kernel_rfl
theorem en122 : enters Go.Proofs.Try.prog 122 = true := by kernel_rfl
/-- (*impl.Tree).statementOk -/
def A123 : AFn := ⟨78, [.tmp 4],
 (.seq (.ops [⟨some 3, none, .box false (.tmp 1)⟩, ⟨some 4, none, .mov (.const (.bool false))⟩])
 (.seq (.ops [⟨some 6, none, .call (.func 147) [.const (.int .i64 27)]⟩, ⟨some 5, none, .mov (.tmp 6)⟩])
 (.seq (.seq (.ops [⟨some 7, none, .fieldAddr (.tmp 3) 0⟩, ⟨some 8, none, .load (.tmp 7)⟩])
 (.block 0 (.seq (.seq (.ops [⟨some 10, none, .bin .eql 3 (.tmp 8) (.const (.int .i64 12))⟩, ⟨some 9, none, .mov (.tmp 10)⟩])
 (.cond (.tmp 9) .skip (.seq (.ops [⟨some 11, none, .bin .eql 3 (.tmp 8) (.const (.int .i64 13))⟩, ⟨some 9, none, .mov (.tmp 11)⟩])
 (.cond (.tmp 9) .skip (.seq (.ops [⟨some 12, none, .bin .eql 3 (.tmp 8) (.const (.int .i64 14))⟩, ⟨some 9, none, .mov (.tmp 12)⟩])
 (.cond (.tmp 9) .skip (.seq (.ops [⟨some 13, none, .bin .eql 3 (.tmp 8) (.const (.int .i64 15))⟩, ⟨some 9, none, .mov (.tmp 13)⟩])
 (.cond (.tmp 9) .skip (.seq (.ops [⟨some 14, none, .bin .eql 3 (.tmp 8) (.const (.int .i64 19))⟩, ⟨some 9, none, .mov (.tmp 14)⟩])
 (.cond (.tmp 9) .skip (.seq (.ops [⟨some 15, none, .bin .eql 3 (.tmp 8) (.const (.int .i64 23))⟩, ⟨some 9, none, .mov (.tmp 15)⟩])
 (.cond (.tmp 9) .skip (.ops [⟨some 16, none, .bin .eql 3 (.tmp 8) (.const (.int .i64 26))⟩, ⟨some 9, none, .mov (.tmp 16)⟩])))))))))))))
 (.cond (.tmp 9) (.seq (.ops [⟨some 17, none, .mov (.tmp 0)⟩, ⟨some 18, none, .loadN (.tmp 3) 4⟩, ⟨some 19, none, .mkSlice 1 1 [.nilFunc] [(0, 1, .func 120)]⟩, ⟨some 20, none, .call (.func 146) [.tmp 17, .tmp 18, .tmp 19]⟩, ⟨some 4, none, .mov (.tmp 20)⟩])
 .ret) (.seq (.ops [⟨some 22, none, .bin .eql 3 (.tmp 8) (.const (.int .i64 16))⟩, ⟨some 21, none, .mov (.tmp 22)⟩])
 (.cond (.tmp 21) (.seq (.ops [⟨some 23, none, .mov (.tmp 0)⟩, ⟨some 24, none, .loadN (.tmp 3) 4⟩, ⟨some 25, none, .mov (.tmp 5)⟩, ⟨some 26, none, .mkSlice 1 2 [.nilFunc] [(0, 1, .func 120), (1, 1, .tmp 25)]⟩, ⟨some 27, none, .call (.func 146) [.tmp 23, .tmp 24, .tmp 26]⟩, ⟨some 28, none, .mov (.tmp 27)⟩, ⟨some 29, some (28, false), .mov (.tmp 0)⟩, ⟨some 30, some (28, false), .loadN (.tmp 3) 4⟩, ⟨some 31, some (28, false), .mov (.tmp 5)⟩, ⟨some 32, some (28, false), .mov (.tmp 5)⟩, ⟨some 33, some (28, false), .mkSlice 1 3 [.nilFunc] [(0, 1, .func 120), (1, 1, .tmp 31), (2, 1, .tmp 32)]⟩, ⟨some 34, some (28, false), .call (.func 146) [.tmp 29, .tmp 30, .tmp 33]⟩, ⟨some 35, none, .pick (.tmp 28) (.const (.bool true)) (.tmp 34)⟩, ⟨some 4, none, .mov (.tmp 35)⟩])
 .ret) (.seq (.ops [⟨some 37, none, .bin .eql 3 (.tmp 8) (.const (.int .i64 17))⟩, ⟨some 36, none, .mov (.tmp 37)⟩])
 (.cond (.tmp 36) (.seq (.ops [⟨some 38, none, .mov (.tmp 0)⟩, ⟨some 39, none, .loadN (.tmp 3) 4⟩, ⟨some 40, none, .mov (.tmp 5)⟩, ⟨some 41, none, .mkSlice 1 2 [.nilFunc] [(0, 1, .func 120), (1, 1, .tmp 40)]⟩, ⟨some 42, none, .call (.func 146) [.tmp 38, .tmp 39, .tmp 41]⟩, ⟨some 4, none, .mov (.tmp 42)⟩])
 .ret) (.seq (.ops [⟨some 44, none, .bin .eql 3 (.tmp 8) (.const (.int .i64 18))⟩, ⟨some 43, none, .mov (.tmp 44)⟩])
 (.cond (.tmp 43) (.seq (.draw (.step ⟨some 45, none, .mov (.tmp 0)⟩ (.step ⟨some 49, none, .mov (.tmp 5)⟩ (.alt (.step ⟨some 46, none, .loadN (.tmp 3) 4⟩ (.step ⟨some 47, none, .call (.func 147) [.const (.int .i64 29)]⟩ (.step ⟨some 48, none, .call (.func 147) [.const (.int .i64 30)]⟩ (.step ⟨some 50, none, .mkSlice 1 3 [.nilFunc] [(0, 1, .tmp 47), (1, 1, .tmp 48), (2, 1, .tmp 49)]⟩ (.step ⟨some 51, none, .call (.func 146) [.tmp 45, .tmp 46, .tmp 50]⟩ (.step ⟨some 4, none, .mov (.tmp 51)⟩ .done)))))) (.step ⟨some 47, none, .call (.func 147) [.const (.int .i64 29)]⟩ (.alt (.step ⟨some 46, none, .loadN (.tmp 3) 4⟩ (.step ⟨some 48, none, .call (.func 147) [.const (.int .i64 30)]⟩ (.step ⟨some 50, none, .mkSlice 1 3 [.nilFunc] [(0, 1, .tmp 47), (1, 1, .tmp 48), (2, 1, .tmp 49)]⟩ (.step ⟨some 51, none, .call (.func 146) [.tmp 45, .tmp 46, .tmp 50]⟩ (.step ⟨some 4, none, .mov (.tmp 51)⟩ .done))))) (.step ⟨some 48, none, .call (.func 147) [.const (.int .i64 30)]⟩ (.alt (.step ⟨some 46, none, .loadN (.tmp 3) 4⟩ (.step ⟨some 50, none, .mkSlice 1 3 [.nilFunc] [(0, 1, .tmp 47), (1, 1, .tmp 48), (2, 1, .tmp 49)]⟩ (.step ⟨some 51, none, .call (.func 146) [.tmp 45, .tmp 46, .tmp 50]⟩ (.step ⟨some 4, none, .mov (.tmp 51)⟩ .done)))) (.step ⟨some 50, none, .mkSlice 1 3 [.nilFunc] [(0, 1, .tmp 47), (1, 1, .tmp 48), (2, 1, .tmp 49)]⟩ (.step ⟨some 46, none, .loadN (.tmp 3) 4⟩ (.step ⟨some 51, none, .call (.func 146) [.tmp 45, .tmp 46, .tmp 50]⟩ (.step ⟨some 4, none, .mov (.tmp 51)⟩ .done))))))))))))
 .ret) (.seq (.ops [⟨some 53, none, .bin .eql 3 (.tmp 8) (.const (.int .i64 20))⟩, ⟨some 52, none, .mov (.tmp 53)⟩])
 (.cond (.tmp 52) (.seq (.draw (.step ⟨some 54, none, .mov (.tmp 0)⟩ (.step ⟨some 57, none, .mov (.tmp 5)⟩ (.alt (.step ⟨some 55, none, .loadN (.tmp 3) 4⟩ (.step ⟨some 56, none, .call (.func 147) [.const (.int .i64 31)]⟩ (.step ⟨some 58, none, .mkSlice 1 2 [.nilFunc] [(0, 1, .tmp 56), (1, 1, .tmp 57)]⟩ (.step ⟨some 59, none, .call (.func 146) [.tmp 54, .tmp 55, .tmp 58]⟩ (.step ⟨some 4, none, .mov (.tmp 59)⟩ .done))))) (.step ⟨some 56, none, .call (.func 147) [.const (.int .i64 31)]⟩ (.alt (.step ⟨some 55, none, .loadN (.tmp 3) 4⟩ (.step ⟨some 58, none, .mkSlice 1 2 [.nilFunc] [(0, 1, .tmp 56), (1, 1, .tmp 57)]⟩ (.step ⟨some 59, none, .call (.func 146) [.tmp 54, .tmp 55, .tmp 58]⟩ (.step ⟨some 4, none, .mov (.tmp 59)⟩ .done)))) (.step ⟨some 58, none, .mkSlice 1 2 [.nilFunc] [(0, 1, .tmp 56), (1, 1, .tmp 57)]⟩ (.step ⟨some 55, none, .loadN (.tmp 3) 4⟩ (.step ⟨some 59, none, .call (.func 146) [.tmp 54, .tmp 55, .tmp 58]⟩ (.step ⟨some 4, none, .mov (.tmp 59)⟩ .done))))))))))
 .ret) (.seq (.ops [⟨some 61, none, .bin .eql 3 (.tmp 8) (.const (.int .i64 21))⟩, ⟨some 60, none, .mov (.tmp 61)⟩])
 (.cond (.tmp 60) (.seq (.draw (.step ⟨some 62, none, .mov (.tmp 0)⟩ (.step ⟨some 63, none, .fieldAddr (.tmp 3) 3⟩ (.alt (.step ⟨some 64, none, .load (.tmp 63)⟩ (.step ⟨some 65, none, .call (.func 147) [.const (.int .i64 28)]⟩ (.step ⟨some 66, none, .call (.func 145) [.tmp 62, .tmp 64, .tmp 65]⟩ (.step ⟨some 4, none, .mov (.tmp 66)⟩ .done)))) (.step ⟨some 65, none, .call (.func 147) [.const (.int .i64 28)]⟩ (.step ⟨some 64, none, .load (.tmp 63)⟩ (.step ⟨some 66, none, .call (.func 145) [.tmp 62, .tmp 64, .tmp 65]⟩ (.step ⟨some 4, none, .mov (.tmp 66)⟩ .done))))))))
 .ret) (.seq (.ops [⟨some 68, none, .bin .eql 3 (.tmp 8) (.const (.int .i64 25))⟩, ⟨some 67, none, .mov (.tmp 68)⟩])
 (.cond (.tmp 67) (.seq (.draw (.step ⟨some 69, none, .mov (.tmp 0)⟩ (.alt (.step ⟨some 70, none, .loadN (.tmp 3) 4⟩ (.step ⟨some 71, none, .call (.func 147) [.const (.int .i64 7)]⟩ (.step ⟨some 72, none, .mkSlice 1 1 [.nilFunc] [(0, 1, .tmp 71)]⟩ (.step ⟨some 73, none, .call (.func 146) [.tmp 69, .tmp 70, .tmp 72]⟩ (.step ⟨some 4, none, .mov (.tmp 73)⟩ .done))))) (.step ⟨some 71, none, .call (.func 147) [.const (.int .i64 7)]⟩ (.alt (.step ⟨some 70, none, .loadN (.tmp 3) 4⟩ (.step ⟨some 72, none, .mkSlice 1 1 [.nilFunc] [(0, 1, .tmp 71)]⟩ (.step ⟨some 73, none, .call (.func 146) [.tmp 69, .tmp 70, .tmp 72]⟩ (.step ⟨some 4, none, .mov (.tmp 73)⟩ .done)))) (.step ⟨some 72, none, .mkSlice 1 1 [.nilFunc] [(0, 1, .tmp 71)]⟩ (.step ⟨some 70, none, .loadN (.tmp 3) 4⟩ (.step ⟨some 73, none, .call (.func 146) [.tmp 69, .tmp 70, .tmp 72]⟩ (.step ⟨some 4, none, .mov (.tmp 73)⟩ .done)))))))))
 .ret) .skip))))))))))))))))
 (.seq (.ops [⟨some 74, none, .fieldAddr (.tmp 3) 3⟩, ⟨some 75, none, .load (.tmp 74)⟩, ⟨some 76, none, .lenSl (.tmp 75)⟩, ⟨some 77, none, .bin .eql 3 (.tmp 76) (.const (.int .i64 0))⟩, ⟨some 4, none, .mov (.tmp 77)⟩])
 .ret))))⟩
theorem s123 : stripF Go.Proofs.Try.prog [] Go.Proofs.Try.f123 = some A123 := by kernel_rfl
theorem en123 : enters Go.Proofs.Try.prog 123 = true := by kernel_rfl
/-- (*impl.Tree).otherOk -/
def A124 : AFn := ⟨86, [.tmp 4],
 (.seq (.ops [⟨some 3, none, .box false (.tmp 1)⟩, ⟨some 4, none, .mov (.const (.bool false))⟩])
 (.seq (.seq (.ops [⟨some 6, none, .fieldAddr (.tmp 3) 0⟩, ⟨some 7, none, .load (.tmp 6)⟩])
 (.block 0 (.seq (.ops [⟨some 9, none, .bin .eql 3 (.tmp 7) (.const (.int .i64 27))⟩, ⟨some 8, none, .mov (.tmp 9)⟩])
 (.cond (.tmp 8) (.seq (.ops [⟨some 10, none, .mov (.tmp 0)⟩, ⟨some 11, none, .fieldAddr (.tmp 3) 3⟩, ⟨some 12, none, .load (.tmp 11)⟩, ⟨some 13, none, .call (.func 145) [.tmp 10, .tmp 12, .func 122]⟩, ⟨some 4, none, .mov (.tmp 13)⟩])
 .ret) (.seq (.ops [⟨some 15, none, .bin .eql 3 (.tmp 7) (.const (.int .i64 28))⟩, ⟨some 14, none, .mov (.tmp 15)⟩])
 (.cond (.tmp 14) (.seq (.ops [⟨some 16, none, .mov (.tmp 0)⟩, ⟨some 17, none, .loadN (.tmp 3) 4⟩, ⟨some 18, none, .mkSlice 1 1 [.nilFunc] [(0, 1, .func 120)]⟩, ⟨some 19, none, .call (.func 146) [.tmp 16, .tmp 17, .tmp 18]⟩, ⟨some 4, none, .mov (.tmp 19)⟩])
 .ret) (.seq (.ops [⟨some 21, none, .bin .eql 3 (.tmp 7) (.const (.int .i64 29))⟩, ⟨some 20, none, .mov (.tmp 21)⟩])
 (.cond (.tmp 20) (.seq (.draw (.step ⟨some 22, none, .fieldAddr (.tmp 3) 3⟩ (.step ⟨some 23, none, .load (.tmp 22)⟩ (.step ⟨some 24, none, .lenSl (.tmp 23)⟩ (.step ⟨some 25, none, .bin .gtr 3 (.tmp 24) (.const (.int .i64 0))⟩ (.step ⟨some 26, none, .mov (.tmp 25)⟩ (.step ⟨some 27, some (26, true), .mov (.tmp 0)⟩ (.step ⟨some 28, some (26, true), .fieldAddr (.tmp 3) 3⟩ (.alt (.step ⟨some 29, some (26, true), .load (.tmp 28)⟩ (.step ⟨some 30, some (26, true), .call (.func 147) [.const (.int .i64 31)]⟩ (.step ⟨some 31, some (26, true), .call (.func 145) [.tmp 27, .tmp 29, .tmp 30]⟩ (.step ⟨some 32, none, .pick (.tmp 26) (.tmp 31) (.const (.bool false))⟩ (.step ⟨some 4, none, .mov (.tmp 32)⟩ .done))))) (.step ⟨some 30, some (26, true), .call (.func 147) [.const (.int .i64 31)]⟩ (.step ⟨some 29, some (26, true), .load (.tmp 28)⟩ (.step ⟨some 31, some (26, true), .call (.func 145) [.tmp 27, .tmp 29, .tmp 30]⟩ (.step ⟨some 32, none, .pick (.tmp 26) (.tmp 31) (.const (.bool false))⟩ (.step ⟨some 4, none, .mov (.tmp 32)⟩ .done))))))))))))))
 .ret) (.seq (.ops [⟨some 34, none, .bin .eql 3 (.tmp 7) (.const (.int .i64 30))⟩, ⟨some 33, none, .mov (.tmp 34)⟩])
 (.cond (.tmp 33) (.seq (.draw (.step ⟨some 35, none, .mov (.tmp 0)⟩ (.step ⟨some 36, none, .fieldAddr (.tmp 3) 3⟩ (.alt (.step ⟨some 37, none, .load (.tmp 36)⟩ (.step ⟨some 38, none, .call (.func 147) [.const (.int .i64 31)]⟩ (.step ⟨some 39, none, .call (.func 145) [.tmp 35, .tmp 37, .tmp 38]⟩ (.step ⟨some 4, none, .mov (.tmp 39)⟩ .done)))) (.step ⟨some 38, none, .call (.func 147) [.const (.int .i64 31)]⟩ (.step ⟨some 37, none, .load (.tmp 36)⟩ (.step ⟨some 39, none, .call (.func 145) [.tmp 35, .tmp 37, .tmp 38]⟩ (.step ⟨some 4, none, .mov (.tmp 39)⟩ .done))))))))
 .ret) (.seq (.seq (.ops [⟨some 41, none, .bin .eql 3 (.tmp 7) (.const (.int .i64 31))⟩, ⟨some 40, none, .mov (.tmp 41)⟩])
 (.cond (.tmp 40) .skip (.ops [⟨some 42, none, .bin .eql 3 (.tmp 7) (.const (.int .i64 32))⟩, ⟨some 40, none, .mov (.tmp 42)⟩])))
 (.cond (.tmp 40) (.seq (.ops [⟨some 43, none, .fieldAddr (.tmp 3) 3⟩, ⟨some 44, none, .load (.tmp 43)⟩, ⟨some 45, none, .lenSl (.tmp 44)⟩, ⟨some 46, none, .bin .eql 3 (.tmp 45) (.const (.int .i64 0))⟩, ⟨some 4, none, .mov (.tmp 46)⟩])
 .ret) (.seq (.ops [⟨some 48, none, .bin .eql 3 (.tmp 7) (.const (.int .i64 33))⟩, ⟨some 47, none, .mov (.tmp 48)⟩])
 (.cond (.tmp 47) (.seq (.ops [⟨some 49, none, .fieldAddr (.tmp 3) 3⟩, ⟨some 50, none, .load (.tmp 49)⟩, ⟨some 51, none, .lenSl (.tmp 50)⟩, ⟨some 52, none, .bin .sub 3 (.tmp 51) (.const (.int .i64 1))⟩, ⟨some 5, none, .mov (.tmp 52)⟩])
 (.seq (.draw (.step ⟨some 53, none, .mov (.tmp 5)⟩ (.step ⟨some 54, none, .bin .geq 3 (.tmp 53) (.const (.int .i64 0))⟩ (.step ⟨some 55, none, .mov (.tmp 54)⟩ (.step ⟨some 56, some (55, true), .mov (.tmp 0)⟩ (.step ⟨some 57, some (55, true), .fieldAddr (.tmp 3) 3⟩ (.step ⟨some 59, some (55, true), .mov (.tmp 5)⟩ (.alt (.step ⟨some 58, some (55, true), .load (.tmp 57)⟩ (.step ⟨some 60, some (55, true), .slSl (.tmp 58) none (some (.tmp 59)) 1⟩ (.step ⟨some 61, some (55, true), .call (.func 147) [.const (.int .i64 32)]⟩ (.step ⟨some 62, some (55, true), .call (.func 145) [.tmp 56, .tmp 60, .tmp 61]⟩ (.step ⟨some 63, none, .pick (.tmp 55) (.tmp 62) (.const (.bool false))⟩ (.step ⟨some 64, none, .mov (.tmp 63)⟩ (.step ⟨some 65, some (64, true), .mov (.tmp 0)⟩ (.step ⟨some 66, some (64, true), .nilCheck (.tmp 65)⟩ (.step ⟨some 67, some (64, true), .fieldAddr (.tmp 66) 0⟩ (.step ⟨some 68, some (64, true), .load (.tmp 67)⟩ (.step ⟨some 69, some (64, true), .fieldAddr (.tmp 3) 3⟩ (.step ⟨some 70, some (64, true), .load (.tmp 69)⟩ (.step ⟨some 71, some (64, true), .mov (.tmp 5)⟩ (.step ⟨some 72, some (64, true), .idxSl (.tmp 70) (.tmp 71) 1⟩ (.step ⟨some 73, some (64, true), .load (.tmp 72)⟩ (.step ⟨some 74, some (64, true), .idxSl (.tmp 68) (.tmp 73) 4⟩ (.step ⟨some 75, some (64, true), .fieldAddr (.tmp 74) 0⟩ (.step ⟨some 76, some (64, true), .load (.tmp 75)⟩ (.step ⟨some 77, some (64, true), .bin .eql 3 (.tmp 76) (.const (.int .i64 27))⟩ (.step ⟨some 78, none, .pick (.tmp 64) (.tmp 77) (.const (.bool false))⟩ (.step ⟨some 4, none, .mov (.tmp 78)⟩ .done))))))))))))))))))))) (.step ⟨some 61, some (55, true), .call (.func 147) [.const (.int .i64 32)]⟩ (.step ⟨some 58, some (55, true), .load (.tmp 57)⟩ (.step ⟨some 60, some (55, true), .slSl (.tmp 58) none (some (.tmp 59)) 1⟩ (.step ⟨some 62, some (55, true), .call (.func 145) [.tmp 56, .tmp 60, .tmp 61]⟩ (.step ⟨some 63, none, .pick (.tmp 55) (.tmp 62) (.const (.bool false))⟩ (.step ⟨some 64, none, .mov (.tmp 63)⟩ (.step ⟨some 65, some (64, true), .mov (.tmp 0)⟩ (.step ⟨some 66, some (64, true), .nilCheck (.tmp 65)⟩ (.step ⟨some 67, some (64, true), .fieldAddr (.tmp 66) 0⟩ (.step ⟨some 68, some (64, true), .load (.tmp 67)⟩ (.step ⟨some 69, some (64, true), .fieldAddr (.tmp 3) 3⟩ (.step ⟨some 70, some (64, true), .load (.tmp 69)⟩ (.step ⟨some 71, some (64, true), .mov (.tmp 5)⟩ (.step ⟨some 72, some (64, true), .idxSl (.tmp 70) (.tmp 71) 1⟩ (.step ⟨some 73, some (64, true), .load (.tmp 72)⟩ (.step ⟨some 74, some (64, true), .idxSl (.tmp 68) (.tmp 73) 4⟩ (.step ⟨some 75, some (64, true), .fieldAddr (.tmp 74) 0⟩ (.step ⟨some 76, some (64, true), .load (.tmp 75)⟩ (.step ⟨some 77, some (64, true), .bin .eql 3 (.tmp 76) (.const (.int .i64 27))⟩ (.step ⟨some 78, none, .pick (.tmp 64) (.tmp 77) (.const (.bool false))⟩ (.step ⟨some 4, none, .mov (.tmp 78)⟩ .done)))))))))))))))))))))))))))))
 .ret)) (.seq (.ops [⟨some 80, none, .bin .eql 3 (.tmp 7) (.const (.int .i64 34))⟩, ⟨some 79, none, .mov (.tmp 80)⟩])
 (.cond (.tmp 79) (.seq (.draw (.step ⟨some 81, none, .mov (.tmp 0)⟩ (.alt (.step ⟨some 82, none, .loadN (.tmp 3) 4⟩ (.step ⟨some 83, none, .call (.func 147) [.const (.int .i64 27)]⟩ (.step ⟨some 84, none, .mkSlice 1 1 [.nilFunc] [(0, 1, .tmp 83)]⟩ (.step ⟨some 85, none, .call (.func 146) [.tmp 81, .tmp 82, .tmp 84]⟩ (.step ⟨some 4, none, .mov (.tmp 85)⟩ .done))))) (.step ⟨some 83, none, .call (.func 147) [.const (.int .i64 27)]⟩ (.alt (.step ⟨some 82, none, .loadN (.tmp 3) 4⟩ (.step ⟨some 84, none, .mkSlice 1 1 [.nilFunc] [(0, 1, .tmp 83)]⟩ (.step ⟨some 85, none, .call (.func 146) [.tmp 81, .tmp 82, .tmp 84]⟩ (.step ⟨some 4, none, .mov (.tmp 85)⟩ .done)))) (.step ⟨some 84, none, .mkSlice 1 1 [.nilFunc] [(0, 1, .tmp 83)]⟩ (.step ⟨some 82, none, .loadN (.tmp 3) 4⟩ (.step ⟨some 85, none, .call (.func 146) [.tmp 81, .tmp 82, .tmp 84]⟩ (.step ⟨some 4, none, .mov (.tmp 85)⟩ .done)))))))))
 .ret) .skip))))))))))))))))
 (.seq (.ops [⟨some 4, none, .mov (.const (.bool false))⟩])
 .ret)))⟩
theorem s124 : stripF Go.Proofs.Try.prog [] Go.Proofs.Try.f124 = some A124 := by kernel_rfl
theorem en124 : enters Go.Proofs.Try.prog 124 = true := by kernel_rfl
/-- (*impl.Tree).nodeOk -/
def A79 : AFn := ⟨53, [.tmp 4],
 (.seq (.ops [⟨some 4, none, .mov (.const (.bool false))⟩])
 (.seq (.ops [⟨some 8, none, .mov (.tmp 0)⟩, ⟨some 9, none, .nilCheck (.tmp 8)⟩, ⟨some 10, none, .fieldAddr (.tmp 9) 0⟩, ⟨some 11, none, .load (.tmp 10)⟩, ⟨some 12, none, .mov (.tmp 1)⟩, ⟨some 13, none, .idxSl (.tmp 11) (.tmp 12) 4⟩, ⟨some 14, none, .loadN (.tmp 13) 4⟩, ⟨some 5, none, .new false [.int .i64 0, .string ⟨#[]⟩, .int .i64 0, .slice none 0 0]⟩, ⟨none, none, .store 4 (.tmp 5) (.tmp 14)⟩])
 (.seq (.seq (.ops [⟨some 15, none, .fieldAddr (.tmp 5) 3⟩, ⟨some 16, none, .load (.tmp 15)⟩, ⟨some 17, none, .lenSl (.tmp 16)⟩, ⟨some 18, none, .mov (.const (.int .i64 0))⟩])
 (.block 0 (.loop (.seq (.ops [⟨some 19, none, .bin .lss 3 (.tmp 18) (.tmp 17)⟩])
 (.seq (.cond (.tmp 19) .skip (.exit 0))
 (.seq (.block 1 (.seq (.ops [⟨some 20, none, .idxSl (.tmp 16) (.tmp 18) 1⟩, ⟨some 21, none, .load (.tmp 20)⟩, ⟨some 7, none, .mov (.tmp 21)⟩])
 (.seq (.ops [⟨some 22, none, .mov (.tmp 7)⟩, ⟨some 23, none, .mov (.tmp 1)⟩, ⟨some 24, none, .bin .sub 3 (.tmp 23) (.const (.int .i64 1))⟩, ⟨some 25, none, .call (.func 80) [.tmp 22, .const (.int .i64 0), .tmp 24]⟩, ⟨some 26, none, .un .not (.tmp 25)⟩])
 (.cond (.tmp 26) (.seq (.ops [⟨some 4, none, .mov (.const (.bool false))⟩])
 .ret) .skip))))
 (.ops [⟨some 27, none, .bin .add 3 (.tmp 18) (.const (.int .i64 1))⟩, ⟨some 18, none, .mov (.tmp 27)⟩])))))))
 (.seq (.seq (.ops [⟨some 28, none, .loadN (.tmp 5) 4⟩, ⟨some 29, none, .call (.func 118) [.tmp 28]⟩, ⟨some 30, none, .un .not (.tmp 29)⟩, ⟨some 31, none, .mov (.tmp 30)⟩, ⟨some 32, some (31, false), .loadN (.tmp 5) 4⟩, ⟨some 33, some (31, false), .call (.func 119) [.tmp 32]⟩, ⟨some 34, some (31, false), .un .not (.tmp 33)⟩, ⟨some 35, none, .pick (.tmp 31) (.const (.bool true)) (.tmp 34)⟩])
 (.cond (.tmp 35) (.seq (.ops [⟨some 4, none, .mov (.const (.bool false))⟩])
 .ret) .skip))
 (.seq (.block 2 (.seq (.ops [⟨some 37, none, .fieldAddr (.tmp 5) 0⟩, ⟨some 38, none, .load (.tmp 37)⟩, ⟨some 39, none, .call (.func 120) [.tmp 38]⟩, ⟨some 36, none, .mov (.tmp 39)⟩])
 (.cond (.tmp 36) (.seq (.ops [⟨some 40, none, .mov (.tmp 0)⟩, ⟨some 41, none, .loadN (.tmp 5) 4⟩, ⟨some 42, none, .call (.func 121) [.tmp 40, .tmp 41]⟩, ⟨some 4, none, .mov (.tmp 42)⟩])
 .ret) (.seq (.ops [⟨some 44, none, .fieldAddr (.tmp 5) 0⟩, ⟨some 45, none, .load (.tmp 44)⟩, ⟨some 46, none, .call (.func 122) [.tmp 45]⟩, ⟨some 43, none, .mov (.tmp 46)⟩])
 (.cond (.tmp 43) (.seq (.ops [⟨some 47, none, .mov (.tmp 0)⟩, ⟨some 48, none, .loadN (.tmp 5) 4⟩, ⟨some 49, none, .call (.func 123) [.tmp 47, .tmp 48]⟩, ⟨some 4, none, .mov (.tmp 49)⟩])
 .ret) .skip)))))
 (.seq (.ops [⟨some 50, none, .mov (.tmp 0)⟩, ⟨some 51, none, .loadN (.tmp 5) 4⟩, ⟨some 52, none, .call (.func 124) [.tmp 50, .tmp 51]⟩, ⟨some 4, none, .mov (.tmp 52)⟩])
 .ret))))))⟩
theorem s79 : stripF Go.Proofs.Try.prog [] Go.Proofs.Try.f79 = some A79 := by kernel_rfl
theorem en79 : enters Go.Proofs.Try.prog 79 = true := by kernel_rfl
def E79_0 (x0 x1 x5 x16 x17 x18 : Value) (g : Nat → Value) : List Value := [x0, x1, g 2, g 3, g 4, x5, g 6, g 7, g 8, g 9, g 10, g 11, g 12, g 13, g 14, g 15, x16, x17, x18, g 19, g 20, g 21, g 22, g 23, g 24, g 25, g 26, g 27, g 28, g 29, g 30, g 31, g 32, g 33, g 34, g 35, g 36, g 37, g 38, g 39, g 40, g 41, g 42, g 43, g 44, g 45, g 46, g 47, g 48, g 49, g 50, g 51, g 52]
/-- (*impl.Tree).numbered -/
def A81 : AFn := ⟨34, [.tmp 6],
 (.seq (.ops [⟨some 6, none, .mov (.const (.int .i64 0))⟩])
 (.seq (.seq (.ops [⟨some 9, none, .mov (.tmp 0)⟩, ⟨some 10, none, .nilCheck (.tmp 9)⟩, ⟨some 11, none, .fieldAddr (.tmp 10) 0⟩, ⟨some 12, none, .load (.tmp 11)⟩, ⟨some 13, none, .mov (.tmp 1)⟩, ⟨some 14, none, .idxSl (.tmp 12) (.tmp 13) 4⟩, ⟨some 15, none, .fieldAddr (.tmp 14) 3⟩, ⟨some 16, none, .load (.tmp 15)⟩, ⟨some 17, none, .lenSl (.tmp 16)⟩, ⟨some 18, none, .mov (.const (.int .i64 0))⟩])
 (.block 0 (.loop (.seq (.ops [⟨some 19, none, .bin .lss 3 (.tmp 18) (.tmp 17)⟩])
 (.seq (.cond (.tmp 19) .skip (.exit 0))
 (.seq (.block 1 (.seq (.ops [⟨some 20, none, .idxSl (.tmp 16) (.tmp 18) 1⟩, ⟨some 21, none, .load (.tmp 20)⟩, ⟨some 8, none, .mov (.tmp 21)⟩])
 (.seq (.ops [⟨some 22, none, .mov (.tmp 0)⟩, ⟨some 23, none, .mov (.tmp 8)⟩, ⟨some 24, none, .mov (.tmp 2)⟩, ⟨some 25, none, .call (.func 81) [.tmp 22, .tmp 23, .tmp 24]⟩, ⟨some 2, none, .mov (.tmp 25)⟩])
 (.seq (.ops [⟨some 26, none, .mov (.tmp 2)⟩, ⟨some 27, none, .bin .lss 3 (.tmp 26) (.const (.int .i64 0))⟩])
 (.cond (.tmp 27) (.seq (.ops [⟨some 6, none, .mov (.const (.int .i64 (-1)))⟩])
 .ret) .skip)))))
 (.ops [⟨some 28, none, .bin .add 3 (.tmp 18) (.const (.int .i64 1))⟩, ⟨some 18, none, .mov (.tmp 28)⟩])))))))
 (.seq (.seq (.ops [⟨some 29, none, .mov (.tmp 1)⟩, ⟨some 30, none, .mov (.tmp 2)⟩, ⟨some 31, none, .bin .neq 3 (.tmp 29) (.tmp 30)⟩])
 (.cond (.tmp 31) (.seq (.ops [⟨some 6, none, .mov (.const (.int .i64 (-1)))⟩])
 .ret) .skip))
 (.seq (.ops [⟨some 32, none, .mov (.tmp 2)⟩, ⟨some 33, none, .bin .add 3 (.tmp 32) (.const (.int .i64 1))⟩, ⟨some 6, none, .mov (.tmp 33)⟩])
 .ret))))⟩
theorem s81 : stripF Go.Proofs.Try.prog [] Go.Proofs.Try.f81 = some A81 := by kernel_rfl
theorem en81 : enters Go.Proofs.Try.prog 81 = true := by kernel_rfl
def E81_0 (x0 x1 x2 x16 x17 x18 : Value) (g : Nat → Value) : List Value := [x0, x1, x2, g 3, g 4, g 5, g 6, g 7, g 8, g 9, g 10, g 11, g 12, g 13, g 14, g 15, x16, x17, x18, g 19, g 20, g 21, g 22, g 23, g 24, g 25, g 26, g 27, g 28, g 29, g 30, g 31, g 32, g 33]
/-- impl.TreeOk -/
def A39 : AFn := ⟨55, [.tmp 2],
 (.seq (.ops [⟨some 1, none, .box false (.tmp 0)⟩, ⟨some 2, none, .mov (.const (.bool false))⟩])
 (.seq (.seq (.ops [⟨some 7, none, .fieldAddr (.tmp 1) 0⟩, ⟨some 8, none, .load (.tmp 7)⟩, ⟨some 9, none, .lenSl (.tmp 8)⟩, ⟨some 10, none, .bin .gtr 3 (.tmp 9) (.const (.int .i64 4000))⟩])
 (.cond (.tmp 10) (.seq (.ops [⟨some 2, none, .mov (.const (.bool false))⟩])
 .ret) .skip))
 (.seq (.seq (.ops [⟨some 11, none, .fieldAddr (.tmp 1) 0⟩, ⟨some 12, none, .load (.tmp 11)⟩, ⟨some 13, none, .lenSl (.tmp 12)⟩, ⟨some 14, none, .mov (.const (.int .i64 0))⟩])
 (.block 0 (.loop (.seq (.ops [⟨some 15, none, .bin .lss 3 (.tmp 14) (.tmp 13)⟩])
 (.seq (.cond (.tmp 15) .skip (.exit 0))
 (.seq (.block 1 (.seq (.ops [⟨some 16, none, .mov (.tmp 14)⟩, ⟨some 3, none, .mov (.tmp 16)⟩])
 (.seq (.ops [⟨some 17, none, .mov (.tmp 3)⟩, ⟨some 18, none, .call (.func 79) [.tmp 1, .tmp 17]⟩, ⟨some 19, none, .un .not (.tmp 18)⟩])
 (.cond (.tmp 19) (.seq (.ops [⟨some 2, none, .mov (.const (.bool false))⟩])
 .ret) .skip))))
 (.ops [⟨some 20, none, .bin .add 3 (.tmp 14) (.const (.int .i64 1))⟩, ⟨some 14, none, .mov (.tmp 20)⟩])))))))
 (.seq (.ops [⟨some 4, none, .mov (.const (.int .i64 0))⟩])
 (.seq (.seq (.ops [⟨some 21, none, .fieldAddr (.tmp 1) 1⟩, ⟨some 22, none, .load (.tmp 21)⟩, ⟨some 23, none, .lenSl (.tmp 22)⟩, ⟨some 24, none, .mov (.const (.int .i64 0))⟩])
 (.block 2 (.loop (.seq (.ops [⟨some 25, none, .bin .lss 3 (.tmp 24) (.tmp 23)⟩])
 (.seq (.cond (.tmp 25) .skip (.exit 2))
 (.seq (.block 3 (.seq (.ops [⟨some 26, none, .idxSl (.tmp 22) (.tmp 24) 1⟩, ⟨some 27, none, .load (.tmp 26)⟩, ⟨some 6, none, .mov (.tmp 27)⟩])
 (.seq (.seq (.ops [⟨some 28, none, .mov (.tmp 6)⟩, ⟨some 29, none, .fieldAddr (.tmp 1) 0⟩, ⟨some 30, none, .load (.tmp 29)⟩, ⟨some 31, none, .lenSl (.tmp 30)⟩, ⟨some 32, none, .bin .sub 3 (.tmp 31) (.const (.int .i64 1))⟩, ⟨some 33, none, .call (.func 80) [.tmp 28, .const (.int .i64 0), .tmp 32]⟩, ⟨some 34, none, .un .not (.tmp 33)⟩, ⟨some 35, none, .mov (.tmp 34)⟩, ⟨some 36, some (35, false), .fieldAddr (.tmp 1) 0⟩, ⟨some 37, some (35, false), .load (.tmp 36)⟩, ⟨some 38, some (35, false), .mov (.tmp 6)⟩, ⟨some 39, some (35, false), .idxSl (.tmp 37) (.tmp 38) 4⟩, ⟨some 40, some (35, false), .fieldAddr (.tmp 39) 0⟩, ⟨some 41, some (35, false), .load (.tmp 40)⟩, ⟨some 42, some (35, false), .bin .lss 3 (.tmp 41) (.const (.int .i64 33))⟩, ⟨some 43, none, .pick (.tmp 35) (.const (.bool true)) (.tmp 42)⟩])
 (.cond (.tmp 43) (.seq (.ops [⟨some 2, none, .mov (.const (.bool false))⟩])
 .ret) .skip))
 (.seq (.ops [⟨some 44, none, .mov (.tmp 6)⟩, ⟨some 45, none, .mov (.tmp 4)⟩, ⟨some 46, none, .call (.func 81) [.tmp 1, .tmp 44, .tmp 45]⟩, ⟨some 4, none, .mov (.tmp 46)⟩])
 (.seq (.ops [⟨some 47, none, .mov (.tmp 4)⟩, ⟨some 48, none, .bin .lss 3 (.tmp 47) (.const (.int .i64 0))⟩])
 (.cond (.tmp 48) (.seq (.ops [⟨some 2, none, .mov (.const (.bool false))⟩])
 .ret) .skip))))))
 (.ops [⟨some 49, none, .bin .add 3 (.tmp 24) (.const (.int .i64 1))⟩, ⟨some 24, none, .mov (.tmp 49)⟩])))))))
 (.seq (.ops [⟨some 50, none, .mov (.tmp 4)⟩, ⟨some 51, none, .fieldAddr (.tmp 1) 0⟩, ⟨some 52, none, .load (.tmp 51)⟩, ⟨some 53, none, .lenSl (.tmp 52)⟩, ⟨some 54, none, .bin .eql 3 (.tmp 50) (.tmp 53)⟩, ⟨some 2, none, .mov (.tmp 54)⟩])
 .ret))))))⟩
theorem s39 : stripF Go.Proofs.Try.prog [] Go.Proofs.Try.f39 = some A39 := by kernel_rfl
theorem en39 : enters Go.Proofs.Try.prog 39 = true := by kernel_rfl
def E39_0 (x1 x13 x14 : Value) (g : Nat → Value) : List Value := [g 0, x1, g 2, g 3, g 4, g 5, g 6, g 7, g 8, g 9, g 10, g 11, g 12, x13, x14, g 15, g 16, g 17, g 18, g 19, g 20, g 21, g 22, g 23, g 24, g 25, g 26, g 27, g 28, g 29, g 30, g 31, g 32, g 33, g 34, g 35, g 36, g 37, g 38, g 39, g 40, g 41, g 42, g 43, g 44, g 45, g 46, g 47, g 48, g 49, g 50, g 51, g 52, g 53, g 54]
def E39_1 (x1 x4 x22 x23 x24 : Value) (g : Nat → Value) : List Value := [g 0, x1, g 2, g 3, x4, g 5, g 6, g 7, g 8, g 9, g 10, g 11, g 12, g 13, g 14, g 15, g 16, g 17, g 18, g 19, g 20, g 21, x22, x23, x24, g 25, g 26, g 27, g 28, g 29, g 30, g 31, g 32, g 33, g 34, g 35, g 36, g 37, g 38, g 39, g 40, g 41, g 42, g 43, g 44, g 45, g 46, g 47, g 48, g 49, g 50, g 51, g 52, g 53, g 54]
/-- (*impl.Tree).first -/
def A40 : AFn := ⟨24, [.tmp 4],
 (.seq (.ops [⟨some 4, none, .mov (.const (.int .i64 0))⟩])
 (.seq (.ops [⟨some 5, none, .mov (.const (.int .i64 0))⟩])
 (.seq (.seq (.ops [⟨some 8, none, .mov (.tmp 0)⟩, ⟨some 9, none, .nilCheck (.tmp 8)⟩, ⟨some 10, none, .fieldAddr (.tmp 9) 1⟩, ⟨some 11, none, .load (.tmp 10)⟩, ⟨some 12, none, .lenSl (.tmp 11)⟩, ⟨some 13, none, .mov (.const (.int .i64 0))⟩])
 (.block 0 (.loop (.seq (.ops [⟨some 14, none, .bin .lss 3 (.tmp 13) (.tmp 12)⟩])
 (.seq (.cond (.tmp 14) .skip (.exit 0))
 (.seq (.block 1 (.seq (.ops [⟨some 15, none, .idxSl (.tmp 11) (.tmp 13) 1⟩, ⟨some 16, none, .load (.tmp 15)⟩, ⟨some 7, none, .mov (.tmp 16)⟩])
 (.seq (.ops [⟨some 17, none, .mov (.tmp 7)⟩, ⟨some 18, none, .mov (.tmp 1)⟩, ⟨some 19, none, .bin .lss 3 (.tmp 17) (.tmp 18)⟩])
 (.cond (.tmp 19) (.ops [⟨some 20, none, .mov (.tmp 7)⟩, ⟨some 21, none, .bin .add 3 (.tmp 20) (.const (.int .i64 1))⟩, ⟨some 5, none, .mov (.tmp 21)⟩]) .skip))))
 (.ops [⟨some 22, none, .bin .add 3 (.tmp 13) (.const (.int .i64 1))⟩, ⟨some 13, none, .mov (.tmp 22)⟩])))))))
 (.seq (.ops [⟨some 23, none, .mov (.tmp 5)⟩, ⟨some 4, none, .mov (.tmp 23)⟩])
 .ret))))⟩
theorem s40 : stripF Go.Proofs.Try.prog [] Go.Proofs.Try.f40 = some A40 := by kernel_rfl
theorem en40 : enters Go.Proofs.Try.prog 40 = true := by kernel_rfl
def E40_0 (x1 x5 x11 x12 x13 : Value) (g : Nat → Value) : List Value := [g 0, x1, g 2, g 3, g 4, x5, g 6, g 7, g 8, g 9, g 10, x11, x12, x13, g 14, g 15, g 16, g 17, g 18, g 19, g 20, g 21, g 22, g 23]
/-- impl.Sizes -/
def A14 : AFn := ⟨28, [.tmp 2],
 (.seq (.ops [⟨some 1, none, .box false (.tmp 0)⟩, ⟨some 2, none, .mov (.const (.slice none 0 0))⟩])
 (.seq (.ops [⟨some 6, none, .mkSlice 1 0 [] []⟩, ⟨some 3, none, .mov (.tmp 6)⟩])
 (.seq (.seq (.ops [⟨some 7, none, .loadN (.tmp 1) 2⟩, ⟨some 8, none, .call (.func 39) [.tmp 7]⟩, ⟨some 9, none, .un .not (.tmp 8)⟩])
 (.cond (.tmp 9) (.seq (.ops [⟨some 10, none, .mov (.tmp 3)⟩, ⟨some 2, none, .mov (.tmp 10)⟩])
 .ret) .skip))
 (.seq (.seq (.ops [⟨some 11, none, .fieldAddr (.tmp 1) 1⟩, ⟨some 12, none, .load (.tmp 11)⟩, ⟨some 13, none, .lenSl (.tmp 12)⟩, ⟨some 14, none, .mov (.const (.int .i64 0))⟩])
 (.block 0 (.loop (.seq (.ops [⟨some 15, none, .bin .lss 3 (.tmp 14) (.tmp 13)⟩])
 (.seq (.cond (.tmp 15) .skip (.exit 0))
 (.seq (.block 1 (.seq (.ops [⟨some 16, none, .idxSl (.tmp 12) (.tmp 14) 1⟩, ⟨some 17, none, .load (.tmp 16)⟩, ⟨some 5, none, .mov (.tmp 17)⟩])
 (.ops [⟨some 18, none, .mov (.tmp 3)⟩, ⟨some 19, none, .mov (.tmp 5)⟩, ⟨some 20, none, .mov (.tmp 5)⟩, ⟨some 21, none, .call (.func 40) [.tmp 1, .tmp 20]⟩, ⟨some 22, none, .bin .sub 3 (.tmp 19) (.tmp 21)⟩, ⟨some 23, none, .bin .add 3 (.tmp 22) (.const (.int .i64 1))⟩, ⟨some 24, none, .mkSlice 1 1 [.int .i64 0] [(0, 1, .tmp 23)]⟩, ⟨some 25, none, .append 1 8 (.tmp 18) (.tmp 24)⟩, ⟨some 3, none, .mov (.tmp 25)⟩])))
 (.ops [⟨some 26, none, .bin .add 3 (.tmp 14) (.const (.int .i64 1))⟩, ⟨some 14, none, .mov (.tmp 26)⟩])))))))
 (.seq (.ops [⟨some 27, none, .mov (.tmp 3)⟩, ⟨some 2, none, .mov (.tmp 27)⟩])
 .ret)))))⟩
theorem s14 : stripF Go.Proofs.Try.prog [] Go.Proofs.Try.f14 = some A14 := by kernel_rfl
theorem en14 : enters Go.Proofs.Try.prog 14 = true := by kernel_rfl
def E14_0 (x1 x3 x12 x13 x14 : Value) (g : Nat → Value) : List Value := [g 0, x1, g 2, x3, g 4, g 5, g 6, g 7, g 8, g 9, g 10, g 11, x12, x13, x14, g 15, g 16, g 17, g 18, g 19, g 20, g 21, g 22, g 23, g 24, g 25, g 26, g 27]
/-- laws.eqIntS -/
def A15 : AFn := ⟨26, [.tmp 4],
 (.seq (.ops [⟨some 4, none, .mov (.const (.bool false))⟩])
 (.seq (.seq (.ops [⟨some 6, none, .mov (.tmp 0)⟩, ⟨some 7, none, .lenSl (.tmp 6)⟩, ⟨some 8, none, .mov (.tmp 1)⟩, ⟨some 9, none, .lenSl (.tmp 8)⟩, ⟨some 10, none, .bin .neq 3 (.tmp 7) (.tmp 9)⟩])
 (.cond (.tmp 10) (.seq (.ops [⟨some 4, none, .mov (.const (.bool false))⟩])
 .ret) .skip))
 (.seq (.seq (.ops [⟨some 5, none, .mov (.const (.int .i64 0))⟩])
 (.block 0 (.loop (.seq (.seq (.ops [⟨some 11, none, .mov (.tmp 5)⟩, ⟨some 12, none, .mov (.tmp 0)⟩, ⟨some 13, none, .lenSl (.tmp 12)⟩, ⟨some 14, none, .bin .lss 3 (.tmp 11) (.tmp 13)⟩])
 (.cond (.tmp 14) .skip (.exit 0)))
 (.seq (.block 1 (.seq (.ops [⟨some 17, none, .mov (.tmp 0)⟩, ⟨some 18, none, .mov (.tmp 5)⟩, ⟨some 19, none, .idxSl (.tmp 17) (.tmp 18) 1⟩, ⟨some 20, none, .load (.tmp 19)⟩, ⟨some 21, none, .mov (.tmp 1)⟩, ⟨some 22, none, .mov (.tmp 5)⟩, ⟨some 23, none, .idxSl (.tmp 21) (.tmp 22) 1⟩, ⟨some 24, none, .load (.tmp 23)⟩, ⟨some 25, none, .bin .neq 3 (.tmp 20) (.tmp 24)⟩])
 (.cond (.tmp 25) (.seq (.ops [⟨some 4, none, .mov (.const (.bool false))⟩])
 .ret) .skip)))
 (.ops [⟨some 15, none, .mov (.tmp 5)⟩, ⟨some 16, none, .bin .add 3 (.tmp 15) (.const (.int .i64 1))⟩, ⟨some 5, none, .mov (.tmp 16)⟩]))))))
 (.seq (.ops [⟨some 4, none, .mov (.const (.bool true))⟩])
 .ret))))⟩
theorem s15 : stripF Go.Proofs.Try.prog [] Go.Proofs.Try.f15 = some A15 := by kernel_rfl
theorem en15 : enters Go.Proofs.Try.prog 15 = true := by kernel_rfl
def E15_0 (x0 x1 x5 : Value) (g : Nat → Value) : List Value := [x0, x1, g 2, g 3, g 4, x5, g 6, g 7, g 8, g 9, g 10, g 11, g 12, g 13, g 14, g 15, g 16, g 17, g 18, g 19, g 20, g 21, g 22, g 23, g 24, g 25]
/-- laws.eqNode -/
def A82 : AFn := ⟨26, [.tmp 4],
 (.seq (.ops [⟨some 2, none, .box false (.tmp 0)⟩, ⟨some 3, none, .box false (.tmp 1)⟩, ⟨some 4, none, .mov (.const (.bool false))⟩])
 (.seq (.seq (.ops [⟨some 5, none, .fieldAddr (.tmp 2) 0⟩, ⟨some 6, none, .load (.tmp 5)⟩, ⟨some 7, none, .fieldAddr (.tmp 3) 0⟩, ⟨some 8, none, .load (.tmp 7)⟩, ⟨some 9, none, .bin .neq 3 (.tmp 6) (.tmp 8)⟩])
 (.cond (.tmp 9) (.seq (.ops [⟨some 4, none, .mov (.const (.bool false))⟩])
 .ret) .skip))
 (.seq (.seq (.ops [⟨some 10, none, .fieldAddr (.tmp 2) 1⟩, ⟨some 11, none, .load (.tmp 10)⟩, ⟨some 12, none, .fieldAddr (.tmp 3) 1⟩, ⟨some 13, none, .load (.tmp 12)⟩, ⟨some 14, none, .bin .neq 9 (.tmp 11) (.tmp 13)⟩])
 (.cond (.tmp 14) (.seq (.ops [⟨some 4, none, .mov (.const (.bool false))⟩])
 .ret) .skip))
 (.seq (.seq (.ops [⟨some 15, none, .fieldAddr (.tmp 2) 2⟩, ⟨some 16, none, .load (.tmp 15)⟩, ⟨some 17, none, .fieldAddr (.tmp 3) 2⟩, ⟨some 18, none, .load (.tmp 17)⟩, ⟨some 19, none, .bin .neq 3 (.tmp 16) (.tmp 18)⟩])
 (.cond (.tmp 19) (.seq (.ops [⟨some 4, none, .mov (.const (.bool false))⟩])
 .ret) .skip))
 (.seq (.seq (.ops [⟨some 20, none, .fieldAddr (.tmp 2) 3⟩, ⟨some 21, none, .load (.tmp 20)⟩, ⟨some 22, none, .fieldAddr (.tmp 3) 3⟩, ⟨some 23, none, .load (.tmp 22)⟩, ⟨some 24, none, .call (.func 15) [.tmp 21, .tmp 23]⟩, ⟨some 25, none, .un .not (.tmp 24)⟩])
 (.cond (.tmp 25) (.seq (.ops [⟨some 4, none, .mov (.const (.bool false))⟩])
 .ret) .skip))
 (.seq (.ops [⟨some 4, none, .mov (.const (.bool true))⟩])
 .ret))))))⟩
theorem s82 : stripF Go.Proofs.Try.prog [] Go.Proofs.Try.f82 = some A82 := by kernel_rfl
theorem en82 : enters Go.Proofs.Try.prog 82 = true := by kernel_rfl
/-- laws.eqNodeS -/
def A41 : AFn := ⟨27, [.tmp 4],
 (.seq (.ops [⟨some 4, none, .mov (.const (.bool false))⟩])
 (.seq (.seq (.ops [⟨some 6, none, .mov (.tmp 0)⟩, ⟨some 7, none, .lenSl (.tmp 6)⟩, ⟨some 8, none, .mov (.tmp 1)⟩, ⟨some 9, none, .lenSl (.tmp 8)⟩, ⟨some 10, none, .bin .neq 3 (.tmp 7) (.tmp 9)⟩])
 (.cond (.tmp 10) (.seq (.ops [⟨some 4, none, .mov (.const (.bool false))⟩])
 .ret) .skip))
 (.seq (.seq (.ops [⟨some 5, none, .mov (.const (.int .i64 0))⟩])
 (.block 0 (.loop (.seq (.seq (.ops [⟨some 11, none, .mov (.tmp 5)⟩, ⟨some 12, none, .mov (.tmp 0)⟩, ⟨some 13, none, .lenSl (.tmp 12)⟩, ⟨some 14, none, .bin .lss 3 (.tmp 11) (.tmp 13)⟩])
 (.cond (.tmp 14) .skip (.exit 0)))
 (.seq (.block 1 (.seq (.ops [⟨some 17, none, .mov (.tmp 0)⟩, ⟨some 18, none, .mov (.tmp 5)⟩, ⟨some 19, none, .idxSl (.tmp 17) (.tmp 18) 4⟩, ⟨some 20, none, .loadN (.tmp 19) 4⟩, ⟨some 21, none, .mov (.tmp 1)⟩, ⟨some 22, none, .mov (.tmp 5)⟩, ⟨some 23, none, .idxSl (.tmp 21) (.tmp 22) 4⟩, ⟨some 24, none, .loadN (.tmp 23) 4⟩, ⟨some 25, none, .call (.func 82) [.tmp 20, .tmp 24]⟩, ⟨some 26, none, .un .not (.tmp 25)⟩])
 (.cond (.tmp 26) (.seq (.ops [⟨some 4, none, .mov (.const (.bool false))⟩])
 .ret) .skip)))
 (.ops [⟨some 15, none, .mov (.tmp 5)⟩, ⟨some 16, none, .bin .add 3 (.tmp 15) (.const (.int .i64 1))⟩, ⟨some 5, none, .mov (.tmp 16)⟩]))))))
 (.seq (.ops [⟨some 4, none, .mov (.const (.bool true))⟩])
 .ret))))⟩
theorem s41 : stripF Go.Proofs.Try.prog [] Go.Proofs.Try.f41 = some A41 := by kernel_rfl
theorem en41 : enters Go.Proofs.Try.prog 41 = true := by kernel_rfl
def E41_0 (x0 x1 x5 : Value) (g : Nat → Value) : List Value := [x0, x1, g 2, g 3, g 4, x5, g 6, g 7, g 8, g 9, g 10, g 11, g 12, g 13, g 14, g 15, g 16, g 17, g 18, g 19, g 20, g 21, g 22, g 23, g 24, g 25, g 26]
/-- laws.eqTree -/
def A16 : AFn := ⟨17, [.tmp 4],
 (.seq (.ops [⟨some 2, none, .box false (.tmp 0)⟩, ⟨some 3, none, .box false (.tmp 1)⟩, ⟨some 4, none, .mov (.const (.bool false))⟩])
 (.seq (.seq (.ops [⟨some 5, none, .fieldAddr (.tmp 2) 0⟩, ⟨some 6, none, .load (.tmp 5)⟩, ⟨some 7, none, .fieldAddr (.tmp 3) 0⟩, ⟨some 8, none, .load (.tmp 7)⟩, ⟨some 9, none, .call (.func 41) [.tmp 6, .tmp 8]⟩, ⟨some 10, none, .un .not (.tmp 9)⟩])
 (.cond (.tmp 10) (.seq (.ops [⟨some 4, none, .mov (.const (.bool false))⟩])
 .ret) .skip))
 (.seq (.seq (.ops [⟨some 11, none, .fieldAddr (.tmp 2) 1⟩, ⟨some 12, none, .load (.tmp 11)⟩, ⟨some 13, none, .fieldAddr (.tmp 3) 1⟩, ⟨some 14, none, .load (.tmp 13)⟩, ⟨some 15, none, .call (.func 15) [.tmp 12, .tmp 14]⟩, ⟨some 16, none, .un .not (.tmp 15)⟩])
 (.cond (.tmp 16) (.seq (.ops [⟨some 4, none, .mov (.const (.bool false))⟩])
 .ret) .skip))
 (.seq (.ops [⟨some 4, none, .mov (.const (.bool true))⟩])
 .ret))))⟩
theorem s16 : stripF Go.Proofs.Try.prog [] Go.Proofs.Try.f16 = some A16 := by kernel_rfl
theorem en16 : enters Go.Proofs.Try.prog 16 = true := by kernel_rfl
/-- laws.markIntS -/
def A18 : AFn := ⟨19, [.tmp 4],
 (.seq (.ops [⟨some 4, none, .mov (.const (.int .i64 0))⟩])
 (.seq (.seq (.ops [⟨some 5, none, .mov (.const (.int .i64 0))⟩])
 (.block 0 (.loop (.seq (.seq (.ops [⟨some 6, none, .mov (.tmp 5)⟩, ⟨some 7, none, .mov (.tmp 0)⟩, ⟨some 8, none, .lenSl (.tmp 7)⟩, ⟨some 9, none, .bin .lss 3 (.tmp 6) (.tmp 8)⟩])
 (.cond (.tmp 9) .skip (.exit 0)))
 (.seq (.block 1 (.seq (.ops [⟨some 12, none, .mov (.tmp 0)⟩, ⟨some 13, none, .mov (.tmp 5)⟩, ⟨some 14, none, .mov (.tmp 1)⟩, ⟨some 15, none, .idxSl (.tmp 12) (.tmp 13) 1⟩, ⟨none, none, .store 1 (.tmp 15) (.tmp 14)⟩])
 (.ops [⟨some 16, none, .mov (.tmp 1)⟩, ⟨some 17, none, .bin .add 3 (.tmp 16) (.const (.int .i64 1))⟩, ⟨some 1, none, .mov (.tmp 17)⟩])))
 (.ops [⟨some 10, none, .mov (.tmp 5)⟩, ⟨some 11, none, .bin .add 3 (.tmp 10) (.const (.int .i64 1))⟩, ⟨some 5, none, .mov (.tmp 11)⟩]))))))
 (.seq (.ops [⟨some 18, none, .mov (.tmp 1)⟩, ⟨some 4, none, .mov (.tmp 18)⟩])
 .ret)))⟩
theorem s18 : stripF Go.Proofs.Try.prog [] Go.Proofs.Try.f18 = some A18 := by kernel_rfl
theorem en18 : enters Go.Proofs.Try.prog 18 = true := by kernel_rfl
def E18_0 (x0 x1 x5 : Value) (g : Nat → Value) : List Value := [x0, x1, g 2, g 3, g 4, x5, g 6, g 7, g 8, g 9, g 10, g 11, g 12, g 13, g 14, g 15, g 16, g 17, g 18]
/-- laws.markText -/
def A83 : AFn := ⟨20, [.tmp 2],
 (.seq (.ops [⟨some 2, none, .mov (.const (.string ⟨#[]⟩))⟩])
 (.seq (.seq (.ops [⟨some 4, none, .mov (.tmp 0)⟩, ⟨some 5, none, .bin .leq 3 (.tmp 4) (.const (.int .i64 0))⟩])
 (.cond (.tmp 5) (.seq (.ops [⟨some 2, none, .mov (.const (.string ⟨#[109, 48]⟩))⟩])
 .ret) .skip))
 (.seq (.ops [⟨some 3, none, .mov (.const (.string ⟨#[]⟩))⟩])
 (.seq (.block 0 (.loop (.seq (.seq (.ops [⟨some 6, none, .mov (.tmp 0)⟩, ⟨some 7, none, .bin .gtr 3 (.tmp 6) (.const (.int .i64 0))⟩])
 (.cond (.tmp 7) .skip (.exit 0)))
 (.block 1 (.seq (.ops [⟨some 8, none, .mov (.tmp 0)⟩, ⟨some 9, none, .bin .rem 3 (.tmp 8) (.const (.int .i64 10))⟩, ⟨some 10, none, .bin .add 3 (.const (.int .i64 48)) (.tmp 9)⟩, ⟨some 11, none, .convI .u8 (.tmp 10)⟩, ⟨some 12, none, .mkSlice 1 1 [.int .u8 0] [(0, 1, .tmp 11)]⟩, ⟨some 13, none, .convBS (.tmp 12)⟩, ⟨some 14, none, .mov (.tmp 3)⟩, ⟨some 15, none, .bin .add 9 (.tmp 13) (.tmp 14)⟩, ⟨some 3, none, .mov (.tmp 15)⟩])
 (.ops [⟨some 16, none, .mov (.tmp 0)⟩, ⟨some 17, none, .bin .quo 3 (.tmp 16) (.const (.int .i64 10))⟩, ⟨some 0, none, .mov (.tmp 17)⟩]))))))
 (.seq (.ops [⟨some 18, none, .mov (.tmp 3)⟩, ⟨some 19, none, .bin .add 9 (.const (.string ⟨#[109]⟩)) (.tmp 18)⟩, ⟨some 2, none, .mov (.tmp 19)⟩])
 .ret)))))⟩
theorem s83 : stripF Go.Proofs.Try.prog [] Go.Proofs.Try.f83 = some A83 := by kernel_rfl
theorem en83 : enters Go.Proofs.Try.prog 83 = true := by kernel_rfl
def E83_0 (x0 x3 : Value) (g : Nat → Value) : List Value := [x0, g 1, g 2, x3, g 4, g 5, g 6, g 7, g 8, g 9, g 10, g 11, g 12, g 13, g 14, g 15, g 16, g 17, g 18, g 19]
/-- laws.markNodeS -/
def A42 : AFn := ⟨42, [.tmp 4],
 (.seq (.ops [⟨some 4, none, .mov (.const (.int .i64 0))⟩])
 (.seq (.seq (.ops [⟨some 5, none, .mov (.const (.int .i64 0))⟩])
 (.block 0 (.loop (.seq (.seq (.ops [⟨some 6, none, .mov (.tmp 5)⟩, ⟨some 7, none, .mov (.tmp 0)⟩, ⟨some 8, none, .lenSl (.tmp 7)⟩, ⟨some 9, none, .bin .lss 3 (.tmp 6) (.tmp 8)⟩])
 (.cond (.tmp 9) .skip (.exit 0)))
 (.seq (.block 1 (.seq (.ops [⟨some 12, none, .mov (.tmp 0)⟩, ⟨some 13, none, .mov (.tmp 5)⟩, ⟨some 14, none, .mov (.tmp 1)⟩, ⟨some 15, none, .idxSl (.tmp 12) (.tmp 13) 4⟩, ⟨some 16, none, .fieldAddr (.tmp 15) 0⟩, ⟨none, none, .store 1 (.tmp 16) (.tmp 14)⟩])
 (.seq (.ops [⟨some 17, none, .mov (.tmp 1)⟩, ⟨some 18, none, .bin .add 3 (.tmp 17) (.const (.int .i64 1))⟩, ⟨some 1, none, .mov (.tmp 18)⟩])
 (.seq (.ops [⟨some 19, none, .mov (.tmp 0)⟩, ⟨some 20, none, .mov (.tmp 5)⟩, ⟨some 21, none, .mov (.tmp 1)⟩, ⟨some 22, none, .call (.func 83) [.tmp 21]⟩, ⟨some 23, none, .idxSl (.tmp 19) (.tmp 20) 4⟩, ⟨some 24, none, .fieldAddr (.tmp 23) 1⟩, ⟨none, none, .store 1 (.tmp 24) (.tmp 22)⟩])
 (.seq (.ops [⟨some 25, none, .mov (.tmp 1)⟩, ⟨some 26, none, .bin .add 3 (.tmp 25) (.const (.int .i64 1))⟩, ⟨some 1, none, .mov (.tmp 26)⟩])
 (.seq (.ops [⟨some 27, none, .mov (.tmp 0)⟩, ⟨some 28, none, .mov (.tmp 5)⟩, ⟨some 29, none, .mov (.tmp 1)⟩, ⟨some 30, none, .idxSl (.tmp 27) (.tmp 28) 4⟩, ⟨some 31, none, .fieldAddr (.tmp 30) 2⟩, ⟨none, none, .store 1 (.tmp 31) (.tmp 29)⟩])
 (.seq (.ops [⟨some 32, none, .mov (.tmp 1)⟩, ⟨some 33, none, .bin .add 3 (.tmp 32) (.const (.int .i64 1))⟩, ⟨some 1, none, .mov (.tmp 33)⟩])
 (.ops [⟨some 34, none, .mov (.tmp 0)⟩, ⟨some 35, none, .mov (.tmp 5)⟩, ⟨some 36, none, .idxSl (.tmp 34) (.tmp 35) 4⟩, ⟨some 37, none, .fieldAddr (.tmp 36) 3⟩, ⟨some 38, none, .load (.tmp 37)⟩, ⟨some 39, none, .mov (.tmp 1)⟩, ⟨some 40, none, .call (.func 18) [.tmp 38, .tmp 39]⟩, ⟨some 1, none, .mov (.tmp 40)⟩]))))))))
 (.ops [⟨some 10, none, .mov (.tmp 5)⟩, ⟨some 11, none, .bin .add 3 (.tmp 10) (.const (.int .i64 1))⟩, ⟨some 5, none, .mov (.tmp 11)⟩]))))))
 (.seq (.ops [⟨some 41, none, .mov (.tmp 1)⟩, ⟨some 4, none, .mov (.tmp 41)⟩])
 .ret)))⟩
theorem s42 : stripF Go.Proofs.Try.prog [] Go.Proofs.Try.f42 = some A42 := by kernel_rfl
theorem en42 : enters Go.Proofs.Try.prog 42 = true := by kernel_rfl
def E42_0 (x0 x1 x5 : Value) (g : Nat → Value) : List Value := [x0, x1, g 2, g 3, g 4, x5, g 6, g 7, g 8, g 9, g 10, g 11, g 12, g 13, g 14, g 15, g 16, g 17, g 18, g 19, g 20, g 21, g 22, g 23, g 24, g 25, g 26, g 27, g 28, g 29, g 30, g 31, g 32, g 33, g 34, g 35, g 36, g 37, g 38, g 39, g 40, g 41]
/-- laws.markTree -/
def A17 : AFn := ⟨14, [.tmp 4],
 (.seq (.ops [⟨some 2, none, .box false (.tmp 0)⟩, ⟨some 4, none, .mov (.const (.int .i64 0))⟩])
 (.seq (.ops [⟨some 5, none, .fieldAddr (.tmp 2) 0⟩, ⟨some 6, none, .load (.tmp 5)⟩, ⟨some 7, none, .mov (.tmp 1)⟩, ⟨some 8, none, .call (.func 42) [.tmp 6, .tmp 7]⟩, ⟨some 1, none, .mov (.tmp 8)⟩])
 (.seq (.ops [⟨some 9, none, .fieldAddr (.tmp 2) 1⟩, ⟨some 10, none, .load (.tmp 9)⟩, ⟨some 11, none, .mov (.tmp 1)⟩, ⟨some 12, none, .call (.func 18) [.tmp 10, .tmp 11]⟩, ⟨some 1, none, .mov (.tmp 12)⟩])
 (.seq (.ops [⟨some 13, none, .mov (.tmp 1)⟩, ⟨some 4, none, .mov (.tmp 13)⟩])
 .ret))))⟩
theorem s17 : stripF Go.Proofs.Try.prog [] Go.Proofs.Try.f17 = some A17 := by kernel_rfl
theorem en17 : enters Go.Proofs.Try.prog 17 = true := by kernel_rfl
/-- laws.heldIntS -/
def A19 : AFn := ⟨21, [.tmp 4],
 (.seq (.ops [⟨some 4, none, .mov (.const (.int .i64 0))⟩])
 (.seq (.seq (.ops [⟨some 5, none, .mov (.const (.int .i64 0))⟩])
 (.block 0 (.loop (.seq (.seq (.ops [⟨some 6, none, .mov (.tmp 5)⟩, ⟨some 7, none, .mov (.tmp 0)⟩, ⟨some 8, none, .lenSl (.tmp 7)⟩, ⟨some 9, none, .bin .lss 3 (.tmp 6) (.tmp 8)⟩])
 (.cond (.tmp 9) .skip (.exit 0)))
 (.seq (.block 1 (.seq (.seq (.ops [⟨some 12, none, .mov (.tmp 0)⟩, ⟨some 13, none, .mov (.tmp 5)⟩, ⟨some 14, none, .idxSl (.tmp 12) (.tmp 13) 1⟩, ⟨some 15, none, .load (.tmp 14)⟩, ⟨some 16, none, .mov (.tmp 1)⟩, ⟨some 17, none, .bin .neq 3 (.tmp 15) (.tmp 16)⟩])
 (.cond (.tmp 17) (.seq (.ops [⟨some 4, none, .mov (.const (.int .i64 (-1)))⟩])
 .ret) .skip))
 (.ops [⟨some 18, none, .mov (.tmp 1)⟩, ⟨some 19, none, .bin .add 3 (.tmp 18) (.const (.int .i64 1))⟩, ⟨some 1, none, .mov (.tmp 19)⟩])))
 (.ops [⟨some 10, none, .mov (.tmp 5)⟩, ⟨some 11, none, .bin .add 3 (.tmp 10) (.const (.int .i64 1))⟩, ⟨some 5, none, .mov (.tmp 11)⟩]))))))
 (.seq (.ops [⟨some 20, none, .mov (.tmp 1)⟩, ⟨some 4, none, .mov (.tmp 20)⟩])
 .ret)))⟩
theorem s19 : stripF Go.Proofs.Try.prog [] Go.Proofs.Try.f19 = some A19 := by kernel_rfl
theorem en19 : enters Go.Proofs.Try.prog 19 = true := by kernel_rfl
def E19_0 (x0 x1 x5 : Value) (g : Nat → Value) : List Value := [x0, x1, g 2, g 3, g 4, x5, g 6, g 7, g 8, g 9, g 10, g 11, g 12, g 13, g 14, g 15, g 16, g 17, g 18, g 19, g 20]
/-- laws.FnExactSizes -/
def A4 : AFn := ⟨69, [.tmp 2],
 (.seq (.ops [⟨some 1, none, .box false (.tmp 0)⟩, ⟨some 2, none, .mov (.const (.bool false))⟩])
 (.seq (.ops [⟨some 3, none, .mov (.const (.int .i64 1048576))⟩])
 (.seq (.ops [⟨some 11, none, .loadN (.tmp 1) 2⟩, ⟨some 12, none, .mov (.tmp 3)⟩, ⟨some 13, none, .call (.func 11) [.tmp 11, .tmp 12]⟩, ⟨some 3, none, .mov (.tmp 13)⟩])
 (.seq (.seq (.ops [⟨some 14, none, .mov (.tmp 3)⟩, ⟨some 15, none, .bin .lss 3 (.tmp 14) (.const (.int .i64 0))⟩])
 (.cond (.tmp 15) (.seq (.ops [⟨some 2, none, .mov (.const (.bool true))⟩])
 .ret) .skip))
 (.seq (.ops [⟨some 16, none, .loadN (.tmp 1) 2⟩, ⟨some 17, none, .call (.func 13) [.tmp 16]⟩, ⟨some 18, none, .call (.func 12) [.tmp 17]⟩, ⟨some 4, none, .mov (.tmp 18)⟩])
 (.seq (.ops [⟨some 19, none, .loadN (.tmp 1) 2⟩, ⟨some 20, none, .call (.func 13) [.tmp 19]⟩, ⟨some 5, none, .new false [.slice none 0 0, .slice none 0 0]⟩, ⟨none, none, .store 2 (.tmp 5) (.tmp 20)⟩])
 (.seq (.ops [⟨some 21, none, .loadN (.tmp 5) 2⟩, ⟨some 22, none, .call (.func 14) [.tmp 21]⟩, ⟨some 6, none, .mov (.tmp 22)⟩])
 (.seq (.seq (.ops [⟨some 23, none, .mov (.tmp 6)⟩, ⟨some 24, none, .mov (.tmp 4)⟩, ⟨some 25, none, .call (.func 15) [.tmp 23, .tmp 24]⟩, ⟨some 26, none, .un .not (.tmp 25)⟩])
 (.cond (.tmp 26) (.seq (.ops [⟨some 2, none, .mov (.const (.bool false))⟩])
 .ret) .skip))
 (.seq (.seq (.draw (.step ⟨some 28, none, .loadN (.tmp 1) 2⟩ (.alt (.step ⟨some 27, none, .loadN (.tmp 5) 2⟩ (.step ⟨some 29, none, .call (.func 13) [.tmp 28]⟩ (.step ⟨some 30, none, .call (.func 16) [.tmp 27, .tmp 29]⟩ (.step ⟨some 31, none, .un .not (.tmp 30)⟩ .done)))) (.step ⟨some 29, none, .call (.func 13) [.tmp 28]⟩ (.step ⟨some 27, none, .loadN (.tmp 5) 2⟩ (.step ⟨some 30, none, .call (.func 16) [.tmp 27, .tmp 29]⟩ (.step ⟨some 31, none, .un .not (.tmp 30)⟩ .done)))))))
 (.cond (.tmp 31) (.seq (.ops [⟨some 2, none, .mov (.const (.bool false))⟩])
 .ret) .skip))
 (.seq (.ops [⟨some 7, none, .mov (.const (.int .i64 1))⟩])
 (.seq (.ops [⟨some 32, none, .loadN (.tmp 5) 2⟩, ⟨some 33, none, .mov (.tmp 7)⟩, ⟨some 34, none, .call (.func 17) [.tmp 32, .tmp 33]⟩, ⟨some 7, none, .mov (.tmp 34)⟩])
 (.seq (.seq (.ops [⟨some 35, none, .mov (.tmp 7)⟩, ⟨some 36, none, .bin .lss 3 (.tmp 35) (.const (.int .i64 0))⟩, ⟨some 37, none, .mov (.tmp 36)⟩, ⟨some 38, some (37, false), .mov (.tmp 6)⟩, ⟨some 39, some (37, false), .mov (.tmp 4)⟩, ⟨some 40, some (37, false), .call (.func 15) [.tmp 38, .tmp 39]⟩, ⟨some 41, some (37, false), .un .not (.tmp 40)⟩, ⟨some 42, none, .pick (.tmp 37) (.const (.bool true)) (.tmp 41)⟩])
 (.cond (.tmp 42) (.seq (.ops [⟨some 2, none, .mov (.const (.bool false))⟩])
 .ret) .skip))
 (.seq (.ops [⟨some 8, none, .mov (.const (.int .i64 1))⟩])
 (.seq (.ops [⟨some 43, none, .mov (.tmp 6)⟩, ⟨some 44, none, .mov (.tmp 8)⟩, ⟨some 45, none, .call (.func 18) [.tmp 43, .tmp 44]⟩, ⟨some 8, none, .mov (.tmp 45)⟩])
 (.seq (.ops [⟨some 9, none, .mov (.const (.int .i64 1))⟩])
 (.seq (.ops [⟨some 46, none, .mov (.tmp 6)⟩, ⟨some 47, none, .mov (.tmp 9)⟩, ⟨some 48, none, .call (.func 19) [.tmp 46, .tmp 47]⟩, ⟨some 9, none, .mov (.tmp 48)⟩])
 (.seq (.seq (.ops [⟨some 49, none, .mov (.tmp 9)⟩, ⟨some 50, none, .bin .lss 3 (.tmp 49) (.const (.int .i64 0))⟩])
 (.cond (.tmp 50) (.seq (.ops [⟨some 2, none, .mov (.const (.bool false))⟩])
 .ret) .skip))
 (.seq (.seq (.ops [⟨some 51, none, .mov (.tmp 9)⟩, ⟨some 52, none, .mov (.tmp 8)⟩, ⟨some 53, none, .bin .neq 3 (.tmp 51) (.tmp 52)⟩])
 (.cond (.tmp 53) (.seq (.ops [⟨some 2, none, .mov (.const (.bool false))⟩])
 .ret) .skip))
 (.seq (.ops [⟨some 54, none, .loadN (.tmp 1) 2⟩, ⟨some 55, none, .call (.func 13) [.tmp 54]⟩, ⟨some 56, none, .call (.func 14) [.tmp 55]⟩, ⟨some 10, none, .mov (.tmp 56)⟩])
 (.seq (.seq (.ops [⟨some 57, none, .mov (.tmp 10)⟩, ⟨some 58, none, .mov (.tmp 4)⟩, ⟨some 59, none, .call (.func 15) [.tmp 57, .tmp 58]⟩, ⟨some 60, none, .un .not (.tmp 59)⟩])
 (.cond (.tmp 60) (.seq (.ops [⟨some 2, none, .mov (.const (.bool false))⟩])
 .ret) .skip))
 (.seq (.ops [⟨some 9, none, .mov (.const (.int .i64 1))⟩])
 (.seq (.ops [⟨some 61, none, .mov (.tmp 6)⟩, ⟨some 62, none, .mov (.tmp 9)⟩, ⟨some 63, none, .call (.func 19) [.tmp 61, .tmp 62]⟩, ⟨some 9, none, .mov (.tmp 63)⟩])
 (.seq (.seq (.ops [⟨some 64, none, .mov (.tmp 9)⟩, ⟨some 65, none, .bin .lss 3 (.tmp 64) (.const (.int .i64 0))⟩])
 (.cond (.tmp 65) (.seq (.ops [⟨some 2, none, .mov (.const (.bool false))⟩])
 .ret) .skip))
 (.seq (.seq (.ops [⟨some 66, none, .mov (.tmp 9)⟩, ⟨some 67, none, .mov (.tmp 8)⟩, ⟨some 68, none, .bin .neq 3 (.tmp 66) (.tmp 67)⟩])
 (.cond (.tmp 68) (.seq (.ops [⟨some 2, none, .mov (.const (.bool false))⟩])
 .ret) .skip))
 (.seq (.ops [⟨some 2, none, .mov (.const (.bool true))⟩])
 .ret)))))))))))))))))))))))))⟩
theorem s4 : stripF Go.Proofs.Try.prog [] Go.Proofs.Try.f4 = some A4 := by kernel_rfl
theorem en4 : enters Go.Proofs.Try.prog 4 = true := by kernel_rfl
end
end Go.AM
