/-
  The code of functions, stripped. No condition beyond what each theorem states.
-/
import Derived.Test.YtbbhjklcjlnacaaGreatRows
import Derived.Test.YtbbhjklcjlnacaaGreatAm22
/-! The code of functions, stripped. -/
namespace Go.AM
open Go.Proofs
/-- girandole/girandolelaw31.PlayForms -/
def sc5 : SC := .seq (.region [] (.one ⟨(some 0), .assign (.const (.bool false)), none⟩ .leaf)) (
.seq (.seq (.region [] (.one ⟨(some 4), .call ⟨.value (.func 7), #[], #[]⟩, none⟩ (
.one ⟨(some 5), .unOp .not 4 (.tmp 4), none⟩ .leaf))) (
.cond (.tmp 5) (.seq (.region [] (.one ⟨(some 0), .assign (.const (.bool false)), none⟩ .leaf)) (
.ret)) (
.skip))) (
.seq (.region [] (.one ⟨(some 6), .buildSlice 22 52 #[(0, (.const (.int .u8 0))), (1, (.const (.int .u8 9))), (2, (.const (.int .u8 11))), (3, (.const (.int .u8 1))), (4, (.const (.int .u8 0))), (5, (.const (.int .u8 0))), (6, (.const (.int .u8 0))), (7, (.const (.int .u8 5))), (8, (.const (.int .u8 2))), (9, (.const (.int .u8 6))), (10, (.const (.int .u8 0))), (11, (.const (.int .u8 0))), (12, (.const (.int .u8 0))), (13, (.const (.int .u8 4))), (14, (.const (.int .u8 0))), (15, (.const (.int .u8 3))), (16, (.const (.int .u8 0))), (17, (.const (.int .u8 0))), (18, (.const (.int .u8 0))), (19, (.const (.int .u8 1))), (20, (.const (.int .u8 0))), (21, (.const (.int .u8 0))), (22, (.const (.int .u8 0))), (23, (.const (.int .u8 9))), (24, (.const (.int .u8 0))), (25, (.const (.int .u8 2))), (26, (.const (.int .u8 104))), (27, (.const (.int .u8 105))), (28, (.const (.int .u8 3))), (29, (.const (.int .u8 0))), (30, (.const (.int .u8 2))), (31, (.const (.int .u8 1))), (32, (.const (.int .u8 6))), (33, (.const (.int .u8 0))), (34, (.const (.int .u8 1))), (35, (.const (.int .u8 1))), (36, (.const (.int .u8 0))), (37, (.const (.int .u8 2))), (38, (.const (.int .u8 7))), (39, (.const (.int .u8 0))), (40, (.const (.int .u8 3))), (41, (.const (.int .u8 0))), (42, (.const (.int .u8 4))), (43, (.const (.int .u8 90))), (44, (.const (.int .u8 3))), (45, (.const (.int .u8 8))), (46, (.const (.int .u8 2))), (47, (.const (.int .u8 120))), (48, (.const (.int .u8 121))), (49, (.const (.int .u8 0))), (50, (.const (.int .u8 4))), (51, (.const (.int .u8 0)))], none⟩ (
.one ⟨(some 7), .convert 22 22 (.tmp 6), none⟩ (
.one ⟨(some 8), .call ⟨.value (.func 8), #[(.tmp 7)], #[22]⟩, none⟩ (
.one ⟨(some 1), .assign (.tmp 8), none⟩ .leaf))))) (
.seq (.region [] (.one ⟨(some 9), .build 36 #[(0, (.const (.int .i64 2)))], none⟩ (
.one ⟨(some 10), .buildSlice 32 1 #[(0, (.const (.int .u32 4)))], none⟩ (
.one ⟨(some 11), .build 34 #[(0, (.const (.int .u32 5))), (1, (.const (.int .i64 2))), (2, (.tmp 10)), (3, (.const (.int .i64 3))), (4, (.const (.int .i64 1))), (5, (.const (.int .i64 9)))], none⟩ (
.one ⟨(some 12), .buildSlice 22 2 #[(0, (.const (.int .u8 104))), (1, (.const (.int .u8 105)))], none⟩ (
.one ⟨(some 13), .convert 22 22 (.tmp 12), none⟩ (
.one ⟨(some 14), .build 36 #[(0, (.const (.int .i64 1))), (1, (.tmp 11)), (2, (.tmp 13))], none⟩ (
.one ⟨(some 15), .build 36 #[(0, (.const (.int .i64 3))), (3, (.const (.int .i64 2))), (5, (.const (.bool true)))], none⟩ (
.one ⟨(some 16), .build 36 #[(0, (.const (.int .i64 6))), (3, (.const (.int .i64 1))), (4, (.const (.int .i64 256)))], none⟩ (
.one ⟨(some 17), .build 36 #[(0, (.const (.int .i64 7))), (3, (.const (.int .i64 3))), (4, (.const (.int .i64 4))), (6, (.const (.int .u8 90))), (5, (.const (.bool true)))], none⟩ (
.one ⟨(some 18), .buildSlice 22 2 #[(0, (.const (.int .u8 120))), (1, (.const (.int .u8 121)))], none⟩ (
.one ⟨(some 19), .convert 22 22 (.tmp 18), none⟩ (
.one ⟨(some 20), .build 36 #[(0, (.const (.int .i64 8))), (2, (.tmp 19))], none⟩ (
.one ⟨(some 21), .buildSlice 25 6 #[(0, (.tmp 9)), (1, (.tmp 14)), (2, (.tmp 15)), (3, (.tmp 16)), (4, (.tmp 17)), (5, (.tmp 20))], none⟩ (
.one ⟨(some 2), .assign (.tmp 21), none⟩ .leaf))))))))))))))) (
.seq (.region [] (.one ⟨(some 22), .build 36 #[(0, (.const (.int .i64 9)))], none⟩ (
.one ⟨(some 23), .build 36 #[(0, (.const (.int .i64 2))), (3, (.const (.int .i64 1)))], none⟩ (
.one ⟨(some 24), .build 36 #[(0, (.const (.int .i64 3))), (4, (.const (.int .i64 1)))], none⟩ (
.one ⟨(some 25), .build 36 #[(0, (.const (.int .i64 3))), (3, (.const (.int .i64 (-1))))], none⟩ (
.one ⟨(some 26), .build 36 #[(0, (.const (.int .i64 3))), (3, (.const (.int .i64 65536)))], none⟩ (
.one ⟨(some 27), .build 36 #[(0, (.const (.int .i64 8))), (3, (.const (.int .i64 1)))], none⟩ (
.one ⟨(some 28), .build 34 #[(4, (.const (.int .i64 (-1))))], none⟩ (
.one ⟨(some 29), .build 36 #[(0, (.const (.int .i64 1))), (1, (.tmp 28))], none⟩ (
.alt (.one ⟨(some 30), .makeSlice 32 (.const (.int .i64 5)) (.const (.int .i64 5)), none⟩ (
.one ⟨(some 31), .build 34 #[(2, (.tmp 30))], none⟩ (
.one ⟨(some 32), .build 36 #[(0, (.const (.int .i64 1))), (1, (.tmp 31))], none⟩ (
.alt (.one ⟨(some 33), .makeSlice 22 (.const (.int .i64 256)) (.const (.int .i64 256)), none⟩ (
.one ⟨(some 34), .build 36 #[(0, (.const (.int .i64 8))), (2, (.tmp 33))], none⟩ (
.alt (.one ⟨(some 35), .buildSlice 25 9 #[(0, (.tmp 22)), (1, (.tmp 23)), (2, (.tmp 24)), (3, (.tmp 25)), (4, (.tmp 26)), (5, (.tmp 27)), (6, (.tmp 29)), (7, (.tmp 32)), (8, (.tmp 34))], none⟩ (
.one ⟨(some 3), .assign (.tmp 35), none⟩ .leaf)) (
.nil)))) (
.nil))))) (
.alt (.one ⟨(some 33), .makeSlice 22 (.const (.int .i64 256)) (.const (.int .i64 256)), none⟩ (
.one ⟨(some 34), .build 36 #[(0, (.const (.int .i64 8))), (2, (.tmp 33))], none⟩ (
.alt (.one ⟨(some 30), .makeSlice 32 (.const (.int .i64 5)) (.const (.int .i64 5)), none⟩ (
.one ⟨(some 31), .build 34 #[(2, (.tmp 30))], none⟩ (
.one ⟨(some 32), .build 36 #[(0, (.const (.int .i64 1))), (1, (.tmp 31))], none⟩ (
.alt (.one ⟨(some 35), .buildSlice 25 9 #[(0, (.tmp 22)), (1, (.tmp 23)), (2, (.tmp 24)), (3, (.tmp 25)), (4, (.tmp 26)), (5, (.tmp 27)), (6, (.tmp 29)), (7, (.tmp 32)), (8, (.tmp 34))], none⟩ (
.one ⟨(some 3), .assign (.tmp 35), none⟩ .leaf)) (
.nil))))) (
.nil)))) (
.nil)))))))))))) (
.seq (.region [] (.one ⟨(some 36), .move (.tmp 1), none⟩ (
.one ⟨(some 37), .move (.tmp 2), none⟩ (
.one ⟨(some 38), .call ⟨.value (.func 10), #[(.tmp 36), (.tmp 37)], #[25, 25]⟩, none⟩ (
.one ⟨(some 39), .move (.tmp 38), none⟩ (
.one ⟨(some 40), .move (.tmp 3), some (39, true)⟩ (
.one ⟨(some 41), .call ⟨.value (.func 9), #[(.tmp 40)], #[25]⟩, some (39, true)⟩ (
.one ⟨(some 42), .call ⟨.builtin .len, #[(.tmp 41)], #[22]⟩, some (39, true)⟩ (
.one ⟨(some 43), .binOp .eql 3 (.tmp 42) (.const (.int .i64 0)) 3, some (39, true)⟩ (
.one ⟨(some 44), .pick (.tmp 39) (.tmp 43) (.const (.bool false)), none⟩ (
.one ⟨(some 0), .assign (.tmp 44), none⟩ .leaf))))))))))) (
.ret))))))
theorem ok5 : Tryz.f5.body.bind (comp Tryz.prog 45) = some sc5 := by kernel_rfl
theorem rc5 : Tryz.f5.results.toList = ([(0, none)] : List (Nat × Option TypeId)).map toRV := by kernel_rfl
def fi5 : Fi := ⟨sc5, 45, [(0, none)], false, none, false⟩
theorem fo5 : FnOk Tryz.prog 5 fi5 := ⟨Tryz.f5, Tryz.func5, Tryz.ntmps5, ok5, rc5, fun _ _ _ h => (by cases h), Tryz.call5⟩
/-- girandole/girandolelaw31.begun -/
def sc7 : SC := .seq (.region [] (.one ⟨(some 0), .assign (.const (.bool false)), none⟩ .leaf)) (
.seq (.region [] (.one ⟨(some 8), .buildSlice 22 1 #[(0, (.const (.int .u8 2)))], none⟩ (
.one ⟨(some 9), .call ⟨.value (.func 8), #[(.tmp 8)], #[22]⟩, none⟩ (
.one ⟨(some 1), .assign (.tmp 9), none⟩ .leaf)))) (
.seq (.region [] (.one ⟨(some 11), .build 44 #[(0, (.const (.int .i64 2))), (1, (.const (.int .i64 100))), (2, (.const (.int .i64 2))), (3, (.const (.int .i64 50))), (4, (.const (.int .i64 5)))], none⟩ (
.one ⟨(some 12), .move (.tmp 1), none⟩ (
.one ⟨(some 13), .call ⟨.value (.func 12), #[(.tmp 11), (.tmp 12)], #[44, 25]⟩, none⟩ (
.one ⟨(some 10), .move (.tmp 13), none⟩ (
.one ⟨(some 14), .extract (.tmp 10) 0, none⟩ (
.one ⟨(some 15), .extract (.tmp 10) 1, none⟩ (
.one ⟨(some 16), .extract (.tmp 10) 2, none⟩ (
.one ⟨(some 2), .assign (.tmp 14), none⟩ (
.one ⟨(some 3), .assign (.tmp 15), none⟩ (
.one ⟨(some 4), .assign (.tmp 16), none⟩ .leaf))))))))))) (
.seq (.region [] (.one ⟨(some 18), .build 44 #[], none⟩ (
.one ⟨(some 19), .call ⟨.value (.func 12), #[(.tmp 18), (.const (.slice none 0 0))], #[44, 25]⟩, none⟩ (
.one ⟨(some 17), .move (.tmp 19), none⟩ (
.one ⟨(some 20), .extract (.tmp 17) 0, none⟩ (
.one ⟨(some 21), .extract (.tmp 17) 1, none⟩ (
.one ⟨(some 22), .extract (.tmp 17) 2, none⟩ (
.one ⟨(some 5), .assign (.tmp 20), none⟩ (
.one ⟨(some 6), .assign (.tmp 21), none⟩ (
.one ⟨(some 7), .assign (.tmp 22), none⟩ .leaf)))))))))) (
.seq (.region [] (.one ⟨(some 23), .move (.tmp 1), none⟩ (
.one ⟨(some 24), .call ⟨.builtin .len, #[(.tmp 23)], #[25]⟩, none⟩ (
.one ⟨(some 25), .binOp .eql 3 (.tmp 24) (.const (.int .i64 1)) 3, none⟩ (
.one ⟨(some 26), .move (.tmp 25), none⟩ (
.one ⟨(some 27), .move (.tmp 1), some (26, true)⟩ (
.one ⟨(some 28), .indexAddr 25 (.tmp 27) (.const (.int .i64 0)), some (26, true)⟩ (
.one ⟨(some 29), .fieldAddr 36 (.tmp 28) 0, some (26, true)⟩ (
.one ⟨(some 30), .load 3 (.tmp 29), some (26, true)⟩ (
.one ⟨(some 31), .binOp .eql 3 (.tmp 30) (.const (.int .i64 2)) 3, some (26, true)⟩ (
.one ⟨(some 32), .pick (.tmp 26) (.tmp 31) (.const (.bool false)), none⟩ (
.one ⟨(some 33), .move (.tmp 32), none⟩ (
.one ⟨(some 34), .move (.tmp 1), some (33, true)⟩ (
.one ⟨(some 35), .call ⟨.value (.func 9), #[(.tmp 34)], #[25]⟩, some (33, true)⟩ (
.one ⟨(some 36), .convert 22 9 (.tmp 35), some (33, true)⟩ (
.one ⟨(some 37), .binOp .eql 9 (.tmp 36) (.const (.string ⟨#[2]⟩)) 9, some (33, true)⟩ (
.one ⟨(some 38), .pick (.tmp 33) (.tmp 37) (.const (.bool false)), none⟩ (
.one ⟨(some 39), .move (.tmp 38), none⟩ (
.one ⟨(some 40), .move (.tmp 4), some (39, true)⟩ (
.one ⟨(some 41), .pick (.tmp 39) (.tmp 40) (.const (.bool false)), none⟩ (
.one ⟨(some 42), .move (.tmp 41), none⟩ (
.one ⟨(some 43), .move (.tmp 2), some (42, true)⟩ (
.one ⟨(some 44), .binOp .neq 39 (.tmp 43) (.const (.pointer none)) 39, some (42, true)⟩ (
.one ⟨(some 45), .pick (.tmp 42) (.tmp 44) (.const (.bool false)), none⟩ (
.one ⟨(some 46), .move (.tmp 45), none⟩ (
.one ⟨(some 47), .move (.tmp 3), some (46, true)⟩ (
.one ⟨(some 48), .call ⟨.builtin .len, #[(.tmp 47)], #[40]⟩, some (46, true)⟩ (
.one ⟨(some 49), .binOp .eql 3 (.tmp 48) (.const (.int .i64 1)) 3, some (46, true)⟩ (
.one ⟨(some 50), .pick (.tmp 46) (.tmp 49) (.const (.bool false)), none⟩ (
.one ⟨(some 51), .move (.tmp 50), none⟩ (
.one ⟨(some 52), .move (.tmp 7), some (51, true)⟩ (
.one ⟨(some 53), .unOp .not 4 (.tmp 52), some (51, true)⟩ (
.one ⟨(some 54), .pick (.tmp 51) (.tmp 53) (.const (.bool false)), none⟩ (
.one ⟨(some 0), .assign (.tmp 54), none⟩ .leaf)))))))))))))))))))))))))))))))))) (
.ret)))))
theorem ok7 : Tryz.f7.body.bind (comp Tryz.prog 55) = some sc7 := by kernel_rfl
theorem rc7 : Tryz.f7.results.toList = ([(0, none)] : List (Nat × Option TypeId)).map toRV := by kernel_rfl
def fi7 : Fi := ⟨sc7, 55, [(0, none)], false, none, false⟩
theorem fo7 : FnOk Tryz.prog 7 fi7 := ⟨Tryz.f7, Tryz.func7, Tryz.ntmps7, ok7, rc7, fun _ _ _ h => (by cases h), Tryz.call7⟩
/-- girandole/play.Decode -/
def sc8 : SC := .seq (.region [] (.one ⟨(some 2), .assign (.const (.slice none 0 0)), none⟩ .leaf)) (
.seq (.region [] (.one ⟨(some 6), .move (.tmp 0), none⟩ (
.one ⟨(some 7), .build 47 #[(0, (.tmp 6))], none⟩ (
.one ⟨(some 8), .box 47 (.tmp 7), none⟩ (
.one ⟨(some 3), .assign (.tmp 8), none⟩ .leaf))))) (
.block 0 (.loop (.block 1 (.seq (.region [] (.one ⟨(some 10), .move (.tmp 3), none⟩ (
.one ⟨(some 11), .call ⟨.value (.func 13), #[(.tmp 10)], #[45]⟩, none⟩ (
.one ⟨(some 9), .move (.tmp 11), none⟩ (
.one ⟨(some 12), .extract (.tmp 9) 0, none⟩ (
.one ⟨(some 13), .extract (.tmp 9) 1, none⟩ (
.one ⟨(some 4), .alloc 36, none⟩ (
.one ⟨none, .store 36 (.tmp 4) (.tmp 12), none⟩ (
.one ⟨(some 5), .assign (.tmp 13), none⟩ .leaf))))))))) (
.seq (.seq (.region [] (.one ⟨(some 14), .move (.tmp 5), none⟩ (
.one ⟨(some 15), .unOp .not 4 (.tmp 14), none⟩ .leaf))) (
.cond (.tmp 15) (.seq (.region [] (.one ⟨(some 16), .move (.tmp 2), none⟩ (
.one ⟨(some 2), .assign (.tmp 16), none⟩ .leaf))) (
.ret)) (
.skip))) (
.region [] (.one ⟨(some 17), .move (.tmp 2), none⟩ (
.one ⟨(some 18), .load 36 (.tmp 4), none⟩ (
.one ⟨(some 19), .buildSlice 25 1 #[(0, (.tmp 18))], none⟩ (
.one ⟨(some 20), .call ⟨.builtin .append, #[(.tmp 17), (.tmp 19)], #[25, 25]⟩, none⟩ (
.one ⟨(some 2), .assign (.tmp 20), none⟩ .leaf))))))))))))
theorem ok8 : Tryz.f8.body.bind (comp Tryz.prog 21) = some sc8 := by kernel_rfl
theorem rc8 : Tryz.f8.results.toList = ([(2, none)] : List (Nat × Option TypeId)).map toRV := by kernel_rfl
def fi8 : Fi := ⟨sc8, 21, [(2, none)], false, none, false⟩
theorem fo8 : FnOk Tryz.prog 8 fi8 := ⟨Tryz.f8, Tryz.func8, Tryz.ntmps8, ok8, rc8, fun _ _ _ h => (by cases h), Tryz.call8⟩
/-- girandole/play.Encode -/
def sc9 : SC := .seq (.region [] (.one ⟨(some 2), .assign (.const (.slice none 0 0)), none⟩ .leaf)) (
.seq (.seq (.region [] (.one ⟨(some 7), .move (.tmp 0), none⟩ (
.one ⟨(some 8), .call ⟨.builtin .len, #[(.tmp 7)], #[25]⟩, none⟩ (
.one ⟨(some 9), .move (.const (.int .i64 0)), none⟩ .leaf)))) (
.block 0 (.loop (.seq (.region [] (.one ⟨(some 10), .binOp .lss 3 (.tmp 9) (.tmp 8) 3, none⟩ .leaf)) (
.seq (.cond (.tmp 10) (.skip) (
.exit 0)) (
.seq (.block 1 (.seq (.region [] (.one ⟨(some 11), .indexAddr 25 (.tmp 7) (.tmp 9), none⟩ (
.one ⟨(some 12), .load 36 (.tmp 11), none⟩ (
.one ⟨(some 4), .alloc 36, none⟩ (
.one ⟨none, .store 36 (.tmp 4) (.tmp 12), none⟩ .leaf))))) (
.seq (.seq (.region [] (.one ⟨(some 13), .fieldAddr 36 (.tmp 4) 0, none⟩ (
.one ⟨(some 14), .load 3 (.tmp 13), none⟩ (
.one ⟨(some 15), .binOp .lss 3 (.tmp 14) (.const (.int .i64 1)) 3, none⟩ (
.one ⟨(some 16), .move (.tmp 15), none⟩ (
.one ⟨(some 17), .fieldAddr 36 (.tmp 4) 0, some (16, false)⟩ (
.one ⟨(some 18), .load 3 (.tmp 17), some (16, false)⟩ (
.one ⟨(some 19), .binOp .gtr 3 (.tmp 18) (.const (.int .i64 8)) 3, some (16, false)⟩ (
.one ⟨(some 20), .pick (.tmp 16) (.const (.bool true)) (.tmp 19), none⟩ .leaf))))))))) (
.cond (.tmp 20) (.exit 1) (
.skip))) (
.seq (.region [] (.one ⟨(some 21), .load 36 (.tmp 4), none⟩ (
.one ⟨(some 22), .call ⟨.value (.func 14), #[(.tmp 21)], #[36]⟩, none⟩ (
.one ⟨(some 5), .assign (.tmp 22), none⟩ .leaf)))) (
.seq (.region [] (.one ⟨(some 23), .move (.tmp 5), none⟩ (
.one ⟨(some 24), .call ⟨.value (.func 8), #[(.tmp 23)], #[22]⟩, none⟩ (
.one ⟨(some 6), .assign (.tmp 24), none⟩ .leaf)))) (
.seq (.region [25, 26, 27, 28, 29, 30, 31, 32, 33, 34] (.one ⟨(some 25), .move (.tmp 6), none⟩ (
.one ⟨(some 26), .call ⟨.builtin .len, #[(.tmp 25)], #[25]⟩, none⟩ (
.one ⟨(some 27), .binOp .eql 3 (.tmp 26) (.const (.int .i64 1)) 3, none⟩ (
.one ⟨(some 28), .move (.tmp 27), none⟩ (
.one ⟨(some 29), .move (.tmp 6), some (28, true)⟩ (
.one ⟨(some 30), .indexAddr 25 (.tmp 29) (.const (.int .i64 0)), some (28, true)⟩ (
.one ⟨(some 31), .load 36 (.tmp 30), some (28, true)⟩ (
.one ⟨(some 32), .load 36 (.tmp 4), some (28, true)⟩ (
.alt (.one ⟨(some 33), .call ⟨.value (.func 15), #[(.tmp 31), (.tmp 32)], #[36, 36]⟩, some (28, true)⟩ (
.one ⟨(some 34), .pick (.tmp 28) (.tmp 33) (.const (.bool false)), none⟩ .leaf)) (
.nil))))))))))) (
.cond (.tmp 34) (.region [] (.one ⟨(some 35), .move (.tmp 2), none⟩ (
.one ⟨(some 36), .move (.tmp 5), none⟩ (
.one ⟨(some 37), .call ⟨.builtin .append, #[(.tmp 35), (.tmp 36)], #[22, 22]⟩, none⟩ (
.one ⟨(some 2), .assign (.tmp 37), none⟩ .leaf))))) (
.skip)))))))) (
.region [] (.one ⟨(some 38), .binOp .add 3 (.tmp 9) (.const (.int .i64 1)) 3, none⟩ (
.one ⟨(some 9), .move (.tmp 38), none⟩ .leaf))))))))) (
.seq (.region [] (.one ⟨(some 39), .move (.tmp 2), none⟩ (
.one ⟨(some 2), .assign (.tmp 39), none⟩ .leaf))) (
.ret)))
theorem ok9 : Tryz.f9.body.bind (comp Tryz.prog 40) = some sc9 := by kernel_rfl
theorem rc9 : Tryz.f9.results.toList = ([(2, none)] : List (Nat × Option TypeId)).map toRV := by kernel_rfl
def fi9 : Fi := ⟨sc9, 40, [(2, none)], false, none, false⟩
theorem fo9 : FnOk Tryz.prog 9 fi9 := ⟨Tryz.f9, Tryz.func9, Tryz.ntmps9, ok9, rc9, fun _ _ _ h => (by cases h), Tryz.call9⟩
/-- girandole/girandoleref31.SameSteps -/
def sc10 : SC := .seq (.region [] (.one ⟨(some 4), .assign (.const (.bool false)), none⟩ .leaf)) (
.seq (.seq (.region [] (.one ⟨(some 6), .move (.tmp 0), none⟩ (
.one ⟨(some 7), .call ⟨.builtin .len, #[(.tmp 6)], #[25]⟩, none⟩ (
.one ⟨(some 8), .move (.tmp 1), none⟩ (
.one ⟨(some 9), .call ⟨.builtin .len, #[(.tmp 8)], #[25]⟩, none⟩ (
.one ⟨(some 10), .binOp .neq 3 (.tmp 7) (.tmp 9) 3, none⟩ .leaf)))))) (
.cond (.tmp 10) (.seq (.region [] (.one ⟨(some 4), .assign (.const (.bool false)), none⟩ .leaf)) (
.ret)) (
.skip))) (
.seq (.seq (.region [] (.one ⟨(some 5), .assign (.const (.int .i64 0)), none⟩ .leaf)) (
.block 0 (.loop (.seq (.seq (.region [] (.one ⟨(some 11), .move (.tmp 5), none⟩ (
.one ⟨(some 12), .move (.tmp 0), none⟩ (
.one ⟨(some 13), .call ⟨.builtin .len, #[(.tmp 12)], #[25]⟩, none⟩ (
.one ⟨(some 14), .binOp .lss 3 (.tmp 11) (.tmp 13) 3, none⟩ .leaf))))) (
.cond (.tmp 14) (.skip) (
.exit 0))) (
.seq (.block 1 (.seq (.region [17, 18, 19, 20, 21, 22, 23, 24, 25, 26] (.one ⟨(some 17), .move (.tmp 0), none⟩ (
.one ⟨(some 18), .move (.tmp 5), none⟩ (
.one ⟨(some 19), .indexAddr 25 (.tmp 17) (.tmp 18), none⟩ (
.one ⟨(some 20), .load 36 (.tmp 19), none⟩ (
.one ⟨(some 21), .move (.tmp 1), none⟩ (
.one ⟨(some 22), .move (.tmp 5), none⟩ (
.one ⟨(some 23), .indexAddr 25 (.tmp 21) (.tmp 22), none⟩ (
.one ⟨(some 24), .load 36 (.tmp 23), none⟩ (
.alt (.one ⟨(some 25), .call ⟨.value (.func 11), #[(.tmp 20), (.tmp 24)], #[36, 36]⟩, none⟩ (
.one ⟨(some 26), .unOp .not 4 (.tmp 25), none⟩ .leaf)) (
.nil))))))))))) (
.cond (.tmp 26) (.seq (.region [] (.one ⟨(some 4), .assign (.const (.bool false)), none⟩ .leaf)) (
.ret)) (
.skip)))) (
.region [] (.one ⟨(some 15), .move (.tmp 5), none⟩ (
.one ⟨(some 16), .binOp .add 3 (.tmp 15) (.const (.int .i64 1)) 3, none⟩ (
.one ⟨(some 5), .assign (.tmp 16), none⟩ .leaf))))))))) (
.seq (.region [] (.one ⟨(some 4), .assign (.const (.bool true)), none⟩ .leaf)) (
.ret))))
theorem ok10 : Tryz.f10.body.bind (comp Tryz.prog 27) = some sc10 := by kernel_rfl
theorem rc10 : Tryz.f10.results.toList = ([(4, none)] : List (Nat × Option TypeId)).map toRV := by kernel_rfl
def fi10 : Fi := ⟨sc10, 27, [(4, none)], false, none, false⟩
theorem fo10 : FnOk Tryz.prog 10 fi10 := ⟨Tryz.f10, Tryz.func10, Tryz.ntmps10, ok10, rc10, fun _ _ _ h => (by cases h), Tryz.call10⟩
/-- girandole/girandoleref31.SameStep -/
def sc11 : SC := .seq (.region [] (.one ⟨(some 2), .box 36 (.tmp 0), none⟩ (
.one ⟨(some 3), .box 36 (.tmp 1), none⟩ (
.one ⟨(some 4), .assign (.const (.bool false)), none⟩ .leaf)))) (
.seq (.region [] (.one ⟨(some 5), .fieldAddr 36 (.tmp 2) 0, none⟩ (
.one ⟨(some 6), .load 3 (.tmp 5), none⟩ (
.one ⟨(some 7), .fieldAddr 36 (.tmp 3) 0, none⟩ (
.one ⟨(some 8), .load 3 (.tmp 7), none⟩ (
.one ⟨(some 9), .binOp .eql 3 (.tmp 6) (.tmp 8) 3, none⟩ (
.one ⟨(some 10), .move (.tmp 9), none⟩ (
.one ⟨(some 11), .fieldAddr 36 (.tmp 2) 1, some (10, true)⟩ (
.one ⟨(some 12), .load 34 (.tmp 11), some (10, true)⟩ (
.one ⟨(some 13), .fieldAddr 36 (.tmp 3) 1, some (10, true)⟩ (
.one ⟨(some 14), .load 34 (.tmp 13), some (10, true)⟩ (
.one ⟨(some 15), .call ⟨.value (.func 16), #[(.tmp 12), (.tmp 14)], #[34, 34]⟩, some (10, true)⟩ (
.one ⟨(some 16), .pick (.tmp 10) (.tmp 15) (.const (.bool false)), none⟩ (
.one ⟨(some 17), .move (.tmp 16), none⟩ (
.one ⟨(some 18), .fieldAddr 36 (.tmp 2) 2, some (17, true)⟩ (
.one ⟨(some 19), .load 22 (.tmp 18), some (17, true)⟩ (
.one ⟨(some 20), .convert 22 9 (.tmp 19), some (17, true)⟩ (
.one ⟨(some 21), .fieldAddr 36 (.tmp 3) 2, some (17, true)⟩ (
.one ⟨(some 22), .load 22 (.tmp 21), some (17, true)⟩ (
.one ⟨(some 23), .convert 22 9 (.tmp 22), some (17, true)⟩ (
.one ⟨(some 24), .binOp .eql 9 (.tmp 20) (.tmp 23) 9, some (17, true)⟩ (
.one ⟨(some 25), .pick (.tmp 17) (.tmp 24) (.const (.bool false)), none⟩ (
.one ⟨(some 26), .move (.tmp 25), none⟩ (
.one ⟨(some 27), .fieldAddr 36 (.tmp 2) 3, some (26, true)⟩ (
.one ⟨(some 28), .load 3 (.tmp 27), some (26, true)⟩ (
.one ⟨(some 29), .fieldAddr 36 (.tmp 3) 3, some (26, true)⟩ (
.one ⟨(some 30), .load 3 (.tmp 29), some (26, true)⟩ (
.one ⟨(some 31), .binOp .eql 3 (.tmp 28) (.tmp 30) 3, some (26, true)⟩ (
.one ⟨(some 32), .pick (.tmp 26) (.tmp 31) (.const (.bool false)), none⟩ (
.one ⟨(some 33), .move (.tmp 32), none⟩ (
.one ⟨(some 34), .fieldAddr 36 (.tmp 2) 4, some (33, true)⟩ (
.one ⟨(some 35), .load 3 (.tmp 34), some (33, true)⟩ (
.one ⟨(some 36), .fieldAddr 36 (.tmp 3) 4, some (33, true)⟩ (
.one ⟨(some 37), .load 3 (.tmp 36), some (33, true)⟩ (
.one ⟨(some 38), .binOp .eql 3 (.tmp 35) (.tmp 37) 3, some (33, true)⟩ (
.one ⟨(some 39), .pick (.tmp 33) (.tmp 38) (.const (.bool false)), none⟩ (
.one ⟨(some 40), .move (.tmp 39), none⟩ (
.one ⟨(some 41), .fieldAddr 36 (.tmp 2) 5, some (40, true)⟩ (
.one ⟨(some 42), .load 4 (.tmp 41), some (40, true)⟩ (
.one ⟨(some 43), .fieldAddr 36 (.tmp 3) 5, some (40, true)⟩ (
.one ⟨(some 44), .load 4 (.tmp 43), some (40, true)⟩ (
.one ⟨(some 45), .binOp .eql 4 (.tmp 42) (.tmp 44) 4, some (40, true)⟩ (
.one ⟨(some 46), .pick (.tmp 40) (.tmp 45) (.const (.bool false)), none⟩ (
.one ⟨(some 47), .move (.tmp 46), none⟩ (
.one ⟨(some 48), .fieldAddr 36 (.tmp 2) 6, some (47, true)⟩ (
.one ⟨(some 49), .load 5 (.tmp 48), some (47, true)⟩ (
.one ⟨(some 50), .fieldAddr 36 (.tmp 3) 6, some (47, true)⟩ (
.one ⟨(some 51), .load 5 (.tmp 50), some (47, true)⟩ (
.one ⟨(some 52), .binOp .eql 5 (.tmp 49) (.tmp 51) 5, some (47, true)⟩ (
.one ⟨(some 53), .pick (.tmp 47) (.tmp 52) (.const (.bool false)), none⟩ (
.one ⟨(some 4), .assign (.tmp 53), none⟩ .leaf))))))))))))))))))))))))))))))))))))))))))))))))))) (
.ret))
theorem ok11 : Tryz.f11.body.bind (comp Tryz.prog 54) = some sc11 := by kernel_rfl
theorem rc11 : Tryz.f11.results.toList = ([(4, none)] : List (Nat × Option TypeId)).map toRV := by kernel_rfl
def fi11 : Fi := ⟨sc11, 54, [(4, none)], false, none, false⟩
theorem fo11 : FnOk Tryz.prog 11 fi11 := ⟨Tryz.f11, Tryz.func11, Tryz.ntmps11, ok11, rc11, fun _ _ _ h => (by cases h), Tryz.call11⟩
/-- girandole/play.Run -/
def sc12 : SC := .seq (.region [] (.one ⟨(some 2), .box 44 (.tmp 0), none⟩ (
.one ⟨(some 4), .assign (.const (.pointer none)), none⟩ (
.one ⟨(some 5), .assign (.const (.slice none 0 0)), none⟩ (
.one ⟨(some 6), .assign (.const (.bool false)), none⟩ .leaf))))) (
.seq (.region [] (.one ⟨(some 13), .load 44 (.tmp 2), none⟩ (
.one ⟨(some 14), .call ⟨.value (.func 17), #[(.tmp 13)], #[44]⟩, none⟩ (
.one ⟨(some 12), .move (.tmp 14), none⟩ (
.one ⟨(some 15), .extract (.tmp 12) 0, none⟩ (
.one ⟨(some 16), .extract (.tmp 12) 1, none⟩ (
.one ⟨(some 7), .assign (.tmp 15), none⟩ (
.one ⟨(some 8), .assign (.tmp 16), none⟩ .leaf)))))))) (
.seq (.seq (.region [] (.one ⟨(some 17), .move (.tmp 8), none⟩ (
.one ⟨(some 18), .unOp .not 4 (.tmp 17), none⟩ .leaf))) (
.cond (.tmp 18) (.seq (.region [] (.one ⟨(some 4), .assign (.const (.pointer none)), none⟩ (
.one ⟨(some 5), .assign (.const (.slice none 0 0)), none⟩ (
.one ⟨(some 6), .assign (.const (.bool false)), none⟩ .leaf)))) (
.ret)) (
.skip))) (
.seq (.region [] (.one ⟨(some 9), .assign (.const (.slice none 0 0)), none⟩ .leaf)) (
.seq (.seq (.region [] (.one ⟨(some 19), .move (.tmp 1), none⟩ (
.one ⟨(some 20), .call ⟨.builtin .len, #[(.tmp 19)], #[25]⟩, none⟩ (
.one ⟨(some 21), .move (.const (.int .i64 0)), none⟩ .leaf)))) (
.block 0 (.loop (.seq (.region [] (.one ⟨(some 22), .binOp .lss 3 (.tmp 21) (.tmp 20) 3, none⟩ .leaf)) (
.seq (.cond (.tmp 22) (.skip) (
.exit 0)) (
.seq (.block 1 (.seq (.region [] (.one ⟨(some 23), .indexAddr 25 (.tmp 19) (.tmp 21), none⟩ (
.one ⟨(some 24), .load 36 (.tmp 23), none⟩ (
.one ⟨(some 11), .alloc 36, none⟩ (
.one ⟨none, .store 36 (.tmp 11) (.tmp 24), none⟩ .leaf))))) (
.region [] (.one ⟨(some 25), .move (.tmp 9), none⟩ (
.one ⟨(some 26), .move (.tmp 7), none⟩ (
.one ⟨(some 27), .load 36 (.tmp 11), none⟩ (
.one ⟨(some 28), .call ⟨.value (.func 18), #[(.tmp 26), (.tmp 27)], #[39, 36]⟩, none⟩ (
.one ⟨(some 29), .buildSlice 40 1 #[(0, (.tmp 28))], none⟩ (
.one ⟨(some 30), .call ⟨.builtin .append, #[(.tmp 25), (.tmp 29)], #[40, 40]⟩, none⟩ (
.one ⟨(some 9), .assign (.tmp 30), none⟩ .leaf)))))))))) (
.region [] (.one ⟨(some 31), .binOp .add 3 (.tmp 21) (.const (.int .i64 1)) 3, none⟩ (
.one ⟨(some 21), .move (.tmp 31), none⟩ .leaf))))))))) (
.seq (.region [] (.one ⟨(some 32), .move (.tmp 7), none⟩ (
.one ⟨(some 33), .move (.tmp 9), none⟩ (
.one ⟨(some 4), .assign (.tmp 32), none⟩ (
.one ⟨(some 5), .assign (.tmp 33), none⟩ (
.one ⟨(some 6), .assign (.const (.bool true)), none⟩ .leaf)))))) (
.ret))))))
theorem ok12 : Tryz.f12.body.bind (comp Tryz.prog 34) = some sc12 := by kernel_rfl
theorem rc12 : Tryz.f12.results.toList = ([(4, none), (5, none), (6, none)] : List (Nat × Option TypeId)).map toRV := by kernel_rfl
def fi12 : Fi := ⟨sc12, 34, [(4, none), (5, none), (6, none)], false, none, false⟩
theorem fo12 : FnOk Tryz.prog 12 fi12 := ⟨Tryz.f12, Tryz.func12, Tryz.ntmps12, ok12, rc12, fun _ _ _ h => (by cases h), Tryz.call12⟩
/-- (*girandole/play.reader).next -/
def sc13 : SC := .seq (.region [] (.one ⟨(some 2), .alloc 36, none⟩ (
.one ⟨(some 3), .alloc 4, none⟩ .leaf))) (
.seq (.region [] (.one ⟨(some 5), .makeFunc (.func 19) #[] #[(.tmp 2), (.tmp 3)], none⟩ (
.one ⟨none, .defer ⟨.value (.tmp 5), #[], #[]⟩, none⟩ .leaf))) (
.seq (.region [] (.one ⟨(some 4), .assign (.const (.int .i64 0)), none⟩ .leaf)) (
.seq (.block 0 (.loop (.seq (.seq (.region [] (.one ⟨(some 6), .move (.tmp 4), none⟩ (
.one ⟨(some 7), .binOp .eql 3 (.tmp 6) (.const (.int .i64 0)) 3, none⟩ .leaf))) (
.cond (.tmp 7) (.skip) (
.exit 0))) (
.block 1 (.region [] (.one ⟨(some 8), .move (.tmp 0), none⟩ (
.one ⟨(some 9), .call ⟨.value (.func 20), #[(.tmp 8), (.const (.int .i64 1))], #[45, 3]⟩, none⟩ (
.one ⟨(some 10), .binOp .rem 3 (.tmp 9) (.const (.int .i64 9)) 3, none⟩ (
.one ⟨(some 4), .assign (.tmp 10), none⟩ .leaf))))))))) (
.seq (.region [] (.one ⟨(some 11), .move (.tmp 0), none⟩ (
.one ⟨(some 12), .move (.tmp 4), none⟩ (
.one ⟨(some 13), .call ⟨.value (.func 21), #[(.tmp 11), (.tmp 12)], #[45, 3]⟩, none⟩ (
.one ⟨none, .store 36 (.tmp 2) (.tmp 13), none⟩ (
.one ⟨none, .store 4 (.tmp 3) (.const (.bool true)), none⟩ .leaf)))))) (
.ret)))))
theorem ok13 : Tryz.f13.body.bind (comp Tryz.prog 14) = some sc13 := by kernel_rfl
theorem rc13 : Tryz.f13.results.toList = ([(2, some 36), (3, some 4)] : List (Nat × Option TypeId)).map toRV := by kernel_rfl
def fi13 : Fi := ⟨sc13, 14, [(2, some 36), (3, some 4)], true, none, false⟩
theorem fo13 : FnOk Tryz.prog 13 fi13 := ⟨Tryz.f13, Tryz.func13, Tryz.ntmps13, ok13, rc13, fun _ _ _ h => (by cases h), Tryz.call13⟩
/-- girandole/play.one -/
def sc14 : SC := .seq (.region [] (.one ⟨(some 1), .box 36 (.tmp 0), none⟩ (
.one ⟨(some 2), .assign (.const (.slice none 0 0)), none⟩ .leaf))) (
.seq (.region [] (.one ⟨(some 8), .fieldAddr 36 (.tmp 1) 0, none⟩ (
.one ⟨(some 9), .load 3 (.tmp 8), none⟩ (
.one ⟨(some 10), .convert 3 5 (.tmp 9), none⟩ (
.one ⟨(some 11), .buildSlice 22 1 #[(0, (.tmp 10))], none⟩ (
.one ⟨(some 3), .assign (.tmp 11), none⟩ .leaf)))))) (
.seq (.seq (.region [] (.one ⟨(some 12), .fieldAddr 36 (.tmp 1) 0, none⟩ (
.one ⟨(some 13), .load 3 (.tmp 12), none⟩ .leaf))) (
.block 0 (.seq (.region [] (.one ⟨(some 19), .binOp .eql 3 (.tmp 13) (.const (.int .i64 1)) 3, none⟩ (
.one ⟨(some 18), .assign (.tmp 19), none⟩ .leaf))) (
.cond (.tmp 18) (.seq (.region [] (.one ⟨(some 20), .fieldAddr 36 (.tmp 1) 1, none⟩ (
.one ⟨(some 21), .load 34 (.tmp 20), none⟩ (
.one ⟨(some 4), .alloc 34, none⟩ (
.one ⟨none, .store 34 (.tmp 4) (.tmp 21), none⟩ .leaf))))) (
.seq (.region [22, 23, 24, 25, 26, 27, 28, 29, 30, 31, 32, 33, 3] (.one ⟨(some 22), .move (.tmp 3), none⟩ (
.one ⟨(some 23), .fieldAddr 34 (.tmp 4) 0, none⟩ (
.one ⟨(some 24), .load 31 (.tmp 23), none⟩ (
.one ⟨(some 25), .convert 31 3 (.tmp 24), none⟩ (
.one ⟨(some 27), .fieldAddr 34 (.tmp 4) 1, none⟩ (
.one ⟨(some 30), .fieldAddr 34 (.tmp 4) 2, none⟩ (
.alt (.one ⟨(some 26), .call ⟨.value (.func 22), #[(.tmp 22), (.tmp 25), (.const (.int .i64 4))], #[22, 3, 3]⟩, none⟩ (
.one ⟨(some 28), .load 3 (.tmp 27), none⟩ (
.alt (.one ⟨(some 29), .call ⟨.value (.func 22), #[(.tmp 26), (.tmp 28), (.const (.int .i64 1))], #[22, 3, 3]⟩, none⟩ (
.one ⟨(some 31), .load 32 (.tmp 30), none⟩ (
.one ⟨(some 32), .call ⟨.builtin .len, #[(.tmp 31)], #[32]⟩, none⟩ (
.alt (.one ⟨(some 33), .call ⟨.value (.func 22), #[(.tmp 29), (.tmp 32), (.const (.int .i64 1))], #[22, 3, 3]⟩, none⟩ (
.one ⟨(some 3), .assign (.tmp 33), none⟩ .leaf)) (
.nil))))) (
.alt (.one ⟨(some 31), .load 32 (.tmp 30), none⟩ (
.one ⟨(some 32), .call ⟨.builtin .len, #[(.tmp 31)], #[32]⟩, none⟩ (
.alt (.one ⟨(some 29), .call ⟨.value (.func 22), #[(.tmp 26), (.tmp 28), (.const (.int .i64 1))], #[22, 3, 3]⟩, none⟩ (
.alt (.one ⟨(some 33), .call ⟨.value (.func 22), #[(.tmp 29), (.tmp 32), (.const (.int .i64 1))], #[22, 3, 3]⟩, none⟩ (
.one ⟨(some 3), .assign (.tmp 33), none⟩ .leaf)) (
.nil))) (
.nil)))) (
.nil))))) (
.alt (.one ⟨(some 28), .load 3 (.tmp 27), none⟩ (
.alt (.one ⟨(some 26), .call ⟨.value (.func 22), #[(.tmp 22), (.tmp 25), (.const (.int .i64 4))], #[22, 3, 3]⟩, none⟩ (
.alt (.one ⟨(some 29), .call ⟨.value (.func 22), #[(.tmp 26), (.tmp 28), (.const (.int .i64 1))], #[22, 3, 3]⟩, none⟩ (
.one ⟨(some 31), .load 32 (.tmp 30), none⟩ (
.one ⟨(some 32), .call ⟨.builtin .len, #[(.tmp 31)], #[32]⟩, none⟩ (
.alt (.one ⟨(some 33), .call ⟨.value (.func 22), #[(.tmp 29), (.tmp 32), (.const (.int .i64 1))], #[22, 3, 3]⟩, none⟩ (
.one ⟨(some 3), .assign (.tmp 33), none⟩ .leaf)) (
.nil))))) (
.alt (.one ⟨(some 31), .load 32 (.tmp 30), none⟩ (
.one ⟨(some 32), .call ⟨.builtin .len, #[(.tmp 31)], #[32]⟩, none⟩ (
.alt (.one ⟨(some 29), .call ⟨.value (.func 22), #[(.tmp 26), (.tmp 28), (.const (.int .i64 1))], #[22, 3, 3]⟩, none⟩ (
.alt (.one ⟨(some 33), .call ⟨.value (.func 22), #[(.tmp 29), (.tmp 32), (.const (.int .i64 1))], #[22, 3, 3]⟩, none⟩ (
.one ⟨(some 3), .assign (.tmp 33), none⟩ .leaf)) (
.nil))) (
.nil)))) (
.nil)))) (
.alt (.one ⟨(some 31), .load 32 (.tmp 30), none⟩ (
.one ⟨(some 32), .call ⟨.builtin .len, #[(.tmp 31)], #[32]⟩, none⟩ (
.alt (.one ⟨(some 26), .call ⟨.value (.func 22), #[(.tmp 22), (.tmp 25), (.const (.int .i64 4))], #[22, 3, 3]⟩, none⟩ (
.alt (.one ⟨(some 29), .call ⟨.value (.func 22), #[(.tmp 26), (.tmp 28), (.const (.int .i64 1))], #[22, 3, 3]⟩, none⟩ (
.alt (.one ⟨(some 33), .call ⟨.value (.func 22), #[(.tmp 29), (.tmp 32), (.const (.int .i64 1))], #[22, 3, 3]⟩, none⟩ (
.one ⟨(some 3), .assign (.tmp 33), none⟩ .leaf)) (
.nil))) (
.nil))) (
.nil)))) (
.nil)))) (
.alt (.one ⟨(some 31), .load 32 (.tmp 30), none⟩ (
.one ⟨(some 32), .call ⟨.builtin .len, #[(.tmp 31)], #[32]⟩, none⟩ (
.alt (.one ⟨(some 26), .call ⟨.value (.func 22), #[(.tmp 22), (.tmp 25), (.const (.int .i64 4))], #[22, 3, 3]⟩, none⟩ (
.one ⟨(some 28), .load 3 (.tmp 27), none⟩ (
.alt (.one ⟨(some 29), .call ⟨.value (.func 22), #[(.tmp 26), (.tmp 28), (.const (.int .i64 1))], #[22, 3, 3]⟩, none⟩ (
.alt (.one ⟨(some 33), .call ⟨.value (.func 22), #[(.tmp 29), (.tmp 32), (.const (.int .i64 1))], #[22, 3, 3]⟩, none⟩ (
.one ⟨(some 3), .assign (.tmp 33), none⟩ .leaf)) (
.nil))) (
.nil)))) (
.alt (.one ⟨(some 28), .load 3 (.tmp 27), none⟩ (
.alt (.one ⟨(some 26), .call ⟨.value (.func 22), #[(.tmp 22), (.tmp 25), (.const (.int .i64 4))], #[22, 3, 3]⟩, none⟩ (
.alt (.one ⟨(some 29), .call ⟨.value (.func 22), #[(.tmp 26), (.tmp 28), (.const (.int .i64 1))], #[22, 3, 3]⟩, none⟩ (
.alt (.one ⟨(some 33), .call ⟨.value (.func 22), #[(.tmp 29), (.tmp 32), (.const (.int .i64 1))], #[22, 3, 3]⟩, none⟩ (
.one ⟨(some 3), .assign (.tmp 33), none⟩ .leaf)) (
.nil))) (
.nil))) (
.nil))) (
.nil))))) (
.nil))))))))))) (
.seq (.seq (.region [] (.one ⟨(some 34), .fieldAddr 34 (.tmp 4) 2, none⟩ (
.one ⟨(some 35), .load 32 (.tmp 34), none⟩ (
.one ⟨(some 36), .call ⟨.builtin .len, #[(.tmp 35)], #[32]⟩, none⟩ (
.one ⟨(some 37), .move (.const (.int .i64 0)), none⟩ .leaf))))) (
.block 1 (.loop (.seq (.region [] (.one ⟨(some 38), .binOp .lss 3 (.tmp 37) (.tmp 36) 3, none⟩ .leaf)) (
.seq (.cond (.tmp 38) (.skip) (
.exit 1)) (
.seq (.block 2 (.seq (.region [] (.one ⟨(some 39), .indexAddr 32 (.tmp 35) (.tmp 37), none⟩ (
.one ⟨(some 40), .load 31 (.tmp 39), none⟩ (
.one ⟨(some 6), .assign (.tmp 40), none⟩ .leaf)))) (
.region [] (.one ⟨(some 41), .move (.tmp 3), none⟩ (
.one ⟨(some 42), .move (.tmp 6), none⟩ (
.one ⟨(some 43), .convert 31 3 (.tmp 42), none⟩ (
.one ⟨(some 44), .call ⟨.value (.func 22), #[(.tmp 41), (.tmp 43), (.const (.int .i64 4))], #[22, 3, 3]⟩, none⟩ (
.one ⟨(some 3), .assign (.tmp 44), none⟩ .leaf)))))))) (
.region [] (.one ⟨(some 45), .binOp .add 3 (.tmp 37) (.const (.int .i64 1)) 3, none⟩ (
.one ⟨(some 37), .move (.tmp 45), none⟩ .leaf))))))))) (
.seq (.region [46, 47, 48, 49, 50, 51, 52, 53, 54, 55, 3] (.one ⟨(some 46), .move (.tmp 3), none⟩ (
.one ⟨(some 47), .fieldAddr 34 (.tmp 4) 3, none⟩ (
.one ⟨(some 48), .load 3 (.tmp 47), none⟩ (
.one ⟨(some 50), .fieldAddr 34 (.tmp 4) 4, none⟩ (
.one ⟨(some 53), .fieldAddr 34 (.tmp 4) 5, none⟩ (
.alt (.one ⟨(some 49), .call ⟨.value (.func 22), #[(.tmp 46), (.tmp 48), (.const (.int .i64 2))], #[22, 3, 3]⟩, none⟩ (
.one ⟨(some 51), .load 2 (.tmp 50), none⟩ (
.alt (.one ⟨(some 52), .call ⟨.value (.func 22), #[(.tmp 49), (.tmp 51), (.const (.int .i64 4))], #[22, 3, 3]⟩, none⟩ (
.one ⟨(some 54), .load 2 (.tmp 53), none⟩ (
.alt (.one ⟨(some 55), .call ⟨.value (.func 22), #[(.tmp 52), (.tmp 54), (.const (.int .i64 4))], #[22, 3, 3]⟩, none⟩ (
.one ⟨(some 3), .assign (.tmp 55), none⟩ .leaf)) (
.nil)))) (
.alt (.one ⟨(some 54), .load 2 (.tmp 53), none⟩ (
.alt (.one ⟨(some 52), .call ⟨.value (.func 22), #[(.tmp 49), (.tmp 51), (.const (.int .i64 4))], #[22, 3, 3]⟩, none⟩ (
.alt (.one ⟨(some 55), .call ⟨.value (.func 22), #[(.tmp 52), (.tmp 54), (.const (.int .i64 4))], #[22, 3, 3]⟩, none⟩ (
.one ⟨(some 3), .assign (.tmp 55), none⟩ .leaf)) (
.nil))) (
.nil))) (
.nil))))) (
.alt (.one ⟨(some 51), .load 2 (.tmp 50), none⟩ (
.alt (.one ⟨(some 49), .call ⟨.value (.func 22), #[(.tmp 46), (.tmp 48), (.const (.int .i64 2))], #[22, 3, 3]⟩, none⟩ (
.alt (.one ⟨(some 52), .call ⟨.value (.func 22), #[(.tmp 49), (.tmp 51), (.const (.int .i64 4))], #[22, 3, 3]⟩, none⟩ (
.one ⟨(some 54), .load 2 (.tmp 53), none⟩ (
.alt (.one ⟨(some 55), .call ⟨.value (.func 22), #[(.tmp 52), (.tmp 54), (.const (.int .i64 4))], #[22, 3, 3]⟩, none⟩ (
.one ⟨(some 3), .assign (.tmp 55), none⟩ .leaf)) (
.nil)))) (
.alt (.one ⟨(some 54), .load 2 (.tmp 53), none⟩ (
.alt (.one ⟨(some 52), .call ⟨.value (.func 22), #[(.tmp 49), (.tmp 51), (.const (.int .i64 4))], #[22, 3, 3]⟩, none⟩ (
.alt (.one ⟨(some 55), .call ⟨.value (.func 22), #[(.tmp 52), (.tmp 54), (.const (.int .i64 4))], #[22, 3, 3]⟩, none⟩ (
.one ⟨(some 3), .assign (.tmp 55), none⟩ .leaf)) (
.nil))) (
.nil))) (
.nil)))) (
.alt (.one ⟨(some 54), .load 2 (.tmp 53), none⟩ (
.alt (.one ⟨(some 49), .call ⟨.value (.func 22), #[(.tmp 46), (.tmp 48), (.const (.int .i64 2))], #[22, 3, 3]⟩, none⟩ (
.alt (.one ⟨(some 52), .call ⟨.value (.func 22), #[(.tmp 49), (.tmp 51), (.const (.int .i64 4))], #[22, 3, 3]⟩, none⟩ (
.alt (.one ⟨(some 55), .call ⟨.value (.func 22), #[(.tmp 52), (.tmp 54), (.const (.int .i64 4))], #[22, 3, 3]⟩, none⟩ (
.one ⟨(some 3), .assign (.tmp 55), none⟩ .leaf)) (
.nil))) (
.nil))) (
.nil))) (
.nil)))) (
.alt (.one ⟨(some 54), .load 2 (.tmp 53), none⟩ (
.alt (.one ⟨(some 49), .call ⟨.value (.func 22), #[(.tmp 46), (.tmp 48), (.const (.int .i64 2))], #[22, 3, 3]⟩, none⟩ (
.one ⟨(some 51), .load 2 (.tmp 50), none⟩ (
.alt (.one ⟨(some 52), .call ⟨.value (.func 22), #[(.tmp 49), (.tmp 51), (.const (.int .i64 4))], #[22, 3, 3]⟩, none⟩ (
.alt (.one ⟨(some 55), .call ⟨.value (.func 22), #[(.tmp 52), (.tmp 54), (.const (.int .i64 4))], #[22, 3, 3]⟩, none⟩ (
.one ⟨(some 3), .assign (.tmp 55), none⟩ .leaf)) (
.nil))) (
.nil)))) (
.alt (.one ⟨(some 51), .load 2 (.tmp 50), none⟩ (
.alt (.one ⟨(some 49), .call ⟨.value (.func 22), #[(.tmp 46), (.tmp 48), (.const (.int .i64 2))], #[22, 3, 3]⟩, none⟩ (
.alt (.one ⟨(some 52), .call ⟨.value (.func 22), #[(.tmp 49), (.tmp 51), (.const (.int .i64 4))], #[22, 3, 3]⟩, none⟩ (
.alt (.one ⟨(some 55), .call ⟨.value (.func 22), #[(.tmp 52), (.tmp 54), (.const (.int .i64 4))], #[22, 3, 3]⟩, none⟩ (
.one ⟨(some 3), .assign (.tmp 55), none⟩ .leaf)) (
.nil))) (
.nil))) (
.nil))) (
.nil)))) (
.nil)))))))))) (
.seq (.region [56, 57, 58, 59, 60, 61, 62, 63, 2] (.one ⟨(some 56), .move (.tmp 3), none⟩ (
.one ⟨(some 57), .fieldAddr 36 (.tmp 1) 2, none⟩ (
.one ⟨(some 58), .load 22 (.tmp 57), none⟩ (
.one ⟨(some 59), .call ⟨.builtin .len, #[(.tmp 58)], #[22]⟩, none⟩ (
.one ⟨(some 61), .fieldAddr 36 (.tmp 1) 2, none⟩ (
.alt (.one ⟨(some 60), .call ⟨.value (.func 22), #[(.tmp 56), (.tmp 59), (.const (.int .i64 2))], #[22, 3, 3]⟩, none⟩ (
.one ⟨(some 62), .load 22 (.tmp 61), none⟩ (
.alt (.one ⟨(some 63), .call ⟨.builtin .append, #[(.tmp 60), (.tmp 62)], #[22, 22]⟩, none⟩ (
.one ⟨(some 2), .assign (.tmp 63), none⟩ .leaf)) (
.nil)))) (
.alt (.one ⟨(some 62), .load 22 (.tmp 61), none⟩ (
.alt (.one ⟨(some 60), .call ⟨.value (.func 22), #[(.tmp 56), (.tmp 59), (.const (.int .i64 2))], #[22, 3, 3]⟩, none⟩ (
.alt (.one ⟨(some 63), .call ⟨.builtin .append, #[(.tmp 60), (.tmp 62)], #[22, 22]⟩, none⟩ (
.one ⟨(some 2), .assign (.tmp 63), none⟩ .leaf)) (
.nil))) (
.nil))) (
.nil))))))))) (
.ret)))))) (
.seq (.region [] (.one ⟨(some 65), .binOp .eql 3 (.tmp 13) (.const (.int .i64 2)) 3, none⟩ (
.one ⟨(some 64), .assign (.tmp 65), none⟩ .leaf))) (
.cond (.tmp 64) (.seq (.region [] (.one ⟨(some 66), .move (.tmp 3), none⟩ (
.one ⟨(some 2), .assign (.tmp 66), none⟩ .leaf))) (
.ret)) (
.seq (.region [] (.one ⟨(some 68), .binOp .eql 3 (.tmp 13) (.const (.int .i64 8)) 3, none⟩ (
.one ⟨(some 67), .assign (.tmp 68), none⟩ .leaf))) (
.cond (.tmp 67) (.region [69, 70, 71, 72, 73, 74, 75, 76, 3] (.one ⟨(some 69), .move (.tmp 3), none⟩ (
.one ⟨(some 70), .fieldAddr 36 (.tmp 1) 2, none⟩ (
.one ⟨(some 71), .load 22 (.tmp 70), none⟩ (
.one ⟨(some 72), .call ⟨.builtin .len, #[(.tmp 71)], #[22]⟩, none⟩ (
.one ⟨(some 74), .fieldAddr 36 (.tmp 1) 2, none⟩ (
.alt (.one ⟨(some 73), .call ⟨.value (.func 22), #[(.tmp 69), (.tmp 72), (.const (.int .i64 1))], #[22, 3, 3]⟩, none⟩ (
.one ⟨(some 75), .load 22 (.tmp 74), none⟩ (
.alt (.one ⟨(some 76), .call ⟨.builtin .append, #[(.tmp 73), (.tmp 75)], #[22, 22]⟩, none⟩ (
.one ⟨(some 3), .assign (.tmp 76), none⟩ .leaf)) (
.nil)))) (
.alt (.one ⟨(some 75), .load 22 (.tmp 74), none⟩ (
.alt (.one ⟨(some 73), .call ⟨.value (.func 22), #[(.tmp 69), (.tmp 72), (.const (.int .i64 1))], #[22, 3, 3]⟩, none⟩ (
.alt (.one ⟨(some 76), .call ⟨.builtin .append, #[(.tmp 73), (.tmp 75)], #[22, 22]⟩, none⟩ (
.one ⟨(some 3), .assign (.tmp 76), none⟩ .leaf)) (
.nil))) (
.nil))) (
.nil))))))))) (
.region [] (.one ⟨(some 14), .move (.tmp 3), none⟩ (
.one ⟨(some 15), .fieldAddr 36 (.tmp 1) 3, none⟩ (
.one ⟨(some 16), .load 3 (.tmp 15), none⟩ (
.one ⟨(some 17), .call ⟨.value (.func 22), #[(.tmp 14), (.tmp 16), (.const (.int .i64 2))], #[22, 3, 3]⟩, none⟩ (
.one ⟨(some 3), .assign (.tmp 17), none⟩ .leaf)))))))))))))) (
.seq (.seq (.region [] (.one ⟨(some 77), .fieldAddr 36 (.tmp 1) 0, none⟩ (
.one ⟨(some 78), .load 3 (.tmp 77), none⟩ (
.one ⟨(some 79), .binOp .eql 3 (.tmp 78) (.const (.int .i64 6)) 3, none⟩ (
.one ⟨(some 80), .move (.tmp 79), none⟩ (
.one ⟨(some 81), .fieldAddr 36 (.tmp 1) 0, some (80, false)⟩ (
.one ⟨(some 82), .load 3 (.tmp 81), some (80, false)⟩ (
.one ⟨(some 83), .binOp .eql 3 (.tmp 82) (.const (.int .i64 7)) 3, some (80, false)⟩ (
.one ⟨(some 84), .pick (.tmp 80) (.const (.bool true)) (.tmp 83), none⟩ .leaf))))))))) (
.cond (.tmp 84) (.region [] (.one ⟨(some 85), .move (.tmp 3), none⟩ (
.one ⟨(some 86), .fieldAddr 36 (.tmp 1) 4, none⟩ (
.one ⟨(some 87), .load 3 (.tmp 86), none⟩ (
.one ⟨(some 88), .call ⟨.value (.func 22), #[(.tmp 85), (.tmp 87), (.const (.int .i64 2))], #[22, 3, 3]⟩, none⟩ (
.one ⟨(some 3), .assign (.tmp 88), none⟩ .leaf)))))) (
.skip))) (
.seq (.seq (.region [] (.one ⟨(some 89), .fieldAddr 36 (.tmp 1) 0, none⟩ (
.one ⟨(some 90), .load 3 (.tmp 89), none⟩ (
.one ⟨(some 91), .binOp .eql 3 (.tmp 90) (.const (.int .i64 7)) 3, none⟩ .leaf)))) (
.cond (.tmp 91) (.region [] (.one ⟨(some 92), .move (.tmp 3), none⟩ (
.one ⟨(some 93), .fieldAddr 36 (.tmp 1) 6, none⟩ (
.one ⟨(some 94), .load 5 (.tmp 93), none⟩ (
.one ⟨(some 95), .buildSlice 22 1 #[(0, (.tmp 94))], none⟩ (
.one ⟨(some 96), .call ⟨.builtin .append, #[(.tmp 92), (.tmp 95)], #[22, 22]⟩, none⟩ (
.one ⟨(some 3), .assign (.tmp 96), none⟩ .leaf))))))) (
.skip))) (
.seq (.region [] (.one ⟨(some 7), .assign (.const (.int .u8 0)), none⟩ .leaf)) (
.seq (.seq (.region [] (.one ⟨(some 97), .fieldAddr 36 (.tmp 1) 5, none⟩ (
.one ⟨(some 98), .load 4 (.tmp 97), none⟩ .leaf))) (
.cond (.tmp 98) (.region [] (.one ⟨(some 7), .assign (.const (.int .u8 1)), none⟩ .leaf)) (
.skip))) (
.seq (.region [] (.one ⟨(some 99), .move (.tmp 3), none⟩ (
.one ⟨(some 100), .move (.tmp 7), none⟩ (
.one ⟨(some 101), .buildSlice 22 1 #[(0, (.tmp 100))], none⟩ (
.one ⟨(some 102), .call ⟨.builtin .append, #[(.tmp 99), (.tmp 101)], #[22, 22]⟩, none⟩ (
.one ⟨(some 2), .assign (.tmp 102), none⟩ .leaf)))))) (
.ret))))))))
theorem ok14 : Tryz.f14.body.bind (comp Tryz.prog 103) = some sc14 := by kernel_rfl
theorem rc14 : Tryz.f14.results.toList = ([(2, none)] : List (Nat × Option TypeId)).map toRV := by kernel_rfl
def fi14 : Fi := ⟨sc14, 103, [(2, none)], false, none, false⟩
theorem fo14 : FnOk Tryz.prog 14 fi14 := ⟨Tryz.f14, Tryz.func14, Tryz.ntmps14, ok14, rc14, fun _ _ _ h => (by cases h), Tryz.call14⟩
/-- girandole/play.same -/
def sc15 : SC := .seq (.region [] (.one ⟨(some 2), .box 36 (.tmp 0), none⟩ (
.one ⟨(some 3), .box 36 (.tmp 1), none⟩ (
.one ⟨(some 4), .assign (.const (.bool false)), none⟩ .leaf)))) (
.seq (.region [7, 8, 9, 10, 5, 6] (.one ⟨(some 7), .fieldAddr 36 (.tmp 2) 1, none⟩ (
.one ⟨(some 8), .load 34 (.tmp 7), none⟩ (
.one ⟨(some 9), .fieldAddr 36 (.tmp 3) 1, none⟩ (
.alt (.one ⟨(some 10), .load 34 (.tmp 9), none⟩ (
.alt (.one ⟨(some 5), .alloc 34, none⟩ (
.alt (.one ⟨(some 6), .alloc 34, none⟩ (
.alt (.one ⟨none, .store 34 (.tmp 5) (.tmp 8), none⟩ (
.alt (.one ⟨none, .store 34 (.tmp 6) (.tmp 10), none⟩ .leaf) (
.nil))) (
.nil))) (
.nil))) (
.alt (.one ⟨(some 6), .alloc 34, none⟩ (
.alt (.one ⟨(some 5), .alloc 34, none⟩ (
.alt (.one ⟨none, .store 34 (.tmp 5) (.tmp 8), none⟩ (
.alt (.one ⟨none, .store 34 (.tmp 6) (.tmp 10), none⟩ .leaf) (
.nil))) (
.nil))) (
.nil))) (
.nil)))) (
.alt (.one ⟨(some 5), .alloc 34, none⟩ (
.alt (.one ⟨(some 10), .load 34 (.tmp 9), none⟩ (
.alt (.one ⟨(some 6), .alloc 34, none⟩ (
.alt (.one ⟨none, .store 34 (.tmp 5) (.tmp 8), none⟩ (
.alt (.one ⟨none, .store 34 (.tmp 6) (.tmp 10), none⟩ .leaf) (
.nil))) (
.nil))) (
.nil))) (
.alt (.one ⟨(some 6), .alloc 34, none⟩ (
.alt (.one ⟨(some 10), .load 34 (.tmp 9), none⟩ (
.alt (.one ⟨none, .store 34 (.tmp 5) (.tmp 8), none⟩ (
.alt (.one ⟨none, .store 34 (.tmp 6) (.tmp 10), none⟩ .leaf) (
.nil))) (
.nil))) (
.alt (.one ⟨none, .store 34 (.tmp 5) (.tmp 8), none⟩ (
.one ⟨(some 10), .load 34 (.tmp 9), none⟩ (
.alt (.one ⟨none, .store 34 (.tmp 6) (.tmp 10), none⟩ .leaf) (
.nil)))) (
.nil)))) (
.nil)))) (
.alt (.one ⟨(some 6), .alloc 34, none⟩ (
.alt (.one ⟨(some 10), .load 34 (.tmp 9), none⟩ (
.alt (.one ⟨(some 5), .alloc 34, none⟩ (
.alt (.one ⟨none, .store 34 (.tmp 5) (.tmp 8), none⟩ (
.alt (.one ⟨none, .store 34 (.tmp 6) (.tmp 10), none⟩ .leaf) (
.nil))) (
.nil))) (
.nil))) (
.alt (.one ⟨(some 5), .alloc 34, none⟩ (
.alt (.one ⟨(some 10), .load 34 (.tmp 9), none⟩ (
.alt (.one ⟨none, .store 34 (.tmp 5) (.tmp 8), none⟩ (
.alt (.one ⟨none, .store 34 (.tmp 6) (.tmp 10), none⟩ .leaf) (
.nil))) (
.nil))) (
.alt (.one ⟨none, .store 34 (.tmp 5) (.tmp 8), none⟩ (
.one ⟨(some 10), .load 34 (.tmp 9), none⟩ (
.alt (.one ⟨none, .store 34 (.tmp 6) (.tmp 10), none⟩ .leaf) (
.nil)))) (
.nil)))) (
.nil)))) (
.nil)))))))) (
.seq (.region [] (.one ⟨(some 11), .fieldAddr 36 (.tmp 2) 0, none⟩ (
.one ⟨(some 12), .load 3 (.tmp 11), none⟩ (
.one ⟨(some 13), .fieldAddr 36 (.tmp 3) 0, none⟩ (
.one ⟨(some 14), .load 3 (.tmp 13), none⟩ (
.one ⟨(some 15), .binOp .eql 3 (.tmp 12) (.tmp 14) 3, none⟩ (
.one ⟨(some 16), .move (.tmp 15), none⟩ (
.one ⟨(some 17), .fieldAddr 36 (.tmp 2) 3, some (16, true)⟩ (
.one ⟨(some 18), .load 3 (.tmp 17), some (16, true)⟩ (
.one ⟨(some 19), .fieldAddr 36 (.tmp 3) 3, some (16, true)⟩ (
.one ⟨(some 20), .load 3 (.tmp 19), some (16, true)⟩ (
.one ⟨(some 21), .binOp .eql 3 (.tmp 18) (.tmp 20) 3, some (16, true)⟩ (
.one ⟨(some 22), .pick (.tmp 16) (.tmp 21) (.const (.bool false)), none⟩ (
.one ⟨(some 23), .move (.tmp 22), none⟩ (
.one ⟨(some 24), .fieldAddr 36 (.tmp 2) 4, some (23, true)⟩ (
.one ⟨(some 25), .load 3 (.tmp 24), some (23, true)⟩ (
.one ⟨(some 26), .fieldAddr 36 (.tmp 3) 4, some (23, true)⟩ (
.one ⟨(some 27), .load 3 (.tmp 26), some (23, true)⟩ (
.one ⟨(some 28), .binOp .eql 3 (.tmp 25) (.tmp 27) 3, some (23, true)⟩ (
.one ⟨(some 29), .pick (.tmp 23) (.tmp 28) (.const (.bool false)), none⟩ (
.one ⟨(some 30), .move (.tmp 29), none⟩ (
.one ⟨(some 31), .fieldAddr 36 (.tmp 2) 5, some (30, true)⟩ (
.one ⟨(some 32), .load 4 (.tmp 31), some (30, true)⟩ (
.one ⟨(some 33), .fieldAddr 36 (.tmp 3) 5, some (30, true)⟩ (
.one ⟨(some 34), .load 4 (.tmp 33), some (30, true)⟩ (
.one ⟨(some 35), .binOp .eql 4 (.tmp 32) (.tmp 34) 4, some (30, true)⟩ (
.one ⟨(some 36), .pick (.tmp 30) (.tmp 35) (.const (.bool false)), none⟩ (
.one ⟨(some 37), .move (.tmp 36), none⟩ (
.one ⟨(some 38), .fieldAddr 36 (.tmp 2) 6, some (37, true)⟩ (
.one ⟨(some 39), .load 5 (.tmp 38), some (37, true)⟩ (
.one ⟨(some 40), .fieldAddr 36 (.tmp 3) 6, some (37, true)⟩ (
.one ⟨(some 41), .load 5 (.tmp 40), some (37, true)⟩ (
.one ⟨(some 42), .binOp .eql 5 (.tmp 39) (.tmp 41) 5, some (37, true)⟩ (
.one ⟨(some 43), .pick (.tmp 37) (.tmp 42) (.const (.bool false)), none⟩ (
.one ⟨(some 44), .move (.tmp 43), none⟩ (
.one ⟨(some 45), .fieldAddr 36 (.tmp 2) 2, some (44, true)⟩ (
.one ⟨(some 46), .load 22 (.tmp 45), some (44, true)⟩ (
.one ⟨(some 47), .fieldAddr 36 (.tmp 3) 2, some (44, true)⟩ (
.one ⟨(some 48), .load 22 (.tmp 47), some (44, true)⟩ (
.one ⟨(some 49), .call ⟨.value (.func 23), #[(.tmp 46), (.tmp 48)], #[22, 22]⟩, some (44, true)⟩ (
.one ⟨(some 50), .pick (.tmp 44) (.tmp 49) (.const (.bool false)), none⟩ (
.one ⟨(some 51), .move (.tmp 50), none⟩ (
.one ⟨(some 52), .fieldAddr 34 (.tmp 5) 0, some (51, true)⟩ (
.one ⟨(some 53), .load 31 (.tmp 52), some (51, true)⟩ (
.one ⟨(some 54), .fieldAddr 34 (.tmp 6) 0, some (51, true)⟩ (
.one ⟨(some 55), .load 31 (.tmp 54), some (51, true)⟩ (
.one ⟨(some 56), .binOp .eql 31 (.tmp 53) (.tmp 55) 31, some (51, true)⟩ (
.one ⟨(some 57), .pick (.tmp 51) (.tmp 56) (.const (.bool false)), none⟩ (
.one ⟨(some 58), .move (.tmp 57), none⟩ (
.one ⟨(some 59), .fieldAddr 34 (.tmp 5) 1, some (58, true)⟩ (
.one ⟨(some 60), .load 3 (.tmp 59), some (58, true)⟩ (
.one ⟨(some 61), .fieldAddr 34 (.tmp 6) 1, some (58, true)⟩ (
.one ⟨(some 62), .load 3 (.tmp 61), some (58, true)⟩ (
.one ⟨(some 63), .binOp .eql 3 (.tmp 60) (.tmp 62) 3, some (58, true)⟩ (
.one ⟨(some 64), .pick (.tmp 58) (.tmp 63) (.const (.bool false)), none⟩ (
.one ⟨(some 65), .move (.tmp 64), none⟩ (
.one ⟨(some 66), .fieldAddr 34 (.tmp 5) 2, some (65, true)⟩ (
.one ⟨(some 67), .load 32 (.tmp 66), some (65, true)⟩ (
.one ⟨(some 68), .fieldAddr 34 (.tmp 6) 2, some (65, true)⟩ (
.one ⟨(some 69), .load 32 (.tmp 68), some (65, true)⟩ (
.one ⟨(some 70), .call ⟨.value (.func 24), #[(.tmp 67), (.tmp 69)], #[32, 32]⟩, some (65, true)⟩ (
.one ⟨(some 71), .pick (.tmp 65) (.tmp 70) (.const (.bool false)), none⟩ (
.one ⟨(some 72), .move (.tmp 71), none⟩ (
.one ⟨(some 73), .fieldAddr 34 (.tmp 5) 3, some (72, true)⟩ (
.one ⟨(some 74), .load 3 (.tmp 73), some (72, true)⟩ (
.one ⟨(some 75), .fieldAddr 34 (.tmp 6) 3, some (72, true)⟩ (
.one ⟨(some 76), .load 3 (.tmp 75), some (72, true)⟩ (
.one ⟨(some 77), .binOp .eql 3 (.tmp 74) (.tmp 76) 3, some (72, true)⟩ (
.one ⟨(some 78), .pick (.tmp 72) (.tmp 77) (.const (.bool false)), none⟩ (
.one ⟨(some 79), .move (.tmp 78), none⟩ (
.one ⟨(some 80), .fieldAddr 34 (.tmp 5) 4, some (79, true)⟩ (
.one ⟨(some 81), .load 2 (.tmp 80), some (79, true)⟩ (
.one ⟨(some 82), .fieldAddr 34 (.tmp 6) 4, some (79, true)⟩ (
.one ⟨(some 83), .load 2 (.tmp 82), some (79, true)⟩ (
.one ⟨(some 84), .binOp .eql 2 (.tmp 81) (.tmp 83) 2, some (79, true)⟩ (
.one ⟨(some 85), .pick (.tmp 79) (.tmp 84) (.const (.bool false)), none⟩ (
.one ⟨(some 86), .move (.tmp 85), none⟩ (
.one ⟨(some 87), .fieldAddr 34 (.tmp 5) 5, some (86, true)⟩ (
.one ⟨(some 88), .load 2 (.tmp 87), some (86, true)⟩ (
.one ⟨(some 89), .fieldAddr 34 (.tmp 6) 5, some (86, true)⟩ (
.one ⟨(some 90), .load 2 (.tmp 89), some (86, true)⟩ (
.one ⟨(some 91), .binOp .eql 2 (.tmp 88) (.tmp 90) 2, some (86, true)⟩ (
.one ⟨(some 92), .pick (.tmp 86) (.tmp 91) (.const (.bool false)), none⟩ (
.one ⟨(some 4), .assign (.tmp 92), none⟩ .leaf)))))))))))))))))))))))))))))))))))))))))))))))))))))))))))))))))))))))))))))))))))) (
.ret)))
theorem ok15 : Tryz.f15.body.bind (comp Tryz.prog 93) = some sc15 := by kernel_rfl
theorem rc15 : Tryz.f15.results.toList = ([(4, none)] : List (Nat × Option TypeId)).map toRV := by kernel_rfl
def fi15 : Fi := ⟨sc15, 93, [(4, none)], false, none, false⟩
theorem fo15 : FnOk Tryz.prog 15 fi15 := ⟨Tryz.f15, Tryz.func15, Tryz.ntmps15, ok15, rc15, fun _ _ _ h => (by cases h), Tryz.call15⟩
/-- girandole/girandoleref31.SameFrame -/
def sc16 : SC := .seq (.region [] (.one ⟨(some 2), .box 34 (.tmp 0), none⟩ (
.one ⟨(some 3), .box 34 (.tmp 1), none⟩ (
.one ⟨(some 4), .assign (.const (.bool false)), none⟩ .leaf)))) (
.seq (.seq (.region [] (.one ⟨(some 6), .fieldAddr 34 (.tmp 2) 0, none⟩ (
.one ⟨(some 7), .load 31 (.tmp 6), none⟩ (
.one ⟨(some 8), .fieldAddr 34 (.tmp 3) 0, none⟩ (
.one ⟨(some 9), .load 31 (.tmp 8), none⟩ (
.one ⟨(some 10), .binOp .neq 31 (.tmp 7) (.tmp 9) 31, none⟩ (
.one ⟨(some 11), .move (.tmp 10), none⟩ (
.one ⟨(some 12), .fieldAddr 34 (.tmp 2) 1, some (11, false)⟩ (
.one ⟨(some 13), .load 3 (.tmp 12), some (11, false)⟩ (
.one ⟨(some 14), .fieldAddr 34 (.tmp 3) 1, some (11, false)⟩ (
.one ⟨(some 15), .load 3 (.tmp 14), some (11, false)⟩ (
.one ⟨(some 16), .binOp .neq 3 (.tmp 13) (.tmp 15) 3, some (11, false)⟩ (
.one ⟨(some 17), .pick (.tmp 11) (.const (.bool true)) (.tmp 16), none⟩ (
.one ⟨(some 18), .move (.tmp 17), none⟩ (
.one ⟨(some 19), .fieldAddr 34 (.tmp 2) 3, some (18, false)⟩ (
.one ⟨(some 20), .load 3 (.tmp 19), some (18, false)⟩ (
.one ⟨(some 21), .fieldAddr 34 (.tmp 3) 3, some (18, false)⟩ (
.one ⟨(some 22), .load 3 (.tmp 21), some (18, false)⟩ (
.one ⟨(some 23), .binOp .neq 3 (.tmp 20) (.tmp 22) 3, some (18, false)⟩ (
.one ⟨(some 24), .pick (.tmp 18) (.const (.bool true)) (.tmp 23), none⟩ (
.one ⟨(some 25), .move (.tmp 24), none⟩ (
.one ⟨(some 26), .fieldAddr 34 (.tmp 2) 4, some (25, false)⟩ (
.one ⟨(some 27), .load 2 (.tmp 26), some (25, false)⟩ (
.one ⟨(some 28), .fieldAddr 34 (.tmp 3) 4, some (25, false)⟩ (
.one ⟨(some 29), .load 2 (.tmp 28), some (25, false)⟩ (
.one ⟨(some 30), .binOp .neq 2 (.tmp 27) (.tmp 29) 2, some (25, false)⟩ (
.one ⟨(some 31), .pick (.tmp 25) (.const (.bool true)) (.tmp 30), none⟩ (
.one ⟨(some 32), .move (.tmp 31), none⟩ (
.one ⟨(some 33), .fieldAddr 34 (.tmp 2) 5, some (32, false)⟩ (
.one ⟨(some 34), .load 2 (.tmp 33), some (32, false)⟩ (
.one ⟨(some 35), .fieldAddr 34 (.tmp 3) 5, some (32, false)⟩ (
.one ⟨(some 36), .load 2 (.tmp 35), some (32, false)⟩ (
.one ⟨(some 37), .binOp .neq 2 (.tmp 34) (.tmp 36) 2, some (32, false)⟩ (
.one ⟨(some 38), .pick (.tmp 32) (.const (.bool true)) (.tmp 37), none⟩ (
.one ⟨(some 39), .move (.tmp 38), none⟩ (
.one ⟨(some 40), .fieldAddr 34 (.tmp 2) 2, some (39, false)⟩ (
.one ⟨(some 41), .load 32 (.tmp 40), some (39, false)⟩ (
.one ⟨(some 42), .call ⟨.builtin .len, #[(.tmp 41)], #[32]⟩, some (39, false)⟩ (
.one ⟨(some 43), .fieldAddr 34 (.tmp 3) 2, some (39, false)⟩ (
.one ⟨(some 44), .load 32 (.tmp 43), some (39, false)⟩ (
.one ⟨(some 45), .call ⟨.builtin .len, #[(.tmp 44)], #[32]⟩, some (39, false)⟩ (
.one ⟨(some 46), .binOp .neq 3 (.tmp 42) (.tmp 45) 3, some (39, false)⟩ (
.one ⟨(some 47), .pick (.tmp 39) (.const (.bool true)) (.tmp 46), none⟩ .leaf))))))))))))))))))))))))))))))))))))))))))) (
.cond (.tmp 47) (.seq (.region [] (.one ⟨(some 4), .assign (.const (.bool false)), none⟩ .leaf)) (
.ret)) (
.skip))) (
.seq (.seq (.region [] (.one ⟨(some 5), .assign (.const (.int .i64 0)), none⟩ .leaf)) (
.block 0 (.loop (.seq (.seq (.region [] (.one ⟨(some 48), .move (.tmp 5), none⟩ (
.one ⟨(some 49), .fieldAddr 34 (.tmp 2) 2, none⟩ (
.one ⟨(some 50), .load 32 (.tmp 49), none⟩ (
.one ⟨(some 51), .call ⟨.builtin .len, #[(.tmp 50)], #[32]⟩, none⟩ (
.one ⟨(some 52), .binOp .lss 3 (.tmp 48) (.tmp 51) 3, none⟩ .leaf)))))) (
.cond (.tmp 52) (.skip) (
.exit 0))) (
.seq (.block 1 (.seq (.region [] (.one ⟨(some 55), .fieldAddr 34 (.tmp 2) 2, none⟩ (
.one ⟨(some 56), .load 32 (.tmp 55), none⟩ (
.one ⟨(some 57), .move (.tmp 5), none⟩ (
.one ⟨(some 58), .indexAddr 32 (.tmp 56) (.tmp 57), none⟩ (
.one ⟨(some 59), .load 31 (.tmp 58), none⟩ (
.one ⟨(some 60), .fieldAddr 34 (.tmp 3) 2, none⟩ (
.one ⟨(some 61), .load 32 (.tmp 60), none⟩ (
.one ⟨(some 62), .move (.tmp 5), none⟩ (
.one ⟨(some 63), .indexAddr 32 (.tmp 61) (.tmp 62), none⟩ (
.one ⟨(some 64), .load 31 (.tmp 63), none⟩ (
.one ⟨(some 65), .binOp .neq 31 (.tmp 59) (.tmp 64) 31, none⟩ .leaf)))))))))))) (
.cond (.tmp 65) (.seq (.region [] (.one ⟨(some 4), .assign (.const (.bool false)), none⟩ .leaf)) (
.ret)) (
.skip)))) (
.region [] (.one ⟨(some 53), .move (.tmp 5), none⟩ (
.one ⟨(some 54), .binOp .add 3 (.tmp 53) (.const (.int .i64 1)) 3, none⟩ (
.one ⟨(some 5), .assign (.tmp 54), none⟩ .leaf))))))))) (
.seq (.region [] (.one ⟨(some 4), .assign (.const (.bool true)), none⟩ .leaf)) (
.ret))))
theorem ok16 : Tryz.f16.body.bind (comp Tryz.prog 66) = some sc16 := by kernel_rfl
theorem rc16 : Tryz.f16.results.toList = ([(4, none)] : List (Nat × Option TypeId)).map toRV := by kernel_rfl
def fi16 : Fi := ⟨sc16, 66, [(4, none)], false, none, true⟩
theorem fo16 : FnOk Tryz.prog 16 fi16 := ⟨Tryz.f16, Tryz.func16, Tryz.ntmps16, ok16, rc16, fun _ _ _ h => (by cases h), Tryz.call16⟩
/-- girandole/session.New -/
def sc17 : SC := .seq (.region [] (.one ⟨(some 1), .box 44 (.tmp 0), none⟩ (
.one ⟨(some 2), .assign (.const (.pointer none)), none⟩ (
.one ⟨(some 3), .assign (.const (.bool false)), none⟩ .leaf)))) (
.seq (.region [] (.one ⟨(some 9), .load 44 (.tmp 1), none⟩ (
.one ⟨(some 10), .call ⟨.value (.func 25), #[(.tmp 9)], #[44]⟩, none⟩ (
.one ⟨(some 8), .move (.tmp 10), none⟩ (
.one ⟨(some 11), .extract (.tmp 8) 0, none⟩ (
.one ⟨(some 12), .extract (.tmp 8) 1, none⟩ (
.one ⟨(some 4), .assign (.tmp 11), none⟩ (
.one ⟨(some 5), .assign (.tmp 12), none⟩ .leaf)))))))) (
.seq (.region [] (.one ⟨(some 14), .load 44 (.tmp 1), none⟩ (
.one ⟨(some 15), .call ⟨.value (.func 26), #[(.tmp 14)], #[44]⟩, none⟩ (
.one ⟨(some 13), .move (.tmp 15), none⟩ (
.one ⟨(some 16), .extract (.tmp 13) 0, none⟩ (
.one ⟨(some 17), .extract (.tmp 13) 1, none⟩ (
.one ⟨(some 6), .assign (.tmp 16), none⟩ (
.one ⟨(some 7), .assign (.tmp 17), none⟩ .leaf)))))))) (
.seq (.seq (.region [] (.one ⟨(some 18), .move (.tmp 5), none⟩ (
.one ⟨(some 19), .unOp .not 4 (.tmp 18), none⟩ (
.one ⟨(some 20), .move (.tmp 19), none⟩ (
.one ⟨(some 21), .move (.tmp 7), some (20, false)⟩ (
.one ⟨(some 22), .unOp .not 4 (.tmp 21), some (20, false)⟩ (
.one ⟨(some 23), .pick (.tmp 20) (.const (.bool true)) (.tmp 22), none⟩ .leaf))))))) (
.cond (.tmp 23) (.seq (.region [] (.one ⟨(some 2), .assign (.const (.pointer none)), none⟩ (
.one ⟨(some 3), .assign (.const (.bool false)), none⟩ .leaf))) (
.ret)) (
.skip))) (
.seq (.region [24, 25, 26, 27, 28, 29, 30, 2, 3] (.one ⟨(some 25), .move (.tmp 4), none⟩ (
.one ⟨(some 26), .move (.tmp 6), none⟩ (
.alt (.one ⟨(some 24), .load 44 (.tmp 1), none⟩ (
.alt (.one ⟨(some 27), .call ⟨.value (.func 27), #[], #[]⟩, none⟩ (
.alt (.one ⟨(some 28), .call ⟨.value (.func 27), #[], #[]⟩, none⟩ (
.one ⟨(some 29), .build 75 #[(0, (.tmp 24)), (1, (.tmp 25)), (2, (.tmp 26)), (3, (.tmp 27)), (4, (.tmp 28))], none⟩ (
.alt (.one ⟨(some 30), .box 75 (.tmp 29), none⟩ (
.one ⟨(some 2), .assign (.tmp 30), none⟩ (
.one ⟨(some 3), .assign (.const (.bool true)), none⟩ .leaf))) (
.nil)))) (
.nil))) (
.nil))) (
.alt (.one ⟨(some 27), .call ⟨.value (.func 27), #[], #[]⟩, none⟩ (
.alt (.one ⟨(some 24), .load 44 (.tmp 1), none⟩ (
.alt (.one ⟨(some 28), .call ⟨.value (.func 27), #[], #[]⟩, none⟩ (
.one ⟨(some 29), .build 75 #[(0, (.tmp 24)), (1, (.tmp 25)), (2, (.tmp 26)), (3, (.tmp 27)), (4, (.tmp 28))], none⟩ (
.alt (.one ⟨(some 30), .box 75 (.tmp 29), none⟩ (
.one ⟨(some 2), .assign (.tmp 30), none⟩ (
.one ⟨(some 3), .assign (.const (.bool true)), none⟩ .leaf))) (
.nil)))) (
.nil))) (
.alt (.one ⟨(some 28), .call ⟨.value (.func 27), #[], #[]⟩, none⟩ (
.one ⟨(some 24), .load 44 (.tmp 1), none⟩ (
.one ⟨(some 29), .build 75 #[(0, (.tmp 24)), (1, (.tmp 25)), (2, (.tmp 26)), (3, (.tmp 27)), (4, (.tmp 28))], none⟩ (
.alt (.one ⟨(some 30), .box 75 (.tmp 29), none⟩ (
.one ⟨(some 2), .assign (.tmp 30), none⟩ (
.one ⟨(some 3), .assign (.const (.bool true)), none⟩ .leaf))) (
.nil))))) (
.nil)))) (
.nil)))))) (
.ret)))))
theorem ok17 : Tryz.f17.body.bind (comp Tryz.prog 31) = some sc17 := by kernel_rfl
theorem rc17 : Tryz.f17.results.toList = ([(2, none), (3, none)] : List (Nat × Option TypeId)).map toRV := by kernel_rfl
def fi17 : Fi := ⟨sc17, 31, [(2, none), (3, none)], false, none, false⟩
theorem fo17 : FnOk Tryz.prog 17 fi17 := ⟨Tryz.f17, Tryz.func17, Tryz.ntmps17, ok17, rc17, fun _ _ _ h => (by cases h), Tryz.call17⟩
/-- (*girandole/session.Session).Do -/
def sc18 : SC := .seq (.region [] (.one ⟨(some 3), .box 36 (.tmp 1), none⟩ (
.one ⟨(some 4), .alloc 57, none⟩ .leaf))) (
.seq (.seq (.region [] (.one ⟨(some 7), .move (.tmp 0), none⟩ (
.one ⟨(some 8), .binOp .eql 39 (.tmp 7) (.const (.pointer none)) 39, none⟩ .leaf))) (
.cond (.tmp 8) (.seq (.region [] (.one ⟨(some 9), .build 57 #[(0, (.const (.int .i64 1)))], none⟩ (
.one ⟨none, .store 57 (.tmp 4) (.tmp 9), none⟩ .leaf))) (
.ret)) (
.skip))) (
.seq (.region [] (.one ⟨(some 11), .makeMap 78 none, none⟩ (
.one ⟨none, .insert 78 (.tmp 11) (.const (.int .i64 1)) (.func 28), none⟩ (
.one ⟨none, .insert 78 (.tmp 11) (.const (.int .i64 2)) (.func 29), none⟩ (
.one ⟨none, .insert 78 (.tmp 11) (.const (.int .i64 3)) (.func 30), none⟩ (
.one ⟨none, .insert 78 (.tmp 11) (.const (.int .i64 4)) (.func 31), none⟩ (
.one ⟨none, .insert 78 (.tmp 11) (.const (.int .i64 5)) (.func 32), none⟩ (
.one ⟨none, .insert 78 (.tmp 11) (.const (.int .i64 6)) (.func 33), none⟩ (
.one ⟨none, .insert 78 (.tmp 11) (.const (.int .i64 7)) (.func 34), none⟩ (
.one ⟨none, .insert 78 (.tmp 11) (.const (.int .i64 8)) (.func 35), none⟩ (
.one ⟨(some 12), .move (.tmp 11), none⟩ (
.one ⟨(some 13), .fieldAddr 36 (.tmp 3) 0, none⟩ (
.one ⟨(some 14), .load 3 (.tmp 13), none⟩ (
.one ⟨(some 15), .lookup 78 (.tmp 12) (.tmp 14) true, none⟩ (
.one ⟨(some 10), .move (.tmp 15), none⟩ (
.one ⟨(some 16), .extract (.tmp 10) 0, none⟩ (
.one ⟨(some 17), .extract (.tmp 10) 1, none⟩ (
.one ⟨(some 5), .assign (.tmp 16), none⟩ (
.one ⟨(some 6), .assign (.tmp 17), none⟩ .leaf))))))))))))))))))) (
.seq (.seq (.region [] (.one ⟨(some 18), .move (.tmp 6), none⟩ (
.one ⟨(some 19), .unOp .not 4 (.tmp 18), none⟩ .leaf))) (
.cond (.tmp 19) (.seq (.region [] (.one ⟨(some 20), .build 57 #[(0, (.const (.int .i64 1)))], none⟩ (
.one ⟨none, .store 57 (.tmp 4) (.tmp 20), none⟩ .leaf))) (
.ret)) (
.skip))) (
.seq (.region [] (.one ⟨(some 21), .move (.tmp 5), none⟩ (
.one ⟨(some 22), .move (.tmp 0), none⟩ (
.one ⟨(some 23), .load 36 (.tmp 3), none⟩ (
.one ⟨(some 24), .call ⟨.value (.tmp 21), #[(.tmp 22), (.tmp 23)], #[39, 36]⟩, none⟩ (
.one ⟨none, .store 57 (.tmp 4) (.tmp 24), none⟩ .leaf)))))) (
.ret)))))
theorem ok18 : Tryz.f18.body.bind (comp Tryz.prog 25) = some sc18 := by kernel_rfl
theorem rc18 : Tryz.f18.results.toList = ([(4, some 57)] : List (Nat × Option TypeId)).map toRV := by kernel_rfl
def fi18 : Fi := ⟨sc18, 25, [(4, some 57)], false, none, true⟩
theorem fo18 : FnOk Tryz.prog 18 fi18 := ⟨Tryz.f18, Tryz.func18, Tryz.ntmps18, ok18, rc18, fun _ _ _ h => (by cases h), Tryz.call18⟩
/-- (*girandole/play.reader).next$1 -/
def sc19 : SC := .seq (.region [] (.one ⟨(some 3), .call ⟨.builtin .recover, #[], #[]⟩, none⟩ (
.one ⟨(some 2), .assign (.tmp 3), none⟩ .leaf))) (
.seq (.region [] (.one ⟨(some 4), .move (.tmp 2), none⟩ (
.one ⟨(some 5), .binOp .neq 20 (.tmp 4) (.const .nilIface) 20, none⟩ .leaf))) (
.cond (.tmp 5) (.region [] (.one ⟨(some 6), .build 36 #[], none⟩ (
.one ⟨none, .store 36 (.tmp 0) (.tmp 6), none⟩ (
.one ⟨none, .store 4 (.tmp 1) (.const (.bool false)), none⟩ .leaf)))) (
.skip)))
theorem ok19 : Tryz.f19.body.bind (comp Tryz.prog 7) = some sc19 := by kernel_rfl
theorem rc19 : Tryz.f19.results.toList = ([] : List (Nat × Option TypeId)).map toRV := by kernel_rfl
def cl19 : SC := .seq (.region [] (.one ⟨(some 4), .move (.tmp 2), none⟩ (
.one ⟨(some 5), .binOp .neq 20 (.tmp 4) (.const .nilIface) 20, none⟩ .leaf))) (
.cond (.tmp 5) (.region [] (.one ⟨(some 6), .build 36 #[], none⟩ (
.one ⟨none, .store 36 (.tmp 0) (.tmp 6), none⟩ (
.one ⟨none, .store 4 (.tmp 1) (.const (.bool false)), none⟩ .leaf)))) (
.skip))
theorem okd19 : Tryz.f19.body.bind (compD Tryz.prog 7) = some (3, 2, cl19) := by kernel_rfl
def fi19 : Fi := ⟨sc19, 7, [], false, some (3, 2, cl19), true⟩
theorem fo19 : FnOk Tryz.prog 19 fi19 := ⟨Tryz.f19, Tryz.func19, Tryz.ntmps19, ok19, rc19, fun _ _ _ h => (by cases h; exact okd19), Tryz.call19⟩
/-- (*girandole/play.reader).num -/
def sc20 : SC := .seq (.region [] (.one ⟨(some 4), .assign (.const (.int .i64 0)), none⟩ .leaf)) (
.seq (.seq (.region [] (.one ⟨(some 7), .move (.tmp 0), none⟩ (
.one ⟨(some 8), .move (.tmp 1), none⟩ (
.one ⟨(some 9), .call ⟨.value (.func 36), #[(.tmp 7), (.tmp 8)], #[45, 3]⟩, none⟩ (
.one ⟨(some 10), .call ⟨.builtin .len, #[(.tmp 9)], #[22]⟩, none⟩ (
.one ⟨(some 11), .move (.const (.int .i64 0)), none⟩ .leaf)))))) (
.block 0 (.loop (.seq (.region [] (.one ⟨(some 12), .binOp .lss 3 (.tmp 11) (.tmp 10) 3, none⟩ .leaf)) (
.seq (.cond (.tmp 12) (.skip) (
.exit 0)) (
.seq (.block 1 (.seq (.region [] (.one ⟨(some 13), .indexAddr 22 (.tmp 9) (.tmp 11), none⟩ (
.one ⟨(some 14), .load 5 (.tmp 13), none⟩ (
.one ⟨(some 6), .assign (.tmp 14), none⟩ .leaf)))) (
.region [] (.one ⟨(some 15), .move (.tmp 4), none⟩ (
.one ⟨(some 16), .binOp .shl 3 (.tmp 15) (.const (.int .u64 8)) 80, none⟩ (
.one ⟨(some 17), .move (.tmp 6), none⟩ (
.one ⟨(some 18), .convert 5 3 (.tmp 17), none⟩ (
.one ⟨(some 19), .binOp .or 3 (.tmp 16) (.tmp 18) 3, none⟩ (
.one ⟨(some 4), .assign (.tmp 19), none⟩ .leaf))))))))) (
.region [] (.one ⟨(some 20), .binOp .add 3 (.tmp 11) (.const (.int .i64 1)) 3, none⟩ (
.one ⟨(some 11), .move (.tmp 20), none⟩ .leaf))))))))) (
.seq (.region [] (.one ⟨(some 21), .move (.tmp 4), none⟩ (
.one ⟨(some 4), .assign (.tmp 21), none⟩ .leaf))) (
.ret)))
theorem ok20 : Tryz.f20.body.bind (comp Tryz.prog 22) = some sc20 := by kernel_rfl
theorem rc20 : Tryz.f20.results.toList = ([(4, none)] : List (Nat × Option TypeId)).map toRV := by kernel_rfl
def fi20 : Fi := ⟨sc20, 22, [(4, none)], false, none, true⟩
theorem fo20 : FnOk Tryz.prog 20 fi20 := ⟨Tryz.f20, Tryz.func20, Tryz.ntmps20, ok20, rc20, fun _ _ _ h => (by cases h), Tryz.call20⟩
/-- (*girandole/play.reader).step -/
def sc21 : SC := .seq (.region [] (.one ⟨(some 4), .alloc 36, none⟩ .leaf)) (
.seq (.region [] (.one ⟨(some 5), .move (.tmp 1), none⟩ (
.one ⟨(some 6), .fieldAddr 36 (.tmp 4) 0, none⟩ (
.one ⟨none, .store 3 (.tmp 6) (.tmp 5), none⟩ .leaf)))) (
.seq (.seq (.region [] (.one ⟨(some 7), .move (.tmp 1), none⟩ .leaf)) (
.block 0 (.seq (.region [] (.one ⟨(some 12), .binOp .eql 3 (.tmp 7) (.const (.int .i64 1)) 3, none⟩ (
.one ⟨(some 11), .assign (.tmp 12), none⟩ .leaf))) (
.cond (.tmp 11) (.seq (.region [] (.one ⟨(some 13), .move (.tmp 0), none⟩ (
.one ⟨(some 14), .call ⟨.value (.func 37), #[(.tmp 13), (.tmp 4)], #[45, 82]⟩, none⟩ .leaf))) (
.seq (.region [] (.one ⟨(some 15), .load 36 (.tmp 4), none⟩ (
.one ⟨none, .store 36 (.tmp 4) (.tmp 15), none⟩ .leaf))) (
.ret))) (
.seq (.region [] (.one ⟨(some 17), .binOp .eql 3 (.tmp 7) (.const (.int .i64 2)) 3, none⟩ (
.one ⟨(some 16), .assign (.tmp 17), none⟩ .leaf))) (
.cond (.tmp 16) (.seq (.region [] (.one ⟨(some 18), .load 36 (.tmp 4), none⟩ (
.one ⟨none, .store 36 (.tmp 4) (.tmp 18), none⟩ .leaf))) (
.ret)) (
.seq (.region [] (.one ⟨(some 20), .binOp .eql 3 (.tmp 7) (.const (.int .i64 8)) 3, none⟩ (
.one ⟨(some 19), .assign (.tmp 20), none⟩ .leaf))) (
.cond (.tmp 19) (.region [] (.one ⟨(some 21), .move (.tmp 0), none⟩ (
.one ⟨(some 22), .move (.tmp 0), none⟩ (
.one ⟨(some 23), .call ⟨.value (.func 20), #[(.tmp 22), (.const (.int .i64 1))], #[45, 3]⟩, none⟩ (
.one ⟨(some 24), .call ⟨.value (.func 36), #[(.tmp 21), (.tmp 23)], #[45, 3]⟩, none⟩ (
.one ⟨(some 25), .fieldAddr 36 (.tmp 4) 2, none⟩ (
.one ⟨none, .store 22 (.tmp 25) (.tmp 24), none⟩ .leaf))))))) (
.region [] (.one ⟨(some 8), .move (.tmp 0), none⟩ (
.one ⟨(some 9), .call ⟨.value (.func 20), #[(.tmp 8), (.const (.int .i64 2))], #[45, 3]⟩, none⟩ (
.one ⟨(some 10), .fieldAddr 36 (.tmp 4) 3, none⟩ (
.one ⟨none, .store 3 (.tmp 10) (.tmp 9), none⟩ .leaf))))))))))))) (
.seq (.seq (.region [] (.one ⟨(some 26), .move (.tmp 1), none⟩ (
.one ⟨(some 27), .binOp .eql 3 (.tmp 26) (.const (.int .i64 6)) 3, none⟩ (
.one ⟨(some 28), .move (.tmp 27), none⟩ (
.one ⟨(some 29), .move (.tmp 1), some (28, false)⟩ (
.one ⟨(some 30), .binOp .eql 3 (.tmp 29) (.const (.int .i64 7)) 3, some (28, false)⟩ (
.one ⟨(some 31), .pick (.tmp 28) (.const (.bool true)) (.tmp 30), none⟩ .leaf))))))) (
.cond (.tmp 31) (.region [] (.one ⟨(some 32), .move (.tmp 0), none⟩ (
.one ⟨(some 33), .call ⟨.value (.func 20), #[(.tmp 32), (.const (.int .i64 2))], #[45, 3]⟩, none⟩ (
.one ⟨(some 34), .fieldAddr 36 (.tmp 4) 4, none⟩ (
.one ⟨none, .store 3 (.tmp 34) (.tmp 33), none⟩ .leaf))))) (
.skip))) (
.seq (.seq (.region [] (.one ⟨(some 35), .move (.tmp 1), none⟩ (
.one ⟨(some 36), .binOp .eql 3 (.tmp 35) (.const (.int .i64 7)) 3, none⟩ .leaf))) (
.cond (.tmp 36) (.region [] (.one ⟨(some 37), .move (.tmp 0), none⟩ (
.one ⟨(some 38), .call ⟨.value (.func 20), #[(.tmp 37), (.const (.int .i64 1))], #[45, 3]⟩, none⟩ (
.one ⟨(some 39), .convert 3 5 (.tmp 38), none⟩ (
.one ⟨(some 40), .fieldAddr 36 (.tmp 4) 6, none⟩ (
.one ⟨none, .store 5 (.tmp 40) (.tmp 39), none⟩ .leaf)))))) (
.skip))) (
.seq (.region [] (.one ⟨(some 41), .move (.tmp 0), none⟩ (
.one ⟨(some 42), .call ⟨.value (.func 20), #[(.tmp 41), (.const (.int .i64 1))], #[45, 3]⟩, none⟩ (
.one ⟨(some 43), .binOp .rem 3 (.tmp 42) (.const (.int .i64 2)) 3, none⟩ (
.one ⟨(some 44), .binOp .eql 3 (.tmp 43) (.const (.int .i64 1)) 3, none⟩ (
.one ⟨(some 45), .fieldAddr 36 (.tmp 4) 5, none⟩ (
.one ⟨none, .store 4 (.tmp 45) (.tmp 44), none⟩ .leaf))))))) (
.seq (.region [] (.one ⟨(some 46), .load 36 (.tmp 4), none⟩ (
.one ⟨none, .store 36 (.tmp 4) (.tmp 46), none⟩ .leaf))) (
.ret)))))))
theorem ok21 : Tryz.f21.body.bind (comp Tryz.prog 47) = some sc21 := by kernel_rfl
theorem rc21 : Tryz.f21.results.toList = ([(4, some 36)] : List (Nat × Option TypeId)).map toRV := by kernel_rfl
def fi21 : Fi := ⟨sc21, 47, [(4, some 36)], false, none, false⟩
theorem fo21 : FnOk Tryz.prog 21 fi21 := ⟨Tryz.f21, Tryz.func21, Tryz.ntmps21, ok21, rc21, fun _ _ _ h => (by cases h), Tryz.call21⟩
/-- girandole/play.put -/
def sc22 : SC := .seq (.region [] (.one ⟨(some 6), .assign (.const (.slice none 0 0)), none⟩ .leaf)) (
.seq (.seq (.region [] (.one ⟨(some 8), .move (.tmp 2), none⟩ (
.one ⟨(some 9), .binOp .sub 3 (.tmp 8) (.const (.int .i64 1)) 3, none⟩ (
.one ⟨(some 7), .assign (.tmp 9), none⟩ .leaf)))) (
.block 0 (.loop (.seq (.seq (.region [] (.one ⟨(some 10), .move (.tmp 7), none⟩ (
.one ⟨(some 11), .binOp .geq 3 (.tmp 10) (.const (.int .i64 0)) 3, none⟩ .leaf))) (
.cond (.tmp 11) (.skip) (
.exit 0))) (
.seq (.block 1 (.region [] (.one ⟨(some 14), .move (.tmp 0), none⟩ (
.one ⟨(some 15), .move (.tmp 1), none⟩ (
.one ⟨(some 16), .move (.tmp 7), none⟩ (
.one ⟨(some 17), .binOp .mul 3 (.const (.int .i64 8)) (.tmp 16) 3, none⟩ (
.one ⟨(some 18), .binOp .shr 3 (.tmp 15) (.tmp 17) 3, none⟩ (
.one ⟨(some 19), .convert 3 5 (.tmp 18), none⟩ (
.one ⟨(some 20), .buildSlice 22 1 #[(0, (.tmp 19))], none⟩ (
.one ⟨(some 21), .call ⟨.builtin .append, #[(.tmp 14), (.tmp 20)], #[22, 22]⟩, none⟩ (
.one ⟨(some 0), .assign (.tmp 21), none⟩ .leaf))))))))))) (
.region [] (.one ⟨(some 12), .move (.tmp 7), none⟩ (
.one ⟨(some 13), .binOp .sub 3 (.tmp 12) (.const (.int .i64 1)) 3, none⟩ (
.one ⟨(some 7), .assign (.tmp 13), none⟩ .leaf))))))))) (
.seq (.region [] (.one ⟨(some 22), .move (.tmp 0), none⟩ (
.one ⟨(some 6), .assign (.tmp 22), none⟩ .leaf))) (
.ret)))
theorem ok22 : Tryz.f22.body.bind (comp Tryz.prog 23) = some sc22 := by kernel_rfl
theorem rc22 : Tryz.f22.results.toList = ([(6, none)] : List (Nat × Option TypeId)).map toRV := by kernel_rfl
def fi22 : Fi := ⟨sc22, 23, [(6, none)], false, none, true⟩
theorem fo22 : FnOk Tryz.prog 22 fi22 := ⟨Tryz.f22, Tryz.func22, Tryz.ntmps22, ok22, rc22, fun _ _ _ h => (by cases h), Tryz.call22⟩
/-- slices.Equal[[]byte,byte] -/
def sc23 : SC := .seq (.region [] (.one ⟨(some 4), .assign (.const (.bool false)), none⟩ .leaf)) (
.seq (.seq (.region [] (.one ⟨(some 6), .move (.tmp 0), none⟩ (
.one ⟨(some 7), .call ⟨.builtin .len, #[(.tmp 6)], #[22]⟩, none⟩ (
.one ⟨(some 8), .move (.tmp 1), none⟩ (
.one ⟨(some 9), .call ⟨.builtin .len, #[(.tmp 8)], #[22]⟩, none⟩ (
.one ⟨(some 10), .binOp .neq 3 (.tmp 7) (.tmp 9) 3, none⟩ .leaf)))))) (
.cond (.tmp 10) (.seq (.region [] (.one ⟨(some 4), .assign (.const (.bool false)), none⟩ .leaf)) (
.ret)) (
.skip))) (
.seq (.seq (.region [] (.one ⟨(some 11), .move (.tmp 0), none⟩ (
.one ⟨(some 12), .call ⟨.builtin .len, #[(.tmp 11)], #[22]⟩, none⟩ (
.one ⟨(some 13), .move (.const (.int .i64 0)), none⟩ .leaf)))) (
.block 0 (.loop (.seq (.region [] (.one ⟨(some 14), .binOp .lss 3 (.tmp 13) (.tmp 12) 3, none⟩ .leaf)) (
.seq (.cond (.tmp 14) (.skip) (
.exit 0)) (
.seq (.block 1 (.seq (.region [] (.one ⟨(some 15), .move (.tmp 13), none⟩ (
.one ⟨(some 5), .assign (.tmp 15), none⟩ .leaf))) (
.seq (.region [] (.one ⟨(some 16), .move (.tmp 0), none⟩ (
.one ⟨(some 17), .move (.tmp 5), none⟩ (
.one ⟨(some 18), .indexAddr 22 (.tmp 16) (.tmp 17), none⟩ (
.one ⟨(some 19), .load 5 (.tmp 18), none⟩ (
.one ⟨(some 20), .move (.tmp 1), none⟩ (
.one ⟨(some 21), .move (.tmp 5), none⟩ (
.one ⟨(some 22), .indexAddr 22 (.tmp 20) (.tmp 21), none⟩ (
.one ⟨(some 23), .load 5 (.tmp 22), none⟩ (
.one ⟨(some 24), .binOp .neq 5 (.tmp 19) (.tmp 23) 5, none⟩ .leaf)))))))))) (
.cond (.tmp 24) (.seq (.region [] (.one ⟨(some 4), .assign (.const (.bool false)), none⟩ .leaf)) (
.ret)) (
.skip))))) (
.region [] (.one ⟨(some 25), .binOp .add 3 (.tmp 13) (.const (.int .i64 1)) 3, none⟩ (
.one ⟨(some 13), .move (.tmp 25), none⟩ .leaf))))))))) (
.seq (.region [] (.one ⟨(some 4), .assign (.const (.bool true)), none⟩ .leaf)) (
.ret))))
theorem ok23 : Tryz.f23.body.bind (comp Tryz.prog 26) = some sc23 := by kernel_rfl
theorem rc23 : Tryz.f23.results.toList = ([(4, none)] : List (Nat × Option TypeId)).map toRV := by kernel_rfl
def fi23 : Fi := ⟨sc23, 26, [(4, none)], false, none, true⟩
theorem fo23 : FnOk Tryz.prog 23 fi23 := ⟨Tryz.f23, Tryz.func23, Tryz.ntmps23, ok23, rc23, fun _ _ _ h => (by cases h), Tryz.call23⟩
/-- slices.Equal[[]uint32,uint32] -/
def sc24 : SC := .seq (.region [] (.one ⟨(some 4), .assign (.const (.bool false)), none⟩ .leaf)) (
.seq (.seq (.region [] (.one ⟨(some 6), .move (.tmp 0), none⟩ (
.one ⟨(some 7), .call ⟨.builtin .len, #[(.tmp 6)], #[32]⟩, none⟩ (
.one ⟨(some 8), .move (.tmp 1), none⟩ (
.one ⟨(some 9), .call ⟨.builtin .len, #[(.tmp 8)], #[32]⟩, none⟩ (
.one ⟨(some 10), .binOp .neq 3 (.tmp 7) (.tmp 9) 3, none⟩ .leaf)))))) (
.cond (.tmp 10) (.seq (.region [] (.one ⟨(some 4), .assign (.const (.bool false)), none⟩ .leaf)) (
.ret)) (
.skip))) (
.seq (.seq (.region [] (.one ⟨(some 11), .move (.tmp 0), none⟩ (
.one ⟨(some 12), .call ⟨.builtin .len, #[(.tmp 11)], #[32]⟩, none⟩ (
.one ⟨(some 13), .move (.const (.int .i64 0)), none⟩ .leaf)))) (
.block 0 (.loop (.seq (.region [] (.one ⟨(some 14), .binOp .lss 3 (.tmp 13) (.tmp 12) 3, none⟩ .leaf)) (
.seq (.cond (.tmp 14) (.skip) (
.exit 0)) (
.seq (.block 1 (.seq (.region [] (.one ⟨(some 15), .move (.tmp 13), none⟩ (
.one ⟨(some 5), .assign (.tmp 15), none⟩ .leaf))) (
.seq (.region [] (.one ⟨(some 16), .move (.tmp 0), none⟩ (
.one ⟨(some 17), .move (.tmp 5), none⟩ (
.one ⟨(some 18), .indexAddr 32 (.tmp 16) (.tmp 17), none⟩ (
.one ⟨(some 19), .load 31 (.tmp 18), none⟩ (
.one ⟨(some 20), .move (.tmp 1), none⟩ (
.one ⟨(some 21), .move (.tmp 5), none⟩ (
.one ⟨(some 22), .indexAddr 32 (.tmp 20) (.tmp 21), none⟩ (
.one ⟨(some 23), .load 31 (.tmp 22), none⟩ (
.one ⟨(some 24), .binOp .neq 31 (.tmp 19) (.tmp 23) 31, none⟩ .leaf)))))))))) (
.cond (.tmp 24) (.seq (.region [] (.one ⟨(some 4), .assign (.const (.bool false)), none⟩ .leaf)) (
.ret)) (
.skip))))) (
.region [] (.one ⟨(some 25), .binOp .add 3 (.tmp 13) (.const (.int .i64 1)) 3, none⟩ (
.one ⟨(some 13), .move (.tmp 25), none⟩ .leaf))))))))) (
.seq (.region [] (.one ⟨(some 4), .assign (.const (.bool true)), none⟩ .leaf)) (
.ret))))
theorem ok24 : Tryz.f24.body.bind (comp Tryz.prog 26) = some sc24 := by kernel_rfl
theorem rc24 : Tryz.f24.results.toList = ([(4, none)] : List (Nat × Option TypeId)).map toRV := by kernel_rfl
def fi24 : Fi := ⟨sc24, 26, [(4, none)], false, none, true⟩
theorem fo24 : FnOk Tryz.prog 24 fi24 := ⟨Tryz.f24, Tryz.func24, Tryz.ntmps24, ok24, rc24, fun _ _ _ h => (by cases h), Tryz.call24⟩
/-- girandole/sender.New -/
def sc25 : SC := .seq (.region [] (.one ⟨(some 1), .box 44 (.tmp 0), none⟩ (
.one ⟨(some 2), .assign (.const (.pointer none)), none⟩ (
.one ⟨(some 3), .assign (.const (.bool false)), none⟩ .leaf)))) (
.seq (.seq (.region [] (.one ⟨(some 4), .load 44 (.tmp 1), none⟩ (
.one ⟨(some 5), .call ⟨.value (.func 38), #[(.tmp 4)], #[44]⟩, none⟩ (
.one ⟨(some 6), .unOp .not 4 (.tmp 5), none⟩ .leaf)))) (
.cond (.tmp 6) (.seq (.region [] (.one ⟨(some 2), .assign (.const (.pointer none)), none⟩ (
.one ⟨(some 3), .assign (.const (.bool false)), none⟩ .leaf))) (
.ret)) (
.skip))) (
.seq (.region [7, 8, 9, 10, 11, 12, 13, 14, 15, 2, 3] (.alt (.one ⟨(some 7), .load 44 (.tmp 1), none⟩ (
.alt (.one ⟨(some 8), .call ⟨.value (.func 39), #[], #[]⟩, none⟩ (
.alt (.one ⟨(some 9), .makeMap 86 none, none⟩ (
.alt (.one ⟨(some 10), .call ⟨.value (.func 40), #[], #[]⟩, none⟩ (
.alt (.one ⟨(some 11), .call ⟨.value (.func 41), #[], #[]⟩, none⟩ (
.alt (.one ⟨(some 12), .call ⟨.value (.func 42), #[], #[]⟩, none⟩ (
.alt (.one ⟨(some 13), .call ⟨.value (.func 43), #[], #[]⟩, none⟩ (
.one ⟨(some 14), .build 97 #[(0, (.tmp 7)), (1, (.tmp 8)), (3, (.tmp 9)), (4, (.tmp 10)), (5, (.tmp 11)), (6, (.tmp 12)), (7, (.tmp 13))], none⟩ (
.alt (.one ⟨(some 15), .box 97 (.tmp 14), none⟩ (
.one ⟨(some 2), .assign (.tmp 15), none⟩ (
.one ⟨(some 3), .assign (.const (.bool true)), none⟩ .leaf))) (
.nil)))) (
.nil))) (
.nil))) (
.nil))) (
.nil))) (
.alt (.one ⟨(some 10), .call ⟨.value (.func 40), #[], #[]⟩, none⟩ (
.alt (.one ⟨(some 9), .makeMap 86 none, none⟩ (
.alt (.one ⟨(some 11), .call ⟨.value (.func 41), #[], #[]⟩, none⟩ (
.alt (.one ⟨(some 12), .call ⟨.value (.func 42), #[], #[]⟩, none⟩ (
.alt (.one ⟨(some 13), .call ⟨.value (.func 43), #[], #[]⟩, none⟩ (
.one ⟨(some 14), .build 97 #[(0, (.tmp 7)), (1, (.tmp 8)), (3, (.tmp 9)), (4, (.tmp 10)), (5, (.tmp 11)), (6, (.tmp 12)), (7, (.tmp 13))], none⟩ (
.alt (.one ⟨(some 15), .box 97 (.tmp 14), none⟩ (
.one ⟨(some 2), .assign (.tmp 15), none⟩ (
.one ⟨(some 3), .assign (.const (.bool true)), none⟩ .leaf))) (
.nil)))) (
.nil))) (
.nil))) (
.nil))) (
.alt (.one ⟨(some 11), .call ⟨.value (.func 41), #[], #[]⟩, none⟩ (
.alt (.one ⟨(some 9), .makeMap 86 none, none⟩ (
.alt (.one ⟨(some 12), .call ⟨.value (.func 42), #[], #[]⟩, none⟩ (
.alt (.one ⟨(some 13), .call ⟨.value (.func 43), #[], #[]⟩, none⟩ (
.one ⟨(some 14), .build 97 #[(0, (.tmp 7)), (1, (.tmp 8)), (3, (.tmp 9)), (4, (.tmp 10)), (5, (.tmp 11)), (6, (.tmp 12)), (7, (.tmp 13))], none⟩ (
.alt (.one ⟨(some 15), .box 97 (.tmp 14), none⟩ (
.one ⟨(some 2), .assign (.tmp 15), none⟩ (
.one ⟨(some 3), .assign (.const (.bool true)), none⟩ .leaf))) (
.nil)))) (
.nil))) (
.nil))) (
.alt (.one ⟨(some 12), .call ⟨.value (.func 42), #[], #[]⟩, none⟩ (
.alt (.one ⟨(some 9), .makeMap 86 none, none⟩ (
.alt (.one ⟨(some 13), .call ⟨.value (.func 43), #[], #[]⟩, none⟩ (
.one ⟨(some 14), .build 97 #[(0, (.tmp 7)), (1, (.tmp 8)), (3, (.tmp 9)), (4, (.tmp 10)), (5, (.tmp 11)), (6, (.tmp 12)), (7, (.tmp 13))], none⟩ (
.alt (.one ⟨(some 15), .box 97 (.tmp 14), none⟩ (
.one ⟨(some 2), .assign (.tmp 15), none⟩ (
.one ⟨(some 3), .assign (.const (.bool true)), none⟩ .leaf))) (
.nil)))) (
.nil))) (
.alt (.one ⟨(some 13), .call ⟨.value (.func 43), #[], #[]⟩, none⟩ (
.alt (.one ⟨(some 9), .makeMap 86 none, none⟩ (
.one ⟨(some 14), .build 97 #[(0, (.tmp 7)), (1, (.tmp 8)), (3, (.tmp 9)), (4, (.tmp 10)), (5, (.tmp 11)), (6, (.tmp 12)), (7, (.tmp 13))], none⟩ (
.alt (.one ⟨(some 15), .box 97 (.tmp 14), none⟩ (
.one ⟨(some 2), .assign (.tmp 15), none⟩ (
.one ⟨(some 3), .assign (.const (.bool true)), none⟩ .leaf))) (
.nil)))) (
.nil))) (
.nil)))) (
.nil)))) (
.nil)))) (
.nil)))) (
.alt (.one ⟨(some 9), .makeMap 86 none, none⟩ (
.alt (.one ⟨(some 8), .call ⟨.value (.func 39), #[], #[]⟩, none⟩ (
.alt (.one ⟨(some 10), .call ⟨.value (.func 40), #[], #[]⟩, none⟩ (
.alt (.one ⟨(some 11), .call ⟨.value (.func 41), #[], #[]⟩, none⟩ (
.alt (.one ⟨(some 12), .call ⟨.value (.func 42), #[], #[]⟩, none⟩ (
.alt (.one ⟨(some 13), .call ⟨.value (.func 43), #[], #[]⟩, none⟩ (
.one ⟨(some 14), .build 97 #[(0, (.tmp 7)), (1, (.tmp 8)), (3, (.tmp 9)), (4, (.tmp 10)), (5, (.tmp 11)), (6, (.tmp 12)), (7, (.tmp 13))], none⟩ (
.alt (.one ⟨(some 15), .box 97 (.tmp 14), none⟩ (
.one ⟨(some 2), .assign (.tmp 15), none⟩ (
.one ⟨(some 3), .assign (.const (.bool true)), none⟩ .leaf))) (
.nil)))) (
.nil))) (
.nil))) (
.nil))) (
.nil))) (
.nil))) (
.nil)))) (
.alt (.one ⟨(some 8), .call ⟨.value (.func 39), #[], #[]⟩, none⟩ (
.alt (.one ⟨(some 7), .load 44 (.tmp 1), none⟩ (
.alt (.one ⟨(some 9), .makeMap 86 none, none⟩ (
.alt (.one ⟨(some 10), .call ⟨.value (.func 40), #[], #[]⟩, none⟩ (
.alt (.one ⟨(some 11), .call ⟨.value (.func 41), #[], #[]⟩, none⟩ (
.alt (.one ⟨(some 12), .call ⟨.value (.func 42), #[], #[]⟩, none⟩ (
.alt (.one ⟨(some 13), .call ⟨.value (.func 43), #[], #[]⟩, none⟩ (
.one ⟨(some 14), .build 97 #[(0, (.tmp 7)), (1, (.tmp 8)), (3, (.tmp 9)), (4, (.tmp 10)), (5, (.tmp 11)), (6, (.tmp 12)), (7, (.tmp 13))], none⟩ (
.alt (.one ⟨(some 15), .box 97 (.tmp 14), none⟩ (
.one ⟨(some 2), .assign (.tmp 15), none⟩ (
.one ⟨(some 3), .assign (.const (.bool true)), none⟩ .leaf))) (
.nil)))) (
.nil))) (
.nil))) (
.nil))) (
.nil))) (
.alt (.one ⟨(some 10), .call ⟨.value (.func 40), #[], #[]⟩, none⟩ (
.alt (.one ⟨(some 9), .makeMap 86 none, none⟩ (
.alt (.one ⟨(some 11), .call ⟨.value (.func 41), #[], #[]⟩, none⟩ (
.alt (.one ⟨(some 12), .call ⟨.value (.func 42), #[], #[]⟩, none⟩ (
.alt (.one ⟨(some 13), .call ⟨.value (.func 43), #[], #[]⟩, none⟩ (
.one ⟨(some 14), .build 97 #[(0, (.tmp 7)), (1, (.tmp 8)), (3, (.tmp 9)), (4, (.tmp 10)), (5, (.tmp 11)), (6, (.tmp 12)), (7, (.tmp 13))], none⟩ (
.alt (.one ⟨(some 15), .box 97 (.tmp 14), none⟩ (
.one ⟨(some 2), .assign (.tmp 15), none⟩ (
.one ⟨(some 3), .assign (.const (.bool true)), none⟩ .leaf))) (
.nil)))) (
.nil))) (
.nil))) (
.nil))) (
.alt (.one ⟨(some 11), .call ⟨.value (.func 41), #[], #[]⟩, none⟩ (
.alt (.one ⟨(some 9), .makeMap 86 none, none⟩ (
.alt (.one ⟨(some 12), .call ⟨.value (.func 42), #[], #[]⟩, none⟩ (
.alt (.one ⟨(some 13), .call ⟨.value (.func 43), #[], #[]⟩, none⟩ (
.one ⟨(some 14), .build 97 #[(0, (.tmp 7)), (1, (.tmp 8)), (3, (.tmp 9)), (4, (.tmp 10)), (5, (.tmp 11)), (6, (.tmp 12)), (7, (.tmp 13))], none⟩ (
.alt (.one ⟨(some 15), .box 97 (.tmp 14), none⟩ (
.one ⟨(some 2), .assign (.tmp 15), none⟩ (
.one ⟨(some 3), .assign (.const (.bool true)), none⟩ .leaf))) (
.nil)))) (
.nil))) (
.nil))) (
.alt (.one ⟨(some 12), .call ⟨.value (.func 42), #[], #[]⟩, none⟩ (
.alt (.one ⟨(some 9), .makeMap 86 none, none⟩ (
.alt (.one ⟨(some 13), .call ⟨.value (.func 43), #[], #[]⟩, none⟩ (
.one ⟨(some 14), .build 97 #[(0, (.tmp 7)), (1, (.tmp 8)), (3, (.tmp 9)), (4, (.tmp 10)), (5, (.tmp 11)), (6, (.tmp 12)), (7, (.tmp 13))], none⟩ (
.alt (.one ⟨(some 15), .box 97 (.tmp 14), none⟩ (
.one ⟨(some 2), .assign (.tmp 15), none⟩ (
.one ⟨(some 3), .assign (.const (.bool true)), none⟩ .leaf))) (
.nil)))) (
.nil))) (
.alt (.one ⟨(some 13), .call ⟨.value (.func 43), #[], #[]⟩, none⟩ (
.alt (.one ⟨(some 9), .makeMap 86 none, none⟩ (
.one ⟨(some 14), .build 97 #[(0, (.tmp 7)), (1, (.tmp 8)), (3, (.tmp 9)), (4, (.tmp 10)), (5, (.tmp 11)), (6, (.tmp 12)), (7, (.tmp 13))], none⟩ (
.alt (.one ⟨(some 15), .box 97 (.tmp 14), none⟩ (
.one ⟨(some 2), .assign (.tmp 15), none⟩ (
.one ⟨(some 3), .assign (.const (.bool true)), none⟩ .leaf))) (
.nil)))) (
.nil))) (
.nil)))) (
.nil)))) (
.nil)))) (
.nil)))) (
.alt (.one ⟨(some 9), .makeMap 86 none, none⟩ (
.alt (.one ⟨(some 7), .load 44 (.tmp 1), none⟩ (
.alt (.one ⟨(some 10), .call ⟨.value (.func 40), #[], #[]⟩, none⟩ (
.alt (.one ⟨(some 11), .call ⟨.value (.func 41), #[], #[]⟩, none⟩ (
.alt (.one ⟨(some 12), .call ⟨.value (.func 42), #[], #[]⟩, none⟩ (
.alt (.one ⟨(some 13), .call ⟨.value (.func 43), #[], #[]⟩, none⟩ (
.one ⟨(some 14), .build 97 #[(0, (.tmp 7)), (1, (.tmp 8)), (3, (.tmp 9)), (4, (.tmp 10)), (5, (.tmp 11)), (6, (.tmp 12)), (7, (.tmp 13))], none⟩ (
.alt (.one ⟨(some 15), .box 97 (.tmp 14), none⟩ (
.one ⟨(some 2), .assign (.tmp 15), none⟩ (
.one ⟨(some 3), .assign (.const (.bool true)), none⟩ .leaf))) (
.nil)))) (
.nil))) (
.nil))) (
.nil))) (
.nil))) (
.alt (.one ⟨(some 10), .call ⟨.value (.func 40), #[], #[]⟩, none⟩ (
.alt (.one ⟨(some 7), .load 44 (.tmp 1), none⟩ (
.alt (.one ⟨(some 11), .call ⟨.value (.func 41), #[], #[]⟩, none⟩ (
.alt (.one ⟨(some 12), .call ⟨.value (.func 42), #[], #[]⟩, none⟩ (
.alt (.one ⟨(some 13), .call ⟨.value (.func 43), #[], #[]⟩, none⟩ (
.one ⟨(some 14), .build 97 #[(0, (.tmp 7)), (1, (.tmp 8)), (3, (.tmp 9)), (4, (.tmp 10)), (5, (.tmp 11)), (6, (.tmp 12)), (7, (.tmp 13))], none⟩ (
.alt (.one ⟨(some 15), .box 97 (.tmp 14), none⟩ (
.one ⟨(some 2), .assign (.tmp 15), none⟩ (
.one ⟨(some 3), .assign (.const (.bool true)), none⟩ .leaf))) (
.nil)))) (
.nil))) (
.nil))) (
.nil))) (
.alt (.one ⟨(some 11), .call ⟨.value (.func 41), #[], #[]⟩, none⟩ (
.alt (.one ⟨(some 7), .load 44 (.tmp 1), none⟩ (
.alt (.one ⟨(some 12), .call ⟨.value (.func 42), #[], #[]⟩, none⟩ (
.alt (.one ⟨(some 13), .call ⟨.value (.func 43), #[], #[]⟩, none⟩ (
.one ⟨(some 14), .build 97 #[(0, (.tmp 7)), (1, (.tmp 8)), (3, (.tmp 9)), (4, (.tmp 10)), (5, (.tmp 11)), (6, (.tmp 12)), (7, (.tmp 13))], none⟩ (
.alt (.one ⟨(some 15), .box 97 (.tmp 14), none⟩ (
.one ⟨(some 2), .assign (.tmp 15), none⟩ (
.one ⟨(some 3), .assign (.const (.bool true)), none⟩ .leaf))) (
.nil)))) (
.nil))) (
.nil))) (
.alt (.one ⟨(some 12), .call ⟨.value (.func 42), #[], #[]⟩, none⟩ (
.alt (.one ⟨(some 7), .load 44 (.tmp 1), none⟩ (
.alt (.one ⟨(some 13), .call ⟨.value (.func 43), #[], #[]⟩, none⟩ (
.one ⟨(some 14), .build 97 #[(0, (.tmp 7)), (1, (.tmp 8)), (3, (.tmp 9)), (4, (.tmp 10)), (5, (.tmp 11)), (6, (.tmp 12)), (7, (.tmp 13))], none⟩ (
.alt (.one ⟨(some 15), .box 97 (.tmp 14), none⟩ (
.one ⟨(some 2), .assign (.tmp 15), none⟩ (
.one ⟨(some 3), .assign (.const (.bool true)), none⟩ .leaf))) (
.nil)))) (
.nil))) (
.alt (.one ⟨(some 13), .call ⟨.value (.func 43), #[], #[]⟩, none⟩ (
.one ⟨(some 7), .load 44 (.tmp 1), none⟩ (
.one ⟨(some 14), .build 97 #[(0, (.tmp 7)), (1, (.tmp 8)), (3, (.tmp 9)), (4, (.tmp 10)), (5, (.tmp 11)), (6, (.tmp 12)), (7, (.tmp 13))], none⟩ (
.alt (.one ⟨(some 15), .box 97 (.tmp 14), none⟩ (
.one ⟨(some 2), .assign (.tmp 15), none⟩ (
.one ⟨(some 3), .assign (.const (.bool true)), none⟩ .leaf))) (
.nil))))) (
.nil)))) (
.nil)))) (
.nil)))) (
.nil)))) (
.alt (.one ⟨(some 10), .call ⟨.value (.func 40), #[], #[]⟩, none⟩ (
.alt (.one ⟨(some 7), .load 44 (.tmp 1), none⟩ (
.alt (.one ⟨(some 9), .makeMap 86 none, none⟩ (
.alt (.one ⟨(some 11), .call ⟨.value (.func 41), #[], #[]⟩, none⟩ (
.alt (.one ⟨(some 12), .call ⟨.value (.func 42), #[], #[]⟩, none⟩ (
.alt (.one ⟨(some 13), .call ⟨.value (.func 43), #[], #[]⟩, none⟩ (
.one ⟨(some 14), .build 97 #[(0, (.tmp 7)), (1, (.tmp 8)), (3, (.tmp 9)), (4, (.tmp 10)), (5, (.tmp 11)), (6, (.tmp 12)), (7, (.tmp 13))], none⟩ (
.alt (.one ⟨(some 15), .box 97 (.tmp 14), none⟩ (
.one ⟨(some 2), .assign (.tmp 15), none⟩ (
.one ⟨(some 3), .assign (.const (.bool true)), none⟩ .leaf))) (
.nil)))) (
.nil))) (
.nil))) (
.nil))) (
.alt (.one ⟨(some 11), .call ⟨.value (.func 41), #[], #[]⟩, none⟩ (
.alt (.one ⟨(some 9), .makeMap 86 none, none⟩ (
.alt (.one ⟨(some 12), .call ⟨.value (.func 42), #[], #[]⟩, none⟩ (
.alt (.one ⟨(some 13), .call ⟨.value (.func 43), #[], #[]⟩, none⟩ (
.one ⟨(some 14), .build 97 #[(0, (.tmp 7)), (1, (.tmp 8)), (3, (.tmp 9)), (4, (.tmp 10)), (5, (.tmp 11)), (6, (.tmp 12)), (7, (.tmp 13))], none⟩ (
.alt (.one ⟨(some 15), .box 97 (.tmp 14), none⟩ (
.one ⟨(some 2), .assign (.tmp 15), none⟩ (
.one ⟨(some 3), .assign (.const (.bool true)), none⟩ .leaf))) (
.nil)))) (
.nil))) (
.nil))) (
.alt (.one ⟨(some 12), .call ⟨.value (.func 42), #[], #[]⟩, none⟩ (
.alt (.one ⟨(some 9), .makeMap 86 none, none⟩ (
.alt (.one ⟨(some 13), .call ⟨.value (.func 43), #[], #[]⟩, none⟩ (
.one ⟨(some 14), .build 97 #[(0, (.tmp 7)), (1, (.tmp 8)), (3, (.tmp 9)), (4, (.tmp 10)), (5, (.tmp 11)), (6, (.tmp 12)), (7, (.tmp 13))], none⟩ (
.alt (.one ⟨(some 15), .box 97 (.tmp 14), none⟩ (
.one ⟨(some 2), .assign (.tmp 15), none⟩ (
.one ⟨(some 3), .assign (.const (.bool true)), none⟩ .leaf))) (
.nil)))) (
.nil))) (
.alt (.one ⟨(some 13), .call ⟨.value (.func 43), #[], #[]⟩, none⟩ (
.alt (.one ⟨(some 9), .makeMap 86 none, none⟩ (
.one ⟨(some 14), .build 97 #[(0, (.tmp 7)), (1, (.tmp 8)), (3, (.tmp 9)), (4, (.tmp 10)), (5, (.tmp 11)), (6, (.tmp 12)), (7, (.tmp 13))], none⟩ (
.alt (.one ⟨(some 15), .box 97 (.tmp 14), none⟩ (
.one ⟨(some 2), .assign (.tmp 15), none⟩ (
.one ⟨(some 3), .assign (.const (.bool true)), none⟩ .leaf))) (
.nil)))) (
.nil))) (
.nil)))) (
.nil)))) (
.nil)))) (
.alt (.one ⟨(some 9), .makeMap 86 none, none⟩ (
.alt (.one ⟨(some 7), .load 44 (.tmp 1), none⟩ (
.alt (.one ⟨(some 11), .call ⟨.value (.func 41), #[], #[]⟩, none⟩ (
.alt (.one ⟨(some 12), .call ⟨.value (.func 42), #[], #[]⟩, none⟩ (
.alt (.one ⟨(some 13), .call ⟨.value (.func 43), #[], #[]⟩, none⟩ (
.one ⟨(some 14), .build 97 #[(0, (.tmp 7)), (1, (.tmp 8)), (3, (.tmp 9)), (4, (.tmp 10)), (5, (.tmp 11)), (6, (.tmp 12)), (7, (.tmp 13))], none⟩ (
.alt (.one ⟨(some 15), .box 97 (.tmp 14), none⟩ (
.one ⟨(some 2), .assign (.tmp 15), none⟩ (
.one ⟨(some 3), .assign (.const (.bool true)), none⟩ .leaf))) (
.nil)))) (
.nil))) (
.nil))) (
.nil))) (
.alt (.one ⟨(some 11), .call ⟨.value (.func 41), #[], #[]⟩, none⟩ (
.alt (.one ⟨(some 7), .load 44 (.tmp 1), none⟩ (
.alt (.one ⟨(some 12), .call ⟨.value (.func 42), #[], #[]⟩, none⟩ (
.alt (.one ⟨(some 13), .call ⟨.value (.func 43), #[], #[]⟩, none⟩ (
.one ⟨(some 14), .build 97 #[(0, (.tmp 7)), (1, (.tmp 8)), (3, (.tmp 9)), (4, (.tmp 10)), (5, (.tmp 11)), (6, (.tmp 12)), (7, (.tmp 13))], none⟩ (
.alt (.one ⟨(some 15), .box 97 (.tmp 14), none⟩ (
.one ⟨(some 2), .assign (.tmp 15), none⟩ (
.one ⟨(some 3), .assign (.const (.bool true)), none⟩ .leaf))) (
.nil)))) (
.nil))) (
.nil))) (
.alt (.one ⟨(some 12), .call ⟨.value (.func 42), #[], #[]⟩, none⟩ (
.alt (.one ⟨(some 7), .load 44 (.tmp 1), none⟩ (
.alt (.one ⟨(some 13), .call ⟨.value (.func 43), #[], #[]⟩, none⟩ (
.one ⟨(some 14), .build 97 #[(0, (.tmp 7)), (1, (.tmp 8)), (3, (.tmp 9)), (4, (.tmp 10)), (5, (.tmp 11)), (6, (.tmp 12)), (7, (.tmp 13))], none⟩ (
.alt (.one ⟨(some 15), .box 97 (.tmp 14), none⟩ (
.one ⟨(some 2), .assign (.tmp 15), none⟩ (
.one ⟨(some 3), .assign (.const (.bool true)), none⟩ .leaf))) (
.nil)))) (
.nil))) (
.alt (.one ⟨(some 13), .call ⟨.value (.func 43), #[], #[]⟩, none⟩ (
.one ⟨(some 7), .load 44 (.tmp 1), none⟩ (
.one ⟨(some 14), .build 97 #[(0, (.tmp 7)), (1, (.tmp 8)), (3, (.tmp 9)), (4, (.tmp 10)), (5, (.tmp 11)), (6, (.tmp 12)), (7, (.tmp 13))], none⟩ (
.alt (.one ⟨(some 15), .box 97 (.tmp 14), none⟩ (
.one ⟨(some 2), .assign (.tmp 15), none⟩ (
.one ⟨(some 3), .assign (.const (.bool true)), none⟩ .leaf))) (
.nil))))) (
.nil)))) (
.nil)))) (
.nil)))) (
.alt (.one ⟨(some 11), .call ⟨.value (.func 41), #[], #[]⟩, none⟩ (
.alt (.one ⟨(some 7), .load 44 (.tmp 1), none⟩ (
.alt (.one ⟨(some 9), .makeMap 86 none, none⟩ (
.alt (.one ⟨(some 12), .call ⟨.value (.func 42), #[], #[]⟩, none⟩ (
.alt (.one ⟨(some 13), .call ⟨.value (.func 43), #[], #[]⟩, none⟩ (
.one ⟨(some 14), .build 97 #[(0, (.tmp 7)), (1, (.tmp 8)), (3, (.tmp 9)), (4, (.tmp 10)), (5, (.tmp 11)), (6, (.tmp 12)), (7, (.tmp 13))], none⟩ (
.alt (.one ⟨(some 15), .box 97 (.tmp 14), none⟩ (
.one ⟨(some 2), .assign (.tmp 15), none⟩ (
.one ⟨(some 3), .assign (.const (.bool true)), none⟩ .leaf))) (
.nil)))) (
.nil))) (
.nil))) (
.alt (.one ⟨(some 12), .call ⟨.value (.func 42), #[], #[]⟩, none⟩ (
.alt (.one ⟨(some 9), .makeMap 86 none, none⟩ (
.alt (.one ⟨(some 13), .call ⟨.value (.func 43), #[], #[]⟩, none⟩ (
.one ⟨(some 14), .build 97 #[(0, (.tmp 7)), (1, (.tmp 8)), (3, (.tmp 9)), (4, (.tmp 10)), (5, (.tmp 11)), (6, (.tmp 12)), (7, (.tmp 13))], none⟩ (
.alt (.one ⟨(some 15), .box 97 (.tmp 14), none⟩ (
.one ⟨(some 2), .assign (.tmp 15), none⟩ (
.one ⟨(some 3), .assign (.const (.bool true)), none⟩ .leaf))) (
.nil)))) (
.nil))) (
.alt (.one ⟨(some 13), .call ⟨.value (.func 43), #[], #[]⟩, none⟩ (
.alt (.one ⟨(some 9), .makeMap 86 none, none⟩ (
.one ⟨(some 14), .build 97 #[(0, (.tmp 7)), (1, (.tmp 8)), (3, (.tmp 9)), (4, (.tmp 10)), (5, (.tmp 11)), (6, (.tmp 12)), (7, (.tmp 13))], none⟩ (
.alt (.one ⟨(some 15), .box 97 (.tmp 14), none⟩ (
.one ⟨(some 2), .assign (.tmp 15), none⟩ (
.one ⟨(some 3), .assign (.const (.bool true)), none⟩ .leaf))) (
.nil)))) (
.nil))) (
.nil)))) (
.nil)))) (
.alt (.one ⟨(some 9), .makeMap 86 none, none⟩ (
.alt (.one ⟨(some 7), .load 44 (.tmp 1), none⟩ (
.alt (.one ⟨(some 12), .call ⟨.value (.func 42), #[], #[]⟩, none⟩ (
.alt (.one ⟨(some 13), .call ⟨.value (.func 43), #[], #[]⟩, none⟩ (
.one ⟨(some 14), .build 97 #[(0, (.tmp 7)), (1, (.tmp 8)), (3, (.tmp 9)), (4, (.tmp 10)), (5, (.tmp 11)), (6, (.tmp 12)), (7, (.tmp 13))], none⟩ (
.alt (.one ⟨(some 15), .box 97 (.tmp 14), none⟩ (
.one ⟨(some 2), .assign (.tmp 15), none⟩ (
.one ⟨(some 3), .assign (.const (.bool true)), none⟩ .leaf))) (
.nil)))) (
.nil))) (
.nil))) (
.alt (.one ⟨(some 12), .call ⟨.value (.func 42), #[], #[]⟩, none⟩ (
.alt (.one ⟨(some 7), .load 44 (.tmp 1), none⟩ (
.alt (.one ⟨(some 13), .call ⟨.value (.func 43), #[], #[]⟩, none⟩ (
.one ⟨(some 14), .build 97 #[(0, (.tmp 7)), (1, (.tmp 8)), (3, (.tmp 9)), (4, (.tmp 10)), (5, (.tmp 11)), (6, (.tmp 12)), (7, (.tmp 13))], none⟩ (
.alt (.one ⟨(some 15), .box 97 (.tmp 14), none⟩ (
.one ⟨(some 2), .assign (.tmp 15), none⟩ (
.one ⟨(some 3), .assign (.const (.bool true)), none⟩ .leaf))) (
.nil)))) (
.nil))) (
.alt (.one ⟨(some 13), .call ⟨.value (.func 43), #[], #[]⟩, none⟩ (
.one ⟨(some 7), .load 44 (.tmp 1), none⟩ (
.one ⟨(some 14), .build 97 #[(0, (.tmp 7)), (1, (.tmp 8)), (3, (.tmp 9)), (4, (.tmp 10)), (5, (.tmp 11)), (6, (.tmp 12)), (7, (.tmp 13))], none⟩ (
.alt (.one ⟨(some 15), .box 97 (.tmp 14), none⟩ (
.one ⟨(some 2), .assign (.tmp 15), none⟩ (
.one ⟨(some 3), .assign (.const (.bool true)), none⟩ .leaf))) (
.nil))))) (
.nil)))) (
.nil)))) (
.alt (.one ⟨(some 12), .call ⟨.value (.func 42), #[], #[]⟩, none⟩ (
.alt (.one ⟨(some 7), .load 44 (.tmp 1), none⟩ (
.alt (.one ⟨(some 9), .makeMap 86 none, none⟩ (
.alt (.one ⟨(some 13), .call ⟨.value (.func 43), #[], #[]⟩, none⟩ (
.one ⟨(some 14), .build 97 #[(0, (.tmp 7)), (1, (.tmp 8)), (3, (.tmp 9)), (4, (.tmp 10)), (5, (.tmp 11)), (6, (.tmp 12)), (7, (.tmp 13))], none⟩ (
.alt (.one ⟨(some 15), .box 97 (.tmp 14), none⟩ (
.one ⟨(some 2), .assign (.tmp 15), none⟩ (
.one ⟨(some 3), .assign (.const (.bool true)), none⟩ .leaf))) (
.nil)))) (
.nil))) (
.alt (.one ⟨(some 13), .call ⟨.value (.func 43), #[], #[]⟩, none⟩ (
.alt (.one ⟨(some 9), .makeMap 86 none, none⟩ (
.one ⟨(some 14), .build 97 #[(0, (.tmp 7)), (1, (.tmp 8)), (3, (.tmp 9)), (4, (.tmp 10)), (5, (.tmp 11)), (6, (.tmp 12)), (7, (.tmp 13))], none⟩ (
.alt (.one ⟨(some 15), .box 97 (.tmp 14), none⟩ (
.one ⟨(some 2), .assign (.tmp 15), none⟩ (
.one ⟨(some 3), .assign (.const (.bool true)), none⟩ .leaf))) (
.nil)))) (
.nil))) (
.nil)))) (
.alt (.one ⟨(some 9), .makeMap 86 none, none⟩ (
.alt (.one ⟨(some 7), .load 44 (.tmp 1), none⟩ (
.alt (.one ⟨(some 13), .call ⟨.value (.func 43), #[], #[]⟩, none⟩ (
.one ⟨(some 14), .build 97 #[(0, (.tmp 7)), (1, (.tmp 8)), (3, (.tmp 9)), (4, (.tmp 10)), (5, (.tmp 11)), (6, (.tmp 12)), (7, (.tmp 13))], none⟩ (
.alt (.one ⟨(some 15), .box 97 (.tmp 14), none⟩ (
.one ⟨(some 2), .assign (.tmp 15), none⟩ (
.one ⟨(some 3), .assign (.const (.bool true)), none⟩ .leaf))) (
.nil)))) (
.nil))) (
.alt (.one ⟨(some 13), .call ⟨.value (.func 43), #[], #[]⟩, none⟩ (
.one ⟨(some 7), .load 44 (.tmp 1), none⟩ (
.one ⟨(some 14), .build 97 #[(0, (.tmp 7)), (1, (.tmp 8)), (3, (.tmp 9)), (4, (.tmp 10)), (5, (.tmp 11)), (6, (.tmp 12)), (7, (.tmp 13))], none⟩ (
.alt (.one ⟨(some 15), .box 97 (.tmp 14), none⟩ (
.one ⟨(some 2), .assign (.tmp 15), none⟩ (
.one ⟨(some 3), .assign (.const (.bool true)), none⟩ .leaf))) (
.nil))))) (
.nil)))) (
.alt (.one ⟨(some 13), .call ⟨.value (.func 43), #[], #[]⟩, none⟩ (
.one ⟨(some 7), .load 44 (.tmp 1), none⟩ (
.alt (.one ⟨(some 9), .makeMap 86 none, none⟩ (
.one ⟨(some 14), .build 97 #[(0, (.tmp 7)), (1, (.tmp 8)), (3, (.tmp 9)), (4, (.tmp 10)), (5, (.tmp 11)), (6, (.tmp 12)), (7, (.tmp 13))], none⟩ (
.alt (.one ⟨(some 15), .box 97 (.tmp 14), none⟩ (
.one ⟨(some 2), .assign (.tmp 15), none⟩ (
.one ⟨(some 3), .assign (.const (.bool true)), none⟩ .leaf))) (
.nil)))) (
.nil)))) (
.nil))))) (
.nil))))) (
.nil))))) (
.nil))))) (
.alt (.one ⟨(some 9), .makeMap 86 none, none⟩ (
.alt (.one ⟨(some 7), .load 44 (.tmp 1), none⟩ (
.alt (.one ⟨(some 8), .call ⟨.value (.func 39), #[], #[]⟩, none⟩ (
.alt (.one ⟨(some 10), .call ⟨.value (.func 40), #[], #[]⟩, none⟩ (
.alt (.one ⟨(some 11), .call ⟨.value (.func 41), #[], #[]⟩, none⟩ (
.alt (.one ⟨(some 12), .call ⟨.value (.func 42), #[], #[]⟩, none⟩ (
.alt (.one ⟨(some 13), .call ⟨.value (.func 43), #[], #[]⟩, none⟩ (
.one ⟨(some 14), .build 97 #[(0, (.tmp 7)), (1, (.tmp 8)), (3, (.tmp 9)), (4, (.tmp 10)), (5, (.tmp 11)), (6, (.tmp 12)), (7, (.tmp 13))], none⟩ (
.alt (.one ⟨(some 15), .box 97 (.tmp 14), none⟩ (
.one ⟨(some 2), .assign (.tmp 15), none⟩ (
.one ⟨(some 3), .assign (.const (.bool true)), none⟩ .leaf))) (
.nil)))) (
.nil))) (
.nil))) (
.nil))) (
.nil))) (
.nil))) (
.alt (.one ⟨(some 8), .call ⟨.value (.func 39), #[], #[]⟩, none⟩ (
.alt (.one ⟨(some 7), .load 44 (.tmp 1), none⟩ (
.alt (.one ⟨(some 10), .call ⟨.value (.func 40), #[], #[]⟩, none⟩ (
.alt (.one ⟨(some 11), .call ⟨.value (.func 41), #[], #[]⟩, none⟩ (
.alt (.one ⟨(some 12), .call ⟨.value (.func 42), #[], #[]⟩, none⟩ (
.alt (.one ⟨(some 13), .call ⟨.value (.func 43), #[], #[]⟩, none⟩ (
.one ⟨(some 14), .build 97 #[(0, (.tmp 7)), (1, (.tmp 8)), (3, (.tmp 9)), (4, (.tmp 10)), (5, (.tmp 11)), (6, (.tmp 12)), (7, (.tmp 13))], none⟩ (
.alt (.one ⟨(some 15), .box 97 (.tmp 14), none⟩ (
.one ⟨(some 2), .assign (.tmp 15), none⟩ (
.one ⟨(some 3), .assign (.const (.bool true)), none⟩ .leaf))) (
.nil)))) (
.nil))) (
.nil))) (
.nil))) (
.nil))) (
.alt (.one ⟨(some 10), .call ⟨.value (.func 40), #[], #[]⟩, none⟩ (
.alt (.one ⟨(some 7), .load 44 (.tmp 1), none⟩ (
.alt (.one ⟨(some 11), .call ⟨.value (.func 41), #[], #[]⟩, none⟩ (
.alt (.one ⟨(some 12), .call ⟨.value (.func 42), #[], #[]⟩, none⟩ (
.alt (.one ⟨(some 13), .call ⟨.value (.func 43), #[], #[]⟩, none⟩ (
.one ⟨(some 14), .build 97 #[(0, (.tmp 7)), (1, (.tmp 8)), (3, (.tmp 9)), (4, (.tmp 10)), (5, (.tmp 11)), (6, (.tmp 12)), (7, (.tmp 13))], none⟩ (
.alt (.one ⟨(some 15), .box 97 (.tmp 14), none⟩ (
.one ⟨(some 2), .assign (.tmp 15), none⟩ (
.one ⟨(some 3), .assign (.const (.bool true)), none⟩ .leaf))) (
.nil)))) (
.nil))) (
.nil))) (
.nil))) (
.alt (.one ⟨(some 11), .call ⟨.value (.func 41), #[], #[]⟩, none⟩ (
.alt (.one ⟨(some 7), .load 44 (.tmp 1), none⟩ (
.alt (.one ⟨(some 12), .call ⟨.value (.func 42), #[], #[]⟩, none⟩ (
.alt (.one ⟨(some 13), .call ⟨.value (.func 43), #[], #[]⟩, none⟩ (
.one ⟨(some 14), .build 97 #[(0, (.tmp 7)), (1, (.tmp 8)), (3, (.tmp 9)), (4, (.tmp 10)), (5, (.tmp 11)), (6, (.tmp 12)), (7, (.tmp 13))], none⟩ (
.alt (.one ⟨(some 15), .box 97 (.tmp 14), none⟩ (
.one ⟨(some 2), .assign (.tmp 15), none⟩ (
.one ⟨(some 3), .assign (.const (.bool true)), none⟩ .leaf))) (
.nil)))) (
.nil))) (
.nil))) (
.alt (.one ⟨(some 12), .call ⟨.value (.func 42), #[], #[]⟩, none⟩ (
.alt (.one ⟨(some 7), .load 44 (.tmp 1), none⟩ (
.alt (.one ⟨(some 13), .call ⟨.value (.func 43), #[], #[]⟩, none⟩ (
.one ⟨(some 14), .build 97 #[(0, (.tmp 7)), (1, (.tmp 8)), (3, (.tmp 9)), (4, (.tmp 10)), (5, (.tmp 11)), (6, (.tmp 12)), (7, (.tmp 13))], none⟩ (
.alt (.one ⟨(some 15), .box 97 (.tmp 14), none⟩ (
.one ⟨(some 2), .assign (.tmp 15), none⟩ (
.one ⟨(some 3), .assign (.const (.bool true)), none⟩ .leaf))) (
.nil)))) (
.nil))) (
.alt (.one ⟨(some 13), .call ⟨.value (.func 43), #[], #[]⟩, none⟩ (
.one ⟨(some 7), .load 44 (.tmp 1), none⟩ (
.one ⟨(some 14), .build 97 #[(0, (.tmp 7)), (1, (.tmp 8)), (3, (.tmp 9)), (4, (.tmp 10)), (5, (.tmp 11)), (6, (.tmp 12)), (7, (.tmp 13))], none⟩ (
.alt (.one ⟨(some 15), .box 97 (.tmp 14), none⟩ (
.one ⟨(some 2), .assign (.tmp 15), none⟩ (
.one ⟨(some 3), .assign (.const (.bool true)), none⟩ .leaf))) (
.nil))))) (
.nil)))) (
.nil)))) (
.nil)))) (
.nil)))) (
.nil)))) (
.nil))))) (
.ret)))
theorem ok25 : Tryz.f25.body.bind (comp Tryz.prog 16) = some sc25 := by kernel_rfl
theorem rc25 : Tryz.f25.results.toList = ([(2, none), (3, none)] : List (Nat × Option TypeId)).map toRV := by kernel_rfl
def fi25 : Fi := ⟨sc25, 16, [(2, none), (3, none)], false, none, false⟩
theorem fo25 : FnOk Tryz.prog 25 fi25 := ⟨Tryz.f25, Tryz.func25, Tryz.ntmps25, ok25, rc25, fun _ _ _ h => (by cases h), Tryz.call25⟩
/-- girandole/receiver.New -/
def sc26 : SC := .seq (.region [] (.one ⟨(some 1), .box 44 (.tmp 0), none⟩ (
.one ⟨(some 2), .assign (.const (.pointer none)), none⟩ (
.one ⟨(some 3), .assign (.const (.bool false)), none⟩ .leaf)))) (
.seq (.seq (.region [] (.one ⟨(some 6), .load 44 (.tmp 1), none⟩ (
.one ⟨(some 7), .call ⟨.value (.func 38), #[(.tmp 6)], #[44]⟩, none⟩ (
.one ⟨(some 8), .unOp .not 4 (.tmp 7), none⟩ .leaf)))) (
.cond (.tmp 8) (.seq (.region [] (.one ⟨(some 2), .assign (.const (.pointer none)), none⟩ (
.one ⟨(some 3), .assign (.const (.bool false)), none⟩ .leaf))) (
.ret)) (
.skip))) (
.seq (.region [10, 11, 12, 13, 14, 15, 16, 17, 9, 18, 19, 4, 5] (.one ⟨(some 11), .fieldAddr 44 (.tmp 1) 2, none⟩ (
.one ⟨(some 13), .fieldAddr 44 (.tmp 1) 3, none⟩ (
.one ⟨(some 15), .fieldAddr 44 (.tmp 1) 0, none⟩ (
.alt (.one ⟨(some 10), .call ⟨.value (.func 39), #[], #[]⟩, none⟩ (
.one ⟨(some 12), .load 3 (.tmp 11), none⟩ (
.one ⟨(some 14), .load 3 (.tmp 13), none⟩ (
.one ⟨(some 16), .load 3 (.tmp 15), none⟩ (
.alt (.one ⟨(some 17), .call ⟨.value (.func 44), #[(.tmp 10), (.tmp 12), (.tmp 14), (.tmp 16)], #[84, 3, 3, 3]⟩, none⟩ (
.one ⟨(some 9), .move (.tmp 17), none⟩ (
.one ⟨(some 18), .extract (.tmp 9) 0, none⟩ (
.one ⟨(some 19), .extract (.tmp 9) 1, none⟩ (
.one ⟨(some 4), .assign (.tmp 18), none⟩ (
.one ⟨(some 5), .assign (.tmp 19), none⟩ .leaf)))))) (
.nil)))))) (
.alt (.one ⟨(some 12), .load 3 (.tmp 11), none⟩ (
.alt (.one ⟨(some 10), .call ⟨.value (.func 39), #[], #[]⟩, none⟩ (
.one ⟨(some 14), .load 3 (.tmp 13), none⟩ (
.one ⟨(some 16), .load 3 (.tmp 15), none⟩ (
.alt (.one ⟨(some 17), .call ⟨.value (.func 44), #[(.tmp 10), (.tmp 12), (.tmp 14), (.tmp 16)], #[84, 3, 3, 3]⟩, none⟩ (
.one ⟨(some 9), .move (.tmp 17), none⟩ (
.one ⟨(some 18), .extract (.tmp 9) 0, none⟩ (
.one ⟨(some 19), .extract (.tmp 9) 1, none⟩ (
.one ⟨(some 4), .assign (.tmp 18), none⟩ (
.one ⟨(some 5), .assign (.tmp 19), none⟩ .leaf)))))) (
.nil))))) (
.alt (.one ⟨(some 14), .load 3 (.tmp 13), none⟩ (
.alt (.one ⟨(some 10), .call ⟨.value (.func 39), #[], #[]⟩, none⟩ (
.one ⟨(some 16), .load 3 (.tmp 15), none⟩ (
.alt (.one ⟨(some 17), .call ⟨.value (.func 44), #[(.tmp 10), (.tmp 12), (.tmp 14), (.tmp 16)], #[84, 3, 3, 3]⟩, none⟩ (
.one ⟨(some 9), .move (.tmp 17), none⟩ (
.one ⟨(some 18), .extract (.tmp 9) 0, none⟩ (
.one ⟨(some 19), .extract (.tmp 9) 1, none⟩ (
.one ⟨(some 4), .assign (.tmp 18), none⟩ (
.one ⟨(some 5), .assign (.tmp 19), none⟩ .leaf)))))) (
.nil)))) (
.alt (.one ⟨(some 16), .load 3 (.tmp 15), none⟩ (
.alt (.one ⟨(some 10), .call ⟨.value (.func 39), #[], #[]⟩, none⟩ (
.alt (.one ⟨(some 17), .call ⟨.value (.func 44), #[(.tmp 10), (.tmp 12), (.tmp 14), (.tmp 16)], #[84, 3, 3, 3]⟩, none⟩ (
.one ⟨(some 9), .move (.tmp 17), none⟩ (
.one ⟨(some 18), .extract (.tmp 9) 0, none⟩ (
.one ⟨(some 19), .extract (.tmp 9) 1, none⟩ (
.one ⟨(some 4), .assign (.tmp 18), none⟩ (
.one ⟨(some 5), .assign (.tmp 19), none⟩ .leaf)))))) (
.nil))) (
.nil))) (
.nil)))) (
.alt (.one ⟨(some 16), .load 3 (.tmp 15), none⟩ (
.alt (.one ⟨(some 10), .call ⟨.value (.func 39), #[], #[]⟩, none⟩ (
.one ⟨(some 14), .load 3 (.tmp 13), none⟩ (
.alt (.one ⟨(some 17), .call ⟨.value (.func 44), #[(.tmp 10), (.tmp 12), (.tmp 14), (.tmp 16)], #[84, 3, 3, 3]⟩, none⟩ (
.one ⟨(some 9), .move (.tmp 17), none⟩ (
.one ⟨(some 18), .extract (.tmp 9) 0, none⟩ (
.one ⟨(some 19), .extract (.tmp 9) 1, none⟩ (
.one ⟨(some 4), .assign (.tmp 18), none⟩ (
.one ⟨(some 5), .assign (.tmp 19), none⟩ .leaf)))))) (
.nil)))) (
.alt (.one ⟨(some 14), .load 3 (.tmp 13), none⟩ (
.alt (.one ⟨(some 10), .call ⟨.value (.func 39), #[], #[]⟩, none⟩ (
.alt (.one ⟨(some 17), .call ⟨.value (.func 44), #[(.tmp 10), (.tmp 12), (.tmp 14), (.tmp 16)], #[84, 3, 3, 3]⟩, none⟩ (
.one ⟨(some 9), .move (.tmp 17), none⟩ (
.one ⟨(some 18), .extract (.tmp 9) 0, none⟩ (
.one ⟨(some 19), .extract (.tmp 9) 1, none⟩ (
.one ⟨(some 4), .assign (.tmp 18), none⟩ (
.one ⟨(some 5), .assign (.tmp 19), none⟩ .leaf)))))) (
.nil))) (
.nil))) (
.nil)))) (
.nil))))) (
.alt (.one ⟨(some 14), .load 3 (.tmp 13), none⟩ (
.alt (.one ⟨(some 10), .call ⟨.value (.func 39), #[], #[]⟩, none⟩ (
.one ⟨(some 12), .load 3 (.tmp 11), none⟩ (
.one ⟨(some 16), .load 3 (.tmp 15), none⟩ (
.alt (.one ⟨(some 17), .call ⟨.value (.func 44), #[(.tmp 10), (.tmp 12), (.tmp 14), (.tmp 16)], #[84, 3, 3, 3]⟩, none⟩ (
.one ⟨(some 9), .move (.tmp 17), none⟩ (
.one ⟨(some 18), .extract (.tmp 9) 0, none⟩ (
.one ⟨(some 19), .extract (.tmp 9) 1, none⟩ (
.one ⟨(some 4), .assign (.tmp 18), none⟩ (
.one ⟨(some 5), .assign (.tmp 19), none⟩ .leaf)))))) (
.nil))))) (
.alt (.one ⟨(some 12), .load 3 (.tmp 11), none⟩ (
.alt (.one ⟨(some 10), .call ⟨.value (.func 39), #[], #[]⟩, none⟩ (
.one ⟨(some 16), .load 3 (.tmp 15), none⟩ (
.alt (.one ⟨(some 17), .call ⟨.value (.func 44), #[(.tmp 10), (.tmp 12), (.tmp 14), (.tmp 16)], #[84, 3, 3, 3]⟩, none⟩ (
.one ⟨(some 9), .move (.tmp 17), none⟩ (
.one ⟨(some 18), .extract (.tmp 9) 0, none⟩ (
.one ⟨(some 19), .extract (.tmp 9) 1, none⟩ (
.one ⟨(some 4), .assign (.tmp 18), none⟩ (
.one ⟨(some 5), .assign (.tmp 19), none⟩ .leaf)))))) (
.nil)))) (
.alt (.one ⟨(some 16), .load 3 (.tmp 15), none⟩ (
.alt (.one ⟨(some 10), .call ⟨.value (.func 39), #[], #[]⟩, none⟩ (
.alt (.one ⟨(some 17), .call ⟨.value (.func 44), #[(.tmp 10), (.tmp 12), (.tmp 14), (.tmp 16)], #[84, 3, 3, 3]⟩, none⟩ (
.one ⟨(some 9), .move (.tmp 17), none⟩ (
.one ⟨(some 18), .extract (.tmp 9) 0, none⟩ (
.one ⟨(some 19), .extract (.tmp 9) 1, none⟩ (
.one ⟨(some 4), .assign (.tmp 18), none⟩ (
.one ⟨(some 5), .assign (.tmp 19), none⟩ .leaf)))))) (
.nil))) (
.nil))) (
.nil)))) (
.alt (.one ⟨(some 16), .load 3 (.tmp 15), none⟩ (
.alt (.one ⟨(some 10), .call ⟨.value (.func 39), #[], #[]⟩, none⟩ (
.one ⟨(some 12), .load 3 (.tmp 11), none⟩ (
.alt (.one ⟨(some 17), .call ⟨.value (.func 44), #[(.tmp 10), (.tmp 12), (.tmp 14), (.tmp 16)], #[84, 3, 3, 3]⟩, none⟩ (
.one ⟨(some 9), .move (.tmp 17), none⟩ (
.one ⟨(some 18), .extract (.tmp 9) 0, none⟩ (
.one ⟨(some 19), .extract (.tmp 9) 1, none⟩ (
.one ⟨(some 4), .assign (.tmp 18), none⟩ (
.one ⟨(some 5), .assign (.tmp 19), none⟩ .leaf)))))) (
.nil)))) (
.alt (.one ⟨(some 12), .load 3 (.tmp 11), none⟩ (
.alt (.one ⟨(some 10), .call ⟨.value (.func 39), #[], #[]⟩, none⟩ (
.alt (.one ⟨(some 17), .call ⟨.value (.func 44), #[(.tmp 10), (.tmp 12), (.tmp 14), (.tmp 16)], #[84, 3, 3, 3]⟩, none⟩ (
.one ⟨(some 9), .move (.tmp 17), none⟩ (
.one ⟨(some 18), .extract (.tmp 9) 0, none⟩ (
.one ⟨(some 19), .extract (.tmp 9) 1, none⟩ (
.one ⟨(some 4), .assign (.tmp 18), none⟩ (
.one ⟨(some 5), .assign (.tmp 19), none⟩ .leaf)))))) (
.nil))) (
.nil))) (
.nil)))) (
.nil))))) (
.alt (.one ⟨(some 16), .load 3 (.tmp 15), none⟩ (
.alt (.one ⟨(some 10), .call ⟨.value (.func 39), #[], #[]⟩, none⟩ (
.one ⟨(some 12), .load 3 (.tmp 11), none⟩ (
.one ⟨(some 14), .load 3 (.tmp 13), none⟩ (
.alt (.one ⟨(some 17), .call ⟨.value (.func 44), #[(.tmp 10), (.tmp 12), (.tmp 14), (.tmp 16)], #[84, 3, 3, 3]⟩, none⟩ (
.one ⟨(some 9), .move (.tmp 17), none⟩ (
.one ⟨(some 18), .extract (.tmp 9) 0, none⟩ (
.one ⟨(some 19), .extract (.tmp 9) 1, none⟩ (
.one ⟨(some 4), .assign (.tmp 18), none⟩ (
.one ⟨(some 5), .assign (.tmp 19), none⟩ .leaf)))))) (
.nil))))) (
.alt (.one ⟨(some 12), .load 3 (.tmp 11), none⟩ (
.alt (.one ⟨(some 10), .call ⟨.value (.func 39), #[], #[]⟩, none⟩ (
.one ⟨(some 14), .load 3 (.tmp 13), none⟩ (
.alt (.one ⟨(some 17), .call ⟨.value (.func 44), #[(.tmp 10), (.tmp 12), (.tmp 14), (.tmp 16)], #[84, 3, 3, 3]⟩, none⟩ (
.one ⟨(some 9), .move (.tmp 17), none⟩ (
.one ⟨(some 18), .extract (.tmp 9) 0, none⟩ (
.one ⟨(some 19), .extract (.tmp 9) 1, none⟩ (
.one ⟨(some 4), .assign (.tmp 18), none⟩ (
.one ⟨(some 5), .assign (.tmp 19), none⟩ .leaf)))))) (
.nil)))) (
.alt (.one ⟨(some 14), .load 3 (.tmp 13), none⟩ (
.alt (.one ⟨(some 10), .call ⟨.value (.func 39), #[], #[]⟩, none⟩ (
.alt (.one ⟨(some 17), .call ⟨.value (.func 44), #[(.tmp 10), (.tmp 12), (.tmp 14), (.tmp 16)], #[84, 3, 3, 3]⟩, none⟩ (
.one ⟨(some 9), .move (.tmp 17), none⟩ (
.one ⟨(some 18), .extract (.tmp 9) 0, none⟩ (
.one ⟨(some 19), .extract (.tmp 9) 1, none⟩ (
.one ⟨(some 4), .assign (.tmp 18), none⟩ (
.one ⟨(some 5), .assign (.tmp 19), none⟩ .leaf)))))) (
.nil))) (
.nil))) (
.nil)))) (
.alt (.one ⟨(some 14), .load 3 (.tmp 13), none⟩ (
.alt (.one ⟨(some 10), .call ⟨.value (.func 39), #[], #[]⟩, none⟩ (
.one ⟨(some 12), .load 3 (.tmp 11), none⟩ (
.alt (.one ⟨(some 17), .call ⟨.value (.func 44), #[(.tmp 10), (.tmp 12), (.tmp 14), (.tmp 16)], #[84, 3, 3, 3]⟩, none⟩ (
.one ⟨(some 9), .move (.tmp 17), none⟩ (
.one ⟨(some 18), .extract (.tmp 9) 0, none⟩ (
.one ⟨(some 19), .extract (.tmp 9) 1, none⟩ (
.one ⟨(some 4), .assign (.tmp 18), none⟩ (
.one ⟨(some 5), .assign (.tmp 19), none⟩ .leaf)))))) (
.nil)))) (
.alt (.one ⟨(some 12), .load 3 (.tmp 11), none⟩ (
.alt (.one ⟨(some 10), .call ⟨.value (.func 39), #[], #[]⟩, none⟩ (
.alt (.one ⟨(some 17), .call ⟨.value (.func 44), #[(.tmp 10), (.tmp 12), (.tmp 14), (.tmp 16)], #[84, 3, 3, 3]⟩, none⟩ (
.one ⟨(some 9), .move (.tmp 17), none⟩ (
.one ⟨(some 18), .extract (.tmp 9) 0, none⟩ (
.one ⟨(some 19), .extract (.tmp 9) 1, none⟩ (
.one ⟨(some 4), .assign (.tmp 18), none⟩ (
.one ⟨(some 5), .assign (.tmp 19), none⟩ .leaf)))))) (
.nil))) (
.nil))) (
.nil)))) (
.nil))))) (
.nil))))))))) (
.seq (.seq (.region [] (.one ⟨(some 20), .move (.tmp 5), none⟩ (
.one ⟨(some 21), .unOp .not 4 (.tmp 20), none⟩ .leaf))) (
.cond (.tmp 21) (.seq (.region [] (.one ⟨(some 2), .assign (.const (.pointer none)), none⟩ (
.one ⟨(some 3), .assign (.const (.bool false)), none⟩ .leaf))) (
.ret)) (
.skip))) (
.seq (.region [22, 23, 24, 25, 26, 27, 28, 2, 3] (.one ⟨(some 23), .move (.tmp 4), none⟩ (
.alt (.one ⟨(some 22), .load 44 (.tmp 1), none⟩ (
.alt (.one ⟨(some 24), .call ⟨.value (.func 45), #[], #[]⟩, none⟩ (
.alt (.one ⟨(some 25), .call ⟨.value (.func 46), #[], #[]⟩, none⟩ (
.alt (.one ⟨(some 26), .call ⟨.value (.func 47), #[], #[]⟩, none⟩ (
.one ⟨(some 27), .build 108 #[(0, (.tmp 22)), (1, (.tmp 23)), (2, (.tmp 24)), (3, (.tmp 25)), (4, (.tmp 26))], none⟩ (
.alt (.one ⟨(some 28), .box 108 (.tmp 27), none⟩ (
.one ⟨(some 2), .assign (.tmp 28), none⟩ (
.one ⟨(some 3), .assign (.const (.bool true)), none⟩ .leaf))) (
.nil)))) (
.nil))) (
.nil))) (
.nil))) (
.alt (.one ⟨(some 24), .call ⟨.value (.func 45), #[], #[]⟩, none⟩ (
.alt (.one ⟨(some 22), .load 44 (.tmp 1), none⟩ (
.alt (.one ⟨(some 25), .call ⟨.value (.func 46), #[], #[]⟩, none⟩ (
.alt (.one ⟨(some 26), .call ⟨.value (.func 47), #[], #[]⟩, none⟩ (
.one ⟨(some 27), .build 108 #[(0, (.tmp 22)), (1, (.tmp 23)), (2, (.tmp 24)), (3, (.tmp 25)), (4, (.tmp 26))], none⟩ (
.alt (.one ⟨(some 28), .box 108 (.tmp 27), none⟩ (
.one ⟨(some 2), .assign (.tmp 28), none⟩ (
.one ⟨(some 3), .assign (.const (.bool true)), none⟩ .leaf))) (
.nil)))) (
.nil))) (
.nil))) (
.alt (.one ⟨(some 25), .call ⟨.value (.func 46), #[], #[]⟩, none⟩ (
.alt (.one ⟨(some 22), .load 44 (.tmp 1), none⟩ (
.alt (.one ⟨(some 26), .call ⟨.value (.func 47), #[], #[]⟩, none⟩ (
.one ⟨(some 27), .build 108 #[(0, (.tmp 22)), (1, (.tmp 23)), (2, (.tmp 24)), (3, (.tmp 25)), (4, (.tmp 26))], none⟩ (
.alt (.one ⟨(some 28), .box 108 (.tmp 27), none⟩ (
.one ⟨(some 2), .assign (.tmp 28), none⟩ (
.one ⟨(some 3), .assign (.const (.bool true)), none⟩ .leaf))) (
.nil)))) (
.nil))) (
.alt (.one ⟨(some 26), .call ⟨.value (.func 47), #[], #[]⟩, none⟩ (
.one ⟨(some 22), .load 44 (.tmp 1), none⟩ (
.one ⟨(some 27), .build 108 #[(0, (.tmp 22)), (1, (.tmp 23)), (2, (.tmp 24)), (3, (.tmp 25)), (4, (.tmp 26))], none⟩ (
.alt (.one ⟨(some 28), .box 108 (.tmp 27), none⟩ (
.one ⟨(some 2), .assign (.tmp 28), none⟩ (
.one ⟨(some 3), .assign (.const (.bool true)), none⟩ .leaf))) (
.nil))))) (
.nil)))) (
.nil)))) (
.nil))))) (
.ret)))))
theorem ok26 : Tryz.f26.body.bind (comp Tryz.prog 29) = some sc26 := by kernel_rfl
theorem rc26 : Tryz.f26.results.toList = ([(2, none), (3, none)] : List (Nat × Option TypeId)).map toRV := by kernel_rfl
def fi26 : Fi := ⟨sc26, 29, [(2, none), (3, none)], false, none, false⟩
theorem fo26 : FnOk Tryz.prog 26 fi26 := ⟨Tryz.f26, Tryz.func26, Tryz.ntmps26, ok26, rc26, fun _ _ _ h => (by cases h), Tryz.call26⟩
/-- girandole/net.New -/
def sc27 : SC := .seq (.region [] (.one ⟨(some 0), .assign (.const (.pointer none)), none⟩ .leaf)) (
.seq (.region [] (.one ⟨(some 1), .build 111 #[], none⟩ (
.one ⟨(some 2), .box 111 (.tmp 1), none⟩ (
.one ⟨(some 0), .assign (.tmp 2), none⟩ .leaf)))) (
.ret))
theorem ok27 : Tryz.f27.body.bind (comp Tryz.prog 3) = some sc27 := by kernel_rfl
theorem rc27 : Tryz.f27.results.toList = ([(0, none)] : List (Nat × Option TypeId)).map toRV := by kernel_rfl
def fi27 : Fi := ⟨sc27, 3, [(0, none)], false, none, true⟩
theorem fo27 : FnOk Tryz.prog 27 fi27 := ⟨Tryz.f27, Tryz.func27, Tryz.ntmps27, ok27, rc27, fun _ _ _ h => (by cases h), Tryz.call27⟩
/-- (*girandole/session.Session).tick -/
def sc29 : SC := .seq (.region [] (.one ⟨(some 3), .box 36 (.tmp 1), none⟩ (
.one ⟨(some 4), .alloc 57, none⟩ .leaf))) (
.seq (.region [] (.one ⟨(some 11), .move (.tmp 0), none⟩ (
.one ⟨(some 12), .move (.tmp 0), none⟩ (
.one ⟨(some 13), .nilCheck (.tmp 12), none⟩ (
.one ⟨(some 14), .fieldAddr 75 (.tmp 13) 5, none⟩ (
.one ⟨(some 15), .load 2 (.tmp 14), none⟩ (
.one ⟨(some 16), .binOp .add 2 (.tmp 15) (.const (.int .i64 1)) 2, none⟩ (
.one ⟨(some 17), .call ⟨.builtin .min, #[(.tmp 16), (.const (.int .i64 1099511627776))], #[2, 2]⟩, none⟩ (
.one ⟨(some 18), .nilCheck (.tmp 11), none⟩ (
.one ⟨(some 19), .fieldAddr 75 (.tmp 18) 5, none⟩ (
.one ⟨none, .store 2 (.tmp 19) (.tmp 17), none⟩ .leaf))))))))))) (
.seq (.seq (.region [20, 21, 22, 23, 24, 25, 26, 27, 28, 29, 30] (.one ⟨(some 20), .move (.tmp 0), none⟩ (
.one ⟨(some 21), .nilCheck (.tmp 20), none⟩ (
.one ⟨(some 22), .fieldAddr 75 (.tmp 21) 1, none⟩ (
.one ⟨(some 23), .load 63 (.tmp 22), none⟩ (
.one ⟨(some 24), .move (.tmp 0), none⟩ (
.one ⟨(some 25), .nilCheck (.tmp 24), none⟩ (
.one ⟨(some 26), .fieldAddr 75 (.tmp 25) 5, none⟩ (
.one ⟨(some 27), .load 2 (.tmp 26), none⟩ (
.one ⟨(some 30), .move (.const (.int .i64 0)), none⟩ (
.alt (.one ⟨(some 28), .call ⟨.value (.func 50), #[(.tmp 23), (.tmp 27)], #[63, 2]⟩, none⟩ (
.one ⟨(some 29), .call ⟨.builtin .len, #[(.tmp 28)], #[109]⟩, none⟩ .leaf)) (
.nil)))))))))))) (
.block 0 (.loop (.seq (.region [] (.one ⟨(some 31), .binOp .lss 3 (.tmp 30) (.tmp 29) 3, none⟩ .leaf)) (
.seq (.cond (.tmp 31) (.skip) (
.exit 0)) (
.seq (.block 1 (.seq (.region [] (.one ⟨(some 32), .indexAddr 109 (.tmp 28) (.tmp 30), none⟩ (
.one ⟨(some 33), .load 22 (.tmp 32), none⟩ (
.one ⟨(some 6), .assign (.tmp 33), none⟩ .leaf)))) (
.seq (.region [] (.one ⟨(some 34), .move (.tmp 0), none⟩ (
.one ⟨(some 35), .move (.tmp 6), none⟩ (
.one ⟨(some 36), .call ⟨.value (.func 51), #[(.tmp 34), (.tmp 35)], #[39, 22]⟩, none⟩ .leaf)))) (
.region [] (.one ⟨(some 37), .move (.tmp 0), none⟩ (
.one ⟨(some 38), .nilCheck (.tmp 37), none⟩ (
.one ⟨(some 39), .fieldAddr 75 (.tmp 38) 3, none⟩ (
.one ⟨(some 40), .load 69 (.tmp 39), none⟩ (
.one ⟨(some 41), .move (.tmp 6), none⟩ (
.one ⟨(some 42), .call ⟨.value (.func 52), #[(.tmp 40), (.tmp 41)], #[69, 22]⟩, none⟩ .leaf)))))))))) (
.region [] (.one ⟨(some 43), .binOp .add 3 (.tmp 30) (.const (.int .i64 1)) 3, none⟩ (
.one ⟨(some 30), .move (.tmp 43), none⟩ .leaf))))))))) (
.seq (.region [45, 46, 47, 48, 49, 50, 51, 52, 53, 44, 54, 55, 7, 8] (.one ⟨(some 45), .move (.tmp 0), none⟩ (
.one ⟨(some 46), .nilCheck (.tmp 45), none⟩ (
.one ⟨(some 47), .fieldAddr 75 (.tmp 46) 2, none⟩ (
.one ⟨(some 48), .load 66 (.tmp 47), none⟩ (
.one ⟨(some 49), .move (.tmp 0), none⟩ (
.one ⟨(some 50), .nilCheck (.tmp 49), none⟩ (
.one ⟨(some 51), .fieldAddr 75 (.tmp 50) 5, none⟩ (
.one ⟨(some 52), .load 2 (.tmp 51), none⟩ (
.alt (.one ⟨(some 53), .call ⟨.value (.func 53), #[(.tmp 48), (.tmp 52)], #[66, 2]⟩, none⟩ (
.one ⟨(some 44), .move (.tmp 53), none⟩ (
.one ⟨(some 54), .extract (.tmp 44) 0, none⟩ (
.one ⟨(some 55), .extract (.tmp 44) 1, none⟩ (
.one ⟨(some 7), .assign (.tmp 54), none⟩ (
.one ⟨(some 8), .assign (.tmp 55), none⟩ .leaf)))))) (
.nil))))))))))) (
.seq (.seq (.region [] (.one ⟨(some 56), .move (.tmp 8), none⟩ (
.one ⟨(some 57), .call ⟨.builtin .len, #[(.tmp 56)], #[109]⟩, none⟩ (
.one ⟨(some 58), .move (.const (.int .i64 0)), none⟩ .leaf)))) (
.block 2 (.loop (.seq (.region [] (.one ⟨(some 59), .binOp .lss 3 (.tmp 58) (.tmp 57) 3, none⟩ .leaf)) (
.seq (.cond (.tmp 59) (.skip) (
.exit 2)) (
.seq (.block 3 (.seq (.region [] (.one ⟨(some 60), .indexAddr 109 (.tmp 56) (.tmp 58), none⟩ (
.one ⟨(some 61), .load 22 (.tmp 60), none⟩ (
.one ⟨(some 10), .assign (.tmp 61), none⟩ .leaf)))) (
.region [] (.one ⟨(some 62), .move (.tmp 0), none⟩ (
.one ⟨(some 63), .nilCheck (.tmp 62), none⟩ (
.one ⟨(some 64), .fieldAddr 75 (.tmp 63) 4, none⟩ (
.one ⟨(some 65), .load 69 (.tmp 64), none⟩ (
.one ⟨(some 66), .move (.tmp 10), none⟩ (
.one ⟨(some 67), .call ⟨.value (.func 52), #[(.tmp 65), (.tmp 66)], #[69, 22]⟩, none⟩ .leaf))))))))) (
.region [] (.one ⟨(some 68), .binOp .add 3 (.tmp 58) (.const (.int .i64 1)) 3, none⟩ (
.one ⟨(some 58), .move (.tmp 68), none⟩ .leaf))))))))) (
.seq (.region [69, 70, 71, 72, 73, 74, 75, 76, 77, 78] (.one ⟨(some 69), .move (.tmp 0), none⟩ (
.one ⟨(some 70), .move (.tmp 0), none⟩ (
.one ⟨(some 71), .nilCheck (.tmp 70), none⟩ (
.one ⟨(some 72), .fieldAddr 75 (.tmp 71) 6, none⟩ (
.one ⟨(some 74), .move (.tmp 7), none⟩ (
.alt (.one ⟨(some 73), .load 55 (.tmp 72), none⟩ (
.alt (.one ⟨(some 75), .call ⟨.value (.func 54), #[(.tmp 74)], #[55]⟩, none⟩ (
.alt (.one ⟨(some 76), .call ⟨.builtin .append, #[(.tmp 73), (.tmp 75)], #[55, 55]⟩, none⟩ (
.one ⟨(some 77), .nilCheck (.tmp 69), none⟩ (
.one ⟨(some 78), .fieldAddr 75 (.tmp 77) 6, none⟩ (
.alt (.one ⟨none, .store 55 (.tmp 78) (.tmp 76), none⟩ .leaf) (
.nil))))) (
.nil))) (
.nil))) (
.alt (.one ⟨(some 75), .call ⟨.value (.func 54), #[(.tmp 74)], #[55]⟩, none⟩ (
.one ⟨(some 73), .load 55 (.tmp 72), none⟩ (
.alt (.one ⟨(some 76), .call ⟨.builtin .append, #[(.tmp 73), (.tmp 75)], #[55, 55]⟩, none⟩ (
.one ⟨(some 77), .nilCheck (.tmp 69), none⟩ (
.one ⟨(some 78), .fieldAddr 75 (.tmp 77) 6, none⟩ (
.alt (.one ⟨none, .store 55 (.tmp 78) (.tmp 76), none⟩ .leaf) (
.nil))))) (
.nil)))) (
.nil))))))))) (
.seq (.region [] (.one ⟨(some 79), .move (.tmp 7), none⟩ (
.one ⟨(some 80), .build 57 #[(1, (.tmp 79))], none⟩ (
.one ⟨none, .store 57 (.tmp 4) (.tmp 80), none⟩ .leaf)))) (
.ret)))))))
theorem ok29 : Tryz.f29.body.bind (comp Tryz.prog 81) = some sc29 := by kernel_rfl
theorem rc29 : Tryz.f29.results.toList = ([(4, some 57)] : List (Nat × Option TypeId)).map toRV := by kernel_rfl
def fi29 : Fi := ⟨sc29, 81, [(4, some 57)], false, none, false⟩
theorem fo29 : FnOk Tryz.prog 29 fi29 := ⟨Tryz.f29, Tryz.func29, Tryz.ntmps29, ok29, rc29, fun _ _ _ h => (by cases h), Tryz.call29⟩
/-- (*girandole/play.reader).text -/
def sc36 : SC := .seq (.region [] (.one ⟨(some 4), .assign (.const (.slice none 0 0)), none⟩ .leaf)) (
.seq (.seq (.region [] (.one ⟨(some 6), .move (.tmp 0), none⟩ (
.one ⟨(some 7), .nilCheck (.tmp 6), none⟩ (
.one ⟨(some 8), .fieldAddr 47 (.tmp 7) 0, none⟩ (
.one ⟨(some 9), .load 22 (.tmp 8), none⟩ (
.one ⟨(some 10), .call ⟨.builtin .len, #[(.tmp 9)], #[22]⟩, none⟩ (
.one ⟨(some 11), .move (.tmp 1), none⟩ (
.one ⟨(some 12), .binOp .lss 3 (.tmp 10) (.tmp 11) 3, none⟩ .leaf)))))))) (
.cond (.tmp 12) (.region [] (.one ⟨(some 13), .build 129 #[], none⟩ (
.one ⟨(some 14), .makeInterface 129 (.tmp 13), none⟩ (
.one ⟨none, .panic (.tmp 14), none⟩ .leaf)))) (
.skip))) (
.seq (.region [] (.one ⟨(some 15), .move (.tmp 0), none⟩ (
.one ⟨(some 16), .nilCheck (.tmp 15), none⟩ (
.one ⟨(some 17), .fieldAddr 47 (.tmp 16) 0, none⟩ (
.one ⟨(some 18), .load 22 (.tmp 17), none⟩ (
.one ⟨(some 19), .move (.tmp 1), none⟩ (
.one ⟨(some 20), .slice 22 (.tmp 18) none (some (.tmp 19)) none, none⟩ (
.one ⟨(some 21), .call ⟨.value (.func 63), #[(.tmp 20)], #[22]⟩, none⟩ (
.one ⟨(some 5), .assign (.tmp 21), none⟩ .leaf))))))))) (
.seq (.region [] (.one ⟨(some 22), .move (.tmp 0), none⟩ (
.one ⟨(some 23), .move (.tmp 0), none⟩ (
.one ⟨(some 24), .nilCheck (.tmp 23), none⟩ (
.one ⟨(some 25), .fieldAddr 47 (.tmp 24) 0, none⟩ (
.one ⟨(some 26), .load 22 (.tmp 25), none⟩ (
.one ⟨(some 27), .move (.tmp 1), none⟩ (
.one ⟨(some 28), .slice 22 (.tmp 26) (some (.tmp 27)) none none, none⟩ (
.one ⟨(some 29), .nilCheck (.tmp 22), none⟩ (
.one ⟨(some 30), .fieldAddr 47 (.tmp 29) 0, none⟩ (
.one ⟨none, .store 22 (.tmp 30) (.tmp 28), none⟩ .leaf))))))))))) (
.seq (.region [] (.one ⟨(some 31), .move (.tmp 5), none⟩ (
.one ⟨(some 4), .assign (.tmp 31), none⟩ .leaf))) (
.ret)))))
theorem ok36 : Tryz.f36.body.bind (comp Tryz.prog 32) = some sc36 := by kernel_rfl
theorem rc36 : Tryz.f36.results.toList = ([(4, none)] : List (Nat × Option TypeId)).map toRV := by kernel_rfl
def fi36 : Fi := ⟨sc36, 32, [(4, none)], false, none, true⟩
theorem fo36 : FnOk Tryz.prog 36 fi36 := ⟨Tryz.f36, Tryz.func36, Tryz.ntmps36, ok36, rc36, fun _ _ _ h => (by cases h), Tryz.call36⟩
/-- (*girandole/play.reader).submit -/
def sc37 : SC := .seq (.region [] (.one ⟨(some 5), .move (.tmp 1), none⟩ (
.one ⟨(some 6), .move (.tmp 1), none⟩ (
.one ⟨(some 7), .move (.tmp 0), none⟩ (
.one ⟨(some 8), .call ⟨.value (.func 20), #[(.tmp 7), (.const (.int .i64 4))], #[45, 3]⟩, none⟩ (
.one ⟨(some 9), .convert 3 31 (.tmp 8), none⟩ (
.one ⟨(some 10), .move (.tmp 0), none⟩ (
.one ⟨(some 11), .call ⟨.value (.func 20), #[(.tmp 10), (.const (.int .i64 1))], #[45, 3]⟩, none⟩ (
.one ⟨(some 12), .nilCheck (.tmp 5), none⟩ (
.one ⟨(some 13), .fieldAddr 36 (.tmp 12) 1, none⟩ (
.one ⟨(some 14), .fieldAddr 34 (.tmp 13) 0, none⟩ (
.one ⟨none, .store 31 (.tmp 14) (.tmp 9), none⟩ (
.one ⟨(some 15), .nilCheck (.tmp 6), none⟩ (
.one ⟨(some 16), .fieldAddr 36 (.tmp 15) 1, none⟩ (
.one ⟨(some 17), .fieldAddr 34 (.tmp 16) 1, none⟩ (
.one ⟨none, .store 3 (.tmp 17) (.tmp 11), none⟩ .leaf)))))))))))))))) (
.seq (.seq (.region [] (.one ⟨(some 18), .move (.tmp 0), none⟩ (
.one ⟨(some 19), .call ⟨.value (.func 20), #[(.tmp 18), (.const (.int .i64 1))], #[45, 3]⟩, none⟩ (
.one ⟨(some 20), .binOp .rem 3 (.tmp 19) (.const (.int .i64 5)) 3, none⟩ (
.one ⟨(some 4), .assign (.tmp 20), none⟩ .leaf))))) (
.block 0 (.loop (.seq (.seq (.region [] (.one ⟨(some 21), .move (.tmp 4), none⟩ (
.one ⟨(some 22), .binOp .gtr 3 (.tmp 21) (.const (.int .i64 0)) 3, none⟩ .leaf))) (
.cond (.tmp 22) (.skip) (
.exit 0))) (
.seq (.block 1 (.region [25, 26, 27, 28, 29, 30, 31, 32, 33, 34, 35, 36, 37, 38] (.one ⟨(some 25), .move (.tmp 1), none⟩ (
.one ⟨(some 26), .move (.tmp 1), none⟩ (
.one ⟨(some 27), .nilCheck (.tmp 26), none⟩ (
.one ⟨(some 28), .fieldAddr 36 (.tmp 27) 1, none⟩ (
.one ⟨(some 29), .fieldAddr 34 (.tmp 28) 2, none⟩ (
.one ⟨(some 31), .move (.tmp 0), none⟩ (
.alt (.one ⟨(some 30), .load 32 (.tmp 29), none⟩ (
.alt (.one ⟨(some 32), .call ⟨.value (.func 20), #[(.tmp 31), (.const (.int .i64 4))], #[45, 3]⟩, none⟩ (
.one ⟨(some 33), .convert 3 31 (.tmp 32), none⟩ (
.alt (.one ⟨(some 34), .buildSlice 32 1 #[(0, (.tmp 33))], none⟩ (
.alt (.one ⟨(some 35), .call ⟨.builtin .append, #[(.tmp 30), (.tmp 34)], #[32, 32]⟩, none⟩ (
.one ⟨(some 36), .nilCheck (.tmp 25), none⟩ (
.one ⟨(some 37), .fieldAddr 36 (.tmp 36) 1, none⟩ (
.one ⟨(some 38), .fieldAddr 34 (.tmp 37) 2, none⟩ (
.alt (.one ⟨none, .store 32 (.tmp 38) (.tmp 35), none⟩ .leaf) (
.nil)))))) (
.nil))) (
.nil)))) (
.nil))) (
.alt (.one ⟨(some 32), .call ⟨.value (.func 20), #[(.tmp 31), (.const (.int .i64 4))], #[45, 3]⟩, none⟩ (
.one ⟨(some 30), .load 32 (.tmp 29), none⟩ (
.one ⟨(some 33), .convert 3 31 (.tmp 32), none⟩ (
.alt (.one ⟨(some 34), .buildSlice 32 1 #[(0, (.tmp 33))], none⟩ (
.alt (.one ⟨(some 35), .call ⟨.builtin .append, #[(.tmp 30), (.tmp 34)], #[32, 32]⟩, none⟩ (
.one ⟨(some 36), .nilCheck (.tmp 25), none⟩ (
.one ⟨(some 37), .fieldAddr 36 (.tmp 36) 1, none⟩ (
.one ⟨(some 38), .fieldAddr 34 (.tmp 37) 2, none⟩ (
.alt (.one ⟨none, .store 32 (.tmp 38) (.tmp 35), none⟩ .leaf) (
.nil)))))) (
.nil))) (
.nil))))) (
.nil))))))))))) (
.region [] (.one ⟨(some 23), .move (.tmp 4), none⟩ (
.one ⟨(some 24), .binOp .sub 3 (.tmp 23) (.const (.int .i64 1)) 3, none⟩ (
.one ⟨(some 4), .assign (.tmp 24), none⟩ .leaf))))))))) (
.seq (.region [] (.one ⟨(some 39), .move (.tmp 1), none⟩ (
.one ⟨(some 40), .move (.tmp 0), none⟩ (
.one ⟨(some 41), .call ⟨.value (.func 20), #[(.tmp 40), (.const (.int .i64 2))], #[45, 3]⟩, none⟩ (
.one ⟨(some 42), .nilCheck (.tmp 39), none⟩ (
.one ⟨(some 43), .fieldAddr 36 (.tmp 42) 1, none⟩ (
.one ⟨(some 44), .fieldAddr 34 (.tmp 43) 3, none⟩ (
.one ⟨none, .store 3 (.tmp 44) (.tmp 41), none⟩ .leaf)))))))) (
.seq (.region [] (.one ⟨(some 45), .move (.tmp 1), none⟩ (
.one ⟨(some 46), .move (.tmp 1), none⟩ (
.one ⟨(some 47), .move (.tmp 0), none⟩ (
.one ⟨(some 48), .call ⟨.value (.func 20), #[(.tmp 47), (.const (.int .i64 4))], #[45, 3]⟩, none⟩ (
.one ⟨(some 49), .move (.tmp 0), none⟩ (
.one ⟨(some 50), .call ⟨.value (.func 20), #[(.tmp 49), (.const (.int .i64 4))], #[45, 3]⟩, none⟩ (
.one ⟨(some 51), .nilCheck (.tmp 45), none⟩ (
.one ⟨(some 52), .fieldAddr 36 (.tmp 51) 1, none⟩ (
.one ⟨(some 53), .fieldAddr 34 (.tmp 52) 4, none⟩ (
.one ⟨none, .store 2 (.tmp 53) (.tmp 48), none⟩ (
.one ⟨(some 54), .nilCheck (.tmp 46), none⟩ (
.one ⟨(some 55), .fieldAddr 36 (.tmp 54) 1, none⟩ (
.one ⟨(some 56), .fieldAddr 34 (.tmp 55) 5, none⟩ (
.one ⟨none, .store 2 (.tmp 56) (.tmp 50), none⟩ .leaf))))))))))))))) (
.region [] (.one ⟨(some 57), .move (.tmp 1), none⟩ (
.one ⟨(some 58), .move (.tmp 0), none⟩ (
.one ⟨(some 59), .move (.tmp 0), none⟩ (
.one ⟨(some 60), .call ⟨.value (.func 20), #[(.tmp 59), (.const (.int .i64 2))], #[45, 3]⟩, none⟩ (
.one ⟨(some 61), .call ⟨.value (.func 36), #[(.tmp 58), (.tmp 60)], #[45, 3]⟩, none⟩ (
.one ⟨(some 62), .nilCheck (.tmp 57), none⟩ (
.one ⟨(some 63), .fieldAddr 36 (.tmp 62) 2, none⟩ (
.one ⟨none, .store 22 (.tmp 63) (.tmp 61), none⟩ .leaf))))))))))))
theorem ok37 : Tryz.f37.body.bind (comp Tryz.prog 64) = some sc37 := by kernel_rfl
theorem rc37 : Tryz.f37.results.toList = ([] : List (Nat × Option TypeId)).map toRV := by kernel_rfl
def fi37 : Fi := ⟨sc37, 64, [], false, none, false⟩
theorem fo37 : FnOk Tryz.prog 37 fi37 := ⟨Tryz.f37, Tryz.func37, Tryz.ntmps37, ok37, rc37, fun _ _ _ h => (by cases h), Tryz.call37⟩
/-- girandole/sender.MayConfig -/
def sc38 : SC := .seq (.region [] (.one ⟨(some 1), .box 44 (.tmp 0), none⟩ (
.one ⟨(some 2), .assign (.const (.bool false)), none⟩ .leaf))) (
.seq (.region [] (.one ⟨(some 3), .assign (.func 64), none⟩ .leaf)) (
.seq (.region [4, 5, 6, 7, 8, 9, 10, 11, 12, 13, 14, 15, 16, 17, 18, 19, 20, 21, 22, 23, 24, 25, 26, 27, 28, 29, 30, 31, 32, 33, 34, 2] (.one ⟨(some 4), .move (.tmp 3), none⟩ (
.one ⟨(some 5), .fieldAddr 44 (.tmp 1) 0, none⟩ (
.one ⟨(some 6), .load 3 (.tmp 5), none⟩ (
.alt (.one ⟨(some 7), .call ⟨.value (.tmp 4), #[(.tmp 6), (.const (.int .i64 1)), (.const (.int .i64 64))], #[3, 3, 3]⟩, none⟩ (
.one ⟨(some 8), .move (.tmp 7), none⟩ (
.one ⟨(some 9), .move (.tmp 3), some (8, true)⟩ (
.one ⟨(some 10), .fieldAddr 44 (.tmp 1) 1, some (8, true)⟩ (
.one ⟨(some 12), .fieldAddr 44 (.tmp 1) 0, some (8, true)⟩ (
.one ⟨(some 13), .load 3 (.tmp 12), some (8, true)⟩ (
.alt (.one ⟨(some 11), .load 3 (.tmp 10), some (8, true)⟩ (
.alt (.one ⟨(some 14), .call ⟨.value (.func 65), #[(.tmp 13)], #[3]⟩, some (8, true)⟩ (
.alt (.one ⟨(some 15), .call ⟨.value (.tmp 9), #[(.tmp 11), (.tmp 14), (.const (.int .i64 65536))], #[3, 3, 3]⟩, some (8, true)⟩ (
.one ⟨(some 16), .pick (.tmp 8) (.tmp 15) (.const (.bool false)), none⟩ (
.one ⟨(some 17), .move (.tmp 16), none⟩ (
.one ⟨(some 18), .move (.tmp 3), some (17, true)⟩ (
.one ⟨(some 19), .fieldAddr 44 (.tmp 1) 2, some (17, true)⟩ (
.one ⟨(some 20), .load 3 (.tmp 19), some (17, true)⟩ (
.alt (.one ⟨(some 21), .call ⟨.value (.tmp 18), #[(.tmp 20), (.const (.int .i64 1)), (.const (.int .i64 16))], #[3, 3, 3]⟩, some (17, true)⟩ (
.one ⟨(some 22), .pick (.tmp 17) (.tmp 21) (.const (.bool false)), none⟩ (
.one ⟨(some 23), .move (.tmp 22), none⟩ (
.one ⟨(some 24), .move (.tmp 3), some (23, true)⟩ (
.one ⟨(some 25), .fieldAddr 44 (.tmp 1) 3, some (23, true)⟩ (
.one ⟨(some 26), .load 3 (.tmp 25), some (23, true)⟩ (
.alt (.one ⟨(some 27), .call ⟨.value (.tmp 24), #[(.tmp 26), (.const (.int .i64 1)), (.const (.int .i64 65536))], #[3, 3, 3]⟩, some (23, true)⟩ (
.one ⟨(some 28), .pick (.tmp 23) (.tmp 27) (.const (.bool false)), none⟩ (
.one ⟨(some 29), .move (.tmp 28), none⟩ (
.one ⟨(some 30), .move (.tmp 3), some (29, true)⟩ (
.one ⟨(some 31), .fieldAddr 44 (.tmp 1) 4, some (29, true)⟩ (
.one ⟨(some 32), .load 3 (.tmp 31), some (29, true)⟩ (
.alt (.one ⟨(some 33), .call ⟨.value (.tmp 30), #[(.tmp 32), (.const (.int .i64 1)), (.const (.int .i64 1000))], #[3, 3, 3]⟩, some (29, true)⟩ (
.one ⟨(some 34), .pick (.tmp 29) (.tmp 33) (.const (.bool false)), none⟩ (
.one ⟨(some 2), .assign (.tmp 34), none⟩ .leaf))) (
.nil)))))))) (
.nil)))))))) (
.nil)))))))) (
.nil))) (
.nil))) (
.alt (.one ⟨(some 14), .call ⟨.value (.func 65), #[(.tmp 13)], #[3]⟩, some (8, true)⟩ (
.one ⟨(some 11), .load 3 (.tmp 10), some (8, true)⟩ (
.alt (.one ⟨(some 15), .call ⟨.value (.tmp 9), #[(.tmp 11), (.tmp 14), (.const (.int .i64 65536))], #[3, 3, 3]⟩, some (8, true)⟩ (
.one ⟨(some 16), .pick (.tmp 8) (.tmp 15) (.const (.bool false)), none⟩ (
.one ⟨(some 17), .move (.tmp 16), none⟩ (
.one ⟨(some 18), .move (.tmp 3), some (17, true)⟩ (
.one ⟨(some 19), .fieldAddr 44 (.tmp 1) 2, some (17, true)⟩ (
.one ⟨(some 20), .load 3 (.tmp 19), some (17, true)⟩ (
.alt (.one ⟨(some 21), .call ⟨.value (.tmp 18), #[(.tmp 20), (.const (.int .i64 1)), (.const (.int .i64 16))], #[3, 3, 3]⟩, some (17, true)⟩ (
.one ⟨(some 22), .pick (.tmp 17) (.tmp 21) (.const (.bool false)), none⟩ (
.one ⟨(some 23), .move (.tmp 22), none⟩ (
.one ⟨(some 24), .move (.tmp 3), some (23, true)⟩ (
.one ⟨(some 25), .fieldAddr 44 (.tmp 1) 3, some (23, true)⟩ (
.one ⟨(some 26), .load 3 (.tmp 25), some (23, true)⟩ (
.alt (.one ⟨(some 27), .call ⟨.value (.tmp 24), #[(.tmp 26), (.const (.int .i64 1)), (.const (.int .i64 65536))], #[3, 3, 3]⟩, some (23, true)⟩ (
.one ⟨(some 28), .pick (.tmp 23) (.tmp 27) (.const (.bool false)), none⟩ (
.one ⟨(some 29), .move (.tmp 28), none⟩ (
.one ⟨(some 30), .move (.tmp 3), some (29, true)⟩ (
.one ⟨(some 31), .fieldAddr 44 (.tmp 1) 4, some (29, true)⟩ (
.one ⟨(some 32), .load 3 (.tmp 31), some (29, true)⟩ (
.alt (.one ⟨(some 33), .call ⟨.value (.tmp 30), #[(.tmp 32), (.const (.int .i64 1)), (.const (.int .i64 1000))], #[3, 3, 3]⟩, some (29, true)⟩ (
.one ⟨(some 34), .pick (.tmp 29) (.tmp 33) (.const (.bool false)), none⟩ (
.one ⟨(some 2), .assign (.tmp 34), none⟩ .leaf))) (
.nil)))))))) (
.nil)))))))) (
.nil)))))))) (
.nil)))) (
.nil))))))))) (
.nil)))))) (
.ret)))
theorem ok38 : Tryz.f38.body.bind (comp Tryz.prog 35) = some sc38 := by kernel_rfl
theorem rc38 : Tryz.f38.results.toList = ([(2, none)] : List (Nat × Option TypeId)).map toRV := by kernel_rfl
def fi38 : Fi := ⟨sc38, 35, [(2, none)], false, none, false⟩
theorem fo38 : FnOk Tryz.prog 38 fi38 := ⟨Tryz.f38, Tryz.func38, Tryz.ntmps38, ok38, rc38, fun _ _ _ h => (by cases h), Tryz.call38⟩
/-- girandole/pace.New -/
def sc40 : SC := .seq (.region [] (.one ⟨(some 0), .assign (.const (.pointer none)), none⟩ .leaf)) (
.seq (.region [] (.one ⟨(some 1), .build 138 #[], none⟩ (
.one ⟨(some 2), .box 138 (.tmp 1), none⟩ (
.one ⟨(some 0), .assign (.tmp 2), none⟩ .leaf)))) (
.ret))
theorem ok40 : Tryz.f40.body.bind (comp Tryz.prog 3) = some sc40 := by kernel_rfl
theorem rc40 : Tryz.f40.results.toList = ([(0, none)] : List (Nat × Option TypeId)).map toRV := by kernel_rfl
def fi40 : Fi := ⟨sc40, 3, [(0, none)], false, none, true⟩
theorem fo40 : FnOk Tryz.prog 40 fi40 := ⟨Tryz.f40, Tryz.func40, Tryz.ntmps40, ok40, rc40, fun _ _ _ h => (by cases h), Tryz.call40⟩
/-- girandole/ledger.New -/
def sc41 : SC := .seq (.region [] (.one ⟨(some 0), .assign (.const (.pointer none)), none⟩ .leaf)) (
.seq (.region [] (.one ⟨(some 1), .makeMap 139 none, none⟩ (
.one ⟨(some 2), .build 141 #[(0, (.tmp 1))], none⟩ (
.one ⟨(some 3), .box 141 (.tmp 2), none⟩ (
.one ⟨(some 0), .assign (.tmp 3), none⟩ .leaf))))) (
.ret))
theorem ok41 : Tryz.f41.body.bind (comp Tryz.prog 4) = some sc41 := by kernel_rfl
theorem rc41 : Tryz.f41.results.toList = ([(0, none)] : List (Nat × Option TypeId)).map toRV := by kernel_rfl
def fi41 : Fi := ⟨sc41, 4, [(0, none)], false, none, true⟩
theorem fo41 : FnOk Tryz.prog 41 fi41 := ⟨Tryz.f41, Tryz.func41, Tryz.ntmps41, ok41, rc41, fun _ _ _ h => (by cases h), Tryz.call41⟩
/-- girandole/mean.New -/
def sc42 : SC := .seq (.region [] (.one ⟨(some 0), .assign (.const (.pointer none)), none⟩ .leaf)) (
.seq (.region [] (.one ⟨(some 1), .build 143 #[], none⟩ (
.one ⟨(some 2), .box 143 (.tmp 1), none⟩ (
.one ⟨(some 0), .assign (.tmp 2), none⟩ .leaf)))) (
.ret))
theorem ok42 : Tryz.f42.body.bind (comp Tryz.prog 3) = some sc42 := by kernel_rfl
theorem rc42 : Tryz.f42.results.toList = ([(0, none)] : List (Nat × Option TypeId)).map toRV := by kernel_rfl
def fi42 : Fi := ⟨sc42, 3, [(0, none)], false, none, true⟩
theorem fo42 : FnOk Tryz.prog 42 fi42 := ⟨Tryz.f42, Tryz.func42, Tryz.ntmps42, ok42, rc42, fun _ _ _ h => (by cases h), Tryz.call42⟩
/-- girandole/burst.New -/
def sc43 : SC := .seq (.region [] (.one ⟨(some 0), .assign (.const (.pointer none)), none⟩ .leaf)) (
.seq (.region [] (.one ⟨(some 1), .build 145 #[], none⟩ (
.one ⟨(some 2), .box 145 (.tmp 1), none⟩ (
.one ⟨(some 0), .assign (.tmp 2), none⟩ .leaf)))) (
.ret))
theorem ok43 : Tryz.f43.body.bind (comp Tryz.prog 3) = some sc43 := by kernel_rfl
theorem rc43 : Tryz.f43.results.toList = ([(0, none)] : List (Nat × Option TypeId)).map toRV := by kernel_rfl
def fi43 : Fi := ⟨sc43, 3, [(0, none)], false, none, true⟩
theorem fo43 : FnOk Tryz.prog 43 fi43 := ⟨Tryz.f43, Tryz.func43, Tryz.ntmps43, ok43, rc43, fun _ _ _ h => (by cases h), Tryz.call43⟩
/-- girandole/shelf.New -/
def sc44 : SC := .seq (.region [] (.one ⟨(some 8), .assign (.const (.pointer none)), none⟩ (
.one ⟨(some 9), .assign (.const (.bool false)), none⟩ .leaf))) (
.seq (.seq (.region [] (.one ⟨(some 10), .move (.tmp 0), none⟩ (
.one ⟨(some 11), .binOp .eql 84 (.tmp 10) (.const (.pointer none)) 84, none⟩ (
.one ⟨(some 12), .move (.tmp 11), none⟩ (
.one ⟨(some 13), .move (.tmp 1), some (12, false)⟩ (
.one ⟨(some 14), .binOp .lss 3 (.tmp 13) (.const (.int .i64 1)) 3, some (12, false)⟩ (
.one ⟨(some 15), .pick (.tmp 12) (.const (.bool true)) (.tmp 14), none⟩ (
.one ⟨(some 16), .move (.tmp 15), none⟩ (
.one ⟨(some 17), .move (.tmp 1), some (16, false)⟩ (
.one ⟨(some 18), .binOp .gtr 3 (.tmp 17) (.const (.int .i64 16)) 3, some (16, false)⟩ (
.one ⟨(some 19), .pick (.tmp 16) (.const (.bool true)) (.tmp 18), none⟩ (
.one ⟨(some 20), .move (.tmp 19), none⟩ (
.one ⟨(some 21), .move (.tmp 2), some (20, false)⟩ (
.one ⟨(some 22), .binOp .lss 3 (.tmp 21) (.const (.int .i64 1)) 3, some (20, false)⟩ (
.one ⟨(some 23), .pick (.tmp 20) (.const (.bool true)) (.tmp 22), none⟩ (
.one ⟨(some 24), .move (.tmp 23), none⟩ (
.one ⟨(some 25), .move (.tmp 2), some (24, false)⟩ (
.one ⟨(some 26), .binOp .gtr 3 (.tmp 25) (.const (.int .i64 65536)) 3, some (24, false)⟩ (
.one ⟨(some 27), .pick (.tmp 24) (.const (.bool true)) (.tmp 26), none⟩ (
.one ⟨(some 28), .move (.tmp 27), none⟩ (
.one ⟨(some 29), .move (.tmp 3), some (28, false)⟩ (
.one ⟨(some 30), .binOp .lss 3 (.tmp 29) (.const (.int .i64 1)) 3, some (28, false)⟩ (
.one ⟨(some 31), .pick (.tmp 28) (.const (.bool true)) (.tmp 30), none⟩ (
.one ⟨(some 32), .move (.tmp 31), none⟩ (
.one ⟨(some 33), .move (.tmp 3), some (32, false)⟩ (
.one ⟨(some 34), .binOp .gtr 3 (.tmp 33) (.const (.int .i64 64)) 3, some (32, false)⟩ (
.one ⟨(some 35), .pick (.tmp 32) (.const (.bool true)) (.tmp 34), none⟩ .leaf))))))))))))))))))))))))))) (
.cond (.tmp 35) (.seq (.region [] (.one ⟨(some 8), .assign (.const (.pointer none)), none⟩ (
.one ⟨(some 9), .assign (.const (.bool false)), none⟩ .leaf))) (
.ret)) (
.skip))) (
.seq (.region [] (.one ⟨(some 36), .move (.tmp 0), none⟩ (
.one ⟨(some 37), .move (.tmp 1), none⟩ (
.one ⟨(some 38), .move (.tmp 2), none⟩ (
.one ⟨(some 39), .move (.tmp 3), none⟩ (
.one ⟨(some 40), .makeMap 146 none, none⟩ (
.one ⟨(some 41), .build 148 #[(0, (.tmp 36)), (1, (.tmp 37)), (2, (.tmp 38)), (3, (.tmp 39)), (4, (.tmp 40))], none⟩ (
.one ⟨(some 42), .box 148 (.tmp 41), none⟩ (
.one ⟨(some 8), .assign (.tmp 42), none⟩ (
.one ⟨(some 9), .assign (.const (.bool true)), none⟩ .leaf)))))))))) (
.ret)))
theorem ok44 : Tryz.f44.body.bind (comp Tryz.prog 43) = some sc44 := by kernel_rfl
theorem rc44 : Tryz.f44.results.toList = ([(8, none), (9, none)] : List (Nat × Option TypeId)).map toRV := by kernel_rfl
def fi44 : Fi := ⟨sc44, 43, [(8, none), (9, none)], false, none, true⟩
theorem fo44 : FnOk Tryz.prog 44 fi44 := ⟨Tryz.f44, Tryz.func44, Tryz.ntmps44, ok44, rc44, fun _ _ _ h => (by cases h), Tryz.call44⟩
/-- girandole/gate.New -/
def sc45 : SC := .seq (.region [] (.one ⟨(some 0), .assign (.const (.pointer none)), none⟩ .leaf)) (
.seq (.region [] (.one ⟨(some 1), .build 151 #[], none⟩ (
.one ⟨(some 2), .box 151 (.tmp 1), none⟩ (
.one ⟨(some 0), .assign (.tmp 2), none⟩ .leaf)))) (
.ret))
theorem ok45 : Tryz.f45.body.bind (comp Tryz.prog 3) = some sc45 := by kernel_rfl
theorem rc45 : Tryz.f45.results.toList = ([(0, none)] : List (Nat × Option TypeId)).map toRV := by kernel_rfl
def fi45 : Fi := ⟨sc45, 3, [(0, none)], false, none, true⟩
theorem fo45 : FnOk Tryz.prog 45 fi45 := ⟨Tryz.f45, Tryz.func45, Tryz.ntmps45, ok45, rc45, fun _ _ _ h => (by cases h), Tryz.call45⟩
/-- girandole/tally.New -/
def sc46 : SC := .seq (.region [] (.one ⟨(some 0), .assign (.const (.pointer none)), none⟩ .leaf)) (
.seq (.region [] (.one ⟨(some 1), .call ⟨.value (.func 66), #[], #[]⟩, none⟩ (
.one ⟨(some 2), .makeMap 154 none, none⟩ (
.one ⟨(some 3), .build 156 #[(0, (.tmp 1)), (1, (.tmp 2))], none⟩ (
.one ⟨(some 4), .box 156 (.tmp 3), none⟩ (
.one ⟨(some 0), .assign (.tmp 4), none⟩ .leaf)))))) (
.ret))
theorem ok46 : Tryz.f46.body.bind (comp Tryz.prog 5) = some sc46 := by kernel_rfl
theorem rc46 : Tryz.f46.results.toList = ([(0, none)] : List (Nat × Option TypeId)).map toRV := by kernel_rfl
def fi46 : Fi := ⟨sc46, 5, [(0, none)], false, none, true⟩
theorem fo46 : FnOk Tryz.prog 46 fi46 := ⟨Tryz.f46, Tryz.func46, Tryz.ntmps46, ok46, rc46, fun _ _ _ h => (by cases h), Tryz.call46⟩
/-- girandole/jitter.New -/
def sc47 : SC := .seq (.region [] (.one ⟨(some 0), .assign (.const (.pointer none)), none⟩ .leaf)) (
.seq (.region [] (.one ⟨(some 1), .build 158 #[], none⟩ (
.one ⟨(some 2), .box 158 (.tmp 1), none⟩ (
.one ⟨(some 0), .assign (.tmp 2), none⟩ .leaf)))) (
.ret))
theorem ok47 : Tryz.f47.body.bind (comp Tryz.prog 3) = some sc47 := by kernel_rfl
theorem rc47 : Tryz.f47.results.toList = ([(0, none)] : List (Nat × Option TypeId)).map toRV := by kernel_rfl
def fi47 : Fi := ⟨sc47, 3, [(0, none)], false, none, true⟩
theorem fo47 : FnOk Tryz.prog 47 fi47 := ⟨Tryz.f47, Tryz.func47, Tryz.ntmps47, ok47, rc47, fun _ _ _ h => (by cases h), Tryz.call47⟩
/-- (*girandole/sender.Sender).Tick -/
def sc50 : SC := .seq (.region [] (.one ⟨(some 2), .box 63 (.tmp 0), none⟩ (
.one ⟨(some 4), .alloc 109, none⟩ .leaf))) (
.seq (.seq (.region [] (.one ⟨(some 12), .load 63 (.tmp 2), none⟩ (
.one ⟨(some 13), .binOp .eql 63 (.tmp 12) (.const (.pointer none)) 63, none⟩ .leaf))) (
.cond (.tmp 13) (.seq (.region [] (.one ⟨none, .store 109 (.tmp 4) (.const (.slice none 0 0)), none⟩ .leaf)) (
.ret)) (
.skip))) (
.seq (.region [] (.one ⟨(some 14), .load 63 (.tmp 2), none⟩ (
.one ⟨(some 15), .move (.tmp 1), none⟩ (
.one ⟨(some 16), .nilCheck (.tmp 14), none⟩ (
.one ⟨(some 17), .fieldAddr 97 (.tmp 16) 8, none⟩ (
.one ⟨none, .store 2 (.tmp 17) (.tmp 15), none⟩ .leaf)))))) (
.seq (.region [] (.one ⟨(some 18), .load 63 (.tmp 2), none⟩ (
.one ⟨(some 19), .nilCheck (.tmp 18), none⟩ (
.one ⟨(some 20), .fieldAddr 97 (.tmp 19) 4, none⟩ (
.one ⟨(some 21), .load 87 (.tmp 20), none⟩ (
.one ⟨(some 22), .move (.tmp 1), none⟩ (
.one ⟨(some 23), .call ⟨.value (.func 81), #[(.tmp 21), (.tmp 22)], #[87, 2]⟩, none⟩ .leaf))))))) (
.seq (.region [24, 25, 26, 27, 28, 29, 30, 31, 32, 33, 6, 5] (.one ⟨(some 24), .load 63 (.tmp 2), none⟩ (
.one ⟨(some 25), .nilCheck (.tmp 24), none⟩ (
.one ⟨(some 26), .fieldAddr 97 (.tmp 25) 4, none⟩ (
.one ⟨(some 27), .load 87 (.tmp 26), none⟩ (
.alt (.one ⟨(some 28), .call ⟨.value (.func 82), #[(.tmp 27)], #[87]⟩, none⟩ (
.one ⟨(some 29), .load 63 (.tmp 2), none⟩ (
.one ⟨(some 30), .nilCheck (.tmp 29), none⟩ (
.one ⟨(some 31), .fieldAddr 97 (.tmp 30) 0, none⟩ (
.one ⟨(some 32), .fieldAddr 44 (.tmp 31) 1, none⟩ (
.one ⟨(some 33), .load 3 (.tmp 32), none⟩ (
.alt (.one ⟨(some 6), .alloc 3, none⟩ (
.one ⟨(some 5), .assign (.tmp 28), none⟩ (
.alt (.one ⟨none, .store 3 (.tmp 6) (.tmp 33), none⟩ .leaf) (
.nil)))) (
.nil)))))))) (
.alt (.one ⟨(some 29), .load 63 (.tmp 2), none⟩ (
.one ⟨(some 30), .nilCheck (.tmp 29), none⟩ (
.one ⟨(some 31), .fieldAddr 97 (.tmp 30) 0, none⟩ (
.one ⟨(some 32), .fieldAddr 44 (.tmp 31) 1, none⟩ (
.alt (.one ⟨(some 28), .call ⟨.value (.func 82), #[(.tmp 27)], #[87]⟩, none⟩ (
.one ⟨(some 33), .load 3 (.tmp 32), none⟩ (
.alt (.one ⟨(some 6), .alloc 3, none⟩ (
.one ⟨(some 5), .assign (.tmp 28), none⟩ (
.alt (.one ⟨none, .store 3 (.tmp 6) (.tmp 33), none⟩ .leaf) (
.nil)))) (
.nil)))) (
.alt (.one ⟨(some 33), .load 3 (.tmp 32), none⟩ (
.alt (.one ⟨(some 28), .call ⟨.value (.func 82), #[(.tmp 27)], #[87]⟩, none⟩ (
.alt (.one ⟨(some 6), .alloc 3, none⟩ (
.one ⟨(some 5), .assign (.tmp 28), none⟩ (
.alt (.one ⟨none, .store 3 (.tmp 6) (.tmp 33), none⟩ .leaf) (
.nil)))) (
.nil))) (
.alt (.one ⟨(some 6), .alloc 3, none⟩ (
.alt (.one ⟨(some 28), .call ⟨.value (.func 82), #[(.tmp 27)], #[87]⟩, none⟩ (
.one ⟨(some 5), .assign (.tmp 28), none⟩ (
.alt (.one ⟨none, .store 3 (.tmp 6) (.tmp 33), none⟩ .leaf) (
.nil)))) (
.nil))) (
.nil)))) (
.alt (.one ⟨(some 6), .alloc 3, none⟩ (
.alt (.one ⟨(some 28), .call ⟨.value (.func 82), #[(.tmp 27)], #[87]⟩, none⟩ (
.one ⟨(some 33), .load 3 (.tmp 32), none⟩ (
.one ⟨(some 5), .assign (.tmp 28), none⟩ (
.alt (.one ⟨none, .store 3 (.tmp 6) (.tmp 33), none⟩ .leaf) (
.nil))))) (
.alt (.one ⟨(some 33), .load 3 (.tmp 32), none⟩ (
.alt (.one ⟨(some 28), .call ⟨.value (.func 82), #[(.tmp 27)], #[87]⟩, none⟩ (
.one ⟨(some 5), .assign (.tmp 28), none⟩ (
.alt (.one ⟨none, .store 3 (.tmp 6) (.tmp 33), none⟩ .leaf) (
.nil)))) (
.nil))) (
.nil)))) (
.nil)))))))) (
.alt (.one ⟨(some 6), .alloc 3, none⟩ (
.alt (.one ⟨(some 28), .call ⟨.value (.func 82), #[(.tmp 27)], #[87]⟩, none⟩ (
.one ⟨(some 29), .load 63 (.tmp 2), none⟩ (
.one ⟨(some 30), .nilCheck (.tmp 29), none⟩ (
.one ⟨(some 31), .fieldAddr 97 (.tmp 30) 0, none⟩ (
.one ⟨(some 32), .fieldAddr 44 (.tmp 31) 1, none⟩ (
.one ⟨(some 33), .load 3 (.tmp 32), none⟩ (
.one ⟨(some 5), .assign (.tmp 28), none⟩ (
.alt (.one ⟨none, .store 3 (.tmp 6) (.tmp 33), none⟩ .leaf) (
.nil))))))))) (
.alt (.one ⟨(some 29), .load 63 (.tmp 2), none⟩ (
.one ⟨(some 30), .nilCheck (.tmp 29), none⟩ (
.one ⟨(some 31), .fieldAddr 97 (.tmp 30) 0, none⟩ (
.one ⟨(some 32), .fieldAddr 44 (.tmp 31) 1, none⟩ (
.alt (.one ⟨(some 28), .call ⟨.value (.func 82), #[(.tmp 27)], #[87]⟩, none⟩ (
.one ⟨(some 33), .load 3 (.tmp 32), none⟩ (
.one ⟨(some 5), .assign (.tmp 28), none⟩ (
.alt (.one ⟨none, .store 3 (.tmp 6) (.tmp 33), none⟩ .leaf) (
.nil))))) (
.alt (.one ⟨(some 33), .load 3 (.tmp 32), none⟩ (
.alt (.one ⟨(some 28), .call ⟨.value (.func 82), #[(.tmp 27)], #[87]⟩, none⟩ (
.one ⟨(some 5), .assign (.tmp 28), none⟩ (
.alt (.one ⟨none, .store 3 (.tmp 6) (.tmp 33), none⟩ .leaf) (
.nil)))) (
.nil))) (
.nil))))))) (
.nil)))) (
.nil))))))))) (
.seq (.region [] (.one ⟨(some 34), .makeFunc (.func 83) #[] #[(.tmp 2), (.tmp 4), (.tmp 6)], none⟩ (
.one ⟨(some 7), .assign (.tmp 34), none⟩ .leaf))) (
.seq (.seq (.region [] (.one ⟨(some 35), .load 3 (.tmp 6), none⟩ (
.one ⟨(some 36), .move (.tmp 5), none⟩ (
.one ⟨(some 37), .call ⟨.value (.func 86), #[(.tmp 35), (.tmp 36)], #[3, 171]⟩, none⟩ (
.one ⟨(some 38), .call ⟨.builtin .len, #[(.tmp 37)], #[149]⟩, none⟩ (
.one ⟨(some 39), .move (.const (.int .i64 0)), none⟩ .leaf)))))) (
.block 0 (.loop (.seq (.region [] (.one ⟨(some 40), .binOp .lss 3 (.tmp 39) (.tmp 38) 3, none⟩ .leaf)) (
.seq (.cond (.tmp 40) (.skip) (
.exit 0)) (
.seq (.block 1 (.seq (.region [] (.one ⟨(some 41), .move (.tmp 39), none⟩ (
.one ⟨(some 42), .indexAddr 149 (.tmp 37) (.tmp 39), none⟩ (
.one ⟨(some 43), .load 3 (.tmp 42), none⟩ (
.one ⟨(some 8), .assign (.tmp 41), none⟩ (
.one ⟨(some 9), .assign (.tmp 43), none⟩ .leaf)))))) (
.region [] (.one ⟨(some 44), .move (.tmp 7), none⟩ (
.one ⟨(some 45), .move (.tmp 5), none⟩ (
.one ⟨(some 46), .move (.tmp 8), none⟩ (
.one ⟨(some 47), .indexAddr 171 (.tmp 45) (.tmp 46), none⟩ (
.one ⟨(some 48), .fieldAddr 180 (.tmp 47) 0, none⟩ (
.one ⟨(some 49), .load 31 (.tmp 48), none⟩ (
.one ⟨(some 50), .move (.tmp 9), none⟩ (
.one ⟨(some 51), .call ⟨.value (.tmp 44), #[(.tmp 49), (.tmp 50)], #[31, 3]⟩, none⟩ .leaf))))))))))) (
.region [] (.one ⟨(some 52), .binOp .add 3 (.tmp 39) (.const (.int .i64 1)) 3, none⟩ (
.one ⟨(some 39), .move (.tmp 52), none⟩ .leaf))))))))) (
.seq (.seq (.region [] (.one ⟨(some 53), .load 63 (.tmp 2), none⟩ (
.one ⟨(some 54), .nilCheck (.tmp 53), none⟩ (
.one ⟨(some 55), .fieldAddr 97 (.tmp 54) 4, none⟩ (
.one ⟨(some 56), .load 87 (.tmp 55), none⟩ (
.one ⟨(some 57), .call ⟨.value (.func 82), #[(.tmp 56)], #[87]⟩, none⟩ (
.one ⟨(some 58), .call ⟨.builtin .len, #[(.tmp 57)], #[171]⟩, none⟩ (
.one ⟨(some 59), .move (.const (.int .i64 0)), none⟩ .leaf)))))))) (
.block 2 (.loop (.seq (.region [] (.one ⟨(some 60), .binOp .lss 3 (.tmp 59) (.tmp 58) 3, none⟩ .leaf)) (
.seq (.cond (.tmp 60) (.skip) (
.exit 2)) (
.seq (.block 3 (.seq (.region [] (.one ⟨(some 61), .indexAddr 171 (.tmp 57) (.tmp 59), none⟩ (
.one ⟨(some 62), .load 180 (.tmp 61), none⟩ (
.one ⟨(some 11), .alloc 180, none⟩ (
.one ⟨none, .store 180 (.tmp 11) (.tmp 62), none⟩ .leaf))))) (
.region [] (.one ⟨(some 63), .move (.tmp 7), none⟩ (
.one ⟨(some 64), .fieldAddr 180 (.tmp 11) 0, none⟩ (
.one ⟨(some 65), .load 31 (.tmp 64), none⟩ (
.one ⟨(some 66), .load 3 (.tmp 6), none⟩ (
.one ⟨(some 67), .call ⟨.value (.tmp 63), #[(.tmp 65), (.tmp 66)], #[31, 3]⟩, none⟩ .leaf)))))))) (
.region [] (.one ⟨(some 68), .binOp .add 3 (.tmp 59) (.const (.int .i64 1)) 3, none⟩ (
.one ⟨(some 59), .move (.tmp 68), none⟩ .leaf))))))))) (
.seq (.region [] (.one ⟨(some 69), .load 109 (.tmp 4), none⟩ (
.one ⟨none, .store 109 (.tmp 4) (.tmp 69), none⟩ .leaf))) (
.ret)))))))))
theorem ok50 : Tryz.f50.body.bind (comp Tryz.prog 70) = some sc50 := by kernel_rfl
theorem rc50 : Tryz.f50.results.toList = ([(4, some 109)] : List (Nat × Option TypeId)).map toRV := by kernel_rfl
def fi50 : Fi := ⟨sc50, 70, [(4, some 109)], false, none, false⟩
theorem fo50 : FnOk Tryz.prog 50 fi50 := ⟨Tryz.f50, Tryz.func50, Tryz.ntmps50, ok50, rc50, fun _ _ _ h => (by cases h), Tryz.call50⟩
/-- (*girandole/receiver.Receiver).Tick -/
def sc53 : SC := .seq (.region [] (.one ⟨(some 4), .assign (.const (.slice none 0 0)), none⟩ (
.one ⟨(some 5), .assign (.const (.slice none 0 0)), none⟩ .leaf))) (
.seq (.seq (.region [] (.one ⟨(some 8), .move (.tmp 0), none⟩ (
.one ⟨(some 9), .binOp .eql 66 (.tmp 8) (.const (.pointer none)) 66, none⟩ .leaf))) (
.cond (.tmp 9) (.seq (.region [] (.one ⟨(some 4), .assign (.const (.slice none 0 0)), none⟩ (
.one ⟨(some 5), .assign (.const (.slice none 0 0)), none⟩ .leaf))) (
.ret)) (
.skip))) (
.seq (.seq (.region [10, 11, 12, 13, 14, 15, 16, 17, 18, 19] (.one ⟨(some 10), .move (.tmp 0), none⟩ (
.one ⟨(some 11), .nilCheck (.tmp 10), none⟩ (
.one ⟨(some 12), .fieldAddr 108 (.tmp 11) 2, none⟩ (
.one ⟨(some 14), .move (.tmp 1), none⟩ (
.one ⟨(some 15), .move (.tmp 0), none⟩ (
.one ⟨(some 19), .move (.const (.int .i64 0)), none⟩ (
.alt (.one ⟨(some 13), .load 101 (.tmp 12), none⟩ (
.alt (.one ⟨(some 16), .call ⟨.value (.func 90), #[(.tmp 15)], #[66]⟩, none⟩ (
.alt (.one ⟨(some 17), .call ⟨.value (.func 89), #[(.tmp 13), (.tmp 14), (.tmp 16)], #[101, 2, 32]⟩, none⟩ (
.one ⟨(some 18), .call ⟨.builtin .len, #[(.tmp 17)], #[55]⟩, none⟩ .leaf)) (
.nil))) (
.nil))) (
.alt (.one ⟨(some 16), .call ⟨.value (.func 90), #[(.tmp 15)], #[66]⟩, none⟩ (
.one ⟨(some 13), .load 101 (.tmp 12), none⟩ (
.alt (.one ⟨(some 17), .call ⟨.value (.func 89), #[(.tmp 13), (.tmp 14), (.tmp 16)], #[101, 2, 32]⟩, none⟩ (
.one ⟨(some 18), .call ⟨.builtin .len, #[(.tmp 17)], #[55]⟩, none⟩ .leaf)) (
.nil)))) (
.nil)))))))))) (
.block 0 (.loop (.seq (.region [] (.one ⟨(some 20), .binOp .lss 3 (.tmp 19) (.tmp 18) 3, none⟩ .leaf)) (
.seq (.cond (.tmp 20) (.skip) (
.exit 0)) (
.seq (.block 1 (.seq (.region [] (.one ⟨(some 21), .indexAddr 55 (.tmp 17) (.tmp 19), none⟩ (
.one ⟨(some 22), .load 192 (.tmp 21), none⟩ (
.one ⟨(some 7), .alloc 192, none⟩ (
.one ⟨none, .store 192 (.tmp 7) (.tmp 22), none⟩ .leaf))))) (
.seq (.seq (.region [] (.one ⟨(some 23), .fieldAddr 192 (.tmp 7) 0, none⟩ (
.one ⟨(some 24), .load 3 (.tmp 23), none⟩ (
.one ⟨(some 25), .binOp .eql 3 (.tmp 24) (.const (.int .i64 1)) 3, none⟩ .leaf)))) (
.cond (.tmp 25) (.region [27, 28, 29, 30, 31, 32, 33, 26, 34, 35, 36] (.one ⟨(some 27), .move (.tmp 0), none⟩ (
.one ⟨(some 28), .nilCheck (.tmp 27), none⟩ (
.one ⟨(some 29), .fieldAddr 108 (.tmp 28) 1, none⟩ (
.one ⟨(some 30), .load 98 (.tmp 29), none⟩ (
.one ⟨(some 31), .fieldAddr 192 (.tmp 7) 1, none⟩ (
.one ⟨(some 32), .load 31 (.tmp 31), none⟩ (
.alt (.one ⟨(some 33), .call ⟨.value (.func 91), #[(.tmp 30), (.tmp 32)], #[98, 31]⟩, none⟩ (
.one ⟨(some 26), .move (.tmp 33), none⟩ (
.one ⟨(some 34), .extract (.tmp 26) 0, none⟩ (
.one ⟨(some 35), .extract (.tmp 26) 1, none⟩ (
.one ⟨(some 36), .fieldAddr 192 (.tmp 7) 3, none⟩ (
.alt (.one ⟨none, .store 22 (.tmp 36) (.tmp 34), none⟩ .leaf) (
.nil))))))) (
.nil))))))))) (
.region [] (.one ⟨(some 37), .move (.tmp 5), none⟩ (
.one ⟨(some 38), .fieldAddr 192 (.tmp 7) 1, none⟩ (
.one ⟨(some 39), .load 31 (.tmp 38), none⟩ (
.one ⟨(some 40), .build 186 #[(0, (.const (.int .i64 4))), (3, (.tmp 39))], none⟩ (
.one ⟨(some 41), .call ⟨.value (.func 92), #[(.tmp 40)], #[186]⟩, none⟩ (
.one ⟨(some 42), .buildSlice 109 1 #[(0, (.tmp 41))], none⟩ (
.one ⟨(some 43), .call ⟨.builtin .append, #[(.tmp 37), (.tmp 42)], #[109, 109]⟩, none⟩ (
.one ⟨(some 5), .assign (.tmp 43), none⟩ .leaf))))))))))) (
.seq (.region [44, 45, 46, 47, 48, 49, 50] (.one ⟨(some 44), .move (.tmp 0), none⟩ (
.one ⟨(some 45), .nilCheck (.tmp 44), none⟩ (
.one ⟨(some 46), .fieldAddr 108 (.tmp 45) 1, none⟩ (
.one ⟨(some 47), .load 98 (.tmp 46), none⟩ (
.one ⟨(some 48), .fieldAddr 192 (.tmp 7) 1, none⟩ (
.one ⟨(some 49), .load 31 (.tmp 48), none⟩ (
.alt (.one ⟨(some 50), .call ⟨.value (.func 93), #[(.tmp 47), (.tmp 49)], #[98, 31]⟩, none⟩ .leaf) (
.nil))))))))) (
.region [] (.one ⟨(some 51), .move (.tmp 4), none⟩ (
.one ⟨(some 52), .load 192 (.tmp 7), none⟩ (
.one ⟨(some 53), .buildSlice 55 1 #[(0, (.tmp 52))], none⟩ (
.one ⟨(some 54), .call ⟨.builtin .append, #[(.tmp 51), (.tmp 53)], #[55, 55]⟩, none⟩ (
.one ⟨(some 4), .assign (.tmp 54), none⟩ .leaf)))))))))) (
.region [] (.one ⟨(some 55), .binOp .add 3 (.tmp 19) (.const (.int .i64 1)) 3, none⟩ (
.one ⟨(some 19), .move (.tmp 55), none⟩ .leaf))))))))) (
.seq (.seq (.region [] (.one ⟨(some 56), .move (.tmp 1), none⟩ (
.one ⟨(some 57), .move (.tmp 0), none⟩ (
.one ⟨(some 58), .nilCheck (.tmp 57), none⟩ (
.one ⟨(some 59), .fieldAddr 108 (.tmp 58) 0, none⟩ (
.one ⟨(some 60), .fieldAddr 44 (.tmp 59) 4, none⟩ (
.one ⟨(some 61), .load 3 (.tmp 60), none⟩ (
.one ⟨(some 62), .binOp .rem 2 (.tmp 56) (.tmp 61) 2, none⟩ (
.one ⟨(some 63), .binOp .eql 2 (.tmp 62) (.const (.int .i64 0)) 2, none⟩ .leaf))))))))) (
.cond (.tmp 63) (.region [] (.one ⟨(some 64), .move (.tmp 5), none⟩ (
.one ⟨(some 65), .move (.tmp 0), none⟩ (
.one ⟨(some 66), .call ⟨.value (.func 94), #[(.tmp 65)], #[66]⟩, none⟩ (
.one ⟨(some 67), .call ⟨.builtin .append, #[(.tmp 64), (.tmp 66)], #[109, 109]⟩, none⟩ (
.one ⟨(some 5), .assign (.tmp 67), none⟩ .leaf)))))) (
.skip))) (
.seq (.region [] (.one ⟨(some 68), .move (.tmp 4), none⟩ (
.one ⟨(some 69), .move (.tmp 5), none⟩ (
.one ⟨(some 4), .assign (.tmp 68), none⟩ (
.one ⟨(some 5), .assign (.tmp 69), none⟩ .leaf))))) (
.ret)))))
theorem ok53 : Tryz.f53.body.bind (comp Tryz.prog 70) = some sc53 := by kernel_rfl
theorem rc53 : Tryz.f53.results.toList = ([(4, none), (5, none)] : List (Nat × Option TypeId)).map toRV := by kernel_rfl
def fi53 : Fi := ⟨sc53, 70, [(4, none), (5, none)], false, none, false⟩
theorem fo53 : FnOk Tryz.prog 53 fi53 := ⟨Tryz.f53, Tryz.func53, Tryz.ntmps53, ok53, rc53, fun _ _ _ h => (by cases h), Tryz.call53⟩
/-- girandole/session.events -/
def sc54 : SC := .seq (.region [] (.one ⟨(some 2), .assign (.const (.slice none 0 0)), none⟩ .leaf)) (
.seq (.seq (.region [] (.one ⟨(some 5), .move (.tmp 0), none⟩ (
.one ⟨(some 6), .call ⟨.builtin .len, #[(.tmp 5)], #[55]⟩, none⟩ (
.one ⟨(some 7), .move (.const (.int .i64 0)), none⟩ .leaf)))) (
.block 0 (.loop (.seq (.region [] (.one ⟨(some 8), .binOp .lss 3 (.tmp 7) (.tmp 6) 3, none⟩ .leaf)) (
.seq (.cond (.tmp 8) (.skip) (
.exit 0)) (
.seq (.block 1 (.seq (.region [] (.one ⟨(some 9), .indexAddr 55 (.tmp 5) (.tmp 7), none⟩ (
.one ⟨(some 10), .load 192 (.tmp 9), none⟩ (
.one ⟨(some 4), .alloc 192, none⟩ (
.one ⟨none, .store 192 (.tmp 4) (.tmp 10), none⟩ .leaf))))) (
.seq (.region [] (.one ⟨(some 11), .fieldAddr 192 (.tmp 4) 3, none⟩ (
.one ⟨(some 12), .load 22 (.tmp 11), none⟩ (
.one ⟨(some 13), .call ⟨.value (.func 63), #[(.tmp 12)], #[22]⟩, none⟩ (
.one ⟨(some 14), .fieldAddr 192 (.tmp 4) 3, none⟩ (
.one ⟨none, .store 22 (.tmp 14) (.tmp 13), none⟩ .leaf)))))) (
.region [] (.one ⟨(some 15), .move (.tmp 2), none⟩ (
.one ⟨(some 16), .load 192 (.tmp 4), none⟩ (
.one ⟨(some 17), .buildSlice 55 1 #[(0, (.tmp 16))], none⟩ (
.one ⟨(some 18), .call ⟨.builtin .append, #[(.tmp 15), (.tmp 17)], #[55, 55]⟩, none⟩ (
.one ⟨(some 2), .assign (.tmp 18), none⟩ .leaf))))))))) (
.region [] (.one ⟨(some 19), .binOp .add 3 (.tmp 7) (.const (.int .i64 1)) 3, none⟩ (
.one ⟨(some 7), .move (.tmp 19), none⟩ .leaf))))))))) (
.seq (.region [] (.one ⟨(some 20), .move (.tmp 2), none⟩ (
.one ⟨(some 2), .assign (.tmp 20), none⟩ .leaf))) (
.ret)))
theorem ok54 : Tryz.f54.body.bind (comp Tryz.prog 21) = some sc54 := by kernel_rfl
theorem rc54 : Tryz.f54.results.toList = ([(2, none)] : List (Nat × Option TypeId)).map toRV := by kernel_rfl
def fi54 : Fi := ⟨sc54, 21, [(2, none)], false, none, true⟩
theorem fo54 : FnOk Tryz.prog 54 fi54 := ⟨Tryz.f54, Tryz.func54, Tryz.ntmps54, ok54, rc54, fun _ _ _ h => (by cases h), Tryz.call54⟩
/-- slices.Clone[[]byte,byte] -/
def sc63 : SC := .seq (.region [] (.one ⟨(some 2), .assign (.const (.slice none 0 0)), none⟩ .leaf)) (
.seq (.seq (.region [] (.one ⟨(some 3), .move (.tmp 0), none⟩ (
.one ⟨(some 4), .binOp .eql 22 (.tmp 3) (.const (.slice none 0 0)) 22, none⟩ .leaf))) (
.cond (.tmp 4) (.seq (.region [] (.one ⟨(some 2), .assign (.const (.slice none 0 0)), none⟩ .leaf)) (
.ret)) (
.skip))) (
.seq (.region [] (.one ⟨(some 5), .buildSlice 22 0 #[], none⟩ (
.one ⟨(some 6), .move (.tmp 0), none⟩ (
.one ⟨(some 7), .call ⟨.builtin .append, #[(.tmp 5), (.tmp 6)], #[22, 22]⟩, none⟩ (
.one ⟨(some 2), .assign (.tmp 7), none⟩ .leaf))))) (
.ret)))
theorem ok63 : Tryz.f63.body.bind (comp Tryz.prog 8) = some sc63 := by kernel_rfl
theorem rc63 : Tryz.f63.results.toList = ([(2, none)] : List (Nat × Option TypeId)).map toRV := by kernel_rfl
def fi63 : Fi := ⟨sc63, 8, [(2, none)], false, none, true⟩
theorem fo63 : FnOk Tryz.prog 63 fi63 := ⟨Tryz.f63, Tryz.func63, Tryz.ntmps63, ok63, rc63, fun _ _ _ h => (by cases h), Tryz.call63⟩
/-- girandole/sender.MayConfig$1 -/
def sc64 : SC := .seq (.region [] (.one ⟨(some 6), .assign (.const (.bool false)), none⟩ .leaf)) (
.seq (.region [] (.one ⟨(some 7), .move (.tmp 0), none⟩ (
.one ⟨(some 8), .move (.tmp 1), none⟩ (
.one ⟨(some 9), .binOp .geq 3 (.tmp 7) (.tmp 8) 3, none⟩ (
.one ⟨(some 10), .move (.tmp 9), none⟩ (
.one ⟨(some 11), .move (.tmp 0), some (10, true)⟩ (
.one ⟨(some 12), .move (.tmp 2), some (10, true)⟩ (
.one ⟨(some 13), .binOp .leq 3 (.tmp 11) (.tmp 12) 3, some (10, true)⟩ (
.one ⟨(some 14), .pick (.tmp 10) (.tmp 13) (.const (.bool false)), none⟩ (
.one ⟨(some 6), .assign (.tmp 14), none⟩ .leaf)))))))))) (
.ret))
theorem ok64 : Tryz.f64.body.bind (comp Tryz.prog 15) = some sc64 := by kernel_rfl
theorem rc64 : Tryz.f64.results.toList = ([(6, none)] : List (Nat × Option TypeId)).map toRV := by kernel_rfl
def fi64 : Fi := ⟨sc64, 15, [(6, none)], false, none, true⟩
theorem fo64 : FnOk Tryz.prog 64 fi64 := ⟨Tryz.f64, Tryz.func64, Tryz.ntmps64, ok64, rc64, fun _ _ _ h => (by cases h), Tryz.call64⟩
/-- girandole/packet.Size -/
def sc65 : SC := .seq (.region [] (.one ⟨(some 2), .assign (.const (.int .i64 0)), none⟩ .leaf)) (
.seq (.region [] (.one ⟨(some 3), .move (.tmp 0), none⟩ (
.one ⟨(some 4), .binOp .add 3 (.tmp 3) (.const (.int .i64 15)) 3, none⟩ (
.one ⟨(some 2), .assign (.tmp 4), none⟩ .leaf)))) (
.ret))
theorem ok65 : Tryz.f65.body.bind (comp Tryz.prog 5) = some sc65 := by kernel_rfl
theorem rc65 : Tryz.f65.results.toList = ([(2, none)] : List (Nat × Option TypeId)).map toRV := by kernel_rfl
def fi65 : Fi := ⟨sc65, 5, [(2, none)], false, none, true⟩
theorem fo65 : FnOk Tryz.prog 65 fi65 := ⟨Tryz.f65, Tryz.func65, Tryz.ntmps65, ok65, rc65, fun _ _ _ h => (by cases h), Tryz.call65⟩
/-- girandole/serial.New -/
def sc66 : SC := .seq (.region [] (.one ⟨(some 0), .assign (.const (.pointer none)), none⟩ .leaf)) (
.seq (.region [] (.one ⟨(some 1), .build 212 #[], none⟩ (
.one ⟨(some 2), .box 212 (.tmp 1), none⟩ (
.one ⟨(some 0), .assign (.tmp 2), none⟩ .leaf)))) (
.ret))
theorem ok66 : Tryz.f66.body.bind (comp Tryz.prog 3) = some sc66 := by kernel_rfl
theorem rc66 : Tryz.f66.results.toList = ([(0, none)] : List (Nat × Option TypeId)).map toRV := by kernel_rfl
def fi66 : Fi := ⟨sc66, 3, [(0, none)], false, none, true⟩
theorem fo66 : FnOk Tryz.prog 66 fi66 := ⟨Tryz.f66, Tryz.func66, Tryz.ntmps66, ok66, rc66, fun _ _ _ h => (by cases h), Tryz.call66⟩
/-- (*girandole/pace.Queue).Expire -/
def sc81 : SC := .seq (.region [] (.one ⟨(some 3), .box 2 (.tmp 1), none⟩ (
.one ⟨(some 4), .assign (.const (.slice none 0 0)), none⟩ .leaf))) (
.seq (.region [] (.one ⟨(some 5), .move (.tmp 0), none⟩ (
.one ⟨(some 6), .makeFunc (.func 125) #[] #[(.tmp 3)], none⟩ (
.one ⟨(some 7), .call ⟨.value (.func 124), #[(.tmp 5), (.tmp 6)], #[87, 220]⟩, none⟩ (
.one ⟨(some 4), .assign (.tmp 7), none⟩ .leaf))))) (
.ret))
theorem ok81 : Tryz.f81.body.bind (comp Tryz.prog 8) = some sc81 := by kernel_rfl
theorem rc81 : Tryz.f81.results.toList = ([(4, none)] : List (Nat × Option TypeId)).map toRV := by kernel_rfl
def fi81 : Fi := ⟨sc81, 8, [(4, none)], false, none, true⟩
theorem fo81 : FnOk Tryz.prog 81 fi81 := ⟨Tryz.f81, Tryz.func81, Tryz.ntmps81, ok81, rc81, fun _ _ _ h => (by cases h), Tryz.call81⟩
/-- (*girandole/pace.Queue).Wants -/
def sc82 : SC := .seq (.region [] (.one ⟨(some 2), .assign (.const (.slice none 0 0)), none⟩ .leaf)) (
.seq (.seq (.region [] (.one ⟨(some 8), .move (.tmp 0), none⟩ (
.one ⟨(some 9), .binOp .eql 87 (.tmp 8) (.const (.pointer none)) 87, none⟩ .leaf))) (
.cond (.tmp 9) (.seq (.region [] (.one ⟨(some 2), .assign (.const (.slice none 0 0)), none⟩ .leaf)) (
.ret)) (
.skip))) (
.seq (.region [] (.one ⟨(some 10), .makeMap 233 none, none⟩ (
.one ⟨(some 3), .assign (.tmp 10), none⟩ .leaf))) (
.seq (.seq (.region [] (.one ⟨(some 11), .move (.tmp 0), none⟩ (
.one ⟨(some 12), .nilCheck (.tmp 11), none⟩ (
.one ⟨(some 13), .fieldAddr 138 (.tmp 12) 0, none⟩ (
.one ⟨(some 14), .load 136 (.tmp 13), none⟩ (
.one ⟨(some 15), .call ⟨.builtin .len, #[(.tmp 14)], #[136]⟩, none⟩ (
.one ⟨(some 16), .move (.const (.int .i64 0)), none⟩ .leaf))))))) (
.block 0 (.loop (.seq (.region [] (.one ⟨(some 17), .binOp .lss 3 (.tmp 16) (.tmp 15) 3, none⟩ .leaf)) (
.seq (.cond (.tmp 17) (.skip) (
.exit 0)) (
.seq (.block 1 (.seq (.region [] (.one ⟨(some 18), .indexAddr 136 (.tmp 14) (.tmp 16), none⟩ (
.one ⟨(some 19), .load 175 (.tmp 18), none⟩ (
.one ⟨(some 5), .alloc 175, none⟩ (
.one ⟨none, .store 175 (.tmp 5) (.tmp 19), none⟩ .leaf))))) (
.seq (.region [] (.one ⟨(some 21), .move (.tmp 3), none⟩ (
.one ⟨(some 22), .fieldAddr 175 (.tmp 5) 0, none⟩ (
.one ⟨(some 23), .load 31 (.tmp 22), none⟩ (
.one ⟨(some 24), .lookup 233 (.tmp 21) (.tmp 23) true, none⟩ (
.one ⟨(some 20), .move (.tmp 24), none⟩ (
.one ⟨(some 25), .extract (.tmp 20) 0, none⟩ (
.one ⟨(some 26), .extract (.tmp 20) 1, none⟩ (
.one ⟨(some 6), .assign (.tmp 25), none⟩ (
.one ⟨(some 7), .assign (.tmp 26), none⟩ .leaf)))))))))) (
.seq (.seq (.region [] (.one ⟨(some 27), .move (.tmp 7), none⟩ (
.one ⟨(some 28), .unOp .not 4 (.tmp 27), none⟩ .leaf))) (
.cond (.tmp 28) (.seq (.region [29, 30, 31, 32, 33, 34, 35, 6] (.one ⟨(some 29), .move (.tmp 3), none⟩ (
.one ⟨(some 30), .fieldAddr 175 (.tmp 5) 0, none⟩ (
.one ⟨(some 31), .load 31 (.tmp 30), none⟩ (
.one ⟨(some 32), .move (.tmp 2), none⟩ (
.one ⟨(some 33), .call ⟨.builtin .len, #[(.tmp 32)], #[171]⟩, none⟩ (
.one ⟨(some 34), .move (.tmp 2), none⟩ (
.one ⟨(some 35), .call ⟨.builtin .len, #[(.tmp 34)], #[171]⟩, none⟩ (
.one ⟨(some 6), .assign (.tmp 33), none⟩ (
.alt (.one ⟨none, .mapUpdate 233 (.tmp 29) (.tmp 31) (.tmp 35), none⟩ .leaf) (
.nil))))))))))) (
.region [] (.one ⟨(some 36), .move (.tmp 2), none⟩ (
.one ⟨(some 37), .fieldAddr 175 (.tmp 5) 0, none⟩ (
.one ⟨(some 38), .load 31 (.tmp 37), none⟩ (
.one ⟨(some 39), .fieldAddr 175 (.tmp 5) 2, none⟩ (
.one ⟨(some 40), .load 3 (.tmp 39), none⟩ (
.one ⟨(some 41), .build 180 #[(0, (.tmp 38)), (1, (.tmp 40))], none⟩ (
.one ⟨(some 42), .buildSlice 171 1 #[(0, (.tmp 41))], none⟩ (
.one ⟨(some 43), .call ⟨.builtin .append, #[(.tmp 36), (.tmp 42)], #[171, 171]⟩, none⟩ (
.one ⟨(some 2), .assign (.tmp 43), none⟩ .leaf))))))))))) (
.skip))) (
.region [44, 45, 46, 47, 48, 49, 50, 51, 52, 53, 54, 55, 56] (.one ⟨(some 44), .move (.tmp 2), none⟩ (
.one ⟨(some 45), .move (.tmp 6), none⟩ (
.one ⟨(some 46), .move (.tmp 2), none⟩ (
.one ⟨(some 47), .move (.tmp 6), none⟩ (
.one ⟨(some 48), .indexAddr 171 (.tmp 46) (.tmp 47), none⟩ (
.one ⟨(some 49), .fieldAddr 180 (.tmp 48) 2, none⟩ (
.one ⟨(some 50), .load 3 (.tmp 49), none⟩ (
.one ⟨(some 51), .fieldAddr 175 (.tmp 5) 3, none⟩ (
.one ⟨(some 52), .load 3 (.tmp 51), none⟩ (
.one ⟨(some 53), .binOp .add 3 (.tmp 50) (.tmp 52) 3, none⟩ (
.one ⟨(some 54), .call ⟨.builtin .min, #[(.tmp 53), (.const (.int .i64 65536))], #[3, 3]⟩, none⟩ (
.one ⟨(some 55), .indexAddr 171 (.tmp 44) (.tmp 45), none⟩ (
.one ⟨(some 56), .fieldAddr 180 (.tmp 55) 2, none⟩ (
.alt (.one ⟨none, .store 3 (.tmp 56) (.tmp 54), none⟩ .leaf) (
.nil)))))))))))))))))))) (
.region [] (.one ⟨(some 57), .binOp .add 3 (.tmp 16) (.const (.int .i64 1)) 3, none⟩ (
.one ⟨(some 16), .move (.tmp 57), none⟩ .leaf))))))))) (
.seq (.region [] (.one ⟨(some 58), .move (.tmp 2), none⟩ (
.one ⟨(some 59), .call ⟨.value (.func 126), #[(.tmp 58), (.func 127)], #[171, 237]⟩, none⟩ .leaf))) (
.seq (.region [] (.one ⟨(some 60), .move (.tmp 2), none⟩ (
.one ⟨(some 2), .assign (.tmp 60), none⟩ .leaf))) (
.ret))))))
theorem ok82 : Tryz.f82.body.bind (comp Tryz.prog 61) = some sc82 := by kernel_rfl
theorem rc82 : Tryz.f82.results.toList = ([(2, none)] : List (Nat × Option TypeId)).map toRV := by kernel_rfl
def fi82 : Fi := ⟨sc82, 61, [(2, none)], false, none, true⟩
theorem fo82 : FnOk Tryz.prog 82 fi82 := ⟨Tryz.f82, Tryz.func82, Tryz.ntmps82, ok82, rc82, fun _ _ _ h => (by cases h), Tryz.call82⟩
/-- girandole/purse.Split -/
def sc86 : SC := .seq (.region [] (.one ⟨(some 3), .box 171 (.tmp 1), none⟩ (
.one ⟨(some 4), .assign (.const (.slice none 0 0)), none⟩ .leaf))) (
.seq (.region [] (.one ⟨(some 16), .move (.tmp 0), none⟩ (
.one ⟨(some 17), .call ⟨.value (.func 135), #[(.tmp 16)], #[3]⟩, none⟩ (
.one ⟨(some 5), .assign (.tmp 17), none⟩ (
.one ⟨(some 6), .assign (.const (.int .i64 0)), none⟩ .leaf))))) (
.seq (.seq (.region [] (.one ⟨(some 18), .load 171 (.tmp 3), none⟩ (
.one ⟨(some 19), .call ⟨.builtin .len, #[(.tmp 18)], #[171]⟩, none⟩ (
.one ⟨(some 20), .move (.const (.int .i64 0)), none⟩ .leaf)))) (
.block 0 (.loop (.seq (.region [] (.one ⟨(some 21), .binOp .lss 3 (.tmp 20) (.tmp 19) 3, none⟩ .leaf)) (
.seq (.cond (.tmp 21) (.skip) (
.exit 0)) (
.seq (.block 1 (.seq (.region [] (.one ⟨(some 22), .indexAddr 171 (.tmp 18) (.tmp 20), none⟩ (
.one ⟨(some 23), .load 180 (.tmp 22), none⟩ (
.one ⟨(some 8), .alloc 180, none⟩ (
.one ⟨none, .store 180 (.tmp 8) (.tmp 23), none⟩ .leaf))))) (
.region [] (.one ⟨(some 24), .move (.tmp 6), none⟩ (
.one ⟨(some 25), .fieldAddr 180 (.tmp 8) 1, none⟩ (
.one ⟨(some 26), .load 3 (.tmp 25), none⟩ (
.one ⟨(some 27), .call ⟨.value (.func 136), #[(.tmp 26)], #[3]⟩, none⟩ (
.one ⟨(some 28), .binOp .add 3 (.tmp 24) (.tmp 27) 3, none⟩ (
.one ⟨(some 6), .assign (.tmp 28), none⟩ .leaf))))))))) (
.region [] (.one ⟨(some 29), .binOp .add 3 (.tmp 20) (.const (.int .i64 1)) 3, none⟩ (
.one ⟨(some 20), .move (.tmp 29), none⟩ .leaf))))))))) (
.seq (.region [] (.one ⟨(some 30), .load 171 (.tmp 3), none⟩ (
.one ⟨(some 31), .call ⟨.builtin .len, #[(.tmp 30)], #[171]⟩, none⟩ (
.one ⟨(some 32), .makeSlice 149 (.tmp 31) (.tmp 31), none⟩ (
.one ⟨(some 9), .assign (.tmp 32), none⟩ .leaf))))) (
.seq (.region [] (.one ⟨(some 33), .load 171 (.tmp 3), none⟩ (
.one ⟨(some 34), .call ⟨.builtin .len, #[(.tmp 33)], #[171]⟩, none⟩ (
.one ⟨(some 35), .makeSlice 149 (.tmp 34) (.tmp 34), none⟩ (
.one ⟨(some 10), .assign (.tmp 35), none⟩ .leaf))))) (
.seq (.seq (.region [] (.one ⟨(some 36), .load 171 (.tmp 3), none⟩ (
.one ⟨(some 37), .call ⟨.builtin .len, #[(.tmp 36)], #[171]⟩, none⟩ (
.one ⟨(some 38), .move (.const (.int .i64 0)), none⟩ .leaf)))) (
.block 2 (.loop (.seq (.region [] (.one ⟨(some 39), .binOp .lss 3 (.tmp 38) (.tmp 37) 3, none⟩ .leaf)) (
.seq (.cond (.tmp 39) (.skip) (
.exit 2)) (
.seq (.block 3 (.seq (.region [] (.one ⟨(some 40), .move (.tmp 38), none⟩ (
.one ⟨(some 41), .indexAddr 171 (.tmp 36) (.tmp 38), none⟩ (
.one ⟨(some 42), .load 180 (.tmp 41), none⟩ (
.one ⟨(some 12), .alloc 180, none⟩ (
.one ⟨(some 11), .assign (.tmp 40), none⟩ (
.one ⟨none, .store 180 (.tmp 12) (.tmp 42), none⟩ .leaf))))))) (
.seq (.region [43, 44, 45, 46, 47, 48, 49, 50, 51, 52, 53, 54, 55, 56, 57] (.one ⟨(some 43), .move (.tmp 9), none⟩ (
.one ⟨(some 44), .move (.tmp 11), none⟩ (
.one ⟨(some 45), .move (.tmp 0), none⟩ (
.one ⟨(some 47), .fieldAddr 180 (.tmp 12) 1, none⟩ (
.one ⟨(some 51), .move (.tmp 6), none⟩ (
.one ⟨(some 53), .fieldAddr 180 (.tmp 12) 2, none⟩ (
.alt (.one ⟨(some 46), .call ⟨.value (.func 135), #[(.tmp 45)], #[3]⟩, none⟩ (
.one ⟨(some 48), .load 3 (.tmp 47), none⟩ (
.alt (.one ⟨(some 49), .call ⟨.value (.func 136), #[(.tmp 48)], #[3]⟩, none⟩ (
.one ⟨(some 50), .binOp .mul 3 (.tmp 46) (.tmp 49) 3, none⟩ (
.one ⟨(some 52), .binOp .quo 3 (.tmp 50) (.tmp 51) 3, none⟩ (
.one ⟨(some 54), .load 3 (.tmp 53), none⟩ (
.alt (.one ⟨(some 55), .call ⟨.value (.func 135), #[(.tmp 54)], #[3]⟩, none⟩ (
.one ⟨(some 56), .call ⟨.builtin .min, #[(.tmp 52), (.tmp 55)], #[3, 3]⟩, none⟩ (
.one ⟨(some 57), .indexAddr 149 (.tmp 43) (.tmp 44), none⟩ (
.alt (.one ⟨none, .store 3 (.tmp 57) (.tmp 56), none⟩ .leaf) (
.nil))))) (
.nil)))))) (
.alt (.one ⟨(some 54), .load 3 (.tmp 53), none⟩ (
.alt (.one ⟨(some 49), .call ⟨.value (.func 136), #[(.tmp 48)], #[3]⟩, none⟩ (
.one ⟨(some 50), .binOp .mul 3 (.tmp 46) (.tmp 49) 3, none⟩ (
.one ⟨(some 52), .binOp .quo 3 (.tmp 50) (.tmp 51) 3, none⟩ (
.alt (.one ⟨(some 55), .call ⟨.value (.func 135), #[(.tmp 54)], #[3]⟩, none⟩ (
.one ⟨(some 56), .call ⟨.builtin .min, #[(.tmp 52), (.tmp 55)], #[3, 3]⟩, none⟩ (
.one ⟨(some 57), .indexAddr 149 (.tmp 43) (.tmp 44), none⟩ (
.alt (.one ⟨none, .store 3 (.tmp 57) (.tmp 56), none⟩ .leaf) (
.nil))))) (
.nil))))) (
.nil))) (
.nil))))) (
.alt (.one ⟨(some 48), .load 3 (.tmp 47), none⟩ (
.alt (.one ⟨(some 46), .call ⟨.value (.func 135), #[(.tmp 45)], #[3]⟩, none⟩ (
.alt (.one ⟨(some 49), .call ⟨.value (.func 136), #[(.tmp 48)], #[3]⟩, none⟩ (
.one ⟨(some 50), .binOp .mul 3 (.tmp 46) (.tmp 49) 3, none⟩ (
.one ⟨(some 52), .binOp .quo 3 (.tmp 50) (.tmp 51) 3, none⟩ (
.one ⟨(some 54), .load 3 (.tmp 53), none⟩ (
.alt (.one ⟨(some 55), .call ⟨.value (.func 135), #[(.tmp 54)], #[3]⟩, none⟩ (
.one ⟨(some 56), .call ⟨.builtin .min, #[(.tmp 52), (.tmp 55)], #[3, 3]⟩, none⟩ (
.one ⟨(some 57), .indexAddr 149 (.tmp 43) (.tmp 44), none⟩ (
.alt (.one ⟨none, .store 3 (.tmp 57) (.tmp 56), none⟩ .leaf) (
.nil))))) (
.nil)))))) (
.alt (.one ⟨(some 54), .load 3 (.tmp 53), none⟩ (
.alt (.one ⟨(some 49), .call ⟨.value (.func 136), #[(.tmp 48)], #[3]⟩, none⟩ (
.one ⟨(some 50), .binOp .mul 3 (.tmp 46) (.tmp 49) 3, none⟩ (
.one ⟨(some 52), .binOp .quo 3 (.tmp 50) (.tmp 51) 3, none⟩ (
.alt (.one ⟨(some 55), .call ⟨.value (.func 135), #[(.tmp 54)], #[3]⟩, none⟩ (
.one ⟨(some 56), .call ⟨.builtin .min, #[(.tmp 52), (.tmp 55)], #[3, 3]⟩, none⟩ (
.one ⟨(some 57), .indexAddr 149 (.tmp 43) (.tmp 44), none⟩ (
.alt (.one ⟨none, .store 3 (.tmp 57) (.tmp 56), none⟩ .leaf) (
.nil))))) (
.nil))))) (
.nil))) (
.nil)))) (
.alt (.one ⟨(some 54), .load 3 (.tmp 53), none⟩ (
.alt (.one ⟨(some 46), .call ⟨.value (.func 135), #[(.tmp 45)], #[3]⟩, none⟩ (
.alt (.one ⟨(some 49), .call ⟨.value (.func 136), #[(.tmp 48)], #[3]⟩, none⟩ (
.one ⟨(some 50), .binOp .mul 3 (.tmp 46) (.tmp 49) 3, none⟩ (
.one ⟨(some 52), .binOp .quo 3 (.tmp 50) (.tmp 51) 3, none⟩ (
.alt (.one ⟨(some 55), .call ⟨.value (.func 135), #[(.tmp 54)], #[3]⟩, none⟩ (
.one ⟨(some 56), .call ⟨.builtin .min, #[(.tmp 52), (.tmp 55)], #[3, 3]⟩, none⟩ (
.one ⟨(some 57), .indexAddr 149 (.tmp 43) (.tmp 44), none⟩ (
.alt (.one ⟨none, .store 3 (.tmp 57) (.tmp 56), none⟩ .leaf) (
.nil))))) (
.nil))))) (
.nil))) (
.nil))) (
.nil)))) (
.alt (.one ⟨(some 54), .load 3 (.tmp 53), none⟩ (
.alt (.one ⟨(some 46), .call ⟨.value (.func 135), #[(.tmp 45)], #[3]⟩, none⟩ (
.one ⟨(some 48), .load 3 (.tmp 47), none⟩ (
.alt (.one ⟨(some 49), .call ⟨.value (.func 136), #[(.tmp 48)], #[3]⟩, none⟩ (
.one ⟨(some 50), .binOp .mul 3 (.tmp 46) (.tmp 49) 3, none⟩ (
.one ⟨(some 52), .binOp .quo 3 (.tmp 50) (.tmp 51) 3, none⟩ (
.alt (.one ⟨(some 55), .call ⟨.value (.func 135), #[(.tmp 54)], #[3]⟩, none⟩ (
.one ⟨(some 56), .call ⟨.builtin .min, #[(.tmp 52), (.tmp 55)], #[3, 3]⟩, none⟩ (
.one ⟨(some 57), .indexAddr 149 (.tmp 43) (.tmp 44), none⟩ (
.alt (.one ⟨none, .store 3 (.tmp 57) (.tmp 56), none⟩ .leaf) (
.nil))))) (
.nil))))) (
.nil)))) (
.alt (.one ⟨(some 48), .load 3 (.tmp 47), none⟩ (
.alt (.one ⟨(some 46), .call ⟨.value (.func 135), #[(.tmp 45)], #[3]⟩, none⟩ (
.alt (.one ⟨(some 49), .call ⟨.value (.func 136), #[(.tmp 48)], #[3]⟩, none⟩ (
.one ⟨(some 50), .binOp .mul 3 (.tmp 46) (.tmp 49) 3, none⟩ (
.one ⟨(some 52), .binOp .quo 3 (.tmp 50) (.tmp 51) 3, none⟩ (
.alt (.one ⟨(some 55), .call ⟨.value (.func 135), #[(.tmp 54)], #[3]⟩, none⟩ (
.one ⟨(some 56), .call ⟨.builtin .min, #[(.tmp 52), (.tmp 55)], #[3, 3]⟩, none⟩ (
.one ⟨(some 57), .indexAddr 149 (.tmp 43) (.tmp 44), none⟩ (
.alt (.one ⟨none, .store 3 (.tmp 57) (.tmp 56), none⟩ .leaf) (
.nil))))) (
.nil))))) (
.nil))) (
.nil))) (
.nil)))) (
.nil))))))))))) (
.seq (.region [] (.one ⟨(some 58), .move (.tmp 5), none⟩ (
.one ⟨(some 59), .move (.tmp 9), none⟩ (
.one ⟨(some 60), .move (.tmp 11), none⟩ (
.one ⟨(some 61), .indexAddr 149 (.tmp 59) (.tmp 60), none⟩ (
.one ⟨(some 62), .load 3 (.tmp 61), none⟩ (
.one ⟨(some 63), .binOp .sub 3 (.tmp 58) (.tmp 62) 3, none⟩ (
.one ⟨(some 5), .assign (.tmp 63), none⟩ .leaf)))))))) (
.region [] (.one ⟨(some 64), .move (.tmp 10), none⟩ (
.one ⟨(some 65), .move (.tmp 11), none⟩ (
.one ⟨(some 66), .move (.tmp 11), none⟩ (
.one ⟨(some 67), .indexAddr 149 (.tmp 64) (.tmp 65), none⟩ (
.one ⟨none, .store 3 (.tmp 67) (.tmp 66), none⟩ .leaf)))))))))) (
.region [] (.one ⟨(some 68), .binOp .add 3 (.tmp 38) (.const (.int .i64 1)) 3, none⟩ (
.one ⟨(some 38), .move (.tmp 68), none⟩ .leaf))))))))) (
.seq (.region [] (.one ⟨(some 69), .move (.tmp 10), none⟩ (
.one ⟨(some 70), .makeFunc (.func 138) #[] #[(.tmp 3)], none⟩ (
.one ⟨(some 71), .call ⟨.value (.func 137), #[(.tmp 69), (.tmp 70)], #[149, 222]⟩, none⟩ .leaf)))) (
.seq (.seq (.region [] (.one ⟨(some 72), .move (.tmp 10), none⟩ (
.one ⟨(some 73), .call ⟨.builtin .len, #[(.tmp 72)], #[149]⟩, none⟩ (
.one ⟨(some 74), .move (.const (.int .i64 0)), none⟩ .leaf)))) (
.block 4 (.loop (.seq (.region [] (.one ⟨(some 75), .binOp .lss 3 (.tmp 74) (.tmp 73) 3, none⟩ .leaf)) (
.seq (.cond (.tmp 75) (.skip) (
.exit 4)) (
.seq (.block 5 (.seq (.region [] (.one ⟨(some 76), .indexAddr 149 (.tmp 72) (.tmp 74), none⟩ (
.one ⟨(some 77), .load 3 (.tmp 76), none⟩ (
.one ⟨(some 14), .assign (.tmp 77), none⟩ .leaf)))) (
.seq (.region [78, 79, 80, 81, 82, 83, 84, 85, 86, 87, 88, 89, 90, 15] (.one ⟨(some 78), .load 171 (.tmp 3), none⟩ (
.one ⟨(some 79), .move (.tmp 14), none⟩ (
.one ⟨(some 80), .indexAddr 171 (.tmp 78) (.tmp 79), none⟩ (
.one ⟨(some 81), .fieldAddr 180 (.tmp 80) 2, none⟩ (
.one ⟨(some 82), .load 3 (.tmp 81), none⟩ (
.one ⟨(some 84), .move (.tmp 9), none⟩ (
.one ⟨(some 85), .move (.tmp 14), none⟩ (
.one ⟨(some 86), .indexAddr 149 (.tmp 84) (.tmp 85), none⟩ (
.one ⟨(some 89), .move (.tmp 5), none⟩ (
.alt (.one ⟨(some 83), .call ⟨.value (.func 135), #[(.tmp 82)], #[3]⟩, none⟩ (
.one ⟨(some 87), .load 3 (.tmp 86), none⟩ (
.one ⟨(some 88), .binOp .sub 3 (.tmp 83) (.tmp 87) 3, none⟩ (
.one ⟨(some 90), .call ⟨.builtin .min, #[(.tmp 88), (.tmp 89)], #[3, 3]⟩, none⟩ (
.one ⟨(some 15), .assign (.tmp 90), none⟩ .leaf))))) (
.alt (.one ⟨(some 87), .load 3 (.tmp 86), none⟩ (
.alt (.one ⟨(some 83), .call ⟨.value (.func 135), #[(.tmp 82)], #[3]⟩, none⟩ (
.one ⟨(some 88), .binOp .sub 3 (.tmp 83) (.tmp 87) 3, none⟩ (
.one ⟨(some 90), .call ⟨.builtin .min, #[(.tmp 88), (.tmp 89)], #[3, 3]⟩, none⟩ (
.one ⟨(some 15), .assign (.tmp 90), none⟩ .leaf)))) (
.nil))) (
.nil))))))))))))) (
.seq (.region [] (.one ⟨(some 91), .move (.tmp 9), none⟩ (
.one ⟨(some 92), .move (.tmp 14), none⟩ (
.one ⟨(some 93), .indexAddr 149 (.tmp 91) (.tmp 92), none⟩ (
.one ⟨(some 94), .load 3 (.tmp 93), none⟩ (
.one ⟨(some 95), .move (.tmp 15), none⟩ (
.one ⟨(some 96), .binOp .add 3 (.tmp 94) (.tmp 95) 3, none⟩ (
.one ⟨(some 97), .indexAddr 149 (.tmp 91) (.tmp 92), none⟩ (
.one ⟨none, .store 3 (.tmp 97) (.tmp 96), none⟩ .leaf))))))))) (
.region [] (.one ⟨(some 98), .move (.tmp 5), none⟩ (
.one ⟨(some 99), .move (.tmp 15), none⟩ (
.one ⟨(some 100), .binOp .sub 3 (.tmp 98) (.tmp 99) 3, none⟩ (
.one ⟨(some 5), .assign (.tmp 100), none⟩ .leaf))))))))) (
.region [] (.one ⟨(some 101), .binOp .add 3 (.tmp 74) (.const (.int .i64 1)) 3, none⟩ (
.one ⟨(some 74), .move (.tmp 101), none⟩ .leaf))))))))) (
.seq (.region [] (.one ⟨(some 102), .move (.tmp 9), none⟩ (
.one ⟨(some 4), .assign (.tmp 102), none⟩ .leaf))) (
.ret)))))))))
theorem ok86 : Tryz.f86.body.bind (comp Tryz.prog 103) = some sc86 := by kernel_rfl
theorem rc86 : Tryz.f86.results.toList = ([(4, none)] : List (Nat × Option TypeId)).map toRV := by kernel_rfl
def fi86 : Fi := ⟨sc86, 103, [(4, none)], false, none, false⟩
theorem fo86 : FnOk Tryz.prog 86 fi86 := ⟨Tryz.f86, Tryz.func86, Tryz.ntmps86, ok86, rc86, fun _ _ _ h => (by cases h), Tryz.call86⟩
/-- (*girandole/gate.Gate).Step -/
def sc89 : SC := .seq (.region [] (.one ⟨(some 6), .assign (.const (.slice none 0 0)), none⟩ .leaf)) (
.seq (.seq (.region [] (.one ⟨(some 10), .move (.tmp 0), none⟩ (
.one ⟨(some 11), .binOp .eql 101 (.tmp 10) (.const (.pointer none)) 101, none⟩ .leaf))) (
.cond (.tmp 11) (.seq (.region [] (.one ⟨(some 6), .assign (.const (.slice none 0 0)), none⟩ .leaf)) (
.ret)) (
.skip))) (
.seq (.seq (.region [] (.one ⟨(some 12), .move (.tmp 0), none⟩ (
.one ⟨(some 13), .nilCheck (.tmp 12), none⟩ (
.one ⟨(some 14), .fieldAddr 151 (.tmp 13) 1, none⟩ (
.one ⟨(some 15), .load 149 (.tmp 14), none⟩ (
.one ⟨(some 16), .call ⟨.builtin .len, #[(.tmp 15)], #[149]⟩, none⟩ (
.one ⟨(some 7), .assign (.tmp 16), none⟩ .leaf))))))) (
.block 0 (.loop (.seq (.seq (.region [] (.one ⟨(some 17), .move (.tmp 7), none⟩ (
.one ⟨(some 18), .move (.tmp 0), none⟩ (
.one ⟨(some 19), .nilCheck (.tmp 18), none⟩ (
.one ⟨(some 20), .fieldAddr 151 (.tmp 19) 0, none⟩ (
.one ⟨(some 21), .load 95 (.tmp 20), none⟩ (
.one ⟨(some 22), .call ⟨.builtin .len, #[(.tmp 21)], #[95]⟩, none⟩ (
.one ⟨(some 23), .binOp .lss 3 (.tmp 17) (.tmp 22) 3, none⟩ .leaf)))))))) (
.cond (.tmp 23) (.skip) (
.exit 0))) (
.seq (.block 1 (.seq (.region [] (.one ⟨(some 26), .move (.tmp 0), none⟩ (
.one ⟨(some 27), .nilCheck (.tmp 26), none⟩ (
.one ⟨(some 28), .fieldAddr 151 (.tmp 27) 0, none⟩ (
.one ⟨(some 29), .load 95 (.tmp 28), none⟩ (
.one ⟨(some 30), .move (.tmp 7), none⟩ (
.one ⟨(some 31), .indexAddr 95 (.tmp 29) (.tmp 30), none⟩ (
.one ⟨(some 32), .load 34 (.tmp 31), none⟩ (
.one ⟨(some 8), .alloc 34, none⟩ (
.one ⟨none, .store 34 (.tmp 8) (.tmp 32), none⟩ .leaf)))))))))) (
.seq (.region [33, 34, 35, 36, 37, 38, 39, 40, 9] (.one ⟨(some 33), .move (.tmp 0), none⟩ (
.one ⟨(some 35), .move (.tmp 1), none⟩ (
.one ⟨(some 36), .move (.tmp 2), none⟩ (
.one ⟨(some 37), .fieldAddr 34 (.tmp 8) 0, none⟩ (
.one ⟨(some 38), .load 31 (.tmp 37), none⟩ (
.alt (.one ⟨(some 34), .load 34 (.tmp 8), none⟩ (
.alt (.one ⟨(some 39), .call ⟨.value (.func 118), #[(.tmp 36), (.tmp 38)], #[32, 31]⟩, none⟩ (
.alt (.one ⟨(some 40), .call ⟨.value (.func 141), #[(.tmp 33), (.tmp 34), (.tmp 35), (.tmp 39)], #[101, 34, 2, 4]⟩, none⟩ (
.one ⟨(some 9), .assign (.tmp 40), none⟩ .leaf)) (
.nil))) (
.nil))) (
.alt (.one ⟨(some 39), .call ⟨.value (.func 118), #[(.tmp 36), (.tmp 38)], #[32, 31]⟩, none⟩ (
.one ⟨(some 34), .load 34 (.tmp 8), none⟩ (
.alt (.one ⟨(some 40), .call ⟨.value (.func 141), #[(.tmp 33), (.tmp 34), (.tmp 35), (.tmp 39)], #[101, 34, 2, 4]⟩, none⟩ (
.one ⟨(some 9), .assign (.tmp 40), none⟩ .leaf)) (
.nil)))) (
.nil))))))))) (
.seq (.seq (.region [] (.one ⟨(some 41), .move (.tmp 9), none⟩ (
.one ⟨(some 42), .binOp .eql 3 (.tmp 41) (.const (.int .i64 0)) 3, none⟩ .leaf))) (
.cond (.tmp 42) (.seq (.region [] (.one ⟨(some 43), .move (.tmp 6), none⟩ (
.one ⟨(some 6), .assign (.tmp 43), none⟩ .leaf))) (
.ret)) (
.skip))) (
.seq (.region [] (.one ⟨(some 44), .move (.tmp 0), none⟩ (
.one ⟨(some 45), .move (.tmp 0), none⟩ (
.one ⟨(some 46), .nilCheck (.tmp 45), none⟩ (
.one ⟨(some 47), .fieldAddr 151 (.tmp 46) 1, none⟩ (
.one ⟨(some 48), .load 149 (.tmp 47), none⟩ (
.one ⟨(some 49), .move (.tmp 9), none⟩ (
.one ⟨(some 50), .buildSlice 149 1 #[(0, (.tmp 49))], none⟩ (
.one ⟨(some 51), .call ⟨.builtin .append, #[(.tmp 48), (.tmp 50)], #[149, 149]⟩, none⟩ (
.one ⟨(some 52), .nilCheck (.tmp 44), none⟩ (
.one ⟨(some 53), .fieldAddr 151 (.tmp 52) 1, none⟩ (
.one ⟨none, .store 149 (.tmp 53) (.tmp 51), none⟩ .leaf)))))))))))) (
.region [] (.one ⟨(some 54), .move (.tmp 6), none⟩ (
.one ⟨(some 55), .move (.tmp 9), none⟩ (
.one ⟨(some 56), .fieldAddr 34 (.tmp 8) 0, none⟩ (
.one ⟨(some 57), .load 31 (.tmp 56), none⟩ (
.one ⟨(some 58), .move (.tmp 1), none⟩ (
.one ⟨(some 59), .build 192 #[(0, (.tmp 55)), (1, (.tmp 57)), (2, (.tmp 58))], none⟩ (
.one ⟨(some 60), .buildSlice 55 1 #[(0, (.tmp 59))], none⟩ (
.one ⟨(some 61), .call ⟨.builtin .append, #[(.tmp 54), (.tmp 60)], #[55, 55]⟩, none⟩ (
.one ⟨(some 6), .assign (.tmp 61), none⟩ .leaf))))))))))))))) (
.region [] (.one ⟨(some 24), .move (.tmp 7), none⟩ (
.one ⟨(some 25), .binOp .add 3 (.tmp 24) (.const (.int .i64 1)) 3, none⟩ (
.one ⟨(some 7), .assign (.tmp 25), none⟩ .leaf))))))))) (
.seq (.region [] (.one ⟨(some 62), .move (.tmp 6), none⟩ (
.one ⟨(some 6), .assign (.tmp 62), none⟩ .leaf))) (
.ret))))
theorem ok89 : Tryz.f89.body.bind (comp Tryz.prog 63) = some sc89 := by kernel_rfl
theorem rc89 : Tryz.f89.results.toList = ([(6, none)] : List (Nat × Option TypeId)).map toRV := by kernel_rfl
def fi89 : Fi := ⟨sc89, 63, [(6, none)], false, none, false⟩
theorem fo89 : FnOk Tryz.prog 89 fi89 := ⟨Tryz.f89, Tryz.func89, Tryz.ntmps89, ok89, rc89, fun _ _ _ h => (by cases h), Tryz.call89⟩
/-- (*girandole/receiver.Receiver).ready -/
def sc90 : SC := .seq (.region [] (.one ⟨(some 2), .assign (.const (.slice none 0 0)), none⟩ .leaf)) (
.seq (.seq (.region [] (.one ⟨(some 5), .move (.tmp 0), none⟩ (
.one ⟨(some 6), .nilCheck (.tmp 5), none⟩ (
.one ⟨(some 7), .fieldAddr 108 (.tmp 6) 1, none⟩ (
.one ⟨(some 8), .load 98 (.tmp 7), none⟩ (
.one ⟨(some 9), .call ⟨.value (.func 142), #[(.tmp 8)], #[98]⟩, none⟩ (
.one ⟨(some 10), .call ⟨.builtin .len, #[(.tmp 9)], #[32]⟩, none⟩ (
.one ⟨(some 11), .move (.const (.int .i64 0)), none⟩ .leaf)))))))) (
.block 0 (.loop (.seq (.region [] (.one ⟨(some 12), .binOp .lss 3 (.tmp 11) (.tmp 10) 3, none⟩ .leaf)) (
.seq (.cond (.tmp 12) (.skip) (
.exit 0)) (
.seq (.block 1 (.seq (.region [] (.one ⟨(some 13), .indexAddr 32 (.tmp 9) (.tmp 11), none⟩ (
.one ⟨(some 14), .load 31 (.tmp 13), none⟩ (
.one ⟨(some 4), .assign (.tmp 14), none⟩ .leaf)))) (
.seq (.region [] (.one ⟨(some 15), .move (.tmp 0), none⟩ (
.one ⟨(some 16), .move (.tmp 4), none⟩ (
.one ⟨(some 17), .call ⟨.value (.func 143), #[(.tmp 15), (.tmp 16)], #[66, 31]⟩, none⟩ (
.one ⟨(some 18), .binOp .eql 3 (.tmp 17) (.const (.int .i64 0)) 3, none⟩ .leaf))))) (
.cond (.tmp 18) (.region [] (.one ⟨(some 19), .move (.tmp 2), none⟩ (
.one ⟨(some 20), .move (.tmp 4), none⟩ (
.one ⟨(some 21), .buildSlice 32 1 #[(0, (.tmp 20))], none⟩ (
.one ⟨(some 22), .call ⟨.builtin .append, #[(.tmp 19), (.tmp 21)], #[32, 32]⟩, none⟩ (
.one ⟨(some 2), .assign (.tmp 22), none⟩ .leaf)))))) (
.skip))))) (
.region [] (.one ⟨(some 23), .binOp .add 3 (.tmp 11) (.const (.int .i64 1)) 3, none⟩ (
.one ⟨(some 11), .move (.tmp 23), none⟩ .leaf))))))))) (
.seq (.region [] (.one ⟨(some 24), .move (.tmp 2), none⟩ (
.one ⟨(some 2), .assign (.tmp 24), none⟩ .leaf))) (
.ret)))
theorem ok90 : Tryz.f90.body.bind (comp Tryz.prog 25) = some sc90 := by kernel_rfl
theorem rc90 : Tryz.f90.results.toList = ([(2, none)] : List (Nat × Option TypeId)).map toRV := by kernel_rfl
def fi90 : Fi := ⟨sc90, 25, [(2, none)], false, none, true⟩
theorem fo90 : FnOk Tryz.prog 90 fi90 := ⟨Tryz.f90, Tryz.func90, Tryz.ntmps90, ok90, rc90, fun _ _ _ h => (by cases h), Tryz.call90⟩
/-- (*girandole/pace.Queue).sift -/
def sc124 : SC := .seq (.region [] (.one ⟨(some 4), .assign (.const (.slice none 0 0)), none⟩ .leaf)) (
.seq (.seq (.region [] (.one ⟨(some 8), .move (.tmp 0), none⟩ (
.one ⟨(some 9), .binOp .eql 87 (.tmp 8) (.const (.pointer none)) 87, none⟩ .leaf))) (
.cond (.tmp 9) (.seq (.region [] (.one ⟨(some 4), .assign (.const (.slice none 0 0)), none⟩ .leaf)) (
.ret)) (
.skip))) (
.seq (.region [] (.one ⟨(some 5), .assign (.const (.slice none 0 0)), none⟩ .leaf)) (
.seq (.seq (.region [] (.one ⟨(some 10), .move (.tmp 0), none⟩ (
.one ⟨(some 11), .nilCheck (.tmp 10), none⟩ (
.one ⟨(some 12), .fieldAddr 138 (.tmp 11) 0, none⟩ (
.one ⟨(some 13), .load 136 (.tmp 12), none⟩ (
.one ⟨(some 14), .call ⟨.builtin .len, #[(.tmp 13)], #[136]⟩, none⟩ (
.one ⟨(some 15), .move (.const (.int .i64 0)), none⟩ .leaf))))))) (
.block 0 (.loop (.seq (.region [] (.one ⟨(some 16), .binOp .lss 3 (.tmp 15) (.tmp 14) 3, none⟩ .leaf)) (
.seq (.cond (.tmp 16) (.skip) (
.exit 0)) (
.seq (.block 1 (.seq (.region [] (.one ⟨(some 17), .indexAddr 136 (.tmp 13) (.tmp 15), none⟩ (
.one ⟨(some 18), .load 175 (.tmp 17), none⟩ (
.one ⟨(some 7), .alloc 175, none⟩ (
.one ⟨none, .store 175 (.tmp 7) (.tmp 18), none⟩ .leaf))))) (
.seq (.region [] (.one ⟨(some 19), .move (.tmp 1), none⟩ (
.one ⟨(some 20), .load 175 (.tmp 7), none⟩ (
.one ⟨(some 21), .call ⟨.value (.tmp 19), #[(.tmp 20)], #[175]⟩, none⟩ .leaf)))) (
.cond (.tmp 21) (.region [] (.one ⟨(some 22), .move (.tmp 4), none⟩ (
.one ⟨(some 23), .load 175 (.tmp 7), none⟩ (
.one ⟨(some 24), .buildSlice 136 1 #[(0, (.tmp 23))], none⟩ (
.one ⟨(some 25), .call ⟨.builtin .append, #[(.tmp 22), (.tmp 24)], #[136, 136]⟩, none⟩ (
.one ⟨(some 4), .assign (.tmp 25), none⟩ .leaf)))))) (
.region [] (.one ⟨(some 26), .move (.tmp 5), none⟩ (
.one ⟨(some 27), .load 175 (.tmp 7), none⟩ (
.one ⟨(some 28), .buildSlice 136 1 #[(0, (.tmp 27))], none⟩ (
.one ⟨(some 29), .call ⟨.builtin .append, #[(.tmp 26), (.tmp 28)], #[136, 136]⟩, none⟩ (
.one ⟨(some 5), .assign (.tmp 29), none⟩ .leaf)))))))))) (
.region [] (.one ⟨(some 30), .binOp .add 3 (.tmp 15) (.const (.int .i64 1)) 3, none⟩ (
.one ⟨(some 15), .move (.tmp 30), none⟩ .leaf))))))))) (
.seq (.region [] (.one ⟨(some 31), .move (.tmp 0), none⟩ (
.one ⟨(some 32), .move (.tmp 5), none⟩ (
.one ⟨(some 33), .nilCheck (.tmp 31), none⟩ (
.one ⟨(some 34), .fieldAddr 138 (.tmp 33) 0, none⟩ (
.one ⟨none, .store 136 (.tmp 34) (.tmp 32), none⟩ .leaf)))))) (
.seq (.region [] (.one ⟨(some 35), .move (.tmp 4), none⟩ (
.one ⟨(some 4), .assign (.tmp 35), none⟩ .leaf))) (
.ret))))))
theorem ok124 : Tryz.f124.body.bind (comp Tryz.prog 36) = some sc124 := by kernel_rfl
theorem rc124 : Tryz.f124.results.toList = ([(4, none)] : List (Nat × Option TypeId)).map toRV := by kernel_rfl
def fi124 : Fi := ⟨sc124, 36, [(4, none)], false, none, true⟩
theorem fo124 : FnOk Tryz.prog 124 fi124 := ⟨Tryz.f124, Tryz.func124, Tryz.ntmps124, ok124, rc124, fun _ _ _ h => (by cases h), Tryz.call124⟩
/-- slices.SortFunc[[]girandole/api.Want,girandole/api.Want] -/
def sc126 : SC := .seq (.region [] (.one ⟨(some 5), .move (.tmp 0), none⟩ (
.one ⟨(some 6), .call ⟨.builtin .len, #[(.tmp 5)], #[171]⟩, none⟩ (
.one ⟨(some 4), .assign (.tmp 6), none⟩ .leaf)))) (
.region [] (.one ⟨(some 7), .move (.tmp 0), none⟩ (
.one ⟨(some 8), .move (.tmp 4), none⟩ (
.one ⟨(some 9), .move (.tmp 4), none⟩ (
.one ⟨(some 10), .convert 3 80 (.tmp 9), none⟩ (
.one ⟨(some 11), .call ⟨.value (.func 168), #[(.tmp 10)], #[80]⟩, none⟩ (
.one ⟨(some 12), .move (.tmp 1), none⟩ (
.one ⟨(some 13), .call ⟨.value (.func 167), #[(.tmp 7), (.const (.int .i64 0)), (.tmp 8), (.tmp 11), (.tmp 12)], #[171, 3, 3, 3, 237]⟩, none⟩ .leaf))))))))
theorem ok126 : Tryz.f126.body.bind (comp Tryz.prog 14) = some sc126 := by kernel_rfl
theorem rc126 : Tryz.f126.results.toList = ([] : List (Nat × Option TypeId)).map toRV := by kernel_rfl
def fi126 : Fi := ⟨sc126, 14, [], false, none, true⟩
theorem fo126 : FnOk Tryz.prog 126 fi126 := ⟨Tryz.f126, Tryz.func126, Tryz.ntmps126, ok126, rc126, fun _ _ _ h => (by cases h), Tryz.call126⟩
/-- girandole/purse.clip -/
def sc135 : SC := .seq (.region [] (.one ⟨(some 2), .assign (.const (.int .i64 0)), none⟩ .leaf)) (
.seq (.region [] (.one ⟨(some 3), .move (.tmp 0), none⟩ (
.one ⟨(some 4), .call ⟨.builtin .max, #[(.tmp 3), (.const (.int .i64 0))], #[3, 3]⟩, none⟩ (
.one ⟨(some 5), .call ⟨.builtin .min, #[(.tmp 4), (.const (.int .i64 65536))], #[3, 3]⟩, none⟩ (
.one ⟨(some 2), .assign (.tmp 5), none⟩ .leaf))))) (
.ret))
theorem ok135 : Tryz.f135.body.bind (comp Tryz.prog 6) = some sc135 := by kernel_rfl
theorem rc135 : Tryz.f135.results.toList = ([(2, none)] : List (Nat × Option TypeId)).map toRV := by kernel_rfl
def fi135 : Fi := ⟨sc135, 6, [(2, none)], false, none, true⟩
theorem fo135 : FnOk Tryz.prog 135 fi135 := ⟨Tryz.f135, Tryz.func135, Tryz.ntmps135, ok135, rc135, fun _ _ _ h => (by cases h), Tryz.call135⟩
/-- slices.SortStableFunc[[]int,int] -/
def sc137 : SC := .region [] (.one ⟨(some 4), .move (.tmp 0), none⟩ (
.one ⟨(some 5), .move (.tmp 0), none⟩ (
.one ⟨(some 6), .call ⟨.builtin .len, #[(.tmp 5)], #[149]⟩, none⟩ (
.one ⟨(some 7), .move (.tmp 1), none⟩ (
.one ⟨(some 8), .call ⟨.value (.func 174), #[(.tmp 4), (.tmp 6), (.tmp 7)], #[149, 3, 222]⟩, none⟩ .leaf)))))
theorem ok137 : Tryz.f137.body.bind (comp Tryz.prog 9) = some sc137 := by kernel_rfl
theorem rc137 : Tryz.f137.results.toList = ([] : List (Nat × Option TypeId)).map toRV := by kernel_rfl
def fi137 : Fi := ⟨sc137, 9, [], false, none, true⟩
theorem fo137 : FnOk Tryz.prog 137 fi137 := ⟨Tryz.f137, Tryz.func137, Tryz.ntmps137, ok137, rc137, fun _ _ _ h => (by cases h), Tryz.call137⟩
/-- (*girandole/shelf.Shelf).IDs -/
def sc142 : SC := .seq (.region [] (.one ⟨(some 2), .assign (.const (.slice none 0 0)), none⟩ .leaf)) (
.seq (.seq (.region [] (.one ⟨(some 3), .move (.tmp 0), none⟩ (
.one ⟨(some 4), .binOp .eql 98 (.tmp 3) (.const (.pointer none)) 98, none⟩ .leaf))) (
.cond (.tmp 4) (.seq (.region [] (.one ⟨(some 2), .assign (.const (.slice none 0 0)), none⟩ .leaf)) (
.ret)) (
.skip))) (
.seq (.region [] (.one ⟨(some 5), .move (.tmp 0), none⟩ (
.one ⟨(some 6), .nilCheck (.tmp 5), none⟩ (
.one ⟨(some 7), .fieldAddr 148 (.tmp 6) 4, none⟩ (
.one ⟨(some 8), .load 146 (.tmp 7), none⟩ (
.one ⟨(some 9), .call ⟨.value (.func 191), #[(.tmp 8)], #[146]⟩, none⟩ (
.one ⟨(some 10), .call ⟨.value (.func 190), #[(.tmp 9)], #[290]⟩, none⟩ (
.one ⟨(some 2), .assign (.tmp 10), none⟩ .leaf)))))))) (
.ret)))
theorem ok142 : Tryz.f142.body.bind (comp Tryz.prog 11) = some sc142 := by kernel_rfl
theorem rc142 : Tryz.f142.results.toList = ([(2, none)] : List (Nat × Option TypeId)).map toRV := by kernel_rfl
def fi142 : Fi := ⟨sc142, 11, [(2, none)], false, none, true⟩
theorem fo142 : FnOk Tryz.prog 142 fi142 := ⟨Tryz.f142, Tryz.func142, Tryz.ntmps142, ok142, rc142, fun _ _ _ h => (by cases h), Tryz.call142⟩
/-- slices.pdqsortCmpFunc[girandole/api.Want] -/
def sc167 : SC := .seq (.region [] (.one ⟨(some 10), .assign (.const (.bool true)), none⟩ .leaf)) (
.seq (.region [] (.one ⟨(some 11), .assign (.const (.bool true)), none⟩ .leaf)) (
.block 0 (.loop (.block 1 (.seq (.region [] (.one ⟨(some 21), .move (.tmp 2), none⟩ (
.one ⟨(some 22), .move (.tmp 1), none⟩ (
.one ⟨(some 23), .binOp .sub 3 (.tmp 21) (.tmp 22) 3, none⟩ (
.one ⟨(some 12), .assign (.tmp 23), none⟩ .leaf))))) (
.seq (.seq (.region [] (.one ⟨(some 24), .move (.tmp 12), none⟩ (
.one ⟨(some 25), .binOp .leq 3 (.tmp 24) (.const (.int .i64 12)) 3, none⟩ .leaf))) (
.cond (.tmp 25) (.seq (.region [] (.one ⟨(some 26), .move (.tmp 0), none⟩ (
.one ⟨(some 27), .move (.tmp 1), none⟩ (
.one ⟨(some 28), .move (.tmp 2), none⟩ (
.one ⟨(some 29), .move (.tmp 4), none⟩ (
.one ⟨(some 30), .call ⟨.value (.func 208), #[(.tmp 26), (.tmp 27), (.tmp 28), (.tmp 29)], #[171, 3, 3, 237]⟩, none⟩ .leaf)))))) (
.ret)) (
.skip))) (
.seq (.seq (.region [] (.one ⟨(some 31), .move (.tmp 3), none⟩ (
.one ⟨(some 32), .binOp .eql 3 (.tmp 31) (.const (.int .i64 0)) 3, none⟩ .leaf))) (
.cond (.tmp 32) (.seq (.region [] (.one ⟨(some 33), .move (.tmp 0), none⟩ (
.one ⟨(some 34), .move (.tmp 1), none⟩ (
.one ⟨(some 35), .move (.tmp 2), none⟩ (
.one ⟨(some 36), .move (.tmp 4), none⟩ (
.one ⟨(some 37), .call ⟨.value (.func 209), #[(.tmp 33), (.tmp 34), (.tmp 35), (.tmp 36)], #[171, 3, 3, 237]⟩, none⟩ .leaf)))))) (
.ret)) (
.skip))) (
.seq (.seq (.region [] (.one ⟨(some 38), .move (.tmp 10), none⟩ (
.one ⟨(some 39), .unOp .not 4 (.tmp 38), none⟩ .leaf))) (
.cond (.tmp 39) (.seq (.region [] (.one ⟨(some 40), .move (.tmp 0), none⟩ (
.one ⟨(some 41), .move (.tmp 1), none⟩ (
.one ⟨(some 42), .move (.tmp 2), none⟩ (
.one ⟨(some 43), .move (.tmp 4), none⟩ (
.one ⟨(some 44), .call ⟨.value (.func 210), #[(.tmp 40), (.tmp 41), (.tmp 42), (.tmp 43)], #[171, 3, 3, 237]⟩, none⟩ .leaf)))))) (
.region [] (.one ⟨(some 45), .move (.tmp 3), none⟩ (
.one ⟨(some 46), .binOp .sub 3 (.tmp 45) (.const (.int .i64 1)) 3, none⟩ (
.one ⟨(some 3), .assign (.tmp 46), none⟩ .leaf))))) (
.skip))) (
.seq (.region [] (.one ⟨(some 48), .move (.tmp 0), none⟩ (
.one ⟨(some 49), .move (.tmp 1), none⟩ (
.one ⟨(some 50), .move (.tmp 2), none⟩ (
.one ⟨(some 51), .move (.tmp 4), none⟩ (
.one ⟨(some 52), .call ⟨.value (.func 211), #[(.tmp 48), (.tmp 49), (.tmp 50), (.tmp 51)], #[171, 3, 3, 237]⟩, none⟩ (
.one ⟨(some 47), .move (.tmp 52), none⟩ (
.one ⟨(some 53), .extract (.tmp 47) 0, none⟩ (
.one ⟨(some 54), .extract (.tmp 47) 1, none⟩ (
.one ⟨(some 13), .assign (.tmp 53), none⟩ (
.one ⟨(some 14), .assign (.tmp 54), none⟩ .leaf))))))))))) (
.seq (.seq (.region [] (.one ⟨(some 55), .move (.tmp 14), none⟩ (
.one ⟨(some 56), .binOp .eql 313 (.tmp 55) (.const (.int .i64 2)) 313, none⟩ .leaf))) (
.cond (.tmp 56) (.seq (.region [] (.one ⟨(some 57), .move (.tmp 0), none⟩ (
.one ⟨(some 58), .move (.tmp 1), none⟩ (
.one ⟨(some 59), .move (.tmp 2), none⟩ (
.one ⟨(some 60), .move (.tmp 4), none⟩ (
.one ⟨(some 61), .call ⟨.value (.func 212), #[(.tmp 57), (.tmp 58), (.tmp 59), (.tmp 60)], #[171, 3, 3, 237]⟩, none⟩ .leaf)))))) (
.seq (.region [] (.one ⟨(some 62), .move (.tmp 2), none⟩ (
.one ⟨(some 63), .binOp .sub 3 (.tmp 62) (.const (.int .i64 1)) 3, none⟩ (
.one ⟨(some 64), .move (.tmp 13), none⟩ (
.one ⟨(some 65), .move (.tmp 1), none⟩ (
.one ⟨(some 66), .binOp .sub 3 (.tmp 64) (.tmp 65) 3, none⟩ (
.one ⟨(some 67), .binOp .sub 3 (.tmp 63) (.tmp 66) 3, none⟩ (
.one ⟨(some 13), .assign (.tmp 67), none⟩ .leaf)))))))) (
.region [] (.one ⟨(some 14), .assign (.const (.int .i64 1)), none⟩ .leaf)))) (
.skip))) (
.seq (.seq (.region [] (.one ⟨(some 68), .move (.tmp 10), none⟩ (
.one ⟨(some 69), .move (.tmp 68), none⟩ (
.one ⟨(some 70), .move (.tmp 11), some (69, true)⟩ (
.one ⟨(some 71), .pick (.tmp 69) (.tmp 70) (.const (.bool false)), none⟩ (
.one ⟨(some 72), .move (.tmp 71), none⟩ (
.one ⟨(some 73), .move (.tmp 14), some (72, true)⟩ (
.one ⟨(some 74), .binOp .eql 313 (.tmp 73) (.const (.int .i64 1)) 313, some (72, true)⟩ (
.one ⟨(some 75), .pick (.tmp 72) (.tmp 74) (.const (.bool false)), none⟩ .leaf))))))))) (
.cond (.tmp 75) (.seq (.region [] (.one ⟨(some 76), .move (.tmp 0), none⟩ (
.one ⟨(some 77), .move (.tmp 1), none⟩ (
.one ⟨(some 78), .move (.tmp 2), none⟩ (
.one ⟨(some 79), .move (.tmp 4), none⟩ (
.one ⟨(some 80), .call ⟨.value (.func 213), #[(.tmp 76), (.tmp 77), (.tmp 78), (.tmp 79)], #[171, 3, 3, 237]⟩, none⟩ .leaf)))))) (
.cond (.tmp 80) (.ret) (
.skip))) (
.skip))) (
.seq (.seq (.region [81, 82, 83, 84, 85, 86, 87, 88, 89, 90, 91, 92, 93, 94, 95, 96, 97] (.one ⟨(some 81), .move (.tmp 1), none⟩ (
.one ⟨(some 82), .binOp .gtr 3 (.tmp 81) (.const (.int .i64 0)) 3, none⟩ (
.one ⟨(some 83), .move (.tmp 82), none⟩ (
.one ⟨(some 84), .move (.tmp 4), some (83, true)⟩ (
.one ⟨(some 85), .move (.tmp 0), some (83, true)⟩ (
.one ⟨(some 86), .move (.tmp 1), some (83, true)⟩ (
.one ⟨(some 87), .binOp .sub 3 (.tmp 86) (.const (.int .i64 1)) 3, some (83, true)⟩ (
.one ⟨(some 88), .indexAddr 171 (.tmp 85) (.tmp 87), some (83, true)⟩ (
.one ⟨(some 89), .load 180 (.tmp 88), some (83, true)⟩ (
.one ⟨(some 90), .move (.tmp 0), some (83, true)⟩ (
.one ⟨(some 91), .move (.tmp 13), some (83, true)⟩ (
.one ⟨(some 92), .indexAddr 171 (.tmp 90) (.tmp 91), some (83, true)⟩ (
.one ⟨(some 93), .load 180 (.tmp 92), some (83, true)⟩ (
.alt (.one ⟨(some 94), .call ⟨.value (.tmp 84), #[(.tmp 89), (.tmp 93)], #[180, 180]⟩, some (83, true)⟩ (
.one ⟨(some 95), .binOp .lss 3 (.tmp 94) (.const (.int .i64 0)) 3, some (83, true)⟩ (
.one ⟨(some 96), .unOp .not 4 (.tmp 95), some (83, true)⟩ (
.one ⟨(some 97), .pick (.tmp 83) (.tmp 96) (.const (.bool false)), none⟩ .leaf)))) (
.nil)))))))))))))))) (
.cond (.tmp 97) (.seq (.region [] (.one ⟨(some 98), .move (.tmp 0), none⟩ (
.one ⟨(some 99), .move (.tmp 1), none⟩ (
.one ⟨(some 100), .move (.tmp 2), none⟩ (
.one ⟨(some 101), .move (.tmp 13), none⟩ (
.one ⟨(some 102), .move (.tmp 4), none⟩ (
.one ⟨(some 103), .call ⟨.value (.func 214), #[(.tmp 98), (.tmp 99), (.tmp 100), (.tmp 101), (.tmp 102)], #[171, 3, 3, 3, 237]⟩, none⟩ (
.one ⟨(some 15), .assign (.tmp 103), none⟩ .leaf)))))))) (
.seq (.region [] (.one ⟨(some 104), .move (.tmp 15), none⟩ (
.one ⟨(some 1), .assign (.tmp 104), none⟩ .leaf))) (
.exit 1))) (
.skip))) (
.seq (.region [] (.one ⟨(some 106), .move (.tmp 0), none⟩ (
.one ⟨(some 107), .move (.tmp 1), none⟩ (
.one ⟨(some 108), .move (.tmp 2), none⟩ (
.one ⟨(some 109), .move (.tmp 13), none⟩ (
.one ⟨(some 110), .move (.tmp 4), none⟩ (
.one ⟨(some 111), .call ⟨.value (.func 215), #[(.tmp 106), (.tmp 107), (.tmp 108), (.tmp 109), (.tmp 110)], #[171, 3, 3, 3, 237]⟩, none⟩ (
.one ⟨(some 105), .move (.tmp 111), none⟩ (
.one ⟨(some 112), .extract (.tmp 105) 0, none⟩ (
.one ⟨(some 113), .extract (.tmp 105) 1, none⟩ (
.one ⟨(some 16), .assign (.tmp 112), none⟩ (
.one ⟨(some 17), .assign (.tmp 113), none⟩ .leaf)))))))))))) (
.seq (.region [] (.one ⟨(some 114), .move (.tmp 17), none⟩ (
.one ⟨(some 11), .assign (.tmp 114), none⟩ .leaf))) (
.seq (.region [] (.one ⟨(some 115), .move (.tmp 16), none⟩ (
.one ⟨(some 116), .move (.tmp 1), none⟩ (
.one ⟨(some 117), .binOp .sub 3 (.tmp 115) (.tmp 116) 3, none⟩ (
.one ⟨(some 118), .move (.tmp 2), none⟩ (
.one ⟨(some 119), .move (.tmp 16), none⟩ (
.one ⟨(some 120), .binOp .sub 3 (.tmp 118) (.tmp 119) 3, none⟩ (
.one ⟨(some 18), .assign (.tmp 117), none⟩ (
.one ⟨(some 19), .assign (.tmp 120), none⟩ .leaf))))))))) (
.seq (.region [] (.one ⟨(some 121), .move (.tmp 12), none⟩ (
.one ⟨(some 122), .binOp .quo 3 (.tmp 121) (.const (.int .i64 8)) 3, none⟩ (
.one ⟨(some 20), .assign (.tmp 122), none⟩ .leaf)))) (
.seq (.region [] (.one ⟨(some 123), .move (.tmp 18), none⟩ (
.one ⟨(some 124), .move (.tmp 19), none⟩ (
.one ⟨(some 125), .binOp .lss 3 (.tmp 123) (.tmp 124) 3, none⟩ .leaf)))) (
.cond (.tmp 125) (.seq (.region [] (.one ⟨(some 126), .move (.tmp 18), none⟩ (
.one ⟨(some 127), .move (.tmp 20), none⟩ (
.one ⟨(some 128), .binOp .geq 3 (.tmp 126) (.tmp 127) 3, none⟩ (
.one ⟨(some 10), .assign (.tmp 128), none⟩ .leaf))))) (
.seq (.region [] (.one ⟨(some 129), .move (.tmp 0), none⟩ (
.one ⟨(some 130), .move (.tmp 1), none⟩ (
.one ⟨(some 131), .move (.tmp 16), none⟩ (
.one ⟨(some 132), .move (.tmp 3), none⟩ (
.one ⟨(some 133), .move (.tmp 4), none⟩ (
.one ⟨(some 134), .call ⟨.value (.func 167), #[(.tmp 129), (.tmp 130), (.tmp 131), (.tmp 132), (.tmp 133)], #[171, 3, 3, 3, 237]⟩, none⟩ .leaf))))))) (
.region [] (.one ⟨(some 135), .move (.tmp 16), none⟩ (
.one ⟨(some 136), .binOp .add 3 (.tmp 135) (.const (.int .i64 1)) 3, none⟩ (
.one ⟨(some 1), .assign (.tmp 136), none⟩ .leaf)))))) (
.seq (.region [] (.one ⟨(some 137), .move (.tmp 19), none⟩ (
.one ⟨(some 138), .move (.tmp 20), none⟩ (
.one ⟨(some 139), .binOp .geq 3 (.tmp 137) (.tmp 138) 3, none⟩ (
.one ⟨(some 10), .assign (.tmp 139), none⟩ .leaf))))) (
.seq (.region [] (.one ⟨(some 140), .move (.tmp 0), none⟩ (
.one ⟨(some 141), .move (.tmp 16), none⟩ (
.one ⟨(some 142), .binOp .add 3 (.tmp 141) (.const (.int .i64 1)) 3, none⟩ (
.one ⟨(some 143), .move (.tmp 2), none⟩ (
.one ⟨(some 144), .move (.tmp 3), none⟩ (
.one ⟨(some 145), .move (.tmp 4), none⟩ (
.one ⟨(some 146), .call ⟨.value (.func 167), #[(.tmp 140), (.tmp 142), (.tmp 143), (.tmp 144), (.tmp 145)], #[171, 3, 3, 3, 237]⟩, none⟩ .leaf)))))))) (
.region [] (.one ⟨(some 147), .move (.tmp 16), none⟩ (
.one ⟨(some 2), .assign (.tmp 147), none⟩ .leaf)))))))))))))))))))))))
theorem ok167 : Tryz.f167.body.bind (comp Tryz.prog 148) = some sc167 := by kernel_rfl
theorem rc167 : Tryz.f167.results.toList = ([] : List (Nat × Option TypeId)).map toRV := by kernel_rfl
def fi167 : Fi := ⟨sc167, 148, [], false, none, true⟩
theorem fo167 : FnOk Tryz.prog 167 fi167 := ⟨Tryz.f167, Tryz.func167, Tryz.ntmps167, ok167, rc167, fun _ _ _ h => (by cases h), Tryz.call167⟩
/-- math/bits.Len -/
def sc168 : SC := .seq (.region [] (.one ⟨(some 2), .assign (.const (.int .i64 0)), none⟩ .leaf)) (
.seq (.cond (.const (.bool false)) (.seq (.region [] (.one ⟨(some 3), .move (.tmp 0), none⟩ (
.one ⟨(some 4), .convert 80 31 (.tmp 3), none⟩ (
.one ⟨(some 5), .call ⟨.value (.func 216), #[(.tmp 4)], #[31]⟩, none⟩ (
.one ⟨(some 2), .assign (.tmp 5), none⟩ .leaf))))) (
.ret)) (
.skip)) (
.seq (.region [] (.one ⟨(some 6), .move (.tmp 0), none⟩ (
.one ⟨(some 7), .call ⟨.value (.func 217), #[(.tmp 6)], #[71]⟩, none⟩ (
.one ⟨(some 2), .assign (.tmp 7), none⟩ .leaf)))) (
.ret)))
theorem ok168 : Tryz.f168.body.bind (comp Tryz.prog 8) = some sc168 := by kernel_rfl
theorem rc168 : Tryz.f168.results.toList = ([(2, none)] : List (Nat × Option TypeId)).map toRV := by kernel_rfl
def fi168 : Fi := ⟨sc168, 8, [(2, none)], false, none, true⟩
theorem fo168 : FnOk Tryz.prog 168 fi168 := ⟨Tryz.f168, Tryz.func168, Tryz.ntmps168, ok168, rc168, fun _ _ _ h => (by cases h), Tryz.call168⟩
/-- slices.stableCmpFunc[int] -/
def sc174 : SC := .seq (.region [] (.one ⟨(some 6), .assign (.const (.int .i64 20)), none⟩ .leaf)) (
.seq (.region [] (.one ⟨(some 10), .move (.tmp 6), none⟩ (
.one ⟨(some 7), .assign (.const (.int .i64 0)), none⟩ (
.one ⟨(some 8), .assign (.tmp 10), none⟩ .leaf)))) (
.seq (.block 0 (.loop (.seq (.seq (.region [] (.one ⟨(some 11), .move (.tmp 8), none⟩ (
.one ⟨(some 12), .move (.tmp 1), none⟩ (
.one ⟨(some 13), .binOp .leq 3 (.tmp 11) (.tmp 12) 3, none⟩ .leaf)))) (
.cond (.tmp 13) (.skip) (
.exit 0))) (
.block 1 (.seq (.region [] (.one ⟨(some 14), .move (.tmp 0), none⟩ (
.one ⟨(some 15), .move (.tmp 7), none⟩ (
.one ⟨(some 16), .move (.tmp 8), none⟩ (
.one ⟨(some 17), .move (.tmp 2), none⟩ (
.one ⟨(some 18), .call ⟨.value (.func 222), #[(.tmp 14), (.tmp 15), (.tmp 16), (.tmp 17)], #[149, 3, 3, 222]⟩, none⟩ .leaf)))))) (
.seq (.region [] (.one ⟨(some 19), .move (.tmp 8), none⟩ (
.one ⟨(some 7), .assign (.tmp 19), none⟩ .leaf))) (
.region [] (.one ⟨(some 20), .move (.tmp 8), none⟩ (
.one ⟨(some 21), .move (.tmp 6), none⟩ (
.one ⟨(some 22), .binOp .add 3 (.tmp 20) (.tmp 21) 3, none⟩ (
.one ⟨(some 8), .assign (.tmp 22), none⟩ .leaf))))))))))) (
.seq (.region [] (.one ⟨(some 23), .move (.tmp 0), none⟩ (
.one ⟨(some 24), .move (.tmp 7), none⟩ (
.one ⟨(some 25), .move (.tmp 1), none⟩ (
.one ⟨(some 26), .move (.tmp 2), none⟩ (
.one ⟨(some 27), .call ⟨.value (.func 222), #[(.tmp 23), (.tmp 24), (.tmp 25), (.tmp 26)], #[149, 3, 3, 222]⟩, none⟩ .leaf)))))) (
.block 2 (.loop (.seq (.seq (.region [] (.one ⟨(some 28), .move (.tmp 6), none⟩ (
.one ⟨(some 29), .move (.tmp 1), none⟩ (
.one ⟨(some 30), .binOp .lss 3 (.tmp 28) (.tmp 29) 3, none⟩ .leaf)))) (
.cond (.tmp 30) (.skip) (
.exit 2))) (
.block 3 (.seq (.region [] (.one ⟨(some 31), .move (.tmp 6), none⟩ (
.one ⟨(some 32), .binOp .mul 3 (.const (.int .i64 2)) (.tmp 31) 3, none⟩ (
.one ⟨(some 7), .assign (.const (.int .i64 0)), none⟩ (
.one ⟨(some 8), .assign (.tmp 32), none⟩ .leaf))))) (
.seq (.block 4 (.loop (.seq (.seq (.region [] (.one ⟨(some 33), .move (.tmp 8), none⟩ (
.one ⟨(some 34), .move (.tmp 1), none⟩ (
.one ⟨(some 35), .binOp .leq 3 (.tmp 33) (.tmp 34) 3, none⟩ .leaf)))) (
.cond (.tmp 35) (.skip) (
.exit 4))) (
.block 5 (.seq (.region [] (.one ⟨(some 36), .move (.tmp 0), none⟩ (
.one ⟨(some 37), .move (.tmp 7), none⟩ (
.one ⟨(some 38), .move (.tmp 7), none⟩ (
.one ⟨(some 39), .move (.tmp 6), none⟩ (
.one ⟨(some 40), .binOp .add 3 (.tmp 38) (.tmp 39) 3, none⟩ (
.one ⟨(some 41), .move (.tmp 8), none⟩ (
.one ⟨(some 42), .move (.tmp 2), none⟩ (
.one ⟨(some 43), .call ⟨.value (.func 223), #[(.tmp 36), (.tmp 37), (.tmp 40), (.tmp 41), (.tmp 42)], #[149, 3, 3, 3, 222]⟩, none⟩ .leaf))))))))) (
.seq (.region [] (.one ⟨(some 44), .move (.tmp 8), none⟩ (
.one ⟨(some 7), .assign (.tmp 44), none⟩ .leaf))) (
.region [] (.one ⟨(some 45), .move (.tmp 8), none⟩ (
.one ⟨(some 46), .move (.tmp 6), none⟩ (
.one ⟨(some 47), .binOp .mul 3 (.const (.int .i64 2)) (.tmp 46) 3, none⟩ (
.one ⟨(some 48), .binOp .add 3 (.tmp 45) (.tmp 47) 3, none⟩ (
.one ⟨(some 8), .assign (.tmp 48), none⟩ .leaf)))))))))))) (
.seq (.seq (.region [] (.one ⟨(some 49), .move (.tmp 7), none⟩ (
.one ⟨(some 50), .move (.tmp 6), none⟩ (
.one ⟨(some 51), .binOp .add 3 (.tmp 49) (.tmp 50) 3, none⟩ (
.one ⟨(some 9), .assign (.tmp 51), none⟩ .leaf))))) (
.seq (.region [] (.one ⟨(some 52), .move (.tmp 9), none⟩ (
.one ⟨(some 53), .move (.tmp 1), none⟩ (
.one ⟨(some 54), .binOp .lss 3 (.tmp 52) (.tmp 53) 3, none⟩ .leaf)))) (
.cond (.tmp 54) (.region [] (.one ⟨(some 55), .move (.tmp 0), none⟩ (
.one ⟨(some 56), .move (.tmp 7), none⟩ (
.one ⟨(some 57), .move (.tmp 9), none⟩ (
.one ⟨(some 58), .move (.tmp 1), none⟩ (
.one ⟨(some 59), .move (.tmp 2), none⟩ (
.one ⟨(some 60), .call ⟨.value (.func 223), #[(.tmp 55), (.tmp 56), (.tmp 57), (.tmp 58), (.tmp 59)], #[149, 3, 3, 3, 222]⟩, none⟩ .leaf))))))) (
.skip)))) (
.region [] (.one ⟨(some 61), .move (.tmp 6), none⟩ (
.one ⟨(some 62), .binOp .mul 3 (.tmp 61) (.const (.int .i64 2)) 3, none⟩ (
.one ⟨(some 6), .assign (.tmp 62), none⟩ .leaf))))))))))))))
theorem ok174 : Tryz.f174.body.bind (comp Tryz.prog 63) = some sc174 := by kernel_rfl
theorem rc174 : Tryz.f174.results.toList = ([] : List (Nat × Option TypeId)).map toRV := by kernel_rfl
def fi174 : Fi := ⟨sc174, 63, [], false, none, true⟩
theorem fo174 : FnOk Tryz.prog 174 fi174 := ⟨Tryz.f174, Tryz.func174, Tryz.ntmps174, ok174, rc174, fun _ _ _ h => (by cases h), Tryz.call174⟩
/-- slices.Sorted[uint32] -/
def sc190 : SC := .seq (.region [] (.one ⟨(some 2), .assign (.const (.slice none 0 0)), none⟩ .leaf)) (
.seq (.region [] (.one ⟨(some 4), .move (.tmp 0), none⟩ (
.one ⟨(some 5), .call ⟨.value (.func 231), #[(.tmp 4)], #[290]⟩, none⟩ (
.one ⟨(some 3), .assign (.tmp 5), none⟩ .leaf)))) (
.seq (.region [] (.one ⟨(some 6), .move (.tmp 3), none⟩ (
.one ⟨(some 7), .call ⟨.value (.func 232), #[(.tmp 6)], #[32]⟩, none⟩ .leaf))) (
.seq (.region [] (.one ⟨(some 8), .move (.tmp 3), none⟩ (
.one ⟨(some 2), .assign (.tmp 8), none⟩ .leaf))) (
.ret))))
theorem ok190 : Tryz.f190.body.bind (comp Tryz.prog 9) = some sc190 := by kernel_rfl
theorem rc190 : Tryz.f190.results.toList = ([(2, none)] : List (Nat × Option TypeId)).map toRV := by kernel_rfl
def fi190 : Fi := ⟨sc190, 9, [(2, none)], false, none, true⟩
theorem fo190 : FnOk Tryz.prog 190 fi190 := ⟨Tryz.f190, Tryz.func190, Tryz.ntmps190, ok190, rc190, fun _ _ _ h => (by cases h), Tryz.call190⟩
/-- maps.Keys[map[uint32]girandole/shelf.block,uint32,girandole/shelf.block] -/
def sc191 : SC := .seq (.region [] (.one ⟨(some 1), .box 146 (.tmp 0), none⟩ (
.one ⟨(some 2), .assign (.const .nilFunc), none⟩ .leaf))) (
.seq (.region [] (.one ⟨(some 3), .makeFunc (.func 233) #[] #[(.tmp 1)], none⟩ (
.one ⟨(some 2), .assign (.tmp 3), none⟩ .leaf))) (
.ret))
theorem ok191 : Tryz.f191.body.bind (comp Tryz.prog 4) = some sc191 := by kernel_rfl
theorem rc191 : Tryz.f191.results.toList = ([(2, none)] : List (Nat × Option TypeId)).map toRV := by kernel_rfl
def fi191 : Fi := ⟨sc191, 4, [(2, none)], false, none, true⟩
theorem fo191 : FnOk Tryz.prog 191 fi191 := ⟨Tryz.f191, Tryz.func191, Tryz.ntmps191, ok191, rc191, fun _ _ _ h => (by cases h), Tryz.call191⟩
/-- slices.insertionSortCmpFunc[girandole/api.Want] -/
def sc208 : SC := .seq (.region [] (.one ⟨(some 10), .move (.tmp 1), none⟩ (
.one ⟨(some 11), .binOp .add 3 (.tmp 10) (.const (.int .i64 1)) 3, none⟩ (
.one ⟨(some 8), .assign (.tmp 11), none⟩ .leaf)))) (
.block 0 (.loop (.seq (.seq (.region [] (.one ⟨(some 12), .move (.tmp 8), none⟩ (
.one ⟨(some 13), .move (.tmp 2), none⟩ (
.one ⟨(some 14), .binOp .lss 3 (.tmp 12) (.tmp 13) 3, none⟩ .leaf)))) (
.cond (.tmp 14) (.skip) (
.exit 0))) (
.seq (.block 1 (.seq (.region [] (.one ⟨(some 17), .move (.tmp 8), none⟩ (
.one ⟨(some 9), .assign (.tmp 17), none⟩ .leaf))) (
.block 2 (.loop (.seq (.seq (.region [18, 19, 20, 21, 22, 23, 24, 25, 26, 27, 28, 29, 30, 31, 32, 33, 34] (.one ⟨(some 18), .move (.tmp 9), none⟩ (
.one ⟨(some 19), .move (.tmp 1), none⟩ (
.one ⟨(some 20), .binOp .gtr 3 (.tmp 18) (.tmp 19) 3, none⟩ (
.one ⟨(some 21), .move (.tmp 20), none⟩ (
.one ⟨(some 22), .move (.tmp 3), some (21, true)⟩ (
.one ⟨(some 23), .move (.tmp 0), some (21, true)⟩ (
.one ⟨(some 24), .move (.tmp 9), some (21, true)⟩ (
.one ⟨(some 25), .indexAddr 171 (.tmp 23) (.tmp 24), some (21, true)⟩ (
.one ⟨(some 26), .load 180 (.tmp 25), some (21, true)⟩ (
.one ⟨(some 27), .move (.tmp 0), some (21, true)⟩ (
.one ⟨(some 28), .move (.tmp 9), some (21, true)⟩ (
.one ⟨(some 29), .binOp .sub 3 (.tmp 28) (.const (.int .i64 1)) 3, some (21, true)⟩ (
.one ⟨(some 30), .indexAddr 171 (.tmp 27) (.tmp 29), some (21, true)⟩ (
.one ⟨(some 31), .load 180 (.tmp 30), some (21, true)⟩ (
.alt (.one ⟨(some 32), .call ⟨.value (.tmp 22), #[(.tmp 26), (.tmp 31)], #[180, 180]⟩, some (21, true)⟩ (
.one ⟨(some 33), .binOp .lss 3 (.tmp 32) (.const (.int .i64 0)) 3, some (21, true)⟩ (
.one ⟨(some 34), .pick (.tmp 21) (.tmp 33) (.const (.bool false)), none⟩ .leaf))) (
.nil))))))))))))))))) (
.cond (.tmp 34) (.skip) (
.exit 2))) (
.seq (.block 3 (.region [37, 38, 39, 40, 41, 42, 43, 44, 45, 46, 47, 48, 49, 50, 51, 52] (.one ⟨(some 37), .move (.tmp 0), none⟩ (
.one ⟨(some 38), .move (.tmp 9), none⟩ (
.one ⟨(some 39), .move (.tmp 0), none⟩ (
.one ⟨(some 40), .move (.tmp 9), none⟩ (
.one ⟨(some 41), .binOp .sub 3 (.tmp 40) (.const (.int .i64 1)) 3, none⟩ (
.one ⟨(some 42), .move (.tmp 0), none⟩ (
.one ⟨(some 43), .move (.tmp 9), none⟩ (
.one ⟨(some 44), .binOp .sub 3 (.tmp 43) (.const (.int .i64 1)) 3, none⟩ (
.one ⟨(some 45), .indexAddr 171 (.tmp 42) (.tmp 44), none⟩ (
.one ⟨(some 46), .load 180 (.tmp 45), none⟩ (
.one ⟨(some 47), .move (.tmp 0), none⟩ (
.one ⟨(some 48), .move (.tmp 9), none⟩ (
.one ⟨(some 49), .indexAddr 171 (.tmp 47) (.tmp 48), none⟩ (
.one ⟨(some 50), .load 180 (.tmp 49), none⟩ (
.one ⟨(some 51), .indexAddr 171 (.tmp 37) (.tmp 38), none⟩ (
.alt (.one ⟨none, .store 180 (.tmp 51) (.tmp 46), none⟩ (
.one ⟨(some 52), .indexAddr 171 (.tmp 39) (.tmp 41), none⟩ (
.alt (.one ⟨none, .store 180 (.tmp 52) (.tmp 50), none⟩ .leaf) (
.nil)))) (
.nil))))))))))))))))))) (
.region [] (.one ⟨(some 35), .move (.tmp 9), none⟩ (
.one ⟨(some 36), .binOp .sub 3 (.tmp 35) (.const (.int .i64 1)) 3, none⟩ (
.one ⟨(some 9), .assign (.tmp 36), none⟩ .leaf)))))))))) (
.region [] (.one ⟨(some 15), .move (.tmp 8), none⟩ (
.one ⟨(some 16), .binOp .add 3 (.tmp 15) (.const (.int .i64 1)) 3, none⟩ (
.one ⟨(some 8), .assign (.tmp 16), none⟩ .leaf))))))))
theorem ok208 : Tryz.f208.body.bind (comp Tryz.prog 53) = some sc208 := by kernel_rfl
theorem rc208 : Tryz.f208.results.toList = ([] : List (Nat × Option TypeId)).map toRV := by kernel_rfl
def fi208 : Fi := ⟨sc208, 53, [], false, none, true⟩
theorem fo208 : FnOk Tryz.prog 208 fi208 := ⟨Tryz.f208, Tryz.func208, Tryz.ntmps208, ok208, rc208, fun _ _ _ h => (by cases h), Tryz.call208⟩
/-- math/bits.Len64 -/
def sc217 : SC := .seq (.region [] (.one ⟨(some 2), .assign (.const (.int .i64 0)), none⟩ .leaf)) (
.seq (.seq (.region [] (.one ⟨(some 3), .move (.tmp 0), none⟩ (
.one ⟨(some 4), .binOp .geq 71 (.tmp 3) (.const (.int .u64 4294967296)) 71, none⟩ .leaf))) (
.cond (.tmp 4) (.seq (.region [] (.one ⟨(some 5), .move (.tmp 0), none⟩ (
.one ⟨(some 6), .binOp .shr 71 (.tmp 5) (.const (.int .u64 32)) 80, none⟩ (
.one ⟨(some 0), .assign (.tmp 6), none⟩ .leaf)))) (
.region [] (.one ⟨(some 2), .assign (.const (.int .i64 32)), none⟩ .leaf))) (
.skip))) (
.seq (.seq (.region [] (.one ⟨(some 7), .move (.tmp 0), none⟩ (
.one ⟨(some 8), .binOp .geq 71 (.tmp 7) (.const (.int .u64 65536)) 71, none⟩ .leaf))) (
.cond (.tmp 8) (.seq (.region [] (.one ⟨(some 9), .move (.tmp 0), none⟩ (
.one ⟨(some 10), .binOp .shr 71 (.tmp 9) (.const (.int .u64 16)) 80, none⟩ (
.one ⟨(some 0), .assign (.tmp 10), none⟩ .leaf)))) (
.region [] (.one ⟨(some 11), .move (.tmp 2), none⟩ (
.one ⟨(some 12), .binOp .add 3 (.tmp 11) (.const (.int .i64 16)) 3, none⟩ (
.one ⟨(some 2), .assign (.tmp 12), none⟩ .leaf))))) (
.skip))) (
.seq (.seq (.region [] (.one ⟨(some 13), .move (.tmp 0), none⟩ (
.one ⟨(some 14), .binOp .geq 71 (.tmp 13) (.const (.int .u64 256)) 71, none⟩ .leaf))) (
.cond (.tmp 14) (.seq (.region [] (.one ⟨(some 15), .move (.tmp 0), none⟩ (
.one ⟨(some 16), .binOp .shr 71 (.tmp 15) (.const (.int .u64 8)) 80, none⟩ (
.one ⟨(some 0), .assign (.tmp 16), none⟩ .leaf)))) (
.region [] (.one ⟨(some 17), .move (.tmp 2), none⟩ (
.one ⟨(some 18), .binOp .add 3 (.tmp 17) (.const (.int .i64 8)) 3, none⟩ (
.one ⟨(some 2), .assign (.tmp 18), none⟩ .leaf))))) (
.skip))) (
.seq (.region [] (.one ⟨(some 19), .move (.tmp 2), none⟩ (
.one ⟨(some 20), .move (.tmp 0), none⟩ (
.one ⟨(some 21), .convert 71 5 (.tmp 20), none⟩ (
.one ⟨(some 22), .index 9 (.const (.string ⟨#[0, 1, 2, 2, 3, 3, 3, 3, 4, 4, 4, 4, 4, 4, 4, 4, 5, 5, 5, 5, 5, 5, 5, 5, 5, 5, 5, 5, 5, 5, 5, 5, 6, 6, 6, 6, 6, 6, 6, 6, 6, 6, 6, 6, 6, 6, 6, 6, 6, 6, 6, 6, 6, 6, 6, 6, 6, 6, 6, 6, 6, 6, 6, 6, 7, 7, 7, 7, 7, 7, 7, 7, 7, 7, 7, 7, 7, 7, 7, 7, 7, 7, 7, 7, 7, 7, 7, 7, 7, 7, 7, 7, 7, 7, 7, 7, 7, 7, 7, 7, 7, 7, 7, 7, 7, 7, 7, 7, 7, 7, 7, 7, 7, 7, 7, 7, 7, 7, 7, 7, 7, 7, 7, 7, 7, 7, 7, 7, 8, 8, 8, 8, 8, 8, 8, 8, 8, 8, 8, 8, 8, 8, 8, 8, 8, 8, 8, 8, 8, 8, 8, 8, 8, 8, 8, 8, 8, 8, 8, 8, 8, 8, 8, 8, 8, 8, 8, 8, 8, 8, 8, 8, 8, 8, 8, 8, 8, 8, 8, 8, 8, 8, 8, 8, 8, 8, 8, 8, 8, 8, 8, 8, 8, 8, 8, 8, 8, 8, 8, 8, 8, 8, 8, 8, 8, 8, 8, 8, 8, 8, 8, 8, 8, 8, 8, 8, 8, 8, 8, 8, 8, 8, 8, 8, 8, 8, 8, 8, 8, 8, 8, 8, 8, 8, 8, 8, 8, 8, 8, 8, 8, 8, 8, 8, 8, 8, 8, 8, 8, 8, 8, 8, 8, 8, 8, 8]⟩)) (.tmp 21), none⟩ (
.one ⟨(some 23), .convert 5 3 (.tmp 22), none⟩ (
.one ⟨(some 24), .binOp .add 3 (.tmp 19) (.tmp 23) 3, none⟩ (
.one ⟨(some 2), .assign (.tmp 24), none⟩ .leaf)))))))) (
.ret)))))
theorem ok217 : Tryz.f217.body.bind (comp Tryz.prog 25) = some sc217 := by kernel_rfl
theorem rc217 : Tryz.f217.results.toList = ([(2, none)] : List (Nat × Option TypeId)).map toRV := by kernel_rfl
def fi217 : Fi := ⟨sc217, 25, [(2, none)], false, none, true⟩
theorem fo217 : FnOk Tryz.prog 217 fi217 := ⟨Tryz.f217, Tryz.func217, Tryz.ntmps217, ok217, rc217, fun _ _ _ h => (by cases h), Tryz.call217⟩
/-- slices.insertionSortCmpFunc[int] -/
def sc222 : SC := .seq (.region [] (.one ⟨(some 10), .move (.tmp 1), none⟩ (
.one ⟨(some 11), .binOp .add 3 (.tmp 10) (.const (.int .i64 1)) 3, none⟩ (
.one ⟨(some 8), .assign (.tmp 11), none⟩ .leaf)))) (
.block 0 (.loop (.seq (.seq (.region [] (.one ⟨(some 12), .move (.tmp 8), none⟩ (
.one ⟨(some 13), .move (.tmp 2), none⟩ (
.one ⟨(some 14), .binOp .lss 3 (.tmp 12) (.tmp 13) 3, none⟩ .leaf)))) (
.cond (.tmp 14) (.skip) (
.exit 0))) (
.seq (.block 1 (.seq (.region [] (.one ⟨(some 17), .move (.tmp 8), none⟩ (
.one ⟨(some 9), .assign (.tmp 17), none⟩ .leaf))) (
.block 2 (.loop (.seq (.seq (.region [18, 19, 20, 21, 22, 23, 24, 25, 26, 27, 28, 29, 30, 31, 32, 33, 34] (.one ⟨(some 18), .move (.tmp 9), none⟩ (
.one ⟨(some 19), .move (.tmp 1), none⟩ (
.one ⟨(some 20), .binOp .gtr 3 (.tmp 18) (.tmp 19) 3, none⟩ (
.one ⟨(some 21), .move (.tmp 20), none⟩ (
.one ⟨(some 22), .move (.tmp 3), some (21, true)⟩ (
.one ⟨(some 23), .move (.tmp 0), some (21, true)⟩ (
.one ⟨(some 24), .move (.tmp 9), some (21, true)⟩ (
.one ⟨(some 25), .indexAddr 149 (.tmp 23) (.tmp 24), some (21, true)⟩ (
.one ⟨(some 26), .load 3 (.tmp 25), some (21, true)⟩ (
.one ⟨(some 27), .move (.tmp 0), some (21, true)⟩ (
.one ⟨(some 28), .move (.tmp 9), some (21, true)⟩ (
.one ⟨(some 29), .binOp .sub 3 (.tmp 28) (.const (.int .i64 1)) 3, some (21, true)⟩ (
.one ⟨(some 30), .indexAddr 149 (.tmp 27) (.tmp 29), some (21, true)⟩ (
.one ⟨(some 31), .load 3 (.tmp 30), some (21, true)⟩ (
.alt (.one ⟨(some 32), .call ⟨.value (.tmp 22), #[(.tmp 26), (.tmp 31)], #[3, 3]⟩, some (21, true)⟩ (
.one ⟨(some 33), .binOp .lss 3 (.tmp 32) (.const (.int .i64 0)) 3, some (21, true)⟩ (
.one ⟨(some 34), .pick (.tmp 21) (.tmp 33) (.const (.bool false)), none⟩ .leaf))) (
.nil))))))))))))))))) (
.cond (.tmp 34) (.skip) (
.exit 2))) (
.seq (.block 3 (.region [37, 38, 39, 40, 41, 42, 43, 44, 45, 46, 47, 48, 49, 50, 51, 52] (.one ⟨(some 37), .move (.tmp 0), none⟩ (
.one ⟨(some 38), .move (.tmp 9), none⟩ (
.one ⟨(some 39), .move (.tmp 0), none⟩ (
.one ⟨(some 40), .move (.tmp 9), none⟩ (
.one ⟨(some 41), .binOp .sub 3 (.tmp 40) (.const (.int .i64 1)) 3, none⟩ (
.one ⟨(some 42), .move (.tmp 0), none⟩ (
.one ⟨(some 43), .move (.tmp 9), none⟩ (
.one ⟨(some 44), .binOp .sub 3 (.tmp 43) (.const (.int .i64 1)) 3, none⟩ (
.one ⟨(some 45), .indexAddr 149 (.tmp 42) (.tmp 44), none⟩ (
.one ⟨(some 46), .load 3 (.tmp 45), none⟩ (
.one ⟨(some 47), .move (.tmp 0), none⟩ (
.one ⟨(some 48), .move (.tmp 9), none⟩ (
.one ⟨(some 49), .indexAddr 149 (.tmp 47) (.tmp 48), none⟩ (
.one ⟨(some 50), .load 3 (.tmp 49), none⟩ (
.one ⟨(some 51), .indexAddr 149 (.tmp 37) (.tmp 38), none⟩ (
.alt (.one ⟨none, .store 3 (.tmp 51) (.tmp 46), none⟩ (
.one ⟨(some 52), .indexAddr 149 (.tmp 39) (.tmp 41), none⟩ (
.alt (.one ⟨none, .store 3 (.tmp 52) (.tmp 50), none⟩ .leaf) (
.nil)))) (
.nil))))))))))))))))))) (
.region [] (.one ⟨(some 35), .move (.tmp 9), none⟩ (
.one ⟨(some 36), .binOp .sub 3 (.tmp 35) (.const (.int .i64 1)) 3, none⟩ (
.one ⟨(some 9), .assign (.tmp 36), none⟩ .leaf)))))))))) (
.region [] (.one ⟨(some 15), .move (.tmp 8), none⟩ (
.one ⟨(some 16), .binOp .add 3 (.tmp 15) (.const (.int .i64 1)) 3, none⟩ (
.one ⟨(some 8), .assign (.tmp 16), none⟩ .leaf))))))))
theorem ok222 : Tryz.f222.body.bind (comp Tryz.prog 53) = some sc222 := by kernel_rfl
theorem rc222 : Tryz.f222.results.toList = ([] : List (Nat × Option TypeId)).map toRV := by kernel_rfl
def fi222 : Fi := ⟨sc222, 53, [], false, none, true⟩
theorem fo222 : FnOk Tryz.prog 222 fi222 := ⟨Tryz.f222, Tryz.func222, Tryz.ntmps222, ok222, rc222, fun _ _ _ h => (by cases h), Tryz.call222⟩
/-- slices.Sort[[]uint32,uint32] -/
def sc232 : SC := .seq (.region [] (.one ⟨(some 3), .move (.tmp 0), none⟩ (
.one ⟨(some 4), .call ⟨.builtin .len, #[(.tmp 3)], #[32]⟩, none⟩ (
.one ⟨(some 2), .assign (.tmp 4), none⟩ .leaf)))) (
.region [] (.one ⟨(some 5), .move (.tmp 0), none⟩ (
.one ⟨(some 6), .move (.tmp 2), none⟩ (
.one ⟨(some 7), .move (.tmp 2), none⟩ (
.one ⟨(some 8), .convert 3 80 (.tmp 7), none⟩ (
.one ⟨(some 9), .call ⟨.value (.func 168), #[(.tmp 8)], #[80]⟩, none⟩ (
.one ⟨(some 10), .call ⟨.value (.func 260), #[(.tmp 5), (.const (.int .i64 0)), (.tmp 6), (.tmp 9)], #[32, 3, 3, 3]⟩, none⟩ .leaf)))))))
theorem ok232 : Tryz.f232.body.bind (comp Tryz.prog 11) = some sc232 := by kernel_rfl
theorem rc232 : Tryz.f232.results.toList = ([] : List (Nat × Option TypeId)).map toRV := by kernel_rfl
def fi232 : Fi := ⟨sc232, 11, [], false, none, true⟩
theorem fo232 : FnOk Tryz.prog 232 fi232 := ⟨Tryz.f232, Tryz.func232, Tryz.ntmps232, ok232, rc232, fun _ _ _ h => (by cases h), Tryz.call232⟩
/-- slices.pdqsortOrdered[uint32] -/
def sc260 : SC := .seq (.region [] (.one ⟨(some 8), .assign (.const (.bool true)), none⟩ .leaf)) (
.seq (.region [] (.one ⟨(some 9), .assign (.const (.bool true)), none⟩ .leaf)) (
.block 0 (.loop (.block 1 (.seq (.region [] (.one ⟨(some 19), .move (.tmp 2), none⟩ (
.one ⟨(some 20), .move (.tmp 1), none⟩ (
.one ⟨(some 21), .binOp .sub 3 (.tmp 19) (.tmp 20) 3, none⟩ (
.one ⟨(some 10), .assign (.tmp 21), none⟩ .leaf))))) (
.seq (.seq (.region [] (.one ⟨(some 22), .move (.tmp 10), none⟩ (
.one ⟨(some 23), .binOp .leq 3 (.tmp 22) (.const (.int .i64 12)) 3, none⟩ .leaf))) (
.cond (.tmp 23) (.seq (.region [] (.one ⟨(some 24), .move (.tmp 0), none⟩ (
.one ⟨(some 25), .move (.tmp 1), none⟩ (
.one ⟨(some 26), .move (.tmp 2), none⟩ (
.one ⟨(some 27), .call ⟨.value (.func 266), #[(.tmp 24), (.tmp 25), (.tmp 26)], #[32, 3, 3]⟩, none⟩ .leaf))))) (
.ret)) (
.skip))) (
.seq (.seq (.region [] (.one ⟨(some 28), .move (.tmp 3), none⟩ (
.one ⟨(some 29), .binOp .eql 3 (.tmp 28) (.const (.int .i64 0)) 3, none⟩ .leaf))) (
.cond (.tmp 29) (.seq (.region [] (.one ⟨(some 30), .move (.tmp 0), none⟩ (
.one ⟨(some 31), .move (.tmp 1), none⟩ (
.one ⟨(some 32), .move (.tmp 2), none⟩ (
.one ⟨(some 33), .call ⟨.value (.func 267), #[(.tmp 30), (.tmp 31), (.tmp 32)], #[32, 3, 3]⟩, none⟩ .leaf))))) (
.ret)) (
.skip))) (
.seq (.seq (.region [] (.one ⟨(some 34), .move (.tmp 8), none⟩ (
.one ⟨(some 35), .unOp .not 4 (.tmp 34), none⟩ .leaf))) (
.cond (.tmp 35) (.seq (.region [] (.one ⟨(some 36), .move (.tmp 0), none⟩ (
.one ⟨(some 37), .move (.tmp 1), none⟩ (
.one ⟨(some 38), .move (.tmp 2), none⟩ (
.one ⟨(some 39), .call ⟨.value (.func 268), #[(.tmp 36), (.tmp 37), (.tmp 38)], #[32, 3, 3]⟩, none⟩ .leaf))))) (
.region [] (.one ⟨(some 40), .move (.tmp 3), none⟩ (
.one ⟨(some 41), .binOp .sub 3 (.tmp 40) (.const (.int .i64 1)) 3, none⟩ (
.one ⟨(some 3), .assign (.tmp 41), none⟩ .leaf))))) (
.skip))) (
.seq (.region [] (.one ⟨(some 43), .move (.tmp 0), none⟩ (
.one ⟨(some 44), .move (.tmp 1), none⟩ (
.one ⟨(some 45), .move (.tmp 2), none⟩ (
.one ⟨(some 46), .call ⟨.value (.func 269), #[(.tmp 43), (.tmp 44), (.tmp 45)], #[32, 3, 3]⟩, none⟩ (
.one ⟨(some 42), .move (.tmp 46), none⟩ (
.one ⟨(some 47), .extract (.tmp 42) 0, none⟩ (
.one ⟨(some 48), .extract (.tmp 42) 1, none⟩ (
.one ⟨(some 11), .assign (.tmp 47), none⟩ (
.one ⟨(some 12), .assign (.tmp 48), none⟩ .leaf)))))))))) (
.seq (.seq (.region [] (.one ⟨(some 49), .move (.tmp 12), none⟩ (
.one ⟨(some 50), .binOp .eql 313 (.tmp 49) (.const (.int .i64 2)) 313, none⟩ .leaf))) (
.cond (.tmp 50) (.seq (.region [] (.one ⟨(some 51), .move (.tmp 0), none⟩ (
.one ⟨(some 52), .move (.tmp 1), none⟩ (
.one ⟨(some 53), .move (.tmp 2), none⟩ (
.one ⟨(some 54), .call ⟨.value (.func 270), #[(.tmp 51), (.tmp 52), (.tmp 53)], #[32, 3, 3]⟩, none⟩ .leaf))))) (
.seq (.region [] (.one ⟨(some 55), .move (.tmp 2), none⟩ (
.one ⟨(some 56), .binOp .sub 3 (.tmp 55) (.const (.int .i64 1)) 3, none⟩ (
.one ⟨(some 57), .move (.tmp 11), none⟩ (
.one ⟨(some 58), .move (.tmp 1), none⟩ (
.one ⟨(some 59), .binOp .sub 3 (.tmp 57) (.tmp 58) 3, none⟩ (
.one ⟨(some 60), .binOp .sub 3 (.tmp 56) (.tmp 59) 3, none⟩ (
.one ⟨(some 11), .assign (.tmp 60), none⟩ .leaf)))))))) (
.region [] (.one ⟨(some 12), .assign (.const (.int .i64 1)), none⟩ .leaf)))) (
.skip))) (
.seq (.seq (.region [] (.one ⟨(some 61), .move (.tmp 8), none⟩ (
.one ⟨(some 62), .move (.tmp 61), none⟩ (
.one ⟨(some 63), .move (.tmp 9), some (62, true)⟩ (
.one ⟨(some 64), .pick (.tmp 62) (.tmp 63) (.const (.bool false)), none⟩ (
.one ⟨(some 65), .move (.tmp 64), none⟩ (
.one ⟨(some 66), .move (.tmp 12), some (65, true)⟩ (
.one ⟨(some 67), .binOp .eql 313 (.tmp 66) (.const (.int .i64 1)) 313, some (65, true)⟩ (
.one ⟨(some 68), .pick (.tmp 65) (.tmp 67) (.const (.bool false)), none⟩ .leaf))))))))) (
.cond (.tmp 68) (.seq (.region [] (.one ⟨(some 69), .move (.tmp 0), none⟩ (
.one ⟨(some 70), .move (.tmp 1), none⟩ (
.one ⟨(some 71), .move (.tmp 2), none⟩ (
.one ⟨(some 72), .call ⟨.value (.func 271), #[(.tmp 69), (.tmp 70), (.tmp 71)], #[32, 3, 3]⟩, none⟩ .leaf))))) (
.cond (.tmp 72) (.ret) (
.skip))) (
.skip))) (
.seq (.seq (.region [73, 74, 75, 76, 77, 78, 79, 80, 81, 82, 83, 84, 85, 86, 87] (.one ⟨(some 73), .move (.tmp 1), none⟩ (
.one ⟨(some 74), .binOp .gtr 3 (.tmp 73) (.const (.int .i64 0)) 3, none⟩ (
.one ⟨(some 75), .move (.tmp 74), none⟩ (
.one ⟨(some 76), .move (.tmp 0), some (75, true)⟩ (
.one ⟨(some 77), .move (.tmp 1), some (75, true)⟩ (
.one ⟨(some 78), .binOp .sub 3 (.tmp 77) (.const (.int .i64 1)) 3, some (75, true)⟩ (
.one ⟨(some 79), .indexAddr 32 (.tmp 76) (.tmp 78), some (75, true)⟩ (
.one ⟨(some 80), .load 31 (.tmp 79), some (75, true)⟩ (
.one ⟨(some 81), .move (.tmp 0), some (75, true)⟩ (
.one ⟨(some 82), .move (.tmp 11), some (75, true)⟩ (
.one ⟨(some 83), .indexAddr 32 (.tmp 81) (.tmp 82), some (75, true)⟩ (
.one ⟨(some 84), .load 31 (.tmp 83), some (75, true)⟩ (
.alt (.one ⟨(some 85), .call ⟨.value (.func 272), #[(.tmp 80), (.tmp 84)], #[31, 31]⟩, some (75, true)⟩ (
.one ⟨(some 86), .unOp .not 4 (.tmp 85), some (75, true)⟩ (
.one ⟨(some 87), .pick (.tmp 75) (.tmp 86) (.const (.bool false)), none⟩ .leaf))) (
.nil))))))))))))))) (
.cond (.tmp 87) (.seq (.region [] (.one ⟨(some 88), .move (.tmp 0), none⟩ (
.one ⟨(some 89), .move (.tmp 1), none⟩ (
.one ⟨(some 90), .move (.tmp 2), none⟩ (
.one ⟨(some 91), .move (.tmp 11), none⟩ (
.one ⟨(some 92), .call ⟨.value (.func 273), #[(.tmp 88), (.tmp 89), (.tmp 90), (.tmp 91)], #[32, 3, 3, 3]⟩, none⟩ (
.one ⟨(some 13), .assign (.tmp 92), none⟩ .leaf))))))) (
.seq (.region [] (.one ⟨(some 93), .move (.tmp 13), none⟩ (
.one ⟨(some 1), .assign (.tmp 93), none⟩ .leaf))) (
.exit 1))) (
.skip))) (
.seq (.region [] (.one ⟨(some 95), .move (.tmp 0), none⟩ (
.one ⟨(some 96), .move (.tmp 1), none⟩ (
.one ⟨(some 97), .move (.tmp 2), none⟩ (
.one ⟨(some 98), .move (.tmp 11), none⟩ (
.one ⟨(some 99), .call ⟨.value (.func 274), #[(.tmp 95), (.tmp 96), (.tmp 97), (.tmp 98)], #[32, 3, 3, 3]⟩, none⟩ (
.one ⟨(some 94), .move (.tmp 99), none⟩ (
.one ⟨(some 100), .extract (.tmp 94) 0, none⟩ (
.one ⟨(some 101), .extract (.tmp 94) 1, none⟩ (
.one ⟨(some 14), .assign (.tmp 100), none⟩ (
.one ⟨(some 15), .assign (.tmp 101), none⟩ .leaf))))))))))) (
.seq (.region [] (.one ⟨(some 102), .move (.tmp 15), none⟩ (
.one ⟨(some 9), .assign (.tmp 102), none⟩ .leaf))) (
.seq (.region [] (.one ⟨(some 103), .move (.tmp 14), none⟩ (
.one ⟨(some 104), .move (.tmp 1), none⟩ (
.one ⟨(some 105), .binOp .sub 3 (.tmp 103) (.tmp 104) 3, none⟩ (
.one ⟨(some 106), .move (.tmp 2), none⟩ (
.one ⟨(some 107), .move (.tmp 14), none⟩ (
.one ⟨(some 108), .binOp .sub 3 (.tmp 106) (.tmp 107) 3, none⟩ (
.one ⟨(some 16), .assign (.tmp 105), none⟩ (
.one ⟨(some 17), .assign (.tmp 108), none⟩ .leaf))))))))) (
.seq (.region [] (.one ⟨(some 109), .move (.tmp 10), none⟩ (
.one ⟨(some 110), .binOp .quo 3 (.tmp 109) (.const (.int .i64 8)) 3, none⟩ (
.one ⟨(some 18), .assign (.tmp 110), none⟩ .leaf)))) (
.seq (.region [] (.one ⟨(some 111), .move (.tmp 16), none⟩ (
.one ⟨(some 112), .move (.tmp 17), none⟩ (
.one ⟨(some 113), .binOp .lss 3 (.tmp 111) (.tmp 112) 3, none⟩ .leaf)))) (
.cond (.tmp 113) (.seq (.region [] (.one ⟨(some 114), .move (.tmp 16), none⟩ (
.one ⟨(some 115), .move (.tmp 18), none⟩ (
.one ⟨(some 116), .binOp .geq 3 (.tmp 114) (.tmp 115) 3, none⟩ (
.one ⟨(some 8), .assign (.tmp 116), none⟩ .leaf))))) (
.seq (.region [] (.one ⟨(some 117), .move (.tmp 0), none⟩ (
.one ⟨(some 118), .move (.tmp 1), none⟩ (
.one ⟨(some 119), .move (.tmp 14), none⟩ (
.one ⟨(some 120), .move (.tmp 3), none⟩ (
.one ⟨(some 121), .call ⟨.value (.func 260), #[(.tmp 117), (.tmp 118), (.tmp 119), (.tmp 120)], #[32, 3, 3, 3]⟩, none⟩ .leaf)))))) (
.region [] (.one ⟨(some 122), .move (.tmp 14), none⟩ (
.one ⟨(some 123), .binOp .add 3 (.tmp 122) (.const (.int .i64 1)) 3, none⟩ (
.one ⟨(some 1), .assign (.tmp 123), none⟩ .leaf)))))) (
.seq (.region [] (.one ⟨(some 124), .move (.tmp 17), none⟩ (
.one ⟨(some 125), .move (.tmp 18), none⟩ (
.one ⟨(some 126), .binOp .geq 3 (.tmp 124) (.tmp 125) 3, none⟩ (
.one ⟨(some 8), .assign (.tmp 126), none⟩ .leaf))))) (
.seq (.region [] (.one ⟨(some 127), .move (.tmp 0), none⟩ (
.one ⟨(some 128), .move (.tmp 14), none⟩ (
.one ⟨(some 129), .binOp .add 3 (.tmp 128) (.const (.int .i64 1)) 3, none⟩ (
.one ⟨(some 130), .move (.tmp 2), none⟩ (
.one ⟨(some 131), .move (.tmp 3), none⟩ (
.one ⟨(some 132), .call ⟨.value (.func 260), #[(.tmp 127), (.tmp 129), (.tmp 130), (.tmp 131)], #[32, 3, 3, 3]⟩, none⟩ .leaf))))))) (
.region [] (.one ⟨(some 133), .move (.tmp 14), none⟩ (
.one ⟨(some 2), .assign (.tmp 133), none⟩ .leaf)))))))))))))))))))))))
theorem ok260 : Tryz.f260.body.bind (comp Tryz.prog 134) = some sc260 := by kernel_rfl
theorem rc260 : Tryz.f260.results.toList = ([] : List (Nat × Option TypeId)).map toRV := by kernel_rfl
def fi260 : Fi := ⟨sc260, 134, [], false, none, true⟩
theorem fo260 : FnOk Tryz.prog 260 fi260 := ⟨Tryz.f260, Tryz.func260, Tryz.ntmps260, ok260, rc260, fun _ _ _ h => (by cases h), Tryz.call260⟩
/-- slices.insertionSortOrdered[uint32] -/
def sc266 : SC := .seq (.region [] (.one ⟨(some 8), .move (.tmp 1), none⟩ (
.one ⟨(some 9), .binOp .add 3 (.tmp 8) (.const (.int .i64 1)) 3, none⟩ (
.one ⟨(some 6), .assign (.tmp 9), none⟩ .leaf)))) (
.block 0 (.loop (.seq (.seq (.region [] (.one ⟨(some 10), .move (.tmp 6), none⟩ (
.one ⟨(some 11), .move (.tmp 2), none⟩ (
.one ⟨(some 12), .binOp .lss 3 (.tmp 10) (.tmp 11) 3, none⟩ .leaf)))) (
.cond (.tmp 12) (.skip) (
.exit 0))) (
.seq (.block 1 (.seq (.region [] (.one ⟨(some 15), .move (.tmp 6), none⟩ (
.one ⟨(some 7), .assign (.tmp 15), none⟩ .leaf))) (
.block 2 (.loop (.seq (.seq (.region [16, 17, 18, 19, 20, 21, 22, 23, 24, 25, 26, 27, 28, 29, 30] (.one ⟨(some 16), .move (.tmp 7), none⟩ (
.one ⟨(some 17), .move (.tmp 1), none⟩ (
.one ⟨(some 18), .binOp .gtr 3 (.tmp 16) (.tmp 17) 3, none⟩ (
.one ⟨(some 19), .move (.tmp 18), none⟩ (
.one ⟨(some 20), .move (.tmp 0), some (19, true)⟩ (
.one ⟨(some 21), .move (.tmp 7), some (19, true)⟩ (
.one ⟨(some 22), .indexAddr 32 (.tmp 20) (.tmp 21), some (19, true)⟩ (
.one ⟨(some 23), .load 31 (.tmp 22), some (19, true)⟩ (
.one ⟨(some 24), .move (.tmp 0), some (19, true)⟩ (
.one ⟨(some 25), .move (.tmp 7), some (19, true)⟩ (
.one ⟨(some 26), .binOp .sub 3 (.tmp 25) (.const (.int .i64 1)) 3, some (19, true)⟩ (
.one ⟨(some 27), .indexAddr 32 (.tmp 24) (.tmp 26), some (19, true)⟩ (
.one ⟨(some 28), .load 31 (.tmp 27), some (19, true)⟩ (
.alt (.one ⟨(some 29), .call ⟨.value (.func 272), #[(.tmp 23), (.tmp 28)], #[31, 31]⟩, some (19, true)⟩ (
.one ⟨(some 30), .pick (.tmp 19) (.tmp 29) (.const (.bool false)), none⟩ .leaf)) (
.nil)))))))))))))))) (
.cond (.tmp 30) (.skip) (
.exit 2))) (
.seq (.block 3 (.region [33, 34, 35, 36, 37, 38, 39, 40, 41, 42, 43, 44, 45, 46, 47, 48] (.one ⟨(some 33), .move (.tmp 0), none⟩ (
.one ⟨(some 34), .move (.tmp 7), none⟩ (
.one ⟨(some 35), .move (.tmp 0), none⟩ (
.one ⟨(some 36), .move (.tmp 7), none⟩ (
.one ⟨(some 37), .binOp .sub 3 (.tmp 36) (.const (.int .i64 1)) 3, none⟩ (
.one ⟨(some 38), .move (.tmp 0), none⟩ (
.one ⟨(some 39), .move (.tmp 7), none⟩ (
.one ⟨(some 40), .binOp .sub 3 (.tmp 39) (.const (.int .i64 1)) 3, none⟩ (
.one ⟨(some 41), .indexAddr 32 (.tmp 38) (.tmp 40), none⟩ (
.one ⟨(some 42), .load 31 (.tmp 41), none⟩ (
.one ⟨(some 43), .move (.tmp 0), none⟩ (
.one ⟨(some 44), .move (.tmp 7), none⟩ (
.one ⟨(some 45), .indexAddr 32 (.tmp 43) (.tmp 44), none⟩ (
.one ⟨(some 46), .load 31 (.tmp 45), none⟩ (
.one ⟨(some 47), .indexAddr 32 (.tmp 33) (.tmp 34), none⟩ (
.alt (.one ⟨none, .store 31 (.tmp 47) (.tmp 42), none⟩ (
.one ⟨(some 48), .indexAddr 32 (.tmp 35) (.tmp 37), none⟩ (
.alt (.one ⟨none, .store 31 (.tmp 48) (.tmp 46), none⟩ .leaf) (
.nil)))) (
.nil))))))))))))))))))) (
.region [] (.one ⟨(some 31), .move (.tmp 7), none⟩ (
.one ⟨(some 32), .binOp .sub 3 (.tmp 31) (.const (.int .i64 1)) 3, none⟩ (
.one ⟨(some 7), .assign (.tmp 32), none⟩ .leaf)))))))))) (
.region [] (.one ⟨(some 13), .move (.tmp 6), none⟩ (
.one ⟨(some 14), .binOp .add 3 (.tmp 13) (.const (.int .i64 1)) 3, none⟩ (
.one ⟨(some 6), .assign (.tmp 14), none⟩ .leaf))))))))
theorem ok266 : Tryz.f266.body.bind (comp Tryz.prog 49) = some sc266 := by kernel_rfl
theorem rc266 : Tryz.f266.results.toList = ([] : List (Nat × Option TypeId)).map toRV := by kernel_rfl
def fi266 : Fi := ⟨sc266, 49, [], false, none, true⟩
theorem fo266 : FnOk Tryz.prog 266 fi266 := ⟨Tryz.f266, Tryz.func266, Tryz.ntmps266, ok266, rc266, fun _ _ _ h => (by cases h), Tryz.call266⟩
end Go.AM
