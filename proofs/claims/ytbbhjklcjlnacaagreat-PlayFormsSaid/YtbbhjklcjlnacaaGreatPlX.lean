/-
  More code. No condition beyond what each theorem states.
-/
import Derived.Test.YtbbhjklcjlnacaaGreatRows
import Derived.Test.YtbbhjklcjlnacaaGreatAm22
/-! More code. -/
namespace Go.AM
open Go.Proofs
/-- girandole/field.New -/
def sc39 : SC := .seq (.region [] (.one ⟨(some 0), .assign (.const (.pointer none)), none⟩ .leaf)) (
.seq (.region [] (.one ⟨(some 4), .build 135 #[], none⟩ (
.one ⟨(some 5), .box 135 (.tmp 4), none⟩ (
.one ⟨(some 1), .assign (.tmp 5), none⟩ .leaf)))) (
.seq (.region [] (.one ⟨(some 2), .assign (.const (.int .i64 1)), none⟩ .leaf)) (
.seq (.seq (.region [] (.one ⟨(some 6), .move (.const (.int .i64 0)), none⟩ .leaf)) (
.block 0 (.loop (.seq (.region [] (.one ⟨(some 7), .binOp .lss 3 (.tmp 6) (.const (.int .i64 255)) 3, none⟩ .leaf)) (
.seq (.cond (.tmp 7) (.skip) (
.exit 0)) (
.seq (.block 1 (.seq (.region [] (.one ⟨(some 8), .move (.tmp 6), none⟩ (
.one ⟨(some 3), .assign (.tmp 8), none⟩ .leaf))) (
.seq (.region [9, 10, 11, 12, 13, 14, 15, 16, 17, 18, 19, 20, 21, 22, 23] (.one ⟨(some 9), .move (.tmp 1), none⟩ (
.one ⟨(some 10), .move (.tmp 3), none⟩ (
.one ⟨(some 11), .move (.tmp 1), none⟩ (
.one ⟨(some 12), .move (.tmp 3), none⟩ (
.one ⟨(some 13), .binOp .add 3 (.tmp 12) (.const (.int .i64 255)) 3, none⟩ (
.one ⟨(some 14), .move (.tmp 2), none⟩ (
.one ⟨(some 15), .convert 3 5 (.tmp 14), none⟩ (
.one ⟨(some 16), .move (.tmp 2), none⟩ (
.one ⟨(some 17), .convert 3 5 (.tmp 16), none⟩ (
.one ⟨(some 18), .nilCheck (.tmp 9), none⟩ (
.one ⟨(some 19), .fieldAddr 135 (.tmp 18) 0, none⟩ (
.one ⟨(some 20), .indexAddr 132 (.tmp 19) (.tmp 10), none⟩ (
.one ⟨(some 21), .nilCheck (.tmp 11), none⟩ (
.one ⟨(some 22), .fieldAddr 135 (.tmp 21) 0, none⟩ (
.alt (.one ⟨none, .store 5 (.tmp 20) (.tmp 15), none⟩ (
.one ⟨(some 23), .indexAddr 132 (.tmp 22) (.tmp 13), none⟩ (
.alt (.one ⟨none, .store 5 (.tmp 23) (.tmp 17), none⟩ .leaf) (
.nil)))) (
.nil))))))))))))))))) (
.seq (.region [] (.one ⟨(some 24), .move (.tmp 1), none⟩ (
.one ⟨(some 25), .move (.tmp 2), none⟩ (
.one ⟨(some 26), .move (.tmp 3), none⟩ (
.one ⟨(some 27), .nilCheck (.tmp 24), none⟩ (
.one ⟨(some 28), .fieldAddr 135 (.tmp 27) 1, none⟩ (
.one ⟨(some 29), .indexAddr 133 (.tmp 28) (.tmp 25), none⟩ (
.one ⟨none, .store 3 (.tmp 29) (.tmp 26), none⟩ .leaf)))))))) (
.seq (.region [] (.one ⟨(some 30), .move (.tmp 2), none⟩ (
.one ⟨(some 31), .binOp .shl 3 (.tmp 30) (.const (.int .u64 1)) 80, none⟩ (
.one ⟨(some 2), .assign (.tmp 31), none⟩ .leaf)))) (
.seq (.region [] (.one ⟨(some 32), .move (.tmp 2), none⟩ (
.one ⟨(some 33), .binOp .shr 3 (.tmp 32) (.const (.int .u64 8)) 80, none⟩ (
.one ⟨(some 34), .binOp .gtr 3 (.tmp 33) (.const (.int .i64 0)) 3, none⟩ .leaf)))) (
.cond (.tmp 34) (.region [] (.one ⟨(some 35), .move (.tmp 2), none⟩ (
.one ⟨(some 36), .binOp .xor 3 (.tmp 35) (.const (.int .i64 285)) 3, none⟩ (
.one ⟨(some 2), .assign (.tmp 36), none⟩ .leaf)))) (
.skip)))))))) (
.region [] (.one ⟨(some 37), .binOp .add 3 (.tmp 6) (.const (.int .i64 1)) 3, none⟩ (
.one ⟨(some 6), .move (.tmp 37), none⟩ .leaf))))))))) (
.seq (.region [] (.one ⟨(some 38), .move (.tmp 1), none⟩ (
.one ⟨(some 0), .assign (.tmp 38), none⟩ .leaf))) (
.ret)))))
theorem ok39 : Tryz.f39.body.bind (comp Tryz.prog 39) = some sc39 := by kernel_rfl
theorem rc39 : Tryz.f39.results.toList = ([(0, none)] : List (Nat × Option TypeId)).map toRV := by kernel_rfl
theorem res39 : Tryz.f39.results.toList = [0].map ResultVar.tmp := by kernel_rfl
end Go.AM
