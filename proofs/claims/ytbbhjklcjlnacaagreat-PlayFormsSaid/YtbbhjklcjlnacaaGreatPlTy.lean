/-
  Facts about types. No condition beyond what each theorem states.
-/
import Derived.Test.YtbbhjklcjlnacaaGreatRows
import Derived.Test.YtbbhjklcjlnacaaGreatAm17
/-! Facts about types. -/
namespace Go.AM
open Go.Proofs
@[go_sem] theorem tsh3 : tsh Tryz.prog 3 = .int .i64 := by kernel_rfl
@[go_sem] theorem tsz3 : tsz Tryz.prog 3 = 1 := by kernel_rfl
@[go_sem] theorem tby3 : tby Tryz.prog 3 = 8 := by kernel_rfl
@[go_sem] theorem tagg3 : tagg Tryz.prog 3 = some false := by kernel_rfl
@[go_sem] theorem tzero3 : tzero Tryz.prog 3 = .int .i64 0 := by kernel_rfl
@[go_sem] theorem tsh5 : tsh Tryz.prog 5 = .int .u8 := by kernel_rfl
@[go_sem] theorem tsz5 : tsz Tryz.prog 5 = 1 := by kernel_rfl
@[go_sem] theorem tby5 : tby Tryz.prog 5 = 1 := by kernel_rfl
@[go_sem] theorem tagg5 : tagg Tryz.prog 5 = some false := by kernel_rfl
@[go_sem] theorem tzero5 : tzero Tryz.prog 5 = .int .u8 0 := by kernel_rfl
@[go_sem] theorem tsh22 : tsh Tryz.prog 22 = .sl 5 := by kernel_rfl
@[go_sem] theorem tsz22 : tsz Tryz.prog 22 = 1 := by kernel_rfl
@[go_sem] theorem tby22 : tby Tryz.prog 22 = 24 := by kernel_rfl
@[go_sem] theorem tagg22 : tagg Tryz.prog 22 = some false := by kernel_rfl
@[go_sem] theorem tzero22 : tzero Tryz.prog 22 = .nilsl := by kernel_rfl
@[go_sem] theorem tsh45 : tsh Tryz.prog 45 = .ptr := by kernel_rfl
@[go_sem] theorem tsz45 : tsz Tryz.prog 45 = 1 := by kernel_rfl
@[go_sem] theorem tby45 : tby Tryz.prog 45 = 8 := by kernel_rfl
@[go_sem] theorem tagg45 : tagg Tryz.prog 45 = some false := by kernel_rfl
@[go_sem] theorem tzero45 : tzero Tryz.prog 45 = .nilp := by kernel_rfl
@[go_sem] theorem tsh47 : tsh Tryz.prog 47 = .strct := by kernel_rfl
@[go_sem] theorem tsz47 : tsz Tryz.prog 47 = 1 := by kernel_rfl
@[go_sem] theorem tby47 : tby Tryz.prog 47 = 24 := by kernel_rfl
@[go_sem] theorem tagg47 : tagg Tryz.prog 47 = some true := by kernel_rfl
@[go_sem] theorem tflds47 : tflds Tryz.prog 47 = true := by kernel_rfl
@[go_sem] theorem tfo47_0 : tfo Tryz.prog 47 0 = some (0, 1) := by kernel_rfl
@[go_sem] theorem tfa47_0 : tfa Tryz.prog 47 0 = some false := by kernel_rfl
@[go_sem] theorem tzero47 : tzero Tryz.prog 47 = .agg [.nilsl] := by kernel_rfl
@[go_sem] theorem tsh80 : tsh Tryz.prog 80 = .int .u64 := by kernel_rfl
@[go_sem] theorem tsz80 : tsz Tryz.prog 80 = 1 := by kernel_rfl
@[go_sem] theorem tby80 : tby Tryz.prog 80 = 8 := by kernel_rfl
@[go_sem] theorem tagg80 : tagg Tryz.prog 80 = some false := by kernel_rfl
@[go_sem] theorem tzero80 : tzero Tryz.prog 80 = .int .u64 0 := by kernel_rfl
@[go_sem] theorem tsh129 : tsh Tryz.prog 129 = .strct := by kernel_rfl
@[go_sem] theorem tsz129 : tsz Tryz.prog 129 = 0 := by kernel_rfl
@[go_sem] theorem tby129 : tby Tryz.prog 129 = 0 := by kernel_rfl
@[go_sem] theorem tagg129 : tagg Tryz.prog 129 = some true := by kernel_rfl
@[go_sem] theorem tflds129 : tflds Tryz.prog 129 = true := by kernel_rfl
@[go_sem] theorem tzero129 : tzero Tryz.prog 129 = .agg [] := by kernel_rfl
@[go_sem] theorem tsh132 : tsh Tryz.prog 132 = .arr 510 5 := by kernel_rfl
@[go_sem] theorem tsz132 : tsz Tryz.prog 132 = 510 := by kernel_rfl
@[go_sem] theorem tby132 : tby Tryz.prog 132 = 510 := by kernel_rfl
@[go_sem] theorem tagg132 : tagg Tryz.prog 132 = some true := by kernel_rfl
@[go_sem] theorem tsh133 : tsh Tryz.prog 133 = .arr 256 3 := by kernel_rfl
@[go_sem] theorem tsz133 : tsz Tryz.prog 133 = 256 := by kernel_rfl
@[go_sem] theorem tby133 : tby Tryz.prog 133 = 2048 := by kernel_rfl
@[go_sem] theorem tagg133 : tagg Tryz.prog 133 = some true := by kernel_rfl
@[go_sem] theorem tsh135 : tsh Tryz.prog 135 = .strct := by kernel_rfl
@[go_sem] theorem tsz135 : tsz Tryz.prog 135 = 766 := by kernel_rfl
@[go_sem] theorem tby135 : tby Tryz.prog 135 = 2560 := by kernel_rfl
@[go_sem] theorem tagg135 : tagg Tryz.prog 135 = some true := by kernel_rfl
@[go_sem] theorem tflds135 : tflds Tryz.prog 135 = true := by kernel_rfl
@[go_sem] theorem tfo135_0 : tfo Tryz.prog 135 0 = some (0, 510) := by kernel_rfl
@[go_sem] theorem tfa135_0 : tfa Tryz.prog 135 0 = some true := by kernel_rfl
@[go_sem] theorem tfo135_1 : tfo Tryz.prog 135 1 = some (510, 256) := by kernel_rfl
@[go_sem] theorem tfa135_1 : tfa Tryz.prog 135 1 = some true := by kernel_rfl
end Go.AM
