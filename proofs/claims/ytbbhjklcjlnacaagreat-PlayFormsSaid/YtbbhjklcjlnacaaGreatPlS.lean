/-
  Steps that are not the same. No condition beyond what each theorem states.
-/
import Derived.Test.YtbbhjklcjlnacaaGreatPlR
import Derived.Test.YtbbhjklcjlnacaaGreatAm24
/-! Steps that are not the same. -/
namespace Go.AM
open Go.Proofs
def sp0 : List AV := [.agg [.int .i64 2, .int .u32 0, .int .i64 0, .nilsl, .int .i64 0, .int .i64 0, .int .i64 0, .nilsl, .int .i64 0, .int .i64 0, .bool false, .int .u8 0], .agg [.int .i64 2, .int .u32 0, .int .i64 0, .nilsl, .int .i64 0, .int .i64 0, .int .i64 0, .nilsl, .int .i64 1, .int .i64 0, .bool false, .int .u8 0]]
theorem sh0 : shL sp0 := by simp only [sp0, shL, shV, and_self]
theorem sr0 : isBool false (rf Tryz.prog tab cst 600 15 sp0 [] 0) = true := by kernel_rfl
def sp1 : List AV := [.agg [.int .i64 3, .int .u32 0, .int .i64 0, .nilsl, .int .i64 0, .int .i64 0, .int .i64 0, .nilsl, .int .i64 0, .int .i64 0, .bool false, .int .u8 0], .agg [.int .i64 3, .int .u32 0, .int .i64 0, .nilsl, .int .i64 0, .int .i64 0, .int .i64 0, .nilsl, .int .i64 0, .int .i64 1, .bool false, .int .u8 0]]
theorem sh1 : shL sp1 := by simp only [sp1, shL, shV, and_self]
theorem sr1 : isBool false (rf Tryz.prog tab cst 600 15 sp1 [] 0) = true := by kernel_rfl
def sp2 : List AV := [.agg [.int .i64 3, .int .u32 0, .int .i64 0, .nilsl, .int .i64 0, .int .i64 0, .int .i64 0, .nilsl, .int .i64 65535, .int .i64 0, .bool false, .int .u8 0], .agg [.int .i64 3, .int .u32 0, .int .i64 0, .nilsl, .int .i64 0, .int .i64 0, .int .i64 0, .nilsl, .int .i64 (-1), .int .i64 0, .bool false, .int .u8 0]]
theorem sh2 : shL sp2 := by simp only [sp2, shL, shV, and_self]
theorem sr2 : isBool false (rf Tryz.prog tab cst 600 15 sp2 [] 0) = true := by kernel_rfl
def sp3 : List AV := [.agg [.int .i64 3, .int .u32 0, .int .i64 0, .nilsl, .int .i64 0, .int .i64 0, .int .i64 0, .nilsl, .int .i64 0, .int .i64 0, .bool false, .int .u8 0], .agg [.int .i64 3, .int .u32 0, .int .i64 0, .nilsl, .int .i64 0, .int .i64 0, .int .i64 0, .nilsl, .int .i64 65536, .int .i64 0, .bool false, .int .u8 0]]
theorem sh3 : shL sp3 := by simp only [sp3, shL, shV, and_self]
theorem sr3 : isBool false (rf Tryz.prog tab cst 600 15 sp3 [] 0) = true := by kernel_rfl
def sp4 : List AV := [.agg [.int .i64 8, .int .u32 0, .int .i64 0, .nilsl, .int .i64 0, .int .i64 0, .int .i64 0, .imm [], .int .i64 0, .int .i64 0, .bool false, .int .u8 0], .agg [.int .i64 8, .int .u32 0, .int .i64 0, .nilsl, .int .i64 0, .int .i64 0, .int .i64 0, .nilsl, .int .i64 1, .int .i64 0, .bool false, .int .u8 0]]
theorem sh4 : shL sp4 := by simp only [sp4, shL, shV, and_self]
theorem sr4 : isBool false (rf Tryz.prog tab cst 600 15 sp4 [] 0) = true := by kernel_rfl
def sp5 : List AV := [.agg [.int .i64 1, .int .u32 0, .int .i64 0, .nilsl, .int .i64 0, .int .i64 4294967295, .int .i64 0, .imm [], .int .i64 0, .int .i64 0, .bool false, .int .u8 0], .agg [.int .i64 1, .int .u32 0, .int .i64 0, .nilsl, .int .i64 0, .int .i64 (-1), .int .i64 0, .nilsl, .int .i64 0, .int .i64 0, .bool false, .int .u8 0]]
theorem sh5 : shL sp5 := by simp only [sp5, shL, shV, and_self]
theorem sr5 : isBool false (rf Tryz.prog tab cst 600 15 sp5 [] 0) = true := by kernel_rfl
def cst15 (xs : List AV) (H : Hp) : Option (AV × Hp × Nat) := (match eqL xs sp0 with
  | true => some (.bool false, H, 0)
  | false => (match eqL xs sp1 with
  | true => some (.bool false, H, 0)
  | false => (match eqL xs sp2 with
  | true => some (.bool false, H, 0)
  | false => (match eqL xs sp3 with
  | true => some (.bool false, H, 0)
  | false => (match eqL xs sp4 with
  | true => some (.bool false, H, 0)
  | false => (match eqL xs sp5 with
  | true => some (.bool false, H, 0)
  | false => none))))))
theorem cst15_ok {xs : List AV} {H : Hp} {r : AV} {H' : Hp} {dn : Nat} (h : cst15 xs H = some (r, H', dn)) : CalP Tryz.prog 15 xs H r H' dn := by
  unfold cst15 at h
  split at h
  · rename_i e; have e := eqL_eq _ _ e; subst e; cases h; exact cal_of_closed tab_ok cst_ok sh0 sr0 H
  split at h
  · rename_i e; have e := eqL_eq _ _ e; subst e; cases h; exact cal_of_closed tab_ok cst_ok sh1 sr1 H
  split at h
  · rename_i e; have e := eqL_eq _ _ e; subst e; cases h; exact cal_of_closed tab_ok cst_ok sh2 sr2 H
  split at h
  · rename_i e; have e := eqL_eq _ _ e; subst e; cases h; exact cal_of_closed tab_ok cst_ok sh3 sr3 H
  split at h
  · rename_i e; have e := eqL_eq _ _ e; subst e; cases h; exact cal_of_closed tab_ok cst_ok sh4 sr4 H
  split at h
  · rename_i e; have e := eqL_eq _ _ e; subst e; cases h; exact cal_of_closed tab_ok cst_ok sh5 sr5 H
  cases h
/-- .. and of some steps whether they are the same -/
def cstS (f : Nat) (xs : List AV) (H : Hp) : Option (AV × Hp × Nat) := match Nat.beq f 15 with
  | true => cst15 xs H
  | false => cstB f xs H
theorem cstS_ok : CstOk Tryz.prog cstS := by
  intro f xs H r H' dn h
  unfold cstS at h
  split at h
  · rename_i e
    have := Nat.eq_of_beq_eq_true e
    subst this
    exact ⟨cst15_ok h, Tryz.call15⟩
  · exact cstB_ok f xs H r H' dn h
end Go.AM
