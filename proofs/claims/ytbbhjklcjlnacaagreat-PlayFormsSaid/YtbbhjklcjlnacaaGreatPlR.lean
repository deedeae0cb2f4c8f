/-
  What runs may lean on. No condition beyond what each theorem states.
-/
import Derived.Test.YtbbhjklcjlnacaaGreatPlT
import Derived.Test.YtbbhjklcjlnacaaGreatPl20
import Derived.Test.YtbbhjklcjlnacaaGreatPl39
import Derived.Test.YtbbhjklcjlnacaaGreatPl63
import Derived.Test.YtbbhjklcjlnacaaGreatPl231
/-! What runs may lean on. -/
namespace Go.AM
open Go.Proofs
def cst20 (xs : List AV) (H : Hp) : Option (AV × Hp × Nat) := match xs with
  | [.ptr id 0 0, .int .i64 (.ofNat 1)] => match alookN H id with
    | some (.row 1 [.agg [.sl i2 off (len + 1)]]) => match alookN H i2 with
      | some (.row 1 es) => match es[off]? with
        | some (.int .u8 (.ofNat b)) => match Nat.blt b 256, Nat.beq i2 id with
          | true, false => some (.int .i64 (.ofNat b), aset H id (.row 1 [.agg [.sl i2 (off + 1) len]]), 9)
          | _, _ => none
        | _ => none
      | _ => none
    | _ => none
  | _ => none
def cst63 (xs : List AV) (H : Hp) : Option (AV × Hp × Nat) := match xs with
  | [.imm []] => some (.imm [], H, 2)
  | [.sl id off 0] => match alookN H id with
    | some (.row 1 es) => match Nat.ble off es.length with
      | true => some (.imm [], H, 2)
      | false => none
    | _ => none
  | _ => none
def cst231 (xs : List AV) (H : Hp) : Option (AV × Hp × Nat) := match xs with
  | [.fn (.func 233) [] [.ptr id 0 0]] => match alookN H id with
    | some (.row 1 [.mp j]) => match alookN H j with
      | some (.map [] []) => some (.nilsl, H, 0)
      | _ => none
    | _ => none
  | _ => none
def cst39 (xs : List AV) (H : Hp) : Option (AV × Hp × Nat) := match xs with
  | [] => some (.rop [] 0, H, 1)
  | _ => none
def cst7 (xs : List AV) (H : Hp) : Option (AV × Hp × Nat) := match xs with
  | [] => some (.bool true, H, 0)
  | _ => none
def cst (f : Nat) (xs : List AV) (H : Hp) : Option (AV × Hp × Nat) := match Nat.beq f 20 with
  | true => cst20 xs H
  | false => match Nat.beq f 63 with
    | true => cst63 xs H
    | false => match Nat.beq f 39 with
      | true => cst39 xs H
      | false => match Nat.beq f 231 with
        | true => cst231 xs H
        | false => none
/-- .. once it is known that play has begun -/
def cstB (f : Nat) (xs : List AV) (H : Hp) : Option (AV × Hp × Nat) := match Nat.beq f 7 with
  | true => cst7 xs H
  | false => cst f xs H

theorem cst20_ok {xs : List AV} {H : Hp} {r : AV} {H' : Hp} {dn : Nat} (h : cst20 xs H = some (r, H', dn)) : CalP Tryz.prog 20 xs H r H' dn := by
  unfold cst20 at h
  split at h
  · rename_i id
    split at h
    · rename_i i2 off len e1
      split at h
      · rename_i es e2
        split at h
        · rename_i b e3
          split at h
          · rename_i hb hi
            cases h
            rw [alookN_eq] at e1 e2
            refine cal20 H id i2 off len es (.ofNat b) (Int.natCast_nonneg b) ?_ e1 e2 e3 ?_
            · have : b < 256 := by simpa [Nat.blt_eq] using hb
              show ((b : Nat) : Int) < 256
              omega
            · intro e; subst e; simp at hi
          · cases h
        · cases h
      · cases h
    · cases h
  · cases h
theorem cst63_ok {xs : List AV} {H : Hp} {r : AV} {H' : Hp} {dn : Nat} (h : cst63 xs H = some (r, H', dn)) : CalP Tryz.prog 63 xs H r H' dn := by
  unfold cst63 at h
  split at h
  · cases h; exact cal63a H
  · split at h
    · rename_i es e1
      split at h
      · rename_i hle
        cases h
        rw [alookN_eq] at e1
        exact cal63b H _ _ es e1 (Nat.le_of_ble_eq_true hle)
      · cases h
    · cases h
  · cases h
theorem cst231_ok {xs : List AV} {H : Hp} {r : AV} {H' : Hp} {dn : Nat} (h : cst231 xs H = some (r, H', dn)) : CalP Tryz.prog 231 xs H r H' dn := by
  unfold cst231 at h
  split at h
  · split at h
    · rename_i j e1
      split at h
      · rename_i e2
        cases h
        rw [alookN_eq] at e1 e2
        exact cal231 H _ j e1 e2
      · cases h
    · cases h
  · cases h
theorem cst39_ok {xs : List AV} {H : Hp} {r : AV} {H' : Hp} {dn : Nat} (h : cst39 xs H = some (r, H', dn)) : CalP Tryz.prog 39 xs H r H' dn := by
  unfold cst39 at h
  split at h
  · cases h; exact cal39 H
  · cases h
theorem cst_ok : CstOk Tryz.prog cst := by
  intro f xs H r H' dn h
  unfold cst at h
  split at h
  · rename_i e
    have := Nat.eq_of_beq_eq_true e
    subst this
    exact ⟨cst20_ok h, Tryz.call20⟩
  · split at h
    · rename_i e
      have := Nat.eq_of_beq_eq_true e
      subst this
      exact ⟨cst63_ok h, Tryz.call63⟩
    · split at h
      · rename_i e
        have := Nat.eq_of_beq_eq_true e
        subst this
        exact ⟨cst39_ok h, Tryz.call39⟩
      · split at h
        · rename_i e
          have := Nat.eq_of_beq_eq_true e
          subst this
          exact ⟨cst231_ok h, Tryz.call231⟩
        · cases h
theorem run7 : isTrue (rf Tryz.prog tab cst 600 7 [] [] 0) = true := by kernel_rfl
theorem cstB_ok : CstOk Tryz.prog cstB := by
  intro f xs H r H' dn h
  unfold cstB at h
  split at h
  · rename_i e
    have := Nat.eq_of_beq_eq_true e
    subst this
    unfold cst7 at h
    split at h
    · cases h; exact ⟨cal_of_run tab_ok cst_ok run7 H, Tryz.call7⟩
    · cases h
  · exact cst_ok f xs H r H' dn h
end Go.AM
