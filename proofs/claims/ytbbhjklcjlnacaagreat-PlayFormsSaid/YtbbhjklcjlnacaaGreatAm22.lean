/-
  Tables of functions. No condition beyond what each theorem states.
-/
import Derived.Test.YtbbhjklcjlnacaaGreatAm21
/-! Tables of functions. -/
namespace Go.AM
variable {P : Program}

def FnOk (P : Program) (f : Nat) (fi : Fi) : Prop := ∃ fn, P.funcs[f]? = some fn ∧ fn.ntmps = fi.nt ∧ fn.body.bind (comp P fi.nt) = some fi.sc ∧ fn.results.toList = fi.rs.map toRV ∧
  (∀ r0 r1 scr, fi.cl = some (r0, r1, scr) → fn.body.bind (compD P fi.nt) = some (r0, r1, scr)) ∧ ∀ xs w, (callFunc f xs).run P w = .ok (.enter f xs) w
def OkAt (P : Program) (f : Nat) (o : Option Fi) : Prop := ∀ fi, o = some fi → FnOk P f fi
def tSel (f n : Nat) (a b : Option Fi) : Option Fi := match Nat.blt f n with
  | true => a
  | false => b
def tIs (f n : Nat) (x : Fi) : Option Fi := match Nat.beq f n with
  | true => some x
  | false => none
theorem ok_sel {f n : Nat} {a b : Option Fi} (ha : OkAt P f a) (hb : OkAt P f b) : OkAt P f (tSel f n a b) := by
  unfold tSel; split
  · exact ha
  · exact hb
theorem ok_is {f n : Nat} {x : Fi} (h : FnOk P n x) : OkAt P f (tIs f n x) := by
  unfold tIs; split
  · rename_i e
    have := Nat.eq_of_beq_eq_true e
    subst this
    intro fi hfi; cases hfi; exact h
  · intro fi hfi; cases hfi

def isTrue : RV (AV × Hp × Nat) → Bool
  | .ok (.bool true, _, _) => true
  | _ => false
end Go.AM
