/-
  PlayForms: the run, and the statement. No condition beyond what each theorem states.
-/
import Derived.Test.YtbbhjklcjlnacaaGreatPlS
import Derived.ProofKit
import Derived.OpenShut
import Derived.JoinedCond
/-! PlayForms: the run, and the statement. -/
namespace Go.AM
open Go.Proofs
theorem run5 : isTrue (rf Tryz.prog tab cstS 5000 5 [] [] 0) = true := by kernel_rfl
theorem forms_walk (w : World) : Calls Tryz.prog 5 #[] w fun e w' => e = .returned (.bool true) ∧ Ext w w' ∧ ∀ (b : Nat) (o : Obj), w.heap[b]? = some o → w'.heap[b]? = some o :=
  run_true tab_ok cstS_ok run5 (by kernel_rfl) w
end Go.AM
