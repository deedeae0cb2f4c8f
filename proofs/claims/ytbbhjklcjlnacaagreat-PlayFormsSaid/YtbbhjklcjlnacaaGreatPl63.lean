/-
  Clone of an empty slice. No condition beyond what each theorem states.
-/
import Derived.Test.YtbbhjklcjlnacaaGreatPlTy
import Derived.Test.YtbbhjklcjlnacaaGreatPlC0
import Derived.Test.YtbbhjklcjlnacaaGreatAm23
/-! Clone of an empty slice. -/
namespace Go.AM
open Go.Proofs
theorem nil_imm {X : Cx} {x : Value} (p : pureR X .nilsl x) : pureR X (.imm []) x := by
  simp only [pureR] at p ⊢; subst p; exact ⟨none, 0, Nat.le_refl _, rfl, Or.inl trivial⟩
theorem sl0_imm {X : Cx} {id off : Nat} {x : Value} (p : pureR X (.sl id off 0) x) : pureR X (.imm []) x := by
  simp only [pureR] at p ⊢
  obtain ⟨_, a, _, _, rfl, _⟩ := p
  exact ⟨a, _, Nat.zero_le _, rfl, Or.inl trivial⟩
theorem cal63a (H : Hp) : CalP Tryz.prog 63 [.imm []] H (.imm []) H 2 := by
  refine cal_of_arun (dm := false) Tryz.func63 Tryz.ntmps63 ok63 (Nat.le_of_ble_eq_true rfl) fun n hn => ex_go _ 200 _ ?_
  unfold sc63
  simp -implicitDefEqProofs only [go_sem, ↓reduceIte, Nat.reduceEqDiff, reduceCtorEq]
  intro b
  cases b
  · simp -implicitDefEqProofs only [go_sem, ↓reduceIte, Nat.reduceEqDiff, reduceCtorEq]
    refine ⟨by simp, by simp, by simp, ?_⟩
    refine afinC _ rc63 ?_
    simp -implicitDefEqProofs only [go_sem, ↓reduceIte, Nat.reduceEqDiff, reduceCtorEq]
    refine ⟨by omega, fun X hf w x m hx p => ⟨X, Cx.le_refl X, rfl, Mem.drop (A := [_]) m, sl0_imm p⟩⟩
  · simp -implicitDefEqProofs only [go_sem, ↓reduceIte, Nat.reduceEqDiff, reduceCtorEq]
    refine afinC _ rc63 ?_
    simp -implicitDefEqProofs only [go_sem, ↓reduceIte, Nat.reduceEqDiff, reduceCtorEq]
    exact ⟨by omega, fun X hf w x m hx p => ⟨X, Cx.le_refl X, rfl, m, nil_imm p⟩⟩
theorem cal63b (H : Hp) (id off : Nat) (es : List AV) (hl : alook H id = some (.row 1 es)) (ho : off ≤ es.length) : CalP Tryz.prog 63 [.sl id off 0] H (.imm []) H 2 := by
  refine cal_of_arun (dm := false) Tryz.func63 Tryz.ntmps63 ok63 (Nat.le_of_ble_eq_true rfl) fun n hn => ex_go _ 200 _ ?_
  have hne : ¬ id = n := fun e => absurd (hn id _ hl) (by omega)
  unfold sc63
  simp -implicitDefEqProofs only [go_sem, ↓reduceIte, Nat.reduceEqDiff, reduceCtorEq]
  intro b
  cases b
  · simp -implicitDefEqProofs only [go_sem, ↓reduceIte, Nat.reduceEqDiff, reduceCtorEq, hne, hl]
    simp -implicitDefEqProofs only [go_sem, ↓reduceIte, Nat.reduceEqDiff, reduceCtorEq, hne, hl, ho, Nat.add_zero, List.take_zero, List.all_nil, and_self]
    refine ⟨by simp, by simp, by simp, ?_⟩
    refine afinC _ rc63 ?_
    simp -implicitDefEqProofs only [go_sem, ↓reduceIte, Nat.reduceEqDiff, reduceCtorEq]
    exact ⟨by omega, fun X hf w x m hx p => ⟨X, Cx.le_refl X, rfl, Mem.drop (A := [_]) m, sl0_imm p⟩⟩
  · simp -implicitDefEqProofs only [go_sem, ↓reduceIte, Nat.reduceEqDiff, reduceCtorEq]
    refine afinC _ rc63 ?_
    simp -implicitDefEqProofs only [go_sem, ↓reduceIte, Nat.reduceEqDiff, reduceCtorEq]
    exact ⟨by omega, fun X hf w x m hx p => ⟨X, Cx.le_refl X, rfl, m, nil_imm p⟩⟩
end Go.AM
