/-
  What is proved here: the statement PlayFormsSaid, that the law PlayForms returns true and leaves what was there as it was. No condition beyond what each theorem states.
-/
import Derived.Test.YtbbhjklcjlnacaaGreatPlF
/-! PlayForms: the statement. -/
namespace Go.Proofs.YtbbhjklcjlnacaaGreat.playForms
open Go.ChangeShapes Go.WideShapes Go.ChangeAt Go.RowKit Go.AM

theorem own : ownKnob Tryz.prog.godebug = none := by kernel_rfl

set_option maxRecDepth 100000 in
theorem contract (H : Type) (enc : TypeId × Value → H) (W : World) (_base : Nat) (args : Array Value) (ds gs : List (DataW H)) (before : List MemPlace)
    (hW : DataW.Whole enc Tryz.prog Tryz.f5.params.toList Rows.playFormsSpec.vars false W args.toList ds gs before) :
    Calls Tryz.prog 5 args W fun e W' => ∃ v, e = .returned v ∧ Rows.playFormsSpec.post enc Tryz.prog Tryz.f5 false true false false W args v W' := by
  have hW' := hW
  obtain ⟨p, q, hA0, hV, rfl, hfz, hnd⟩ := hW
  have hA : DataW.TrodAll enc Tryz.prog W 0 (fun _ => true) true Tryz.f5.params.toList args.toList ds p := hA0
  rw [Tryz.params5] at hA
  obtain ⟨hargs, rfl, rfl⟩ := trodAll_nil hA
  obtain rfl : args = #[] := by cases args; simp_all
  obtain ⟨rfl, rfl⟩ := trodVars_none hV
  clear hA0
  simp only [List.append_nil] at hW'
  refine (forms_walk W).mono fun e W' ⟨he, hx, hold⟩ => ?_
  subst he
  have hb : Below W.heap.size W W' := ⟨hx.os, hx.tape, hx.output, hx.size, fun k hk => by
    rw [Array.getElem?_eq_getElem hk]; exact hold k _ (Array.getElem?_eq_getElem hk)⟩
  refine ⟨_, rfl, ?_⟩
  have hres : ∀ (b : Nat) (sp : Nat → Bool) (hd : Bool), DataW.TrodAll enc Tryz.prog W' b sp hd Tryz.f5.resultTypes.toList ((Value.bool true).resultList Tryz.f5.resultTypes.size) (Rows.playFormsSpec.fn H ([] ++ [])).results [] :=
    fun _ _ _ => trodAll_cons_mk (shut_bool Tryz.underlying4 _) trodAll_mk0
  have hargs' : ∀ sp : Nat → Bool, DataW.TrodAll enc Tryz.prog W' 0 sp true Tryz.f5.params.toList (#[] : Array Value).toList (Rows.playFormsSpec.fn H ([] ++ [])).args [] := fun sp => trodAll_mk0
  have hvars' : ∀ sp : Nat → Bool, DataW.TrodVars enc Tryz.prog W' sp Rows.playFormsSpec.vars (Rows.playFormsSpec.fn H ([] ++ [])).vars [] := fun _ => rfl
  refine ⟨[], [], [], [], [], [], hW', hres _ _ _, hargs' _, hvars' _, World.keptBut_mono (fun p hp => absurd hp (by simp)) (hb.frame (fun _ => False)), fun _ => ?_⟩
  refine ⟨ok_one (by kernel_rfl) rfl (okWide_bool_mk Tryz.underlying4 _), _, _, ([] ++ []) ++ [], ⟨[] ++ [], [], trodAll_append (hargs' _) (hres _ _ _), hvars' _, rfl, ?_, ?_⟩, ?_⟩
  · intro b off hp; simp at hp
  · intro ha; simp
  · intro p hp; simp at hp
set_option maxRecDepth 100000 in
theorem lifted (os : Os) (started : os.Started) (H : Type) (enc : TypeId × Value → H) :
    ReturnsInHanded {} Tryz.checked os 5 .any (Rows.playFormsSpec.pre6 enc Tryz.prog Tryz.f5 Rows.playFormsRow.domain false) (Rows.playFormsSpec.post enc Tryz.prog Tryz.f5 false true false false) := by
  refine returnsInHanded_of_change (C := Tryz.checked) own started (by kernel_rfl) Tryz.func5
    (ChangeSpec.witness6 (enc := enc) (C := Tryz.checked) false ⟨#[], #[], []⟩ 8 (by kernel_rfl) (by kernel_rfl) (by kernel_rfl) (by kernel_rfl)) ?_
  intro W base args ds gs before hval hW _ _
  exact contract H enc W base args ds gs before hW

theorem over : Rows.playFormsRow.holds Tryz.pinned (OpenSpec.ofChange Rows.playFormsSpec) :=
  OpenClaim.holds_of_wide 5 Tryz.f5 rfl rfl rfl rfl rfl rfl rfl ⟨rfl, rfl, rfl, rfl, rfl⟩ rfl rfl rfl rfl rfl (by kernel_rfl) Tryz.func5 (by kernel_rfl)
    (of_decide_eq_true (by kernel_rfl)) (by unfold Func.isWrapper; first | (rw [if_pos (by decide +kernel)]; kernel_rfl) | (rw [if_neg (by decide +kernel)]; exact ⟨rfl, rfl⟩))
    (fun os started H enc _ => lifted os started H enc)

theorem proved : Rows.PlayFormsSaid :=
  over
#print axioms proved
end Go.Proofs.YtbbhjklcjlnacaaGreat.playForms
