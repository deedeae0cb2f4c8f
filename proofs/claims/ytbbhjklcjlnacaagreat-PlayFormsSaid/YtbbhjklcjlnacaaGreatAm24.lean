/-
  What comes of a run with arguments that lead to no object. No condition beyond what each theorem states.
-/
import Derived.Test.YtbbhjklcjlnacaaGreatAm23
/-! What comes of a run with arguments that lead to no object. -/
namespace Go.AM
variable {P : Program} {tab : Nat → Option Fi} {cst : Nat → List AV → Hp → Option (AV × Hp × Nat)}

def isBool (b : Bool) : RV (AV × Hp × Nat) → Bool
  | .ok (.bool c, _, _) => c == b
  | _ => false
theorem cal_of_closed (ht : TabOk P tab) (hc : CstOk P cst) {m f : Nat} {xs : List AV} {b : Bool} (hs : shL xs) (h : isBool b (rf P tab cst m f xs [] 0) = true) (H : Hp) : CalP P f xs H (.bool b) H 0 := by
  intro hm X hf w vals ⟨h0, st, d1, d2, iw, iwi, iwf, dif⟩ p
  have s := rf_sound ht hc m f xs [] 0
  generalize rf P tab cst m f xs [] 0 = r at *
  cases r with
  | pan v S D => cases h
  | bad a b => cases h
  | ok r =>
    obtain ⟨v, H1, n⟩ := r
    have hv : v = .bool b := by
      cases v with
      | bool c =>
        have h : (c == b) = true := h
        rw [eq_of_beq h]
      | _ => cases h
    subst hv
    obtain ⟨fi, fn, _, h1, h2, h3, h4, h5, run⟩ := s
    obtain ⟨c, hbc, hcc⟩ : ∃ c, fn.body = some c ∧ comp P fi.nt c = some fi.sc := by
      cases hc : fn.body with
      | none => rw [hc] at h3; cases h3
      | some c => rw [hc] at h3; exact ⟨c, rfl, h3⟩
    let Y : Cx := ⟨X.im, X.σ, 0⟩
    have pY : pureL Y xs vals.toList := sh_pureL (X := X) (Y := Y) (PH.sub_refl _) _ _ hs p
    have mY : Mem Y (hf.join h0) [] w := ⟨PH.none, rfl, PH.none_disj _, PH.none_disj _, (fun b o e => by cases e), iwi, PH.inW_join ⟨iwf, iw⟩, PH.disj_join_r.2 ⟨dif, d1.symm⟩⟩
    have hlen := pureL_len _ _ p
    have hxs : vals.size = xs.length := by simpa using hlen
    have s : Sat fi.nt none ⟨numA 0 xs, [], 0⟩ Y (hf.join h0) { tmps := vals ++ Array.replicate (fn.ntmps - vals.size) undef, defers := [] } w := by
      refine ⟨rfl, mY, ?_, by simp; omega, rfl⟩
      intro s v e
      obtain ⟨_, x, e1, e2⟩ := pureL_get _ _ 0 s v pY e
      refine ⟨x, ?_, e2⟩
      have hlt := (List.getElem?_eq_some_iff.1 e1).1
      rw [Array.getElem?_append_left (by simpa using hlt)]
      rw [← Array.getElem?_toList]; simpa using e1
    refine Calls.mono (calls_of_runq h1 hbc (RunQ.mono finQ.body (run (fun r _ _ => r = .ret (.bool b)) rfl hm (Nat.le_refl _) Y (hf.join h0) _ w s [.code c] ⟨hcc, trivial⟩))) ?_
    intro e w' q
    cases e with
    | returned x =>
      obtain ⟨xt, u, H1, X', im, hnx, hσ, ⟨k0, _, e1, e2, e3, e4, e5, e6⟩, p', hk⟩ := q
      cases hk
      simp only [pureR] at p'
      subst p'
      have a := PH.disj_join_r.1 e6
      have le : X.le ⟨X'.im, X.σ, X.n⟩ := ⟨im, Nat.le_refl _, fun _ _ => rfl⟩
      exact ⟨_, ⟨X'.im, X.σ, X.n⟩, rfl, xt, le, rfl, ⟨h0, starH_mono le _ _ st, a.2.symm, d2, PH.inW_right d2.symm e5, e4, PH.inW_left e5, a.1⟩, rfl⟩
    | panicked ch => obtain ⟨_, _, _, _, _, _, _, _, _, _, _, hk⟩ := q; cases hk
    | outgrown => exact q.elim
end Go.AM
