/-
  A call, walked on into the callee. No condition beyond what each theorem states.
-/
import Derived.Test.YtbbhjklcjlnacaaGreatAm18
/-! A call, walked on into the callee. -/
namespace Go.AM

theorem pureL_append {X : Cx} : ∀ (as bs : List AV) (xs ys : List Value), pureL X as xs → pureL X bs ys → pureL X (as ++ bs) (xs ++ ys)
  | [], bs, xs, ys, p, q => by simp only [pureL] at p; subst p; exact q
  | a :: as, bs, xs, ys, p, q => by
    simp only [pureL] at p
    obtain ⟨z, zs, rfl, p1, p2⟩ := p
    simp only [List.cons_append, pureL]
    exact ⟨z, zs ++ ys, rfl, p1, pureL_append as bs zs ys p2 q⟩

theorem arun_inline {G : Go} {dst : Option Nat} {x : Operand} {cargs : Array Operand} {ats : Array TypeId} {t : ST} {ks : List SI} {env : List (Nat × AV)} {H : Hp} {n : Nat} {f : FuncId} {first caps : List AV} {fn : Func} {sc : SC} {nt : Nat}
    (hx : aeval env x = .fn (.func f) first caps) (hf : G.P.funcs[f]? = some fn) (hn : fn.ntmps = nt) (hb : fn.body.bind (comp G.P nt) = some sc) (hcall : ∀ xs w, (callFunc f xs).run G.P w = .ok (.enter f xs) w)
    (hl : (first ++ cargs.toList.map (aeval env) ++ caps).length ≤ nt)
    {dm : Bool} (h : ARun ⟨G.P, ⟨fn, dm, none⟩, nt, n, fun r H' n' => match r with | .ret v => ARun G (.ops t ks ⟨eput env dst v, H', n'⟩) | .pan v => APan G v ⟨env, H', n'⟩⟩ (.code [.code sc] ⟨numA 0 (first ++ cargs.toList.map (aeval env) ++ caps), H, n⟩)) :
    ARun G (.ops (.one ⟨dst, .call ⟨.value x, cargs, ats⟩, none⟩ t) ks ⟨env, H, n⟩) := by
  intro hm hk X hf0 a w s ops ti k hs hck
  obtain ⟨i, ti', oo, rfl, hoi, e1, e2, hdN, hwant, hst⟩ := hs
  have s0 : Sat G.n G.fn.D ⟨env, H, n⟩ X hf0 a w := s
  obtain ⟨hXn, m, henv, hsz, hdf⟩ := s
  have hXn : X.n = n := hXn
  have hk : G.k ≤ n := hk
  have hkX : G.k ≤ X.n := by rw [hXn]; exact hk
  obtain ⟨c, hbc, hcc⟩ : ∃ c, fn.body = some c ∧ comp G.P nt c = some sc := by
    cases hc : fn.body with
    | none => rw [hc] at hb; cases hb
    | some c => rw [hc] at hb; exact ⟨c, rfl, hb⟩
  have px := aeval_pure s0 x
  dsimp only at px
  rw [hx] at px
  simp only [pureR] at px
  obtain ⟨ys, zs, hfv, p1, p2⟩ := px
  have pa : pureL X (cargs.toList.map (aeval env)) (cargs.toList.map a.eval) := pureL_of s0 cargs.toList
  have pall : pureL X (first ++ cargs.toList.map (aeval env) ++ caps) (ys ++ cargs.map a.eval ++ zs).toList := by
    have := pureL_append _ _ _ _ (pureL_append _ _ _ _ p1 pa) p2
    simpa using this
  have hcl : cls G.P oo.op = .E := by rw [e2]; rfl
  show wpOpH G.P ops _ i _ a w
  unfold wpOpH
  simp only [hoi, hwant, if_true]
  refine ⟨by unfold Hit; simp only [hcl], ?_⟩
  have hrun : (execOp a.eval oo).run G.P w = .ok (.enter f (ys ++ cargs.map a.eval ++ zs)) w := by
    unfold execOp; rw [e2]
    simp only [resolve, hfv, Deferred.ofValue]
    simp [invoke, hcall]
  unfold Oper.wp
  rw [hrun]
  simp only [Oper.upon]
  have hlen := pureL_len _ _ pall
  have hxs : (ys ++ cargs.map a.eval ++ zs).size ≤ fn.ntmps := by
    have : (ys ++ cargs.map a.eval ++ zs).size = (first ++ cargs.toList.map (aeval env) ++ caps).length := by rw [← hlen]; simp
    omega
  have sc0 : Sat nt none ⟨numA 0 (first ++ cargs.toList.map (aeval env) ++ caps), H, n⟩ X hf0 { tmps := (ys ++ cargs.map a.eval ++ zs) ++ Array.replicate (fn.ntmps - (ys ++ cargs.map a.eval ++ zs).size) undef, defers := [] } w := by
    refine ⟨hXn, m, ?_, by simp only [Array.size_append, Array.size_replicate] at hxs ⊢; omega, rfl⟩
    intro s v e
    obtain ⟨_, x, e1, e2⟩ := pureL_get _ _ 0 s v pall e
    refine ⟨x, ?_, e2⟩
    have hlt := (List.getElem?_eq_some_iff.1 e1).1
    rw [Array.getElem?_append_left (by simpa using hlt)]
    rw [← Array.getElem?_toList]; simpa using e1
  refine Calls.mono (calls_of_runq hf hbc (RunQ.mono finQ.body (h hm (Nat.le_refl _) X hf0 _ w sc0 [.code c] ⟨hcc, trivial⟩))) ?_
  intro e w' q
  cases e with
  | returned v =>
    obtain ⟨xt, v', H', X', im, hnx, hσ, m', p', run⟩ := q
    have le : X.le X' := ⟨im, by rw [hXn]; exact hnx, fun id hid => hσ id (by rw [← hXn]; exact hid)⟩
    have res := run hm (Nat.le_trans hkX le.n) X' hf0 (a.put dst v) w' (Sat.next s0 hdN le rfl m' p') ops ti' k (mt_of_strip hst) hck
    rw [e1]
    exact wpCT_mono (cont_weaken le hkX xt) ti' _ w' res
  | panicked ch =>
    obtain ⟨xt, v, rfl, v', H', X', im, hnx, hσ, m', p', run⟩ := q
    have le : X.le X' := ⟨im, by rw [hXn]; exact hnx, fun id hid => hσ id (by rw [← hXn]; exact hid)⟩
    exact finQ.weaken le hkX xt _ a w' (run hm (Nat.le_trans hkX le.n) X' hf0 a w' ⟨rfl, m', envR_mono le henv, hsz, hdf.mono le⟩ v p')
  | outgrown => exact q.elim

/-- Slots may be forgotten, or listed in another order. -/
theorem arun_env {G : Go} {ks : List SI} {env env' : List (Nat × AV)} {H : Hp} {n : Nat} (he : ∀ s v, alook env' s = some v → alook env s = some v) (h : ARun G (.code ks ⟨env', H, n⟩)) : ARun G (.code ks ⟨env, H, n⟩) := by
  intro hm hk X hf a w s k hck
  exact h hm hk X hf a w ⟨s.n, s.mem, fun s' v e => s.env s' v (he s' v e), s.size, s.defers⟩ k hck
theorem arun_env' {G : Go} {t : ST} {ks : List SI} {env env' : List (Nat × AV)} {H : Hp} {n : Nat} (he : ∀ s v, alook env' s = some v → alook env s = some v) (h : ARun G (.ops t ks ⟨env', H, n⟩)) : ARun G (.ops t ks ⟨env, H, n⟩) := by
  intro hm hk X hf a w s ops ti k hs hck
  exact h hm hk X hf a w ⟨s.n, s.mem, fun s' v e => s.env s' v (he s' v e), s.size, s.defers⟩ ops ti k hs hck

theorem alook_aset_ {α : Type} : ∀ (l : List (Nat × α)) (d : Nat) (v u : α) (s : Nat), alook l d = some u → alook (aset l d v) s = if s = d then some v else alook l s
  | [], d, v, u, s, h => by simp [alook] at h
  | (k, x) :: l, d, v, u, s, h => by
    simp only [alook] at h
    simp only [aset]
    split at h
    · rename_i e; subst e
      simp only [if_true, alook]; split <;> rfl
    · rename_i e
      rw [if_neg e]
      simp only [alook]
      rw [alook_aset_ l d v u s h]
      by_cases hs : s = k
      · subst hs; simp [Ne.symm e]
      · simp [hs]
end Go.AM
